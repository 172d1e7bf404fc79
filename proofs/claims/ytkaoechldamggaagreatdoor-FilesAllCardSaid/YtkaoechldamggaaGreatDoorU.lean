/- The store in the program: as. -/
import Derived.Test.YtkaoechldamggaaGreatDoorT
namespace Go.Proofs.YtkaoechldamggaaGreatDoor
open Go Go.RowKit
set_option maxRecDepth 100000

/-- The store at g as one who can do a thing sees it: of type T, with a closure of function fn over the cells at B. -/
def asV (b : Bool) (g B T fn : Nat) : Value := match b with | false => .iface 87 (.pointer (some ⟨g, 0, none⟩)) | true => .iface T (.agg #[.pointer (some ⟨g, 0, none⟩), .func (.func fn) #[] #[.pointer (some ⟨B, 0, none⟩), .pointer (some ⟨B + 1, 0, none⟩)]])

theorem pas0 (g : Nat) (A : Option Addr) (n c : Nat) (caps : Nat) (blind : Bool) (qs : List Ask) (hcaps : caps < 4294967296) (w : World) (hg : StAt w g A n c (caps : Int) blind qs) :
    Calls Tryz.prog 40 #[.pointer (some ⟨g, 0, none⟩), .int .i64 0] w fun e w' => e = .returned (asV (hasCap caps 0) g w.heap.size 147 63) ∧ Below w.heap.size w w' ∧ Blk w' w.heap.size 87 #[.pointer (some ⟨g, 0, none⟩)] ∧ Blk w' (w.heap.size + 1) 3 #[.int .i64 0] := by
  obtain ⟨b, hb⟩ : ∃ b, hasCap caps 0 = b := ⟨_, rfl⟩
  have hg2 : StAt ((w.alloc (.cells #[.pointer (some ⟨g, 0, none⟩)] 87)).alloc (.cells #[.int .i64 0] 3)) g A n c (caps : Int) blind qs := hg.below (by go_grown)
  rw [hb]
  cases b
  all_goals
    go_enter Tryz.func40, Tryz.ntmps40
    go_wp2_with (go_at_call 57; refine (pcan g A n c caps blind qs 0 0 rfl (by decide) hcaps _ hg2).mono ?_; rw [hb]; rintro e w1 ⟨rfl, rfl⟩)
    go_returns
    exact ⟨rfl, by go_grown, (Blk.newAt _ _ rfl rfl).alloc _, Blk.newAt _ _ rfl (by simp)⟩

theorem pas1 (g : Nat) (A : Option Addr) (n c : Nat) (caps : Nat) (blind : Bool) (qs : List Ask) (hcaps : caps < 4294967296) (w : World) (hg : StAt w g A n c (caps : Int) blind qs) :
    Calls Tryz.prog 40 #[.pointer (some ⟨g, 0, none⟩), .int .i64 1] w fun e w' => e = .returned (asV (hasCap caps 1) g w.heap.size 152 65) ∧ Below w.heap.size w w' ∧ Blk w' w.heap.size 87 #[.pointer (some ⟨g, 0, none⟩)] ∧ Blk w' (w.heap.size + 1) 3 #[.int .i64 1] := by
  obtain ⟨b, hb⟩ : ∃ b, hasCap caps 1 = b := ⟨_, rfl⟩
  have hg2 : StAt ((w.alloc (.cells #[.pointer (some ⟨g, 0, none⟩)] 87)).alloc (.cells #[.int .i64 1] 3)) g A n c (caps : Int) blind qs := hg.below (by go_grown)
  rw [hb]
  cases b
  all_goals
    go_enter Tryz.func40, Tryz.ntmps40
    go_wp2_with (go_at_call 57; refine (pcan g A n c caps blind qs 1 1 rfl (by decide) hcaps _ hg2).mono ?_; rw [hb]; rintro e w1 ⟨rfl, rfl⟩)
    go_returns
    exact ⟨rfl, by go_grown, (Blk.newAt _ _ rfl rfl).alloc _, Blk.newAt _ _ rfl (by simp)⟩

theorem pas2 (g : Nat) (A : Option Addr) (n c : Nat) (caps : Nat) (blind : Bool) (qs : List Ask) (hcaps : caps < 4294967296) (w : World) (hg : StAt w g A n c (caps : Int) blind qs) :
    Calls Tryz.prog 40 #[.pointer (some ⟨g, 0, none⟩), .int .i64 2] w fun e w' => e = .returned (asV (hasCap caps 2) g w.heap.size 158 66) ∧ Below w.heap.size w w' ∧ Blk w' w.heap.size 87 #[.pointer (some ⟨g, 0, none⟩)] ∧ Blk w' (w.heap.size + 1) 3 #[.int .i64 2] := by
  obtain ⟨b, hb⟩ : ∃ b, hasCap caps 2 = b := ⟨_, rfl⟩
  have hg2 : StAt ((w.alloc (.cells #[.pointer (some ⟨g, 0, none⟩)] 87)).alloc (.cells #[.int .i64 2] 3)) g A n c (caps : Int) blind qs := hg.below (by go_grown)
  rw [hb]
  cases b
  all_goals
    go_enter Tryz.func40, Tryz.ntmps40
    go_wp2_with (go_at_call 57; refine (pcan g A n c caps blind qs 2 2 rfl (by decide) hcaps _ hg2).mono ?_; rw [hb]; rintro e w1 ⟨rfl, rfl⟩)
    go_returns
    exact ⟨rfl, by go_grown, (Blk.newAt _ _ rfl rfl).alloc _, Blk.newAt _ _ rfl (by simp)⟩

theorem pas3 (g : Nat) (A : Option Addr) (n c : Nat) (caps : Nat) (blind : Bool) (qs : List Ask) (hcaps : caps < 4294967296) (w : World) (hg : StAt w g A n c (caps : Int) blind qs) :
    Calls Tryz.prog 40 #[.pointer (some ⟨g, 0, none⟩), .int .i64 3] w fun e w' => e = .returned (asV (hasCap caps 3) g w.heap.size 162 68) ∧ Below w.heap.size w w' ∧ Blk w' w.heap.size 87 #[.pointer (some ⟨g, 0, none⟩)] ∧ Blk w' (w.heap.size + 1) 3 #[.int .i64 3] := by
  obtain ⟨b, hb⟩ : ∃ b, hasCap caps 3 = b := ⟨_, rfl⟩
  have hg2 : StAt ((w.alloc (.cells #[.pointer (some ⟨g, 0, none⟩)] 87)).alloc (.cells #[.int .i64 3] 3)) g A n c (caps : Int) blind qs := hg.below (by go_grown)
  rw [hb]
  cases b
  all_goals
    go_enter Tryz.func40, Tryz.ntmps40
    go_wp2_with (go_at_call 57; refine (pcan g A n c caps blind qs 3 3 rfl (by decide) hcaps _ hg2).mono ?_; rw [hb]; rintro e w1 ⟨rfl, rfl⟩)
    go_returns
    exact ⟨rfl, by go_grown, (Blk.newAt _ _ rfl rfl).alloc _, Blk.newAt _ _ rfl (by simp)⟩

end Go.Proofs.YtkaoechldamggaaGreatDoor
