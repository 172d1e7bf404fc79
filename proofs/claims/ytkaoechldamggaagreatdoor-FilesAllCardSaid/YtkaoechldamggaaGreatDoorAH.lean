/- files.cut. -/
import Derived.Test.YtkaoechldamggaaGreatDoorL
namespace Go.Proofs.YtkaoechldamggaaGreatDoor
open Go Go.RowKit
set_option maxRecDepth 100000

theorem pcut (p : Bs) (w : World) (hp : p.length ≤ 1099511627776) :
    Calls Tryz.prog 70 #[.string ⟨p.toArray⟩] w fun e w' => e = .returned (.tuple #[.string ⟨(split2 p).1.toArray⟩, .string ⟨(split2 p).2.toArray⟩]) ∧ Below w.heap.size w w' := by
  have c1 : ∀ W, Calls Tryz.prog 92 #[.string ⟨p.toArray⟩, .int .u8 47] W fun e w' => e = .returned (.int .i64 (match lastSl p with | none => -1 | some i => (i : Int))) ∧ W = w' := fun W => by
    have h := Tryz.strings_LastIndexByte ⟨p.toArray⟩ 47 (by simp [ByteArray.size]; omega) W
    rw [lastIdx47] at h
    exact h.mono fun _ _ ⟨a, b⟩ => ⟨a, b.symm⟩
  cases hl : lastSl p with
  | none =>
    rw [hl] at c1
    rw [split2_none p hl]
    have C1 := Lib.hid c1
    clear c1 hl
    go_enter Tryz.func70, Tryz.ntmps70
    go_wp2_with (go_at_call 92; refine (C1.out _).mono ?_; rintro e w1 ⟨rfl, rfl⟩)
    go_returns
    exact ⟨ret_two rfl rfl, by go_grown⟩
  | some i =>
    rw [hl] at c1
    have hi : i < p.length := ((lastSl_some p i).1 hl).1
    by_cases h0 : i = 0
    · subst h0
      rw [split2_zero p hl]
      have C1 := Lib.hid c1
      clear c1 hl
      go_enter Tryz.func70, Tryz.ntmps70
      go_wp2_with (go_at_call 92; refine (C1.out _).mono ?_; rintro e w1 ⟨rfl, rfl⟩)
      go_region
      go_wp2_with fail
      go_returns
      exact ⟨ret_two rfl (mk_of (cut_all _ _)), by go_grown⟩
    · rw [split2_at p i hl h0]
      have C1 := Lib.hid c1
      have hn1 : ((i : Int) == -1) = false := by simp
      have hn0 : ((i : Int) == 0) = false := by simp; omega
      clear c1 hl
      go_enter Tryz.func70, Tryz.ntmps70
      go_wp2_with (go_at_call 92; refine (C1.out _).mono ?_; rintro e w1 ⟨rfl, rfl⟩)
      go_region
      go_wp2_with fail
      go_returns
      exact ⟨ret_two (mk_of (cut_to _ _)) (mk_of (cut_all _ _)), by go_grown⟩
end Go.Proofs.YtkaoechldamggaaGreatDoor
