/- The law FilesValid: the walk. -/
import Derived.Test.YtkaoechldamggaaGreatDoorAX
import Derived.Test.YtkaoechldamggaaGreatDoorAQ
namespace Go.Proofs.YtkaoechldamggaaGreatDoor
open Go Go.RowKit
set_option maxRecDepth 100000

theorem fit_dec (es : List Ent) (caps : Nat) : ∃ f : Bool, ∀ b : Bool, (b = true ↔ FitP es caps) → b = f := by
  rcases Classical.em (FitP es caps) with h | h
  · exact ⟨true, fun b hb => hb.2 h⟩
  · refine ⟨false, fun b hb => ?_⟩
    cases b with
    | false => rfl
    | true => exact absurd (hb.1 rfl) h

set_option maxHeartbeats 4000000 in
theorem lValid (p : Bs) (A : Option Addr) (c : Nat) (es : List Ent) (caps : Nat) (blind : Bool) (w : World) (hr : Rd w w.heap.size A (entCells es)) (he : Env w) (hcaps : caps < 4294967296) (hp : p.length ≤ 140737488351232) (hes : ∀ e ∈ es, e.path.length ≤ 140737488351232 ∧ e.data.length ≤ 140737488351232) :
    Calls Tryz.prog 6 #[.string ⟨p.toArray⟩, .agg #[.slice A es.length c, .int .u32 (caps : Int), .bool blind]] w fun e w' => e = .returned (.bool true) ∧ Below w.heap.size w w' := by
  obtain ⟨f, hfd⟩ := fit_dec es caps
  have c1 := fun W (hW : Env W) => pvalid p W hp hW
  have c2 := fun W (hW : Env W) => rvalid p W hp hW
  generalize valid p = v at c1 c2
  have c3 : ∀ W (hr : Rd W W.heap.size A (entCells es)) (hW : Env W), Calls Tryz.prog 30 #[.agg #[.slice A es.length c, .int .u32 (caps : Int), .bool blind]] W fun e w' => e = .returned (.bool f) ∧ Below W.heap.size W w' := fun W hr hW =>
    (pfit A c es caps blind W hr hW hcaps hes).mono fun e w' ⟨b, h1, h2, h3⟩ => ⟨by rw [h1, hfd b h2], h3⟩
  have c4 : ∀ W (hr : Rd W W.heap.size A (entCells es)) (hW : Env W), Calls Tryz.prog 14 #[.agg #[.slice A es.length c, .int .u32 (caps : Int), .bool blind]] W fun e w' => e = .returned (.bool f) ∧ Below W.heap.size W w' := fun W hr hW =>
    (rfit A c es caps blind W hr hW hcaps hes).mono fun e w' ⟨b, h1, h2, h3⟩ => ⟨by rw [h1, hfd b h2], h3⟩
  have ca := fun W (hW : Env W) => paw W hW
  clear hfd
  obtain ⟨w0, hw0⟩ : ∃ w0, w.alloc (.cells #[.slice A es.length c, .int .u32 (caps : Int), .bool blind] 32) = w0 := ⟨_, rfl⟩
  have hb0 : Below w.heap.size w w0 := by rw [← hw0]; go_grown
  have hx0 : Blk w0 w.heap.size 32 #[.slice A es.length c, .int .u32 (caps : Int), .bool blind] := by rw [← hw0]; exact Blk.newAt _ _ rfl rfl
  go_enter Tryz.func6, Tryz.ntmps6
  go_upto_region 1 with fail
  clear hw0
  have hd0 : Below w.heap.size w w0.drew := hb0.trans (by go_grown)
  have hd1 := hd0.size
  have he0 := he.below hd0
  have hx1 := hx0.drew1
  have hxl := hx1.lt
  have hc0 := hx1.cell
  clear hx0 hb0
  have hvv : (v == v) = true := by cases v <;> rfl
  have hff : (f == f) = true := by cases f <;> rfl
  go_region_with (first
    | (go_at_call 28; refine (c1 _ he0).mono ?_; rintro e w1 ⟨rfl, hb1⟩; have hd2 := hd0.trans (hb1.mono hd1); have he1 := he.below hd2; have hx2 := hx1.below hb1 hxl; have hc1 := hx2.cell; have hs1 := hd2.size)
    | (go_at_call 29; refine (c2 _ he1).mono ?_; rintro e w2 ⟨rfl, hb2⟩; have hd3 := hd2.trans (hb2.mono hs1); have he2 := he.below hd3; have hx3 := hx2.below hb2 hx2.lt; have hc2 := hx3.cell; have hs2 := hd3.size; have hr2 := (hr.below hd3 (Nat.le_refl _)).more hs2)
    | (go_at_call 30; refine (c3 _ hr2 he2).mono ?_; rintro e w3 ⟨rfl, hb3⟩; have hd4 := hd3.trans (hb3.mono hs2); have he3 := he.below hd4; have hx4 := hx3.below hb3 hx3.lt; have hc3 := hx4.cell; have hs3 := hd4.size; have hr3 := (hr.below hd4 (Nat.le_refl _)).more hs3)
    | (go_at_call 14; refine (c4 _ hr3 he3).mono ?_; rintro e w4 ⟨rfl, hb4⟩; have hd5 := hd4.trans (hb4.mono hs3); have he4 := he.below hd5; have hs4 := hd5.size)
    | (go_at_call 11; refine (ca _ he4).mono ?_; rintro e w5 ⟨rfl, hb5⟩; have hd6 := hd5.trans (hb5.mono hs4)))
  all_goals
    go_wp2_with fail
    go_returns
    exact ⟨rfl, hd6⟩
end Go.Proofs.YtkaoechldamggaaGreatDoor
