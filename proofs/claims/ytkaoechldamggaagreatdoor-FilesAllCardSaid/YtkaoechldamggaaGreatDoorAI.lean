/- files.ReadDir. -/
import Derived.Test.YtkaoechldamggaaGreatDoorAA
import Derived.Test.YtkaoechldamggaaGreatDoorAG
namespace Go.Proofs.YtkaoechldamggaaGreatDoor
open Go Go.RowKit
set_option maxRecDepth 100000

theorem pReadDir (A : Option Addr) (c : Nat) (es : List Ent) (caps : Nat) (blind : Bool) (p : Bs) (w : World) (hr : Rd w w.heap.size A (entCells es)) (hf : Fine es) (he : Env w) (hcaps : caps < 4294967296) (hps : p.length ≤ 140737488351232) :
    Calls Tryz.prog 24 #[.agg #[.slice A es.length c, .int .u32 (caps : Int), .bool blind], .string ⟨p.toArray⟩] w fun e w' => ∃ u v,
      e = .returned (.tuple #[u, v, .int .i64 (rdDirErr es p caps blind : Int)]) ∧ Infs w' w.heap.size u (rdDirLst es p caps blind) ∧ Asks w' w.heap.size v (asksOf caps 2 p) ∧ Below w.heap.size w w' := by
  have hg0 := StF.fresh (c := c) (caps := caps) (blind := blind) hr (.cells #[.slice A es.length c, .int .u32 (caps : Int), .bool blind] 32)
  have he0 : Env ((w.alloc (.cells #[.slice A es.length c, .int .u32 (caps : Int), .bool blind] 32)).alloc (.cells #[.slice A es.length c, .int .u32 (caps : Int), .bool blind, .slice none 0 0] 89)) := he.below (by go_grown)
  have hk0 : Kp (w.heap.size + 1) w ((w.alloc (.cells #[.slice A es.length c, .int .u32 (caps : Int), .bool blind] 32)).alloc (.cells #[.slice A es.length c, .int .u32 (caps : Int), .bool blind, .slice none 0 0] 89)) := Kp.of_below (by go_grown)
  have h5 := he.size
  have cr := preadDir (w.heap.size + 1) A c es caps blind [] p _ hg0 hf he0 (by omega) hcaps hps (by simp)
  rw [List.nil_append] at cr
  have hsz0 : w.heap.size ≤ ((w.alloc (.cells #[.slice A es.length c, .int .u32 (caps : Int), .bool blind] 32)).alloc (.cells #[.slice A es.length c, .int .u32 (caps : Int), .bool blind, .slice none 0 0] 89)).heap.size := hk0.size
  generalize rdDirLst es p caps blind = L at *
  generalize rdDirErr es p caps blind = n at *
  generalize asksOf caps 2 p = qs at *
  have c0 := perrno n
  go_enter Tryz.func24, Tryz.ntmps24
  go_wp2_with (go_at_call 49; refine cr.mono ?_; rintro e w1 ⟨u, rfl, hi1, hg1, hk1⟩; have hk1 := hk0.trans hk1; have hsz := hk1.size; have he1 := he.below (hk1.low_' (by omega) (Nat.le_refl _)))
  obtain ⟨av, hv1, ho1⟩ := hg1.st.ex
  have hi2 := own_low hi1 hsz0
  have he2 : Env w1.drew := he1.below (by go_grown)
  have hv2 := hv1.drew1
  have hc1 := hv2.cell
  have hlt1 := hv1.lt
  have hd1 : Below w1.heap.size w1 w1.drew := by go_grown
  go_region_with (go_at_call 44; refine (c0 _ he2).mono ?_; rintro e w2 ⟨rfl, hb2⟩; have hc2 := (hv2.below hb2 hlt1).cell)
  all_goals
    go_wp2_with fail
    go_returns
    have hb3 := hd1.trans hb2
    exact ⟨_, _, rfl, own_below hi2 hb3, own_base (own_below ho1 hb3) (by omega), ((hk1.low_' (B := w.heap.size) (by omega) (Nat.le_refl _)).trans (hb3.mono (by omega)))⟩
end Go.Proofs.YtkaoechldamggaaGreatDoor
