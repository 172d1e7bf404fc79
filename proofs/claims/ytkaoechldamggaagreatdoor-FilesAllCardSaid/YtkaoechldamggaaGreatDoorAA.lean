/- files.ReadFile. -/
import Derived.Test.YtkaoechldamggaaGreatDoorZ
import Derived.Deep.RegionWith
namespace Go.Proofs.YtkaoechldamggaaGreatDoor
open Go Go.RowKit
set_option maxRecDepth 100000

/-- What was asked: a row that the call made. -/
def Asks (w : World) (B : Nat) (v : Value) (qs : List Ask) : Prop := w.ownsRow B 102 2 v qs.length (askCells qs)
theorem StF.fresh {w : World} {A : Option Addr} {c : Nat} {es : List Ent} {caps : Nat} {blind : Bool} (hr : Rd w w.heap.size A (entCells es)) (o1 : Obj) :
    StF ((w.alloc o1).alloc (.cells #[.slice A es.length c, .int .u32 (caps : Int), .bool blind, .slice none 0 0] 89)) (w.heap.size + 1) A c es caps blind [] := by
  refine ⟨⟨.slice none 0 0, Blk.newAt _ _ rfl (by simp), ⟨rfl, .inl ⟨rfl, rfl⟩⟩⟩, ?_⟩
  exact (hr.below (B' := w.heap.size) (by go_grown) (Nat.le_refl _)).more (by omega)

theorem Kp.low_' {g B : Nat} {w w' : World} (h : Kp g w w') (hB : B ≤ g) (hs : B ≤ w.heap.size) : Below B w w' := ⟨h.os, h.tape, h.output, h.size, fun k hk => h.low k (by omega) (by omega)⟩

theorem own_base {w : World} {b b' e sz n : Nat} {v : Value} {xs : List Value} (h : w.ownsRow b e sz v n xs) (hb : b' ≤ b) : w.ownsRow b' e sz v n xs := by
  refine ⟨h.1, ?_⟩
  rcases h.2 with h2 | ⟨q, cap, cur, rfl, hq, r⟩
  · exact .inl h2
  · exact .inr ⟨q, cap, cur, rfl, Nat.le_trans hb hq, r⟩

theorem pReadFile (A : Option Addr) (c : Nat) (es : List Ent) (caps : Nat) (blind : Bool) (p : Bs) (w : World) (hr : Rd w w.heap.size A (entCells es)) (hf : Fine es) (he : Env w) (hcaps : caps < 4294967296) (hps : p.length ≤ 140737488351232) :
    Calls Tryz.prog 22 #[.agg #[.slice A es.length c, .int .u32 (caps : Int), .bool blind], .string ⟨p.toArray⟩] w fun e w' => ∃ v,
      e = .returned (.tuple #[.string ⟨(rdData es p).toArray⟩, v, .int .i64 (rdErr es p : Int)]) ∧ Asks w' w.heap.size v (asksOf caps 1 p) ∧ Below w.heap.size w w' := by
  have hg0 := StF.fresh (c := c) (caps := caps) (blind := blind) hr (.cells #[.slice A es.length c, .int .u32 (caps : Int), .bool blind] 32)
  have he0 : Env ((w.alloc (.cells #[.slice A es.length c, .int .u32 (caps : Int), .bool blind] 32)).alloc (.cells #[.slice A es.length c, .int .u32 (caps : Int), .bool blind, .slice none 0 0] 89)) := he.below (by go_grown)
  have hk0 : Kp (w.heap.size + 1) w ((w.alloc (.cells #[.slice A es.length c, .int .u32 (caps : Int), .bool blind] 32)).alloc (.cells #[.slice A es.length c, .int .u32 (caps : Int), .bool blind, .slice none 0 0] 89)) := Kp.of_below (by go_grown)
  have cr := preadFile (w.heap.size + 1) A c es caps blind [] p _ hg0 hf he0 hcaps hps (by simp)
  rw [List.nil_append] at cr
  have hdn := rdData_err es p
  generalize rdData es p = d at *
  generalize rdErr es p = n at *
  generalize asksOf caps 1 p = qs at *
  by_cases hn : n = 0
  · subst hn
    rw [errV0] at cr
    have c0 := perrno 0
    rw [errV0] at c0
    go_enter Tryz.func22, Tryz.ntmps22
    go_wp2_with (go_at_call 48; refine cr.mono ?_; rintro e w1 ⟨rfl, hg1, hk1⟩; have hk1 := hk0.trans hk1; have hsz := hk1.size; have he1 := he.below (hk1.low_' (by omega) (Nat.le_refl _)))
    obtain ⟨av, hv1, ho1⟩ := hg1.st.ex
    have he2 : Env w1.drew := he1.below (by go_grown)
    have hv2 := hv1.drew1
    have hc1 := hv2.cell
    have hlt1 := hv1.lt
    have hd1 : Below w1.heap.size w1 w1.drew := by go_grown
    go_region_with (go_at_call 44; refine (c0 _ he2).mono ?_; rintro e w2 ⟨rfl, hb2⟩; have hc2 := (hv2.below hb2 hlt1).cell)
    all_goals
      go_wp2_with fail
      go_returns
      have hb3 := hd1.trans hb2
      exact ⟨_, rfl, own_base (own_below ho1 hb3) (by omega), ((hk1.low_' (B := w.heap.size) (by omega) (Nat.le_refl _)).trans (hb3.mono (by omega)))⟩
  · have hE : errV n = .iface 125 (.int .i64 (n : Int)) := by unfold errV; rw [if_neg hn]
    rw [hE] at cr
    have c0 := perrno n
    rw [hE] at c0
    have hd := hdn hn
    subst hd
    go_enter Tryz.func22, Tryz.ntmps22
    go_wp2_with (go_at_call 48; refine cr.mono ?_; rintro e w1 ⟨rfl, hg1, hk1⟩; have hk1 := hk0.trans hk1; have hsz := hk1.size; have he1 := he.below (hk1.low_' (by omega) (Nat.le_refl _)))
    obtain ⟨av, hv1, ho1⟩ := hg1.st.ex
    have he2 : Env w1.drew := he1.below (by go_grown)
    have hv2 := hv1.drew1
    have hc1 := hv2.cell
    have hlt1 := hv1.lt
    have hd1 : Below w1.heap.size w1 w1.drew := by go_grown
    go_region_with (go_at_call 44; refine (c0 _ he2).mono ?_; rintro e w2 ⟨rfl, hb2⟩; have hc2 := (hv2.below hb2 hlt1).cell)
    all_goals
      go_wp2_with fail
      go_returns
      have hb3 := hd1.trans hb2
      exact ⟨_, rfl, own_base (own_below ho1 hb3) (by omega), ((hk1.low_' (B := w.heap.size) (by omega) (Nat.le_refl _)).trans (hb3.mono (by omega)))⟩
end Go.Proofs.YtkaoechldamggaaGreatDoor
