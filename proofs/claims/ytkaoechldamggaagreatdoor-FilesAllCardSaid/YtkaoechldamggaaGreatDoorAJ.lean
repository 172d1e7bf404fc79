/- files.Stat. -/
import Derived.Test.YtkaoechldamggaaGreatDoorAA
import Derived.Test.YtkaoechldamggaaGreatDoorAB
import Derived.Test.YtkaoechldamggaaGreatDoorAE
namespace Go.Proofs.YtkaoechldamggaaGreatDoor
open Go Go.RowKit
set_option maxRecDepth 100000

theorem stInf_cells (es : List Ent) (p : Bs) : ∃ (s : Bs) (b : Bool) (n : Nat), stInf es p = #[.string ⟨s.toArray⟩, .bool b, .int .i64 (n : Int)] := by
  unfold stInf
  split
  · exact ⟨_, _, _, rfl⟩
  · exact ⟨[], false, 0, rfl⟩

theorem resultsB2 {T sz : Nat} (hT : STy T sz) {fn : Func} {p u v : Tmp} (h : fn.results = #[.cell p T, .tmp u, .tmp v]) (tmps : Array Value) (w : World) (g t : Nat) (cs : Array Value)
    (hp : tmps.getD p undef = .pointer (some ⟨g, 0, none⟩)) (hg : Blk w g t cs) (hs : cs.size = sz) :
    (results fn tmps).run Tryz.prog w = .ok (.tuple #[.agg cs, tmps.getD u undef, tmps.getD v undef]) w := by
  obtain ⟨fs, hu⟩ := hT.hu
  have hp' : tmps[p]?.getD undef = .pointer (some ⟨g, 0, none⟩) := by simpa using hp
  simp [results, h, hp', asAddr, run_loadVar_row w g t T _ (0, 0) _ hg hu rfl (by rw [hs]; exact hT.hi)]

set_option maxHeartbeats 4000000 in
theorem pStat (A : Option Addr) (c : Nat) (es : List Ent) (caps : Nat) (blind : Bool) (p : Bs) (w : World) (hr : Rd w w.heap.size A (entCells es)) (hf : Fine es) (he : Env w) (hcaps : caps < 4294967296) (hps : p.length ≤ 140737488351232) :
    Calls Tryz.prog 20 #[.agg #[.slice A es.length c, .int .u32 (caps : Int), .bool blind], .string ⟨p.toArray⟩] w fun e w' => ∃ v,
      e = .returned (.tuple #[.agg (if stErr es p = 0 then stInf es p else zeroInf), v, .int .i64 (stErr es p : Int)]) ∧ Asks w' w.heap.size v (asksOf caps 0 p) ∧ Below w.heap.size w w' := by
  have h5 := he.size
  obtain ⟨o1, ho1⟩ : ∃ o : Obj, o = .cells #[.slice A es.length c, .int .u32 (caps : Int), .bool blind] 32 := ⟨_, rfl⟩
  have hr1 : Rd (w.alloc o1) (w.alloc o1).heap.size A (entCells es) := (hr.below (B' := w.heap.size) (by go_grown) (Nat.le_refl _)).more (by simp)
  have hg0 := StF.fresh (c := c) (caps := caps) (blind := blind) hr1 (.cells #[.string ⟨#[]⟩, .bool false, .int .i64 0] 45)
  have hx4 := (blkInf (w.alloc o1)).alloc (.cells #[.slice A es.length c, .int .u32 (caps : Int), .bool blind, .slice none 0 0] 89)
  obtain ⟨W0, hW0⟩ : ∃ W0, ((w.alloc o1).alloc (.cells #[.string ⟨#[]⟩, .bool false, .int .i64 0] 45)).alloc (.cells #[.slice A es.length c, .int .u32 (caps : Int), .bool blind, .slice none 0 0] 89) = W0 := ⟨_, rfl⟩
  have hb0 : Below w.heap.size w W0 := by rw [← hW0]; go_grown
  rw [hW0] at hg0 hx4
  simp only [World.size_alloc] at hg0 hx4
  have he0 := he.below hb0
  have hk0 : Kp (w.heap.size + 1 + 1) w W0 := Kp.of_below hb0
  have cr := pstat (w.heap.size + 1 + 1) A c es caps blind [] p W0 hg0 hf he0 hcaps hps (by simp)
  rw [List.nil_append] at cr
  obtain ⟨s, b, m, hin⟩ := stInf_cells es p
  rw [hin] at cr ⊢
  generalize stErr es p = n at *
  generalize asksOf caps 0 p = qs at *
  have c0 := perrno n
  by_cases hn : n = 0
  · subst hn
    rw [if_pos rfl]
    rw [errV0] at cr c0
    subst ho1
    go_enter Tryz.func20, Tryz.ntmps20
    go_wp2_with (go_at_call 43; refine cr.mono ?_; rintro e w1 ⟨rfl, hg1, hk1⟩; have hx1 := hk1.blk hx4 (by omega) (by decide); have hk1 := hk0.trans hk1; have hsz := hk1.size; have hx1l := hx1.lt)
    obtain ⟨w2, hw2⟩ : ∃ w2, w1.alloc (.cells #[.string ⟨s.toArray⟩, .bool b, .int .i64 (m : Int)] 45) = w2 := ⟨_, rfl⟩
    have hg2 := hg1.alloc (.cells #[.string ⟨s.toArray⟩, .bool b, .int .i64 (m : Int)] 45)
    have hk2 := hk1.alloc (.cells #[.string ⟨s.toArray⟩, .bool b, .int .i64 (m : Int)] 45)
    have hx2 := hx1.alloc (.cells #[.string ⟨s.toArray⟩, .bool b, .int .i64 (m : Int)] 45)
    have hz2 : Blk (w1.alloc (.cells #[.string ⟨s.toArray⟩, .bool b, .int .i64 (m : Int)] 45)) w1.heap.size 45 _ := Blk.newAt _ _ rfl rfl
    rw [hw2] at hg2 hk2 hx2 hz2 ⊢
    have he2 : Env w2.drew := (he.below (hk2.low_' (by omega) (Nat.le_refl _))).below (by go_grown)
    clear hw2
    obtain ⟨av, hv1, ho1⟩ := hg2.st.ex
    have hv2 := hv1.drew1
    have hz2' := hz2.drew1
    have hx2' := hx2.drew1
    have a1 := hv2.cell
    have a2 := hz2'.cell
    have a3 := hx2'.cell
    have a4 := hx2'.frozen
    have hlt1 := hv1.lt
    have hlt2 := hz2.lt
    have hlt3 := hx2.lt
    go_region_with (go_at_call 44; refine (c0 _ he2).mono ?_; rintro e w3 ⟨rfl, hb3⟩; have b1 := (hv2.below hb3 hlt1).cell; have b2 := (hz2'.below hb3 hlt2).cell; have hx3 := hx2'.below hb3 hlt3; have b3 := hx3.cell; have b4 := hx3.frozen)
    all_goals
      go_wp2_with fail
      have hq := ((hx3.set_ 0 (.string ⟨s.toArray⟩)).set_ 1 (.bool b)).set_ 2 (.int .i64 (m : Int))
      refine bodyPost_ret (resultsB2 sty45 rfl _ _ _ _ _ rfl hq rfl) rfl ?_
      have hb4 : Below w2.heap.size w2 w3 := Below.trans (by go_grown) hb3
      have hw6 := (hk2.low_' (B := w.heap.size) (by omega) (Nat.le_refl _)).trans (hb4.mono (by have := hk2.size; omega))
      have ho4 := own_low (b' := w.heap.size) (own_below ho1 hb4) (by omega)
      have hnb : av.ownBlock ≠ some (w.heap.size + 1) := fun e => by have := (ho1.lt _ e).1; omega
      exact ⟨_, rfl, own_wrote (own_wrote (own_wrote ho4 (Wrote.cell _ ⟨w.heap.size + 1, 0, none⟩ _) hnb) (Wrote.cell _ ⟨w.heap.size + 1, 1, none⟩ _) hnb) (Wrote.cell _ ⟨w.heap.size + 1, 2, none⟩ _) hnb, ((hw6.setCell (by simp) _).setCell (by simp) _).setCell (by simp) _⟩
  · have hE : errV n = .iface 125 (.int .i64 (n : Int)) := by unfold errV; rw [if_neg hn]
    rw [if_neg hn]
    unfold zeroInf
    rw [hE] at cr c0
    subst ho1
    go_enter Tryz.func20, Tryz.ntmps20
    go_wp2_with (go_at_call 43; refine cr.mono ?_; rintro e w1 ⟨rfl, hg1, hk1⟩; have hx1 := hk1.blk hx4 (by omega) (by decide); have hk1 := hk0.trans hk1; have hsz := hk1.size; have hx1l := hx1.lt)
    obtain ⟨w2, hw2⟩ : ∃ w2, w1.alloc (.cells #[.string ⟨#[]⟩, .bool false, .int .i64 0] 45) = w2 := ⟨_, rfl⟩
    have hg2 := hg1.alloc (.cells #[.string ⟨#[]⟩, .bool false, .int .i64 0] 45)
    have hk2 := hk1.alloc (.cells #[.string ⟨#[]⟩, .bool false, .int .i64 0] 45)
    have hx2 := hx1.alloc (.cells #[.string ⟨#[]⟩, .bool false, .int .i64 0] 45)
    have hz2 : Blk (w1.alloc (.cells #[.string ⟨#[]⟩, .bool false, .int .i64 0] 45)) w1.heap.size 45 _ := Blk.newAt _ _ rfl rfl
    rw [hw2] at hg2 hk2 hx2 hz2 ⊢
    have he2 : Env w2.drew := (he.below (hk2.low_' (by omega) (Nat.le_refl _))).below (by go_grown)
    clear hw2
    obtain ⟨av, hv1, ho1⟩ := hg2.st.ex
    have hv2 := hv1.drew1
    have hz2' := hz2.drew1
    have hx2' := hx2.drew1
    have a1 := hv2.cell
    have a2 := hz2'.cell
    have a3 := hx2'.cell
    have a4 := hx2'.frozen
    have hlt1 := hv1.lt
    have hlt2 := hz2.lt
    have hlt3 := hx2.lt
    go_region_with (go_at_call 44; refine (c0 _ he2).mono ?_; rintro e w3 ⟨rfl, hb3⟩; have b1 := (hv2.below hb3 hlt1).cell; have b2 := (hz2'.below hb3 hlt2).cell; have hx3 := hx2'.below hb3 hlt3; have b3 := hx3.cell; have b4 := hx3.frozen)
    all_goals
      go_wp2_with fail
      have hq := ((hx3.set_ 0 (.string ⟨#[]⟩)).set_ 1 (.bool false)).set_ 2 (.int .i64 0)
      refine bodyPost_ret (resultsB2 sty45 rfl _ _ _ _ _ rfl hq rfl) rfl ?_
      have hb4 : Below w2.heap.size w2 w3 := Below.trans (by go_grown) hb3
      have hw6 := (hk2.low_' (B := w.heap.size) (by omega) (Nat.le_refl _)).trans (hb4.mono (by have := hk2.size; omega))
      have ho4 := own_low (b' := w.heap.size) (own_below ho1 hb4) (by omega)
      have hnb : av.ownBlock ≠ some (w.heap.size + 1) := fun e => by have := (ho1.lt _ e).1; omega
      exact ⟨_, rfl, own_wrote (own_wrote (own_wrote ho4 (Wrote.cell _ ⟨w.heap.size + 1, 0, none⟩ _) hnb) (Wrote.cell _ ⟨w.heap.size + 1, 1, none⟩ _) hnb) (Wrote.cell _ ⟨w.heap.size + 1, 2, none⟩ _) hnb, ((hw6.setCell (by simp) _).setCell (by simp) _).setCell (by simp) _⟩
end Go.Proofs.YtkaoechldamggaaGreatDoor
