/- The store's readDir: the closure, its method. -/
import Derived.Test.YtkaoechldamggaaGreatDoorAD
import Derived.Test.YtkaoechldamggaaGreatDoorX
namespace Go.Proofs.YtkaoechldamggaaGreatDoor
open Go Go.RowKit
set_option maxRecDepth 100000

/-- What a directory's reading answers: its number, and its list. -/
def dirErr (k : Option (Option Bs)) (blind : Bool) : Nat := match k with | none => 371 | some (some _) => 373 | some none => match blind with | true => 374 | false => 0
def dirLst (es : List Ent) (p : Bs) (blind : Bool) : List Inf := match look es p, blind with | some none, false => listOf es p | _, _ => []
def Infs (w : World) (B : Nat) (v : Value) (xs : List Inf) : Prop := w.ownsRow B 45 3 v xs.length (infCells xs)

theorem Kp.low5 {g : Nat} {w w' : World} (h : Kp g w w') (hB : 5 ≤ g) (hs : 5 ≤ w.heap.size) : Below 5 w w' := ⟨h.os, h.tape, h.output, h.size, fun k hk => h.low k (by omega) (by omega)⟩
theorem Env.size {w : World} (h : Env w) : 5 ≤ w.heap.size := by
  obtain ⟨m, hm⟩ := h.mx
  exact World.block_lt_of_cell? w _ hm
theorem Env.low {g : Nat} {w w' : World} (h : Env w) (hk : Kp g w w') (hg : 5 ≤ g) : Env w' := by
  have hb := hk.low5 hg h.size
  obtain ⟨m, hm⟩ := h.mx
  refine ⟨⟨fun c hc => (hb.cell (by simp)).trans (h.tabs.1 c hc), fun i hi => ⟨(hb.cell (by simp)).trans (h.tabs.2 i hi).1, (hb.cell (by simp)).trans (h.tabs.2 i hi).2⟩⟩, ⟨m, (hb.cell (by simp)).trans hm⟩, (hb.cell (by simp)).trans h.et⟩

theorem pdoDir (g B : Nat) (A : Option Addr) (c : Nat) (es : List Ent) (caps : Nat) (blind : Bool) (qs : List Ask) (p : Bs) (w : World) (hg : StF w g A c es caps blind qs) (hf : Fine es) (he : Env w) (hg5 : 5 ≤ g) (hps : p.length ≤ 1024) (hl : qs.length ≤ 1099511627776)
    (hb1 : Blk w B 87 #[.pointer (some ⟨g, 0, none⟩)]) (hb2 : Blk w (B + 1) 3 #[.int .i64 2]) (hgB : g < B) :
    Calls Tryz.prog 66 #[.string ⟨p.toArray⟩, .pointer (some ⟨B, 0, none⟩), .pointer (some ⟨B + 1, 0, none⟩)] w fun e w' => ∃ v, e = .returned (.tuple #[v, errV (dirErr (look es p) false)]) ∧ Infs w' w.heap.size v (dirLst es p false) ∧ StF w' g A c es caps blind (qs ++ [⟨2, p⟩]) ∧ Kp g w w' := by
  have hlt := hg.lt
  obtain ⟨r, hr⟩ : ∃ r, look es p = r := ⟨_, rfl⟩
  unfold dirLst
  rw [hr]
  have hbc1 := hb1.cell
  have hbc2 := hb2.cell
  have hB := hb1.lt
  rcases r with _ | _ | d
  all_goals
    go_enter Tryz.func66, Tryz.ntmps66
    go_wp2_with (first
      | (go_at_call 64; refine (pnote g A es.length c caps blind qs 2 2 rfl p _ hg.st hl).mono ?_; rintro e w1 ⟨rfl, hs1, hk1⟩; have hbd := (hk1.blk hb1 (by omega) (by decide)); have hbe := hbd.cell; have hg1 : StF w1 g A c es caps blind (qs ++ [⟨2, p⟩]) := ⟨hs1, hg.rd.below (hk1.low_ (Nat.le_of_lt hg.lt) (Nat.le_refl g)) (Nat.le_refl _)⟩; have hz1 := hk1.size)
      | (go_at_call 56; obtain ⟨av, hv1, -⟩ := hs1.ex; refine (pfind g A c es caps blind av p w1 hv1 (hg1.rd.more (Nat.le_of_lt hg1.lt)) hf.many (by omega) hf.each).mono ?_; rw [hr]; dsimp only [missing]; simp only [errV0, errV371]; rintro e w2 ⟨rfl, hb2⟩; have hg2 := hg1.below hb2; have hk2 := hk1.below hb2; have hz2 := hb2.size; have hbf := (hbd.below hb2 hbd.lt))
      | (refine storeB sty122 rfl (.tmp 6) (.tmp 16) rfl _ _ _ _ rfl (blkEnt _) rfl rfl rfl rfl ?_; intro w3 hz3 hw3; have hg3 := (hg2.alloc _).wrote (blkEnt _) (by decide) (by omega) hw3; have hk3 := (hk2.alloc _).wrote hw3 (by omega); have hc3 := hz3.cell; dsimp only [entArr, dataOf] at hc3; have hbg := ((hbf.alloc _).wrote hw3 (by have := hbf.lt; omega)).cell; simp only [Act.put])
      | (go_at_call 67; refine (plist g A c es caps blind _ p w3 hg3 hf (he.low hk3 hg5) hps).mono ?_; rintro e w4 ⟨v4, rfl, hown4, hb4⟩; have hg4 := hg3.below hb4; have hk4 := hk3.below hb4))
    go_returns
  · exact ⟨_, ret_two rfl rfl, World.ownsRow_nil _ _ _ _, hg3, hk3⟩
  · exact ⟨_, ret_two rfl rfl, own_low hown4 hk3.size, hg4, hk4⟩
  · exact ⟨_, ret_two rfl rfl, World.ownsRow_nil _ _ _ _, hg3, hk3⟩
end Go.Proofs.YtkaoechldamggaaGreatDoor
