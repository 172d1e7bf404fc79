/- files.readDir. -/
import Derived.Test.YtkaoechldamggaaGreatDoorAF
namespace Go.Proofs.YtkaoechldamggaaGreatDoor
open Go Go.RowKit
set_option maxRecDepth 100000

def rdDirErr (es : List Ent) (p : Bs) (caps : Nat) (blind : Bool) : Nat := if valid p then dirErr (look es p) (blind && !hasCap caps 2) else 370
def rdDirLst (es : List Ent) (p : Bs) (caps : Nat) (blind : Bool) : List Inf := if valid p then dirLst es p (blind && !hasCap caps 2) else []

set_option maxHeartbeats 1000000 in
theorem preadDir (g : Nat) (A : Option Addr) (c : Nat) (es : List Ent) (caps : Nat) (blind : Bool) (qs : List Ask) (p : Bs) (w : World) (hg : StF w g A c es caps blind qs) (hf : Fine es) (he : Env w) (hg5 : 5 ≤ g) (hcaps : caps < 4294967296) (hps : p.length ≤ 140737488351232) (hl : qs.length ≤ 1099511627776) :
    Calls Tryz.prog 49 #[.pointer (some ⟨g, 0, none⟩), .string ⟨p.toArray⟩] w fun e w' =>
      ∃ u, e = .returned (.tuple #[u, errV (rdDirErr es p caps blind)]) ∧ Infs w' w.heap.size u (rdDirLst es p caps blind) ∧ StF w' g A c es caps blind (qs ++ asksOf caps 2 p) ∧ Kp g w w' := by
  unfold rdDirErr rdDirLst asksOf
  have hlt := hg.lt
  obtain ⟨v, hv⟩ : ∃ v, valid p = v := ⟨_, rfl⟩
  rw [hv]
  have cv := fun W (hW : Env W) => pvalid p W hps hW
  rw [hv] at cv
  cases v with
  | false =>
    simp only [Bool.false_eq_true, if_false, List.append_nil]
    go_enter Tryz.func49, Tryz.ntmps49
    go_wp2_with (go_at_call 28; refine (cv _ he).mono ?_; rintro e w1 ⟨rfl, hb1⟩)
    go_returns
    exact ⟨_, rfl, World.ownsRow_nil _ _ _ _, hg.below hb1, Kp.of_below hb1⟩
  | true =>
    have hp2 : p.length ≤ 1024 := valid_len hv
    simp only [if_true]
    obtain ⟨b, hb⟩ : ∃ b, hasCap caps 2 = b := ⟨_, rfl⟩
    have hw : way caps 2 = if b then 2 else 5 := by unfold way; rw [hb]
    rw [hw, hb]
    have h1 := noDir
    have h2 := yesDir
    cases b with
    | true =>
      simp only [if_true, Bool.not_true, Bool.and_false]
      go_enter Tryz.func49, Tryz.ntmps49
      go_wp2_with (first
        | (go_at_call 28; refine (cv _ he).mono ?_; rintro e w1 ⟨rfl, hb1⟩; have hg1 := hg.below hb1; have hz1 := hb1.size)
        | (go_at_call 40; refine (pas2 g A es.length c caps blind qs hcaps _ hg1.st).mono ?_; rw [hb]; rintro e w2 ⟨rfl, hb2, hx, hy⟩; have hg2 := hg1.below hb2; have hk2 := (Kp.of_below (g := g) hb1).below hb2; unfold asV; dsimp only; have hz2 := hb2.size; have he2 := (he.below hb1).below hb2)
        | (go_at_call 167; refine (pmDir g _ A c es caps blind qs p _ hg2 hf he2 hg5 hp2 hl hx hy (by omega)).mono ?_; rintro e w3 ⟨v3, rfl, hi3, hg3, hk3⟩; have hk3 := hk2.trans hk3))
      go_returns
      exact ⟨_, ret_two rfl rfl, own_low hi3 (by omega), hg3, hk3⟩
    | false =>
      simp only [Bool.false_eq_true, if_false, Bool.not_false, Bool.and_true]
      obtain ⟨r, hr⟩ : ∃ r, look es p = r := ⟨_, rfl⟩
      have hpe := pentryDir g A c es caps blind (qs ++ [⟨5, p⟩]) p
      rw [hr] at hpe
      rw [hr]
      rcases r with _ | k
      · have hd0 : dirLst es p blind = [] := by unfold dirLst; rw [hr]
        rw [hd0]
        clear hd0 hpe
        go_enter Tryz.func49, Tryz.ntmps49
        go_wp2_with (first
          | (go_at_call 28; refine (cv _ he).mono ?_; rintro e w1 ⟨rfl, hb1⟩; have hg1 := hg.below hb1; have hz1 := hb1.size)
          | (go_at_call 40; refine (pas2 g A es.length c caps blind qs hcaps _ hg1.st).mono ?_; rw [hb]; rintro e w2 ⟨rfl, hb2, hx, hy⟩; have hg2 := hg1.below hb2; have hk2 := (Kp.of_below (g := g) hb1).below hb2; unfold asV; dsimp only; have hz2 := hb2.size)
          | (go_at_call 74; refine (popen g A c es caps blind qs p _ hg2 hf hp2 hl).mono ?_; rw [hr]; dsimp only [missing]; simp only [errV371]; rintro e w3 ⟨rfl, hg3, hk3⟩; have hk3 := hk2.trans hk3; have hz3 := hk3.size)
          | (refine storeB sty122 rfl (.tmp 8) (.tmp 30) rfl _ _ _ _ rfl (blkEnt _) rfl rfl rfl rfl ?_; intro w4 hz4 hw4; have hg4 := (hg3.alloc _).wrote (blkEnt _) (by decide) (by omega) hw4; have hk4 := (hk3.alloc _).wrote hw4 (by omega); have hc4 := hz4.cell; dsimp only [entArr, dataOf] at hc4; simp only [Act.put]))
        go_returns
        exact ⟨_, ret_two rfl rfl, World.ownsRow_nil _ _ _ _, hg4, hk4⟩
      · generalize dirLst es p blind = L at *
        go_enter Tryz.func49, Tryz.ntmps49
        go_wp2_with (first
          | (go_at_call 28; refine (cv _ he).mono ?_; rintro e w1 ⟨rfl, hb1⟩; have hg1 := hg.below hb1; have hz1 := hb1.size)
          | (go_at_call 40; refine (pas2 g A es.length c caps blind qs hcaps _ hg1.st).mono ?_; rw [hb]; rintro e w2 ⟨rfl, hb2, hx, hy⟩; have hg2 := hg1.below hb2; have hk2 := (Kp.of_below (g := g) hb1).below hb2; unfold asV; dsimp only; have hz2 := hb2.size)
          | (go_at_call 74; refine (popen g A c es caps blind qs p _ hg2 hf hp2 hl).mono ?_; rw [hr]; dsimp only [missing]; simp only [errV0]; rintro e w3 ⟨rfl, hg3, hk3⟩; have hk3 := hk2.trans hk3; have hz3 := hk3.size)
          | (refine storeB sty122 rfl (.tmp 8) (.tmp 30) rfl _ _ _ _ rfl (blkEnt _) rfl rfl rfl rfl ?_; intro w4 hz4 hw4; have hg4 := (hg3.alloc _).wrote (blkEnt _) (by decide) (by omega) hw4; have hk4 := (hk3.alloc _).wrote hw4 (by omega); have hz4s := hk4.size; have he4 := he.low hk4 hg5; simp only [Act.put])
          | (refine loadB sty122 rfl (.tmp 8) rfl _ _ _ rfl hz4 rfl ?_; simp only [Act.put, List.setIfInBounds_toArray, List.set_cons_succ, List.set_cons_zero])
          | (go_at_call 77; refine (hpe k rfl w4 hg4 hf he4 hp2).mono ?_; rintro e w5 ⟨v5, rfl, hi5, hb5⟩; have hg5 := hg4.below hb5; have hk5 := hk4.below hb5))
        go_returns
        exact ⟨_, ret_two rfl rfl, own_low hi5 (by omega), hg5, hk5⟩
end Go.Proofs.YtkaoechldamggaaGreatDoor
