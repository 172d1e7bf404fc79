/- files.stat. -/
import Derived.Test.YtkaoechldamggaaGreatDoorX
namespace Go.Proofs.YtkaoechldamggaaGreatDoor
open Go Go.RowKit
set_option maxRecDepth 100000

def zeroInf : Array Value := #[.string ⟨#[]⟩, .bool false, .int .i64 0]
def stInf (es : List Ent) (p : Bs) : Array Value := if valid p then infVal p (look es p) else zeroInf
def stErr (es : List Ent) (p : Bs) : Nat := if valid p then missing (look es p) else 370

set_option maxHeartbeats 1000000 in
theorem pstat (g : Nat) (A : Option Addr) (c : Nat) (es : List Ent) (caps : Nat) (blind : Bool) (qs : List Ask) (p : Bs) (w : World) (hg : StF w g A c es caps blind qs) (hf : Fine es) (he : Env w) (hcaps : caps < 4294967296) (hps : p.length ≤ 140737488351232) (hl : qs.length ≤ 1099511627776) :
    Calls Tryz.prog 43 #[.pointer (some ⟨g, 0, none⟩), .string ⟨p.toArray⟩] w fun e w' =>
      e = .returned (.tuple #[.agg (stInf es p), errV (stErr es p)]) ∧ StF w' g A c es caps blind (qs ++ asksOf caps 0 p) ∧ Kp g w w' := by
  unfold stInf stErr asksOf
  have hlt := hg.lt
  obtain ⟨v, hv⟩ : ∃ v, valid p = v := ⟨_, rfl⟩
  rw [hv]
  have cv := fun W (hW : Env W) => pvalid p W hps hW
  rw [hv] at cv
  have hx := blkInf w
  have hg0 := hg.alloc (.cells #[.string ⟨#[]⟩, .bool false, .int .i64 0] 45)
  have hk0 : Kp g w (w.alloc (.cells #[.string ⟨#[]⟩, .bool false, .int .i64 0] 45)) := (Kp.refl g w).alloc _
  have he0 : Env (w.alloc (.cells #[.string ⟨#[]⟩, .bool false, .int .i64 0] 45)) := he.below (by go_grown)
  have hx0 := hx.lt
  cases v with
  | false =>
    simp only [Bool.false_eq_true, if_false, List.append_nil]
    go_enter Tryz.func43, Tryz.ntmps43
    go_wp2_with (first
      | (go_at_call 28; refine (cv _ he0).mono ?_; rintro e w1 ⟨rfl, hb1⟩; have hg1 := hg0.below hb1; have hk1 := hk0.below hb1; have hx1 := hx.below hb1 hx0)
      | (refine storeB sty45 rfl (.tmp 4) (.tmp 13) rfl _ _ _ _ rfl hx1 rfl rfl rfl rfl ?_; intro w4 hx4 hw4; have hg4 := hg1.wrote hx1 (by decide) (by omega) hw4; have hk4 := hk1.wrote hw4 (by omega); simp only [Act.put]))
    refine bodyPost_ret (resultsB1 sty45 rfl _ _ _ _ _ rfl hx4 rfl) rfl ?_
    exact ⟨ret_two rfl rfl, hg4, hk4⟩
  | true =>
    have hp2 : p.length ≤ 1024 := valid_len hv
    simp only [if_true]
    obtain ⟨b, hb⟩ : ∃ b, hasCap caps 0 = b := ⟨_, rfl⟩
    have hw : way caps 0 = if b then 0 else 5 := by unfold way; rw [hb]
    rw [hw]
    have h1 := noStat
    have h2 := yesStat
    cases b with
    | true =>
      simp only [if_true]
      go_enter Tryz.func43, Tryz.ntmps43
      go_wp2_with (first
        | (go_at_call 28; refine (cv _ he0).mono ?_; rintro e w1 ⟨rfl, hb1⟩; have hg1 := hg0.below hb1; have hk1 := hk0.below hb1; have hx1 := hx.below hb1 hx0; have hz1 := hk1.size)
        | (go_at_call 40; refine (pas0 g A es.length c caps blind qs hcaps _ hg1.st).mono ?_; rw [hb]; rintro e w2 ⟨rfl, hb2, hy, hz⟩; have hg2 := hg1.below hb2; have hk2 := hk1.below hb2; have hx2 := hx1.below hb2 hx1.lt; unfold asV; dsimp only; have hz2 := hb2.size)
        | (go_at_call 165; refine (pmStat g _ A c es caps blind qs p _ hg2 hf hp2 hl hy hz (by omega)).mono ?_; rintro e w3 ⟨rfl, hg3, hk3⟩; have hx3 := hk3.blk hx2 (by omega) (by decide); have hk3 := hk2.trans hk3)
        | (refine storeB sty45 rfl (.tmp 4) (.tmp 25) rfl _ _ _ _ rfl hx3 rfl rfl rfl rfl ?_; intro w4 hx4 hw4; have hg4 := hg3.wrote hx3 (by decide) (by omega) hw4; have hk4 := hk3.wrote hw4 (by omega); simp only [Act.put]))
      refine bodyPost_ret (resultsB1 sty45 rfl _ _ _ _ _ rfl hx4 rfl) rfl ?_
      exact ⟨ret_two rfl rfl, hg4, hk4⟩
    | false =>
      simp only [Bool.false_eq_true, if_false]
      obtain ⟨r, hr⟩ : ∃ r, look es p = r := ⟨_, rfl⟩
      rw [hr]
      rcases r with _ | _ | d
      all_goals
        go_enter Tryz.func43, Tryz.ntmps43
        go_wp2_with (first
          | (go_at_call 28; refine (cv _ he0).mono ?_; rintro e w1 ⟨rfl, hb1⟩; have hg1 := hg0.below hb1; have hk1 := hk0.below hb1; have hx1 := hx.below hb1 hx0; have hz1 := hk1.size)
          | (go_at_call 40; refine (pas0 g A es.length c caps blind qs hcaps _ hg1.st).mono ?_; rw [hb]; rintro e w2 ⟨rfl, hb2, hy, hz⟩; have hg2 := hg1.below hb2; have hk2 := hk1.below hb2; have hx2 := hx1.below hb2 hx1.lt; unfold asV; dsimp only; have hz2 := hb2.size)
          | (go_at_call 74; refine (popen g A c es caps blind qs p _ hg2 hf hp2 hl).mono ?_; rw [hr]; dsimp only [missing]; simp only [errV0, errV371]; rintro e w3 ⟨rfl, hg3, hk3⟩; have hx3 := hk3.blk hx2 (by omega) (by decide); have hk3 := hk2.trans hk3; have hz3 := hk3.size)
          | (refine storeB sty122 rfl (.tmp 8) (.tmp 31) rfl _ _ _ _ rfl (blkEnt _) rfl rfl rfl rfl ?_; intro w4 hz4 hw4; have hg4 := (hg3.alloc _).wrote (blkEnt _) (by decide) (by omega) hw4; have hk4 := (hk3.alloc _).wrote hw4 (by omega); have hx4 := (hx3.alloc _).wrote hw4 (by have := hx3.lt; omega); have hc4 := hz4.cell; dsimp only [entArr, dataOf] at hc4; simp only [Act.put])
          | (refine storeB sty45 rfl (.tmp 4) (.tmp 34) rfl _ _ _ _ rfl hx4 rfl rfl rfl rfl ?_; intro w5 hx5 hw5; have hg5 := hg4.wrote hx4 (by decide) (by omega) hw5; have hk5 := hk4.wrote hw5 (by omega); simp only [Act.put]))
        refine bodyPost_ret (resultsB1 sty45 rfl _ _ _ _ _ rfl hx5 rfl) rfl ?_
        exact ⟨ret_two rfl rfl, hg5, hk5⟩
end Go.Proofs.YtkaoechldamggaaGreatDoor
