/- The store in the program: stat, readFile. -/
import Derived.Test.YtkaoechldamggaaGreatDoorW
namespace Go.Proofs.YtkaoechldamggaaGreatDoor
open Go Go.RowKit
set_option maxRecDepth 100000

theorem blkInf (w : World) : Blk (w.alloc (.cells #[.string ⟨#[]⟩, .bool false, .int .i64 0] 45)) w.heap.size 45 #[.string ⟨#[]⟩, .bool false, .int .i64 0] := Blk.newAt _ _ rfl rfl

theorem pdoStat (g B : Nat) (A : Option Addr) (c : Nat) (es : List Ent) (caps : Nat) (blind : Bool) (qs : List Ask) (p : Bs) (w : World) (hg : StF w g A c es caps blind qs) (hf : Fine es) (hps : p.length ≤ 1024) (hl : qs.length ≤ 1099511627776)
    (hb1 : Blk w B 87 #[.pointer (some ⟨g, 0, none⟩)]) (hb2 : Blk w (B + 1) 3 #[.int .i64 0]) (hgB : g < B) :
    Calls Tryz.prog 63 #[.string ⟨p.toArray⟩, .pointer (some ⟨B, 0, none⟩), .pointer (some ⟨B + 1, 0, none⟩)] w fun e w' => e = .returned (.tuple #[.agg (infVal p (look es p)), errV (missing (look es p))]) ∧ StF w' g A c es caps blind (qs ++ [⟨0, p⟩]) ∧ Kp g w w' := by
  have hlt := hg.lt
  obtain ⟨r, hr⟩ : ∃ r, look es p = r := ⟨_, rfl⟩
  rw [hr]
  have hB := hb1.lt
  have hB2 := hb2.lt
  have hx := blkInf w
  have hg0 := hg.alloc (.cells #[.string ⟨#[]⟩, .bool false, .int .i64 0] 45)
  have hk0 : Kp g w (w.alloc (.cells #[.string ⟨#[]⟩, .bool false, .int .i64 0] 45)) := (Kp.refl g w).alloc _
  have hb1 := hb1.alloc (.cells #[.string ⟨#[]⟩, .bool false, .int .i64 0] 45)
  have hb2 := hb2.alloc (.cells #[.string ⟨#[]⟩, .bool false, .int .i64 0] 45)
  have hbc1 := hb1.cell
  have hbc2 := hb2.cell
  rcases r with _ | _ | d
  all_goals
    go_enter Tryz.func63, Tryz.ntmps63
    go_wp2_with (first
      | (go_at_call 64; refine (pnote g A es.length c caps blind qs 0 0 rfl p _ hg0.st hl).mono ?_; rintro e w1 ⟨rfl, hs1, hk1⟩; have hbd := (hk1.blk hb1 (by omega) (by decide)); have hbe := hbd.cell; have hg1 : StF w1 g A c es caps blind (qs ++ [⟨0, p⟩]) := ⟨hs1, hg0.rd.below (hk1.low_ (Nat.le_of_lt hg0.lt) (Nat.le_refl g)) (Nat.le_refl _)⟩; have hx1 := hk1.blk hx (by omega) (by decide); have hk1 := hk0.trans hk1; have hz1 := hk1.size)
      | (go_at_call 56; obtain ⟨av, hv1, -⟩ := hs1.ex; refine (pfind g A c es caps blind av p w1 hv1 (hg1.rd.more (Nat.le_of_lt hg1.lt)) hf.many (by omega) hf.each).mono ?_; rw [hr]; dsimp only [missing]; simp only [errV0, errV371]; rintro e w2 ⟨rfl, hb2⟩; have hg2 := hg1.below hb2; have hk2 := hk1.below hb2; have hz2 := hb2.size; have hx2 := hx1.below hb2 hx1.lt)
      | (refine storeB sty122 rfl (.tmp 6) (.tmp 16) rfl _ _ _ _ rfl (blkEnt _) rfl rfl rfl rfl ?_; intro w3 hz3 hw3; have hg3 := (hg2.alloc _).wrote (blkEnt _) (by decide) (by omega) hw3; have hk3 := (hk2.alloc _).wrote hw3 (by omega); have hx3 := (hx2.alloc _).wrote hw3 (by have := hx2.lt; omega); have hc3 := hz3.cell; dsimp only [entArr, dataOf] at hc3; simp only [Act.put])
      | (refine storeB sty45 rfl (.tmp 4) (.tmp 19) rfl _ _ _ _ rfl hx3 rfl rfl rfl rfl ?_; intro w4 hx4 hw4; have hg4 := hg3.wrote hx3 (by decide) (by omega) hw4; have hk4 := hk3.wrote hw4 (by omega); simp only [Act.put]))
    refine bodyPost_ret (resultsB1 sty45 rfl _ _ _ _ _ rfl hx4 rfl) rfl ?_
    exact ⟨ret_two rfl rfl, hg4, hk4⟩

theorem pmRead (g B : Nat) (A : Option Addr) (c : Nat) (es : List Ent) (caps : Nat) (blind : Bool) (qs : List Ask) (p : Bs) (w : World) (hg : StF w g A c es caps blind qs) (hf : Fine es) (hps : p.length ≤ 1024) (hl : qs.length ≤ 1099511627776)
    (hb1 : Blk w B 87 #[.pointer (some ⟨g, 0, none⟩)]) (hb2 : Blk w (B + 1) 3 #[.int .i64 1]) (hgB : g < B) :
    Calls Tryz.prog 166 #[.agg #[.pointer (some ⟨g, 0, none⟩), .func (.func 65) #[] #[.pointer (some ⟨B, 0, none⟩), .pointer (some ⟨B + 1, 0, none⟩)]], .string ⟨p.toArray⟩] w fun e w' => e = .returned (.tuple #[.string ⟨(dataOf (look es p)).toArray⟩, errV (readErr (look es p))]) ∧ StF w' g A c es caps blind (qs ++ [⟨1, p⟩]) ∧ Kp g w w' := by
  go_enter Tryz.func166, Tryz.ntmps166
  go_wp2_with (go_at_call 65; refine (pdoRead g B A c es caps blind qs p _ (hg.alloc _) hf hps hl (hb1.alloc _) (hb2.alloc _) hgB).mono ?_; rintro e w1 ⟨rfl, hg1, hk1⟩)
  go_returns
  exact ⟨ret_two rfl rfl, hg1, ((Kp.refl g w).alloc _).trans hk1⟩

theorem pmStat (g B : Nat) (A : Option Addr) (c : Nat) (es : List Ent) (caps : Nat) (blind : Bool) (qs : List Ask) (p : Bs) (w : World) (hg : StF w g A c es caps blind qs) (hf : Fine es) (hps : p.length ≤ 1024) (hl : qs.length ≤ 1099511627776)
    (hb1 : Blk w B 87 #[.pointer (some ⟨g, 0, none⟩)]) (hb2 : Blk w (B + 1) 3 #[.int .i64 0]) (hgB : g < B) :
    Calls Tryz.prog 165 #[.agg #[.pointer (some ⟨g, 0, none⟩), .func (.func 63) #[] #[.pointer (some ⟨B, 0, none⟩), .pointer (some ⟨B + 1, 0, none⟩)]], .string ⟨p.toArray⟩] w fun e w' => e = .returned (.tuple #[.agg (infVal p (look es p)), errV (missing (look es p))]) ∧ StF w' g A c es caps blind (qs ++ [⟨0, p⟩]) ∧ Kp g w w' := by
  have hlt := hg.lt
  obtain ⟨bx, hbx⟩ : ∃ bx : Obj, bx = .cells #[.pointer (some ⟨g, 0, none⟩), .func (.func 63) #[] #[.pointer (some ⟨B, 0, none⟩), .pointer (some ⟨B + 1, 0, none⟩)]] 147 := ⟨_, rfl⟩
  have hx := blkInf (w.alloc bx)
  subst hbx
  go_enter Tryz.func165, Tryz.ntmps165
  go_wp2_with (first
    | (go_at_call 63; refine (pdoStat g B A c es caps blind qs p _ ((hg.alloc _).alloc _) hf hps hl ((hb1.alloc _).alloc _) ((hb2.alloc _).alloc _) hgB).mono ?_; rintro e w1 ⟨rfl, hg1, hk1⟩; have hx1 := hk1.blk hx (by simp; omega) (by decide); have hk1 := (((Kp.refl g w).alloc _).alloc _).trans hk1)
    | (refine storeB sty45 rfl (.tmp 4) (.tmp 11) rfl _ _ _ _ rfl (by simpa using hx1) rfl rfl rfl rfl ?_; intro w4 hx4 hw4; have hg4 := hg1.wrote hx1 (by decide) (by simp; omega) (by simpa using hw4); have hk4 := hk1.wrote hw4 (by omega); simp only [Act.put]))
  refine bodyPost_ret (resultsB1 sty45 rfl _ _ _ _ _ rfl hx4 rfl) rfl ?_
  exact ⟨ret_two rfl rfl, hg4, hk4⟩

theorem valid_len {p : Bs} (h : valid p = true) : p.length ≤ 1024 := by
  unfold valid at h
  simp only [Bool.and_eq_true, decide_eq_true_eq] at h
  exact h.1.1

/-- What ReadFile answers; what a call at way k asks. -/
def rdData (es : List Ent) (p : Bs) : Bs := if valid p then dataOf (look es p) else []
def rdErr (es : List Ent) (p : Bs) : Nat := if valid p then readErr (look es p) else 370
def asksOf (caps k : Nat) (p : Bs) : List Ask := if valid p then [⟨way caps k, p⟩] else []
theorem rdData_err (es : List Ent) (p : Bs) (h : rdErr es p ≠ 0) : rdData es p = [] := by
  revert h
  unfold rdErr rdData
  cases valid p with
  | false => intro _; rfl
  | true =>
    simp only [if_true]
    rcases look es p with _ | _ | d
    · intro _; rfl
    · intro _; rfl
    · intro h; exact absurd rfl h

theorem preadFile (g : Nat) (A : Option Addr) (c : Nat) (es : List Ent) (caps : Nat) (blind : Bool) (qs : List Ask) (p : Bs) (w : World) (hg : StF w g A c es caps blind qs) (hf : Fine es) (he : Env w) (hcaps : caps < 4294967296) (hps : p.length ≤ 140737488351232) (hl : qs.length ≤ 1099511627776) :
    Calls Tryz.prog 48 #[.pointer (some ⟨g, 0, none⟩), .string ⟨p.toArray⟩] w fun e w' =>
      e = .returned (.tuple #[.string ⟨(rdData es p).toArray⟩, errV (rdErr es p)]) ∧ StF w' g A c es caps blind (qs ++ asksOf caps 1 p) ∧ Kp g w w' := by
  unfold rdData rdErr asksOf
  have hlt := hg.lt
  obtain ⟨v, hv⟩ : ∃ v, valid p = v := ⟨_, rfl⟩
  rw [hv]
  have cv := fun W (hW : Env W) => pvalid p W hps hW
  rw [hv] at cv
  cases v with
  | false =>
    simp only [Bool.false_eq_true, if_false, List.append_nil]
    go_enter Tryz.func48, Tryz.ntmps48
    go_wp2_with (go_at_call 28; refine (cv _ he).mono ?_; rintro e w1 ⟨rfl, hb1⟩)
    go_returns
    exact ⟨rfl, hg.below hb1, Kp.of_below hb1⟩
  | true =>
    have hp2 : p.length ≤ 1024 := valid_len hv
    simp only [if_true]
    obtain ⟨b, hb⟩ : ∃ b, hasCap caps 1 = b := ⟨_, rfl⟩
    have hw : way caps 1 = if b then 1 else 5 := by unfold way; rw [hb]
    rw [hw]
    have h1 := noRead
    have h2 := yesRead
    cases b with
    | true =>
      simp only [if_true]
      go_enter Tryz.func48, Tryz.ntmps48
      go_wp2_with (first
        | (go_at_call 28; refine (cv _ he).mono ?_; rintro e w1 ⟨rfl, hb1⟩; have hg1 := hg.below hb1; have hz1 := hb1.size)
        | (go_at_call 40; refine (pas1 g A es.length c caps blind qs hcaps _ hg1.st).mono ?_; rw [hb]; rintro e w2 ⟨rfl, hb2, hx, hy⟩; have hg2 := hg1.below hb2; have hk2 := (Kp.of_below (g := g) hb1).below hb2; unfold asV; dsimp only; have hz2 := hb2.size)
        | (go_at_call 166; refine (pmRead g _ A c es caps blind qs p _ hg2 hf hp2 hl hx hy (by omega)).mono ?_; rintro e w3 ⟨rfl, hg3, hk3⟩; have hk3 := hk2.trans hk3))
      go_returns
      exact ⟨rfl, hg3, hk3⟩
    | false =>
      simp only [Bool.false_eq_true, if_false]
      obtain ⟨r, hr⟩ : ∃ r, look es p = r := ⟨_, rfl⟩
      rw [hr]
      rcases r with _ | _ | d
      all_goals
        go_enter Tryz.func48, Tryz.ntmps48
        go_wp2_with (first
          | (go_at_call 28; refine (cv _ he).mono ?_; rintro e w1 ⟨rfl, hb1⟩; have hg1 := hg.below hb1; have hz1 := hb1.size)
          | (go_at_call 40; refine (pas1 g A es.length c caps blind qs hcaps _ hg1.st).mono ?_; rw [hb]; rintro e w2 ⟨rfl, hb2, hx, hy⟩; have hg2 := hg1.below hb2; have hk2 := (Kp.of_below (g := g) hb1).below hb2; unfold asV; dsimp only; have hz2 := hb2.size)
          | (go_at_call 74; refine (popen g A c es caps blind qs p _ hg2 hf hp2 hl).mono ?_; rw [hr]; dsimp only [missing]; simp only [errV0, errV371]; rintro e w3 ⟨rfl, hg3, hk3⟩; have hk3 := hk2.trans hk3; have hz3 := hk3.size)
          | (refine storeB sty122 rfl (.tmp 8) (.tmp 30) rfl _ _ _ _ rfl (blkEnt _) rfl rfl rfl rfl ?_; intro w4 hz4 hw4; have hg4 := (hg3.alloc _).wrote (blkEnt _) (by decide) (by omega) hw4; have hk4 := (hk3.alloc _).wrote hw4 (by omega); have hc4 := hz4.cell; dsimp only [entArr, dataOf] at hc4; simp only [Act.put]))
        go_returns
        exact ⟨ret_two rfl rfl, hg4, hk4⟩
end Go.Proofs.YtkaoechldamggaaGreatDoor
