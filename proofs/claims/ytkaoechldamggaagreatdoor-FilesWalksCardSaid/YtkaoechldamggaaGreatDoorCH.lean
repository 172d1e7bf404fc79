/- The reference's walk. The reference's Walk. -/
import Derived.Test.YtkaoechldamggaaGreatDoorCG
import Derived.Test.YtkaoechldamggaaGreatDoorCD
import Derived.Test.YtkaoechldamggaaGreatDoorCF
namespace Go.Proofs.YtkaoechldamggaaGreatDoor
open Go Go.RowKit
set_option maxRecDepth 100000

/-- What the reference tells of a path. -/
def outB (es : List Ent) (caps : Nat) (blind : Bool) (skip : List Bs) (p : Bs) (dir : Bool) : Bool := if skip.contains p then !dir else dir && (rdDirErr es p caps blind != 0)

theorem out_zero {es : List Ent} {caps : Nat} {blind : Bool} {skip : List Bs} {n : Nat} {p : Bs} {dir : Bool} (h : (walkF es caps blind skip (n + 1) p dir).out = 0) : outB es caps blind skip p dir = false := by
  unfold walkF at h; unfold outB
  split at h
  · rw [if_pos ‹_›]
    cases dir
    · cases h
    · rfl
  · rw [if_neg ‹_›]
    cases dir
    · rfl
    · rw [if_neg (by decide)] at h
      split at h
      · rename_i h1; rw [h1]; rfl
      · rename_i h1; exact absurd h h1
theorem out_one {es : List Ent} {caps : Nat} {blind : Bool} {skip : List Bs} {n : Nat} {p : Bs} {dir : Bool} (h : (walkF es caps blind skip (n + 1) p dir).out = 1) : outB es caps blind skip p dir = true := by
  unfold walkF at h; unfold outB
  split at h
  · rw [if_pos ‹_›]
    cases dir
    · rfl
    · cases h
  · rw [if_neg ‹_›]
    cases dir
    · cases h
    · rw [if_neg (by decide)] at h
      split at h
      · exact absurd h (goL_out _ _)
      · exact absurd h (rdDirErr_ne1 es p caps blind)

/-- The walker at k: a store, what is left out, the paths told, what was asked, the error. -/
structure Wr (W : World) (k g B : Nat) (A : Option Addr) (c : Nat) (es : List Ent) (caps : Nat) (blind : Bool) (SA : Option Addr) (sc : Nat) (skip ps : List Bs) (qs : List Ask) (er : Nat) : Prop where
  ex : ∃ pv av, Blk W k 134 #[.slice A es.length c, .int .u32 (caps : Int), .bool blind, .slice SA skip.length sc, pv, av, .int .i64 (er : Int)] ∧ W.ownsRow B 9 1 pv ps.length (strCells ps) ∧ W.ownsRow B 102 2 av qs.length (askCells qs)
  rd : Rd W g A (entCells es)
  sk : Rd W g SA (strCells skip)
section
variable {W W' : World} {k g B : Nat} {A : Option Addr} {c : Nat} {es : List Ent} {caps : Nat} {blind : Bool} {SA : Option Addr} {sc : Nat} {skip ps : List Bs} {qs : List Ask} {er : Nat}
theorem Wr.lt (h : Wr W k g B A c es caps blind SA sc skip ps qs er) : k < W.heap.size := by
  obtain ⟨pv, av, h1, _⟩ := h.ex
  exact h1.lt
theorem Wr.below (h : Wr W k g B A c es caps blind SA sc skip ps qs er) (hgk : g < k) (hb : Below W.heap.size W W') : Wr W' k g B A c es caps blind SA sc skip ps qs er := by
  obtain ⟨pv, av, h1, h2, h3⟩ := h.ex
  have := h1.lt
  exact ⟨⟨pv, av, h1.below hb h1.lt, own_below h2 hb, own_below h3 hb⟩, h.rd.below hb (by omega), h.sk.below hb (by omega)⟩
theorem Kw.grown_own {e sz n : Nat} {v : Value} {xs : List Value} (ho : W.ownsRow B e sz v n xs) (he : e = 9 ∨ e = 102) (hgB : g ≤ B) (hg : W.grownBy W' v.ownBlock) : Kw g k W W' := by
  refine ⟨hg.os, hg.tape, hg.output, hg.size, fun i hi hig => hg.block i hi fun e => ?_, fun i hi hig hik ht h9 => hg.block i hi fun e => ?_⟩
  · have := (ho.lt i e.symm).1
    omega
  · rcases ho.2 with ⟨h0, _⟩ | ⟨x, cap, cur, h0, _, hh, _⟩
    · rw [h0] at e; cases e
    · rw [h0] at e; cases e
      rcases he with rfl | rfl
      · exact h9 _ hh
      · exact ht _ hh
theorem Kw.setk (hgk : g < k) (i : Nat) (v : Value) : Kw g k W (W.setCell ⟨k, i, none⟩ v) :=
  ⟨rfl, rfl, rfl, by simp [World.setCell], fun j _ hj => Below.heap_setCell W _ v j (by show j ≠ k; omega), fun j _ _ hj _ _ => Below.heap_setCell W _ v j hj⟩
theorem grown_setk (i : Nat) (v : Value) : W.grownBy (W.setCell ⟨k, i, none⟩ v) (some k) := ⟨rfl, rfl, rfl, by simp [World.setCell], fun j _ hj => Below.heap_setCell W ⟨k, i, none⟩ _ j (fun e => hj (by rw [e]))⟩
/-- A path told. -/
theorem Wr.path {v' : Value} {W2 : World} {q : Bs} {pv av : Value} (hgk : g < k) (hgB : g ≤ B) (hb : Blk W k 134 #[.slice A es.length c, .int .u32 (caps : Int), .bool blind, .slice SA skip.length sc, pv, av, .int .i64 (er : Int)]) (hp : W.ownsRow B 9 1 pv ps.length (strCells ps)) (hq : W.ownsRow B 102 2 av qs.length (askCells qs))
    (hr : Rd W g A (entCells es)) (hs : Rd W g SA (strCells skip)) (hp2 : W2.ownsRow B 9 1 v' (ps ++ [q]).length (strCells (ps ++ [q]))) (hg : W.grownBy W2 pv.ownBlock) :
    Wr (W2.setCell ⟨k, 4, none⟩ v') k g B A c es caps blind SA sc skip (ps ++ [q]) qs er ∧ Kw g k W (W2.setCell ⟨k, 4, none⟩ v') := by
  have hk : Kw g k W (W2.setCell ⟨k, 4, none⟩ v') := (Kw.grown_own hp (.inl rfl) hgB hg).trans (Kw.setk hgk 4 v')
  have hb2 := hb.grown hg (own_ne_blk hp hb (by decide))
  have hlow := hk.low_ (B := g) (Nat.le_refl _) (by have := hb.lt; omega)
  refine ⟨⟨⟨v', av, hb2.set_ 4 v', ?_, ?_⟩, hr.below hlow (Nat.le_refl _), hs.below hlow (Nat.le_refl _)⟩, hk⟩
  · exact hp2.kept (grown_setk 4 v') (.inr (own_ne_blk hp2 hb2 (by decide)))
  · exact (own_kept3 hq (by decide) hp hg).kept (grown_setk 4 v') (.inr (own_ne_blk (own_kept3 hq (by decide) hp hg) hb2 (by decide)))
/-- What was asked, told. -/
theorem Wr.ask {v' : Value} {W2 : World} {l : List Ask} {pv av : Value} (hgk : g < k) (hgB : g ≤ B) (hb : Blk W k 134 #[.slice A es.length c, .int .u32 (caps : Int), .bool blind, .slice SA skip.length sc, pv, av, .int .i64 (er : Int)]) (hp : W.ownsRow B 9 1 pv ps.length (strCells ps)) (hq : W.ownsRow B 102 2 av qs.length (askCells qs))
    (hr : Rd W g A (entCells es)) (hs : Rd W g SA (strCells skip)) (hq2 : W2.ownsRow B 102 2 v' (qs ++ l).length (askCells (qs ++ l))) (hg : W.grownBy W2 av.ownBlock) :
    Wr (W2.setCell ⟨k, 5, none⟩ v') k g B A c es caps blind SA sc skip ps (qs ++ l) er ∧ Kw g k W (W2.setCell ⟨k, 5, none⟩ v') := by
  have hk : Kw g k W (W2.setCell ⟨k, 5, none⟩ v') := (Kw.grown_own hq (.inr rfl) hgB hg).trans (Kw.setk hgk 5 v')
  have hb2 := hb.grown hg (own_ne_blk hq hb (by decide))
  have hlow := hk.low_ (B := g) (Nat.le_refl _) (by have := hb.lt; omega)
  refine ⟨⟨⟨pv, v', hb2.set_ 5 v', ?_, ?_⟩, hr.below hlow (Nat.le_refl _), hs.below hlow (Nat.le_refl _)⟩, hk⟩
  · exact (own_kept3 hp (by decide) hq hg).kept (grown_setk 5 v') (.inr (own_ne_blk (own_kept3 hp (by decide) hq hg) hb2 (by decide)))
  · exact hq2.kept (grown_setk 5 v') (.inr (own_ne_blk hq2 hb2 (by decide)))
/-- The error told. -/
theorem Wr.err (h : Wr W k g B A c es caps blind SA sc skip ps qs er) (hgk : g < k) (n : Nat) : Wr (W.setCell ⟨k, 6, none⟩ (.int .i64 (n : Int))) k g B A c es caps blind SA sc skip ps qs n ∧ Kw g k W (W.setCell ⟨k, 6, none⟩ (.int .i64 (n : Int))) := by
  obtain ⟨pv, av, hb, hp, hq⟩ := h.ex
  have hk : Kw g k W (W.setCell ⟨k, 6, none⟩ (.int .i64 (n : Int))) := Kw.setk hgk 6 _
  have hlow := hk.low_ (B := g) (Nat.le_refl _) (by have := hb.lt; omega)
  exact ⟨⟨⟨pv, av, hb.set_ 6 _, hp.kept (grown_setk 6 _) (.inr (own_ne_blk hp hb (by decide))), hq.kept (grown_setk 6 _) (.inr (own_ne_blk hq hb (by decide)))⟩, h.rd.below hlow (Nat.le_refl _), h.sk.below hlow (Nat.le_refl _)⟩, hk⟩
end

theorem push_ask1 {W : World} {ops : Array Oper} {rest : List Oper} {o : Oper} {a : Act} {Q : Exit → Act → World → Prop} (s x : Operand) (base : Nat) (v : Value) (hgd : o.guard = none) (xs : List Ask) (l : Ask) (ho : o.op = .call { callee := .builtin .append, args := #[s, x], argTypes := #[35, 35] }) (hs : a.eval s = v) (hown : W.ownsRow base 102 2 v xs.length (askCells xs))
    (ad : Option Addr) (c : Nat) (hx : a.eval x = .slice ad 1 c) (hr : Rd W W.heap.size ad (askCells [l])) (hn : xs.length ≤ 1099511627776) (hbase : base ≤ W.heap.size)
    (h : ∀ v' w', w'.ownsRow base 102 2 v' (xs ++ [l]).length (askCells (xs ++ [l])) → W.grownBy w' v.ownBlock → wpList Tryz.prog ops Q rest (a.put o.dst v') w') :
    wpList Tryz.prog ops Q (o :: rest) a W := by
  obtain ⟨i, hi, hz0, hz1, hz2⟩ := info_parts (show (Tryz.prog.info? 102).map (fun i => (i.zero, i.size, i.bytes)) = some (some (.agg #[.int .i64 0, .string ⟨#[]⟩]), 2, 24) by kernel_rfl)
  obtain ⟨ad', rfl, -, -⟩ := hr.ask 0 (by simp)
  refine wpList_append_own _ hgd s x 35 ho base 102 i _ 2 24 Tryz.underlying35 hi hz0 hz1 hz2 rfl (by decide) v xs.length (askCells xs) hs hown ad' 1 c (askCells [l]) hx rfl (fun j u hj => by obtain ⟨a1, e, _, h⟩ := hr j u hj; cases e; exact h) (by intro u hu; simp only [askCells, askCell, List.flatMap_cons, List.flatMap_nil, List.append_nil, List.mem_cons, List.not_mem_nil, or_false] at hu; rcases hu with rfl | rfl <;> rfl) (by simp only [maxLen]; omega) (by omega) hbase ?_
  intro v' w' h1 h2 _
  refine h v' w' ?_ h2
  simpa [askCells, List.flatMap_append] using h1

set_option maxHeartbeats 4000000 in
theorem rto (es : List Ent) (caps : Nat) (blind : Bool) (skip : List Bs) (k g B : Nat) (A SA : Option Addr) (c sc cap0 : Nat) (hfit : FitP es cap0) (hg5 : 5 ≤ g) (hgk : g < k) (hgB : g < B) (hcaps : caps < 4294967296) (hsn : skip.length ≤ 1099511627776) :
    ∀ (n : Nat) (p : Bs) (dir : Bool) (ps : List Bs) (qs : List Ask) (W : World), fuelOk n p → valid p = true → Wr W k g B A c es caps blind SA sc skip ps qs 0 → Env W → B ≤ W.heap.size →
      ps.length + (walkF es caps blind skip n p dir).paths.length ≤ 1099511627776 → qs.length + (walkF es caps blind skip n p dir).asks.length ≤ 1099511627776 →
    Calls Tryz.prog 60 #[.pointer (some ⟨k, 0, none⟩), .string ⟨p.toArray⟩, .bool dir] W fun e w' =>
      e = .returned (.bool (outB es caps blind skip p dir)) ∧ Wr w' k g B A c es caps blind SA sc skip (ps ++ (walkF es caps blind skip n p dir).paths) (qs ++ (walkF es caps blind skip n p dir).asks) (errN (walkF es caps blind skip n p dir).out) ∧ Kw g k W w' := by
  have hf := hfit.fine
  intro n
  induction n with
  | zero =>
    intro p dir ps qs W h
    rcases h with ⟨_, h⟩ | ⟨_, h2, h3⟩ <;> omega
  | succ n ih =>
    intro p dir ps qs W hfu hval hk he hBs hn hq
    obtain ⟨pv, av, hb, hop, hoq⟩ := hk.ex
    have hrd := hk.rd
    have hsk := hk.sk
    obtain ⟨A1, c1, rfl, -, -, -⟩ := own_rd hop
    have hbc := hb.cell
    have hkl := hb.lt
    have hp1 : ps.length ≤ 1099511627776 := by omega
    unfold walkF at hn hq ⊢
    unfold outB
    obtain ⟨r, hr⟩ : ∃ r, skip.contains p = r := ⟨_, rfl⟩
    rw [hr] at hn hq ⊢
    cases r with
    | true =>
      simp only [if_true] at hn hq ⊢
      have HR := Lib.hid hr
      clear hr hk
      cases dir
      all_goals
        simp only [errN, if_true, if_false, Bool.false_eq_true, Bool.not_true, Bool.not_false, List.append_nil]
        go_enter Tryz.func60, Tryz.ntmps60
        go_wp2_with (at_builtin; go_loud (refine push_str _ _ _ B (.slice A1 ps.length c1) rfl ps _ p rfl rfl rfl hop rfl hp1 hBs ?_; intro v' w2 ho2 hg2; obtain ⟨A2, c2, rfl, -, -, -⟩ := own_rd ho2; have hb2 := hb.grown hg2 (own_ne_blk hop hb (by decide)); have hbc2 := hb2.cell; have hbf2 := hb2.frozen; obtain ⟨hk3, hkw3⟩ := Wr.path (q := p) hgk (Nat.le_of_lt hgB) hb hop hoq hrd hsk ho2 hg2; have hb3 := hb2.set_ 4 (.slice A2 (ps.length + 1) c2); have hbc3 := hb3.cell))
        rw [show (ps ++ [p]).length = ps.length + 1 by simp] at hk3 hkw3
        generalize (w2.setCell ⟨k, 4, none⟩ (.slice A2 (ps.length + 1) c2)) = W3 at *
        clear hbc hbc2 hbf2
        go_loop [29] (fun i => ∃ j : Nat, j ≤ skip.length ∧ i = .int .i64 j ∧ (∀ i (hi : i < skip.length), i < j → skip[i] ≠ p)) (fun i => skip.length - (intOf i).toNat)
        case atStart => exact ⟨0, Nat.zero_le _, rfl, fun _ _ h => by omega⟩
        case round =>
          obtain ⟨j, hj, rfl, hne⟩ := hrel
          by_cases hjl : j < skip.length
          · obtain ⟨ad, rfl, -, e1⟩ := hk3.sk.str j hjl
            by_cases hq : (skip[j] == p) = true
            · have HN := Lib.hid hne
              clear hne
              go_wp2_with fail
              go_returns
              exact ⟨rfl, hk3, hkw3⟩
            · have hq : (skip[j] == p) = false := by simpa using hq
              have hq2 : skip[j] ≠ p := by simpa using hq
              have HN : Hid (∀ i (hi : i < skip.length), i < j + 1 → skip[i] ≠ p) := Lib.hid fun i hi hlt => by
                rcases Nat.lt_or_ge i j with h | h
                · exact hne i hi h
                · obtain rfl : i = j := by omega
                  exact hq2
              clear hne hq2
              go_wp2_with fail
              go_round
              case rel => exact ⟨j + 1, by omega, by go_num, HN.out⟩
              case measure => simp [intOf]; omega
          · exfalso
            have hm := HR.out
            rw [List.contains_iff_mem] at hm
            obtain ⟨i, hi, he⟩ := List.getElem_of_mem hm
            exact hne i hi (by omega) he
    | false =>
      have hnot : ∀ i (hi : i < skip.length), (skip[i] == p) = false := fun i hi => by
        have : p ∉ skip := fun h => by rw [← List.contains_iff_mem, hr] at h; cases h
        have h2 : skip[i] ≠ p := fun e => this (e ▸ List.getElem_mem hi)
        simpa using h2
      have HNOT := Lib.hid hnot
      clear hnot hr hk
      simp only [Bool.false_eq_true, if_false] at hn hq ⊢
      cases dir with
      | false =>
        simp only [if_true, Bool.false_and, List.append_nil, errN, if_false, Nat.zero_ne_one]
        go_enter Tryz.func60, Tryz.ntmps60
        go_wp2_with (at_builtin; go_loud (refine push_str _ _ _ B (.slice A1 ps.length c1) rfl ps _ p rfl rfl rfl hop rfl hp1 hBs ?_; intro v' w2 ho2 hg2; obtain ⟨A2, c2, rfl, -, -, -⟩ := own_rd ho2; have hb2 := hb.grown hg2 (own_ne_blk hop hb (by decide)); have hbc2 := hb2.cell; have hbf2 := hb2.frozen; obtain ⟨hk3, hkw3⟩ := Wr.path (q := p) hgk (Nat.le_of_lt hgB) hb hop hoq hrd hsk ho2 hg2; have hb3 := hb2.set_ 4 (.slice A2 (ps.length + 1) c2); have hbc3 := hb3.cell))
        rw [show (ps ++ [p]).length = ps.length + 1 by simp] at hk3 hkw3
        generalize (w2.setCell ⟨k, 4, none⟩ (.slice A2 (ps.length + 1) c2)) = W3 at *
        clear hbc hbc2 hbf2 hb3 hbc3 hb2
        obtain ⟨pv3, av3, kb3, kp3, kq3⟩ := hk3.ex
        have kc3 := kb3.cell
        go_loop [29] (fun i => ∃ j : Nat, j ≤ skip.length ∧ i = .int .i64 j) (fun i => skip.length - (intOf i).toNat)
        case atStart => exact ⟨0, Nat.zero_le _, rfl⟩
        case round =>
          obtain ⟨j, hj, rfl⟩ := hrel
          by_cases hjl : j < skip.length
          · obtain ⟨ad, rfl, -, e1⟩ := hk3.sk.str j hjl
            have hq := HNOT.out j hjl
            go_wp2_with fail
            go_round
            case rel => exact ⟨j + 1, by omega, by go_num⟩
            case measure => simp [intOf]; omega
          · go_wp2_with fail
            go_returns
            exact ⟨rfl, hk3, hkw3⟩
      | true =>
        simp only [Bool.true_eq_false, if_false, Bool.true_and] at hn hq ⊢
        have hps := valid_len hval
        have hask : asksOf caps 2 p = [⟨way caps 2, p⟩] := by unfold asksOf; rw [if_pos hval]
        have crd := fun (W : World) (hr : Rd W W.heap.size A (entCells es)) (he : Env W) => rReadDir A c es caps blind p W hr hf he hcaps (by omega)
        rw [hask] at crd hn hq ⊢
        obtain ⟨en, hen⟩ : ∃ en, rdDirErr es p caps blind = en := ⟨_, rfl⟩
        rw [hen] at crd hn hq ⊢
        by_cases hn0 : en = 0
        · subst hn0
          rw [if_pos rfl] at hn hq ⊢
          obtain ⟨f, hfd⟩ : ∃ f : Inf → WR, (fun x => walkF es caps blind skip n (join p x.name) x.dir) = f := ⟨_, rfl⟩
          rw [hfd] at hn hq ⊢
          have hlc := rdDir_count hf p caps blind
          obtain ⟨l, hll⟩ : ∃ l, rdDirLst es p caps blind = l := ⟨_, rfl⟩
          rw [hll] at crd hn hq hlc ⊢
          have hN : errN (goL f l).out = (goL f l).out := by unfold errN; rw [if_neg (goL_out f l)]
          have HF := Lib.hid hfd
          have HL := Lib.hid hll
          simp only [bne_self_eq_false]
          dsimp only at hn hq ⊢
          rw [hN]
          have hql : qs.length ≤ 1099511627776 := by omega
          clear hfd hll hen hN
          go_enter Tryz.func60, Tryz.ntmps60
          go_wp2_with (at_builtin; go_loud (refine push_str _ _ _ B (.slice A1 ps.length c1) rfl ps _ p rfl rfl rfl hop rfl hp1 hBs ?_; intro v' w2 ho2 hg2; obtain ⟨A2, c2, rfl, -, -, -⟩ := own_rd ho2; have hb2 := hb.grown hg2 (own_ne_blk hop hb (by decide)); have hbc2 := hb2.cell; have hbf2 := hb2.frozen; obtain ⟨hk3, hkw3⟩ := Wr.path (q := p) hgk (Nat.le_of_lt hgB) hb hop hoq hrd hsk ho2 hg2; have hb3 := hb2.set_ 4 (.slice A2 (ps.length + 1) c2); have hbc3 := hb3.cell))
          rw [show (ps ++ [p]).length = ps.length + 1 by simp] at hk3 hkw3
          generalize (w2.setCell ⟨k, 4, none⟩ (.slice A2 (ps.length + 1) c2)) = W3 at *
          clear hbc hbc2 hbf2 hb3 hbc3 hb2
          obtain ⟨pv3, av3, kb3, kp3, kq3⟩ := hk3.ex
          have kc3 := kb3.cell
          go_loop [29] (fun i => ∃ j : Nat, j ≤ skip.length ∧ i = .int .i64 j) (fun i => skip.length - (intOf i).toNat)
          case atStart => exact ⟨0, Nat.zero_le _, rfl⟩
          case round =>
            obtain ⟨j, hj, rfl⟩ := hrel
            by_cases hjl : j < skip.length
            · obtain ⟨ad, rfl, -, e1⟩ := hk3.sk.str j hjl
              have hq := HNOT.out j hjl
              go_wp2_with fail
              go_round
              case rel => exact ⟨j + 1, by omega, by go_num⟩
              case measure => simp [intOf]; omega
            · have he3 := he.kw hkw3 hg5
              have hB3 := Nat.le_trans hBs hkw3.size
              have hkl3 := kb3.lt
              have hr3 := hk3.rd.more (B' := W3.heap.size) (by omega)
              go_wp2_with (first
                | (go_at_call 25; go_loud (refine (crd _ hr3 he3).mono ?_; rintro e w4 ⟨u4, v4, rfl, ho4, hq4, hb4⟩; obtain ⟨A4, c4, rfl, -, -, -⟩ := own_rd ho4; obtain ⟨A5, c5, rfl, -, -, hr5⟩ := own_rd hq4; have hk4 := hk3.below hgk hb4; obtain ⟨pv4, av4, kb4, kp4, kq4⟩ := hk4.ex; obtain ⟨A6, c6, rfl, -, -, -⟩ := own_rd kq4; have kc4 := kb4.cell; have hB4 := Nat.le_trans hB3 hb4.size))
                | (go_loud (refine push_ask1 _ _ B (.slice A6 qs.length c6) rfl qs ⟨way caps 2, p⟩ rfl rfl kq4 A5 c5 rfl hr5 hql hB4 ?_; intro v' w5 ho5 hg5'; obtain ⟨A7, c7, rfl, -, -, -⟩ := own_rd ho5; have kb5 := kb4.grown hg5' (own_ne_blk kq4 kb4 (by decide)); have kc5 := kb5.cell; have kf5 := kb5.frozen; obtain ⟨hk6, hkw6⟩ := Wr.ask (l := [⟨way caps 2, p⟩]) hgk (Nat.le_of_lt hgB) kb4 kp4 kq4 hk4.rd hk4.sk ho5 hg5'; have kb6 := kb5.set_ 5 (.slice A7 (qs.length + 1) c7); have kc6 := kb6.cell; have kf6 := kb6.frozen)))
              rw [show (qs ++ [(⟨way caps 2, p⟩ : Ask)]).length = qs.length + 1 by simp] at hk6 hkw6
              generalize (w5.setCell ⟨k, 5, none⟩ (.slice A7 (qs.length + 1) c7)) = W6 at *
              have hg3 : g < W3.heap.size := by omega
              have hne1 : (Value.slice A4 l.length c4).ownBlock ≠ some g := fun e => by have := (ho4.lt _ e).1; omega
              have hne2 : (Value.slice A4 l.length c4).ownBlock ≠ some k := fun e => by have := (ho4.lt _ e).1; omega
              have ho6 := hkw6.own ho4 (by decide) (by decide) hne1 hne2
              have hkw := (hkw3.below hb4).trans hkw6
              have hB6 : B ≤ W6.heap.size := Nat.le_trans hBs hkw.size
              clear hkw6 hb4 ho4 hq4 hr5 kb4 kp4 kq4 kc4 ho5 hg5' kb5 kc5 kf5 kb6 kc6 kf6 hk4 hk3 hkw3 kb3 kp3 kq3 kc3 crd HNOT hr3 he3
              go_loopw [68] (fun i wr => ∃ j : Nat, j ≤ l.length ∧ i = .int .i64 j ∧ (∀ i (hi : i < l.length), i < j → (f l[i]).out = 0) ∧ Wr wr k g B A c es caps blind SA sc skip (ps ++ [p] ++ (l.take j).flatMap fun x => (f x).paths) (qs ++ [⟨way caps 2, p⟩] ++ (l.take j).flatMap fun x => (f x).asks) 0 ∧ wr.ownsRow W3.heap.size 45 3 (.slice A4 l.length c4) l.length (infCells l) ∧ Kw g k W wr ∧ B ≤ wr.heap.size) (fun i _ => l.length - (intOf i).toNat)
              case atStart => exact ⟨0, Nat.zero_le _, rfl, fun _ _ h => by omega, by simpa using hk6, ho6, hkw, hB6⟩
              case round =>
                clear hk6 ho6 hkw hB6
                obtain ⟨j, hj, rfl, hout, hkj, hij, hkwj, hBj⟩ := hrel
                by_cases hjl : j < l.length
                · obtain ⟨ad, rfl, -, e1, e2, e3⟩ := own_inf hij j hjl
                  have hxm : l[j] ∈ rdDirLst es p caps blind := by rw [HL.out]; exact List.getElem_mem hjl
                  obtain ⟨hns, hnd⟩ := fit_LG hfit caps blind p _ hxm
                  obtain ⟨ee, hee, hpre⟩ := (rdDir_ok es caps blind).pre hxm
                  have hjl2 : (join p l[j].name).length ≤ 1024 := Nat.le_trans hpre.length_le (hf.each ee hee).1
                  have hfu2 := fuel_next hfu hnd (join_ne p hnd) hjl2
                  have hv2 : valid (join p l[j].name) = true := by
                    have hm : l[j] ∈ listOf es p := by
                      rcases rdDir_cases es p caps blind with e | e
                      · rw [← e]; exact hxm
                      · rw [e] at hxm; cases hxm
                    exact (here_kid hfit hm).1
                  have hrm := goL_room j hjl hout
                  have hstop := goL_stop j hjl hout
                  have hp2 := inf_take (fun x => (f x).paths) j hjl
                  have hq2 := inf_take (fun x => (f x).asks) j hjl
                  have hout2 : (f l[j]).out = 0 → ∀ i (hi : i < l.length), i < j + 1 → (f l[i]).out = 0 := fun h0 i hi hlt => by
                    rcases Nat.lt_or_ge i j with h | h
                    · exact hout i hi h
                    · obtain rfl : i = j := by omega
                      exact h0
                  have hfx : f l[j] = walkF es caps blind skip n (join p l[j].name) l[j].dir := by rw [← HF.out]
                  have hnl : l[j].name.length ≤ 1024 := by
                    have h9 : l[j].name.length ≤ (join p l[j].name).length := by unfold join; split <;> simp <;> omega
                    omega
                  clear hout
                  obtain ⟨x, hx⟩ : ∃ x, l[j] = x := ⟨_, rfl⟩
                  rw [hx] at e1 e2 e3 hfu2 hfx hnl hrm hstop hp2 hq2 hout2 hv2
                  have hjx : (join p x.name).length ≤ 1024 := by rw [← hx]; exact hjl2
                  clear hx hxm hns hnd hpre hjl2
                  obtain ⟨n', rfl⟩ : ∃ n', n = n' + 1 := ⟨n - 1, by rcases hfu2 with ⟨_, h⟩ | ⟨_, h1, h2⟩ <;> omega⟩
                  have hz0 : (f x).out = 0 → outB es caps blind skip (join p x.name) x.dir = false := fun h => by rw [hfx] at h; exact out_zero h
                  have hz1 : (f x).out = 1 → outB es caps blind skip (join p x.name) x.dir = true := fun h => by rw [hfx] at h; exact out_one h
                  rw [List.length_cons] at hn
                  rw [List.length_append] at hq
                  have ihx := fun W h1 h2 h3 => ih (join p x.name) x.dir (ps ++ [p] ++ (l.take j).flatMap fun x => (f x).paths) (qs ++ [⟨way caps 2, p⟩] ++ (l.take j).flatMap fun x => (f x).asks) W hfu2 hv2 h1 h2 h3 (by rw [← hfx]; simp only [List.length_append, List.length_singleton]; omega) (by rw [← hfx]; simp only [List.length_append, List.length_singleton] at hq ⊢; omega)
                  rw [← hfx] at ihx
                  have cj := fun W => rjoin p x.name W (by omega) (by omega)
                  obtain ⟨R, hR⟩ : ∃ R, f x = R := ⟨_, rfl⟩
                  rw [hR] at ihx hrm hstop hp2 hq2 hout2 hz0 hz1
                  obtain ⟨ob, hob⟩ : ∃ ob, outB es caps blind skip (join p x.name) x.dir = ob := ⟨_, rfl⟩
                  rw [hob] at ihx hz0 hz1
                  have bA : Below wr.heap.size wr (wr.alloc (.cells #[.string ⟨x.name.toArray⟩, .bool x.dir, .int .i64 (x.size : Int)] 45)).drew := by go_grown
                  have hkA := hkj.below hgk bA
                  have hkwA := hkwj.below bA
                  have heA := he.kw hkwA hg5
                  have hBA := Nat.le_trans hBj bA.size
                  have hijA := own_below hij bA
                  have xA : Blk (wr.alloc (.cells #[.string ⟨x.name.toArray⟩, .bool x.dir, .int .i64 (x.size : Int)] 45)) wr.heap.size 45 _ := Blk.newAt _ _ rfl rfl
                  have xcA := xA.drew1.cell
                  have ihx := ihx _ hkA heA hBA
                  have HS := Lib.hid hstop
                  have HP := Lib.hid (And.intro hp2 hq2)
                  have HO := Lib.hid hout2
                  have hne1 : (Value.slice (some ad) l.length c4).ownBlock ≠ some g := fun e => by have := (hij.lt _ e).1; omega
                  have hne2 : (Value.slice (some ad) l.length c4).ownBlock ≠ some k := fun e => by have := (hij.lt _ e).1; omega
                  have hkr : k < wr.heap.size := hkj.lt
                  have hxk : wr.heap.size ≠ g := by omega
                  have hxk2 : wr.heap.size ≠ k := by omega
                  have hlast : ∀ {w6 : World}, Kw g k (wr.alloc (.cells #[.string ⟨x.name.toArray⟩, .bool x.dir, .int .i64 (x.size : Int)] 45)).drew w6 → w6.ownsRow W3.heap.size 45 3 (.slice (some ad) l.length c4) l.length (infCells l) ∧ Kw g k W w6 ∧ B ≤ w6.heap.size ∧ Blk w6 wr.heap.size 45 _ := fun hk6 => ⟨hk6.own hijA (by decide) (by decide) hne1 hne2, hkwA.trans hk6, Nat.le_trans hBA hk6.size, hk6.blk45 xA.drew1 hxk hxk2⟩
                  clear hR hfx hstop hp2 hq2 hout2 hrm hob
                  go_upto_region 18 with fail
                  have hRc : R.out = 0 ∨ R.out = 1 ∨ (R.out ≠ 0 ∧ R.out ≠ 1) := by omega
                  rcases hRc with h0 | h0 | ⟨h0, h1⟩
                  · obtain rfl := hz0 h0
                    have ew : errN R.out = 0 := by rw [h0]; rfl
                    rw [ew] at ihx
                    have H0 := Lib.hid h0
                    clear h0 ew hz0 hz1
                    go_region_with (first
                      | (go_at_call 51; refine (cj _).mono ?_; rintro e w5 ⟨rfl, rfl⟩)
                      | (go_at_call 60; refine ihx.mono ?_; rintro e w6 ⟨rfl, hk6, hkw6⟩; obtain ⟨hi6, hkw7, hB6, xb6⟩ := hlast hkw6; obtain ⟨pv6, av6, kb6, -, -⟩ := hk6.ex; have kc6 := kb6.cell; have xc6 := xb6.cell))
                    all_goals
                      go_wp2_with fail
                      go_roundw
                      case rel => exact ⟨j + 1, by omega, by go_num, HO.out H0.out, by rw [HP.out.1, HP.out.2, ← List.append_assoc, ← List.append_assoc]; exact hk6, hi6, hkw7, hB6⟩
                      case measure => simp [intOf]; omega
                  · obtain rfl := hz1 h0
                    have ew : errN R.out = 0 := by rw [h0]; rfl
                    rw [ew] at ihx
                    have H0 := Lib.hid h0
                    clear h0 ew hz0 hz1
                    first
                    | go_region_with (first
                        | (go_at_call 51; refine (cj _).mono ?_; rintro e w5 ⟨rfl, rfl⟩)
                        | (go_at_call 60; refine ihx.mono ?_; rintro e w6 ⟨rfl, hk6, hkw6⟩; obtain ⟨hi6, hkw7, hB6, xb6⟩ := hlast hkw6; obtain ⟨pv6, av6, kb6, -, -⟩ := hk6.ex; have kc6 := kb6.cell; have xc6 := xb6.cell))
                    | fail "region"
                    all_goals
                      go_wp2_with fail
                      go_returns
                      have h0 := H0.out
                      have hg := HS.out (by omega)
                      rw [h0] at hg
                      rw [hg]
                      exact ⟨rfl, by rw [List.append_assoc, List.append_assoc, List.append_assoc, List.append_assoc] at hk6; simpa [errN] using hk6, hkw7⟩
                  · have ew : errN R.out = R.out := by unfold errN; rw [if_neg h1]
                    rw [ew] at ihx
                    have H0 := Lib.hid (And.intro h0 ew)
                    have hd1 : (((R.out : Int)) == 0) = false := by simpa using h0
                    have hd2 : (((R.out : Int)) != 0) = true := by simpa using h0
                    clear h0 h1 ew hz0 hz1
                    cases ob
                    all_goals
                      first
                      | go_region_with (first
                          | (go_at_call 51; refine (cj _).mono ?_; rintro e w5 ⟨rfl, rfl⟩)
                          | (go_at_call 60; refine ihx.mono ?_; rintro e w6 ⟨rfl, hk6, hkw6⟩; obtain ⟨hi6, hkw7, hB6, xb6⟩ := hlast hkw6; obtain ⟨pv6, av6, kb6, -, -⟩ := hk6.ex; have kc6 := kb6.cell; have xc6 := xb6.cell))
                      | fail "region"
                      all_goals
                        go_wp2_with fail
                        go_returns
                        rw [HS.out H0.out.1, H0.out.2]
                        exact ⟨rfl, by rw [List.append_assoc, List.append_assoc, List.append_assoc, List.append_assoc] at hk6; simpa using hk6, hkw7⟩
                · have hje : l.take j = l := List.take_of_length_le (by omega)
                  rw [hje] at hkj
                  have hg := goL_end (f := f) (l := l) (fun i hi _ => hout i hi (by omega))
                  have e1 : (goL f l).out = 0 := by rw [hg]
                  have e2 : (goL f l).paths = l.flatMap fun x => (f x).paths := by rw [hg]
                  have e3 : (goL f l).asks = l.flatMap fun x => (f x).asks := by rw [hg]
                  have HG := Lib.hid (And.intro e1 (And.intro e2 e3))
                  clear hg e1 e2 e3 hout
                  go_wp2_with fail
                  go_returns
                  obtain ⟨e1, e2, e3⟩ := HG.out
                  rw [e1, e2, e3]
                  exact ⟨rfl, by simpa using hkj, hkwj⟩
        · rw [if_neg hn0] at hn hq ⊢
          have hen1 : en ≠ 1 := by rw [← hen]; exact rdDirErr_ne1 es p caps blind
          have hN : errN en = en := by unfold errN; rw [if_neg hen1]
          have hb1 : (en != 0) = true := by simpa using hn0
          have hd1 : (((en : Int)) == 0) = false := by simpa using hn0
          have hd2 : (((en : Int)) != 0) = true := by simpa using hn0
          rw [hN, hb1]
          have hql : qs.length ≤ 1099511627776 := by omega
          clear hen hN hb1 hen1
          go_enter Tryz.func60, Tryz.ntmps60
          go_wp2_with (at_builtin; go_loud (refine push_str _ _ _ B (.slice A1 ps.length c1) rfl ps _ p rfl rfl rfl hop rfl hp1 hBs ?_; intro v' w2 ho2 hg2; obtain ⟨A2, c2, rfl, -, -, -⟩ := own_rd ho2; have hb2 := hb.grown hg2 (own_ne_blk hop hb (by decide)); have hbc2 := hb2.cell; have hbf2 := hb2.frozen; obtain ⟨hk3, hkw3⟩ := Wr.path (q := p) hgk (Nat.le_of_lt hgB) hb hop hoq hrd hsk ho2 hg2; have hb3 := hb2.set_ 4 (.slice A2 (ps.length + 1) c2); have hbc3 := hb3.cell))
          rw [show (ps ++ [p]).length = ps.length + 1 by simp] at hk3 hkw3
          generalize (w2.setCell ⟨k, 4, none⟩ (.slice A2 (ps.length + 1) c2)) = W3 at *
          clear hbc hbc2 hbf2 hb3 hbc3 hb2
          obtain ⟨pv3, av3, kb3, kp3, kq3⟩ := hk3.ex
          have kc3 := kb3.cell
          go_loop [29] (fun i => ∃ j : Nat, j ≤ skip.length ∧ i = .int .i64 j) (fun i => skip.length - (intOf i).toNat)
          case atStart => exact ⟨0, Nat.zero_le _, rfl⟩
          case round =>
            obtain ⟨j, hj, rfl⟩ := hrel
            by_cases hjl : j < skip.length
            · obtain ⟨ad, rfl, -, e1⟩ := hk3.sk.str j hjl
              have hq := HNOT.out j hjl
              go_wp2_with fail
              go_round
              case rel => exact ⟨j + 1, by omega, by go_num⟩
              case measure => simp [intOf]; omega
            · have he3 := he.kw hkw3 hg5
              have hB3 := Nat.le_trans hBs hkw3.size
              have hkl3 := kb3.lt
              have hr3 := hk3.rd.more (B' := W3.heap.size) (by omega)
              go_wp2_with (first
                | (go_at_call 25; go_loud (refine (crd _ hr3 he3).mono ?_; rintro e w4 ⟨u4, v4, rfl, ho4, hq4, hb4⟩; obtain ⟨A5, c5, rfl, -, -, hr5⟩ := own_rd hq4; have hk4 := hk3.below hgk hb4; obtain ⟨pv4, av4, kb4, kp4, kq4⟩ := hk4.ex; obtain ⟨A6, c6, rfl, -, -, -⟩ := own_rd kq4; have kc4 := kb4.cell; have hB4 := Nat.le_trans hB3 hb4.size))
                | (go_loud (refine push_ask1 _ _ B (.slice A6 qs.length c6) rfl qs ⟨way caps 2, p⟩ rfl rfl kq4 A5 c5 rfl hr5 hql hB4 ?_; intro v' w5 ho5 hg5'; obtain ⟨A7, c7, rfl, -, -, -⟩ := own_rd ho5; have kb5 := kb4.grown hg5' (own_ne_blk kq4 kb4 (by decide)); have kc5 := kb5.cell; have kf5 := kb5.frozen; obtain ⟨hk6, hkw6⟩ := Wr.ask (l := [⟨way caps 2, p⟩]) hgk (Nat.le_of_lt hgB) kb4 kp4 kq4 hk4.rd hk4.sk ho5 hg5'; have kb6 := kb5.set_ 5 (.slice A7 (qs.length + 1) c7); have kc6 := kb6.cell; have kf6 := kb6.frozen)))
              go_returns
              rw [show (qs ++ [(⟨way caps 2, p⟩ : Ask)]).length = qs.length + 1 by simp] at hk6 hkw6
              obtain ⟨hk7, hkw7⟩ := hk6.err hgk en
              exact ⟨rfl, hk7, ((hkw3.below hb4).trans hkw6).trans hkw7⟩
end Go.Proofs.YtkaoechldamggaaGreatDoor
namespace Go.Proofs.YtkaoechldamggaaGreatDoor
open Go Go.RowKit
set_option maxRecDepth 100000

set_option maxHeartbeats 4000000 in
theorem rWalk (A SA : Option Addr) (c sc cap0 : Nat) (es : List Ent) (caps : Nat) (blind : Bool) (skip : List Bs) (root : Bs) (w : World) (hr : Rd w w.heap.size A (entCells es)) (hsk : Rd w w.heap.size SA (strCells skip)) (hfit : FitP es cap0) (he : Env w)
    (hcaps : caps < 4294967296) (hps : root.length ≤ 140737488351232) (hsn : skip.length ≤ 1099511627776) :
    Calls Tryz.prog 34 #[.agg #[.slice A es.length c, .int .u32 (caps : Int), .bool blind], .string ⟨root.toArray⟩, .slice SA skip.length sc] w fun e w' => ∃ u v,
      e = .returned (.tuple #[u, v, .int .i64 ((wRes es caps blind skip root).out : Int)]) ∧ w'.ownsRow w.heap.size 9 1 u (wRes es caps blind skip root).paths.length (strCells (wRes es caps blind skip root).paths) ∧ Asks w' w.heap.size v (wRes es caps blind skip root).asks ∧ Below w.heap.size w w' := by
  have hf := hfit.fine
  have h5 := he.size
  have hlen := wRes_len hfit caps blind skip root
  obtain ⟨W0, hW0⟩ : ∃ W0, w.alloc (.cells #[.slice A es.length c, .int .u32 (caps : Int), .bool blind] 32) = W0 := ⟨_, rfl⟩
  have b0 : Below w.heap.size w W0 := by rw [← hW0]; go_grown
  have hz0 : W0.heap.size = w.heap.size + 1 := by rw [← hW0]; simp
  have x0 : Blk W0 w.heap.size 32 #[.slice A es.length c, .int .u32 (caps : Int), .bool blind] := by rw [← hW0]; exact Blk.newAt _ _ rfl rfl
  have xc0 := x0.cell
  have r0 := (hr.below b0 (Nat.le_refl _)).more b0.size
  have he0 := he.below b0
  have cst := rStat A c es caps blind root W0 r0 hf he0 hcaps hps
  obtain ⟨n, hn⟩ : ∃ n, stErr es root = n := ⟨_, rfl⟩
  by_cases hn0 : n = 0
  · subst hn0
    obtain ⟨hv, hlk, s, m, hin⟩ := stErr_zero hn
    unfold wRes at hlen ⊢
    rw [if_pos hn] at hlen ⊢
    rw [hn, if_pos rfl, hin] at cst
    have cw := fun (k : Nat) (hk1 : w.heap.size < k) W hk he hB h1 h2 => rto es caps blind skip k w.heap.size (w.heap.size + 1) A SA c sc cap0 hfit h5 hk1 (by omega) hcaps hsn 1026 root (dirK (look es root)) [] (asksOf caps 0 root) W (fuel_root hv) hv hk he hB h1 h2
    generalize walkF es caps blind skip 1026 root (dirK (look es root)) = R at *
    generalize outB es caps blind skip root (dirK (look es root)) = ob at *
    generalize dirK (look es root) = d at *
    generalize asksOf caps 0 root = qs at *
    simp only [List.length_append] at hlen
    have cw := fun (k : Nat) hk1 W hk he hB => cw k hk1 W hk he hB (by simp only [List.length_nil]; omega) (by omega)
    simp only [List.nil_append] at cw
    clear hn hin hlk
    go_enter Tryz.func34, Tryz.ntmps34
    go_upto_region 2 with (go_at_call 21; refine cst.mono ?_; rintro e w1 ⟨v1, rfl, ho1, hb1⟩; have x1 := x0.below hb1 x0.lt; have xc1 := x1.cell; obtain ⟨A1, c1, rfl, -, -, -⟩ := own_rd ho1)
    obtain ⟨w2, hw2⟩ : ∃ w2, w1.alloc (.cells #[.string ⟨s.toArray⟩, .bool d, .int .i64 (m : Int)] 45) = w2 := ⟨_, rfl⟩
    have b2 : Below w1.heap.size w1 w2 := by rw [← hw2]; go_grown
    have z2 : Blk w2 w1.heap.size 45 #[.string ⟨s.toArray⟩, .bool d, .int .i64 (m : Int)] := by rw [← hw2]; exact Blk.newAt _ _ rfl rfl
    have zc2 := z2.cell
    have x2 := x1.below b2 x1.lt
    have xc2 := x2.cell
    have ho2 := own_below ho1 b2
    have hbw := b0.trans ((hb1.trans (b2.mono hb1.size)).mono b0.size)
    rw [hw2]
    clear hw2 cst xc0 xc1
    obtain ⟨w3, hw3⟩ : ∃ w3, w2.alloc (.cells #[.slice A es.length c, .int .u32 (caps : Int), .bool blind, .slice SA skip.length sc, .slice none 0 0, .slice A1 qs.length c1, .int .i64 0] 134) = w3 := ⟨_, rfl⟩
    have b3 : Below w2.heap.size w2 w3 := by rw [← hw3]; go_grown
    have k3 : Blk w3 w2.heap.size 134 #[.slice A es.length c, .int .u32 (caps : Int), .bool blind, .slice SA skip.length sc, .slice none 0 0, .slice A1 qs.length c1, .int .i64 0] := by rw [← hw3]; exact Blk.newAt _ _ rfl rfl
    have z3 := z2.below b3 z2.lt
    have zc3 := z3.cell
    have hbw3 := hbw.trans (b3.mono hbw.size)
    have hgk : w.heap.size < w2.heap.size := by have := x2.lt; omega
    have ho3 := own_below ho2 b3
    rw [hz0] at ho3
    have wr3 : Wr w3 w2.heap.size w.heap.size (w.heap.size + 1) A c es caps blind SA sc skip [] qs 0 :=
      ⟨⟨_, _, k3, World.ownsRow_nil _ _ _ _, ho3⟩, hr.below hbw3 (Nat.le_refl _), hsk.below hbw3 (Nat.le_refl _)⟩
    have he3 := he.below hbw3
    have hB3 : w.heap.size + 1 ≤ w3.heap.size := by have := b3.size; omega
    have cw := cw w2.heap.size hgk w3 wr3 he3 hB3
    go_upto_region 6 with (go_at_call 60; refine cw.mono ?_; rintro e w4 ⟨rfl, wr4, kw4⟩)
    obtain ⟨pv, av, k4, hp4, hq4⟩ := wr4.ex
    have kd := k4.drew1
    have kc := kd.cell
    go_region
    all_goals
      go_wp2_with fail
      go_returns
      have hd : Below w4.heap.size w4 w4.drew := by go_grown
      exact ⟨_, _, rfl, own_low (own_below hp4 hd) (by omega), own_low (own_below hq4 hd) (by omega), (hbw3.trans ((kw4.low_ (B := w.heap.size) (Nat.le_refl _) hbw3.size).trans (hd.mono (by have := kw4.size; omega))))⟩
  · unfold wRes at hlen ⊢
    rw [if_neg (by rw [hn]; exact hn0)] at hlen ⊢
    rw [hn, if_neg hn0] at cst
    unfold zeroInf at cst
    rw [hn]
    have hd1 : (((n : Int)) == 0) = false := by simpa using hn0
    have hd2 : (((n : Int)) != 0) = true := by simpa using hn0
    generalize asksOf caps 0 root = qs at *
    clear hn
    go_enter Tryz.func34, Tryz.ntmps34
    go_wp2_with (go_at_call 21; refine cst.mono ?_; rintro e w1 ⟨v1, rfl, ho1, hb1⟩; have hbw := b0.trans (hb1.mono b0.size))
    go_returns
    exact ⟨_, _, rfl, World.ownsRow_nil _ _ _ _, own_low (ho1.alloc _) (by omega), hbw.alloc hbw.size _⟩
end Go.Proofs.YtkaoechldamggaaGreatDoor
