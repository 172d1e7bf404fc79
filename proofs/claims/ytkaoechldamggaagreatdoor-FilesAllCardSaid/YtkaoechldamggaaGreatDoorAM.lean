/- Plain: names sorted, each once; what a pattern has, level by level. -/
import Derived.Test.YtkaoechldamggaaGreatDoorAG
namespace Go.Proofs.YtkaoechldamggaaGreatDoor
open Go

theorem bs_trans {a b c : Bs} (h : a ≤ b) (k : b ≤ c) : a ≤ c := List.le_trans h k
theorem bs_lt_of {a b : Bs} (h : a ≤ b) (hne : a ≠ b) : a < b := by
  rcases Classical.em (a < b) with h1 | h1
  · exact h1
  · exact absurd (List.le_antisymm h (List.not_lt.1 h1)) hne
theorem bs_le_lt {a b c : Bs} (h : a ≤ b) (k : b < c) : a < c := List.lt_of_le_of_lt h k
theorem bs_irr {a : Bs} (h : a < a) : False := List.lt_irrefl a h

theorem sortL_pair (xs : List Bs) : (sortL xs).Pairwise (· ≤ ·) := by
  have h := List.pairwise_mergeSort (le := fun x y : Bs => decide (x ≤ y)) (fun a b c h k => by simp only [decide_eq_true_eq] at *; exact bs_trans h k) (fun a b => by
    simp only [Bool.or_eq_true, decide_eq_true_eq]; exact List.le_total a b) xs
  unfold sortL
  exact h.imp (fun h => by simpa using h)
theorem sortL_mem (xs : List Bs) (x : Bs) : x ∈ sortL xs ↔ x ∈ xs := by unfold sortL; exact List.mem_mergeSort

theorem compact_pair (zs : List Bs) (h : zs.Pairwise (· ≤ ·)) : (Lib.compact zs).Pairwise (· < ·) := by
  unfold Lib.compact Lib.compactUpTo
  rw [List.pairwise_map]
  have hr : ((List.range zs.length).filter (Lib.keeps zs.toArray)).Pairwise (· < ·) := (List.pairwise_lt_range).filter _
  refine List.Pairwise.imp_of_mem ?_ hr
  intro i j hi hj hij
  have hi1 := (List.mem_filter.1 hi).1
  have hj1 := (List.mem_filter.1 hj).1
  have hj2 := (List.mem_filter.1 hj).2
  simp only [List.mem_range] at hi1 hj1
  have g : ∀ k, k < zs.length → zs.toArray[k]! = zs[k]! := fun k hk => by simp [hk]
  have hp := List.pairwise_iff_getElem.1 h
  have le : ∀ a b (ha : a < zs.length) (hb : b < zs.length), a ≤ b → zs[a]! ≤ zs[b]! := fun a b ha hb hab => by
    simp only [getElem!_pos, ha, hb]
    rcases Nat.lt_or_ge a b with h1 | h1
    · exact hp a b ha hb h1
    · have : a = b := by omega
      subst this; exact List.le_refl _
  unfold Lib.keeps at hj2
  simp only [decide_eq_true_eq] at hj2
  rw [g i hi1, g j hj1]
  rcases hj2 with h0 | h0
  · omega
  · rw [g j hj1, g (j - 1) (by omega)] at h0
    exact bs_le_lt (le i (j - 1) hi1 (by omega) (by omega)) (bs_lt_of (le (j - 1) j (by omega) hj1 (by omega)) (fun e => h0 e.symm))

theorem compact_mem_all (zs : List Bs) (x : Bs) : x ∈ zs → x ∈ Lib.compact zs := by
  have key : ∀ (k : Nat) (hk : k < zs.length), zs[k] ∈ Lib.compact zs := by
    intro k
    induction k with
    | zero =>
      intro hk
      unfold Lib.compact Lib.compactUpTo
      refine List.mem_map.2 ⟨0, List.mem_filter.2 ⟨by simpa using hk, by simp [Lib.keeps]⟩, by simp [hk]⟩
    | succ k ih =>
      intro hk
      by_cases e : zs[k + 1] = zs[k]
      · rw [e]; exact ih (by omega)
      · unfold Lib.compact Lib.compactUpTo
        refine List.mem_map.2 ⟨k + 1, List.mem_filter.2 ⟨by simpa using hk, ?_⟩, by simp [hk]⟩
        have hk' : k < zs.length := by omega
        simp [Lib.keeps, hk, hk', e]
  intro h
  obtain ⟨k, hk, rfl⟩ := List.getElem_of_mem h
  exact key k hk

theorem pair_eq : ∀ (a b : List Bs), a.Pairwise (· < ·) → b.Pairwise (· < ·) → (∀ x, x ∈ a ↔ x ∈ b) → a = b := by
  intro a
  induction a with
  | nil =>
    intro b _ _ h
    cases b with
    | nil => rfl
    | cons y b => exact absurd ((h y).2 (by simp)) (by simp)
  | cons x a ih =>
    intro b ha hb h
    cases b with
    | nil => exact absurd ((h x).1 (by simp)) (by simp)
    | cons y b =>
      have ha' := List.pairwise_cons.1 ha
      have hb' := List.pairwise_cons.1 hb
      have exy : x = y := by
        rcases List.mem_cons.1 ((h x).1 (by simp)) with e | e
        · exact e
        · rcases List.mem_cons.1 ((h y).2 (by simp)) with e2 | e2
          · exact e2.symm
          · exact absurd (hb'.1 x e) (fun h1 => bs_irr (List.lt_trans h1 (ha'.1 y e2)))
      subst exy
      congr 1
      refine ih b ha'.2 hb'.2 fun z => ?_
      constructor
      · intro hz
        rcases List.mem_cons.1 ((h z).1 (by simp [hz])) with e | e
        · subst e; exact (bs_irr (ha'.1 _ hz)).elim
        · exact e
      · intro hz
        rcases List.mem_cons.1 ((h z).2 (by simp [hz])) with e | e
        · subst e; exact (bs_irr (hb'.1 _ hz)).elim
        · exact e

/-- Into a rising list, each once, as the reference does it. -/
def insG : List Bs → Bs → Bool → List Bs
  | [], s, put => if put then [] else [s]
  | x :: r, s, put =>
    let p1 := put || x == s
    if !p1 && decide (s < x) then s :: x :: insG r s true else x :: insG r s p1

theorem insG_true (l : List Bs) (s : Bs) : insG l s true = l := by
  induction l with
  | nil => rfl
  | cons x r ih => simp [insG, ih]
theorem insG_mem (l : List Bs) (s x : Bs) : x ∈ insG l s false ↔ x = s ∨ x ∈ l := by
  induction l with
  | nil => simp [insG]
  | cons y r ih =>
    simp only [insG, Bool.false_or]
    by_cases e : y = s
    · subst e
      simp [insG_true]
    · have e' : (y == s) = false := by simpa using e
      rw [e']
      by_cases h : s < y
      · simp [h, insG_true]
      · simp [h, ih]
        constructor
        · rintro (h | h | h) <;> simp [h]
        · rintro (h | h | h) <;> simp [h]
theorem insG_pair (l : List Bs) (s : Bs) (h : l.Pairwise (· < ·)) : (insG l s false).Pairwise (· < ·) := by
  induction l with
  | nil => simp [insG]
  | cons y r ih =>
    have h' := List.pairwise_cons.1 h
    simp only [insG, Bool.false_or]
    by_cases e : y = s
    · subst e
      simpa [insG_true] using h
    · have e' : (y == s) = false := by simpa using e
      rw [e']
      by_cases hs : s < y
      · simp only [hs, insG_true, decide_true, Bool.not_false, Bool.and_self, if_true]
        refine List.pairwise_cons.2 ⟨?_, h⟩
        intro z hz
        rcases List.mem_cons.1 hz with e | e
        · subst e; exact hs
        · exact List.lt_trans hs (h'.1 z e)
      · simp only [hs, decide_false, Bool.and_false, Bool.false_eq_true, if_false]
        refine List.pairwise_cons.2 ⟨?_, ih h'.2⟩
        intro z hz
        rcases (insG_mem _ _ _).1 hz with e2 | e2
        · subst e2; exact bs_lt_of (List.not_lt.1 hs) e
        · exact h'.1 z e2

def insAll (fs : List Bs) : List Bs := fs.foldl (fun l s => insG l s false) []
theorem insAll_ok : ∀ (fs l : List Bs), l.Pairwise (· < ·) → (fs.foldl (fun l s => insG l s false) l).Pairwise (· < ·) ∧ ∀ x, x ∈ fs.foldl (fun l s => insG l s false) l ↔ x ∈ fs ∨ x ∈ l := by
  intro fs
  induction fs with
  | nil => intro l h; exact ⟨h, by simp⟩
  | cons f fs ih =>
    intro l h
    obtain ⟨h1, h2⟩ := ih (insG l f false) (insG_pair l f h)
    refine ⟨h1, fun x => ?_⟩
    rw [List.foldl_cons, h2, insG_mem, List.mem_cons]
    constructor
    · rintro (h | h | h) <;> simp [h]
    · rintro ((h | h) | h) <;> simp [h]
theorem insAll_eq (fs : List Bs) : insAll fs = Lib.compact (sortL fs) := by
  obtain ⟨h1, h2⟩ := insAll_ok fs [] List.Pairwise.nil
  refine pair_eq _ _ h1 (compact_pair _ (sortL_pair fs)) fun x => ?_
  unfold insAll at *
  rw [h2]
  constructor
  · rintro (h | h)
    · exact compact_mem_all _ _ ((sortL_mem _ _).2 h)
    · cases h
  · intro h
    refine .inl ((sortL_mem fs x).1 ?_)
    unfold Lib.compact Lib.compactUpTo at h
    obtain ⟨i, hi, rfl⟩ := List.mem_map.1 h
    have hi2 : i < (sortL fs).length := by have := (List.mem_filter.1 hi).1; simpa using this
    have : (sortL fs).toArray[i]! = (sortL fs)[i] := by simp [hi2]
    rw [this]
    exact List.getElem_mem hi2
theorem pair_nodup {l : List Bs} (h : l.Pairwise (· < ·)) : l.Nodup := h.imp (fun h e => by subst e; exact bs_irr h)
theorem headE_fact (r : Bs) : headE r <+: r ∧ ∀ c ∈ headE r, c ≠ 47 := by
  unfold headE
  rcases first47 r with h | ⟨l, t, rfl, h⟩
  · rw [elems_plain r h]; exact ⟨by simp, by simpa using h⟩
  · rw [elems_cut l t h]; exact ⟨⟨47 :: t, rfl⟩, by simpa using h⟩
theorem elems_app (a b : Bs) : elems (a ++ 47 :: b) = elems a ++ elems b := by
  induction a with
  | nil => simp [elems]
  | cons c a ih =>
    simp only [List.cons_append, elems]
    by_cases e : c = 47
    · rw [if_pos e, if_pos e, ih]; rfl
    · rw [if_neg e, if_neg e, ih]
      have := elems_ne a
      cases h : elems a with
      | nil => exact absurd h this
      | cons x r => rfl
theorem below_join {d p r : Bs} (h : below d p = some r) : p = join d r := by
  unfold below at h; unfold join
  split at h
  · split at h
    · cases h
    · cases h; rw [if_pos ‹_›]
  · split at h
    · rename_i h1 h2
      cases h
      rw [if_neg h1]
      obtain ⟨t, rfl⟩ := h2
      congr 1
      rw [List.append_assoc, List.drop_append]
      simp
    · cases h
theorem join_pre (d : Bs) {a b : Bs} (h : a <+: b) : join d a <+: join d b := by
  unfold join
  split
  · exact h
  · obtain ⟨t, rfl⟩ := h
    exact ⟨t, by simp⟩
theorem lastEl_join (d n : Bs) (h : ∀ c ∈ n, c ≠ 47) : lastEl (join d n) = n := by
  unfold lastEl join
  split
  · rw [elems_plain n h]; rfl
  · rw [show d ++ [47] ++ n = d ++ 47 :: n by simp, elems_app, elems_plain n h]; simp
theorem join_inj {d n d' n' : Bs} (h : ∀ c ∈ n, c ≠ 47) (h' : ∀ c ∈ n', c ≠ 47) (e : join d n = join d' n') : d = d' ∧ n = n' := by
  have e2 : n = n' := by rw [← lastEl_join d n h, e, lastEl_join d' n' h']
  subst e2
  refine ⟨?_, rfl⟩
  unfold join at e
  by_cases h1 : d = [46] <;> by_cases h2 : d' = [46]
  · rw [h1, h2]
  · rw [if_pos h1, if_neg h2] at e
    exfalso
    have := h 47 (by rw [e]; simp)
    exact this rfl
  · rw [if_neg h1, if_pos h2] at e
    exfalso
    have := h 47 (by rw [← e]; simp)
    exact this rfl
  · rw [if_neg h1, if_neg h2] at e
    exact List.append_cancel_right (List.append_cancel_right e)
theorem nodup_le : ∀ (l m : List Bs), l.Nodup → (∀ x ∈ l, x ∈ m) → l.length ≤ m.length := by
  intro l
  induction l with
  | nil => intro m _ _; simp
  | cons x l ih =>
    intro m h hm
    have h' := List.nodup_cons.1 h
    have hx := hm x (by simp)
    have := ih (m.erase x) h'.2 (fun y hy => (List.mem_erase_of_ne (fun e => h'.1 (by rw [← e]; exact hy))).2 (hm y (by simp [hy])))
    rw [List.length_erase_of_mem hx] at this
    have : 0 < m.length := List.length_pos_of_mem hx
    simp only [List.length_cons]; omega
theorem pre_count (es : List Ent) (hn : es.length ≤ 256) (hl : ∀ e ∈ es, e.path.length ≤ 1024) (l : List Bs) (h : l.Nodup) (hp : ∀ q ∈ l, ∃ e ∈ es, q <+: e.path) : l.length ≤ 262400 := by
  have h1 := nodup_le l (es.flatMap fun e => (List.range 1025).map (e.path.take ·)) h (fun q hq => by
    obtain ⟨e, he, hpre⟩ := hp q hq
    refine List.mem_flatMap.2 ⟨e, he, List.mem_map.2 ⟨q.length, ?_, ?_⟩⟩
    · have := hpre.length_le; have := hl e he; simp; omega
    · obtain ⟨t, ht⟩ := hpre; rw [← ht]; simp)
  have h2 : (es.flatMap fun e => (List.range 1025).map (e.path.take ·)).length = es.length * 1025 := by
    clear h1 hn hl hp
    induction es with
    | nil => rfl
    | cons e es ih => rw [List.flatMap_cons, List.length_append, ih, List.length_cons]; simp; omega
  omega

/-- What paths a pattern has, and what is asked, level by level: L tells what lies in a directory. -/
def lvlG (L : Bs → List Inf) (hit : Bs → Bs → Bool) (f d : Bs) : List Bs := ((L d).filter fun x => hit f x.name).map fun x => join d x.name
def handG (L : Bs → List Inf) (ok : Bs → Bool) (hit : Bs → Bs → Bool) : Nat → Bs → List Bs
  | 0, _ => []
  | n + 1, p => if magic p then (if magic (split2 p).1 then handG L ok hit n (split2 p).1 else [(split2 p).1]).flatMap (lvlG L hit (split2 p).2) else if ok p then [p] else []
def askG (L : Bs → List Inf) (ok : Bs → Bool) (hit : Bs → Bs → Bool) (a0 a2 : Bs → List Ask) : Nat → Bs → List Ask
  | 0, _ => []
  | n + 1, p => if magic p then (if magic (split2 p).1 then askG L ok hit a0 a2 n (split2 p).1 else []) ++ (if magic (split2 p).1 then handG L ok hit n (split2 p).1 else [(split2 p).1]).flatMap a2 else a0 p

structure LOk (es : List Ent) (L : Bs → List Inf) : Prop where
  mem : ∀ d, ∀ x ∈ L d, ∃ e ∈ es, ∃ r, below d e.path = some r ∧ x.name = headE r
  nodup : ∀ d, ((L d).map (·.name)).Nodup

variable {es : List Ent} {L : Bs → List Inf}
theorem LOk.noSl (h : LOk es L) {d : Bs} {x : Inf} (hx : x ∈ L d) : ∀ c ∈ x.name, c ≠ 47 := by
  obtain ⟨e, -, r, -, hn⟩ := h.mem d x hx
  rw [hn]; exact (headE_fact r).2
theorem LOk.pre (h : LOk es L) {d : Bs} {x : Inf} (hx : x ∈ L d) : ∃ e ∈ es, join d x.name <+: e.path := by
  obtain ⟨e, he, r, hb, hn⟩ := h.mem d x hx
  refine ⟨e, he, ?_⟩
  rw [below_join hb, hn]
  exact join_pre d (headE_fact r).1
theorem lvl_pre (h : LOk es L) (hit : Bs → Bs → Bool) (f d q : Bs) (hq : q ∈ lvlG L hit f d) : ∃ e ∈ es, q <+: e.path := by
  unfold lvlG at hq
  obtain ⟨x, hx, rfl⟩ := List.mem_map.1 hq
  exact h.pre (List.mem_filter.1 hx).1
theorem lvl_nodup (h : LOk es L) (hit : Bs → Bs → Bool) (f : Bs) (ds : List Bs) (hd : ds.Nodup) : (ds.flatMap (lvlG L hit f)).Nodup := by
  unfold List.Nodup
  rw [List.pairwise_flatMap]
  constructor
  · intro d _
    unfold lvlG
    rw [List.pairwise_map]
    have h1 := h.nodup d
    unfold List.Nodup at h1
    rw [List.pairwise_map] at h1
    refine List.Pairwise.imp_of_mem ?_ (h1.filter _)
    intro a b ha hb hab e
    exact hab (join_inj (h.noSl (List.mem_filter.1 ha).1) (h.noSl (List.mem_filter.1 hb).1) e).2
  · refine hd.imp ?_
    intro a b hab x hx y hy e
    subst e
    unfold lvlG at hx hy
    obtain ⟨u, hu, rfl⟩ := List.mem_map.1 hx
    obtain ⟨v, hv, hv2⟩ := List.mem_map.1 hy
    exact hab (join_inj (h.noSl (List.mem_filter.1 hv).1) (h.noSl (List.mem_filter.1 hu).1) hv2).1.symm
theorem hand_nodup (h : LOk es L) (ok : Bs → Bool) (hit : Bs → Bs → Bool) : ∀ (n : Nat) (p : Bs), (handG L ok hit n p).Nodup := by
  intro n
  induction n with
  | zero => intro p; exact List.Pairwise.nil
  | succ n ih =>
    intro p
    unfold handG
    split
    · refine lvl_nodup h hit _ _ ?_
      split
      · exact ih _
      · simp
    · split <;> simp
theorem hand_len (h : LOk es L) (hn : es.length ≤ 256) (hl : ∀ e ∈ es, e.path.length ≤ 1024) (ok : Bs → Bool) (hit : Bs → Bs → Bool) (n : Nat) (p : Bs) : (handG L ok hit n p).length ≤ 262400 := by
  cases n with
  | zero => simp [handG]
  | succ n =>
    have h1 := hand_nodup h ok hit (n + 1) p
    unfold handG at h1 ⊢
    split at h1
    · rw [if_pos ‹_›]
      refine pre_count es hn hl _ h1 fun q hq => ?_
      obtain ⟨d, _, hq⟩ := List.mem_flatMap.1 hq
      exact lvl_pre h hit _ d q hq
    · rw [if_neg ‹_›]
      split <;> simp
theorem hand_each (h : LOk es L) (hl : ∀ e ∈ es, e.path.length ≤ 1024) (ok : Bs → Bool) (hit : Bs → Bs → Bool) (n : Nat) (p : Bs) (hp : p.length ≤ 1024) : ∀ q ∈ handG L ok hit n p, q.length ≤ 1024 := by
  intro q hq
  cases n with
  | zero => cases hq
  | succ n =>
    unfold handG at hq
    split at hq
    · obtain ⟨d, _, hq⟩ := List.mem_flatMap.1 hq
      obtain ⟨e, he, h1⟩ := lvl_pre h hit _ d q hq
      have := h1.length_le
      have := hl e he
      omega
    · split at hq
      · obtain rfl := List.mem_singleton.1 hq; exact hp
      · cases hq
theorem split2_fst (p : Bs) : (split2 p).1 = [46] ∨ (split2 p).1 = [47] ∨ (split2 p).1.length < p.length := by
  unfold split2
  split
  · exact .inl rfl
  · split
    · exact .inr (.inl rfl)
    · rename_i i h h0
      obtain ⟨hi, _⟩ := (lastSl_some p i).1 h
      refine .inr (.inr ?_)
      simp; omega
theorem split2_rec (p : Bs) (h : magic (split2 p).1 = true) : (split2 p).1.length < p.length := by
  rcases split2_fst p with e | e | e
  · rw [e] at h; cases h
  · rw [e] at h; cases h
  · exact e
theorem split2_snd (p : Bs) : (split2 p).2.length ≤ p.length := by
  unfold split2
  split
  · exact Nat.le_refl _
  · split <;> simp
theorem split2_len (p : Bs) (h : magic p = true) : (split2 p).1.length ≤ p.length := by
  have : p ≠ [] := by rintro rfl; cases h
  have : 0 < p.length := List.length_pos_iff.2 this
  rcases split2_fst p with e | e | e
  · rw [e]; exact this
  · rw [e]; exact this
  · omega
theorem ask_len (h : LOk es L) (hn : es.length ≤ 256) (hl : ∀ e ∈ es, e.path.length ≤ 1024) (ok : Bs → Bool) (hit : Bs → Bs → Bool) (a0 a2 : Bs → List Ask) (h0 : ∀ p, (a0 p).length ≤ 1) (h2 : ∀ p, (a2 p).length ≤ 1) :
    ∀ (n : Nat) (p : Bs), (askG L ok hit a0 a2 n p).length ≤ (p.length + 1) * 262400 := by
  have fl : ∀ ds : List Bs, (ds.flatMap a2).length ≤ ds.length := fun ds => by
    induction ds with
    | nil => simp
    | cons d ds ih => rw [List.flatMap_cons, List.length_append, List.length_cons]; have := h2 d; omega
  intro n
  induction n with
  | zero => intro p; simp [askG]
  | succ n ih =>
    intro p
    unfold askG
    split
    · rw [List.length_append]
      by_cases hm : magic (split2 p).1 = true
      · rw [if_pos hm, if_pos hm]
        have h3 := ih (split2 p).1
        have h4 := split2_rec p hm
        have h5 := hand_len h hn hl ok hit n (split2 p).1
        have h6 := fl (handG L ok hit n (split2 p).1)
        have h7 : ((split2 p).1.length + 1) * 262400 ≤ p.length * 262400 := Nat.mul_le_mul_right _ (by omega)
        rw [Nat.add_mul]; omega
      · rw [if_neg hm, if_neg hm]
        have := fl [(split2 p).1]
        simp only [List.length_nil, List.length_singleton] at this ⊢
        rw [Nat.add_mul]; omega
    · have := h0 p
      rw [Nat.add_mul]; omega

theorem names_mem (es : List Ent) (d n : Bs) : n ∈ namesOf es d ↔ n ∈ firsts es d := by
  unfold namesOf
  constructor
  · intro h; exact (sortL_mem _ _).1 (compact_mem _ _ h)
  · intro h; exact compact_mem_all _ _ ((sortL_mem _ _).2 h)
theorem names_pair (es : List Ent) (d : Bs) : (namesOf es d).Pairwise (· < ·) := compact_pair _ (sortL_pair _)
theorem firsts_mem (es : List Ent) (d n : Bs) : n ∈ firsts es d ↔ ∃ e ∈ es, ∃ r, below d e.path = some r ∧ n = headE r := by
  unfold firsts
  rw [List.mem_filterMap]
  constructor
  · rintro ⟨e, he, h⟩
    cases hb : below d e.path with
    | none => rw [hb] at h; cases h
    | some r => rw [hb] at h; cases h; exact ⟨e, he, r, hb, rfl⟩
  · rintro ⟨e, he, r, hb, rfl⟩
    exact ⟨e, he, by rw [hb]; rfl⟩
theorem names_noSl {es : List Ent} {d n : Bs} (h : n ∈ namesOf es d) : ∀ c ∈ n, c ≠ 47 := by
  obtain ⟨e, -, r, -, rfl⟩ := (firsts_mem es d n).1 ((names_mem es d n).1 h)
  exact (headE_fact r).2
theorem list_name {es : List Ent} {d n : Bs} (h : n ∈ namesOf es d) : (infAt es d n).name = n := lastEl_join d n (names_noSl h)
theorem list_names (es : List Ent) (d : Bs) : (listOf es d).map (·.name) = namesOf es d := by
  unfold listOf
  rw [List.map_map]
  conv => rhs; rw [← List.map_id (namesOf es d)]
  exact List.map_congr_left fun n hn => list_name hn
theorem listOf_ok (es : List Ent) : LOk es (listOf es) where
  mem d x hx := by
    unfold listOf at hx
    obtain ⟨n, hn, rfl⟩ := List.mem_map.1 hx
    rw [list_name hn]
    exact (firsts_mem es d n).1 ((names_mem es d n).1 hn)
  nodup d := by rw [list_names]; exact pair_nodup (names_pair es d)
theorem rdDir_cases (es : List Ent) (d : Bs) (caps : Nat) (blind : Bool) : rdDirLst es d caps blind = listOf es d ∨ rdDirLst es d caps blind = [] := by
  unfold rdDirLst dirLst
  split
  · split
    · exact .inl rfl
    · exact .inr rfl
  · exact .inr rfl
theorem rdDir_ok (es : List Ent) (caps : Nat) (blind : Bool) : LOk es (fun d => rdDirLst es d caps blind) where
  mem d x hx := by
    rcases rdDir_cases es d caps blind with e | e
    · simp only [e] at hx; exact (listOf_ok es).mem d x hx
    · simp only [e] at hx; cases hx
  nodup d := by
    rcases rdDir_cases es d caps blind with e | e
    · simp only [e]; exact (listOf_ok es).nodup d
    · simp only [e]; exact List.Pairwise.nil
theorem rdDir_err (es : List Ent) (d : Bs) (caps : Nat) (blind : Bool) (h : rdDirErr es d caps blind ≠ 0) : rdDirLst es d caps blind = [] := by
  unfold rdDirErr dirErr at h
  unfold rdDirLst dirLst
  split
  · rw [if_pos ‹_›] at h
    split
    · rename_i h1 h2
      rw [h1, h2] at h
      exact absurd rfl h
    · rfl
  · rfl
end Go.Proofs.YtkaoechldamggaaGreatDoor
