/- The library's plain functions and this text's own: splitting at slashes, the first and the last element, prefixes. -/
import Derived.Lib.Split
import Derived.Lib.IndexMore
import Derived.Lib.LastIndexByte
import Derived.Test.YtkaoechldamggaaGreatDoorS
namespace Go.Proofs.YtkaoechldamggaaGreatDoor
open Go

theorem idx47_none (s : Bs) (h : ∀ c ∈ s, c ≠ 47) : Lib.indexByte s 47 = -1 := by
  induction s with
  | nil => rfl
  | cons c t ih =>
    have h1 := h c (by simp)
    have h2 := ih (fun x hx => h x (by simp [hx]))
    unfold Lib.indexByte
    rw [if_neg (by simpa using h1), if_pos (by simp [h2])]
theorem idx47_some (l t : Bs) (h : ∀ c ∈ l, c ≠ 47) : Lib.indexByte (l ++ 47 :: t) 47 = l.length := by
  induction l with
  | nil => simp [Lib.indexByte]
  | cons c l ih =>
    have h1 := h c (by simp)
    have h2 := ih (fun x hx => h x (by simp [hx]))
    rw [List.cons_append]
    unfold Lib.indexByte
    rw [if_neg (by simpa using h1), h2, if_neg (by
      have : ((l.length : Int) == -1) = false := by rw [beq_eq_false_iff_ne]; omega
      simp [this])]
    simp
/-- A text has no slash, or falls into what stands ahead of the first one, and the rest. -/
theorem first47 (s : Bs) : (∀ c ∈ s, c ≠ 47) ∨ ∃ l t, s = l ++ 47 :: t ∧ ∀ c ∈ l, c ≠ 47 := by
  induction s with
  | nil => left; simp
  | cons c s ih =>
    by_cases hc : c = 47
    · right; exact ⟨[], s, by rw [hc]; rfl, by simp⟩
    · rcases ih with h | ⟨l, t, rfl, h⟩
      · left
        intro x hx
        rcases List.mem_cons.1 hx with rfl | hx
        · exact hc
        · exact h x hx
      · right
        refine ⟨c :: l, t, rfl, ?_⟩
        intro x hx
        rcases List.mem_cons.1 hx with rfl | hx
        · exact hc
        · exact h x hx
theorem split47 : ∀ (n : Nat) (s : Bs) (fuel : Nat), s.length ≤ n → s.length + 1 ≤ fuel → Lib.splitK [47] 0 (Lib.countFrom [47] fuel s) s = elems s := by
  intro n
  induction n with
  | zero =>
    intro s fuel hs hf
    have : s = [] := List.eq_nil_of_length_eq_zero (by omega)
    subst this
    obtain ⟨f, rfl⟩ : ∃ f, fuel = f + 1 := ⟨fuel - 1, by simp at hf; omega⟩
    simp [Lib.countFrom, Lib.index_one, Lib.indexByte, Lib.splitK, elems]
  | succ n ih =>
    intro s fuel hs hf
    obtain ⟨f, rfl⟩ : ∃ f, fuel = f + 1 := ⟨fuel - 1, by omega⟩
    rcases first47 s with h | ⟨l, t, rfl, h⟩
    · rw [Lib.countFrom, Lib.index_one, idx47_none s h, if_pos (by rfl), Lib.splitK, elems_plain s h]
    · have hi := idx47_some l t h
      have hne : ¬ ((l.length : Int) == -1) = true := by rw [beq_iff_eq]; omega
      rw [Lib.countFrom, Lib.index_one, hi, if_neg hne, Nat.add_comm 1, Lib.splitK, Lib.index_one, hi, if_neg hne, elems_cut l t h]
      have e1 : ((l.length : Int).toNat) = l.length := by omega
      have e2 : (l ++ 47 :: t).drop (l.length + 1) = t := by simp
      simp only [e1, Nat.add_zero, List.length_cons, List.length_nil, Nat.zero_add, e2]
      rw [ih t f (by simp at hs; omega) (by simp at hf; omega)]
      simp
theorem count47 : ∀ (n : Nat) (s : Bs) (fuel : Nat), s.length ≤ n → s.length + 1 ≤ fuel → Lib.countFrom [47] fuel s + 1 = (elems s).length := by
  intro n
  induction n with
  | zero =>
    intro s fuel hs hf
    have : s = [] := List.eq_nil_of_length_eq_zero (by omega)
    subst this
    obtain ⟨f, rfl⟩ : ∃ f, fuel = f + 1 := ⟨fuel - 1, by simp at hf; omega⟩
    simp [Lib.countFrom, Lib.index_one, Lib.indexByte, elems]
  | succ n ih =>
    intro s fuel hs hf
    obtain ⟨f, rfl⟩ : ∃ f, fuel = f + 1 := ⟨fuel - 1, by omega⟩
    rcases first47 s with h | ⟨l, t, rfl, h⟩
    · rw [Lib.countFrom, Lib.index_one, idx47_none s h, if_pos (by rfl), elems_plain s h]; rfl
    · have hi := idx47_some l t h
      have hne : ¬ ((l.length : Int) == -1) = true := by rw [beq_iff_eq]; omega
      rw [Lib.countFrom, Lib.index_one, hi, if_neg hne, elems_cut l t h]
      have e1 : ((l.length : Int).toNat) = l.length := by omega
      have e2 : (l ++ 47 :: t).drop (l.length + 1) = t := by simp
      simp only [e1, List.length_cons, List.length_nil, Nat.zero_add, e2]
      rw [← ih t f (by simp at hs; omega) (by simp at hf; omega)]
      omega
theorem cut47 (s : Bs) : (Lib.cut s [47]).1 = (elems s).headD [] := by
  unfold Lib.cut
  rw [Lib.index_one]
  rcases first47 s with h | ⟨l, t, rfl, h⟩
  · rw [idx47_none s h, if_neg (by omega), elems_plain s h]; rfl
  · rw [idx47_some l t h, if_pos (by omega), elems_cut l t h]
    simp

theorem lastEl_none (p : Bs) (h : lastSl p = none) : lastEl p = p := by
  unfold lastEl
  rw [elems_plain p (fun c hc => by
    obtain ⟨i, hi, rfl⟩ := List.getElem_of_mem hc
    exact (lastSl_none p).1 h i hi)]
  rfl
theorem elems_append_last (a b : Bs) (hb : ∀ c ∈ b, c ≠ 47) : (elems (a ++ 47 :: b)).getLast?.getD [] = b := by
  induction a with
  | nil =>
    simp only [List.nil_append, elems, ↓reduceIte]
    rw [elems_plain b hb]; rfl
  | cons c a ih =>
    simp only [List.cons_append, elems]
    split
    · rw [List.getLast?_cons]
      cases e : (elems (a ++ 47 :: b)).getLast? with
      | none => rw [List.getLast?_eq_none_iff] at e; exact absurd e (elems_ne _)
      | some x => rw [e] at ih; simpa using ih
    · cases e : elems (a ++ 47 :: b) with
      | nil => exact absurd e (elems_ne _)
      | cons x r =>
        rw [e] at ih
        cases r with
        | nil =>
          -- one element alone: there is no slash in it
          exfalso
          rcases first47 (a ++ 47 :: b) with h | ⟨l, t, h1, h2⟩
          · exact h 47 (by simp) rfl
          · rw [h1, elems_cut l t h2] at e
            have := elems_ne t
            simp at e
            exact this e.2
        | cons y r => simpa [List.getLast?_cons] using ih
theorem lastEl_some (p : Bs) (i : Nat) (h : lastSl p = some i) : lastEl p = p.drop (i + 1) := by
  obtain ⟨hi, h47, hl⟩ := (lastSl_some p i).1 h
  have e : p = p.take i ++ 47 :: p.drop (i + 1) := by
    conv => lhs; rw [← List.take_append_drop i p]
    rw [List.drop_eq_getElem_cons hi, h47]
  unfold lastEl
  conv => lhs; rw [e]
  apply elems_append_last
  intro c hc
  obtain ⟨j, hj, rfl⟩ := List.getElem_of_mem hc
  rw [List.getElem_drop]
  exact hl _ _ (by omega)
theorem lastIdx47 (s : Bs) : Lib.lastIndexByte ⟨s.toArray⟩ 47 = match lastSl s with | none => -1 | some i => (i : Int) := by
  have hg : ∀ j (hj : j < s.length), ((ByteArray.mk s.toArray).data[j]!) = s[j] := by
    intro j hj
    simp [hj]
  have hb : ∀ j (hj : j < s.length), ((((ByteArray.mk s.toArray).data[j]!).toNat : Int) = 47) ↔ s[j] = 47 := by
    intro j hj
    rw [hg j hj]
    constructor
    · intro h; exact UInt8.toNat_inj.1 (by rw [show (47 : UInt8).toNat = 47 from rfl]; omega)
    · intro h; rw [h]; rfl
  have hsz : (ByteArray.mk s.toArray).size = s.length := rfl
  rcases Lib.lastIndexByte_spec ⟨s.toArray⟩ 47 with ⟨h1, h2⟩ | ⟨i, hi, h1, h2, h3⟩
  · rw [hsz] at h2
    have e : lastSl s = none := (lastSl_none s).2 fun j hj he => h2 j hj ((hb j hj).2 he)
    rw [h1, e]
  · rw [hsz] at hi h3
    have e : lastSl s = some i := (lastSl_some s i).2 ⟨hi, (hb i hi).1 h2, fun j hj hlt he => h3 j hlt hj ((hb j hj).2 he)⟩
    rw [h1, e]
end Go.Proofs.YtkaoechldamggaaGreatDoor
