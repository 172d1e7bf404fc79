/- What a row of parts has, plainly; the greedy way and the way by beginnings come to the same. No program in sight. -/
import Derived.Test.YtkaoechldamggaaGreatDoorM
namespace Go.Proofs.YtkaoechldamggaaGreatDoor

/-- A star: some bytes, none of them a slash, and behind them what g says. -/
def star (g : Bs → Bool) : Bs → Bool
  | [] => g []
  | c :: t => g (c :: t) || (c != 47 && star g t)
def mt : List Prt → Bs → Bool
  | [], s => s == []
  | x :: l, s => if x.any then star (mt l) s else match s with
    | [] => false
    | c :: t => x.has c.toNat && mt l t

theorem star_iff (g : Bs → Bool) (s : Bs) : star g s = true ↔ ∃ u v, s = u ++ v ∧ (∀ c ∈ u, c ≠ 47) ∧ g v = true := by
  induction s with
  | nil =>
    simp only [star]
    constructor
    · intro h; exact ⟨[], [], rfl, by simp, h⟩
    · rintro ⟨u, v, h, _, hg⟩
      have h := h.symm
      simp at h
      rw [h.2] at hg; exact hg
  | cons c t ih =>
    simp only [star, Bool.or_eq_true, Bool.and_eq_true, bne_iff_ne, ne_eq]
    constructor
    · rintro (h | ⟨hc, h⟩)
      · exact ⟨[], c :: t, rfl, by simp, h⟩
      · obtain ⟨u, v, rfl, hu, hg⟩ := ih.1 h
        refine ⟨c :: u, v, rfl, ?_, hg⟩
        intro x hx
        rcases List.mem_cons.1 hx with rfl | hx
        · exact hc
        · exact hu x hx
    · rintro ⟨u, v, h, hu, hg⟩
      cases u with
      | nil => left; simp at h; rw [h]; exact hg
      | cons a u =>
        right
        simp at h
        obtain ⟨rfl, rfl⟩ := h
        exact ⟨hu c (by simp), ih.2 ⟨u, v, rfl, fun x hx => hu x (by simp [hx]), hg⟩⟩

theorem mt_append (a b : List Prt) (s : Bs) : mt (a ++ b) s = true ↔ ∃ u v, s = u ++ v ∧ mt a u = true ∧ mt b v = true := by
  induction a generalizing s with
  | nil =>
    simp only [List.nil_append, mt, beq_iff_eq]
    constructor
    · intro h; exact ⟨[], s, rfl, rfl, h⟩
    · rintro ⟨u, v, rfl, rfl, h⟩; exact h
  | cons x a ih =>
    simp only [List.cons_append, mt]
    by_cases hx : x.any = true
    · simp only [hx, ↓reduceIte, star_iff]
      constructor
      · rintro ⟨u, v, rfl, hu, h⟩
        obtain ⟨p, q, rfl, hp, hq⟩ := (ih v).1 h
        exact ⟨u ++ p, q, by simp, ⟨u, p, rfl, hu, hp⟩, hq⟩
      · rintro ⟨u, v, rfl, ⟨p, q, rfl, hp, hq⟩, hv⟩
        exact ⟨p, q ++ v, by simp, hp, (ih _).2 ⟨q, v, rfl, hq, hv⟩⟩
    · have hx : x.any = false := by simpa using hx
      simp only [hx, Bool.false_eq_true, ↓reduceIte]
      cases s with
      | nil =>
        constructor
        · intro h; cases h
        · rintro ⟨u, v, h, hu, _⟩
          have h := h.symm
          simp at h
          rw [h.1] at hu
          cases hu
      | cons c t =>
        simp only [Bool.and_eq_true]
        constructor
        · rintro ⟨h1, h2⟩
          obtain ⟨p, q, rfl, hp, hq⟩ := (ih t).1 h2
          exact ⟨c :: p, q, rfl, by simp [h1, hp], hq⟩
        · rintro ⟨u, v, h, hu, hv⟩
          cases u with
          | nil => cases hu
          | cons a' u =>
            simp at h
            obtain ⟨rfl, rfl⟩ := h
            simp at hu
            exact ⟨hu.1, (ih _).2 ⟨u, v, rfl, hu.2, hv⟩⟩

theorem mt_any1 (x : Prt) (hx : x.any = true) (s : Bs) : mt [x] s = true ↔ ∀ c ∈ s, c ≠ 47 := by
  simp only [mt, hx, ↓reduceIte, star_iff, beq_iff_eq]
  constructor
  · rintro ⟨u, v, rfl, hu, rfl⟩; simpa using hu
  · intro h; exact ⟨s, [], by simp, h, rfl⟩
theorem mt_one1 (x : Prt) (hx : x.any = false) (s : Bs) : mt [x] s = true ↔ ∃ c, s = [c] ∧ x.has c.toNat = true := by
  simp only [mt, hx, Bool.false_eq_true, ↓reduceIte]
  cases s with
  | nil => simp
  | cons c t =>
    simp only [Bool.and_eq_true, beq_iff_eq, List.cons.injEq]
    constructor
    · rintro ⟨h, rfl⟩; exact ⟨c, ⟨rfl, rfl⟩, h⟩
    · rintro ⟨d, ⟨rfl, rfl⟩, h⟩; exact ⟨h, rfl⟩

/-! By beginnings. -/
theorem mt_last_any (l : List Prt) (x : Prt) (hx : x.any = true) (s : Bs) (c : UInt8) : mt (l ++ [x]) (s ++ [c]) = (mt l (s ++ [c]) || (mt (l ++ [x]) s && c != 47)) := by
  rw [Bool.eq_iff_iff, Bool.or_eq_true, Bool.and_eq_true, mt_append, mt_append]
  simp only [mt_any1 x hx, bne_iff_ne, ne_eq]
  constructor
  · rintro ⟨u, v, h, hu, hv⟩
    rcases List.eq_nil_or_concat v with rfl | ⟨v', d, rfl⟩
    · left; rw [h]; simpa using hu
    · right
      rw [List.concat_eq_append] at h hv
      rw [← List.append_assoc] at h
      have h := List.append_inj' h rfl
      have hd : c = d := by simpa using h.2
      subst hd
      exact ⟨⟨u, v', h.1, hu, fun x hx => hv x (by simp [hx])⟩, hv c (by simp)⟩
  · rintro (h | ⟨⟨u, v, rfl, hu, hv⟩, hc⟩)
    · exact ⟨s ++ [c], [], by simp, h, by simp⟩
    · refine ⟨u, v ++ [c], by simp, hu, ?_⟩
      intro x hx
      rcases List.mem_append.1 hx with hx | hx
      · exact hv x hx
      · simp at hx; rw [hx]; exact hc
theorem mt_last_any0 (l : List Prt) (x : Prt) (hx : x.any = true) : mt (l ++ [x]) [] = mt l [] := by
  rw [Bool.eq_iff_iff, mt_append]
  simp only [mt_any1 x hx]
  constructor
  · rintro ⟨u, v, h, hu, hv⟩
    have h := h.symm
    simp at h
    rw [h.1] at hu; exact hu
  · intro h; exact ⟨[], [], rfl, h, by simp⟩
theorem mt_last_one (l : List Prt) (x : Prt) (hx : x.any = false) (s : Bs) (c : UInt8) : mt (l ++ [x]) (s ++ [c]) = (mt l s && x.has c.toNat) := by
  rw [Bool.eq_iff_iff, Bool.and_eq_true, mt_append]
  simp only [mt_one1 x hx]
  constructor
  · rintro ⟨u, v, h, hu, d, rfl, hd⟩
    have h := List.append_inj' h rfl
    have he : c = d := by simpa using h.2
    rw [h.1, he]; exact ⟨hu, hd⟩
  · rintro ⟨h1, h2⟩; exact ⟨s, [c], rfl, h1, c, rfl, h2⟩
theorem mt_last_one0 (l : List Prt) (x : Prt) (hx : x.any = false) : mt (l ++ [x]) [] = false := by
  rw [Bool.eq_false_iff, ne_eq, mt_append]
  simp only [mt_one1 x hx]
  rintro ⟨u, v, h, hu, d, rfl, hd⟩
  simp at h

/-! The greedy way. -/
/-- What stands behind a row of bytes that single parts have. -/
def pre : List Prt → Bs → Option Bs
  | [], s => some s
  | _ :: _, [] => none
  | x :: l, c :: t => if x.any = false ∧ x.has c.toNat = true then pre l t else none
def Single (x : Prt) : Prop := x.any = false ∧ (x.has 47 = true → ∀ c : UInt8, x.has c.toNat = true → c = 47)
/-- A part that is no star and has the slash has nothing else. -/
def FinePt (l : List Prt) : Prop := ∀ x ∈ l, x.any = false → x.has 47 = true → ∀ c : UInt8, x.has c.toNat = true → c = 47

theorem pre_length : ∀ (l : List Prt) (s t : Bs), pre l s = some t → s.length = l.length + t.length ∧ t = s.drop l.length
  | [], s, t, h => by simp only [pre, Option.some.injEq] at h; subst h; simp
  | _ :: _, [], t, h => by simp [pre] at h
  | x :: l, c :: s, t, h => by
    simp only [pre] at h
    split at h
    · have := pre_length l s t h
      simp only [List.length_cons, List.drop_succ_cons]
      exact ⟨by omega, this.2⟩
    · cases h
theorem pre_has : ∀ (l : List Prt) (s t : Bs), pre l s = some t → ∀ j (hj : j < l.length) (hs : j < s.length), l[j].any = false ∧ l[j].has s[j].toNat = true
  | [], s, t, h => by intro j hj; simp at hj
  | _ :: _, [], t, h => by simp [pre] at h
  | x :: l, c :: s, t, h => by
    simp only [pre] at h
    split at h
    · rename_i hc
      intro j hj hs
      cases j with
      | zero => simpa using hc
      | succ j => simpa using pre_has l s t h j (by simpa using hj) (by simpa using hs)
    · cases h
theorem mt_pre : ∀ (seg l : List Prt) (s : Bs), (∀ x ∈ seg, x.any = false) → (mt (seg ++ l) s = true ↔ ∃ t, pre seg s = some t ∧ mt l t = true)
  | [], l, s, _ => by simp [pre]
  | x :: seg, l, [], h => by
    have hx := h x (by simp)
    simp [mt, hx, pre]
  | x :: seg, l, c :: s, h => by
    have hx := h x (by simp)
    have ih := mt_pre seg l s (fun y hy => h y (by simp [hy]))
    simp only [List.cons_append, mt, hx, Bool.false_eq_true, ↓reduceIte, Bool.and_eq_true, pre, true_and, ih]
    constructor
    · rintro ⟨h1, t, h2, h3⟩; exact ⟨t, by rw [if_pos h1]; exact h2, h3⟩
    · rintro ⟨t, h2, h3⟩
      split at h2
      · rename_i h1; exact ⟨h1, t, h2, h3⟩
      · cases h2

theorem greedy (seg : List Prt) (x : Prt) (rest : List Prt) (s t : Bs) (hx : x.any = true) (hs : ∀ y ∈ seg, y.any = false) (hf : FinePt seg) (hp : pre seg s = some t) :
    star (mt (seg ++ x :: rest)) s = star (mt rest) t := by
  rw [Bool.eq_iff_iff, star_iff, star_iff]
  constructor
  · rintro ⟨u, v, rfl, hu, h⟩
    obtain ⟨v', hv', h⟩ := (mt_pre seg (x :: rest) v hs).1 h
    simp only [mt, hx, ↓reduceIte, star_iff] at h
    obtain ⟨u2, v2, rfl, hu2, h2⟩ := h
    obtain ⟨hl1, ht⟩ := pre_length _ _ _ hp
    obtain ⟨hl2, hv⟩ := pre_length _ _ _ hv'
    by_cases hu0 : u.length = 0
    · have p2 : u = [] := List.eq_nil_of_length_eq_zero hu0
      subst p2
      rw [List.nil_append] at hp
      rw [hp] at hv'
      have e := Option.some.inj hv'
      exact ⟨u2, v2, e, hu2, h2⟩
    have key : ∀ y (hy : y < (u ++ v).length), y < seg.length + u.length → (u ++ v)[y] ≠ 47 := by
      intro y
      induction y using Nat.strongRecOn with
      | _ y ih =>
        intro hy hlt
        by_cases h1 : y < u.length
        · rw [List.getElem_append_left h1]
          exact hu _ (List.getElem_mem h1)
        · intro e
          have hyv : y - u.length < v.length := by simp at hy; omega
          have hseg : y - u.length < seg.length := by omega
          have e2 : v[y - u.length] = 47 := by rw [← e, List.getElem_append_right (by omega)]
          have p1 := pre_has _ _ _ hv' (y - u.length) hseg hyv
          rw [e2] at p1
          have hy2 : y - u.length < (u ++ v).length := by omega
          have p2 := pre_has _ _ _ hp (y - u.length) hseg hy2
          have := hf _ (List.getElem_mem hseg) p1.1 p1.2 _ p2.2
          exact ih (y - u.length) (by omega) hy2 (by omega) this
    have hl : (u ++ v).length = u.length + v.length := by simp
    refine ⟨(t.take u.length) ++ u2, v2, ?_, ?_, h2⟩
    · have e : u2 ++ v2 = t.drop u.length := by
        rw [hv, ht, List.drop_drop, Nat.add_comm, ← List.drop_drop, List.drop_left]
      rw [List.append_assoc, e, List.take_append_drop]
    · intro c hc
      rcases List.mem_append.1 hc with hc | hc
      · obtain ⟨k, hk, rfl⟩ := List.getElem_of_mem hc
        have hk1 : k < u.length := by simp at hk; omega
        have hk2 : k < t.length := by simp at hk; omega
        rw [List.getElem_take]
        have e : t[k] = (u ++ v)[seg.length + k]'(by omega) := by simp only [ht, List.getElem_drop]
        rw [e]
        exact key _ _ (by omega)
      · exact hu2 c hc
  · rintro ⟨u, v, rfl, hu, h⟩
    refine ⟨[], s, rfl, by simp, (mt_pre seg (x :: rest) s hs).2 ⟨_, hp, ?_⟩⟩
    simp only [mt, hx, ↓reduceIte, star_iff]
    exact ⟨u, v, rfl, hu, h⟩

/-! The loop of the greedy way: i parts and k bytes are behind it; z: one more than the last star's place (0: none); fr: where what that star took ends. -/
structure GInv (l : List Prt) (n : Bs) (r : Bool) (i k z fr : Nat) : Prop where
  il : i ≤ l.length
  kn : k ≤ n.length
  zi : z ≤ i
  fk : fr ≤ k
  none_ : z = 0 → r = mt (l.drop i) (n.drop k)
  some_ : z ≠ 0 → (∃ h : z - 1 < l.length, l[z - 1].any = true) ∧ r = star (mt (l.drop z)) (n.drop fr) ∧ ∃ seg, l.drop z = seg ++ l.drop i ∧ (∀ y ∈ seg, y.any = false) ∧ pre seg (n.drop fr) = some (n.drop k)

theorem GInv.start (l : List Prt) (n : Bs) : GInv l n (mt l n) 0 0 0 0 := ⟨by omega, by omega, by omega, by omega, fun _ => by simp, fun h => absurd rfl h⟩
theorem pre_snoc : ∀ (seg : List Prt) (x : Prt) (s : Bs) (c : UInt8) (t : Bs), pre seg s = some (c :: t) → x.any = false → x.has c.toNat = true → pre (seg ++ [x]) s = some t
  | [], x, s, c, t, h, h1, h2 => by
    simp only [pre, Option.some.injEq] at h
    subst h
    simp [pre, h1, h2]
  | _ :: _, _, [], _, _, h, _, _ => by simp [pre] at h
  | y :: seg, x, d :: s, c, t, h, h1, h2 => by
    simp only [pre, List.cons_append] at h ⊢
    split at h
    · rename_i hy
      rw [if_pos hy]
      exact pre_snoc seg x s c t h h1 h2
    · cases h
section
variable {l : List Prt} {n : Bs} {r : Bool} {i k z fr : Nat} (h : GInv l n r i k z fr)
include h
theorem GInv.any (hf : FinePt l) (hi : i < l.length) (hx : l[i].any = true) : GInv l n r (i + 1) k (i + 1) k := by
  have e := List.drop_eq_getElem_cons hi
  refine ⟨by omega, h.kn, by omega, by omega, fun h0 => by omega, fun _ => ⟨⟨by omega, by simpa using hx⟩, ?_, [], rfl, by simp, rfl⟩⟩
  by_cases hz : z = 0
  · rw [h.none_ hz, e]; simp [mt, hx]
  · obtain ⟨_, hr, seg, h1, h2, h3⟩ := h.some_ hz
    have hfs : FinePt seg := fun y hy => hf y (List.mem_of_mem_drop (by rw [h1]; exact List.mem_append_left _ hy))
    rw [hr, h1, e, greedy seg _ _ _ _ hx h2 hfs h3]
theorem GInv.one (hi : i < l.length) (hk : k < n.length) (hx : l[i].any = false) (hc : l[i].has n[k].toNat = true) : GInv l n r (i + 1) (k + 1) z fr := by
  have e := List.drop_eq_getElem_cons hi
  have ek := List.drop_eq_getElem_cons hk
  refine ⟨by omega, by omega, by have := h.zi; omega, by have := h.fk; omega, fun hz => ?_, fun hz => ?_⟩
  · rw [h.none_ hz, e, ek]
    simp [mt, hx, hc]
  · obtain ⟨h0, hr, seg, h1, h2, h3⟩ := h.some_ hz
    refine ⟨h0, hr, seg ++ [l[i]], by rw [h1, e]; simp, ?_, pre_snoc _ _ _ _ _ (by rw [← ek]; exact h3) hx hc⟩
    intro y hy
    rcases List.mem_append.1 hy with hy | hy
    · exact h2 y hy
    · simp at hy; rw [hy]; exact hx
theorem GInv.stuck (hk : k < n.length) (hx : ∀ hi : i < l.length, l[i].any = false ∧ l[i].has n[k].toNat = false) : mt (l.drop i) (n.drop k) = false := by
  have _h := h.none_
  have ek := List.drop_eq_getElem_cons hk
  rw [ek]
  by_cases hi : i < l.length
  · have e := List.drop_eq_getElem_cons hi
    obtain ⟨h1, h2⟩ := hx hi
    rw [e]; simp [mt, h1, h2]
  · rw [List.drop_eq_nil_of_le (by omega)]; rfl
theorem GInv.back (hz : z ≠ 0) (hk : k < n.length) (hx : ∀ hi : i < l.length, l[i].any = false ∧ l[i].has n[k].toNat = false) (hs : n[fr]'(by have := h.fk; omega) ≠ 47) : GInv l n r z (fr + 1) z (fr + 1) := by
  have hst := h.stuck hk hx
  obtain ⟨⟨h0, h00⟩, hr, seg, h1, h2, h3⟩ := h.some_ hz
  have hfn : fr < n.length := by have := h.fk; omega
  have ef := List.drop_eq_getElem_cons hfn
  refine ⟨by omega, by omega, by omega, by omega, fun e => absurd e hz, fun _ => ⟨⟨h0, h00⟩, ?_, [], rfl, by simp, rfl⟩⟩
  have hm : mt (l.drop z) (n.drop fr) = false := by
    rw [h1, Bool.eq_false_iff, ne_eq, mt_pre _ _ _ h2, h3]
    rintro ⟨t, ht, h4⟩
    rw [← Option.some.inj ht, hst] at h4
    cases h4
  rw [hr, ef, star, ← ef, hm]
  simp [hs]
theorem GInv.fail (hk : k < n.length) (hx : ∀ hi : i < l.length, l[i].any = false ∧ l[i].has n[k].toNat = false) (hs : z = 0 ∨ n[fr]'(by have := h.fk; omega) = 47) : r = false := by
  have hst := h.stuck hk hx
  by_cases hz : z = 0
  · rw [h.none_ hz, hst]
  · have hs : n[fr]'(by have := h.fk; omega) = 47 := hs.resolve_left hz
    obtain ⟨_, hr, seg, h1, h2, h3⟩ := h.some_ hz
    have hfn : fr < n.length := by have := h.fk; omega
    have ef := List.drop_eq_getElem_cons hfn
    have hm : mt (l.drop z) (n.drop fr) = false := by
      rw [h1, Bool.eq_false_iff, ne_eq, mt_pre _ _ _ h2, h3]
      rintro ⟨t, ht, h4⟩
      rw [← Option.some.inj ht, hst] at h4
      cases h4
    rw [hr, ef, star, ← ef, hm]
    simp [hs]
theorem GInv.last (hk : k = n.length) : r = mt (l.drop i) [] := by
  have ek : n.drop k = [] := List.drop_eq_nil_of_le (by omega)
  by_cases hz : z = 0
  · rw [h.none_ hz, ek]
  · obtain ⟨_, hr, seg, h1, h2, h3⟩ := h.some_ hz
    rw [ek] at h3
    obtain ⟨hl, _⟩ := pre_length _ _ _ h3
    rw [hr, Bool.eq_iff_iff, star_iff, h1]
    constructor
    · rintro ⟨u, v, e, hu, hm⟩
      obtain ⟨t, ht, hm⟩ := (mt_pre _ _ _ h2).1 hm
      obtain ⟨hl2, _⟩ := pre_length _ _ _ ht
      have e2 : (n.drop fr).length = u.length + v.length := by rw [e]; simp
      have : t = [] := List.eq_nil_of_length_eq_zero (by rw [List.length_nil] at hl; omega)
      rw [this] at hm
      exact hm
    · intro hm
      exact ⟨[], n.drop fr, rfl, by simp, (mt_pre _ _ _ h2).2 ⟨_, h3, hm⟩⟩
end
theorem mt_end_any (l : List Prt) (i : Nat) (hi : i < l.length) (hx : l[i].any = true) : mt (l.drop i) [] = mt (l.drop (i + 1)) [] := by
  rw [List.drop_eq_getElem_cons hi]; simp [mt, hx, star]
theorem mt_end_one (l : List Prt) (i : Nat) (hi : i < l.length) (hx : l[i].any = false) : mt (l.drop i) [] = false := by
  rw [List.drop_eq_getElem_cons hi]; simp [mt, hx]
theorem mt_end_nil (l : List Prt) (i : Nat) (hi : l.length ≤ i) : mt (l.drop i) [] = true := by
  rw [List.drop_eq_nil_of_le hi]; rfl

def gmeas (L N i z fr : Nat) : Nat := ((L + 1 - z) + (N - fr)) * (L + 2) + (L - i)
theorem gmeas_any {L N i k z fr : Nat} (hi : i < L) (hz : z ≤ i) (hf : fr ≤ k) : gmeas L N (i + 1) (i + 1) k < gmeas L N i z fr := by
  unfold gmeas
  have h1 : (L + 1 - (i + 1)) + (N - k) + 1 ≤ (L + 1 - z) + (N - fr) := by omega
  have h2 := Nat.mul_le_mul_right (L + 2) h1
  rw [Nat.succ_mul] at h2
  omega
theorem gmeas_one {L N i z fr : Nat} (hi : i < L) : gmeas L N (i + 1) z fr < gmeas L N i z fr := by unfold gmeas; omega
theorem gmeas_back {L N i z fr : Nat} (hf : fr < N) : gmeas L N z z (fr + 1) < gmeas L N i z fr := by
  unfold gmeas
  have h1 : (L + 1 - z) + (N - (fr + 1)) + 1 ≤ (L + 1 - z) + (N - fr) := by omega
  have h2 := Nat.mul_le_mul_right (L + 2) h1
  rw [Nat.succ_mul] at h2
  omega

theorem parse_fine (p : Bs) : ∀ (n k : Nat) (l : List Prt), parse p n k = some l → FinePt l
  | 0, k, l, h => by
    rw [parse] at h
    split at h
    · cases h; intro x hx; simp at hx
    · cases h
  | n + 1, k, l, h => by
    rw [parse] at h
    have cons : ∀ (x : Prt) (o : Nat), (parse p n o).map (x :: ·) = some l → (x.any = false → x.has 47 = true → ∀ c : UInt8, x.has c.toNat = true → c = 47) → FinePt l := by
      intro x o ho hx
      cases e : parse p n o with
      | none => rw [e] at ho; cases ho
      | some l' =>
        rw [e] at ho
        cases ho
        intro y hy
        rcases List.mem_cons.1 hy with rfl | hy
        · exact hx
        · exact parse_fine p n o l' e y hy
    have hone : ∀ d : UInt8, one d.toNat 47 = true → ∀ c : UInt8, one d.toNat c.toNat = true → c = 47 := by
      intro d h1 c h2
      simp only [one, beq_iff_eq] at h1 h2
      have : c.toNat = (47 : UInt8).toNat := by rw [h2, ← h1]; rfl
      exact UInt8.toNat_inj.1 this
    split at h
    · cases h; intro x hx; simp at hx
    · rename_i c _
      split at h
      · exact cons _ _ h (fun e => by cases e)
      · split at h
        · exact cons _ _ h (fun _ e => by simp at e)
        · split at h
          · split at h
            · cases h
            · rename_i f e hc
              refine cons _ _ h (fun _ e2 => ?_)
              exfalso
              have h47 : f 47 = false := by
                unfold clsAt at hc
                split at hc
                · cases hq : cls p (p.length + 1 - (k + 1 + 1)) (k + 1 + 1) false fun _ => false with
                  | none => rw [hq] at hc; cases hc
                  | some q => rw [hq] at hc; cases hc; simp
                · cases hq : cls p (p.length + 1 - (k + 1)) (k + 1) false fun _ => false with
                  | none => rw [hq] at hc; cases hc
                  | some q => rw [hq] at hc; cases hc; simp
              simp only at e2
              rw [h47] at e2
              cases e2
          · split at h
            · split at h
              · cases h
              · exact cons _ _ h (fun _ => hone _)
            · exact cons _ _ h (fun _ => hone _)
end Go.Proofs.YtkaoechldamggaaGreatDoor
