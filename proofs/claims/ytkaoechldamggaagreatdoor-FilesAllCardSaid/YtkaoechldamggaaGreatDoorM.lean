/- Patterns, plainly: ends of ranges, classes, parts; what a row of parts has. No program in sight. -/
import Derived.Test.YtkaoechldamggaaGreatDoorS
namespace Go.Proofs.YtkaoechldamggaaGreatDoor

/-- One end of a range: the byte, and where it ends. -/
def endB (p : Bs) (k : Nat) : Option (UInt8 × Nat) :=
  match p[k]? with
  | none => none
  | some c => if c = 45 ∨ c = 93 then none else if c = 92 then (match p[k + 1]? with | none => none | some d => some (d, k + 2)) else some (c, k + 1)

theorem endB_lt {p : Bs} {k : Nat} {c : UInt8} {n : Nat} (h : endB p k = some (c, n)) : k < n ∧ n ≤ p.length := by
  unfold endB at h
  split at h
  · cases h
  · rename_i x hx
    have hk : k < p.length := by
      rcases Nat.lt_or_ge k p.length with h | h
      · exact h
      · rw [List.getElem?_eq_none h] at hx; cases hx
    split at h
    · cases h
    · split at h
      · split at h
        · cases h
        · rename_i y hy
          have hk1 : k + 1 < p.length := by
            rcases Nat.lt_or_ge (k + 1) p.length with h | h
            · exact h
            · rw [List.getElem?_eq_none h] at hy; cases hy
          cases h
          omega
      · cases h
        omega

def rng (f : Nat → Bool) (lo hi : Nat) : Nat → Bool := fun c => f c || (decide (lo ≤ c) && decide (c ≤ hi))

/-- A class behind its "[" and its "^": the bytes of its ranges, and where it ends. 'later': a range has been read. -/
def cls (p : Bs) : Nat → Nat → Bool → (Nat → Bool) → Option ((Nat → Bool) × Nat)
  | 0, _, _, _ => none
  | fuel + 1, k, later, f =>
    if later = true ∧ p[k]? = some 93 then some (f, k + 1) else
    match endB p k with
    | none => none
    | some (lo, n) =>
      if p[n]? = some 45 then
        match endB p (n + 1) with
        | none => none
        | some (hi, m) => cls p fuel m true (rng f lo.toNat hi.toNat)
      else cls p fuel n true (rng f lo.toNat lo.toNat)

def fin (no : Bool) : Option ((Nat → Bool) × Nat) → Option ((Nat → Bool) × Nat)
  | none => none
  | some (f, e) => some (fun c => (f c != no) && (c != 47), e)
def clsAt (p : Bs) (k : Nat) : Option ((Nat → Bool) × Nat) :=
  if p[k]? = some 94 then fin true (cls p (p.length + 1 - (k + 1)) (k + 1) false fun _ => false) else fin false (cls p (p.length + 1 - k) k false fun _ => false)

theorem clsAt_start (p : Bs) (k : Nat) (hk : k ≤ p.length) : ∃ (no : Bool) (k' : Nat), clsAt p k = fin no (cls p (p.length + 1 - k') k' false fun _ => false) ∧ k' ≤ p.length ∧
    ((∃ h : k < p.length, p[k] = 94 ∧ no = true ∧ k' = k + 1) ∨ (∃ h : k < p.length, p[k] ≠ 94 ∧ no = false ∧ k' = k) ∨ (p.length ≤ k ∧ no = false ∧ k' = k)) := by
  unfold clsAt
  by_cases hlt : k < p.length
  · by_cases h : p[k] = 94
    · refine ⟨true, k + 1, by rw [if_pos (by rw [List.getElem?_eq_getElem hlt, h])], by omega, .inl ⟨hlt, h, rfl, rfl⟩⟩
    · refine ⟨false, k, by rw [if_neg (by rw [List.getElem?_eq_getElem hlt]; simpa using h)], by omega, .inr (.inl ⟨hlt, h, rfl, rfl⟩)⟩
  · refine ⟨false, k, by rw [if_neg (by rw [List.getElem?_eq_none (by omega)]; simp)], by omega, .inr (.inr ⟨by omega, rfl, rfl⟩)⟩

theorem cls_done (p : Bs) (n k : Nat) (f : Nat → Bool) (hk : k < p.length) (hx : p[k] = 93) : cls p (n + 1) k true f = some (f, k + 1) := by
  rw [cls, if_pos ⟨rfl, by rw [List.getElem?_eq_getElem hk, hx]⟩]
theorem cls_bad (p : Bs) (n k : Nat) (later : Bool) (f : Nat → Bool) (hx : ¬ (later = true ∧ p[k]? = some 93)) (he : endB p k = none) : cls p (n + 1) k later f = none := by
  simp only [cls]
  rw [if_neg hx, he]
theorem cls_one (p : Bs) (n k : Nat) (later : Bool) (f : Nat → Bool) (hx : ¬ (later = true ∧ p[k]? = some 93)) {lo : UInt8} {m : Nat} (he : endB p k = some (lo, m)) (h45 : p[m]? ≠ some 45) :
    cls p (n + 1) k later f = cls p n m true (rng f lo.toNat lo.toNat) := by
  simp only [cls]
  rw [if_neg hx, he]
  simp only
  rw [if_neg h45]
theorem cls_bad2 (p : Bs) (n k : Nat) (later : Bool) (f : Nat → Bool) (hx : ¬ (later = true ∧ p[k]? = some 93)) {lo : UInt8} {m : Nat} (he : endB p k = some (lo, m)) (h45 : p[m]? = some 45) (he2 : endB p (m + 1) = none) :
    cls p (n + 1) k later f = none := by
  simp only [cls]
  rw [if_neg hx, he]
  simp only
  rw [if_pos h45, he2]
theorem cls_two (p : Bs) (n k : Nat) (later : Bool) (f : Nat → Bool) (hx : ¬ (later = true ∧ p[k]? = some 93)) {lo hi : UInt8} {m m' : Nat} (he : endB p k = some (lo, m)) (h45 : p[m]? = some 45) (he2 : endB p (m + 1) = some (hi, m')) :
    cls p (n + 1) k later f = cls p n m' true (rng f lo.toNat hi.toNat) := by
  simp only [cls]
  rw [if_neg hx, he]
  simp only
  rw [if_pos h45, he2]

structure Prt where
  any : Bool
  has : Nat → Bool

def one (c : Nat) : Nat → Bool := fun x => x == c

/-- The parts of a pattern from place k on. -/
def parse (p : Bs) : Nat → Nat → Option (List Prt)
  | 0, k => if p.length ≤ k then some [] else none
  | fuel + 1, k =>
    match p[k]? with
    | none => some []
    | some c =>
      if c = 42 then (parse p fuel (k + 1)).map (⟨true, fun _ => false⟩ :: ·)
      else if c = 63 then (parse p fuel (k + 1)).map (⟨false, fun x => x != 47⟩ :: ·)
      else if c = 91 then
        match clsAt p (k + 1) with
        | none => none
        | some (f, e) => (parse p fuel e).map (⟨false, f⟩ :: ·)
      else if c = 92 then
        match p[k + 1]? with
        | none => none
        | some d => (parse p fuel (k + 2)).map (⟨false, one d.toNat⟩ :: ·)
      else (parse p fuel (k + 1)).map (⟨false, one c.toNat⟩ :: ·)

def parseAll (p : Bs) : Option (List Prt) := parse p p.length 0


/-- xs has been read of p, up to place k; r is what the whole comes to. -/
def PInv (p : Bs) (r : Option (List Prt)) (xs : List Prt) (k : Nat) : Prop := ∃ fu, p.length ≤ fu + k ∧ (parse p fu k).map (xs ++ ·) = r
theorem PInv.start (p : Bs) : PInv p (parseAll p) [] 0 := ⟨p.length, by omega, by simp [parseAll]⟩
theorem PInv.done {p : Bs} {r : Option (List Prt)} {xs : List Prt} {k : Nat} (h : PInv p r xs k) (hk : p.length ≤ k) : r = some xs := by
  obtain ⟨fu, _, h⟩ := h
  cases fu with
  | zero => rw [parse, if_pos hk] at h; simpa using h.symm
  | succ fu => rw [parse, List.getElem?_eq_none hk] at h; simpa using h.symm
theorem map_cons (o : Option (List Prt)) (xs : List Prt) (x : Prt) : (o.map (x :: ·)).map (xs ++ ·) = o.map ((xs ++ [x]) ++ ·) := by cases o <;> simp
section
variable {p : Bs} {r : Option (List Prt)} {xs : List Prt} {k : Nat} (h : PInv p r xs k) (hk : k < p.length)
include h hk
theorem PInv.star (hx : p[k] = 42) : PInv p r (xs ++ [⟨true, fun _ => false⟩]) (k + 1) := by
  obtain ⟨fu, hf, h⟩ := h
  obtain ⟨fu, rfl⟩ : ∃ q, fu = q + 1 := ⟨fu - 1, by omega⟩
  rw [parse, List.getElem?_eq_getElem hk] at h
  simp only [hx, ↓reduceIte, map_cons] at h
  exact ⟨fu, by omega, h⟩
theorem PInv.any1 (hx : p[k] = 63) : PInv p r (xs ++ [⟨false, fun x => x != 47⟩]) (k + 1) := by
  obtain ⟨fu, hf, h⟩ := h
  obtain ⟨fu, rfl⟩ : ∃ q, fu = q + 1 := ⟨fu - 1, by omega⟩
  rw [parse, List.getElem?_eq_getElem hk] at h
  simp only [hx] at h
  rw [if_neg (by decide), if_pos True.intro, map_cons] at h
  exact ⟨fu, by omega, h⟩
theorem PInv.cls (hx : p[k] = 91) {f : Nat → Bool} {e : Nat} (hc : clsAt p (k + 1) = some (f, e)) (he : k < e) : PInv p r (xs ++ [⟨false, f⟩]) e := by
  obtain ⟨fu, hf, h⟩ := h
  obtain ⟨fu, rfl⟩ : ∃ q, fu = q + 1 := ⟨fu - 1, by omega⟩
  rw [parse, List.getElem?_eq_getElem hk] at h
  simp only [hx] at h
  rw [if_neg (by decide), if_neg (by decide), if_pos True.intro, hc] at h
  simp only [map_cons] at h
  exact ⟨fu, by omega, h⟩
theorem PInv.clsBad (hx : p[k] = 91) (hc : clsAt p (k + 1) = none) : r = none := by
  obtain ⟨fu, hf, h⟩ := h
  obtain ⟨fu, rfl⟩ : ∃ q, fu = q + 1 := ⟨fu - 1, by omega⟩
  rw [parse, List.getElem?_eq_getElem hk] at h
  simp only [hx] at h
  rw [if_neg (by decide), if_neg (by decide), if_pos True.intro, hc] at h
  exact h.symm
theorem PInv.esc (hx : p[k] = 92) (hk1 : k + 1 < p.length) : PInv p r (xs ++ [⟨false, one (p[k + 1]).toNat⟩]) (k + 2) := by
  obtain ⟨fu, hf, h⟩ := h
  obtain ⟨fu, rfl⟩ : ∃ q, fu = q + 1 := ⟨fu - 1, by omega⟩
  rw [parse, List.getElem?_eq_getElem hk] at h
  simp only [hx] at h
  rw [if_neg (by decide), if_neg (by decide), if_neg (by decide), if_pos True.intro, List.getElem?_eq_getElem hk1] at h
  simp only [map_cons] at h
  exact ⟨fu, by omega, h⟩
theorem PInv.escBad (hx : p[k] = 92) (hk1 : p.length ≤ k + 1) : r = none := by
  obtain ⟨fu, hf, h⟩ := h
  obtain ⟨fu, rfl⟩ : ∃ q, fu = q + 1 := ⟨fu - 1, by omega⟩
  rw [parse, List.getElem?_eq_getElem hk] at h
  simp only [hx] at h
  rw [if_neg (by decide), if_neg (by decide), if_neg (by decide), if_pos True.intro, List.getElem?_eq_none hk1] at h
  exact h.symm
theorem PInv.plain (h1 : p[k] ≠ 42) (h2 : p[k] ≠ 63) (h3 : p[k] ≠ 91) (h4 : p[k] ≠ 92) : PInv p r (xs ++ [⟨false, one (p[k]).toNat⟩]) (k + 1) := by
  obtain ⟨fu, hf, h⟩ := h
  obtain ⟨fu, rfl⟩ : ∃ q, fu = q + 1 := ⟨fu - 1, by omega⟩
  rw [parse, List.getElem?_eq_getElem hk] at h
  simp only at h
  rw [if_neg h1, if_neg h2, if_neg h3, if_neg h4, map_cons] at h
  exact ⟨fu, by omega, h⟩
end

theorem cls_lt (p : Bs) : ∀ (n k : Nat) (later : Bool) (f g : Nat → Bool) (e : Nat), cls p n k later f = some (g, e) → k < e ∧ e ≤ p.length
  | 0, _, _, _, _, _, h => by simp [cls] at h
  | n + 1, k, later, f, g, e, h => by
    rw [cls] at h
    split at h
    · rename_i h93
      have hk : k < p.length := by
        rcases Nat.lt_or_ge k p.length with h2 | h2
        · exact h2
        · rw [List.getElem?_eq_none h2] at h93; simp at h93
      cases h
      omega
    · split at h
      · cases h
      · rename_i lo m he
        have h1 := endB_lt he
        split at h
        · split at h
          · cases h
          · rename_i hi m2 he2
            have h2 := endB_lt he2
            have h3 := cls_lt p n _ _ _ _ _ h
            omega
        · have h3 := cls_lt p n _ _ _ _ _ h
          omega
theorem clsAt_lt {p : Bs} {k : Nat} {g : Nat → Bool} {e : Nat} (h : clsAt p k = some (g, e)) : k < e ∧ e ≤ p.length := by
  unfold clsAt at h
  split at h
  · cases hc : cls p (p.length + 1 - (k + 1)) (k + 1) false fun _ => false with
    | none => rw [hc] at h; cases h
    | some q =>
      obtain ⟨f, e'⟩ := q
      rw [hc] at h
      cases h
      have := cls_lt p _ _ _ _ _ _ hc
      omega
  · cases hc : cls p (p.length + 1 - k) k false fun _ => false with
    | none => rw [hc] at h; cases h
    | some q =>
      obtain ⟨f, e'⟩ := q
      rw [hc] at h
      cases h
      have := cls_lt p _ _ _ _ _ _ hc
      omega
end Go.Proofs.YtkaoechldamggaaGreatDoor
