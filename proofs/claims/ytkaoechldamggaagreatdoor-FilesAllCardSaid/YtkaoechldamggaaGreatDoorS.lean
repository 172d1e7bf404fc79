/- Plain definitions: what the program's functions compute, over lists of bytes; no program and no memory in sight. -/
import Derived.Lib.ValidU
namespace Go.Proofs.YtkaoechldamggaaGreatDoor

abbrev Bs := List UInt8

structure Ent where
  path : Bs
  data : Bs
  deriving DecidableEq

structure Inf where
  name : Bs
  dir : Bool
  size : Nat
  deriving DecidableEq

structure Ask where
  way : Nat
  path : Bs
  deriving DecidableEq

structure Sto where
  files : List Ent
  caps : Nat
  blind : Bool

/-- What stands between the slashes. -/
def elems : Bs → List Bs
  | [] => [[]]
  | c :: t => if c = 47 then [] :: elems t else
    match elems t with
    | [] => [[c]]
    | h :: r => (c :: h) :: r

def goodEl (x : Bs) : Bool := !(x == []) && !(x == [46]) && !(x == [46, 46])

def valid (p : Bs) : Bool := decide (p.length ≤ 1024) && Lib.validD p && (p == [46] || (elems p).all goodEl)

/-- What stands of a path behind a directory. -/
def below (d p : Bs) : Option Bs :=
  if d = [46] then (if p = [46] then none else some p) else if d ++ [47] <+: p then some (p.drop (d.length + 1)) else none

def isBelow (d p : Bs) : Bool := (below d p).isSome

/-- What a path is: nothing, a directory, a file with its data. -/
def lookIn : List Ent → Bs → Option (Option Bs)
  | [], _ => none
  | x :: r, p => if x.path = p then some (some x.data) else if isBelow p x.path then some none else lookIn r p

def look (es : List Ent) (p : Bs) : Option (Option Bs) := if p = [46] then some none else lookIn es p

def lastEl (p : Bs) : Bs := (elems p).getLast?.getD []

def infoOf (p : Bs) (k : Option Bs) : Inf := ⟨lastEl p, k.isNone, (k.getD []).length⟩

def join (d n : Bs) : Bs := if d = [46] then n else d ++ [47] ++ n

def hasCap (caps c : Nat) : Bool := caps / 2 ^ c % 2 == 1

def way (caps c : Nat) : Nat := if hasCap caps c then c else 5

end Go.Proofs.YtkaoechldamggaaGreatDoor
namespace Go.Proofs.YtkaoechldamggaaGreatDoor

def kindOf : Option (Option Bs) → Int
  | none => 0
  | some (some _) => 1
  | some none => 2
def dataOf : Option (Option Bs) → Bs
  | some (some d) => d
  | _ => []

def isMagic (c : UInt8) : Bool := c == 42 || (c == 63 || (c == 91 || c == 92))
def magic (s : Bs) : Bool := s.any isMagic

/-- The place of the last slash. -/
def lastSl : Bs → Option Nat
  | [] => none
  | c :: t => match lastSl t with
    | some i => some (i + 1)
    | none => if c = 47 then some 0 else none

theorem lastSl_none (p : Bs) : lastSl p = none ↔ ∀ j (h : j < p.length), p[j] ≠ 47 := by
  induction p with
  | nil => simp [lastSl]
  | cons c t ih =>
    simp only [lastSl]
    cases e : lastSl t with
    | some i =>
      rw [e] at ih
      simp only [reduceCtorEq, false_iff] at ih ⊢
      intro h
      apply ih
      intro j hj
      have := h (j + 1) (by simpa using hj)
      simpa using this
    | none =>
      have ht := ih.1 e
      constructor
      · intro h j hj
        cases j with
        | zero =>
          simp only [List.getElem_cons_zero]
          intro hc
          simp [hc] at h
        | succ j => simpa using ht j (by simpa using hj)
      · intro h
        have := h 0 (by simp)
        simp only [List.getElem_cons_zero] at this
        simp [this]

theorem lastSl_some (p : Bs) (i : Nat) : lastSl p = some i ↔ ∃ h : i < p.length, p[i] = 47 ∧ ∀ j (h : j < p.length), i < j → p[j] ≠ 47 := by
  induction p generalizing i with
  | nil => simp [lastSl]
  | cons c t ih =>
    simp only [lastSl]
    cases e : lastSl t with
    | some k =>
      obtain ⟨hk, h47, hl⟩ := (ih k).1 e
      simp only [Option.some.injEq]
      constructor
      · rintro rfl
        refine ⟨by simpa using hk, by simpa using h47, fun j hj hlt => ?_⟩
        cases j with
        | zero => omega
        | succ j => simpa using hl j (by simpa using hj) (by omega)
      · rintro ⟨hi, hi47, hil⟩
        rcases Nat.lt_trichotomy i (k + 1) with h | h | h
        · exact absurd (show (c :: t)[k + 1]'(by simpa using hk) = 47 by rw [List.getElem_cons_succ]; exact h47) (hil (k + 1) (by simpa using hk) h)
        · exact h.symm
        · cases i with
          | zero => omega
          | succ i =>
            rw [List.getElem_cons_succ] at hi47
            exact absurd hi47 (hl i (by simpa using hi) (by omega))
    | none =>
      have ht := (lastSl_none t).1 e
      constructor
      · intro h
        by_cases hc : c = 47
        · simp [hc] at h
          subst h
          refine ⟨by simp, by simpa using hc, fun j hj hlt => ?_⟩
          cases j with
          | zero => omega
          | succ j => simpa using ht j (by simpa using hj)
        · simp [hc] at h
      · rintro ⟨hi, h47, hl⟩
        cases i with
        | zero =>
          simp at h47
          simp [h47]
        | succ i =>
          rw [List.getElem_cons_succ] at h47
          exact absurd h47 (ht i (by simpa using hi))

/-- What stands ahead of the last slash, and behind it. -/
def split2 (p : Bs) : Bs × Bs :=
  match lastSl p with
  | none => ([46], p)
  | some i => if i = 0 then ([47], p.drop 1) else (p.take i, p.drop (i + 1))

theorem isBelow_dot (d p : Bs) (h : (d == [46]) = true) : isBelow d p = !(p == [46]) := by
  have h : d = [46] := by simpa using h
  unfold isBelow below
  rw [if_pos h]
  by_cases e : p = [46] <;> simp [e]
theorem isBelow_not (d p : Bs) (h : (d == [46]) = false) : isBelow d p = decide (d ++ [47] <+: p) := by
  have h : d ≠ [46] := by simpa using h
  unfold isBelow below
  rw [if_neg h]
  by_cases e : d ++ [47] <+: p <;> simp [e]
theorem prefix_slash (d p : Bs) : d ++ [47] <+: p ↔ ∃ h : d.length < p.length, p.take d.length = d ∧ p[d.length] = 47 := by
  constructor
  · rintro ⟨r, rfl⟩
    refine ⟨by simp, by simp, by simp⟩
  · rintro ⟨h, h1, h2⟩
    refine ⟨p.drop (d.length + 1), ?_⟩
    calc d ++ [47] ++ p.drop (d.length + 1) = d ++ (p[d.length] :: p.drop (d.length + 1)) := by rw [h2]; simp
      _ = d ++ p.drop d.length := by rw [← List.drop_eq_getElem_cons h]
      _ = p.take d.length ++ p.drop d.length := by rw [h1]
      _ = p := List.take_append_drop _ _
end Go.Proofs.YtkaoechldamggaaGreatDoor
namespace Go.Proofs.YtkaoechldamggaaGreatDoor

theorem elems_ne (l : Bs) : elems l ≠ [] := by
  cases l with
  | nil => simp [elems]
  | cons c t =>
    simp only [elems]
    split
    · simp
    · split <;> simp
theorem elems_plain (l : Bs) (h : ∀ c ∈ l, c ≠ 47) : elems l = [l] := by
  induction l with
  | nil => rfl
  | cons c t ih =>
    simp only [elems]
    rw [if_neg (h c (by simp)), ih (fun x hx => h x (by simp [hx]))]
theorem elems_cut (l t : Bs) (h : ∀ c ∈ l, c ≠ 47) : elems (l ++ 47 :: t) = l :: elems t := by
  induction l with
  | nil => simp [elems]
  | cons c l ih =>
    simp only [List.cons_append, elems]
    rw [if_neg (h c (by simp)), ih (fun x hx => h x (by simp [hx]))]

/-- The elements found while a text is gone through from place a on, k bytes seen. -/
def ElInv (s : Bs) (a k : Nat) (xs : List Bs) : Prop :=
  (k ≤ s.length ∧ elems s = xs ++ elems (s.drop a) ∧ ∀ c ∈ (s.drop a).take (k - a), c ≠ 47) ∨ (k = s.length + 1 ∧ elems s = xs)
theorem ElInv.start (s : Bs) : ElInv s 0 0 [] := .inl ⟨by omega, by simp, by simp⟩
theorem ElInv.plain {s : Bs} {a k : Nat} {xs : List Bs} (h : ElInv s a k xs) (ha : a ≤ k) (hk : k < s.length) (hx : s[k] ≠ 47) : ElInv s a (k + 1) xs := by
  rcases h with ⟨_, h1, h2⟩ | ⟨h, _⟩
  · refine .inl ⟨by omega, h1, ?_⟩
    have e : k + 1 - a = (k - a) + 1 := by omega
    have hl : k - a < (s.drop a).length := by rw [List.length_drop]; omega
    rw [e, List.take_succ_eq_append_getElem hl]
    intro c hc
    rcases List.mem_append.1 hc with hc | hc
    · exact h2 c hc
    · simp only [List.getElem_drop, List.mem_singleton] at hc
      have : a + (k - a) = k := by omega
      simp only [this] at hc
      rw [hc]; exact hx
  · omega
theorem ElInv.cut {s : Bs} {a k : Nat} {xs : List Bs} (h : ElInv s a k xs) (ha : a ≤ k) (hk : k < s.length) (hx : s[k] = 47) : ElInv s (k + 1) (k + 1) (xs ++ [(s.drop a).take (k - a)]) := by
  rcases h with ⟨_, h1, h2⟩ | ⟨h, _⟩
  · refine .inl ⟨by omega, ?_, by simp⟩
    have hl : k - a < (s.drop a).length := by rw [List.length_drop]; omega
    have e : s.drop a = (s.drop a).take (k - a) ++ 47 :: s.drop (k + 1) := by
      conv => lhs; rw [← List.take_append_drop (k - a) (s.drop a)]
      congr 1
      rw [List.drop_drop, show a + (k - a) = k from by omega, List.drop_eq_getElem_cons hk, hx]
    rw [h1]
    conv => lhs; rw [e]
    rw [elems_cut _ _ h2]
    simp
  · omega
theorem ElInv.last {s : Bs} {a k : Nat} {xs : List Bs} (h : ElInv s a k xs) (hk : k = s.length) : ElInv s (k + 1) (k + 1) (xs ++ [(s.drop a).take (k - a)]) := by
  rcases h with ⟨_, h1, h2⟩ | ⟨h, _⟩
  · refine .inr ⟨by omega, ?_⟩
    have e : (s.drop a).take (k - a) = s.drop a := List.take_of_length_le (by rw [List.length_drop]; omega)
    rw [e] at h2 ⊢
    rw [h1, elems_plain _ h2]
  · omega
theorem ElInv.done {s : Bs} {a k : Nat} {xs : List Bs} (h : ElInv s a k xs) (hk : s.length < k) : elems s = xs := by
  rcases h with ⟨h, _⟩ | ⟨_, h⟩
  · omega
  · exact h

theorem elems_length (l : Bs) : (elems l).length ≤ l.length + 1 := by
  induction l with
  | nil => simp [elems]
  | cons c t ih =>
    simp only [elems]
    split
    · simpa using ih
    · split
      · simp
      · rename_i e
        rw [e] at ih
        simp at ih ⊢; omega
end Go.Proofs.YtkaoechldamggaaGreatDoor
namespace Go.Proofs.YtkaoechldamggaaGreatDoor
/-- A text gone through from its end: no slash from place k on. -/
theorem lastSl_at (s : Bs) (k : Nat) (hk : k < s.length) (hx : s[k] = 47) (h : ∀ j (hj : j < s.length), k < j → s[j] ≠ 47) : lastSl s = some k := (lastSl_some s k).2 ⟨hk, hx, h⟩
theorem split2_zero (s : Bs) (h : lastSl s = some 0) : split2 s = ([47], s.drop 1) := by unfold split2; rw [h]; rfl
theorem split2_at (s : Bs) (k : Nat) (h : lastSl s = some k) (hk : k ≠ 0) : split2 s = (s.take k, s.drop (k + 1)) := by unfold split2; rw [h]; simp [hk]
theorem split2_none (s : Bs) (h : lastSl s = none) : split2 s = ([46], s) := by unfold split2; rw [h]

theorem lookIn_hit (es : List Ent) (p : Bs) (k : Nat) (hk : k < es.length) (h : (es[k].path == p) = true) : lookIn (es.drop k) p = some (some es[k].data) := by
  rw [List.drop_eq_getElem_cons hk]
  have h : es[k].path = p := by simpa using h
  simp only [lookIn]
  rw [if_pos h]
theorem lookIn_dir (es : List Ent) (p : Bs) (k : Nat) (hk : k < es.length) (h : (es[k].path == p) = false) (hb : isBelow p es[k].path = true) : lookIn (es.drop k) p = some none := by
  rw [List.drop_eq_getElem_cons hk]
  have h : es[k].path ≠ p := by simpa using h
  simp only [lookIn]
  rw [if_neg h, if_pos hb]
theorem lookIn_on (es : List Ent) (p : Bs) (k : Nat) (hk : k < es.length) (h : (es[k].path == p) = false) (hb : isBelow p es[k].path = false) : lookIn (es.drop k) p = lookIn (es.drop (k + 1)) p := by
  rw [List.drop_eq_getElem_cons hk]
  have h : es[k].path ≠ p := by simpa using h
  simp only [lookIn]
  rw [if_neg h, if_neg (by simp [hb])]
theorem lookIn_end (es : List Ent) (p : Bs) (k : Nat) (hk : es.length ≤ k) : lookIn (es.drop k) p = none := by
  rw [List.drop_eq_nil_of_le hk]; rfl
theorem look_dot (es : List Ent) (p : Bs) (h : (p == [46]) = true) : look es p = some none := by
  have h : p = [46] := by simpa using h
  unfold look; rw [if_pos h]
theorem look_in (es : List Ent) (p : Bs) (h : (p == [46]) = false) : look es p = lookIn es p := by
  have h : p ≠ [46] := by simpa using h
  unfold look; rw [if_neg h]
end Go.Proofs.YtkaoechldamggaaGreatDoor
