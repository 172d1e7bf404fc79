/- Plain: a walk from the root tells all, each once, what lies in a directory behind it. -/
import Derived.Test.YtkaoechldamggaaGreatDoorCD
import Derived.Test.YtkaoechldamggaaGreatDoorAV
import Derived.Lib.ValidLaws
import Derived.Test.YtkaoechldamggaaGreatDoorAW
namespace Go.Proofs.YtkaoechldamggaaGreatDoor
open Go

theorem decodeN_more {n n' a b c d b' c' d' : Nat} (_hn : 1 ≤ n) (hl : n ≤ n') (h1 : 2 ≤ n → b' = b) (h2 : 3 ≤ n → c' = c) (h3 : 4 ≤ n → d' = d) (hv : ¬ ((Lib.decodeN n a b c d).1 = 65533 ∧ (Lib.decodeN n a b c d).2 = 1)) : Lib.decodeN n' a b' c' d' = Lib.decodeN n a b c d := by
  by_cases c1 : a < 128
  · unfold Lib.decodeN; rw [if_pos c1, if_pos c1]
  by_cases c2 : a / 32 = 6 ∧ (1 < n ∧ b / 64 = 2)
  · obtain rfl := h1 (by omega)
    unfold Lib.decodeN
    rw [if_neg c1, if_neg c1, if_pos c2, if_pos (show a / 32 = 6 ∧ (1 < n' ∧ b' / 64 = 2) from ⟨c2.1, by omega, c2.2.2⟩)]
  by_cases c3 : a / 16 = 14 ∧ (1 < n ∧ b / 64 = 2) ∧ (2 < n ∧ c / 64 = 2)
  · obtain rfl := h1 (by omega)
    obtain rfl := h2 (by omega)
    unfold Lib.decodeN
    rw [if_neg c1, if_neg c1, if_neg c2, if_neg (by omega), if_pos c3, if_pos (show a / 16 = 14 ∧ (1 < n' ∧ b' / 64 = 2) ∧ (2 < n' ∧ c' / 64 = 2) from ⟨c3.1, ⟨by omega, c3.2.1.2⟩, ⟨by omega, c3.2.2.2⟩⟩)]
  by_cases c4 : a / 8 = 30 ∧ (1 < n ∧ b / 64 = 2) ∧ (2 < n ∧ c / 64 = 2) ∧ (3 < n ∧ d / 64 = 2)
  · obtain rfl := h1 (by omega)
    obtain rfl := h2 (by omega)
    obtain rfl := h3 (by omega)
    unfold Lib.decodeN
    rw [if_neg c1, if_neg c1, if_neg c2, if_neg (by omega), if_neg c3, if_neg (by omega), if_pos c4, if_pos (show a / 8 = 30 ∧ (1 < n' ∧ b' / 64 = 2) ∧ (2 < n' ∧ c' / 64 = 2) ∧ (3 < n' ∧ d' / 64 = 2) from ⟨c4.1, ⟨by omega, c4.2.1.2⟩, ⟨by omega, c4.2.2.1.2⟩, ⟨by omega, c4.2.2.2.2⟩⟩)]
  · exfalso
    apply hv
    unfold Lib.decodeN
    rw [if_neg c1, if_neg c2, if_neg c3, if_neg c4]
    exact ⟨rfl, rfl⟩

theorem getD_app (a b : Bs) (k : Nat) (h : k < a.length) : (a ++ b).getD k 0 = a.getD k 0 := by
  simp [List.getD, List.getElem?_append_left h]
theorem decodeL_app (a b : Bs) (hne : a ≠ []) (hv : ¬ ((Lib.decodeL a).1 = 65533 ∧ (Lib.decodeL a).2 = 1)) : Lib.decodeL (a ++ b) = Lib.decodeL a := by
  have hl : 1 ≤ a.length := List.length_pos_iff.2 hne
  rw [Lib.decodeL_N] at hv
  rw [Lib.decodeL_N, Lib.decodeL_N a, getD_app a b 0 (by omega)]
  exact decodeN_more hl (by simp) (fun h => by rw [getD_app a b 1 (by omega)]) (fun h => by rw [getD_app a b 2 (by omega)]) (fun h => by rw [getD_app a b 3 (by omega)]) hv
theorem validD_app : ∀ (n : Nat) (a b : Bs), a.length ≤ n → Lib.validD a = true → Lib.validD (a ++ b) = Lib.validD b := by
  intro n
  induction n with
  | zero => intro a b h _; have : a = [] := List.eq_nil_of_length_eq_zero (by omega); subst this; rfl
  | succ n ih =>
    intro a b h hv
    by_cases hne : a = []
    · subst hne; rfl
    · rw [Lib.validD_step a hne] at hv
      by_cases hc : (Lib.decodeL a).1 = 65533 ∧ (Lib.decodeL a).2 = 1
      · rw [if_pos hc] at hv; cases hv
      · rw [if_neg hc] at hv
        have e := decodeL_app a b hne hc
        rw [Lib.validD_step (a ++ b) (by simp [hne]), e, if_neg hc]
        have h1 := Lib.decodeL_width a
        have h2 := Lib.decodeL_le a hne
        rw [List.drop_append_of_le_length h2]
        exact ih _ b (by rw [List.length_drop]; omega) hv

theorem valid_parts {p : Bs} (h : valid p = true) : p.length ≤ 1024 ∧ Lib.validD p = true ∧ (p = [46] ∨ ∀ x ∈ elems p, goodEl x = true) := by
  unfold valid at h
  simp only [Bool.and_eq_true, decide_eq_true_eq, Bool.or_eq_true, beq_iff_eq, List.all_eq_true] at h
  exact ⟨h.1.1, h.1.2, h.2⟩
theorem valid_join {d p : Bs} (hd : valid d = true) (hp : valid p = true) (hd2 : d ≠ [46]) (hp2 : p ≠ [46]) (hl : (join d p).length ≤ 1024) : valid (join d p) = true := by
  obtain ⟨_, d1, d2⟩ := valid_parts hd
  obtain ⟨_, p1, p2⟩ := valid_parts hp
  have e : join d p = d ++ 47 :: p := by unfold join; rw [if_neg hd2]; simp
  rw [e] at hl ⊢
  unfold valid
  simp only [Bool.and_eq_true, decide_eq_true_eq, Bool.or_eq_true, beq_iff_eq, List.all_eq_true]
  refine ⟨⟨hl, ?_⟩, .inr ?_⟩
  · rw [validD_app _ d (47 :: p) (Nat.le_refl _) d1, Lib.validD_cons 47 p (by decide)]; exact p1
  · rw [elems_app]
    intro x hx
    rcases List.mem_append.1 hx with hx | hx
    · exact (d2.resolve_left hd2) x hx
    · exact (p2.resolve_left hp2) x hx

/-- The whole path. -/
def whole (d p : Bs) : Bs := if p = [46] then d else join d p

/-- What is asked of a file: it is not the root, nor does '.' stand behind a directory. -/
def Plain (d : Bs) (x : Ent) : Prop := x.path ≠ [46] ∧ ∀ r, below d x.path = some r → r ≠ [46]
theorem fit_plain {es : List Ent} {caps : Nat} (h : FitP es caps) (d : Bs) : ∀ x ∈ es, Plain d x := by
  intro x hx
  obtain ⟨i, hi, rfl⟩ := List.getElem_of_mem hx
  have hg := (h.each i hi).1
  simp only [goodEnt, Bool.and_eq_true, Bool.not_eq_true', beq_eq_false_iff_ne, ne_eq, decide_eq_true_eq] at hg
  refine ⟨hg.1.2, fun r hb hr => ?_⟩
  subst hr
  obtain ⟨_, _, h2⟩ := valid_parts hg.1.1
  have h3 := h2.resolve_left hg.1.2
  have hj := below_join hb
  unfold join at hj
  split at hj
  · exact hg.1.2 hj
  · rw [hj, show d ++ [47] ++ [46] = d ++ 47 :: [46] by simp, elems_app] at h3
    have := h3 [46] (by simp [elems])
    cases this
theorem decodeN_less {n n' a b c d b' c' d' : Nat} (_hl : n ≤ n') (h1 : 2 ≤ n → b' = b) (g1 : n < 2 → b' = 47) (h2 : 3 ≤ n → c' = c) (g2 : n = 2 → c' = 47) (h3 : 4 ≤ n → d' = d) (g3 : n = 3 → d' = 47) (hv : ¬ ((Lib.decodeN n' a b' c' d').1 = 65533 ∧ (Lib.decodeN n' a b' c' d').2 = 1)) : Lib.decodeN n a b c d = Lib.decodeN n' a b' c' d' := by
  by_cases c1 : a < 128
  · unfold Lib.decodeN; rw [if_pos c1, if_pos c1]
  by_cases c2 : a / 32 = 6 ∧ (1 < n' ∧ b' / 64 = 2)
  · have hn : 2 ≤ n := by
      rcases Nat.lt_or_ge n 2 with h | h
      · have := g1 h; omega
      · exact h
    obtain rfl := h1 hn
    unfold Lib.decodeN
    rw [if_neg c1, if_neg c1, if_pos c2, if_pos (show a / 32 = 6 ∧ (1 < n ∧ b' / 64 = 2) from ⟨c2.1, by omega, c2.2.2⟩)]
  by_cases c3 : a / 16 = 14 ∧ (1 < n' ∧ b' / 64 = 2) ∧ (2 < n' ∧ c' / 64 = 2)
  · have hn : 2 ≤ n := by
      rcases Nat.lt_or_ge n 2 with h | h
      · have := g1 h; omega
      · exact h
    have hn : 3 ≤ n := by
      rcases Nat.lt_or_ge n 3 with h | h
      · have := g2 (by omega); omega
      · exact h
    obtain rfl := h1 (by omega)
    obtain rfl := h2 (by omega)
    unfold Lib.decodeN
    rw [if_neg c1, if_neg c1, if_neg c2, if_neg (by omega), if_pos c3, if_pos (show a / 16 = 14 ∧ (1 < n ∧ b' / 64 = 2) ∧ (2 < n ∧ c' / 64 = 2) from ⟨c3.1, ⟨by omega, c3.2.1.2⟩, ⟨by omega, c3.2.2.2⟩⟩)]
  by_cases c4 : a / 8 = 30 ∧ (1 < n' ∧ b' / 64 = 2) ∧ (2 < n' ∧ c' / 64 = 2) ∧ (3 < n' ∧ d' / 64 = 2)
  · have hn : 2 ≤ n := by
      rcases Nat.lt_or_ge n 2 with h | h
      · have := g1 h; omega
      · exact h
    have hn : 3 ≤ n := by
      rcases Nat.lt_or_ge n 3 with h | h
      · have := g2 (by omega); omega
      · exact h
    have hn : 4 ≤ n := by
      rcases Nat.lt_or_ge n 4 with h | h
      · have := g3 (by omega); omega
      · exact h
    obtain rfl := h1 (by omega)
    obtain rfl := h2 (by omega)
    obtain rfl := h3 (by omega)
    unfold Lib.decodeN
    rw [if_neg c1, if_neg c1, if_neg c2, if_neg (by omega), if_neg c3, if_neg (by omega), if_pos c4, if_pos (show a / 8 = 30 ∧ (1 < n ∧ b' / 64 = 2) ∧ (2 < n ∧ c' / 64 = 2) ∧ (3 < n ∧ d' / 64 = 2) from ⟨c4.1, ⟨by omega, c4.2.1.2⟩, ⟨by omega, c4.2.2.1.2⟩, ⟨by omega, c4.2.2.2.2⟩⟩)]
  · exfalso
    apply hv
    unfold Lib.decodeN
    rw [if_neg c1, if_neg c2, if_neg c3, if_neg c4]
    exact ⟨rfl, rfl⟩
theorem getD_at (a b : Bs) : (a ++ 47 :: b).getD a.length 0 = 47 := by simp [List.getD]
theorem decodeL_pre (a b : Bs) (hne : a ≠ []) (hv : ¬ ((Lib.decodeL (a ++ 47 :: b)).1 = 65533 ∧ (Lib.decodeL (a ++ 47 :: b)).2 = 1)) : Lib.decodeL a = Lib.decodeL (a ++ 47 :: b) := by
  have hl : 1 ≤ a.length := List.length_pos_iff.2 hne
  rw [Lib.decodeL_N (a ++ 47 :: b)] at hv ⊢
  rw [Lib.decodeL_N a]
  rw [getD_app a (47 :: b) 0 (by omega)] at hv ⊢
  have e := getD_at a b
  exact decodeN_less (by simp) (fun h => by rw [getD_app a _ 1 (by omega)]) (fun h => by rw [show (1 : Nat) = a.length from by omega, e]; rfl) (fun h => by rw [getD_app a _ 2 (by omega)]) (fun h => by rw [show (2 : Nat) = a.length from by omega, e]; rfl) (fun h => by rw [getD_app a _ 3 (by omega)]) (fun h => by rw [show (3 : Nat) = a.length from by omega, e]; rfl) hv
theorem validD_pre : ∀ (n : Nat) (a b : Bs), a.length ≤ n → Lib.validD (a ++ 47 :: b) = true → Lib.validD a = true := by
  intro n
  induction n with
  | zero => intro a b h _; have : a = [] := List.eq_nil_of_length_eq_zero (by omega); subst this; rfl
  | succ n ih =>
    intro a b h hv
    by_cases hne : a = []
    · subst hne; rfl
    · rw [Lib.validD_step (a ++ 47 :: b) (by simp)] at hv
      by_cases hc : (Lib.decodeL (a ++ 47 :: b)).1 = 65533 ∧ (Lib.decodeL (a ++ 47 :: b)).2 = 1
      · rw [if_pos hc] at hv; cases hv
      · rw [if_neg hc] at hv
        have e := decodeL_pre a b hne hc
        rw [← e] at hv hc
        rw [Lib.validD_step a hne, if_neg hc]
        have h1 := Lib.decodeL_width a
        have h2 := Lib.decodeL_le a hne
        rw [List.drop_append_of_le_length h2] at hv
        exact ih _ b (by rw [List.length_drop]; omega) hv
theorem valid_pre {a b : Bs} (h : valid (a ++ 47 :: b) = true) : valid a = true := by
  obtain ⟨h1, h2, h3⟩ := valid_parts h
  have hne : a ++ 47 :: b ≠ [46] := by
    intro e
    have := congrArg List.length e
    simp at this
    have h1 : a = [] := List.eq_nil_of_length_eq_zero (by omega)
    subst h1
    simp at e
  have h4 := h3.resolve_left hne
  rw [elems_app] at h4
  unfold valid
  simp only [Bool.and_eq_true, decide_eq_true_eq, Bool.or_eq_true, beq_iff_eq, List.all_eq_true]
  simp only [List.length_append, List.length_cons] at h1
  exact ⟨⟨by omega, validD_pre _ a b (Nat.le_refl _) h2⟩, .inr fun x hx => h4 x (by simp [hx])⟩

theorem lookIn_file {q d : Bs} : ∀ {es : List Ent}, lookIn es q = some (some d) → ∃ e ∈ es, e.path = q := by
  intro es
  induction es with
  | nil => intro h; cases h
  | cons x r ih =>
    intro h
    simp only [lookIn] at h
    split at h
    · exact ⟨x, by simp, ‹_›⟩
    · split at h
      · cases h
      · obtain ⟨e, he, hp⟩ := ih h
        exact ⟨e, by simp [he], hp⟩
theorem sub_flat {β : Type} (F : Inf → List β) : ∀ {l : List Inf} {x : Inf}, x ∈ l → (F x).Sublist (l.flatMap F) := by
  intro l
  induction l with
  | nil => intro x h; cases h
  | cons y l ih =>
    intro x h
    rw [List.flatMap_cons]
    rcases List.mem_cons.1 h with rfl | h
    · exact List.sublist_append_left _ _
    · exact (ih h).trans (List.sublist_append_right _ _)

/-- A path that is there: a directory or a file. -/
def Here (es : List Ent) (p : Bs) (dir : Bool) : Prop := valid p = true ∧ ((dir = true ∧ look es p = some none) ∨ (dir = false ∧ ∃ d, look es p = some (some d)))
/-- What lies in it. -/
def kids (es : List Ent) (q : Bs) : List Inf := if look es q = some none then listOf es q else []
variable {es : List Ent} {caps : Nat}
theorem fit_LG (h : FitP es caps) (c : Nat) (blind : Bool) : LG (fun d => rdDirLst es d c blind) := by
  intro d x hx
  have ho := rdDir_ok es c blind
  refine ⟨ho.noSl hx, ?_⟩
  obtain ⟨e, he, r, hb, hn⟩ := ho.mem d x hx
  rw [hn]
  intro h46
  rcases headE_split r with h1 | ⟨t, h1⟩
  · rw [h46] at h1
    exact (fit_plain h d e he).2 r hb h1
  · rw [h46] at h1
    obtain ⟨i, hi, rfl⟩ := List.getElem_of_mem he
    have hg := (h.each i hi).1
    simp only [goodEnt, Bool.and_eq_true, Bool.not_eq_true', beq_eq_false_iff_ne, ne_eq, decide_eq_true_eq] at hg
    obtain ⟨_, _, h2⟩ := valid_parts hg.1.1
    have h3 := h2.resolve_left hg.1.2
    have hj := below_join hb
    rw [h1] at hj
    have h5 : [46] ∈ elems es[i].path := by
      rw [hj]
      unfold join
      split
      · rw [elems_cut [46] t (by decide)]; simp
      · rw [show d ++ [47] ++ ([46] ++ 47 :: t) = d ++ 47 :: ([46] ++ 47 :: t) by simp, elems_app, elems_cut [46] t (by decide)]; simp
    have := h3 [46] h5
    cases this
theorem here_kid (h : FitP es caps) {p : Bs} {x : Inf} (hx : x ∈ listOf es p) : Here es (join p x.name) x.dir := by
  unfold listOf at hx
  obtain ⟨n, hn, rfl⟩ := List.mem_map.1 hx
  rw [list_name hn]
  have h1 := names_look hn
  obtain ⟨e, he, r, hb, hr⟩ := (firsts_mem es p n).1 ((names_mem es p n).1 hn)
  refine ⟨?_, ?_⟩
  · obtain ⟨i, hi, rfl⟩ := List.getElem_of_mem he
    have hg := (h.each i hi).1
    simp only [goodEnt, Bool.and_eq_true, Bool.not_eq_true', beq_eq_false_iff_ne, ne_eq, decide_eq_true_eq] at hg
    have hv := hg.1.1
    have hj := below_join hb
    rcases headE_split r with h2 | ⟨t, h2⟩
    · rw [hj, h2, ← hr] at hv; exact hv
    · rw [hj, h2, ← hr, join_app] at hv
      exact valid_pre hv
  · unfold infAt
    rcases hk : look es (join p n) with _ | _ | d
    · exact absurd hk h1
    · exact .inl ⟨rfl, rfl⟩
    · exact .inr ⟨rfl, d, rfl⟩
theorem rd_here (p : Bs) (c : Nat) (h : Here es p true) : rdDirErr es p c false = 0 ∧ rdDirLst es p c false = kids es p := by
  obtain ⟨hv, h⟩ := h
  rcases h with ⟨_, h⟩ | ⟨h, _⟩
  · unfold rdDirErr rdDirLst dirErr dirLst kids
    rw [if_pos hv, if_pos hv, h, if_pos rfl]
    exact ⟨rfl, rfl⟩
  · cases h
theorem rd_there (p : Bs) (c : Nat) (h : rdDirErr es p c false = 0) : rdDirLst es p c false = kids es p := by
  unfold rdDirErr at h
  unfold rdDirLst kids
  split at h
  · rw [if_pos ‹_›]
    unfold dirErr at h; unfold dirLst
    rcases hk : look es p with _ | _ | d
    · rw [hk] at h; cases h
    · rw [if_pos rfl]; rfl
    · rw [hk] at h; cases h
  · cases h
theorem goL_all {f : Inf → WR} {l : List Inf} (h : ∀ x ∈ l, (f x).out = 0) : goL f l = ⟨l.flatMap fun x => (f x).paths, l.flatMap fun x => (f x).asks, 0⟩ := goL_end (fun _j hj _ => h _ (List.getElem_mem hj))
theorem sum_flat {β : Type} (F : Inf → List β) (g : β → Nat) : ∀ (l : List Inf), (∀ x ∈ l, ((F x).map g).sum + 1 = (F x).length) → ((l.flatMap F).map g).sum + l.length = (l.flatMap F).length := by
  intro l
  induction l with
  | nil => intro _; rfl
  | cons x l ih =>
    intro h
    have h1 := h x (by simp)
    have h2 := ih (fun y hy => h y (by simp [hy]))
    simp only [List.flatMap_cons, List.map_append, List.sum_append, List.length_append, List.length_cons]
    omega

/-- What a walk from a path that is there tells. -/
structure Told (es : List Ent) (p : Bs) (dir : Bool) (l : List Bs) : Prop where
  head : ∃ r, l = p :: r
  here : ∀ q ∈ l, ∃ d, Here es q d
  count : (l.map fun q => (kids es q).length).sum + 1 = l.length
  after : ∀ q ∈ l, ∀ y ∈ kids es q, [q, join q y.name].Sublist l
  all : ∀ e ∈ es, e.path = p ∨ (dir = true ∧ isBelow p e.path = true) → e.path ∈ l
theorem walk_told (h : FitP es caps) (c : Nat) : ∀ (n : Nat) (p : Bs) (dir : Bool), fuelOk n p → Here es p dir →
    (walkF es c false [] n p dir).out = 0 ∧ Told es p dir (walkF es c false [] n p dir).paths := by
  have hL := fit_LG h c false
  intro n
  induction n with
  | zero =>
    intro p dir hf
    rcases hf with ⟨_, h⟩ | ⟨_, h2, h3⟩ <;> omega
  | succ n ih =>
    intro p dir hf hp
    unfold walkF
    rw [if_neg (by simp)]
    cases dir with
    | false =>
      rw [if_pos rfl]
      have hk : kids es p = [] := by
        unfold kids
        rcases hp.2 with ⟨e, _⟩ | ⟨_, d, hd⟩
        · cases e
        · rw [hd, if_neg (by simp)]
      refine ⟨rfl, ⟨[], rfl⟩, ?_, ?_, ?_, ?_⟩
      · intro q hq; obtain rfl := List.mem_singleton.1 hq; exact ⟨_, hp⟩
      · simp [hk]
      · intro q hq; obtain rfl := List.mem_singleton.1 hq; rw [hk]; intro y hy; cases hy
      · rintro e he (h1 | ⟨h1, _⟩)
        · rw [h1]; simp
        · cases h1
    | true =>
      rw [if_neg (by decide)]
      obtain ⟨h0, hl⟩ := rd_here p c hp
      rw [if_pos h0]
      have hk : kids es p = listOf es p := by
        unfold kids
        rcases hp.2 with ⟨_, hd⟩ | ⟨e, _⟩
        · rw [if_pos hd]
        · cases e
      have hkid : ∀ x ∈ rdDirLst es p c false, (walkF es c false [] n (join p x.name) x.dir).out = 0 ∧ Told es (join p x.name) x.dir (walkF es c false [] n (join p x.name) x.dir).paths := by
        intro x hx
        obtain ⟨_, hnd⟩ := hL p x hx
        obtain ⟨e, he, hpre⟩ := (rdDir_ok es c false).pre hx
        have hle : (join p x.name).length ≤ 1024 := Nat.le_trans hpre.length_le (h.fine.each e he).1
        rw [hl, hk] at hx
        exact ih _ _ (fuel_next hf hnd (join_ne p hnd) hle) (here_kid h hx)
      rw [goL_all (fun x hx => (hkid x hx).1)]
      dsimp only
      rw [hl] at hkid ⊢
      generalize hF : (fun x : Inf => (walkF es c false [] n (join p x.name) x.dir).paths) = F
      have hT : ∀ x ∈ kids es p, Told es (join p x.name) x.dir (F x) := fun x hx => by rw [← hF]; exact (hkid x hx).2
      refine ⟨rfl, ⟨_, rfl⟩, ?_, ?_, ?_, ?_⟩
      · intro q hq
        rcases List.mem_cons.1 hq with rfl | hq
        · exact ⟨_, hp⟩
        · obtain ⟨x, hx, hq⟩ := List.mem_flatMap.1 hq
          exact (hT x hx).here q hq
      · have := sum_flat F (fun q => (kids es q).length) (kids es p) (fun x hx => (hT x hx).count)
        simp only [List.map_cons, List.sum_cons, List.length_cons]
        omega
      · intro q hq y hy
        rcases List.mem_cons.1 hq with rfl | hq
        · refine List.Sublist.cons_cons _ (List.singleton_sublist.2 ?_)
          obtain ⟨r, hr⟩ := (hT y hy).head
          exact List.mem_flatMap.2 ⟨y, hy, by rw [hr]; simp⟩
        · obtain ⟨x, hx, hq⟩ := List.mem_flatMap.1 hq
          refine List.Sublist.cons _ (((hT x hx).after q hq y hy).trans ?_)
          exact sub_flat F hx
      · rintro e he (h1 | ⟨_, h1⟩)
        · rw [h1]; simp
        · refine List.mem_cons_of_mem _ ?_
          unfold isBelow at h1
          obtain ⟨r, hr⟩ := Option.isSome_iff_exists.1 h1
          have hn : headE r ∈ namesOf es p := (names_mem es p _).2 ((firsts_mem es p _).2 ⟨e, he, r, hr, rfl⟩)
          have hx : infAt es p (headE r) ∈ kids es p := by rw [hk]; exact List.mem_map.2 ⟨_, hn, rfl⟩
          refine List.mem_flatMap.2 ⟨_, hx, ?_⟩
          have hT := hT _ hx
          have hH := here_kid h (by rw [← hk]; exact hx)
          rw [list_name hn] at hT hH
          refine hT.all e he ?_
          have hj := below_join hr
          rcases headE_split r with h2 | ⟨t, h2⟩
          · left; rw [hj]; exact congrArg _ h2
          · right
            have e2 : e.path = join p (headE r) ++ 47 :: t := by
              rw [hj]
              conv => lhs; rw [h2]
              exact join_app _ _ _
            have hnd := (hL p (infAt es p (headE r)) (by show _ ∈ rdDirLst es p c false; rw [hl]; exact hx)).2
            rw [list_name hn] at hnd
            have hb : isBelow (join p (headE r)) e.path = true := by
              rw [e2, isBelow_not _ _ (by simpa using join_ne p hnd)]
              exact decide_eq_true ⟨t, by simp⟩
            refine ⟨?_, hb⟩
            rcases hH.2 with ⟨h3, _⟩ | ⟨_, d, hd⟩
            · exact h3
            · exfalso
              -- a file lies below no file
              unfold look at hd
              rw [if_neg (join_ne p hnd)] at hd
              obtain ⟨e', he', hp'⟩ := lookIn_file hd
              obtain ⟨i, hi, rfl⟩ := List.getElem_of_mem he'
              obtain ⟨k, hki, rfl⟩ := List.getElem_of_mem he
              have hbp := (h.each i hi).2 k hki
              unfold badPair at hbp
              rw [hp', hb] at hbp
              by_cases hki2 : k = i
              · subst hki2
                rw [hp', isBelow_self'] at hb
                cases hb
              · have : (k != i) = true := by simpa using hki2
                rw [this] at hbp
                simp at hbp
end Go.Proofs.YtkaoechldamggaaGreatDoor
