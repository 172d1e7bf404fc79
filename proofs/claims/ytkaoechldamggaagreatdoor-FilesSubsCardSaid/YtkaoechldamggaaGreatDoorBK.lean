/- Plain: Sub of Sub, and what is read below a directory. The law FilesSubs: the walk. -/
import Derived.Test.YtkaoechldamggaaGreatDoorBI
import Derived.Test.YtkaoechldamggaaGreatDoorAV
import Derived.Lib.ValidLaws
import Derived.Test.YtkaoechldamggaaGreatDoorBC
import Derived.Test.YtkaoechldamggaaGreatDoorAX
namespace Go.Proofs.YtkaoechldamggaaGreatDoor
open Go

theorem decodeN_more {n n' a b c d b' c' d' : Nat} (_hn : 1 ≤ n) (hl : n ≤ n') (h1 : 2 ≤ n → b' = b) (h2 : 3 ≤ n → c' = c) (h3 : 4 ≤ n → d' = d) (hv : ¬ ((Lib.decodeN n a b c d).1 = 65533 ∧ (Lib.decodeN n a b c d).2 = 1)) : Lib.decodeN n' a b' c' d' = Lib.decodeN n a b c d := by
  by_cases c1 : a < 128
  · unfold Lib.decodeN; rw [if_pos c1, if_pos c1]
  by_cases c2 : a / 32 = 6 ∧ (1 < n ∧ b / 64 = 2)
  · obtain rfl := h1 (by omega)
    unfold Lib.decodeN
    rw [if_neg c1, if_neg c1, if_pos c2, if_pos (show a / 32 = 6 ∧ (1 < n' ∧ b' / 64 = 2) from ⟨c2.1, by omega, c2.2.2⟩)]
  by_cases c3 : a / 16 = 14 ∧ (1 < n ∧ b / 64 = 2) ∧ (2 < n ∧ c / 64 = 2)
  · obtain rfl := h1 (by omega)
    obtain rfl := h2 (by omega)
    unfold Lib.decodeN
    rw [if_neg c1, if_neg c1, if_neg c2, if_neg (by omega), if_pos c3, if_pos (show a / 16 = 14 ∧ (1 < n' ∧ b' / 64 = 2) ∧ (2 < n' ∧ c' / 64 = 2) from ⟨c3.1, ⟨by omega, c3.2.1.2⟩, ⟨by omega, c3.2.2.2⟩⟩)]
  by_cases c4 : a / 8 = 30 ∧ (1 < n ∧ b / 64 = 2) ∧ (2 < n ∧ c / 64 = 2) ∧ (3 < n ∧ d / 64 = 2)
  · obtain rfl := h1 (by omega)
    obtain rfl := h2 (by omega)
    obtain rfl := h3 (by omega)
    unfold Lib.decodeN
    rw [if_neg c1, if_neg c1, if_neg c2, if_neg (by omega), if_neg c3, if_neg (by omega), if_pos c4, if_pos (show a / 8 = 30 ∧ (1 < n' ∧ b' / 64 = 2) ∧ (2 < n' ∧ c' / 64 = 2) ∧ (3 < n' ∧ d' / 64 = 2) from ⟨c4.1, ⟨by omega, c4.2.1.2⟩, ⟨by omega, c4.2.2.1.2⟩, ⟨by omega, c4.2.2.2.2⟩⟩)]
  · exfalso
    apply hv
    unfold Lib.decodeN
    rw [if_neg c1, if_neg c2, if_neg c3, if_neg c4]
    exact ⟨rfl, rfl⟩

theorem getD_app (a b : Bs) (k : Nat) (h : k < a.length) : (a ++ b).getD k 0 = a.getD k 0 := by
  simp [List.getD, List.getElem?_append_left h]
theorem decodeL_app (a b : Bs) (hne : a ≠ []) (hv : ¬ ((Lib.decodeL a).1 = 65533 ∧ (Lib.decodeL a).2 = 1)) : Lib.decodeL (a ++ b) = Lib.decodeL a := by
  have hl : 1 ≤ a.length := List.length_pos_iff.2 hne
  rw [Lib.decodeL_N] at hv
  rw [Lib.decodeL_N, Lib.decodeL_N a, getD_app a b 0 (by omega)]
  exact decodeN_more hl (by simp) (fun h => by rw [getD_app a b 1 (by omega)]) (fun h => by rw [getD_app a b 2 (by omega)]) (fun h => by rw [getD_app a b 3 (by omega)]) hv
theorem validD_app : ∀ (n : Nat) (a b : Bs), a.length ≤ n → Lib.validD a = true → Lib.validD (a ++ b) = Lib.validD b := by
  intro n
  induction n with
  | zero => intro a b h _; have : a = [] := List.eq_nil_of_length_eq_zero (by omega); subst this; rfl
  | succ n ih =>
    intro a b h hv
    by_cases hne : a = []
    · subst hne; rfl
    · rw [Lib.validD_step a hne] at hv
      by_cases hc : (Lib.decodeL a).1 = 65533 ∧ (Lib.decodeL a).2 = 1
      · rw [if_pos hc] at hv; cases hv
      · rw [if_neg hc] at hv
        have e := decodeL_app a b hne hc
        rw [Lib.validD_step (a ++ b) (by simp [hne]), e, if_neg hc]
        have h1 := Lib.decodeL_width a
        have h2 := Lib.decodeL_le a hne
        rw [List.drop_append_of_le_length h2]
        exact ih _ b (by rw [List.length_drop]; omega) hv

theorem valid_parts {p : Bs} (h : valid p = true) : p.length ≤ 1024 ∧ Lib.validD p = true ∧ (p = [46] ∨ ∀ x ∈ elems p, goodEl x = true) := by
  unfold valid at h
  simp only [Bool.and_eq_true, decide_eq_true_eq, Bool.or_eq_true, beq_iff_eq, List.all_eq_true] at h
  exact ⟨h.1.1, h.1.2, h.2⟩
theorem valid_join {d p : Bs} (hd : valid d = true) (hp : valid p = true) (hd2 : d ≠ [46]) (hp2 : p ≠ [46]) (hl : (join d p).length ≤ 1024) : valid (join d p) = true := by
  obtain ⟨_, d1, d2⟩ := valid_parts hd
  obtain ⟨_, p1, p2⟩ := valid_parts hp
  have e : join d p = d ++ 47 :: p := by unfold join; rw [if_neg hd2]; simp
  rw [e] at hl ⊢
  unfold valid
  simp only [Bool.and_eq_true, decide_eq_true_eq, Bool.or_eq_true, beq_iff_eq, List.all_eq_true]
  refine ⟨⟨hl, ?_⟩, .inr ?_⟩
  · rw [validD_app _ d (47 :: p) (Nat.le_refl _) d1, Lib.validD_cons 47 p (by decide)]; exact p1
  · rw [elems_app]
    intro x hx
    rcases List.mem_append.1 hx with hx | hx
    · exact (d2.resolve_left hd2) x hx
    · exact (p2.resolve_left hp2) x hx

/-- The whole path. -/
def whole (d p : Bs) : Bs := if p = [46] then d else join d p

/-- What is asked of a file: it is not the root, nor does '.' stand behind a directory. -/
def Plain (d : Bs) (x : Ent) : Prop := x.path ≠ [46] ∧ ∀ r, below d x.path = some r → r ≠ [46]
theorem fit_plain {es : List Ent} {caps : Nat} (h : FitP es caps) (d : Bs) : ∀ x ∈ es, Plain d x := by
  intro x hx
  obtain ⟨i, hi, rfl⟩ := List.getElem_of_mem hx
  have hg := (h.each i hi).1
  simp only [goodEnt, Bool.and_eq_true, Bool.not_eq_true', beq_eq_false_iff_ne, ne_eq, decide_eq_true_eq] at hg
  refine ⟨hg.1.2, fun r hb hr => ?_⟩
  subst hr
  obtain ⟨_, _, h2⟩ := valid_parts hg.1.1
  have h3 := h2.resolve_left hg.1.2
  have hj := below_join hb
  unfold join at hj
  split at hj
  · exact hg.1.2 hj
  · rw [hj, show d ++ [47] ++ [46] = d ++ 47 :: [46] by simp, elems_app] at h3
    have := h3 [46] (by simp [elems])
    cases this
theorem below_whole {d p : Bs} {x : Ent} (hx : Plain d x) (hp : valid p = true) : below (whole d p) x.path = (below d x.path).bind (below p) := by
  unfold whole
  by_cases h1 : p = [46]
  · subst h1
    rw [if_pos rfl]
    cases hb : below d x.path with
    | none => rfl
    | some r =>
      have hr := hx.2 r hb
      simp [below, hr]
  · rw [if_neg h1]
    by_cases h2 : d = [46]
    · subst h2
      have e : join [46] p = p := by unfold join; rw [if_pos rfl]
      rw [e]
      have : below [46] x.path = some x.path := by simp [below, hx.1]
      rw [this]; rfl
    · have e : join d p = d ++ 47 :: p := by unfold join; rw [if_neg h2]; simp
      have e2 : d ++ 47 :: p ≠ [46] := by
        intro h
        have := congrArg List.length h
        simp at this
        have hd : d = [] := List.eq_nil_of_length_eq_zero (by omega)
        subst hd
        simp at h
      rw [e]
      by_cases hpre : d ++ [47] <+: x.path
      · obtain ⟨r, hr⟩ := hpre
        have hb : below d x.path = some r := by
          unfold below
          rw [if_neg h2, if_pos ⟨r, hr⟩, ← hr]
          congr 1
          have : (d ++ [47] ++ r).drop (d ++ [47]).length = r := List.drop_left
          rwa [List.length_append, List.length_singleton] at this
        rw [hb]
        show below (d ++ 47 :: p) x.path = below p r
        unfold below
        rw [if_neg e2, if_neg h1]
        by_cases h3 : p ++ [47] <+: r
        · obtain ⟨t, ht⟩ := h3
          have e4 : x.path = d ++ 47 :: p ++ [47] ++ t := by rw [← hr, ← ht]; simp
          rw [if_pos ⟨t, e4.symm⟩, if_pos ⟨t, ht⟩, e4, ← ht]
          congr 1
          have g1 : (d ++ 47 :: p ++ [47] ++ t).drop (d ++ 47 :: p ++ [47]).length = t := List.drop_left
          have g2 : (p ++ [47] ++ t).drop (p ++ [47]).length = t := List.drop_left
          rw [List.length_append, List.length_singleton] at g1 g2
          rw [g1, g2]
        · rw [if_neg h3, if_neg]
          rintro ⟨t, ht⟩
          apply h3
          have : d ++ [47] ++ (p ++ [47] ++ t) = d ++ [47] ++ r := by rw [hr, ← ht]; simp
          exact ⟨t, List.append_cancel_left this⟩
      · have hb : below d x.path = none := by unfold below; rw [if_neg h2, if_neg hpre]
        rw [hb]
        show below (d ++ 47 :: p) x.path = none
        unfold below
        rw [if_neg e2, if_neg]
        rintro ⟨t, ht⟩
        exact hpre ⟨p ++ [47] ++ t, by rw [← ht]; simp⟩
theorem path_whole {d p : Bs} {x : Ent} (hx : Plain d x) (h1 : p ≠ [46]) : x.path = whole d p ↔ below d x.path = some p := by
  unfold whole
  rw [if_neg h1]
  constructor
  · intro h
    unfold join at h
    split at h
    · rename_i h2; subst h2; rw [← h]; simp [below, hx.1]
    · rename_i h2
      unfold below
      rw [if_neg h2, if_pos ⟨p, h.symm⟩, h]
      congr 1
      have : (d ++ [47] ++ p).drop (d ++ [47]).length = p := List.drop_left
      rwa [List.length_append, List.length_singleton] at this
  · intro h
    exact below_join h
theorem filterMap_same {α β : Type} {f g : α → Option β} : ∀ {l : List α}, (∀ x ∈ l, f x = g x) → l.filterMap f = l.filterMap g := by
  intro l
  induction l with
  | nil => intro _; rfl
  | cons x l ih => intro h; rw [List.filterMap_cons, List.filterMap_cons, h x (by simp), ih (fun y hy => h y (by simp [hy]))]
theorem subL_sub {es : List Ent} {d p : Bs} (hx : ∀ x ∈ es, Plain d x) (hp : valid p = true) : subL (subL es d) p = subL es (whole d p) := by
  unfold subL
  rw [List.filterMap_filterMap]
  refine filterMap_same fun x hxm => ?_
  rw [below_whole (hx x hxm) hp]
  cases below d x.path <;> rfl
theorem look_sub {es : List Ent} {d p : Bs} (hx : ∀ x ∈ es, Plain d x) (hp : valid p = true) (hd : look es d = some none) (hw : p ≠ [46] → whole d p ≠ [46]) : look (subL es d) p = look es (whole d p) := by
  by_cases h1 : p = [46]
  · subst h1
    rw [show whole d [46] = d from rfl, hd]
    unfold look; rw [if_pos rfl]
  · unfold look
    rw [if_neg h1, if_neg (hw h1)]
    clear hd
    induction es with
    | nil => rfl
    | cons x es ih =>
      have ih := ih (fun y hy => hx y (by simp [hy]))
      have hpx := hx x (by simp)
      have hb := below_whole hpx hp
      have hq := path_whole hpx h1
      cases hbo : below d x.path with
      | none =>
        have e : subL (x :: es) d = subL es d := by unfold subL; rw [List.filterMap_cons, hbo]; rfl
        rw [e, ih]
        have n1 : ¬ x.path = whole d p := fun h => by rw [hq, hbo] at h; cases h
        have n2 : isBelow (whole d p) x.path = false := by unfold isBelow; rw [hb, hbo]; rfl
        simp only [lookIn]
        rw [if_neg n1, n2, if_neg (by decide)]
      | some r =>
        have e : subL (x :: es) d = ⟨r, x.data⟩ :: subL es d := by unfold subL; rw [List.filterMap_cons, hbo]; rfl
        rw [e]
        simp only [lookIn]
        have n2 : isBelow (whole d p) x.path = isBelow p r := by unfold isBelow; rw [hb, hbo]; rfl
        rw [n2, ih]
        by_cases hr : r = p
        · rw [if_pos hr, if_pos (hq.2 (by rw [hbo, hr]))]
        · have n1 : ¬ x.path = whole d p := fun h => hr (by have := hq.1 h; rw [hbo] at this; cases this; rfl)
          rw [if_neg hr, if_neg n1]
end Go.Proofs.YtkaoechldamggaaGreatDoor
namespace Go.Proofs.YtkaoechldamggaaGreatDoor
open Go Go.RowKit
set_option maxRecDepth 100000

/-- The law's store and what lies below a directory of it, in memory. -/
structure St3 (w : World) (bx by_ : Nat) (A A2 : Option Addr) (c c2 : Nat) (es : List Ent) (caps : Nat) (blind : Bool) (S : Sto) (W : World) : Prop where
  b : Below w.heap.size w W
  x : Blk W bx 32 #[.slice A es.length c, .int .u32 (caps : Int), .bool blind]
  y : Blk W by_ 32 #[.slice A2 S.files.length c2, .int .u32 (S.caps : Int), .bool S.blind]
  r : Rd W W.heap.size A (entCells es)
  r2 : Rd W W.heap.size A2 (entCells S.files)
  e : Env W
section
variable {w W W' : World} {bx by_ : Nat} {A A2 : Option Addr} {c c2 : Nat} {es : List Ent} {caps : Nat} {blind : Bool} {S : Sto}
theorem St3.step (h : St3 w bx by_ A A2 c c2 es caps blind S W) (hb : Below W.heap.size W W') : St3 w bx by_ A A2 c c2 es caps blind S W' :=
  ⟨h.b.trans (hb.mono h.b.size), h.x.below hb h.x.lt, h.y.below hb h.y.lt, (h.r.below hb (Nat.le_refl _)).more hb.size, (h.r2.below hb (Nat.le_refl _)).more hb.size, h.e.below hb⟩
theorem St3.alloc (h : St3 w bx by_ A A2 c c2 es caps blind S W) (o : Obj) : St3 w bx by_ A A2 c c2 es caps blind S (W.alloc o) := h.step ((Below.refl _ _).alloc (Nat.le_refl _) o)
end

theorem sub_zero {es : List Ent} {d : Bs} (h : subErr es d = 0) : valid d = true ∧ look es d = some none := by
  unfold subErr at h
  split at h
  · rename_i hv
    refine ⟨hv, ?_⟩
    unfold dirErr at h
    split at h
    · cases h
    · cases h
    · assumption
  · cases h
theorem whole_valid {d p : Bs} (hd : valid d = true) (hp : valid p = true) (hl : (whole d p).length ≤ 1024) : valid (whole d p) = true := by
  unfold whole at hl ⊢
  split
  · exact hd
  · rename_i h1
    rw [if_neg h1] at hl
    by_cases h2 : d = [46]
    · subst h2; unfold join; rw [if_pos rfl]; exact hp
    · exact valid_join hd hp h2 h1 hl
theorem whole_dot {d p : Bs} (h : p ≠ [46]) : whole d p ≠ [46] := by
  unfold whole join
  rw [if_neg h]
  split
  · exact h
  · intro e
    have := congrArg List.length e
    simp at this
    have h1 : d = [] := List.eq_nil_of_length_eq_zero (by omega)
    subst h1
    simp at e

set_option maxHeartbeats 40000000 in
theorem lSubs (d p : Bs) (A : Option Addr) (c : Nat) (es : List Ent) (caps : Nat) (blind : Bool) (w : World) (hr : Rd w w.heap.size A (entCells es)) (he : Env w) (hcaps : caps < 4294967296) (hd : d.length ≤ 140737488351232) (hp : p.length ≤ 140737488351232) (hes : ∀ e ∈ es, e.path.length ≤ 140737488351232 ∧ e.data.length ≤ 140737488351232) :
    Calls Tryz.prog 7 #[.agg #[.slice A es.length c, .int .u32 (caps : Int), .bool blind], .string ⟨d.toArray⟩, .string ⟨p.toArray⟩] w fun e w' => e = .returned (.bool true) ∧ Below w.heap.size w w' := by
  obtain ⟨w0, hw0⟩ : ∃ w0, w.alloc (.cells #[.slice A es.length c, .int .u32 (caps : Int), .bool blind] 32) = w0 := ⟨_, rfl⟩
  have b0 : Below w.heap.size w w0 := by rw [← hw0]; go_grown
  have x0 : Blk w0 w.heap.size 32 #[.slice A es.length c, .int .u32 (caps : Int), .bool blind] := by rw [← hw0]; exact Blk.newAt _ _ rfl rfl
  have xc0 := x0.cell
  have r0 := (hr.below b0 (Nat.le_refl _)).more b0.size
  have e0 := he.below b0
  have cf := fun W (hr : Rd W W.heap.size A (entCells es)) (hW : Env W) => rfit A c es caps blind W hr hW hcaps hes
  have ca := fun W (hW : Env W) => paw W hW
  by_cases hF : FitP es caps
  · have hf := hF.fine
    have hn := hf.many
    have cf : ∀ W (hr : Rd W W.heap.size A (entCells es)) (hW : Env W), Calls Tryz.prog 14 #[.agg #[.slice A es.length c, .int .u32 (caps : Int), .bool blind]] W fun e w' => e = .returned (.bool true) ∧ Below W.heap.size W w' := fun W hr hW =>
      (cf W hr hW).mono fun e w' ⟨b, h1, h2, h3⟩ => ⟨by rw [h1, h2.2 hF], h3⟩
    have c1 := fun W (hr : Rd W W.heap.size A (entCells es)) (he : Env W) => pSub A c es caps blind d W hr hf he hcaps hd
    have c2 := fun W (hr : Rd W W.heap.size A (entCells es)) (he : Env W) => rSub A c es caps blind d W hr hf he hcaps hd
    obtain ⟨S, hS⟩ : ∃ S, subS es caps blind d = S := ⟨_, rfl⟩
    obtain ⟨n1, hn1⟩ : ∃ n, subErr es d = n := ⟨_, rfl⟩
    have hSl : S.files.length ≤ 256 := by
      rw [← hS]; unfold subS; split
      · exact Nat.le_trans (subL_len es d) hn
      · simp
    rw [hS, hn1] at c1 c2
    have hnn : ((n1 : Int) == (n1 : Int)) = true := by simp
    have HS := Lib.hid hS
    have HN := Lib.hid hn1
    clear hS hn1
    go_enter Tryz.func7, Tryz.ntmps7
    go_upto_region 3 with (go_at_call 14; refine (cf _ r0 e0).mono ?_; rintro e w1 ⟨rfl, hb1⟩; have b1 := b0.trans (hb1.mono b0.size); have x1 := x0.below hb1 x0.lt; have xc1 := x1.cell; have r1 := (r0.below hb1 (Nat.le_refl _)).more hb1.size; have e1 := e0.below hb1)
    go_upto_region 4 with (go_at_call 31; refine (c1 _ r1 e1).mono ?_; rintro e w2 ⟨A2, k2, rfl, hr2, hb2⟩)
    have s1 : St3 w w.heap.size w2.heap.size A A2 c k2 es caps blind S (w2.alloc (.cells #[.slice A2 S.files.length k2, .int .u32 (S.caps : Int), .bool S.blind] 32)) :=
      ⟨(b1.trans (hb2.mono b1.size)).alloc (by have := b1.size; have := hb2.size; omega) _, (x1.below hb2 x1.lt).alloc _, Blk.newAt _ _ rfl rfl, ((r1.below hb2 (Nat.le_refl _)).below ((Below.refl _ _).alloc (Nat.le_refl _) _) hb2.size).more (by have := hb2.size; simp; omega), (hr2.below ((Below.refl _ _).alloc (Nat.le_refl _) _) (Nat.le_refl _)).more (by simp), (e1.below hb2).below ((Below.refl _ _).alloc (Nat.le_refl _) _)⟩
    generalize w2.alloc (.cells #[.slice A2 S.files.length k2, .int .u32 (S.caps : Int), .bool S.blind] 32) = w3 at s1 ⊢
    generalize w2.heap.size = g2 at s1 ⊢
    have xc1 := s1.x.cell
    clear x0 xc0 r0 e0 b0 cf
    go_upto_region 5 with (go_at_call 32; refine (c2 _ s1.r s1.e).mono ?_; rintro e w4 ⟨A4, k4, rfl, hr4, hb4⟩; have s2 := s1.step hb4)
    have s3 := s2.alloc (.cells #[.slice A4 S.files.length k4, .int .u32 (S.caps : Int), .bool S.blind] 32)
    have hr5 := (hr4.below ((Below.refl _ _).alloc (Nat.le_refl _) (.cells #[.slice A4 S.files.length k4, .int .u32 (S.caps : Int), .bool S.blind] 32)) (Nat.le_refl _)).more (B' := (w4.alloc (.cells #[.slice A4 S.files.length k4, .int .u32 (S.caps : Int), .bool S.blind] 32)).heap.size) (by simp)
    have j5 : Blk (w4.alloc (.cells #[.slice A4 S.files.length k4, .int .u32 (S.caps : Int), .bool S.blind] 32)) w4.heap.size 32 _ := Blk.newAt _ _ rfl rfl
    generalize w4.alloc (.cells #[.slice A4 S.files.length k4, .int .u32 (S.caps : Int), .bool S.blind] 32) = w5 at s3 hr5 j5 ⊢
    generalize w4.heap.size = g4 at j5 ⊢
    have yc3 := s3.y.cell
    have jc3 := j5.cell
    clear s1 s2 xc1 hb4 hr4 c2
    go_upto_region 7 with (go_at_call 27; refine (lSameEq A2 A4 k2 k4 S.files S.caps S.blind _ s3.r2 hr5 (by omega)).mono ?_; rintro e w6 ⟨rfl, hb6⟩; have s4 := s3.step hb6)
    clear yc3 jc3 s3 hr5 j5
    by_cases hn0 : n1 = 0
    · subst hn0
      obtain ⟨hdv, hld⟩ := sub_zero HN.out
      have hS2 : S = ⟨subL es d, subCaps caps, blind⟩ := by rw [← HS.out]; unfold subS; rw [if_pos HN.out]
      have hSf : S.files = subL es d := by rw [hS2]
      have hSb : S.blind = blind := by rw [hS2]
      have HSf := Lib.hid hSf
      have HSb := Lib.hid hSb
      have hSc : S.caps < 4294967296 := by rw [hS2]; show subCaps caps < _; unfold subCaps; split <;> omega
      have hpl := fit_plain hF d
      have hes2 : ∀ e ∈ S.files, e.path.length ≤ 140737488351232 ∧ e.data.length ≤ 140737488351232 := fun e hm => by
        rw [hSf] at hm
        obtain ⟨x, hx, hx2⟩ := List.mem_filterMap.1 hm
        obtain ⟨g1, g2⟩ := hf.each x hx
        cases hb : below d x.path with
        | none => rw [hb] at hx2; cases hx2
        | some r =>
          rw [hb] at hx2
          cases hx2
          have := below_len hb
          exact ⟨by show r.length ≤ _; omega, by show x.data.length ≤ _; omega⟩
      have cfx := fun W (hr : Rd W W.heap.size A2 (entCells S.files)) (hW : Env W) => rfit A2 k2 S.files S.caps S.blind W hr hW hSc hes2
      obtain ⟨vp, hvp⟩ : ∃ vp, valid p = vp := ⟨_, rfl⟩
      have cv := fun W (hW : Env W) => rvalid p W hp hW
      rw [hvp] at cv
      clear hS2 hSf hSb
      cases vp with
      | false =>
        go_wp2_with (first
          | (go_at_call 29; refine (cv _ s4.e).mono ?_; rintro e w7 ⟨rfl, hb7⟩; have s5 := s4.step hb7)
          | (go_at_call 11; refine (ca _ s5.e).mono ?_; rintro e w8 ⟨rfl, hb8⟩))
        go_returns
        exact ⟨rfl, s5.b.trans (hb8.mono s5.b.size)⟩
      | true =>
        have hp2 := valid_len hvp
        have hd2 := valid_len hdv
        obtain ⟨q, hq⟩ : ∃ q, whole d p = q := ⟨_, rfl⟩
        have hqv := fun h => whole_valid hdv hvp (by rw [hq]; exact h)
        rw [hq] at hqv
        have hlk := look_sub hpl hvp hld whole_dot
        have hsb := subL_sub hpl hvp
        rw [hq] at hlk hsb
        have hql0 : q.length ≤ 2049 := by
          rw [← hq]; unfold whole; split
          · omega
          · have := join_len d p; omega
        have HL := Lib.hid hlk
        have HB := Lib.hid hsb
        have HV := Lib.hid hqv
        have HP := Lib.hid hvp
        have hways : ((p == [46]) = true ∧ q = d) ∨ ((p == [46]) = false ∧ (d == [46]) = true ∧ q = p) ∨ ((p == [46]) = false ∧ (d == [46]) = false ∧ q = d ++ 47 :: p) := by
          rw [← hq]
          unfold whole
          by_cases h1 : p = [46]
          · left; exact ⟨by simpa using h1, by rw [if_pos h1]⟩
          · rw [if_neg h1]
            unfold join
            by_cases h2 : d = [46]
            · right; left; exact ⟨by simpa using h1, by simpa using h2, by rw [if_pos h2]⟩
            · right; right; exact ⟨by simpa using h1, by simpa using h2, by rw [if_neg h2]; simp⟩
        clear hlk hsb hqv hvp hq hdv hld hpl hF
        rcases hways with ⟨h1, h2⟩ | ⟨h1, h2, h3⟩ | ⟨h1, h2, h3⟩
        · subst h2
          go_upto_region 14 with (go_at_call 29; refine (cv _ s4.e).mono ?_; rintro e w7 ⟨rfl, hb7⟩; have s5 := s4.step hb7)
          by_cases hql : 1024 < q.length
          · have hql2 : decide ((1024 : Int) < (q.length : Int)) = true := decide_eq_true (by omega)
            go_wp2_with (go_at_call 11; refine (ca _ s5.e).mono ?_; rintro e w8 ⟨rfl, hb8⟩)
            go_returns
            exact ⟨rfl, s5.b.trans (hb8.mono s5.b.size)⟩
          · have hql2 : decide ((1024 : Int) < (q.length : Int)) = false := decide_eq_false (by omega)
            have yc5 := s5.y.cell
            by_cases hFS : FitP S.files S.caps
            · have cfx : ∀ W (hr : Rd W W.heap.size A2 (entCells S.files)) (hW : Env W), Calls Tryz.prog 14 #[.agg #[.slice A2 S.files.length k2, .int .u32 (S.caps : Int), .bool S.blind]] W fun e w' => e = .returned (.bool true) ∧ Below W.heap.size W w' := fun W hr hW =>
                (cfx W hr hW).mono fun e w' ⟨b, h1, h2, h3⟩ => ⟨by rw [h1, h2.2 hFS], h3⟩
              have hfS := hFS.fine
              have hqv := HV.out (by omega)
              have c4 := fun W (hr : Rd W W.heap.size A2 (entCells S.files)) (he : Env W) => pReadFile A2 k2 S.files S.caps S.blind p W hr hfS he hSc hp
              have c5 := fun W (hr : Rd W W.heap.size A (entCells es)) (he : Env W) => pReadFile A c es caps blind q W hr hf he hcaps (by omega)
              have c6 := fun W (hr : Rd W W.heap.size A2 (entCells S.files)) (he : Env W) => pSub A2 k2 S.files S.caps S.blind p W hr hfS he hSc hp
              have c7 := fun W (hr : Rd W W.heap.size A (entCells es)) (he : Env W) => pSub A c es caps blind q W hr hf he hcaps (by omega)
              have hlk : look S.files p = look es q := by rw [HSf.out]; exact HL.out
              have hd1 : rdData S.files p = rdData es q := by unfold rdData; rw [if_pos HP.out, if_pos hqv, hlk]
              have hd2 : rdErr S.files p = rdErr es q := by unfold rdErr; rw [if_pos HP.out, if_pos hqv, hlk]
              have hd3 : subErr S.files p = subErr es q := by unfold subErr; rw [if_pos HP.out, if_pos hqv, hlk]
              have hd4 : (subS S.files S.caps S.blind p).files = (subS es caps blind q).files := by
                unfold subS; rw [hd3]; split
                · show subL S.files p = subL es q; rw [HSf.out]; exact HB.out
                · rfl
              have hd5 : (subS S.files S.caps S.blind p).blind = (subS es caps blind q).blind := by
                unfold subS; rw [hd3]; split
                · exact HSb.out
                · rfl
              have hFl : (subS es caps blind q).files.length ≤ 256 := by
                unfold subS; split
                · exact Nat.le_trans (subL_len es q) hn
                · simp
              rw [hd1, hd2] at c4
              rw [hd3, hd4, hd5] at c6
              generalize rdData es q = dd at c4 c5
              generalize rdErr es q = n2 at c4 c5
              generalize subErr es q = n3 at c6 c7
              generalize (subS es caps blind q).files = F at c6 c7 hFl
              generalize (subS es caps blind q).blind = bl at c6 c7
              generalize (subS es caps blind q).caps = k1 at c7
              generalize (subS S.files S.caps S.blind p).caps = k0 at c6
              have hdd : (dd == dd) = true := by simp
              clear hd1 hd2 hd3 hd4 hd5 hlk hqv hFS
              go_upto_region 16 with (go_at_call 14; refine (cfx _ s5.r2 s5.e).mono ?_; rintro e w8 ⟨rfl, hb8⟩; have s6 := s5.step hb8)
              have yc6 := s6.y.cell
              go_upto_region 17 with (go_at_call 22; refine (c4 _ s6.r2 s6.e).mono ?_; rintro e w9 ⟨v9, rfl, -, hb9⟩; have s7 := s6.step hb9)
              have xc7 := s7.x.cell
              go_upto_region 18 with (go_at_call 22; refine (c5 _ s7.r s7.e).mono ?_; rintro e w10 ⟨v10, rfl, -, hb10⟩; have s8 := s7.step hb10)
              have yc8 := s8.y.cell
              clear s5 s6 s7 yc5 yc6 xc7
              go_upto_region 21 with (go_at_call 31; refine (c6 _ s8.r2 s8.e).mono ?_; rintro e w11 ⟨A8, k8, rfl, hr8, hb11⟩; have s9 := s8.step hb11)
              have s10 := s9.alloc (.cells #[.slice A8 F.length k8, .int .u32 (k0 : Int), .bool bl] 32)
              have hr9 := (hr8.below ((Below.refl _ _).alloc (Nat.le_refl _) (.cells #[.slice A8 F.length k8, .int .u32 (k0 : Int), .bool bl] 32)) (Nat.le_refl _)).more (B' := (w11.alloc (.cells #[.slice A8 F.length k8, .int .u32 (k0 : Int), .bool bl] 32)).heap.size) (by simp)
              have j9 : Blk (w11.alloc (.cells #[.slice A8 F.length k8, .int .u32 (k0 : Int), .bool bl] 32)) w11.heap.size 32 _ := Blk.newAt _ _ rfl rfl
              generalize w11.alloc (.cells #[.slice A8 F.length k8, .int .u32 (k0 : Int), .bool bl] 32) = w12 at s10 hr9 j9 ⊢
              generalize w11.heap.size = g12 at j9 ⊢
              have xc10 := s10.x.cell
              clear s8 s9 yc8 hr8 hb11
              go_upto_region 22 with (go_at_call 31; refine (c7 _ s10.r s10.e).mono ?_; rintro e w13 ⟨A9, k9, rfl, hr13, hb13⟩; have s11 := s10.step hb13; have j13 := j9.below hb13 j9.lt; have hr14 := (hr9.below hb13 (Nat.le_refl _)).more hb13.size)
              have j15 := (j13.alloc (.cells #[.slice A9 F.length k9, .int .u32 (k1 : Int), .bool bl] 32)).cell
              have j16 := (j13.alloc (.cells #[.slice A9 F.length k9, .int .u32 (k0 : Int), .bool bl] 32)).cell
              have s12 := s11.alloc (.cells #[.slice A9 F.length k9, .int .u32 (k0 : Int), .bool bl] 32)
              have hq1 := (hr14.below ((Below.refl _ _).alloc (Nat.le_refl _) (.cells #[.slice A9 F.length k9, .int .u32 (k0 : Int), .bool bl] 32)) (Nat.le_refl _)).more (B' := (w13.alloc (.cells #[.slice A9 F.length k9, .int .u32 (k0 : Int), .bool bl] 32)).heap.size) (by simp)
              have hq2 := (hr13.below ((Below.refl _ _).alloc (Nat.le_refl _) (.cells #[.slice A9 F.length k9, .int .u32 (k0 : Int), .bool bl] 32)) (Nat.le_refl _)).more (B' := (w13.alloc (.cells #[.slice A9 F.length k9, .int .u32 (k0 : Int), .bool bl] 32)).heap.size) (by simp)
              go_wp2_with (first
                | (go_at_call 27; refine (lSameEq A8 A9 k8 k9 F k0 bl _ hq1 hq2 (by omega)).mono ?_; rintro e w16 ⟨rfl, hb16⟩; have s13 := s12.step hb16)
                | (go_at_call 11; refine (ca _ s13.e).mono ?_; rintro e w17 ⟨rfl, hb17⟩))
              go_returns
              exact ⟨rfl, s13.b.trans (hb17.mono s13.b.size)⟩
            · have cfx : ∀ W (hr : Rd W W.heap.size A2 (entCells S.files)) (hW : Env W), Calls Tryz.prog 14 #[.agg #[.slice A2 S.files.length k2, .int .u32 (S.caps : Int), .bool S.blind]] W fun e w' => e = .returned (.bool false) ∧ Below W.heap.size W w' := fun W hr hW =>
                (cfx W hr hW).mono fun e w' ⟨b, h1, h2, h3⟩ => ⟨by cases b with | false => exact h1 | true => exact absurd (h2.1 rfl) hFS, h3⟩
              clear hFS
              go_wp2_with (first
                | (go_at_call 14; refine (cfx _ s5.r2 s5.e).mono ?_; rintro e w8 ⟨rfl, hb8⟩; have s6 := s5.step hb8)
                | (go_at_call 11; refine (ca _ s6.e).mono ?_; rintro e w9 ⟨rfl, hb9⟩))
              go_returns
              exact ⟨rfl, s6.b.trans (hb9.mono s6.b.size)⟩
        · subst h3
          go_upto_region 14 with (go_at_call 29; refine (cv _ s4.e).mono ?_; rintro e w7 ⟨rfl, hb7⟩; have s5 := s4.step hb7)
          by_cases hql : 1024 < q.length
          · have hql2 : decide ((1024 : Int) < (q.length : Int)) = true := decide_eq_true (by omega)
            go_wp2_with (go_at_call 11; refine (ca _ s5.e).mono ?_; rintro e w8 ⟨rfl, hb8⟩)
            go_returns
            exact ⟨rfl, s5.b.trans (hb8.mono s5.b.size)⟩
          · have hql2 : decide ((1024 : Int) < (q.length : Int)) = false := decide_eq_false (by omega)
            have yc5 := s5.y.cell
            by_cases hFS : FitP S.files S.caps
            · have cfx : ∀ W (hr : Rd W W.heap.size A2 (entCells S.files)) (hW : Env W), Calls Tryz.prog 14 #[.agg #[.slice A2 S.files.length k2, .int .u32 (S.caps : Int), .bool S.blind]] W fun e w' => e = .returned (.bool true) ∧ Below W.heap.size W w' := fun W hr hW =>
                (cfx W hr hW).mono fun e w' ⟨b, h1, h2, h3⟩ => ⟨by rw [h1, h2.2 hFS], h3⟩
              have hfS := hFS.fine
              have hqv := HV.out (by omega)
              have c4 := fun W (hr : Rd W W.heap.size A2 (entCells S.files)) (he : Env W) => pReadFile A2 k2 S.files S.caps S.blind q W hr hfS he hSc hp
              have c5 := fun W (hr : Rd W W.heap.size A (entCells es)) (he : Env W) => pReadFile A c es caps blind q W hr hf he hcaps (by omega)
              have c6 := fun W (hr : Rd W W.heap.size A2 (entCells S.files)) (he : Env W) => pSub A2 k2 S.files S.caps S.blind q W hr hfS he hSc hp
              have c7 := fun W (hr : Rd W W.heap.size A (entCells es)) (he : Env W) => pSub A c es caps blind q W hr hf he hcaps (by omega)
              have hlk : look S.files q = look es q := by rw [HSf.out]; exact HL.out
              have hd1 : rdData S.files q = rdData es q := by unfold rdData; rw [if_pos HP.out, if_pos hqv, hlk]
              have hd2 : rdErr S.files q = rdErr es q := by unfold rdErr; rw [if_pos HP.out, if_pos hqv, hlk]
              have hd3 : subErr S.files q = subErr es q := by unfold subErr; rw [if_pos HP.out, if_pos hqv, hlk]
              have hd4 : (subS S.files S.caps S.blind q).files = (subS es caps blind q).files := by
                unfold subS; rw [hd3]; split
                · show subL S.files q = subL es q; rw [HSf.out]; exact HB.out
                · rfl
              have hd5 : (subS S.files S.caps S.blind q).blind = (subS es caps blind q).blind := by
                unfold subS; rw [hd3]; split
                · exact HSb.out
                · rfl
              have hFl : (subS es caps blind q).files.length ≤ 256 := by
                unfold subS; split
                · exact Nat.le_trans (subL_len es q) hn
                · simp
              rw [hd1, hd2] at c4
              rw [hd3, hd4, hd5] at c6
              generalize rdData es q = dd at c4 c5
              generalize rdErr es q = n2 at c4 c5
              generalize subErr es q = n3 at c6 c7
              generalize (subS es caps blind q).files = F at c6 c7 hFl
              generalize (subS es caps blind q).blind = bl at c6 c7
              generalize (subS es caps blind q).caps = k1 at c7
              generalize (subS S.files S.caps S.blind q).caps = k0 at c6
              have hdd : (dd == dd) = true := by simp
              clear hd1 hd2 hd3 hd4 hd5 hlk hqv hFS
              go_upto_region 16 with (go_at_call 14; refine (cfx _ s5.r2 s5.e).mono ?_; rintro e w8 ⟨rfl, hb8⟩; have s6 := s5.step hb8)
              have yc6 := s6.y.cell
              go_upto_region 17 with (go_at_call 22; refine (c4 _ s6.r2 s6.e).mono ?_; rintro e w9 ⟨v9, rfl, -, hb9⟩; have s7 := s6.step hb9)
              have xc7 := s7.x.cell
              go_upto_region 18 with (go_at_call 22; refine (c5 _ s7.r s7.e).mono ?_; rintro e w10 ⟨v10, rfl, -, hb10⟩; have s8 := s7.step hb10)
              have yc8 := s8.y.cell
              clear s5 s6 s7 yc5 yc6 xc7
              go_upto_region 21 with (go_at_call 31; refine (c6 _ s8.r2 s8.e).mono ?_; rintro e w11 ⟨A8, k8, rfl, hr8, hb11⟩; have s9 := s8.step hb11)
              have s10 := s9.alloc (.cells #[.slice A8 F.length k8, .int .u32 (k0 : Int), .bool bl] 32)
              have hr9 := (hr8.below ((Below.refl _ _).alloc (Nat.le_refl _) (.cells #[.slice A8 F.length k8, .int .u32 (k0 : Int), .bool bl] 32)) (Nat.le_refl _)).more (B' := (w11.alloc (.cells #[.slice A8 F.length k8, .int .u32 (k0 : Int), .bool bl] 32)).heap.size) (by simp)
              have j9 : Blk (w11.alloc (.cells #[.slice A8 F.length k8, .int .u32 (k0 : Int), .bool bl] 32)) w11.heap.size 32 _ := Blk.newAt _ _ rfl rfl
              generalize w11.alloc (.cells #[.slice A8 F.length k8, .int .u32 (k0 : Int), .bool bl] 32) = w12 at s10 hr9 j9 ⊢
              generalize w11.heap.size = g12 at j9 ⊢
              have xc10 := s10.x.cell
              clear s8 s9 yc8 hr8 hb11
              go_upto_region 22 with (go_at_call 31; refine (c7 _ s10.r s10.e).mono ?_; rintro e w13 ⟨A9, k9, rfl, hr13, hb13⟩; have s11 := s10.step hb13; have j13 := j9.below hb13 j9.lt; have hr14 := (hr9.below hb13 (Nat.le_refl _)).more hb13.size)
              have j15 := (j13.alloc (.cells #[.slice A9 F.length k9, .int .u32 (k1 : Int), .bool bl] 32)).cell
              have j16 := (j13.alloc (.cells #[.slice A9 F.length k9, .int .u32 (k0 : Int), .bool bl] 32)).cell
              have s12 := s11.alloc (.cells #[.slice A9 F.length k9, .int .u32 (k0 : Int), .bool bl] 32)
              have hq1 := (hr14.below ((Below.refl _ _).alloc (Nat.le_refl _) (.cells #[.slice A9 F.length k9, .int .u32 (k0 : Int), .bool bl] 32)) (Nat.le_refl _)).more (B' := (w13.alloc (.cells #[.slice A9 F.length k9, .int .u32 (k0 : Int), .bool bl] 32)).heap.size) (by simp)
              have hq2 := (hr13.below ((Below.refl _ _).alloc (Nat.le_refl _) (.cells #[.slice A9 F.length k9, .int .u32 (k0 : Int), .bool bl] 32)) (Nat.le_refl _)).more (B' := (w13.alloc (.cells #[.slice A9 F.length k9, .int .u32 (k0 : Int), .bool bl] 32)).heap.size) (by simp)
              go_wp2_with (first
                | (go_at_call 27; refine (lSameEq A8 A9 k8 k9 F k0 bl _ hq1 hq2 (by omega)).mono ?_; rintro e w16 ⟨rfl, hb16⟩; have s13 := s12.step hb16)
                | (go_at_call 11; refine (ca _ s13.e).mono ?_; rintro e w17 ⟨rfl, hb17⟩))
              go_returns
              exact ⟨rfl, s13.b.trans (hb17.mono s13.b.size)⟩
            · have cfx : ∀ W (hr : Rd W W.heap.size A2 (entCells S.files)) (hW : Env W), Calls Tryz.prog 14 #[.agg #[.slice A2 S.files.length k2, .int .u32 (S.caps : Int), .bool S.blind]] W fun e w' => e = .returned (.bool false) ∧ Below W.heap.size W w' := fun W hr hW =>
                (cfx W hr hW).mono fun e w' ⟨b, h1, h2, h3⟩ => ⟨by cases b with | false => exact h1 | true => exact absurd (h2.1 rfl) hFS, h3⟩
              clear hFS
              go_wp2_with (first
                | (go_at_call 14; refine (cfx _ s5.r2 s5.e).mono ?_; rintro e w8 ⟨rfl, hb8⟩; have s6 := s5.step hb8)
                | (go_at_call 11; refine (ca _ s6.e).mono ?_; rintro e w9 ⟨rfl, hb9⟩))
              go_returns
              exact ⟨rfl, s6.b.trans (hb9.mono s6.b.size)⟩
        · go_upto_region 14 with (go_at_call 29; refine (cv _ s4.e).mono ?_; rintro e w7 ⟨rfl, hb7⟩; have s5 := s4.step hb7)
          have hcat : (ByteArray.mk d.toArray ++ ByteArray.mk #[47] ++ ByteArray.mk p.toArray) = ByteArray.mk q.toArray := by rw [h3]; simp [ByteArray.mk_append_mk]
          rw [hcat]
          clear hcat
          clear h3
          by_cases hql : 1024 < q.length
          · have hql2 : decide ((1024 : Int) < (q.length : Int)) = true := decide_eq_true (by omega)
            go_wp2_with (go_at_call 11; refine (ca _ s5.e).mono ?_; rintro e w8 ⟨rfl, hb8⟩)
            go_returns
            exact ⟨rfl, s5.b.trans (hb8.mono s5.b.size)⟩
          · have hql2 : decide ((1024 : Int) < (q.length : Int)) = false := decide_eq_false (by omega)
            have yc5 := s5.y.cell
            by_cases hFS : FitP S.files S.caps
            · have cfx : ∀ W (hr : Rd W W.heap.size A2 (entCells S.files)) (hW : Env W), Calls Tryz.prog 14 #[.agg #[.slice A2 S.files.length k2, .int .u32 (S.caps : Int), .bool S.blind]] W fun e w' => e = .returned (.bool true) ∧ Below W.heap.size W w' := fun W hr hW =>
                (cfx W hr hW).mono fun e w' ⟨b, h1, h2, h3⟩ => ⟨by rw [h1, h2.2 hFS], h3⟩
              have hfS := hFS.fine
              have hqv := HV.out (by omega)
              have c4 := fun W (hr : Rd W W.heap.size A2 (entCells S.files)) (he : Env W) => pReadFile A2 k2 S.files S.caps S.blind p W hr hfS he hSc hp
              have c5 := fun W (hr : Rd W W.heap.size A (entCells es)) (he : Env W) => pReadFile A c es caps blind q W hr hf he hcaps (by omega)
              have c6 := fun W (hr : Rd W W.heap.size A2 (entCells S.files)) (he : Env W) => pSub A2 k2 S.files S.caps S.blind p W hr hfS he hSc hp
              have c7 := fun W (hr : Rd W W.heap.size A (entCells es)) (he : Env W) => pSub A c es caps blind q W hr hf he hcaps (by omega)
              have hlk : look S.files p = look es q := by rw [HSf.out]; exact HL.out
              have hd1 : rdData S.files p = rdData es q := by unfold rdData; rw [if_pos HP.out, if_pos hqv, hlk]
              have hd2 : rdErr S.files p = rdErr es q := by unfold rdErr; rw [if_pos HP.out, if_pos hqv, hlk]
              have hd3 : subErr S.files p = subErr es q := by unfold subErr; rw [if_pos HP.out, if_pos hqv, hlk]
              have hd4 : (subS S.files S.caps S.blind p).files = (subS es caps blind q).files := by
                unfold subS; rw [hd3]; split
                · show subL S.files p = subL es q; rw [HSf.out]; exact HB.out
                · rfl
              have hd5 : (subS S.files S.caps S.blind p).blind = (subS es caps blind q).blind := by
                unfold subS; rw [hd3]; split
                · exact HSb.out
                · rfl
              have hFl : (subS es caps blind q).files.length ≤ 256 := by
                unfold subS; split
                · exact Nat.le_trans (subL_len es q) hn
                · simp
              rw [hd1, hd2] at c4
              rw [hd3, hd4, hd5] at c6
              generalize rdData es q = dd at c4 c5
              generalize rdErr es q = n2 at c4 c5
              generalize subErr es q = n3 at c6 c7
              generalize (subS es caps blind q).files = F at c6 c7 hFl
              generalize (subS es caps blind q).blind = bl at c6 c7
              generalize (subS es caps blind q).caps = k1 at c7
              generalize (subS S.files S.caps S.blind p).caps = k0 at c6
              have hdd : (dd == dd) = true := by simp
              clear hd1 hd2 hd3 hd4 hd5 hlk hqv hFS
              go_upto_region 16 with (go_at_call 14; refine (cfx _ s5.r2 s5.e).mono ?_; rintro e w8 ⟨rfl, hb8⟩; have s6 := s5.step hb8)
              have yc6 := s6.y.cell
              go_upto_region 17 with (go_at_call 22; refine (c4 _ s6.r2 s6.e).mono ?_; rintro e w9 ⟨v9, rfl, -, hb9⟩; have s7 := s6.step hb9)
              have xc7 := s7.x.cell
              go_upto_region 18 with (go_at_call 22; refine (c5 _ s7.r s7.e).mono ?_; rintro e w10 ⟨v10, rfl, -, hb10⟩; have s8 := s7.step hb10)
              have yc8 := s8.y.cell
              clear s5 s6 s7 yc5 yc6 xc7
              go_upto_region 21 with (go_at_call 31; refine (c6 _ s8.r2 s8.e).mono ?_; rintro e w11 ⟨A8, k8, rfl, hr8, hb11⟩; have s9 := s8.step hb11)
              have s10 := s9.alloc (.cells #[.slice A8 F.length k8, .int .u32 (k0 : Int), .bool bl] 32)
              have hr9 := (hr8.below ((Below.refl _ _).alloc (Nat.le_refl _) (.cells #[.slice A8 F.length k8, .int .u32 (k0 : Int), .bool bl] 32)) (Nat.le_refl _)).more (B' := (w11.alloc (.cells #[.slice A8 F.length k8, .int .u32 (k0 : Int), .bool bl] 32)).heap.size) (by simp)
              have j9 : Blk (w11.alloc (.cells #[.slice A8 F.length k8, .int .u32 (k0 : Int), .bool bl] 32)) w11.heap.size 32 _ := Blk.newAt _ _ rfl rfl
              generalize w11.alloc (.cells #[.slice A8 F.length k8, .int .u32 (k0 : Int), .bool bl] 32) = w12 at s10 hr9 j9 ⊢
              generalize w11.heap.size = g12 at j9 ⊢
              have xc10 := s10.x.cell
              clear s8 s9 yc8 hr8 hb11
              go_upto_region 22 with (go_at_call 31; refine (c7 _ s10.r s10.e).mono ?_; rintro e w13 ⟨A9, k9, rfl, hr13, hb13⟩; have s11 := s10.step hb13; have j13 := j9.below hb13 j9.lt; have hr14 := (hr9.below hb13 (Nat.le_refl _)).more hb13.size)
              have j15 := (j13.alloc (.cells #[.slice A9 F.length k9, .int .u32 (k1 : Int), .bool bl] 32)).cell
              have j16 := (j13.alloc (.cells #[.slice A9 F.length k9, .int .u32 (k0 : Int), .bool bl] 32)).cell
              have s12 := s11.alloc (.cells #[.slice A9 F.length k9, .int .u32 (k0 : Int), .bool bl] 32)
              have hq1 := (hr14.below ((Below.refl _ _).alloc (Nat.le_refl _) (.cells #[.slice A9 F.length k9, .int .u32 (k0 : Int), .bool bl] 32)) (Nat.le_refl _)).more (B' := (w13.alloc (.cells #[.slice A9 F.length k9, .int .u32 (k0 : Int), .bool bl] 32)).heap.size) (by simp)
              have hq2 := (hr13.below ((Below.refl _ _).alloc (Nat.le_refl _) (.cells #[.slice A9 F.length k9, .int .u32 (k0 : Int), .bool bl] 32)) (Nat.le_refl _)).more (B' := (w13.alloc (.cells #[.slice A9 F.length k9, .int .u32 (k0 : Int), .bool bl] 32)).heap.size) (by simp)
              go_wp2_with (first
                | (go_at_call 27; refine (lSameEq A8 A9 k8 k9 F k0 bl _ hq1 hq2 (by omega)).mono ?_; rintro e w16 ⟨rfl, hb16⟩; have s13 := s12.step hb16)
                | (go_at_call 11; refine (ca _ s13.e).mono ?_; rintro e w17 ⟨rfl, hb17⟩))
              go_returns
              exact ⟨rfl, s13.b.trans (hb17.mono s13.b.size)⟩
            · have cfx : ∀ W (hr : Rd W W.heap.size A2 (entCells S.files)) (hW : Env W), Calls Tryz.prog 14 #[.agg #[.slice A2 S.files.length k2, .int .u32 (S.caps : Int), .bool S.blind]] W fun e w' => e = .returned (.bool false) ∧ Below W.heap.size W w' := fun W hr hW =>
                (cfx W hr hW).mono fun e w' ⟨b, h1, h2, h3⟩ => ⟨by cases b with | false => exact h1 | true => exact absurd (h2.1 rfl) hFS, h3⟩
              clear hFS
              go_wp2_with (first
                | (go_at_call 14; refine (cfx _ s5.r2 s5.e).mono ?_; rintro e w8 ⟨rfl, hb8⟩; have s6 := s5.step hb8)
                | (go_at_call 11; refine (ca _ s6.e).mono ?_; rintro e w9 ⟨rfl, hb9⟩))
              go_returns
              exact ⟨rfl, s6.b.trans (hb9.mono s6.b.size)⟩
    · have hne : ((n1 : Int) == 0) = false := by simp; omega
      have hne2 : ((n1 : Int) != 0) = true := by simp; omega
      go_wp2_with (go_at_call 11; refine (ca _ s4.e).mono ?_; rintro e w7 ⟨rfl, hb7⟩)
      go_returns
      exact ⟨rfl, s4.b.trans (hb7.mono s4.b.size)⟩
  · have cf : ∀ W (hr : Rd W W.heap.size A (entCells es)) (hW : Env W), Calls Tryz.prog 14 #[.agg #[.slice A es.length c, .int .u32 (caps : Int), .bool blind]] W fun e w' => e = .returned (.bool false) ∧ Below W.heap.size W w' := fun W hr hW =>
      (cf W hr hW).mono fun e w' ⟨b, h1, h2, h3⟩ => ⟨by cases b with | false => exact h1 | true => exact absurd (h2.1 rfl) hF, h3⟩
    clear hF
    go_enter Tryz.func7, Tryz.ntmps7
    go_wp2_with (first
      | (go_at_call 14; refine (cf _ r0 e0).mono ?_; rintro e w1 ⟨rfl, hb1⟩; have b1 := b0.trans (hb1.mono b0.size); have e1 := e0.below hb1)
      | (go_at_call 11; refine (ca _ e1).mono ?_; rintro e w2 ⟨rfl, hb2⟩))
    go_returns
    exact ⟨rfl, b1.trans (hb2.mono b1.size)⟩
end Go.Proofs.YtkaoechldamggaaGreatDoor
