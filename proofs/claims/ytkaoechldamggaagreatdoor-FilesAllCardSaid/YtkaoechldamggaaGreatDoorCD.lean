/- The walker in memory; come. Plain: what a walk tells. Plain: bounds on a walk. -/
import Derived.Test.YtkaoechldamggaaGreatDoorCA
import Derived.Test.YtkaoechldamggaaGreatDoorAN
import Derived.Test.YtkaoechldamggaaGreatDoorAM
namespace Go.Proofs.YtkaoechldamggaaGreatDoor
open Go Go.RowKit
set_option maxRecDepth 100000

/-- The walker at k: its store at g, the paths told so far (a row from B on), what is left out. -/
structure Wk (W : World) (k g B : Nat) (A : Option Addr) (c : Nat) (skip ps : List Bs) : Prop where
  ex : ∃ pv, Blk W k 129 #[.pointer (some ⟨g, 0, none⟩), pv, .slice A skip.length c] ∧ W.ownsRow B 9 1 pv ps.length (strCells ps)
  sk : Rd W g A (strCells skip)
/-- What a walk may turn: the store's block g, the walker's k, rows of what was asked, rows of texts from g on. -/
structure Kw (g k : Nat) (w w' : World) : Prop where
  os : w'.os = w.os
  tape : w'.tape = w.tape
  output : w'.output = w.output
  size : w.heap.size ≤ w'.heap.size
  low : ∀ i, i < w.heap.size → i < g → w'.heap[i]? = w.heap[i]?
  other : ∀ i, i < w.heap.size → i ≠ g → i ≠ k → (∀ cs, w.heap[i]? ≠ some (.cells cs 102 (0, 0))) → (∀ cs, w.heap[i]? ≠ some (.cells cs 9 (0, 0))) → w'.heap[i]? = w.heap[i]?
section
variable {g k : Nat} {a b c : World}
theorem Kw.trans (h : Kw g k a b) (h2 : Kw g k b c) : Kw g k a c :=
  ⟨h2.os.trans h.os, h2.tape.trans h.tape, h2.output.trans h.output, Nat.le_trans h.size h2.size,
    fun i hi hg => (h2.low i (Nat.lt_of_lt_of_le hi h.size) hg).trans (h.low i hi hg),
    fun i hi hg hk ht h9 => (h2.other i (Nat.lt_of_lt_of_le hi h.size) hg hk (by rw [h.other i hi hg hk ht h9]; exact ht) (by rw [h.other i hi hg hk ht h9]; exact h9)).trans (h.other i hi hg hk ht h9)⟩
theorem Kw.of_kp (h : Kp g a b) : Kw g k a b := ⟨h.os, h.tape, h.output, h.size, h.low, fun i hi hg _ ht _ => h.other i hi hg ht⟩
theorem Kw.below (h : Kw g k a b) (hb : Below b.heap.size b c) : Kw g k a c := h.trans (Kw.of_kp (Kp.of_below hb))
theorem Kw.low_ {B : Nat} (h : Kw g k a b) (hB : B ≤ g) (hs : B ≤ a.heap.size) : Below B a b := ⟨h.os, h.tape, h.output, h.size, fun i hi => h.low i (by omega) (by omega)⟩
end

set_option maxHeartbeats 1000000 in
theorem pcome (k g B : Nat) (b : Addr) (A : Option Addr) (c : Nat) (skip ps : List Bs) (q : Bs) (W : World) (hk : Wk W k g B A c skip ps) (hs : W.cell? ⟨0, 0, none⟩ = some (.iface 263 (.pointer (some b)))) (hg0 : 0 < g) (hgk : g < k) (hkB : k < B) (hBs : B ≤ W.heap.size) (hn : ps.length ≤ 1099511627776) (hsn : skip.length ≤ 1099511627776)
    {A' : Option Addr} {c' : Nat} {es : List Ent} {caps : Nat} {blind : Bool} {qs : List Ask} (hst : StF W g A' c' es caps blind qs) :
    Calls Tryz.prog 83 #[.pointer (some ⟨k, 0, none⟩), .string ⟨q.toArray⟩] W fun e w' => e = .returned (if skip.contains q then .iface 263 (.pointer (some b)) else .nilIface) ∧ Wk w' k g B A c skip (ps ++ [q]) ∧ StF w' g A' c' es caps blind qs ∧ Kw g k W w' := by
  obtain ⟨pv, hb, ho⟩ := hk.ex
  obtain ⟨A1, c1, rfl, -, -, -⟩ := own_rd ho
  have hbc := hb.cell
  have hbl := hb.lt
  obtain ⟨r, hr⟩ : ∃ r, skip.contains q = r := ⟨_, rfl⟩
  have cc := fun W (hr : Rd W W.heap.size A (strCells skip)) => pcontains A c skip q W hr hsn
  rw [hr] at cc ⊢
  have hown : ∀ x, (Value.slice A1 ps.length c1).ownBlock = some x → B ≤ x := fun x hx => (ho.lt x hx).1
  cases r
  all_goals
    simp only [Bool.false_eq_true, if_false, if_true]
    go_enter Tryz.func83, Tryz.ntmps83
    go_wp2_with (first
      | (at_builtin; go_loud (refine push_str _ _ _ B (.slice A1 ps.length c1) rfl ps _ q rfl rfl rfl ho rfl hn hBs ?_; intro v' w2 ho2 hg2; obtain ⟨A2, c2, rfl, -, -, -⟩ := own_rd ho2; have hb2 := hb.grown hg2 (fun e => by have := hown _ e; omega); have hbc2 := hb2.cell; have hbf2 := hb2.frozen; have hb3 := hb2.set_ 1 (.slice A2 (ps.length + 1) c2); have hbc3 := hb3.cell; have hg3 : w2.grownBy (w2.setCell ⟨k, 1, none⟩ (.slice A2 (ps.length + 1) c2)) (some k) := ⟨rfl, rfl, rfl, by simp [World.setCell], fun i _ hi => Below.heap_setCell w2 ⟨k, 1, none⟩ _ i (fun e => hi (by rw [e]))⟩; have hbg : Below g W (w2.setCell ⟨k, 1, none⟩ (.slice A2 (ps.length + 1) c2)) := ((Below.refl g W).grown hg2 (by omega) (fun x hx => by have := hown x hx; omega)).grown hg3 (by have := hg2.size; omega) (fun x hx => by cases hx; omega); have hrd := (hk.sk.below hbg (Nat.le_refl _)).more (B' := (w2.setCell ⟨k, 1, none⟩ (.slice A2 (ps.length + 1) c2)).heap.size) (by have := hg2.size; have := hg3.size; omega); have hs3 := (hbg.cell (p := ⟨0, 0, none⟩) hg0).trans hs))
      | (go_at_call 101; refine (cc _ hrd).mono ?_; rintro e w4 ⟨rfl, hw4⟩; rw [hw4]))
    go_returns
    refine ⟨rfl, ⟨⟨.slice A2 (ps.length + 1) c2, hb3, ?_⟩, hk.sk.below hbg (Nat.le_refl _)⟩, ?_, ?_⟩
    · have := ho2.kept hg3 (.inr fun e => by have := (ho2.lt _ e).1; omega)
      simpa using this
    · exact (hst.grownOwn ho (by decide) (by decide) (by omega) hg2).wrote hb2 (by decide) hgk ⟨rfl, rfl, rfl, by simp [World.setCell], fun i hi => Below.heap_setCell w2 ⟨k, 1, none⟩ _ i hi⟩
    · refine ⟨hg3.os.trans hg2.os, hg3.tape.trans hg2.tape, hg3.output.trans hg2.output, Nat.le_trans hg2.size hg3.size, fun i _ hi => hbg.block i hi, fun i hi hig hik _ h9 => ?_⟩
      refine (hg3.block i (Nat.lt_of_lt_of_le hi hg2.size) (fun e => hik (by cases e; rfl))).trans (hg2.block i hi fun e => ?_)
      rcases ho.2 with ⟨h0, _⟩ | ⟨x, cap, cur, h0, _, hh, _⟩
      · rw [h0] at e; cases e
      · rw [h0] at e; cases e; exact h9 _ hh
theorem Wk.below {W W' : World} {k g B : Nat} {A : Option Addr} {c : Nat} {skip ps : List Bs} (h : Wk W k g B A c skip ps) (hgk : g < k) (hb : Below W.heap.size W W') : Wk W' k g B A c skip ps := by
  obtain ⟨pv, h1, h2⟩ := h.ex
  exact ⟨⟨pv, h1.below hb h1.lt, own_below h2 hb⟩, h.sk.below hb (by have := h1.lt; omega)⟩
theorem Kw.blk45 {g k x t : Nat} {W W' : World} {cs : Array Value} (h : Kw g k W W') (hb : Blk W x t cs) (hx : x ≠ g) (hxk : x ≠ k) (ht : t ≠ 102 := by decide) (h9 : t ≠ 9 := by decide) : Blk W' x t cs := by
  refine (h.other x hb.lt hx hxk (fun cs' e => ?_) (fun cs' e => ?_)).trans hb
  · unfold Blk at hb; rw [hb] at e; cases e; exact ht rfl
  · unfold Blk at hb; rw [hb] at e; cases e; exact h9 rfl
theorem Kw.cell0 {g k : Nat} {W W' : World} {v : Value} (h : Kw g k W W') (hg : 0 < g) (hs : W.cell? ⟨0, 0, none⟩ = some v) : W'.cell? ⟨0, 0, none⟩ = some v := by
  have := World.block_lt_of_cell? W _ hs
  exact ((h.low_ (B := 1) (by omega) (by omega)).cell (p := ⟨0, 0, none⟩) (by decide)).trans hs

theorem Env.kw {g k : Nat} {w w' : World} (h : Env w) (hk : Kw g k w w') (hg : 5 ≤ g) : Env w' := by
  have hb : Below 5 w w' := hk.low_ hg h.size
  obtain ⟨m, hm⟩ := h.mx
  refine ⟨⟨fun c hc => (hb.cell (by simp)).trans (h.tabs.1 c hc), fun i hi => ⟨(hb.cell (by simp)).trans (h.tabs.2 i hi).1, (hb.cell (by simp)).trans (h.tabs.2 i hi).2⟩⟩, ⟨m, (hb.cell (by simp)).trans hm⟩, (hb.cell (by simp)).trans h.et⟩
theorem Kw.own {g k base e sz n : Nat} {v : Value} {xs : List Value} {w w' : World} (h : Kw g k w w') (ho : w.ownsRow base e sz v n xs) (ht : e ≠ 102) (h9 : e ≠ 9) (hg : v.ownBlock ≠ some g) (hk : v.ownBlock ≠ some k) : w'.ownsRow base e sz v n xs := by
  refine ⟨ho.1, ?_⟩
  rcases ho.2 with h2 | ⟨q, cap, cur, rfl, hq, hh, r⟩
  · exact .inl h2
  · refine .inr ⟨q, cap, cur, rfl, hq, ?_, r⟩
    rw [h.other q (Array.getElem?_eq_some_iff.1 hh).1 (fun e2 => hg (by simp [Value.ownBlock, e2])) (fun e2 => hk (by simp [Value.ownBlock, e2])) (fun cs' e2 => by rw [hh] at e2; cases e2; exact ht rfl) (fun cs' e2 => by rw [hh] at e2; cases e2; exact h9 rfl)]
    exact hh
end Go.Proofs.YtkaoechldamggaaGreatDoor
namespace Go.Proofs.YtkaoechldamggaaGreatDoor
open Go

/-- What a walk from a path tells: the paths, what was asked, and how it ends: 0, 1 the rest is left out, else the error's number. -/
structure WR where
  paths : List Bs
  asks : List Ask
  out : Nat

def goL (f : Inf → WR) : List Inf → WR
  | [] => ⟨[], [], 0⟩
  | x :: xs => if (f x).out = 0 then ⟨(f x).paths ++ (goL f xs).paths, (f x).asks ++ (goL f xs).asks, (goL f xs).out⟩ else ⟨(f x).paths, (f x).asks, if (f x).out = 1 then 0 else (f x).out⟩

def walkF (es : List Ent) (caps : Nat) (blind : Bool) (skip : List Bs) : Nat → Bs → Bool → WR
  | 0, _, _ => ⟨[], [], 0⟩
  | n + 1, p, dir =>
    if skip.contains p then ⟨[p], [], if dir then 0 else 1⟩
    else if dir = false then ⟨[p], [], 0⟩
    else if rdDirErr es p caps blind = 0 then
      ⟨p :: (goL (fun x => walkF es caps blind skip n (join p x.name) x.dir) (rdDirLst es p caps blind)).paths, asksOf caps 2 p ++ (goL (fun x => walkF es caps blind skip n (join p x.name) x.dir) (rdDirLst es p caps blind)).asks,
        (goL (fun x => walkF es caps blind skip n (join p x.name) x.dir) (rdDirLst es p caps blind)).out⟩
    else ⟨[p], asksOf caps 2 p, rdDirErr es p caps blind⟩

/-- A path and what lies below it. -/
def under (p q : Bs) : Prop := q = p ∨ isBelow p q = true

theorem goL_out (f : Inf → WR) (l : List Inf) : (goL f l).out ≠ 1 := by
  induction l with
  | nil => simp [goL]
  | cons x xs ih =>
    unfold goL
    split
    · exact ih
    · show (if (f x).out = 1 then 0 else (f x).out) ≠ 1
      split
      · decide
      · assumption
theorem goL_mem {f : Inf → WR} {l : List Inf} {q : Bs} (h : q ∈ (goL f l).paths) : ∃ x ∈ l, q ∈ (f x).paths := by
  induction l with
  | nil => cases h
  | cons x xs ih =>
    unfold goL at h
    split at h
    · rcases List.mem_append.1 h with h | h
      · exact ⟨x, by simp, h⟩
      · obtain ⟨y, hy, hq⟩ := ih h
        exact ⟨y, by simp [hy], hq⟩
    · exact ⟨x, by simp, h⟩
theorem goL_asks {f : Inf → WR} {l : List Inf} {q : Ask} (h : q ∈ (goL f l).asks) : ∃ x ∈ l, q ∈ (f x).asks := by
  induction l with
  | nil => cases h
  | cons x xs ih =>
    unfold goL at h
    split at h
    · rcases List.mem_append.1 h with h | h
      · exact ⟨x, by simp, h⟩
      · obtain ⟨y, hy, hq⟩ := ih h
        exact ⟨y, by simp [hy], hq⟩
    · exact ⟨x, by simp, h⟩
/-- The loop, k rounds gone well. -/
theorem goL_take {f : Inf → WR} {l : List Inf} : ∀ (k : Nat), k ≤ l.length → (∀ j (hj : j < l.length), j < k → (f l[j]).out = 0) →
    goL f l = ⟨((l.take k).flatMap fun x => (f x).paths) ++ (goL f (l.drop k)).paths, ((l.take k).flatMap fun x => (f x).asks) ++ (goL f (l.drop k)).asks, (goL f (l.drop k)).out⟩ := by
  induction l with
  | nil => intro k _ _; simp
  | cons x xs ih =>
    intro k hk h
    cases k with
    | zero => simp
    | succ k =>
      have h0 := h 0 (by simp) (by omega)
      simp only [List.getElem_cons_zero] at h0
      have h1 := ih k (by simpa using hk) (fun j hj hjk => by have := h (j + 1) (by simpa using hj) (by omega); simpa using this)
      rw [goL, if_pos h0, h1]
      simp
end Go.Proofs.YtkaoechldamggaaGreatDoor
namespace Go.Proofs.YtkaoechldamggaaGreatDoor
open Go

theorem join_app_ (d n t : Bs) : join d (n ++ 47 :: t) = join d n ++ 47 :: t := by unfold join; split <;> simp
theorem under_self (p : Bs) : under p p := .inl rfl
/-- Below a path joined on: below the path, and what stands first behind it. -/
theorem under_join {p n q : Bs} (hn : ∀ c ∈ n, c ≠ 47) (hne : n ≠ [46]) (h : under (join p n) q) : ∃ r, below p q = some r ∧ headE r = n := by
  have hj : join p n ≠ [46] := by
    unfold join
    split
    · exact hne
    · intro e
      have := congrArg List.length e
      simp at this
      have h1 : p = [] := List.eq_nil_of_length_eq_zero (by omega)
      subst h1
      simp at e
  have hb : ∀ t : Bs, q = join p (n ++ t) → (t = [] ∨ ∃ u, t = 47 :: u) → ∃ r, below p q = some r ∧ headE r = n := by
    intro t hq ht
    have hh : headE (n ++ t) = n := by
      rcases ht with rfl | ⟨u, rfl⟩
      · unfold headE; rw [List.append_nil, elems_plain n hn]; rfl
      · unfold headE; rw [elems_cut n u hn]; rfl
    refine ⟨n ++ t, ?_, hh⟩
    rw [hq]
    unfold below join
    by_cases h1 : p = [46]
    · rw [if_pos h1, if_pos h1, if_neg]
      intro e
      rcases ht with rfl | ⟨u, rfl⟩
      · rw [List.append_nil] at e; exact hne e
      · have := congrArg List.length e
        simp at this
        have h2 : n = [] := List.eq_nil_of_length_eq_zero (by omega)
        subst h2
        simp at e
    · rw [if_neg h1, if_neg h1, if_pos ⟨n ++ t, rfl⟩]
      congr 1
      have : (p ++ [47] ++ (n ++ t)).drop (p ++ [47]).length = n ++ t := List.drop_left
      rwa [List.length_append, List.length_singleton] at this
  rcases h with rfl | h
  · exact hb [] (by simp) (.inl rfl)
  · rw [isBelow_not _ _ (by simpa using hj)] at h
    obtain ⟨t, ht⟩ := of_decide_eq_true h
    refine hb (47 :: t) ?_ (.inr ⟨t, rfl⟩)
    rw [join_app_ p n t, ← ht]
    simp

/-- What the names of a listing are: no slash, not the root. -/
def LG (L : Bs → List Inf) : Prop := ∀ d, ∀ x ∈ L d, (∀ c ∈ x.name, c ≠ 47) ∧ x.name ≠ [46]
variable {es : List Ent} {caps : Nat} {blind : Bool} {skip : List Bs}
theorem isBelow_self' (p : Bs) : isBelow p p = false := by
  by_cases h : p = [46]
  · subst h; rfl
  · rw [isBelow_not p p (by simpa using h)]
    refine decide_eq_false fun hp => ?_
    have := hp.length_le
    simp at this
    omega
theorem walk_under (hL : LG (fun d => rdDirLst es d caps blind)) : ∀ (n : Nat) (p : Bs) (dir : Bool), ∀ q ∈ (walkF es caps blind skip n p dir).paths, under p q := by
  intro n
  induction n with
  | zero => intro p dir q h; cases h
  | succ n ih =>
    intro p dir q h
    unfold walkF at h
    split at h
    · obtain rfl := List.mem_singleton.1 h; exact under_self q
    · split at h
      · obtain rfl := List.mem_singleton.1 h; exact under_self q
      · split at h
        · rcases List.mem_cons.1 h with rfl | h
          · exact under_self q
          · obtain ⟨x, hx, hq⟩ := goL_mem h
            obtain ⟨h1, h2⟩ := hL p x hx
            obtain ⟨r, hr, _⟩ := under_join h1 h2 (ih _ _ q hq)
            exact .inr (by unfold isBelow; rw [hr]; rfl)
        · obtain rfl := List.mem_singleton.1 h; exact under_self q
theorem goL_nodup {f : Inf → WR} : ∀ {l : List Inf}, (∀ x ∈ l, (f x).paths.Nodup) → l.Pairwise (fun a b => ∀ q ∈ (f a).paths, q ∉ (f b).paths) → (goL f l).paths.Nodup := by
  intro l
  induction l with
  | nil => intro _ _; exact List.Pairwise.nil
  | cons x xs ih =>
    intro h hp
    have hp' := List.pairwise_cons.1 hp
    unfold goL
    split
    · refine List.pairwise_append.2 ⟨h x (by simp), ih (fun y hy => h y (by simp [hy])) hp'.2, fun a ha b hb e => ?_⟩
      subst e
      obtain ⟨y, hy, hq⟩ := goL_mem hb
      exact hp'.1 y hy a ha hq
    · exact h x (by simp)
theorem walk_nodup (hL : LG (fun d => rdDirLst es d caps blind)) (hO : LOk es (fun d => rdDirLst es d caps blind)) : ∀ (n : Nat) (p : Bs) (dir : Bool), (walkF es caps blind skip n p dir).paths.Nodup := by
  intro n
  induction n with
  | zero => intro p dir; exact List.Pairwise.nil
  | succ n ih =>
    intro p dir
    unfold walkF
    split
    · simp
    · split
      · simp
      · split
        · refine List.nodup_cons.2 ⟨fun h => ?_, goL_nodup (fun x _ => ih _ _) ?_⟩
          · obtain ⟨x, hx, hq⟩ := goL_mem h
            obtain ⟨h1, h2⟩ := hL p x hx
            obtain ⟨r, hr, _⟩ := under_join h1 h2 (walk_under hL _ _ _ p hq)
            have := isBelow_self' p
            unfold isBelow at this
            rw [hr] at this
            cases this
          · have hn := hO.nodup p
            unfold List.Nodup at hn
            rw [List.pairwise_map] at hn
            refine List.Pairwise.imp_of_mem ?_ hn
            intro a b ha hb hab q hqa hqb
            obtain ⟨a1, a2⟩ := hL p a ha
            obtain ⟨b1, b2⟩ := hL p b hb
            obtain ⟨r, hr, h3⟩ := under_join a1 a2 (walk_under hL _ _ _ q hqa)
            obtain ⟨r', hr', h4⟩ := under_join b1 b2 (walk_under hL _ _ _ q hqb)
            rw [hr] at hr'
            cases hr'
            exact hab (h3.symm.trans h4)
        · simp
theorem walk_pre (hO : LOk es (fun d => rdDirLst es d caps blind)) : ∀ (n : Nat) (p : Bs) (dir : Bool), ∀ q ∈ (walkF es caps blind skip n p dir).paths, q = p ∨ ∃ e ∈ es, q <+: e.path := by
  intro n
  induction n with
  | zero => intro p dir q h; cases h
  | succ n ih =>
    intro p dir q h
    unfold walkF at h
    split at h
    · exact .inl (List.mem_singleton.1 h)
    · split at h
      · exact .inl (List.mem_singleton.1 h)
      · split at h
        · rcases List.mem_cons.1 h with rfl | h
          · exact .inl rfl
          · obtain ⟨x, hx, hq⟩ := goL_mem h
            rcases ih _ _ q hq with rfl | h
            · exact .inr (hO.pre hx)
            · exact .inr h
        · exact .inl (List.mem_singleton.1 h)
theorem walk_len (hn : es.length ≤ 256) (hl : ∀ e ∈ es, e.path.length ≤ 1024) (hL : LG (fun d => rdDirLst es d caps blind)) (hO : LOk es (fun d => rdDirLst es d caps blind)) (n : Nat) (p : Bs) (dir : Bool) : (walkF es caps blind skip n p dir).paths.length ≤ 262401 := by
  have h1 := walk_nodup (skip := skip) hL hO n p dir
  have h2 := walk_pre (skip := skip) hO n p dir
  generalize (walkF es caps blind skip n p dir).paths = l at h1 h2
  have h3 := pre_count es hn hl (l.erase p) (h1.erase p) (fun q hq => by
    have := (List.Nodup.mem_erase_iff h1).1 hq
    exact (h2 q this.2).resolve_left this.1)
  have h4 : l.length ≤ (l.erase p).length + 1 := by
    by_cases hp : p ∈ l
    · rw [List.length_erase_of_mem hp]; omega
    · rw [List.erase_of_not_mem hp]; omega
  omega
theorem goL_cnt {f : Inf → WR} (h : ∀ x, (f x).asks.length ≤ (f x).paths.length) : ∀ (l : List Inf), (goL f l).asks.length ≤ (goL f l).paths.length := by
  intro l
  induction l with
  | nil => simp [goL]
  | cons x xs ih =>
    unfold goL
    have := h x
    split
    · simp only [List.length_append]; omega
    · exact this
theorem walk_asks : ∀ (n : Nat) (p : Bs) (dir : Bool), (walkF es caps blind skip n p dir).asks.length ≤ (walkF es caps blind skip n p dir).paths.length := by
  intro n
  induction n with
  | zero => intro p dir; simp [walkF]
  | succ n ih =>
    intro p dir
    unfold walkF
    have h1 : (asksOf caps 2 p).length ≤ 1 := by unfold asksOf; split <;> simp
    split
    · simp
    · split
      · simp
      · split
        · have := goL_cnt (f := fun x => walkF es caps blind skip n (join p x.name) x.dir) (fun x => ih _ _) (rdDirLst es p caps blind)
          simp only [List.length_append, List.length_cons]
          omega
        · exact h1
/-- Fuel enough for a walk from p. -/
def fuelOk (n : Nat) (p : Bs) : Prop := (p = [46] ∧ 1026 ≤ n) ∨ (p ≠ [46] ∧ p.length ≤ 1024 ∧ 1025 ≤ n + p.length)
theorem fuel_next {n : Nat} {p nm : Bs} (h : fuelOk (n + 1) p) (_hn : nm ≠ [46]) (hj : join p nm ≠ [46]) (hl : (join p nm).length ≤ 1024) : fuelOk n (join p nm) := by
  refine .inr ⟨hj, hl, ?_⟩
  rcases h with ⟨rfl, h⟩ | ⟨h1, h2, h3⟩
  · unfold join; rw [if_pos rfl]; omega
  · unfold join; rw [if_neg h1]; simp; omega
theorem join_ne (p : Bs) {n : Bs} (hne : n ≠ [46]) : join p n ≠ [46] := by
  unfold join
  split
  · exact hne
  · intro e
    have := congrArg List.length e
    simp at this
    have h1 : p = [] := List.eq_nil_of_length_eq_zero (by omega)
    subst h1
    simp at e

/-- How a walk ends, as its caller's loop keeps it. -/
def errN (n : Nat) : Nat := if n = 1 then 0 else n
section
variable {f : Inf → WR} {l : List Inf}
theorem goL_stop (j : Nat) (hjl : j < l.length) (hout : ∀ i (hi : i < l.length), i < j → (f l[i]).out = 0) (h : (f l[j]).out ≠ 0) :
    goL f l = ⟨((l.take j).flatMap fun x => (f x).paths) ++ (f l[j]).paths, ((l.take j).flatMap fun x => (f x).asks) ++ (f l[j]).asks, errN (f l[j]).out⟩ := by
  have hg := goL_take (f := f) (l := l) j (Nat.le_of_lt hjl) hout
  rw [List.drop_eq_getElem_cons hjl, goL, if_neg h] at hg
  exact hg
theorem goL_room (j : Nat) (hjl : j < l.length) (hout : ∀ i (hi : i < l.length), i < j → (f l[i]).out = 0) :
    ((l.take j).flatMap fun x => (f x).paths).length + (f l[j]).paths.length ≤ (goL f l).paths.length ∧ ((l.take j).flatMap fun x => (f x).asks).length + (f l[j]).asks.length ≤ (goL f l).asks.length := by
  have hg := goL_take (f := f) (l := l) j (Nat.le_of_lt hjl) hout
  rw [List.drop_eq_getElem_cons hjl, goL] at hg
  rw [hg]
  split
  · simp only [List.length_append]; omega
  · simp only [List.length_append]; omega
theorem goL_end (hout : ∀ i (hi : i < l.length), i < l.length → (f l[i]).out = 0) :
    goL f l = ⟨l.flatMap fun x => (f x).paths, l.flatMap fun x => (f x).asks, 0⟩ := by
  have hg := goL_take (f := f) (l := l) l.length (Nat.le_refl _) hout
  rw [List.drop_length, List.take_length] at hg
  rw [hg]; simp [goL]
theorem inf_take {β : Type} (F : Inf → List β) (j : Nat) (hjl : j < l.length) : (l.take (j + 1)).flatMap F = (l.take j).flatMap F ++ F l[j] := by
  rw [List.take_succ_eq_append_getElem hjl, List.flatMap_append]; simp
end
theorem rdDirErr_ne1 (es : List Ent) (p : Bs) (caps : Nat) (blind : Bool) : rdDirErr es p caps blind ≠ 1 := by
  unfold rdDirErr dirErr
  split
  · split <;> (try split) <;> decide
  · decide
end Go.Proofs.YtkaoechldamggaaGreatDoor
