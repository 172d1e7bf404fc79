/- Plain: the places of texts, kept in a map. The law FilesAll: the walk. -/
import Derived.Test.YtkaoechldamggaaGreatDoorCF
import Derived.Test.YtkaoechldamggaaGreatDoorAI
import Derived.Test.YtkaoechldamggaaGreatDoorAQ
import Derived.Maps.OwnOps
import Derived.Maps.Views
namespace Go.Proofs.YtkaoechldamggaaGreatDoor
open Go Go.Maps

/-- The places of the first k texts, counted from 1. -/
def atM {H : Type} (l : List Bs) : Nat → DataW H
  | 0 => .map []
  | k + 1 => (atM l k).put (.string (l.getD k [])) (.lit (.int .i64 ((k : Int) + 1)))
theorem atM_isMap {H : Type} (l : List Bs) : ∀ k, IsMap (atM (H := H) l k)
  | 0 => isMap_empty
  | k + 1 => by
    obtain ⟨es, h⟩ := atM_isMap (H := H) l k
    unfold atM
    rw [h]
    exact ⟨_, rfl⟩
theorem atM_not {H : Type} (l : List Bs) (q : Bs) (z : DataW H) : ∀ k, (∀ j, j < k → l.getD j [] ≠ q) → (atM l k).atKey (.string q) z = z
  | 0, _ => rfl
  | k + 1, h => by
    unfold atM
    rw [atKey_put_other (fun e => h k (by omega) (by cases e; rfl))]
    exact atM_not l q z k (fun j hj => h j (by omega))
theorem nodup_getD {l : List Bs} (hn : l.Nodup) {i j : Nat} (hi : i < l.length) (hj : j < l.length) (h : l.getD i [] = l.getD j []) : i = j := by
  simp only [List.getD, List.getElem?_eq_getElem hi, List.getElem?_eq_getElem hj, Option.getD_some] at h
  exact (List.getElem_inj hn).1 h
theorem atM_hit {H : Type} {l : List Bs} (hn : l.Nodup) (z : DataW H) : ∀ k, k ≤ l.length → ∀ j, j < k → (atM l k).atKey (.string (l.getD j [])) z = .lit (.int .i64 ((j : Int) + 1))
  | 0, _, j, hj => by omega
  | k + 1, hk, j, hj => by
    unfold atM
    by_cases h : j = k
    · subst h
      exact atKey_put_same (k := Lit.string (l.getD j [])) (atM_isMap l j) trivial _ _
    · rw [atKey_put_other (fun e => h (nodup_getD hn (by omega) (by omega) (Lit.string.inj e)))]
      exact atM_hit hn z k (by omega) j (by omega)
/-- What stands behind an element of a row without doubles. -/
theorem after_idx {a b : Bs} : ∀ {l : List Bs}, [a, b].Sublist l → l.Nodup → ∀ k (hk : k < l.length), l[k] = a → ∃ j, ∃ hj : j < l.length, k < j ∧ l[j] = b := by
  intro l
  induction l with
  | nil => intro _ _ k hk; cases hk
  | cons x xs ih =>
    intro hs hn k hk ha
    have hn' := List.nodup_cons.1 hn
    cases hs with
    | cons _ h =>
      cases k with
      | zero =>
        simp only [List.getElem_cons_zero] at ha
        exact absurd (h.subset (by simp)) (ha ▸ hn'.1)
      | succ k =>
        obtain ⟨j, hj, h1, h2⟩ := ih h hn'.2 k (by simpa using hk) (by simpa using ha)
        exact ⟨j + 1, by simpa using hj, by omega, by simpa using h2⟩
    | cons_cons _ h =>
      have hb : b ∈ xs := h.subset (by simp)
      cases k with
      | zero =>
        obtain ⟨j, hj, h2⟩ := List.getElem_of_mem hb
        exact ⟨j + 1, by simpa using hj, by omega, by simpa using h2⟩
      | succ k =>
        simp only [List.getElem_cons_succ] at ha
        exact absurd (ha ▸ List.getElem_mem _) hn'.1
/-- How much lies in the first k paths. -/
def sumK (es : List Ent) (l : List Bs) (k : Nat) : Nat := ((l.take k).map fun q => (kids es q).length).sum
theorem sumK_succ (es : List Ent) (l : List Bs) (k : Nat) (hk : k < l.length) : sumK es l (k + 1) = sumK es l k + (kids es l[k]).length := by
  unfold sumK
  rw [List.take_succ_eq_append_getElem hk, List.map_append, List.sum_append]
  simp
theorem sumK_le (es : List Ent) (l : List Bs) (k : Nat) : sumK es l k ≤ (l.map fun q => (kids es q).length).sum := by
  unfold sumK
  conv => rhs; rw [← List.take_append_drop k l, List.map_append, List.sum_append]
  omega
theorem sumK_all (es : List Ent) (l : List Bs) : sumK es l l.length = (l.map fun q => (kids es q).length).sum := by unfold sumK; rw [List.take_length]
theorem here_stat {es : List Ent} {q : Bs} {d : Bool} (h : Here es q d) : stErr es q = 0 ∧ ∃ (s : Bs) (m : Nat), stInf es q = #[.string ⟨s.toArray⟩, .bool d, .int .i64 (m : Int)] := by
  obtain ⟨hv, h⟩ := h
  rcases h with ⟨rfl, hk⟩ | ⟨rfl, dd, hk⟩
  · have h0 : stErr es q = 0 := by unfold stErr; rw [if_pos hv, hk]; rfl
    exact ⟨h0, by unfold stInf; rw [if_pos hv, hk]; exact ⟨_, _, rfl⟩⟩
  · have h0 : stErr es q = 0 := by unfold stErr; rw [if_pos hv, hk]; rfl
    exact ⟨h0, by unfold stInf; rw [if_pos hv, hk]; exact ⟨_, _, rfl⟩⟩
theorem here_file {es : List Ent} {q : Bs} (h : Here es q false) : kids es q = [] := by
  unfold kids
  rcases h.2 with ⟨e, _⟩ | ⟨_, d, hd⟩
  · cases e
  · rw [hd, if_neg (by simp)]
theorem join_dot {p n : Bs} (h : (p == [46]) = true) : n = join p n := by
  have h : p = [46] := by simpa using h
  unfold join; rw [if_pos h]
theorem join_sl {p n : Bs} (h : (p == [46]) = false) : p ++ 47 :: n = join p n := by
  have h : p ≠ [46] := by simpa using h
  unfold join; rw [if_neg h]; simp
theorem root_here (es : List Ent) : Here es [46] true := ⟨by decide, .inl ⟨rfl, rfl⟩⟩
theorem kids_len {es : List Ent} (h : es.length ≤ 256) (q : Bs) : (kids es q).length ≤ 256 := by
  unfold kids
  split
  · unfold listOf
    rw [List.length_map]
    exact Nat.le_trans (names_count es q) h
  · simp
end Go.Proofs.YtkaoechldamggaaGreatDoor
namespace Go.Proofs.YtkaoechldamggaaGreatDoor
open Go Go.RowKit Go.Maps Go.WideMaps
set_option maxRecDepth 100000

theorem law9 : Keyed Tryz.prog 9 := string_keyed Tryz.underlying9
theorem zero3 (w : World) : (zeroValue 3).run Tryz.prog w = .ok (.int .i64 0) w := by kernel_rfl
theorem own_map_below {H : Type} {w w' : World} {k : TypeId} {R : Value → Option (DataW H × List MemPlace)} {b n : Nat} {D : DataW H} (h : w.ownsMap Tryz.prog k R b n D) (hb : Below w.heap.size w w') : w'.ownsMap Tryz.prog k R b n D :=
  h.kept (row := none) ⟨hb.os, hb.tape, hb.output, hb.size, fun i hi _ => hb.block i hi⟩ (by simp)

theorem wf_small (n : Int) (h0 : 0 ≤ n) (h1 : n < 4611686018427387904) : (Lit.int .i64 n).wf = true := WalkArith.wf_i64 ⟨by omega, by omega⟩
theorem key_of (p : Bs) (h : p.length ≤ 1024) : keyOf Tryz.prog 9 (.string ⟨p.toArray⟩) = some (.string p) :=
  keyOf_string_mk Tryz.underlying9 (s := ⟨p.toArray⟩) (by show p.toArray.size ≤ _; simp only [List.size_toArray, maxLen]; omega)

/-- A store in memory; the variables. -/
structure St5 (w : World) (bx : Nat) (A : Option Addr) (c : Nat) (es : List Ent) (caps : Nat) (b : Addr) (W : World) : Prop where
  bw : Below w.heap.size w W
  x : Blk W bx 32 #[.slice A es.length c, .int .u32 (caps : Int), .bool false]
  r : Rd W W.heap.size A (entCells es)
  e : Env W
  k : W.cell? ⟨0, 0, none⟩ = some (.iface 263 (.pointer (some b)))
section
variable {w W W' : World} {bx : Nat} {A : Option Addr} {c : Nat} {es : List Ent} {caps : Nat} {b : Addr}
theorem St5.step (h : St5 w bx A c es caps b W) (hb : Below W.heap.size W W') : St5 w bx A c es caps b W' :=
  ⟨h.bw.trans (hb.mono h.bw.size), h.x.below hb h.x.lt, (h.r.below hb (Nat.le_refl _)).more hb.size, h.e.below hb, (hb.cell (p := ⟨0, 0, none⟩) (World.block_lt_of_cell? W _ h.k)).trans h.k⟩
theorem St5.alloc (h : St5 w bx A c es caps b W) (o : Obj) : St5 w bx A c es caps b (W.alloc o) := h.step ((Below.refl _ _).alloc (Nat.le_refl _) o)
end

set_option maxHeartbeats 4000000 in
theorem lAll (A : Option Addr) (c : Nat) (es : List Ent) (caps : Nat) (blind : Bool) (b : Addr) (w : World) (hr : Rd w w.heap.size A (entCells es)) (he : Env w) (hs : w.cell? ⟨0, 0, none⟩ = some (.iface 263 (.pointer (some b)))) (hcaps : caps < 4294967296) (hes : ∀ e ∈ es, e.path.length ≤ 140737488351232 ∧ e.data.length ≤ 140737488351232) :
    Calls Tryz.prog 10 #[.agg #[.slice A es.length c, .int .u32 (caps : Int), .bool blind]] w fun e w' => e = .returned (.bool true) ∧ Below w.heap.size w w' := by
  obtain ⟨w0, hw0⟩ : ∃ w0, (w.alloc (.cells #[.slice A es.length c, .int .u32 (caps : Int), .bool blind] 32)).setCell ⟨w.heap.size, 2, none⟩ (.bool false) = w0 := ⟨_, rfl⟩
  have b0 : Below w.heap.size w w0 := by rw [← hw0]; exact ((Below.refl _ _).alloc (Nat.le_refl _) _).setCell (by simp) _
  have x0 : Blk w0 w.heap.size 32 #[.slice A es.length c, .int .u32 (caps : Int), .bool false] := by rw [← hw0]; exact (Blk.newAt 32 _ rfl rfl).set_ 2 (.bool false)
  have s0 : St5 w w.heap.size A c es caps b w0 := ⟨b0, x0, (hr.below b0 (Nat.le_refl _)).more b0.size, he.below b0, (b0.cell (p := ⟨0, 0, none⟩) (World.block_lt_of_cell? w _ hs)).trans hs⟩
  have xc0 := s0.x.cell
  have cf := fun W (hr : Rd W W.heap.size A (entCells es)) (hW : Env W) => rfit A c es caps false W hr hW hcaps hes
  have ca := fun W (hW : Env W) => paw W hW
  by_cases hF : FitP es caps
  · have cf : ∀ W (hr : Rd W W.heap.size A (entCells es)) (hW : Env W), Calls Tryz.prog 14 #[.agg #[.slice A es.length c, .int .u32 (caps : Int), .bool false]] W fun e w' => e = .returned (.bool true) ∧ Below W.heap.size W w' := fun W hr hW =>
      (cf W hr hW).mono fun e w' ⟨b, h1, h2, h3⟩ => ⟨by rw [h1, h2.2 hF], h3⟩
    have hf := hF.fine
    have hmany := hf.many
    obtain ⟨hout, hT⟩ := walk_told hF caps 1026 [46] true (.inl ⟨rfl, Nat.le_refl _⟩) (root_here es)
    have hnd := walk_nodup (skip := []) (fit_LG hF caps false) (rdDir_ok es caps false) 1026 [46] true
    have hll := walk_len (skip := []) hf.many (fun e he => (hf.each e he).1) (fit_LG hF caps false) (rdDir_ok es caps false) 1026 [46] true
    have c7 : ∀ (W : World) (_ : Rd W W.heap.size A (entCells es)) (_ : Env W) (_ : W.cell? ⟨0, 0, none⟩ = some (.iface 263 (.pointer (some b)))), Calls Tryz.prog 33 #[.agg #[.slice A es.length c, .int .u32 (caps : Int), .bool false], .string ⟨#[46]⟩, .slice none 0 0] W fun e w' => ∃ u v, e = .returned (.tuple #[u, v, .int .i64 0]) ∧ w'.ownsRow W.heap.size 9 1 u (walkF es caps false [] 1026 [46] true).paths.length (strCells (walkF es caps false [] 1026 [46] true).paths) ∧ Below W.heap.size W w' := by
      intro W hr he hk
      have h0 : stErr es [46] = 0 := (here_stat (root_here es)).1
      have h := pWalk A none c 0 caps es caps false [] [46] b W hr (Rd.nil _ _ _) hF he hk hcaps (by decide) (by simp)
      unfold wRes at h
      rw [if_pos h0, show dirK (look es [46]) = true from rfl, hout] at h
      exact h.mono fun e w' ⟨u, v, h1, h2, _, h3⟩ => ⟨u, v, h1, h2, h3⟩
    have c1 : ∀ q d, Here es q d → q.length ≤ 1024 → ∀ (W : World) (_ : Rd W W.heap.size A (entCells es)) (_ : Env W), Calls Tryz.prog 20 #[.agg #[.slice A es.length c, .int .u32 (caps : Int), .bool false], .string ⟨q.toArray⟩] W fun e w' => ∃ (s : Bs) (m : Nat) (v : Value), e = .returned (.tuple #[.agg #[.string ⟨s.toArray⟩, .bool d, .int .i64 (m : Int)], v, .int .i64 0]) ∧ Below W.heap.size W w' := by
      intro q d hq hql W hr he
      obtain ⟨h0, s, m, h1⟩ := here_stat hq
      have h := pStat A c es caps false q W hr hf he hcaps (by omega)
      rw [h0, if_pos rfl, h1] at h
      exact h.mono fun e w' ⟨v, h2, _, h3⟩ => ⟨s, m, v, h2, h3⟩
    have c5 : ∀ q, Here es q true → q.length ≤ 1024 → ∀ (W : World) (_ : Rd W W.heap.size A (entCells es)) (_ : Env W), Calls Tryz.prog 24 #[.agg #[.slice A es.length c, .int .u32 (caps : Int), .bool false], .string ⟨q.toArray⟩] W fun e w' => ∃ u v, e = .returned (.tuple #[u, v, .int .i64 0]) ∧ Infs w' W.heap.size u (kids es q) ∧ Below W.heap.size W w' := by
      intro q hq hql W hr he
      obtain ⟨h0, h1⟩ := rd_here q caps hq
      have h := pReadDir A c es caps false q W hr hf he hcaps (by omega)
      rw [h0, h1] at h
      exact h.mono fun e w' ⟨u, v, h2, h3, _, h4⟩ => ⟨u, v, h2, h3, h4⟩
    generalize (walkF es caps false [] 1026 [46] true).paths = l at *
    obtain ⟨l1, hl1⟩ := hT.head
    have hlp : 0 < l.length := by rw [hl1]; simp
    have hl0 : l[0] = [46] := by subst hl1; rfl
    have hd1 : (((l.length : Int)) == 0) = false := by rw [beq_eq_false_iff_ne]; omega
    have hql : ∀ q ∈ l, q.length ≤ 1024 := fun q hq => by
      obtain ⟨d, hd⟩ := hT.here q hq
      exact valid_len hd.1
    have HT := Lib.hid hT
    have HL := Lib.hid hl0
    have HN := Lib.hid hnd
    have HFit := Lib.hid hF
    have hmm := @run_makeMap Tryz.prog
    clear hT hout hl1 hl0 hnd hF
    go_enter Tryz.func10, Tryz.ntmps10
    go_upto_region 4 with (go_at_call 14; refine (cf _ s0.r s0.e).mono ?_; rintro e w1 ⟨rfl, hb1⟩; have s1 := s0.step hb1; have xc1 := s1.x.cell)
    go_upto_region 7 with (go_at_call 33; refine (c7 _ s1.r s1.e s1.k).mono ?_; rintro e w2 ⟨u2, v2, rfl, ho2, hb2⟩; have s2 := s1.step hb2; obtain ⟨A2, k2, rfl, -, -, -⟩ := own_rd ho2; obtain ⟨ad2, rfl, -, q2⟩ := own_str ho2 0 hlp; rw [HL.out] at q2; have q3 : w2.cell? ad2 = some (.string ⟨#[46]⟩) := by rw [add_nought] at q2; exact q2)
    have s3 := s2.alloc (.map #[] 0)
    clear s0 s1 xc0 xc1 cf c7 b0 x0 hw0 hb1 hb2 q2 q3
    go_wp2_with fail
    go_loopw [49] (fun i wr => ∃ k : Nat, k ≤ l.length ∧ i = .int .i64 k ∧ wr.ownsMap Tryz.prog 9 (plainElem Tryz.prog 3) w2.heap.size k (atM (H := Unit) l k) ∧ Below w2.heap.size w2 wr) (fun i _ => l.length - (intOf i).toNat)
    case atStart => exact ⟨0, Nat.zero_le _, rfl, World.ownsMap_made _ _ _ _, (Below.refl _ _).alloc (Nat.le_refl _) _⟩
    case round =>
      obtain ⟨k, hk, rfl, hown, hnx⟩ := hrel
      have hor := own_below ho2 hnx
      by_cases hkl : k < l.length
      · obtain ⟨ad, e0, -, e1⟩ := own_str hor k hkl
        cases e0
        have hlen := hql _ (List.getElem_mem hkl)
        have hat0 := atM_not (H := Unit) l l[k] (.lit (.int .i64 0)) k (fun j hj e => by
          have := nodup_getD HN.out (i := j) (j := k) (by omega) hkl (by rw [e]; simp [List.getD, hkl])
          omega)
        have hst : atM (H := Unit) l (k + 1) = (atM l k).put (.string l[k]) (.lit (.int .i64 ((k : Int) + 1))) := by
          rw [atM]; simp [List.getD, hkl]
        obtain ⟨p, hp⟩ : ∃ p, l[k] = p := ⟨_, rfl⟩
        rw [hp] at e1 hlen hat0 hst
        have hkey := key_of p hlen
        have hwf := wf_small ((k : Int) + 1) (by omega) (by omega)
        have HA := Lib.hid hat0
        have HM := Lib.hid hst
        clear hp hat0 hst
        go_wp2_with (first
          | (at_lookup; go_loud (refine wpList_lookup_own_int _ rfl _ _ 72 rfl 9 3 .i64 law9 Tryz.underlying72 Tryz.underlying3 (zero3 _) w2.heap.size k _ rfl hown _ _ rfl hkey ?_; intro c0 hat hwc; rw [HA.out] at hat; obtain rfl : c0 = 0 := (by cases hat; rfl); clear hat hwc))
          | (at_mapUpdate; go_loud (refine wpList_mapUpdate_own _ rfl _ _ _ 72 rfl 9 3 law9 Tryz.underlying72 _ w2.heap.size k _ rfl hown (by unfold maxLen; omega) _ _ _ rfl rfl hkey _ [] (plainElem_int Tryz.underlying3 hwf) ?_; intro w5 hown5 hgrow5)))
        go_roundw
        case rel => exact ⟨k + 1, by omega, by go_num, by rw [HM.out]; exact hown5, hnx.grown hgrow5 hnx.size (fun j hj => by cases hj; exact Nat.le_refl _)⟩
        case measure => simp [intOf]; omega
      · have hke : k = l.length := by omega
        subst hke
        obtain ⟨w4, hw4⟩ : ∃ w4, w4 = wr := ⟨_, rfl⟩
        subst hw4
        have s4 := s2.step hnx
        have xc4 := s4.x.cell
        clear hkl hk
        go_wp2_with fail
        go_loopw [9, 65] (fun v i wr => ∃ k S : Nat, k ≤ l.length ∧ i = .int .i64 k ∧ v = .int .i64 S ∧ Hid (S = 1 + sumK es l k) ∧ Below w4.heap.size w4 wr) (fun _ i _ => l.length - (intOf i).toNat)
        case atStart => exact ⟨0, 1, Nat.zero_le _, rfl, rfl, Lib.hid (by simp [sumK]), Below.refl _ _⟩
        case round =>
          obtain ⟨k, S, hk, rfl, rfl, HS, hb5⟩ := hrel
          obtain ⟨wx, hwx⟩ : ∃ wx, wx = wr := ⟨_, rfl⟩
          subst hwx
          have s5 := s4.step hb5
          have xc5 := s5.x.cell
          have hS0 : S ≤ 262402 := by
            have h1 := HS.out
            have h2 := sumK_le es l k
            have h3 := HT.out.count
            omega
          clear xc4
          by_cases hkl : k < l.length
          · obtain ⟨ad, e0, -, e1⟩ := own_str (own_below hor hb5) k hkl
            cases e0
            have hmem := List.getElem_mem hkl
            obtain ⟨d, hd⟩ := HT.out.here _ hmem
            have hlen := hql _ hmem
            have hsk := sumK_succ es l k hkl
            have hafter := HT.out.after _ hmem
            have hkl2 := kids_len hmany l[k]
            obtain ⟨p, hp⟩ : ∃ p, l[k] = p := ⟨_, rfl⟩
            rw [hp] at e1 hd hlen hsk hafter hkl2
            have HP := Lib.hid hp
            clear hp hmem
            cases d with
            | false =>
              rw [here_file hd] at hsk
              have HK := Lib.hid hsk
              clear hsk hafter hkl2
              go_wp2_with (go_at_call 20; refine (c1 p false hd hlen _ s5.r s5.e).mono ?_; rintro e w6 ⟨s, m, v6, rfl, hb6⟩)
              go_roundw
              case rel => exact ⟨k + 1, S, by omega, by go_num, rfl, Lib.hid (by rw [HK.out, HS.out]; rfl), (hb5.trans (hb6.mono hb5.size)).alloc (by have := hb5.size; have := hb6.size; omega) _⟩
              case measure => simp [intOf]; omega
            | true =>
              have c1p := c1 p true hd hlen
              have c5p := c5 p hd hlen
              obtain ⟨L, hL⟩ : ∃ L, kids es p = L := ⟨_, rfl⟩
              rw [hL] at hsk hafter hkl2 c5p
              have HK := Lib.hid hsk
              have HF := Lib.hid hafter
              clear hsk hafter hL
              go_upto_region 23 with (go_at_call 20; refine (c1p _ s5.r s5.e).mono ?_; rintro e w6 ⟨s, m, v6, rfl, hb6⟩; have s6 := s5.step hb6)
              have s7 := s6.alloc (.cells #[.string ⟨s.toArray⟩, .bool true, .int .i64 (m : Int)] 45)
              have hb7 : Below w4.heap.size w4 (w6.alloc (.cells #[.string ⟨s.toArray⟩, .bool true, .int .i64 (m : Int)] 45)) := (hb5.trans (hb6.mono hb5.size)).alloc (by have := hb5.size; have := hb6.size; omega) _
              generalize w6.alloc (.cells #[.string ⟨s.toArray⟩, .bool true, .int .i64 (m : Int)] 45) = w7 at s7 hb7 ⊢
              generalize w6.heap.size = g6
              have xc7 := s7.x.cell
              clear s5 s6 xc5 hb6
              go_wp2_with (go_at_call 24; refine (c5p _ s7.r s7.e).mono ?_; rintro e w8 ⟨u8, v8, rfl, hi8, hb8⟩; obtain ⟨A8, k8, rfl, -, -, -⟩ := own_rd hi8)
              have hb9 : Below w4.heap.size w4 w8 := hb7.trans (hb8.mono hb7.size)
              have om8 := own_map_below hown hb9
              clear s7 xc7 hb8 hb7 c1p c5p
              go_loopw [9, 93] (fun v i wr => ∃ j S' : Nat, j ≤ L.length ∧ i = .int .i64 j ∧ v = .int .i64 S' ∧ Hid (S' = S + j) ∧ Below w8.heap.size w8 wr) (fun _ i _ => L.length - (intOf i).toNat)
              case atStart => exact ⟨0, S, Nat.zero_le _, rfl, rfl, Lib.hid rfl, Below.refl _ _⟩
              case round =>
                obtain ⟨j, S', hj, rfl, rfl, HS', hb10⟩ := hrel
                have om10 := own_map_below om8 hb10
                have hb11 := hb9.trans (hb10.mono hb9.size)
                have hS1 : S' ≤ 262402 + 256 := by have := HS'.out; omega
                by_cases hjl : j < L.length
                · obtain ⟨ad8, e0, -, f1, f2, f3⟩ := own_inf (own_below hi8 hb10) j hjl
                  cases e0
                  obtain ⟨x, hx⟩ : ∃ x, L[j] = x := ⟨_, rfl⟩
                  obtain ⟨i', hi', hki, hji⟩ := after_idx (HF.out _ (List.getElem_mem hjl)) HN.out k hkl HP.out
                  rw [hx] at f1 f2 f3 hji
                  have hjl2 : (join p x.name).length ≤ 1024 := by rw [← hji]; exact hql _ (List.getElem_mem hi')
                  have hnl : x.name.length ≤ 1024 := by
                    have h9 : x.name.length ≤ (join p x.name).length := by unfold join; split <;> simp <;> omega
                    omega
                  have hit := atM_hit (H := Unit) HN.out (.lit (.int .i64 0)) l.length (Nat.le_refl _) i' hi'
                  rw [show l.getD i' [] = join p x.name by rw [← hji]; simp [List.getD, hi']] at hit
                  have hle : decide (((i' : Int) + 1) ≤ ((k : Int) + 1)) = false := decide_eq_false (by omega)
                  have om11 := om10.alloc (.cells #[.string ⟨x.name.toArray⟩, .bool x.dir, .int .i64 (x.size : Int)] 45)
                  have hb12 := hb10.alloc hb10.size (.cells #[.string ⟨x.name.toArray⟩, .bool x.dir, .int .i64 (x.size : Int)] 45)
                  obtain ⟨q, hqe⟩ : ∃ q, join p x.name = q := ⟨_, rfl⟩
                  rw [hqe] at hit hjl2
                  have hkey := key_of q hjl2
                  have HI := Lib.hid hit
                  clear hit hji hx
                  by_cases hpd : (p == [46]) = true
                  · have hnq : x.name = q := by rw [← hqe]; exact join_dot hpd
                    rw [hnq] at f1 om11 hb12
                    clear hnq hqe hnl
                    go_wp2_with (at_lookup; go_loud (refine wpList_lookup_own_int _ rfl _ _ 72 rfl 9 3 .i64 law9 Tryz.underlying72 Tryz.underlying3 (zero3 _) w2.heap.size l.length _ rfl om11 _ _ rfl hkey ?_; intro c0 hat hwc; rw [HI.out] at hat; obtain rfl : (i' : Int) + 1 = c0 := (by cases hat; rfl); clear hat hwc))
                    go_roundw
                    case rel => exact ⟨j + 1, S' + 1, by omega, by go_num, by go_num, Lib.hid (by rw [HS'.out]; rfl), hb12⟩
                    case measure => simp [intOf]; omega
                  · have hpd : (p == [46]) = false := by simpa using hpd
                    have hnq : p ++ 47 :: x.name = q := by rw [← hqe]; exact join_sl hpd
                    have hkey2 : keyOf Tryz.prog 9 (.string (⟨p.toArray⟩ ++ ⟨#[47]⟩ ++ ⟨x.name.toArray⟩)) = some (.string q) := by
                      rw [← hkey, ← hnq]
                      simp [ByteArray.mk_append_mk]
                    have HQ := Lib.hid hkey2
                    clear hnq hqe hkey hkey2
                    go_wp2_with (at_lookup; go_loud (refine wpList_lookup_own_int _ rfl _ _ 72 rfl 9 3 .i64 law9 Tryz.underlying72 Tryz.underlying3 (zero3 _) w2.heap.size l.length _ rfl om11 _ _ rfl HQ.out ?_; intro c0 hat hwc; rw [HI.out] at hat; obtain rfl : (i' : Int) + 1 = c0 := (by cases hat; rfl); clear hat hwc))
                    go_roundw
                    case rel => exact ⟨j + 1, S' + 1, by omega, by go_num, by go_num, Lib.hid (by rw [HS'.out]; rfl), hb12⟩
                    case measure => simp [intOf]; omega
                · have hje : j = L.length := by omega
                  subst hje
                  go_wp2_with fail
                  go_roundw
                  case rel => exact ⟨k + 1, S', by omega, by go_num, rfl, Lib.hid (by rw [HK.out, HS'.out, HS.out]; omega), hb11⟩
                  case measure => simp [intOf]; omega
          · have hke : k = l.length := by omega
            have hSe : S = l.length := by
              have h1 := HS.out
              have h2 := sumK_all es l
              have h3 := HT.out.count
              rw [hke] at h1
              omega
            subst hke hSe
            have om5 := own_map_below hown hb5
            have hnn : (((l.length : Int)) == (l.length : Int)) = true := by simp
            clear hkl hk HS
            go_wp2_with fail
            go_loopw [119] (fun i wr => ∃ j : Nat, j ≤ es.length ∧ i = .int .i64 j ∧ Below wx.heap.size wx wr) (fun i _ => es.length - (intOf i).toNat)
            case atStart => exact ⟨0, Nat.zero_le _, rfl, Below.refl _ _⟩
            case round =>
              obtain ⟨j, hj, rfl, hb13⟩ := hrel
              have s8 := s5.step hb13
              have om8 := own_map_below om5 hb13
              by_cases hjl : j < es.length
              · obtain ⟨adf, rfl, -, f1, f2⟩ := s8.r.ent j hjl
                have hgood := (HFit.out.each j hjl).1
                simp only [goodEnt, Bool.and_eq_true, Bool.not_eq_true', beq_eq_false_iff_ne, ne_eq, decide_eq_true_eq] at hgood
                have hpm : es[j].path ∈ l := HT.out.all es[j] (List.getElem_mem hjl) (.inr ⟨rfl, by rw [isBelow_dot [46] _ (by simp)]; simpa using hgood.1.2⟩)
                have hpl := hql _ hpm
                obtain ⟨i', hi', hji⟩ := List.getElem_of_mem hpm
                have hit := atM_hit (H := Unit) HN.out (.lit (.int .i64 0)) l.length (Nat.le_refl _) i' hi'
                rw [show l.getD i' [] = es[j].path by rw [← hji]; simp [List.getD, hi']] at hit
                have hne : (((i' : Int) + 1) == 0) = false := by rw [beq_eq_false_iff_ne]; omega
                have om9 := om8.alloc (.cells #[.string ⟨es[j].path.toArray⟩, .string ⟨es[j].data.toArray⟩] 74)
                have hb16 := hb13.alloc hb13.size (.cells #[.string ⟨es[j].path.toArray⟩, .string ⟨es[j].data.toArray⟩] 74)
                obtain ⟨q, hqe⟩ : ∃ q, es[j].path = q := ⟨_, rfl⟩
                rw [hqe] at hit hpl f1 om9 hb16
                have hkey := key_of q hpl
                have HI := Lib.hid hit
                clear hit hji hpm hgood hqe
                go_wp2_with (at_lookup; go_loud (refine wpList_lookup_own_int _ rfl _ _ 72 rfl 9 3 .i64 law9 Tryz.underlying72 Tryz.underlying3 (zero3 _) w2.heap.size l.length _ rfl om9 _ _ rfl hkey ?_; intro c0 hat hwc; rw [HI.out] at hat; obtain rfl : (i' : Int) + 1 = c0 := (by cases hat; rfl); clear hat hwc))
                go_roundw
                case rel => exact ⟨j + 1, by omega, by go_num, hb16⟩
                case measure => simp [intOf]; omega
              · go_wp2_with (go_at_call 11; refine (ca _ s8.e).mono ?_; rintro e w9 ⟨rfl, hb15⟩)
                go_returns
                exact ⟨rfl, s8.bw.trans (hb15.mono s8.bw.size)⟩
  · have cf : ∀ W (hr : Rd W W.heap.size A (entCells es)) (hW : Env W), Calls Tryz.prog 14 #[.agg #[.slice A es.length c, .int .u32 (caps : Int), .bool false]] W fun e w' => e = .returned (.bool false) ∧ Below W.heap.size W w' := fun W hr hW =>
      (cf W hr hW).mono fun e w' ⟨b, h1, h2, h3⟩ => ⟨by cases b with | false => exact h1 | true => exact absurd (h2.1 rfl) hF, h3⟩
    clear hF
    go_enter Tryz.func10, Tryz.ntmps10
    go_wp2_with (first
      | (go_at_call 14; refine (cf _ s0.r s0.e).mono ?_; rintro e w1 ⟨rfl, hb1⟩; have s1 := s0.step hb1)
      | (go_at_call 11; refine (ca _ s1.e).mono ?_; rintro e w2 ⟨rfl, hb2⟩; have s2 := s1.step hb2))
    go_returns
    exact ⟨rfl, s2.bw⟩
end Go.Proofs.YtkaoechldamggaaGreatDoor
