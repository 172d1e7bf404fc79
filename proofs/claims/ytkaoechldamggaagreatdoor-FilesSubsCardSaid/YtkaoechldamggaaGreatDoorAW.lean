/- The reference: info, insert, names. -/
import Derived.Test.YtkaoechldamggaaGreatDoorAQ
import Derived.Test.YtkaoechldamggaaGreatDoorB
import Derived.Laws.Cover1
namespace Go.Proofs.YtkaoechldamggaaGreatDoor
open Go Go.RowKit
set_option maxRecDepth 100000

def infR (es : List Ent) (p : Bs) : Inf := ⟨lastEl p, kindOf (look es p) == 2, (dataOf (look es p)).length⟩

theorem elems_last (p : Bs) : ∃ h : (elems p).length - 1 < (elems p).length, (elems p)[(elems p).length - 1] = lastEl p := by
  have h0 := elems_ne p
  have h1 : 0 < (elems p).length := List.length_pos_iff.2 h0
  refine ⟨by omega, ?_⟩
  unfold lastEl
  rw [List.getLast?_eq_getElem?, List.getElem?_eq_getElem (by omega)]
  rfl

set_option maxHeartbeats 1000000 in
theorem rinfo (A : Option Addr) (c : Nat) (es : List Ent) (caps : Nat) (blind : Bool) (p : Bs) (w : World) (hr : Rd w w.heap.size A (entCells es)) (hf : Fine es) (hps : p.length ≤ 1099511627776) :
    Calls Tryz.prog 47 #[.agg #[.slice A es.length c, .int .u32 (caps : Int), .bool blind], .string ⟨p.toArray⟩] w fun e w' =>
      e = .returned (.agg #[.string ⟨(infR es p).name.toArray⟩, .bool (infR es p).dir, .int .i64 ((infR es p).size : Int)]) ∧ Below w.heap.size w w' := by
  obtain ⟨h1, h2⟩ := elems_last p
  have h3 := elems_length p
  unfold infR
  dsimp only
  have ce := fun W => relements p W hps
  generalize elems p = l at h1 h2 h3 ce
  have H2 := Lib.hid h2
  obtain ⟨k, hk⟩ : ∃ k, look es p = k := ⟨_, rfl⟩
  have cl := fun W (hr : Rd W W.heap.size A (entCells es)) => rlook A c es (caps : Int) blind p W hr hf.many (by omega) (fun e he => by have := (hf.each e he).1; omega)
  rw [hk] at cl ⊢
  clear h2 hk
  obtain ⟨w0, hw0⟩ : ∃ w0, (w.alloc (.cells #[.slice A es.length c, .int .u32 (caps : Int), .bool blind] 32)).alloc (.cells #[.string ⟨#[]⟩, .bool false, .int .i64 0] 45) = w0 := ⟨_, rfl⟩
  have hb0 : Below w.heap.size w w0 := by rw [← hw0]; go_grown
  have hx0 : Blk w0 w.heap.size 32 #[.slice A es.length c, .int .u32 (caps : Int), .bool blind] := by rw [← hw0]; exact (Blk.newAt _ _ rfl rfl).alloc _
  have hy0 : Blk w0 (w.heap.size + 1) 45 #[.string ⟨#[]⟩, .bool false, .int .i64 0] := by rw [← hw0]; exact Blk.newAt _ _ rfl (by simp)
  have hxl := hx0.lt
  have hyl := hy0.lt
  go_enter Tryz.func47, Tryz.ntmps47
  go_upto_region 1 with fail
  clear hw0
  obtain ⟨m, hm⟩ : ∃ m, l.length = m + 1 := ⟨l.length - 1, by omega⟩
  go_wp2_with (first
    | (go_at_call 54; refine (ce _).mono ?_; rintro e w1 ⟨v1, rfl, ho1, hb1⟩; obtain ⟨A1, d1, rfl, -, -, hrd1⟩ := own_rd ho1; have hx1 := (hx0.below hb1 hxl).cell; have hb2 := hb0.trans (hb1.mono hb0.size); have hr1 := hr.below hb2 (Nat.le_refl _); have hr2 := hr1.more hb2.size)
    | (go_at_call 46; refine (cl _ hr2).mono ?_; rintro e w3 ⟨rfl, hb3⟩; obtain ⟨ad1, rfl, -, f1⟩ := (hrd1.below hb3 (Nat.le_refl _)).str m (by omega); have hf1 : l[m]'(by omega) = lastEl p := by { have := H2.out; simpa [hm] using this }; rw [hf1] at f1; have hy3 := (hy0.below hb1 hyl).below hb3 (hy0.below hb1 hyl).lt; have hb4 := hb2.trans (hb3.mono hb2.size))
    | (refine storeB sty45 rfl (.tmp 4) (.tmp 26) rfl _ _ _ _ rfl hy3 rfl rfl rfl rfl ?_; intro w4 hz4 hw4; simp only [Act.put]))
  refine bodyPost_ret (resultsB0 sty45 rfl _ _ _ _ _ rfl hz4 rfl) rfl ?_
  exact ⟨rfl, hw4.below hb4 (by omega)⟩

theorem insG_same {l : List Bs} {s : Bs} {k : Nat} {put : Bool} (hk : k < l.length) (h : (put || l[k] == s) = true) : insG (l.drop k) s put = l[k] :: insG (l.drop (k + 1)) s true := by
  rw [List.drop_eq_getElem_cons hk]
  simp [insG, h]
theorem insG_put {l : List Bs} {s : Bs} {k : Nat} (hk : k < l.length) (h : (l[k] == s) = false) (h2 : decide (s < l[k]) = true) : insG (l.drop k) s false = s :: l[k] :: insG (l.drop (k + 1)) s true := by
  rw [List.drop_eq_getElem_cons hk]
  simp only [insG, h, h2, Bool.false_or, Bool.not_false, Bool.and_self, if_true]
theorem insG_on {l : List Bs} {s : Bs} {k : Nat} (hk : k < l.length) (h : (l[k] == s) = false) (h2 : decide (s < l[k]) = false) : insG (l.drop k) s false = l[k] :: insG (l.drop (k + 1)) s false := by
  rw [List.drop_eq_getElem_cons hk]
  simp only [insG, h, h2, Bool.false_or, Bool.and_false, Bool.false_eq_true, if_false]
theorem str_less (x s : Bs) (h : (x == s) = false) : Op.bytesLess x s = !decide (s < x) := by
  have hne : x ≠ s := by simpa using h
  rw [Go.Proofs.bytesLess_eq]
  by_cases e : s < x
  · have h1 : ¬ x < s := fun h2 => bs_irr (List.lt_trans e h2)
    simp [e, h1]
  · have h1 : x < s := bs_lt_of (List.not_lt.1 e) hne
    simp [e, h1]

set_option maxHeartbeats 1000000 in
theorem rinsert (A : Option Addr) (c : Nat) (l : List Bs) (s : Bs) (w : World) (hr : Rd w w.heap.size A (strCells l)) (hn : l.length ≤ 1048576) :
    Calls Tryz.prog 78 #[.slice A l.length c, .string ⟨s.toArray⟩] w fun e w' => ∃ v, e = .returned v ∧ w'.ownsRow w.heap.size 9 1 v (insG l s false).length (strCells (insG l s false)) ∧ Below w.heap.size w w' := by
  obtain ⟨R, hR⟩ : ∃ R, insG l s false = R := ⟨_, rfl⟩
  have HR : Hid (insG (l.drop 0) s false = R) := Lib.hid (by simpa using hR)
  rw [hR]
  clear hR
  go_enter Tryz.func78, Tryz.ntmps78
  go_wp2_with fail
  go_loopw [5, 6, 11] (fun v b i wr => ∃ (k : Nat) (put : Bool) (ys : List Bs), k ≤ l.length ∧ i = .int .i64 k ∧ b = .bool put ∧ ys.length ≤ 2 * k ∧ Hid (ys ++ insG (l.drop k) s put = R) ∧ wr.ownsRow w.heap.size 9 1 v ys.length (strCells ys) ∧ Below w.heap.size w wr) (fun _ _ i _ => l.length - (intOf i).toNat)
  case atStart => exact ⟨0, false, [], Nat.zero_le _, rfl, rfl, by simp, HR, World.ownsRow_nil _ _ _ _, by go_grown⟩
  case round =>
    clear HR
    obtain ⟨k, put, ys, hk, rfl, rfl, hyl, HI, hown, hb⟩ := hrel
    have hs := hb.size
    by_cases hkl : k < l.length
    · obtain ⟨ad, rfl, had, e1⟩ := (hr.below hb (Nat.le_refl _)).str k hkl
      obtain ⟨x, hx⟩ : ∃ x, l[k] = x := ⟨_, rfl⟩
      rw [hx] at e1
      cases hxs : (x == s) with
      | true =>
        have H1 : Hid (insG (l.drop k) s put = x :: insG (l.drop (k + 1)) s true) := Lib.hid (by rw [← hx]; exact insG_same hkl (by rw [hx, hxs]; simp))
        clear hx
        go_wp2_with (at_builtin; go_must (refine push_str _ _ _ _ u5 rfl ys _ x rfl rfl rfl hown rfl (by omega) hs ?_); intro v' w2 hown2 hg2)
        go_roundw
        case rel => exact ⟨k + 1, true, ys ++ [x], by omega, by go_num, rfl, by simp; omega, Lib.hid (by rw [← HI.out, H1.out]; simp), hown2, hb.grown hg2 hs (fun q hq => (hown.lt q hq).1)⟩
        case measure => simp [intOf]; omega
      | false =>
        cases put with
        | true =>
          have H1 : Hid (insG (l.drop k) s true = x :: insG (l.drop (k + 1)) s true) := Lib.hid (by rw [← hx]; exact insG_same hkl (by simp))
          clear hx
          go_wp2_with (at_builtin; go_must (refine push_str _ _ _ _ u5 rfl ys _ x rfl rfl rfl hown rfl (by omega) hs ?_); intro v' w2 hown2 hg2)
          go_roundw
          case rel => exact ⟨k + 1, true, ys ++ [x], by omega, by go_num, rfl, by simp; omega, Lib.hid (by rw [← HI.out, H1.out]; simp), hown2, hb.grown hg2 hs (fun q hq => (hown.lt q hq).1)⟩
          case measure => simp [intOf]; omega
        | false =>
          have hlt2 := str_less x s hxs
          cases hsx : decide (s < x) with
          | true =>
            rw [hsx] at hlt2
            simp only [Bool.not_true] at hlt2
            have hlt3 : (!Op.bytesLess x s) = !(Op.bytesLess x s) := rfl
            rw [hlt2] at hlt3
            have H1 : Hid (insG (l.drop k) s false = s :: x :: insG (l.drop (k + 1)) s true) := Lib.hid (by rw [← hx]; exact insG_put hkl (by rw [hx, hxs]) (by rw [hx, hsx]))
            clear hx hsx
            go_wp2_with (at_builtin; first
              | (refine push_str _ _ _ _ u5 rfl ys _ s rfl rfl rfl hown rfl (by omega) hs ?_; intro v1 w2 hown2 hg2; have hb2 := hb.grown hg2 hs (fun q hq => (hown.lt q hq).1); have hs2 := hb2.size)
              | (refine push_str _ _ _ _ v1 rfl (ys ++ [s]) _ x rfl rfl rfl hown2 rfl (by simp; omega) hs2 ?_; intro v3 w3 hown3 hg3))
            go_roundw
            case rel => exact ⟨k + 1, true, ys ++ [s] ++ [x], by omega, by go_num, rfl, by simp; omega, Lib.hid (by rw [← HI.out, H1.out]; simp), hown3, hb2.grown hg3 hs2 (fun q hq => (hown2.lt q hq).1)⟩
            case measure => simp [intOf]; omega
          | false =>
            rw [hsx] at hlt2
            simp only [Bool.not_false] at hlt2
            have hlt3 : (!Op.bytesLess x s) = !(Op.bytesLess x s) := rfl
            rw [hlt2] at hlt3
            have H1 : Hid (insG (l.drop k) s false = x :: insG (l.drop (k + 1)) s false) := Lib.hid (by rw [← hx]; exact insG_on hkl (by rw [hx, hxs]) (by rw [hx, hsx]))
            clear hx hsx
            go_wp2_with (at_builtin; go_must (refine push_str _ _ _ _ u5 rfl ys _ x rfl rfl rfl hown rfl (by omega) hs ?_); intro v' w2 hown2 hg2)
            go_roundw
            case rel => exact ⟨k + 1, false, ys ++ [x], by omega, by go_num, rfl, by simp; omega, Lib.hid (by rw [← HI.out, H1.out]; simp), hown2, hb.grown hg2 hs (fun q hq => (hown.lt q hq).1)⟩
            case measure => simp [intOf]; omega
    · have hke : l.drop k = [] := List.drop_eq_nil_of_le (by omega)
      cases put with
      | true =>
        have H1 : ys = R := by rw [← HI.out, hke]; simp [insG]
        subst H1
        go_wp2_with fail
        go_returns
        exact ⟨_, rfl, hown, hb⟩
      | false =>
        have H1 : ys ++ [s] = R := by rw [← HI.out, hke]; simp [insG]
        subst H1
        go_wp2_with (at_builtin; go_must (refine push_str _ _ _ _ u5 rfl ys _ s rfl rfl rfl hown rfl (by omega) hs ?_); intro v' w2 hown2 hg2)
        go_returns
        exact ⟨_, rfl, hown2, hb.grown hg2 hs (fun q hq => (hown.lt q hq).1)⟩

theorem insG_len (l : List Bs) (s : Bs) : ∀ b, (insG l s b).length ≤ l.length + 1 := by
  induction l with
  | nil => intro b; cases b <;> simp [insG]
  | cons x r ih =>
    intro b
    simp only [insG]
    split
    · have := ih true
      rw [insG_true]; simp
    · have := ih (b || x == s)
      simp only [List.length_cons]; omega
def nmUp (es : List Ent) (d : Bs) (k : Nat) : List Bs := insAll (firsts (es.take k) d)
theorem nmUp_succ (es : List Ent) (d : Bs) (k : Nat) (hk : k < es.length) : nmUp es d (k + 1) = match below d es[k].path with | none => nmUp es d k | some r => insG (nmUp es d k) (headE r) false := by
  unfold nmUp insAll
  rw [firsts_take es d k hk, List.foldl_append]
  cases below d es[k].path <;> rfl
theorem nmUp_len (es : List Ent) (d : Bs) : ∀ k, k ≤ es.length → (nmUp es d k).length ≤ k := by
  intro k
  induction k with
  | zero => intro _; simp [nmUp, firsts, insAll]
  | succ k ih =>
    intro hk
    rw [nmUp_succ es d k (by omega)]
    have := ih (by omega)
    cases below d es[k].path with
    | none => dsimp only; omega
    | some r =>
      dsimp only
      have := insG_len (nmUp es d k) (headE r) false
      omega
theorem nmUp_all (es : List Ent) (d : Bs) (k : Nat) (hk : es.length ≤ k) : nmUp es d k = namesOf es d := by
  unfold nmUp
  rw [List.take_of_length_le hk, insAll_eq]
  rfl
theorem elems_head (r : Bs) : ∃ t, elems r = headE r :: t := by
  have := elems_ne r
  unfold headE
  cases h : elems r with
  | nil => exact absurd h this
  | cons x t => exact ⟨t, rfl⟩

set_option maxHeartbeats 2000000 in
theorem rnames (A : Option Addr) (c : Nat) (es : List Ent) (caps : Nat) (blind : Bool) (d : Bs) (w : World) (hr : Rd w w.heap.size A (entCells es)) (hf : Fine es) (hd : d.length ≤ 1099511627776) :
    Calls Tryz.prog 50 #[.agg #[.slice A es.length c, .int .u32 (caps : Int), .bool blind], .string ⟨d.toArray⟩] w fun e w' => ∃ v, e = .returned v ∧ w'.ownsRow w.heap.size 9 1 v (namesOf es d).length (strCells (namesOf es d)) ∧ Below w.heap.size w w' := by
  have hmany := hf.many
  obtain ⟨w0, hw0⟩ : ∃ w0, w.alloc (.cells #[.slice A es.length c, .int .u32 (caps : Int), .bool blind] 32) = w0 := ⟨_, rfl⟩
  have hb0 : Below w.heap.size w w0 := by rw [← hw0]; go_grown
  have hx0 : Blk w0 w.heap.size 32 #[.slice A es.length c, .int .u32 (caps : Int), .bool blind] := by rw [← hw0]; exact Blk.newAt _ _ rfl rfl
  have hxc := hx0.cell
  have hs0 := hb0.size
  go_enter Tryz.func50, Tryz.ntmps50
  go_wp2_with fail
  clear hw0 hxc hx0
  go_loopw [5, 12] (fun v i wr => ∃ k : Nat, k ≤ es.length ∧ i = .int .i64 k ∧ wr.ownsRow w.heap.size 9 1 v (nmUp es d k).length (strCells (nmUp es d k)) ∧ Below w.heap.size w wr) (fun _ i _ => es.length - (intOf i).toNat)
  case atStart => exact ⟨0, Nat.zero_le _, rfl, World.ownsRow_nil _ _ _ _, hb0⟩
  case round =>
    obtain ⟨k, hk, rfl, hown, hb⟩ := hrel
    have hbs := hb.size
    by_cases hkl : k < es.length
    · obtain ⟨ad, rfl, had, e1, e2⟩ := (hr.below hb (Nat.le_refl _)).ent k hkl
      have hel := hf.each _ (List.getElem_mem hkl)
      have hst := nmUp_succ es d k hkl
      have hnl := nmUp_len es d k hk
      obtain ⟨x, hx⟩ : ∃ x, es[k] = x := ⟨_, rfl⟩
      rw [hx] at e1 e2 hel hst
      have hb1 := hb.alloc hbs (.cells #[.string ⟨x.path.toArray⟩, .string ⟨x.data.toArray⟩] 74)
      have hown1 := hown.alloc (.cells #[.string ⟨x.path.toArray⟩, .string ⟨x.data.toArray⟩] 74)
      have cb := fun W => rbelow d x.path W (by omega) (by omega)
      unfold isBelow at cb
      obtain ⟨bo, hbo⟩ : ∃ bo, below d x.path = bo := ⟨_, rfl⟩
      rw [hbo] at cb hst
      clear hx
      cases bo with
      | none =>
        have HS := Lib.hid hst
        clear hst hbo
        go_wp2_with (go_at_call 39; refine (cb _).mono ?_; rintro e w1 ⟨rfl, rfl⟩)
        go_roundw
        case rel => exact ⟨k + 1, by omega, by go_num, by rw [HS.out]; exact hown1, hb1⟩
        case measure => simp [intOf]; omega
      | some r =>
        obtain ⟨A5, c5, rfl, -, -, hrd⟩ := own_rd hown1
        have HS := Lib.hid hst
        obtain ⟨t, hel2⟩ := elems_head r
        have hrl := below_len hbo
        have ce := fun W => relements r W (by omega)
        have ci := fun A W (h : Rd W W.heap.size A (strCells (nmUp es d k))) => rinsert A c5 (nmUp es d k) (headE r) W h (by omega)
        rw [hel2] at ce
        have hb1s := hb1.size
        cases hdt : (d == [46]) with
        | true =>
          have hrp : r = x.path := by
            have : d = [46] := by simpa using hdt
            unfold below at hbo
            rw [if_pos this] at hbo
            split at hbo
            · cases hbo
            · cases hbo; rfl
          subst hrp
          clear hst hbo hel2
          go_wp2_with (first
            | (go_at_call 39; refine (cb _).mono ?_; rintro e w1 ⟨rfl, rfl⟩)
            | (go_at_call 54; refine (ce _).mono ?_; rintro e w2 ⟨v2, rfl, ho2, hb2⟩; obtain ⟨A6, c6, rfl, -, -, hr6⟩ := own_rd ho2; obtain ⟨ad6, rfl, -, f1⟩ := hr6.str 0 (by simp); rw [add_nought] at f1; have hb3 := hb1.trans (hb2.mono hb1s); have hrd2 := (hrd.below hb2 (Nat.le_refl _)).more hb2.size)
            | (go_at_call 78; refine (ci _ _ hrd2).mono ?_; rintro e w3 ⟨v3, rfl, ho3, hb4⟩))
          go_roundw
          case rel => exact ⟨k + 1, by omega, by go_num, by rw [HS.out]; exact own_low ho3 hb3.size, hb3.trans (hb4.mono hb3.size)⟩
          case measure => simp [intOf]; omega
        | false =>
          have hcut : (ByteArray.mk x.path.toArray).extract (d.length + 1) x.path.length = ⟨r.toArray⟩ := by
            rw [cut_all]
            have : ¬ d = [46] := by simpa using hdt
            unfold below at hbo
            rw [if_neg this] at hbo
            split at hbo
            · cases hbo; rfl
            · cases hbo
          have hdl : d.length + 1 ≤ x.path.length := by
            have : ¬ d = [46] := by simpa using hdt
            unfold below at hbo
            rw [if_neg this] at hbo
            split at hbo
            · rename_i hp; have := hp.length_le; simpa using this
            · cases hbo
          clear hst hbo hel2
          go_wp2_with (first
            | (go_at_call 39; refine (cb _).mono ?_; rintro e w1 ⟨rfl, rfl⟩)
            | (go_at_call 54; refine (ce _).mono ?_; rintro e w2 ⟨v2, rfl, ho2, hb2⟩; obtain ⟨A6, c6, rfl, -, -, hr6⟩ := own_rd ho2; obtain ⟨ad6, rfl, -, f1⟩ := hr6.str 0 (by simp); rw [add_nought] at f1; have hb3 := hb1.trans (hb2.mono hb1s); have hrd2 := (hrd.below hb2 (Nat.le_refl _)).more hb2.size)
            | (go_at_call 78; refine (ci _ _ hrd2).mono ?_; rintro e w3 ⟨v3, rfl, ho3, hb4⟩))
          go_roundw
          case rel => exact ⟨k + 1, by omega, by go_num, by rw [HS.out]; exact own_low ho3 hb3.size, hb3.trans (hb4.mono hb3.size)⟩
          case measure => simp [intOf]; omega
    · have hke := nmUp_all es d k (by omega)
      rw [hke] at hown
      go_wp2_with fail
      go_returns
      exact ⟨_, rfl, hown, hb⟩
end Go.Proofs.YtkaoechldamggaaGreatDoor
