/- The reference: info, insert, names. The reference: Stat, ReadFile. The reference: ReadDir. -/
import Derived.Test.YtkaoechldamggaaGreatDoorAQ
import Derived.Test.YtkaoechldamggaaGreatDoorB
import Derived.Laws.Cover1
import Derived.Deep.AppendLies
import Derived.Deep.RegionLaw
import Derived.Outline
namespace Go.Proofs.YtkaoechldamggaaGreatDoor
open Go Go.RowKit
set_option maxRecDepth 100000

def infR (es : List Ent) (p : Bs) : Inf := ⟨lastEl p, kindOf (look es p) == 2, (dataOf (look es p)).length⟩

theorem elems_last (p : Bs) : ∃ h : (elems p).length - 1 < (elems p).length, (elems p)[(elems p).length - 1] = lastEl p := by
  have h0 := elems_ne p
  have h1 : 0 < (elems p).length := List.length_pos_iff.2 h0
  refine ⟨by omega, ?_⟩
  unfold lastEl
  rw [List.getLast?_eq_getElem?, List.getElem?_eq_getElem (by omega)]
  rfl

set_option maxHeartbeats 1000000 in
theorem rinfo (A : Option Addr) (c : Nat) (es : List Ent) (caps : Nat) (blind : Bool) (p : Bs) (w : World) (hr : Rd w w.heap.size A (entCells es)) (hf : Fine es) (hps : p.length ≤ 1099511627776) :
    Calls Tryz.prog 47 #[.agg #[.slice A es.length c, .int .u32 (caps : Int), .bool blind], .string ⟨p.toArray⟩] w fun e w' =>
      e = .returned (.agg #[.string ⟨(infR es p).name.toArray⟩, .bool (infR es p).dir, .int .i64 ((infR es p).size : Int)]) ∧ Below w.heap.size w w' := by
  obtain ⟨h1, h2⟩ := elems_last p
  have h3 := elems_length p
  unfold infR
  dsimp only
  have ce := fun W => relements p W hps
  generalize elems p = l at h1 h2 h3 ce
  have H2 := Lib.hid h2
  obtain ⟨k, hk⟩ : ∃ k, look es p = k := ⟨_, rfl⟩
  have cl := fun W (hr : Rd W W.heap.size A (entCells es)) => rlook A c es (caps : Int) blind p W hr hf.many (by omega) (fun e he => by have := (hf.each e he).1; omega)
  rw [hk] at cl ⊢
  clear h2 hk
  obtain ⟨w0, hw0⟩ : ∃ w0, (w.alloc (.cells #[.slice A es.length c, .int .u32 (caps : Int), .bool blind] 32)).alloc (.cells #[.string ⟨#[]⟩, .bool false, .int .i64 0] 45) = w0 := ⟨_, rfl⟩
  have hb0 : Below w.heap.size w w0 := by rw [← hw0]; go_grown
  have hx0 : Blk w0 w.heap.size 32 #[.slice A es.length c, .int .u32 (caps : Int), .bool blind] := by rw [← hw0]; exact (Blk.newAt _ _ rfl rfl).alloc _
  have hy0 : Blk w0 (w.heap.size + 1) 45 #[.string ⟨#[]⟩, .bool false, .int .i64 0] := by rw [← hw0]; exact Blk.newAt _ _ rfl (by simp)
  have hxl := hx0.lt
  have hyl := hy0.lt
  go_enter Tryz.func47, Tryz.ntmps47
  go_upto_region 1 with fail
  clear hw0
  obtain ⟨m, hm⟩ : ∃ m, l.length = m + 1 := ⟨l.length - 1, by omega⟩
  go_wp2_with (first
    | (go_at_call 54; refine (ce _).mono ?_; rintro e w1 ⟨v1, rfl, ho1, hb1⟩; obtain ⟨A1, d1, rfl, -, -, hrd1⟩ := own_rd ho1; have hx1 := (hx0.below hb1 hxl).cell; have hb2 := hb0.trans (hb1.mono hb0.size); have hr1 := hr.below hb2 (Nat.le_refl _); have hr2 := hr1.more hb2.size)
    | (go_at_call 46; refine (cl _ hr2).mono ?_; rintro e w3 ⟨rfl, hb3⟩; obtain ⟨ad1, rfl, -, f1⟩ := (hrd1.below hb3 (Nat.le_refl _)).str m (by omega); have hf1 : l[m]'(by omega) = lastEl p := by { have := H2.out; simpa [hm] using this }; rw [hf1] at f1; have hy3 := (hy0.below hb1 hyl).below hb3 (hy0.below hb1 hyl).lt; have hb4 := hb2.trans (hb3.mono hb2.size))
    | (refine storeB sty45 rfl (.tmp 4) (.tmp 26) rfl _ _ _ _ rfl hy3 rfl rfl rfl rfl ?_; intro w4 hz4 hw4; simp only [Act.put]))
  refine bodyPost_ret (resultsB0 sty45 rfl _ _ _ _ _ rfl hz4 rfl) rfl ?_
  exact ⟨rfl, hw4.below hb4 (by omega)⟩

theorem insG_same {l : List Bs} {s : Bs} {k : Nat} {put : Bool} (hk : k < l.length) (h : (put || l[k] == s) = true) : insG (l.drop k) s put = l[k] :: insG (l.drop (k + 1)) s true := by
  rw [List.drop_eq_getElem_cons hk]
  simp [insG, h]
theorem insG_put {l : List Bs} {s : Bs} {k : Nat} (hk : k < l.length) (h : (l[k] == s) = false) (h2 : decide (s < l[k]) = true) : insG (l.drop k) s false = s :: l[k] :: insG (l.drop (k + 1)) s true := by
  rw [List.drop_eq_getElem_cons hk]
  simp only [insG, h, h2, Bool.false_or, Bool.not_false, Bool.and_self, if_true]
theorem insG_on {l : List Bs} {s : Bs} {k : Nat} (hk : k < l.length) (h : (l[k] == s) = false) (h2 : decide (s < l[k]) = false) : insG (l.drop k) s false = l[k] :: insG (l.drop (k + 1)) s false := by
  rw [List.drop_eq_getElem_cons hk]
  simp only [insG, h, h2, Bool.false_or, Bool.and_false, Bool.false_eq_true, if_false]
theorem str_less (x s : Bs) (h : (x == s) = false) : Op.bytesLess x s = !decide (s < x) := by
  have hne : x ≠ s := by simpa using h
  rw [Go.Proofs.bytesLess_eq]
  by_cases e : s < x
  · have h1 : ¬ x < s := fun h2 => bs_irr (List.lt_trans e h2)
    simp [e, h1]
  · have h1 : x < s := bs_lt_of (List.not_lt.1 e) hne
    simp [e, h1]

set_option maxHeartbeats 1000000 in
theorem rinsert (A : Option Addr) (c : Nat) (l : List Bs) (s : Bs) (w : World) (hr : Rd w w.heap.size A (strCells l)) (hn : l.length ≤ 1048576) :
    Calls Tryz.prog 78 #[.slice A l.length c, .string ⟨s.toArray⟩] w fun e w' => ∃ v, e = .returned v ∧ w'.ownsRow w.heap.size 9 1 v (insG l s false).length (strCells (insG l s false)) ∧ Below w.heap.size w w' := by
  obtain ⟨R, hR⟩ : ∃ R, insG l s false = R := ⟨_, rfl⟩
  have HR : Hid (insG (l.drop 0) s false = R) := Lib.hid (by simpa using hR)
  rw [hR]
  clear hR
  go_enter Tryz.func78, Tryz.ntmps78
  go_wp2_with fail
  go_loopw [5, 6, 11] (fun v b i wr => ∃ (k : Nat) (put : Bool) (ys : List Bs), k ≤ l.length ∧ i = .int .i64 k ∧ b = .bool put ∧ ys.length ≤ 2 * k ∧ Hid (ys ++ insG (l.drop k) s put = R) ∧ wr.ownsRow w.heap.size 9 1 v ys.length (strCells ys) ∧ Below w.heap.size w wr) (fun _ _ i _ => l.length - (intOf i).toNat)
  case atStart => exact ⟨0, false, [], Nat.zero_le _, rfl, rfl, by simp, HR, World.ownsRow_nil _ _ _ _, by go_grown⟩
  case round =>
    clear HR
    obtain ⟨k, put, ys, hk, rfl, rfl, hyl, HI, hown, hb⟩ := hrel
    have hs := hb.size
    by_cases hkl : k < l.length
    · obtain ⟨ad, rfl, had, e1⟩ := (hr.below hb (Nat.le_refl _)).str k hkl
      obtain ⟨x, hx⟩ : ∃ x, l[k] = x := ⟨_, rfl⟩
      rw [hx] at e1
      cases hxs : (x == s) with
      | true =>
        have H1 : Hid (insG (l.drop k) s put = x :: insG (l.drop (k + 1)) s true) := Lib.hid (by rw [← hx]; exact insG_same hkl (by rw [hx, hxs]; simp))
        clear hx
        go_wp2_with (at_builtin; go_must (refine push_str _ _ _ _ u5 rfl ys _ x rfl rfl rfl hown rfl (by omega) hs ?_); intro v' w2 hown2 hg2)
        go_roundw
        case rel => exact ⟨k + 1, true, ys ++ [x], by omega, by go_num, rfl, by simp; omega, Lib.hid (by rw [← HI.out, H1.out]; simp), hown2, hb.grown hg2 hs (fun q hq => (hown.lt q hq).1)⟩
        case measure => simp [intOf]; omega
      | false =>
        cases put with
        | true =>
          have H1 : Hid (insG (l.drop k) s true = x :: insG (l.drop (k + 1)) s true) := Lib.hid (by rw [← hx]; exact insG_same hkl (by simp))
          clear hx
          go_wp2_with (at_builtin; go_must (refine push_str _ _ _ _ u5 rfl ys _ x rfl rfl rfl hown rfl (by omega) hs ?_); intro v' w2 hown2 hg2)
          go_roundw
          case rel => exact ⟨k + 1, true, ys ++ [x], by omega, by go_num, rfl, by simp; omega, Lib.hid (by rw [← HI.out, H1.out]; simp), hown2, hb.grown hg2 hs (fun q hq => (hown.lt q hq).1)⟩
          case measure => simp [intOf]; omega
        | false =>
          have hlt2 := str_less x s hxs
          cases hsx : decide (s < x) with
          | true =>
            rw [hsx] at hlt2
            simp only [Bool.not_true] at hlt2
            have hlt3 : (!Op.bytesLess x s) = !(Op.bytesLess x s) := rfl
            rw [hlt2] at hlt3
            have H1 : Hid (insG (l.drop k) s false = s :: x :: insG (l.drop (k + 1)) s true) := Lib.hid (by rw [← hx]; exact insG_put hkl (by rw [hx, hxs]) (by rw [hx, hsx]))
            clear hx hsx
            go_wp2_with (at_builtin; first
              | (refine push_str _ _ _ _ u5 rfl ys _ s rfl rfl rfl hown rfl (by omega) hs ?_; intro v1 w2 hown2 hg2; have hb2 := hb.grown hg2 hs (fun q hq => (hown.lt q hq).1); have hs2 := hb2.size)
              | (refine push_str _ _ _ _ v1 rfl (ys ++ [s]) _ x rfl rfl rfl hown2 rfl (by simp; omega) hs2 ?_; intro v3 w3 hown3 hg3))
            go_roundw
            case rel => exact ⟨k + 1, true, ys ++ [s] ++ [x], by omega, by go_num, rfl, by simp; omega, Lib.hid (by rw [← HI.out, H1.out]; simp), hown3, hb2.grown hg3 hs2 (fun q hq => (hown2.lt q hq).1)⟩
            case measure => simp [intOf]; omega
          | false =>
            rw [hsx] at hlt2
            simp only [Bool.not_false] at hlt2
            have hlt3 : (!Op.bytesLess x s) = !(Op.bytesLess x s) := rfl
            rw [hlt2] at hlt3
            have H1 : Hid (insG (l.drop k) s false = x :: insG (l.drop (k + 1)) s false) := Lib.hid (by rw [← hx]; exact insG_on hkl (by rw [hx, hxs]) (by rw [hx, hsx]))
            clear hx hsx
            go_wp2_with (at_builtin; go_must (refine push_str _ _ _ _ u5 rfl ys _ x rfl rfl rfl hown rfl (by omega) hs ?_); intro v' w2 hown2 hg2)
            go_roundw
            case rel => exact ⟨k + 1, false, ys ++ [x], by omega, by go_num, rfl, by simp; omega, Lib.hid (by rw [← HI.out, H1.out]; simp), hown2, hb.grown hg2 hs (fun q hq => (hown.lt q hq).1)⟩
            case measure => simp [intOf]; omega
    · have hke : l.drop k = [] := List.drop_eq_nil_of_le (by omega)
      cases put with
      | true =>
        have H1 : ys = R := by rw [← HI.out, hke]; simp [insG]
        subst H1
        go_wp2_with fail
        go_returns
        exact ⟨_, rfl, hown, hb⟩
      | false =>
        have H1 : ys ++ [s] = R := by rw [← HI.out, hke]; simp [insG]
        subst H1
        go_wp2_with (at_builtin; go_must (refine push_str _ _ _ _ u5 rfl ys _ s rfl rfl rfl hown rfl (by omega) hs ?_); intro v' w2 hown2 hg2)
        go_returns
        exact ⟨_, rfl, hown2, hb.grown hg2 hs (fun q hq => (hown.lt q hq).1)⟩

theorem insG_len (l : List Bs) (s : Bs) : ∀ b, (insG l s b).length ≤ l.length + 1 := by
  induction l with
  | nil => intro b; cases b <;> simp [insG]
  | cons x r ih =>
    intro b
    simp only [insG]
    split
    · have := ih true
      rw [insG_true]; simp
    · have := ih (b || x == s)
      simp only [List.length_cons]; omega
def nmUp (es : List Ent) (d : Bs) (k : Nat) : List Bs := insAll (firsts (es.take k) d)
theorem nmUp_succ (es : List Ent) (d : Bs) (k : Nat) (hk : k < es.length) : nmUp es d (k + 1) = match below d es[k].path with | none => nmUp es d k | some r => insG (nmUp es d k) (headE r) false := by
  unfold nmUp insAll
  rw [firsts_take es d k hk, List.foldl_append]
  cases below d es[k].path <;> rfl
theorem nmUp_len (es : List Ent) (d : Bs) : ∀ k, k ≤ es.length → (nmUp es d k).length ≤ k := by
  intro k
  induction k with
  | zero => intro _; simp [nmUp, firsts, insAll]
  | succ k ih =>
    intro hk
    rw [nmUp_succ es d k (by omega)]
    have := ih (by omega)
    cases below d es[k].path with
    | none => dsimp only; omega
    | some r =>
      dsimp only
      have := insG_len (nmUp es d k) (headE r) false
      omega
theorem nmUp_all (es : List Ent) (d : Bs) (k : Nat) (hk : es.length ≤ k) : nmUp es d k = namesOf es d := by
  unfold nmUp
  rw [List.take_of_length_le hk, insAll_eq]
  rfl
theorem elems_head (r : Bs) : ∃ t, elems r = headE r :: t := by
  have := elems_ne r
  unfold headE
  cases h : elems r with
  | nil => exact absurd h this
  | cons x t => exact ⟨t, rfl⟩

set_option maxHeartbeats 2000000 in
theorem rnames (A : Option Addr) (c : Nat) (es : List Ent) (caps : Nat) (blind : Bool) (d : Bs) (w : World) (hr : Rd w w.heap.size A (entCells es)) (hf : Fine es) (hd : d.length ≤ 1099511627776) :
    Calls Tryz.prog 50 #[.agg #[.slice A es.length c, .int .u32 (caps : Int), .bool blind], .string ⟨d.toArray⟩] w fun e w' => ∃ v, e = .returned v ∧ w'.ownsRow w.heap.size 9 1 v (namesOf es d).length (strCells (namesOf es d)) ∧ Below w.heap.size w w' := by
  have hmany := hf.many
  obtain ⟨w0, hw0⟩ : ∃ w0, w.alloc (.cells #[.slice A es.length c, .int .u32 (caps : Int), .bool blind] 32) = w0 := ⟨_, rfl⟩
  have hb0 : Below w.heap.size w w0 := by rw [← hw0]; go_grown
  have hx0 : Blk w0 w.heap.size 32 #[.slice A es.length c, .int .u32 (caps : Int), .bool blind] := by rw [← hw0]; exact Blk.newAt _ _ rfl rfl
  have hxc := hx0.cell
  have hs0 := hb0.size
  go_enter Tryz.func50, Tryz.ntmps50
  go_wp2_with fail
  clear hw0 hxc hx0
  go_loopw [5, 12] (fun v i wr => ∃ k : Nat, k ≤ es.length ∧ i = .int .i64 k ∧ wr.ownsRow w.heap.size 9 1 v (nmUp es d k).length (strCells (nmUp es d k)) ∧ Below w.heap.size w wr) (fun _ i _ => es.length - (intOf i).toNat)
  case atStart => exact ⟨0, Nat.zero_le _, rfl, World.ownsRow_nil _ _ _ _, hb0⟩
  case round =>
    obtain ⟨k, hk, rfl, hown, hb⟩ := hrel
    have hbs := hb.size
    by_cases hkl : k < es.length
    · obtain ⟨ad, rfl, had, e1, e2⟩ := (hr.below hb (Nat.le_refl _)).ent k hkl
      have hel := hf.each _ (List.getElem_mem hkl)
      have hst := nmUp_succ es d k hkl
      have hnl := nmUp_len es d k hk
      obtain ⟨x, hx⟩ : ∃ x, es[k] = x := ⟨_, rfl⟩
      rw [hx] at e1 e2 hel hst
      have hb1 := hb.alloc hbs (.cells #[.string ⟨x.path.toArray⟩, .string ⟨x.data.toArray⟩] 74)
      have hown1 := hown.alloc (.cells #[.string ⟨x.path.toArray⟩, .string ⟨x.data.toArray⟩] 74)
      have cb := fun W => rbelow d x.path W (by omega) (by omega)
      unfold isBelow at cb
      obtain ⟨bo, hbo⟩ : ∃ bo, below d x.path = bo := ⟨_, rfl⟩
      rw [hbo] at cb hst
      clear hx
      cases bo with
      | none =>
        have HS := Lib.hid hst
        clear hst hbo
        go_wp2_with (go_at_call 39; refine (cb _).mono ?_; rintro e w1 ⟨rfl, rfl⟩)
        go_roundw
        case rel => exact ⟨k + 1, by omega, by go_num, by rw [HS.out]; exact hown1, hb1⟩
        case measure => simp [intOf]; omega
      | some r =>
        obtain ⟨A5, c5, rfl, -, -, hrd⟩ := own_rd hown1
        have HS := Lib.hid hst
        obtain ⟨t, hel2⟩ := elems_head r
        have hrl := below_len hbo
        have ce := fun W => relements r W (by omega)
        have ci := fun A W (h : Rd W W.heap.size A (strCells (nmUp es d k))) => rinsert A c5 (nmUp es d k) (headE r) W h (by omega)
        rw [hel2] at ce
        have hb1s := hb1.size
        cases hdt : (d == [46]) with
        | true =>
          have hrp : r = x.path := by
            have : d = [46] := by simpa using hdt
            unfold below at hbo
            rw [if_pos this] at hbo
            split at hbo
            · cases hbo
            · cases hbo; rfl
          subst hrp
          clear hst hbo hel2
          go_wp2_with (first
            | (go_at_call 39; refine (cb _).mono ?_; rintro e w1 ⟨rfl, rfl⟩)
            | (go_at_call 54; refine (ce _).mono ?_; rintro e w2 ⟨v2, rfl, ho2, hb2⟩; obtain ⟨A6, c6, rfl, -, -, hr6⟩ := own_rd ho2; obtain ⟨ad6, rfl, -, f1⟩ := hr6.str 0 (by simp); rw [add_nought] at f1; have hb3 := hb1.trans (hb2.mono hb1s); have hrd2 := (hrd.below hb2 (Nat.le_refl _)).more hb2.size)
            | (go_at_call 78; refine (ci _ _ hrd2).mono ?_; rintro e w3 ⟨v3, rfl, ho3, hb4⟩))
          go_roundw
          case rel => exact ⟨k + 1, by omega, by go_num, by rw [HS.out]; exact own_low ho3 hb3.size, hb3.trans (hb4.mono hb3.size)⟩
          case measure => simp [intOf]; omega
        | false =>
          have hcut : (ByteArray.mk x.path.toArray).extract (d.length + 1) x.path.length = ⟨r.toArray⟩ := by
            rw [cut_all]
            have : ¬ d = [46] := by simpa using hdt
            unfold below at hbo
            rw [if_neg this] at hbo
            split at hbo
            · cases hbo; rfl
            · cases hbo
          have hdl : d.length + 1 ≤ x.path.length := by
            have : ¬ d = [46] := by simpa using hdt
            unfold below at hbo
            rw [if_neg this] at hbo
            split at hbo
            · rename_i hp; have := hp.length_le; simpa using this
            · cases hbo
          clear hst hbo hel2
          go_wp2_with (first
            | (go_at_call 39; refine (cb _).mono ?_; rintro e w1 ⟨rfl, rfl⟩)
            | (go_at_call 54; refine (ce _).mono ?_; rintro e w2 ⟨v2, rfl, ho2, hb2⟩; obtain ⟨A6, c6, rfl, -, -, hr6⟩ := own_rd ho2; obtain ⟨ad6, rfl, -, f1⟩ := hr6.str 0 (by simp); rw [add_nought] at f1; have hb3 := hb1.trans (hb2.mono hb1s); have hrd2 := (hrd.below hb2 (Nat.le_refl _)).more hb2.size)
            | (go_at_call 78; refine (ci _ _ hrd2).mono ?_; rintro e w3 ⟨v3, rfl, ho3, hb4⟩))
          go_roundw
          case rel => exact ⟨k + 1, by omega, by go_num, by rw [HS.out]; exact own_low ho3 hb3.size, hb3.trans (hb4.mono hb3.size)⟩
          case measure => simp [intOf]; omega
    · have hke := nmUp_all es d k (by omega)
      rw [hke] at hown
      go_wp2_with fail
      go_returns
      exact ⟨_, rfl, hown, hb⟩
end Go.Proofs.YtkaoechldamggaaGreatDoor
namespace Go.Proofs.YtkaoechldamggaaGreatDoor
open Go Go.RowKit
set_option maxRecDepth 100000

theorem infR_val (es : List Ent) (p : Bs) (k : Option (Option Bs)) (h : look es p = k) (hk : k ≠ none) : (#[.string ⟨(infR es p).name.toArray⟩, .bool (infR es p).dir, .int .i64 ((infR es p).size : Int)] : Array Value) = infVal p k := by
  unfold infR infVal
  rw [h]
  rcases k with _ | _ | d
  · exact absurd rfl hk
  · rfl
  · rfl

set_option maxHeartbeats 2000000 in
theorem rStat (A : Option Addr) (c : Nat) (es : List Ent) (caps : Nat) (blind : Bool) (p : Bs) (w : World) (hr : Rd w w.heap.size A (entCells es)) (hf : Fine es) (he : Env w) (hcaps : caps < 4294967296) (hps : p.length ≤ 140737488351232) :
    Calls Tryz.prog 21 #[.agg #[.slice A es.length c, .int .u32 (caps : Int), .bool blind], .string ⟨p.toArray⟩] w fun e w' => ∃ v,
      e = .returned (.tuple #[.agg (if stErr es p = 0 then stInf es p else zeroInf), v, .int .i64 (stErr es p : Int)]) ∧ Asks w' w.heap.size v (asksOf caps 0 p) ∧ Below w.heap.size w w' := by
  obtain ⟨w0, hw0⟩ : ∃ w0, (w.alloc (.cells #[.slice A es.length c, .int .u32 (caps : Int), .bool blind] 32)).alloc (.cells #[.string ⟨#[]⟩, .bool false, .int .i64 0] 45) = w0 := ⟨_, rfl⟩
  have hb0 : Below w.heap.size w w0 := by rw [← hw0]; go_grown
  have hx0 : Blk w0 w.heap.size 32 #[.slice A es.length c, .int .u32 (caps : Int), .bool blind] := by rw [← hw0]; exact (Blk.newAt _ _ rfl rfl).alloc _
  have hz0 : Blk w0 (w.heap.size + 1) 45 #[.string ⟨#[]⟩, .bool false, .int .i64 0] := by rw [← hw0]; exact Blk.newAt _ _ rfl (by simp)
  have hxl := hx0.lt
  have hzl := hz0.lt
  have hs0 := hb0.size
  have he0 := he.below hb0
  unfold stErr stInf asksOf
  obtain ⟨v, hv⟩ : ∃ v, valid p = v := ⟨_, rfl⟩
  have cv := fun W (hW : Env W) => rvalid p W hps hW
  rw [hv] at cv ⊢
  cases v with
  | false =>
    simp only [Bool.false_eq_true, if_false]
    rw [if_neg (by decide)]
    clear hv
    go_enter Tryz.func21, Tryz.ntmps21
    go_upto_region 1 with fail
    clear hw0
    go_wp2_with (first
      | (go_at_call 29; refine (cv _ he0).mono ?_; rintro e w1 ⟨rfl, hb1⟩; have hz1 := hz0.below hb1 hzl; have hb2 := hb0.trans (hb1.mono hs0))
      | (refine storeB sty45 rfl (.tmp 4) (.tmp 13) rfl _ _ _ _ rfl hz1 rfl rfl rfl rfl ?_; intro w4 hz4 hw4; simp only [Act.put]))
    refine bodyPost_ret (resultsB2 sty45 rfl _ _ _ _ _ rfl hz4 rfl) rfl ?_
    exact ⟨_, rfl, World.ownsRow_nil _ _ _ _, hw4.below hb2 (by omega)⟩
  | true =>
    have hp2 : p.length ≤ 1024 := valid_len hv
    clear hv
    simp only [if_true]
    obtain ⟨k, hk⟩ : ∃ k, look es p = k := ⟨_, rfl⟩
    have cl := fun W (hr : Rd W W.heap.size A (entCells es)) => rlook A c es (caps : Int) blind p W hr hf.many (by omega) (fun e he => by have := (hf.each e he).1; omega)
    have cq := fun W => rasked A es.length c caps 0 blind 0 p rfl (by decide) hcaps W
    have ci := fun W (hr : Rd W W.heap.size A (entCells es)) => rinfo A c es caps blind p W hr hf (by omega)
    have hiv := infR_val es p k hk
    rw [hk] at cl ⊢
    rcases k with _ | k
    · rw [show missing none = 371 from rfl, if_neg (by decide)]
      dsimp only [kindOf, dataOf] at cl
      clear hiv hk ci
      go_enter Tryz.func21, Tryz.ntmps21
      go_upto_region 1 with fail
      clear hw0
      go_wp2_with (first
        | (go_at_call 29; refine (cv _ he0).mono ?_; rintro e w1 ⟨rfl, hb1⟩; have hz1 := hz0.below hb1 hzl; have hx1 := hx0.below hb1 hxl; have hxc1 := hx1.cell; have hb2 := hb0.trans (hb1.mono hs0))
        | (go_at_call 45; refine (cq _).mono ?_; rintro e w2 ⟨v2, rfl, ho2, hb3⟩; have hz2 := hz1.below hb3 hz1.lt; have hx2 := hx1.below hb3 hx1.lt; have hxc2 := hx2.cell; have ho2 := own_low ho2 hb2.size; have hb4 := hb2.trans (hb3.mono hb2.size); have hr2 := (hr.below hb4 (Nat.le_refl _)).more hb4.size)
        | (go_at_call 46; refine (cl _ hr2).mono ?_; rintro e w3 ⟨rfl, hb5⟩; have hz3 := hz2.below hb5 hz2.lt; have ho3 := own_below ho2 hb5; have hb6 := hb4.trans (hb5.mono hb4.size))
        | (refine storeB sty45 rfl (.tmp 4) (.tmp 25) rfl _ _ _ _ rfl hz3 rfl rfl rfl rfl ?_; intro w4 hz4 hw4; have ho4 := own_wrote ho3 hw4 (own_ne_blk ho3 hz3 (by decide)); simp only [Act.put]))
      refine bodyPost_ret (resultsB2 sty45 rfl _ _ _ _ _ rfl hz4 rfl) rfl ?_
      exact ⟨_, rfl, ho4, hw4.below hb6 (by omega)⟩
    · have hiv := hiv (by simp)
      rw [hiv] at ci
      have hkk : (kindOf (some k) == 0) = false := by cases k <;> rfl
      have hm0 : missing (some k) = 0 := rfl
      rw [hm0, if_pos rfl]
      obtain ⟨iv, hiv2⟩ : ∃ iv, infVal p (some k) = iv := ⟨_, rfl⟩
      have hisz : iv.size = 3 := by rw [← hiv2]; rfl
      have hi1 : iv.toList.all (·.oneCell') = true := by rw [← hiv2]; rfl
      rw [hiv2] at ci ⊢
      clear hiv hk hiv2 hm0
      go_enter Tryz.func21, Tryz.ntmps21
      go_upto_region 1 with fail
      clear hw0
      go_wp2_with (first
        | (go_at_call 29; refine (cv _ he0).mono ?_; rintro e w1 ⟨rfl, hb1⟩; have hz1 := hz0.below hb1 hzl; have hx1 := hx0.below hb1 hxl; have hxc1 := hx1.cell; have hb2 := hb0.trans (hb1.mono hs0))
        | (go_at_call 45; refine (cq _).mono ?_; rintro e w2 ⟨v2, rfl, ho2, hb3⟩; have hz2 := hz1.below hb3 hz1.lt; have hx2 := hx1.below hb3 hx1.lt; have hxc2 := hx2.cell; have ho2 := own_low ho2 hb2.size; have hb4 := hb2.trans (hb3.mono hb2.size); have hr2 := (hr.below hb4 (Nat.le_refl _)).more hb4.size)
        | (go_at_call 46; refine (cl _ hr2).mono ?_; rintro e w3 ⟨rfl, hb5⟩; have hz3 := hz2.below hb5 hz2.lt; have hx3 := hx2.below hb5 hx2.lt; have hxc3 := hx3.cell; have ho3 := own_below ho2 hb5; have hb6 := hb4.trans (hb5.mono hb4.size); have hr3 := (hr.below hb6 (Nat.le_refl _)).more hb6.size)
        | (go_at_call 47; refine (ci _ hr3).mono ?_; rintro e w5 ⟨rfl, hb7⟩; have hz5 := hz3.below hb7 hz3.lt; have ho5 := own_below ho3 hb7; have hb8 := hb6.trans (hb7.mono hb6.size))
        | (refine storeB sty45 rfl (.tmp 4) (.tmp 29) rfl _ _ _ _ rfl hz5 rfl rfl hisz hi1 ?_; intro w4 hz4 hw4; have ho4 := own_wrote ho5 hw4 (own_ne_blk ho5 hz5 (by decide)); simp only [Act.put]))
      refine bodyPost_ret (resultsB2 sty45 rfl _ _ _ _ _ rfl hz4 hisz) rfl ?_
      exact ⟨_, rfl, ho4, hw4.below hb8 (by omega)⟩

set_option maxHeartbeats 2000000 in
theorem rReadFile (A : Option Addr) (c : Nat) (es : List Ent) (caps : Nat) (blind : Bool) (p : Bs) (w : World) (hr : Rd w w.heap.size A (entCells es)) (hf : Fine es) (he : Env w) (hcaps : caps < 4294967296) (hps : p.length ≤ 140737488351232) :
    Calls Tryz.prog 23 #[.agg #[.slice A es.length c, .int .u32 (caps : Int), .bool blind], .string ⟨p.toArray⟩] w fun e w' => ∃ v,
      e = .returned (.tuple #[.string ⟨(rdData es p).toArray⟩, v, .int .i64 (rdErr es p : Int)]) ∧ Asks w' w.heap.size v (asksOf caps 1 p) ∧ Below w.heap.size w w' := by
  obtain ⟨w0, hw0⟩ : ∃ w0, w.alloc (.cells #[.slice A es.length c, .int .u32 (caps : Int), .bool blind] 32) = w0 := ⟨_, rfl⟩
  have hb0 : Below w.heap.size w w0 := by rw [← hw0]; go_grown
  have hx0 : Blk w0 w.heap.size 32 #[.slice A es.length c, .int .u32 (caps : Int), .bool blind] := by rw [← hw0]; exact Blk.newAt _ _ rfl rfl
  have hxl := hx0.lt
  have hs0 := hb0.size
  have he0 := he.below hb0
  unfold rdData rdErr asksOf
  obtain ⟨v, hv⟩ : ∃ v, valid p = v := ⟨_, rfl⟩
  have cv := fun W (hW : Env W) => rvalid p W hps hW
  rw [hv] at cv ⊢
  cases v with
  | false =>
    simp only [Bool.false_eq_true, if_false]
    clear hv
    go_enter Tryz.func23, Tryz.ntmps23
    go_upto_region 1 with fail
    clear hw0
    go_wp2_with (go_at_call 29; refine (cv _ he0).mono ?_; rintro e w1 ⟨rfl, hb1⟩; have hb2 := hb0.trans (hb1.mono hs0))
    go_returns
    exact ⟨_, rfl, World.ownsRow_nil _ _ _ _, hb2⟩
  | true =>
    have hp2 : p.length ≤ 1024 := valid_len hv
    clear hv
    simp only [if_true]
    obtain ⟨k, hk⟩ : ∃ k, look es p = k := ⟨_, rfl⟩
    have cl := fun W (hr : Rd W W.heap.size A (entCells es)) => rlook A c es (caps : Int) blind p W hr hf.many (by omega) (fun e he => by have := (hf.each e he).1; omega)
    have cq := fun W => rasked A es.length c caps 1 blind 1 p rfl (by decide) hcaps W
    rw [hk] at cl ⊢
    clear hk
    rcases k with _ | _ | dd
    all_goals
      dsimp only [kindOf, dataOf, readErr] at cl ⊢
      go_enter Tryz.func23, Tryz.ntmps23
      go_upto_region 1 with fail
      clear hw0
      go_wp2_with (first
        | (go_at_call 29; refine (cv _ he0).mono ?_; rintro e w1 ⟨rfl, hb1⟩; have hx1 := hx0.below hb1 hxl; have hxc1 := hx1.cell; have hb2 := hb0.trans (hb1.mono hs0))
        | (go_at_call 45; refine (cq _).mono ?_; rintro e w2 ⟨v2, rfl, ho2, hb3⟩; have hx2 := hx1.below hb3 hx1.lt; have hxc2 := hx2.cell; have ho2 := own_low ho2 hb2.size; have hb4 := hb2.trans (hb3.mono hb2.size); have hr2 := (hr.below hb4 (Nat.le_refl _)).more hb4.size)
        | (go_at_call 46; refine (cl _ hr2).mono ?_; rintro e w3 ⟨rfl, hb5⟩; have ho3 := own_below ho2 hb5; have hb6 := hb4.trans (hb5.mono hb4.size)))
      go_returns
      exact ⟨_, rfl, ho3, hb6⟩
end Go.Proofs.YtkaoechldamggaaGreatDoor
namespace Go.Proofs.YtkaoechldamggaaGreatDoor
open Go Go.RowKit
set_option maxRecDepth 100000

theorem lookIn_some (q : Bs) : ∀ (es : List Ent), (∃ e ∈ es, e.path = q ∨ isBelow q e.path = true) → lookIn es q ≠ none := by
  intro es
  induction es with
  | nil => rintro ⟨e, he, _⟩; cases he
  | cons x r ih =>
    rintro ⟨e, he, h⟩
    simp only [lookIn]
    split
    · simp
    · split
      · simp
      · rename_i h1 h2
        rcases List.mem_cons.1 he with rfl | he
        · rcases h with h | h
          · exact absurd h h1
          · exact absurd h h2
        · exact ih ⟨e, he, h⟩
theorem headE_split (r : Bs) : r = headE r ∨ ∃ t, r = headE r ++ 47 :: t := by
  unfold headE
  rcases first47 r with h | ⟨l, t, rfl, h⟩
  · rw [elems_plain r h]; exact .inl rfl
  · rw [elems_cut l t h]; exact .inr ⟨t, rfl⟩
theorem join_app (d n t : Bs) : join d (n ++ 47 :: t) = join d n ++ 47 :: t := by unfold join; split <;> simp
theorem names_look {es : List Ent} {d n : Bs} (h : n ∈ namesOf es d) : look es (join d n) ≠ none := by
  obtain ⟨e, he, r, hb, rfl⟩ := (firsts_mem es d n).1 ((names_mem es d n).1 h)
  unfold look
  split
  · simp
  · rename_i hd
    refine lookIn_some _ es ⟨e, he, ?_⟩
    have hp := below_join hb
    rcases headE_split r with h1 | ⟨t, h1⟩
    · left; rw [hp]; exact congrArg _ h1
    · right
      rw [hp]
      have : join d r = join d (headE r) ++ 47 :: t := by conv => lhs; rw [h1]
                                                          exact join_app d _ t
      rw [this, isBelow_not _ _ (by simpa using hd)]
      exact decide_eq_true ⟨t, by simp⟩
theorem infR_at {es : List Ent} {d n : Bs} (h : n ∈ namesOf es d) : infR es (join d n) = infAt es d n := by
  have h1 := names_look h
  unfold infR infAt
  rcases hk : look es (join d n) with _ | _ | dd
  · exact absurd hk h1
  · rfl
  · rfl

theorem step_push_inf {W : World} {ops : Array Oper} {o : Oper} {a : Act} {K : Act → World → Prop} {Q : Exit → Act → World → Prop} {E : Prop} (s x : Operand) (base : Nat) (v : Value) (hgd : o.guard = none) (xs : List Inf) (l : Inf) (ho : o.op = .call { callee := .builtin .append, args := #[s, x], argTypes := #[54, 54] }) (hs : a.eval s = v) (hown : W.ownsRow base 45 3 v xs.length (infCells xs))
    (hx : a.eval x = .slice (some ⟨W.heap.size, 0, none⟩) 1 1) (hn : xs.length ≤ 1099511627776) (hbase : base ≤ W.heap.size)
    (h : ∀ v' w', w'.ownsRow base 45 3 v' (xs ++ [l]).length (infCells (xs ++ [l])) → W.grownBy w' v.ownBlock → K (a.put o.dst v') w') :
    if Region.wanted o (yielded ops a.tmps) = true then Oper.wp Tryz.prog o a (W.alloc (.cells #[.string ⟨l.name.toArray⟩, .bool l.dir, .int .i64 (l.size : Int)] 45)) K Q else E := by
  obtain ⟨i, hi, hz0, hz1, hz2⟩ := info_parts (show (Tryz.prog.info? 45).map (fun i => (i.zero, i.size, i.bytes)) = some (some (.agg #[.string ⟨#[]⟩, .bool false, .int .i64 0]), 3, 32) by kernel_rfl)
  refine step_append_lies _ hgd s x 54 ho base 45 i _ 3 32 Tryz.underlying54 hi hz0 hz1 hz2 rfl (by decide) v xs.length (infCells xs) hs (hown.alloc _) ⟨W.heap.size, 0, none⟩ 1 1 (infCell l) hx rfl ?_ (by intro u hu; simp only [infCell, List.mem_cons, List.not_mem_nil, or_false] at hu; rcases hu with rfl | rfl | rfl <;> rfl) (by decide) (by simp only [maxLen]; omega) (by omega) (by simp; omega) _ rfl ?_
  · intro j u hj
    rw [add_lit, World.cell?_alloc_at _ _ _ _ rfl]
    simpa [infCell, str] using hj
  · intro g cap w' h1 h2 _ _
    refine h _ _ ?_ (grownBy_of_alloc h2)
    simpa [infCells] using h1

set_option maxHeartbeats 4000000 in
theorem rReadDir (A : Option Addr) (c : Nat) (es : List Ent) (caps : Nat) (blind : Bool) (p : Bs) (w : World) (hr : Rd w w.heap.size A (entCells es)) (hf : Fine es) (he : Env w) (hcaps : caps < 4294967296) (hps : p.length ≤ 140737488351232) :
    Calls Tryz.prog 25 #[.agg #[.slice A es.length c, .int .u32 (caps : Int), .bool blind], .string ⟨p.toArray⟩] w fun e w' => ∃ u v,
      e = .returned (.tuple #[u, v, .int .i64 (rdDirErr es p caps blind : Int)]) ∧ Infs w' w.heap.size u (rdDirLst es p caps blind) ∧ Asks w' w.heap.size v (asksOf caps 2 p) ∧ Below w.heap.size w w' := by
  obtain ⟨w0, hw0⟩ : ∃ w0, w.alloc (.cells #[.slice A es.length c, .int .u32 (caps : Int), .bool blind] 32) = w0 := ⟨_, rfl⟩
  have hb0 : Below w.heap.size w w0 := by rw [← hw0]; go_grown
  have hx0 : Blk w0 w.heap.size 32 #[.slice A es.length c, .int .u32 (caps : Int), .bool blind] := by rw [← hw0]; exact Blk.newAt _ _ rfl rfl
  have hxl := hx0.lt
  have hs0 := hb0.size
  have he0 := he.below hb0
  unfold rdDirErr rdDirLst asksOf
  obtain ⟨v, hv⟩ : ∃ v, valid p = v := ⟨_, rfl⟩
  have cv := fun W (hW : Env W) => rvalid p W hps hW
  rw [hv] at cv ⊢
  cases v with
  | false =>
    simp only [Bool.false_eq_true, if_false]
    clear hv
    go_enter Tryz.func25, Tryz.ntmps25
    go_upto_region 1 with fail
    clear hw0
    go_wp2_with (go_at_call 29; refine (cv _ he0).mono ?_; rintro e w1 ⟨rfl, hb1⟩; have hb2 := hb0.trans (hb1.mono hs0))
    go_returns
    exact ⟨_, _, rfl, World.ownsRow_nil _ _ _ _, World.ownsRow_nil _ _ _ _, hb2⟩
  | true =>
    have hp2 : p.length ≤ 1024 := valid_len hv
    clear hv
    simp only [if_true]
    obtain ⟨k, hk⟩ : ∃ k, look es p = k := ⟨_, rfl⟩
    have cl := fun W (hr : Rd W W.heap.size A (entCells es)) => rlook A c es (caps : Int) blind p W hr hf.many (by omega) (fun e he => by have := (hf.each e he).1; omega)
    have cq := fun W => rasked A es.length c caps 2 blind 2 p rfl (by decide) hcaps W
    unfold dirErr dirLst
    rw [hk] at cl ⊢
    clear hk
    obtain ⟨b2, hb2⟩ : ∃ b, hasCap caps 2 = b := ⟨_, rfl⟩
    obtain ⟨wy, hwy⟩ : ∃ wy, way caps 2 = wy := ⟨_, rfl⟩
    have hway : wy = if b2 then 2 else 5 := by rw [← hwy]; unfold way; rw [hb2]
    rw [hb2]
    rw [hwy] at cq ⊢
    have HW := Lib.hid hway
    clear hb2 hway hwy
    rcases k with _ | _ | dd
    · dsimp only [kindOf, dataOf] at cl ⊢
      go_enter Tryz.func25, Tryz.ntmps25
      go_upto_region 1 with fail
      clear hw0
      go_wp2_with (first
        | (go_at_call 29; refine (cv _ he0).mono ?_; rintro e w1 ⟨rfl, hb1⟩; have hx1 := hx0.below hb1 hxl; have hxc1 := hx1.cell; have hb2 := hb0.trans (hb1.mono hs0))
        | (go_at_call 45; refine (cq _).mono ?_; rintro e w2 ⟨v2, rfl, ho2, hb3⟩; have hx2 := hx1.below hb3 hx1.lt; have hxc2 := hx2.cell; have ho2 := own_low ho2 hb2.size; have hb4 := hb2.trans (hb3.mono hb2.size); have hr2 := (hr.below hb4 (Nat.le_refl _)).more hb4.size)
        | (go_at_call 46; refine (cl _ hr2).mono ?_; rintro e w3 ⟨rfl, hb5⟩; have ho3 := own_below ho2 hb5; have hb6 := hb4.trans (hb5.mono hb4.size)))
      go_returns
      exact ⟨_, _, rfl, World.ownsRow_nil _ _ _ _, ho3, hb6⟩
    · dsimp only [kindOf, dataOf] at cl ⊢
      obtain ⟨bl, hbl⟩ : ∃ bl, (blind && !b2) = bl := ⟨_, rfl⟩
      rw [hbl]
      cases bl with
      | true =>
        obtain ⟨rfl, rfl⟩ : blind = true ∧ b2 = false := by simpa using hbl
        have hw5 : wy = 5 := by have := HW.out; simpa using this
        subst hw5
        dsimp only
        clear hbl
        go_enter Tryz.func25, Tryz.ntmps25
        go_upto_region 1 with fail
        clear hw0
        go_wp2_with (first
          | (go_at_call 29; refine (cv _ he0).mono ?_; rintro e w1 ⟨rfl, hb1⟩; have hx1 := hx0.below hb1 hxl; have hxc1 := hx1.cell; have hb2 := hb0.trans (hb1.mono hs0))
          | (go_at_call 45; refine (cq _).mono ?_; rintro e w2 ⟨v2, rfl, ho2, hb3⟩; have hx2 := hx1.below hb3 hx1.lt; have hxc2 := hx2.cell; have ho2 := own_low ho2 hb2.size; have hb4 := hb2.trans (hb3.mono hb2.size); have hr2 := (hr.below hb4 (Nat.le_refl _)).more hb4.size)
          | (go_at_call 46; refine (cl _ hr2).mono ?_; rintro e w3 ⟨rfl, hb5⟩; have ho3 := own_below ho2 hb5; have hb6 := hb4.trans (hb5.mono hb4.size); have hx3 := hx2.below hb5 hx2.lt; have hxc3 := hx3.cell; obtain ⟨A3, c3, rfl, -, -, hr3⟩ := own_rd ho3; obtain ⟨ad3, rfl, -, g1, -⟩ := hr3.ask 0 (by simp); have g2 := g1; rw [Nat.zero_mul, add_nought] at g2))
        go_returns
        exact ⟨_, _, rfl, World.ownsRow_nil _ _ _ _, ho3, hb6⟩
      | false =>
        have hlen := names_count es p
        have hmany := hf.many
        have hnl := names_len hf p
        have cn := fun W (hr : Rd W W.heap.size A (entCells es)) => rnames A c es caps blind p W hr hf (by omega)
        have hinf := fun n (hn : n ∈ namesOf es p) => infR_at (es := es) (d := p) hn
        have hlist : listOf es p = (namesOf es p).map (infAt es p) := rfl
        dsimp only
        rw [hlist]
        generalize namesOf es p = ns at cn hlen hnl hinf ⊢
        have HI := Lib.hid hinf
        clear hinf hlist
        have hcase : blind = false ∨ (blind = true ∧ b2 = true ∧ wy = 2) := by
          have := HW.out
          cases blind <;> cases b2 <;> simp_all
        clear hbl
        rcases hcase with rfl | ⟨rfl, rfl, rfl⟩
        all_goals
          go_enter Tryz.func25, Tryz.ntmps25
          go_upto_region 1 with fail
          clear hw0
          go_wp2_with (first
            | (go_at_call 29; refine (cv _ he0).mono ?_; rintro e w1 ⟨rfl, hb1⟩; have hx1 := hx0.below hb1 hxl; have hxc1 := hx1.cell; have hb2 := hb0.trans (hb1.mono hs0))
            | (go_at_call 45; refine (cq _).mono ?_; rintro e w2 ⟨v2, rfl, ho2, hb3⟩; have hx2 := hx1.below hb3 hx1.lt; have hxc2 := hx2.cell; have ho2 := own_low ho2 hb2.size; have hb4 := hb2.trans (hb3.mono hb2.size); have hr2 := (hr.below hb4 (Nat.le_refl _)).more hb4.size)
            | (go_at_call 46; refine (cl _ hr2).mono ?_; rintro e w3 ⟨rfl, hb5⟩; have ho3 := own_below ho2 hb5; have hb6 := hb4.trans (hb5.mono hb4.size); have hx3 := hx2.below hb5 hx2.lt; have hxc3 := hx3.cell; obtain ⟨A3, c3, rfl, -, -, hr3⟩ := own_rd ho3; obtain ⟨ad3, rfl, -, g1, -⟩ := hr3.ask 0 (by simp); have g2 := g1; rw [Nat.zero_mul, add_nought] at g2; have hr4 := (hr.below hb6 (Nat.le_refl _)).more hb6.size)
            | (go_at_call 50; refine (cn _ hr4).mono ?_; rintro e w4 ⟨v4, rfl, ho4, hb7⟩; obtain ⟨A4, c4, rfl, -, -, -⟩ := own_rd ho4; have ho5 := own_below ho3 hb7; have hx4 := hx3.below hb7 hx3.lt; have hb8 := hb6.trans (hb7.mono hb6.size); have hs8 := hb8.size))
          clear cv cl cq cn hx1 hxc1 hx2 hxc2 hx3 hxc3 hr4 hr2 hr3 g1 g2 ho3 ho2
          have hx4l := hx4.lt
          go_loopw [10, 48] (fun v i wr => ∃ j : Nat, j ≤ ns.length ∧ i = .int .i64 j ∧ wr.ownsRow w4.heap.size 45 3 v ((ns.take j).map (infAt es p)).length (infCells ((ns.take j).map (infAt es p))) ∧ Below w4.heap.size w4 wr) (fun _ i _ => ns.length - (intOf i).toNat)
          case atStart => exact ⟨0, Nat.zero_le _, rfl, World.ownsRow_nil _ _ _ _, Below.refl _ _⟩
          case round =>
            obtain ⟨j, hj, rfl, hown, hbj⟩ := hrel
            have hbjs := hbj.size
            have hbw := hb8.trans (hbj.mono hs8)
            by_cases hjl : j < ns.length
            · obtain ⟨ad4, rfl, -, e4⟩ := own_str (own_below ho4 hbj) j hjl
              have htk : (ns.take (j + 1)).map (infAt es p) = (ns.take j).map (infAt es p) ++ [infAt es p ns[j]] := by rw [List.take_succ_eq_append_getElem hjl, List.map_append]; rfl
              have hnj := hnl _ (List.getElem_mem hjl)
              have hii := HI.out _ (List.getElem_mem hjl)
              obtain ⟨n, hn⟩ : ∃ n, ns[j] = n := ⟨_, rfl⟩
              rw [hn] at e4 htk hnj hii
              have hjn := join_len p n
              have cj := fun W => rjoin p n W (by omega) (by omega)
              obtain ⟨q, hq⟩ : ∃ q, join p n = q := ⟨_, rfl⟩
              rw [hq] at cj hii hjn
              obtain ⟨x, hx⟩ : ∃ x, infAt es p n = x := ⟨_, rfl⟩
              rw [hx] at htk hii
              have ci := fun bl W (hr : Rd W W.heap.size A (entCells es)) => rinfo A c es caps bl q W hr hf (by omega)
              rw [hii] at ci
              have HT := Lib.hid htk
              clear hn htk hii hq hx
              have hls : ((ns.take j).map (infAt es p)).length = j := by simp; omega
              have HL := Lib.hid hls
              clear hls
              generalize (ns.take j).map (infAt es p) = xs at *
              have hxd := ((hx4.below hbj hx4l).drew1).cell
              have hbd : Below w4.heap.size w4 wr.drew := hbj.trans (by go_grown)
              have hbdw := hb8.trans (hbd.mono hs8)
              have hrd := (hr.below hbdw (Nat.le_refl _)).more hbdw.size
              have hownd := own_drewN hown 1
              go_upto_region 15 with fail
              go_region_law (first
                | (refine step_push_inf _ _ w4.heap.size u10 rfl xs x rfl rfl hown7 rfl (by have := HL.out; omega) hs7 ?_; intro v' w8 hown8 hg8)
                | (go_simp; go_at_call 51; refine (cj _).mono ?_; rintro e w6 ⟨rfl, rfl⟩)
                | (go_simp; go_at_call 47; refine (ci _ _ hrd).mono ?_; rintro e w7 ⟨rfl, hb9⟩; have hown7 := own_below hownd hb9; have hbj7 := hbd.trans (hb9.mono hbd.size); have hs7 := hbj7.size))
              all_goals
                go_wp2_with fail
                go_roundw
                case rel => exact ⟨j + 1, by omega, by go_num, by rw [HT.out]; exact hown8, hbj7.grown hg8 hs7 (fun q hq => (hown7.lt q hq).1)⟩
                case measure => simp [intOf]; omega
            · have hje : ns.take j = ns := List.take_of_length_le (by omega)
              rw [hje] at hown
              go_wp2_with fail
              go_returns
              exact ⟨_, _, rfl, own_low hown hs8, own_below ho5 hbj, hbw⟩
    · dsimp only [kindOf, dataOf] at cl ⊢
      go_enter Tryz.func25, Tryz.ntmps25
      go_upto_region 1 with fail
      clear hw0
      go_wp2_with (first
        | (go_at_call 29; refine (cv _ he0).mono ?_; rintro e w1 ⟨rfl, hb1⟩; have hx1 := hx0.below hb1 hxl; have hxc1 := hx1.cell; have hb2 := hb0.trans (hb1.mono hs0))
        | (go_at_call 45; refine (cq _).mono ?_; rintro e w2 ⟨v2, rfl, ho2, hb3⟩; have hx2 := hx1.below hb3 hx1.lt; have hxc2 := hx2.cell; have ho2 := own_low ho2 hb2.size; have hb4 := hb2.trans (hb3.mono hb2.size); have hr2 := (hr.below hb4 (Nat.le_refl _)).more hb4.size)
        | (go_at_call 46; refine (cl _ hr2).mono ?_; rintro e w3 ⟨rfl, hb5⟩; have ho3 := own_below ho2 hb5; have hb6 := hb4.trans (hb5.mono hb4.size)))
      go_returns
      exact ⟨_, _, rfl, World.ownsRow_nil _ _ _ _, ho3, hb6⟩
end Go.Proofs.YtkaoechldamggaaGreatDoor
