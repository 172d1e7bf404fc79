/- The store's list. -/
import Derived.Test.YtkaoechldamggaaGreatDoorAC
import Derived.Test.YtkaoechldamggaaGreatDoorT
import Derived.Test.YtkaoechldamggaaGreatDoorL
import Derived.Test.YtkaoechldamggaaGreatDoorW
namespace Go.Proofs.YtkaoechldamggaaGreatDoor
open Go Go.RowKit
set_option maxRecDepth 100000

/-- The first elements of what lies below d, in the files' order; sorted, each once; what each is. -/
def headE (r : Bs) : Bs := (elems r).headD []
def firsts (es : List Ent) (d : Bs) : List Bs := es.filterMap fun x => (below d x.path).map headE
def namesOf (es : List Ent) (d : Bs) : List Bs := Lib.compact (sortL (firsts es d))
def dirK : Option (Option Bs) → Bool | some (some _) => false | _ => true
def infAt (es : List Ent) (d n : Bs) : Inf := ⟨lastEl (join d n), dirK (look es (join d n)), (dataOf (look es (join d n))).length⟩
def listOf (es : List Ent) (d : Bs) : List Inf := (namesOf es d).map (infAt es d)

theorem firsts_take (es : List Ent) (d : Bs) (k : Nat) (hk : k < es.length) : firsts (es.take (k + 1)) d = firsts (es.take k) d ++ (match below d es[k].path with | none => [] | some r => [headE r]) := by
  unfold firsts
  rw [List.take_succ_eq_append_getElem hk, List.filterMap_append]
  congr 1
  cases h : below d es[k].path <;> simp [h]
theorem firsts_length (es : List Ent) (d : Bs) : (firsts es d).length ≤ es.length := List.length_filterMap_le _ _

theorem below_len {d p r : Bs} (h : below d p = some r) : r.length ≤ p.length := by
  unfold below at h
  split at h
  · split at h
    · cases h
    · cases h; exact Nat.le_refl _
  · split at h
    · cases h; simp
    · cases h
theorem pcutSl (r : Bs) (w : World) (he : Env w) (hr : r.length ≤ 1024) : Calls Tryz.prog 88 #[.string ⟨r.toArray⟩, .string ⟨#[47]⟩] w fun e w' => ∃ s2 b, e = .returned (.tuple #[.string ⟨(headE r).toArray⟩, .string s2, .bool b]) ∧ ∃ n, w' = w.drewN n := by
  obtain ⟨m, hm⟩ := he.mx
  have h := Tryz.strings_Cut ⟨r.toArray⟩ ⟨#[47]⟩ m w (by simp [ByteArray.size]; omega) hm
  have e0 : (ByteArray.mk r.toArray).data.toList = r := by simp
  have e1 : (ByteArray.mk #[47]).data.toList = [47] := rfl
  simp only [cut47] at h
  refine h.mono ?_
  rintro e w' ⟨rfl, n, rfl⟩
  exact ⟨_, _, rfl, n, rfl⟩

theorem own_drewN {w : World} {b e sz n : Nat} {v : Value} {xs : List Value} (h : w.ownsRow b e sz v n xs) (m : Nat) : (w.drewN m).ownsRow b e sz v n xs := own_below h (blN (Below.refl _ _) m)

theorem headE_len (r : Bs) : (headE r).length ≤ r.length := by
  unfold headE
  rcases first47 r with h | ⟨l, t, rfl, h⟩
  · rw [elems_plain r h]; simp
  · rw [elems_cut l t h]; simp
theorem compact_mem (zs : List Bs) (x : Bs) (h : x ∈ Lib.compact zs) : x ∈ zs := by
  unfold Lib.compact Lib.compactUpTo at h
  obtain ⟨i, hi, rfl⟩ := List.mem_map.1 h
  have hi2 : i < zs.length := by have := (List.mem_filter.1 hi).1; simpa using this
  have : zs.toArray[i]! = zs[i] := by simp [hi2]
  rw [this]
  exact List.getElem_mem hi2
theorem names_len {es : List Ent} (hf : Fine es) (d : Bs) (n : Bs) (h : n ∈ namesOf es d) : n.length ≤ 1024 := by
  have h1 := compact_mem _ _ h
  have h2 : n ∈ firsts es d := by simpa [sortL] using h1
  unfold firsts at h2
  obtain ⟨e, he, h3⟩ := List.mem_filterMap.1 h2
  cases hb : below d e.path with
  | none => rw [hb] at h3; cases h3
  | some r =>
    rw [hb] at h3
    cases h3
    have := (hf.each e he).1
    have := below_len hb
    have := headE_len r
    omega
theorem names_count (es : List Ent) (d : Bs) : (namesOf es d).length ≤ es.length := by
  refine Nat.le_trans (Lib.compact_length_le _) ?_
  simpa [sortL] using firsts_length es d
theorem join_len (d n : Bs) : (join d n).length ≤ d.length + n.length + 1 := by
  unfold join
  split
  · omega
  · simp; omega

theorem own_low {w : World} {b b' e sz n : Nat} {v : Value} {xs : List Value} (h : w.ownsRow b e sz v n xs) (hb : b' ≤ b) : w.ownsRow b' e sz v n xs := by
  refine ⟨h.1, ?_⟩
  rcases h.2 with h2 | ⟨q, cap, cur, rfl, hq, r⟩
  · exact .inl h2
  · exact .inr ⟨q, cap, cur, rfl, Nat.le_trans hb hq, r⟩

set_option maxHeartbeats 2000000 in
theorem plist (g : Nat) (A : Option Addr) (c : Nat) (es : List Ent) (caps : Nat) (blind : Bool) (qs : List Ask) (d : Bs) (w : World) (hg : StF w g A c es caps blind qs) (hf : Fine es) (he : Env w) (hd : d.length ≤ 1024) :
    Calls Tryz.prog 67 #[.pointer (some ⟨g, 0, none⟩), .string ⟨d.toArray⟩] w fun e w' => ∃ v, e = .returned v ∧ w'.ownsRow w.heap.size 45 3 v (listOf es d).length (infCells (listOf es d)) ∧ Below w.heap.size w w' := by
  obtain ⟨av, hb0, -⟩ := hg.st.ex
  have hgc := hb0.cell
  have hlt := hb0.lt
  have hr := hg.rd.more (Nat.le_of_lt hlt)
  have hnc := names_count es d
  have hnl := names_len hf d
  obtain ⟨ns, hns⟩ : ∃ ns, Lib.compact (sortL (firsts es d)) = ns := ⟨_, rfl⟩
  rw [show namesOf es d = ns from hns] at hnc hnl
  have hlist : listOf es d = ns.map (infAt es d) := by unfold listOf; rw [show namesOf es d = ns from hns]
  rw [hlist]
  have HN := Lib.hid hns
  clear hlist hns
  go_enter Tryz.func67, Tryz.ntmps67
  go_wp2_with fail
  go_loopw [5, 24] (fun l i wr => ∃ k : Nat, k ≤ es.length ∧ i = .int .i64 k ∧ wr.ownsRow w.heap.size 9 1 l (firsts (es.take k) d).length (strCells (firsts (es.take k) d)) ∧ Below w.heap.size w wr) (fun _ i _ => es.length - (intOf i).toNat)
  case atStart => exact ⟨0, Nat.zero_le _, rfl, World.ownsRow_nil _ _ _ _, by go_grown⟩
  case round =>
    obtain ⟨k, hk, rfl, hown, hb⟩ := hrel
    have hbs := hb.size
    have hr' := hr.below hb (Nat.le_refl _)
    by_cases hlt2 : k < es.length
    · obtain ⟨ad, rfl, hadb, h1, h2⟩ := hr'.ent k hlt2
      have hsz1 := hf.each _ (List.getElem_mem hlt2)
      have hft := firsts_take es d k hlt2
      have hlen := firsts_length (es.take k) d
      have hpb := fun W => pbelow d es[k].path W (by omega) (by omega)
      have hlen2 : (es.take k).length = k := by simp; omega
      unfold isBelow at hpb
      have hmany := hf.many
      obtain ⟨bo, hbo⟩ : ∃ bo, below d es[k].path = bo := ⟨_, rfl⟩
      rw [hbo] at hft hpb
      clear hr' hr hgc
      have hb3 := hb.alloc hbs (.cells #[.string ⟨es[k].path.toArray⟩, .string ⟨es[k].data.toArray⟩] 74)
      have hown3 := hown.alloc (.cells #[.string ⟨es[k].path.toArray⟩, .string ⟨es[k].data.toArray⟩] 74)
      cases bo with
      | none =>
        simp only [List.append_nil] at hft
        go_wp2_with (go_at_call 55; refine (hpb _).mono ?_; rintro e w1 ⟨rfl, rfl⟩)
        go_roundw
        case rel => exact ⟨k + 1, by omega, by go_num, by rw [hft]; exact hown3, hb3⟩
        case measure => simp [intOf]; omega
      | some r =>
        have hrl := below_len hbo
        have he3 := he.below hb3
        have HF := Lib.hid hft
        simp only [Option.getD_some, Option.isSome_some] at hpb
        clear hft hbo
        go_wp2_with (first
          | (go_at_call 55; refine (hpb _).mono ?_; rintro e w1 ⟨rfl, rfl⟩)
          | (go_at_call 88; go_loud (refine (pcutSl r _ he3 (by omega)).mono ?_; rintro e w1 ⟨s2, b2, rfl, n, hw1⟩; have hb4 := blN hb3 n; have hown4 := own_drewN hown3 n; rw [← hw1] at hb4 hown4; clear hw1; have hbs4 := hb4.size))
          | (at_builtin; go_must (refine push_str _ _ _ _ u5 rfl (firsts (es.take k) d) _ (headE r) rfl rfl rfl hown4 rfl (by omega) hbs4 ?_); intro v' w1 hown' hg'))
        go_roundw
        case rel => exact ⟨k + 1, by omega, by go_num, by rw [HF.out]; exact hown', hb4.grown hg' hbs4 (fun q hq => (hown4.lt q hq).1)⟩
        case measure => simp [intOf]; omega
    · have hke : es.take k = es := List.take_of_length_le (by omega)
      rw [hke] at hown
      have hlen := firsts_length es d
      have hmany := hf.many
      have hsl : (sortL (firsts es d)).length = (firsts es d).length := by simp [sortL]
      go_wp2_with (first
        | (go_at_call 89; refine (psort _ u5 w.heap.size wr hown (by omega)).mono ?_; rintro e w1 ⟨rfl, hown1, hg1⟩; have hb1 := hb.grown hg1 hbs (fun q hq => (hown.lt q hq).1); have hbs1 := hb1.size)
        | (go_at_call 90; rw [← hsl] at hown1; have cp := pcompact _ u5 w.heap.size w1 hown1 (by omega); rw [HN.out] at cp; refine cp.mono ?_; rintro e w2 ⟨A2, c2, rfl, hrd2, hg2⟩; have hb2 := hb1.grown hg2 hbs1 (fun q hq => (hown1.lt q hq).1)))
      have hrn := hrd2
      have hbs2 := hb2.size
      clear hrd2 hg2 hown1 hg1 hown hr' hke hsl hlen hgc HN
      go_loopw [13, 52] (fun l i wr => ∃ j : Nat, j ≤ ns.length ∧ i = .int .i64 j ∧ wr.ownsRow w2.heap.size 45 3 l ((ns.take j).map (infAt es d)).length (infCells ((ns.take j).map (infAt es d))) ∧ Below w2.heap.size w2 wr) (fun _ i _ => ns.length - (intOf i).toNat)
      case atStart => exact ⟨0, Nat.zero_le _, rfl, World.ownsRow_nil _ _ _ _, by go_grown⟩
      case round =>
        obtain ⟨j, hj, rfl, hown2, hbj⟩ := hrel
        have hbjs := hbj.size
        have hbw := hb2.trans (hbj.mono hbs2)
        by_cases hlt3 : j < ns.length
        · obtain ⟨ad, rfl, hadb, hcell⟩ := (hrn.below hbj (Nat.le_refl _)).str j hlt3
          have hnj := hnl _ (List.getElem_mem hlt3)
          have hjl := join_len d ns[j]
          have hgj := hb0.below hbw hlt
          have hrj := (hr.below hbw (Nat.le_refl _)).more hbw.size
          obtain ⟨p, hp⟩ : ∃ p, join d ns[j] = p := ⟨_, rfl⟩
          obtain ⟨r, hlk⟩ : ∃ r, look es p = r := ⟨_, rfl⟩
          have htk : (ns.take (j + 1)).map (infAt es d) = (ns.take j).map (infAt es d) ++ [infAt es d ns[j]] := by rw [List.take_succ_eq_append_getElem hlt3, List.map_append]; rfl
          have cj := fun W => pjoin d ns[j] W (by omega) (by omega)
          rw [hp] at cj hjl
          have cf := pfind g A c es caps blind av p wr hgj hrj hf.many (by omega) hf.each
          have hls : ((ns.take j).map (infAt es d)).length = j := by simp; omega
          have hin : infAt es d ns[j] = ⟨lastEl p, dirK r, (dataOf r).length⟩ := by unfold infAt; rw [hp, hlk]
          rw [hin] at htk
          rw [hlk] at cf
          dsimp only [dirK] at hin
          have HT := Lib.hid htk
          have HS := Lib.hid hls
          clear htk hin hp hlk hls
          generalize (ns.take j).map (infAt es d) = xs at *
          rcases r with _ | _ | dd
          · go_wp2_with (first
              | (go_at_call 71; refine (cj _).mono ?_; rintro e w3 ⟨rfl, rfl⟩)
              | (go_at_call 56; refine cf.mono ?_; dsimp only [missing]; simp only [errV371]; rintro e w3 ⟨rfl, hb3⟩; have own3 := own_below hown2 hb3; have hb6 := hbj.trans (hb3.mono hbjs); have hs6 := hb6.size)
              | (refine storeB sty122 rfl (.tmp 16) (.tmp 62) rfl w3.heap.size 122 _ (entArr g p none) rfl (blkEnt w3) rfl rfl rfl rfl ?_; intro w4 hz4 hw4; have hc4 := hz4.cell; dsimp only [entArr, dataOf] at hc4; have own4 := own_wrote (own3.alloc _) hw4 (own_ne_new own3); have hb7 := hw4.below (hb6.alloc hs6 _) hs6; have hs7 := hb7.size; have h4lt := hz4.lt; simp only [Act.put])
              | (at_builtin; go_must (refine push_inf w4 _ _ w2.heap.size u13 rfl xs ⟨lastEl p, true, 0⟩ rfl rfl own4 rfl (by have := HS.out; omega) hs7 ?_); intro v' w5 hown5 hg5))
            go_roundw
            case rel => exact ⟨j + 1, by omega, by go_num, by rw [HT.out]; exact hown5, hb7.grown hg5 hs7 (fun q hq => (own4.lt q hq).1)⟩
            case measure => simp [intOf]; omega
          · go_wp2_with (first
              | (go_at_call 71; refine (cj _).mono ?_; rintro e w3 ⟨rfl, rfl⟩)
              | (go_at_call 56; refine cf.mono ?_; dsimp only [missing]; simp only [errV0]; rintro e w3 ⟨rfl, hb3⟩; have own3 := own_below hown2 hb3; have hb6 := hbj.trans (hb3.mono hbjs); have hs6 := hb6.size)
              | (refine storeB sty122 rfl (.tmp 16) (.tmp 62) rfl w3.heap.size 122 _ (entArr g p (some none)) rfl (blkEnt w3) rfl rfl rfl rfl ?_; intro w4 hz4 hw4; have hc4 := hz4.cell; dsimp only [entArr, dataOf] at hc4; have own4 := own_wrote (own3.alloc _) hw4 (own_ne_new own3); have hb7 := hw4.below (hb6.alloc hs6 _) hs6; have hs7 := hb7.size; have h4lt := hz4.lt; simp only [Act.put])
              | (at_builtin; go_must (refine push_inf w4 _ _ w2.heap.size u13 rfl xs ⟨lastEl p, true, 0⟩ rfl rfl own4 rfl (by have := HS.out; omega) hs7 ?_); intro v' w5 hown5 hg5))
            go_roundw
            case rel => exact ⟨j + 1, by omega, by go_num, by rw [HT.out]; exact hown5, hb7.grown hg5 hs7 (fun q hq => (own4.lt q hq).1)⟩
            case measure => simp [intOf]; omega
          · go_wp2_with (first
              | (go_at_call 71; refine (cj _).mono ?_; rintro e w3 ⟨rfl, rfl⟩)
              | (go_at_call 56; refine cf.mono ?_; dsimp only [missing]; simp only [errV0]; rintro e w3 ⟨rfl, hb3⟩; have own3 := own_below hown2 hb3; have hb6 := hbj.trans (hb3.mono hbjs); have hs6 := hb6.size)
              | (refine storeB sty122 rfl (.tmp 16) (.tmp 62) rfl w3.heap.size 122 _ (entArr g p (some (some dd))) rfl (blkEnt w3) rfl rfl rfl rfl ?_; intro w4 hz4 hw4; have hc4 := hz4.cell; dsimp only [entArr, dataOf] at hc4; have own4 := own_wrote (own3.alloc _) hw4 (own_ne_new own3); have hb7 := hw4.below (hb6.alloc hs6 _) hs6; have hs7 := hb7.size; have h4lt := hz4.lt; simp only [Act.put])
              | (at_builtin; go_must (refine push_inf w4 _ _ w2.heap.size u13 rfl xs ⟨lastEl p, false, dd.length⟩ rfl rfl own4 rfl (by have := HS.out; omega) hs7 ?_); intro v' w5 hown5 hg5))
            go_roundw
            case rel => exact ⟨j + 1, by omega, by go_num, by rw [HT.out]; exact hown5, hb7.grown hg5 hs7 (fun q hq => (own4.lt q hq).1)⟩
            case measure => simp [intOf]; omega
        · have htk : ns.take j = ns := List.take_of_length_le (by omega)
          rw [htk] at hown2
          go_wp2_with fail
          go_ret
          exact ⟨_, rfl, own_low hown2 (by omega), hbw⟩
end Go.Proofs.YtkaoechldamggaaGreatDoor
