/- The reference's Match. -/
import Derived.Test.YtkaoechldamggaaGreatDoorK
namespace Go.Proofs.YtkaoechldamggaaGreatDoor
open Go Go.RowKit
set_option maxRecDepth 100000

/-- Which beginnings of n the first i parts have. -/
def begs (l : List Prt) (n : Bs) (i : Nat) : Nat → Bool := fun k => mt (l.take i) (n.take k)
/-- The next row, filled up to j. -/
def begs2 (l : List Prt) (n : Bs) (i j : Nat) : Nat → Bool := fun k => if k < j then begs l n (i + 1) k else false

theorem begs_any0 (l : List Prt) (n : Bs) (i : Nat) (hi : i < l.length) (hx : l[i].any = true) : begs l n (i + 1) 0 = begs l n i 0 := by
  unfold begs
  rw [List.take_succ_eq_append_getElem hi, List.take_zero, mt_last_any0 _ _ hx]
theorem begs_any (l : List Prt) (n : Bs) (i k : Nat) (hi : i < l.length) (hk : k < n.length) (hx : l[i].any = true) : begs l n (i + 1) (k + 1) = (begs l n i (k + 1) || (begs l n (i + 1) k && n[k] != 47)) := by
  unfold begs
  rw [List.take_succ_eq_append_getElem hi, List.take_succ_eq_append_getElem hk, mt_last_any _ _ hx]
theorem begs_one0 (l : List Prt) (n : Bs) (i : Nat) (hi : i < l.length) (hx : l[i].any = false) : begs l n (i + 1) 0 = false := by
  unfold begs
  rw [List.take_succ_eq_append_getElem hi, List.take_zero, mt_last_one0 _ _ hx]
theorem begs_one (l : List Prt) (n : Bs) (i k : Nat) (hi : i < l.length) (hk : k < n.length) (hx : l[i].any = false) : begs l n (i + 1) (k + 1) = (begs l n i k && l[i].has n[k].toNat) := by
  unfold begs
  rw [List.take_succ_eq_append_getElem hi, List.take_succ_eq_append_getElem hk, mt_last_one _ _ hx]
theorem begs2_set {w : World} {b m : Nat} {l : List Prt} {n : Bs} {i j : Nat} (h : FB w b m (begs2 l n i j)) (hj : j < m) (v : Bool) (hv : v = begs l n (i + 1) j) : FB (w.setCell ⟨b, j, none⟩ (.bool v)) b m (begs2 l n i (j + 1)) := by
  refine (h.set_ j v hj).congr fun c _ => ?_
  unfold upd begs2
  by_cases e : c = j
  · subst e
    rw [if_pos rfl, if_pos (by omega), hv]
  · rw [if_neg e]
    by_cases hlt : c < j
    · rw [if_pos hlt, if_pos (by omega)]
    · rw [if_neg hlt, if_neg (by omega)]

set_option maxHeartbeats 4000000 in
theorem rmatch (p n : Bs) (w : World) (hp : p.length ≤ 1048576) (hn : n.length ≤ 1048576) :
    Calls Tryz.prog 13 #[.string ⟨p.toArray⟩, .string ⟨n.toArray⟩] w fun e w' => e = .returned (retMatch (matchS p n)) ∧ Below w.heap.size w w' := by
  cases hq : parseAll p with
  | none =>
    have e : matchS p n = none := by unfold matchS; rw [hq]; rfl
    rw [e]
    have c1 : ∀ W, Calls Tryz.prog 38 #[.string ⟨p.toArray⟩] W fun e w' => e = .returned (.tuple #[.slice none 0 0, .bool false]) ∧ Below W.heap.size W w' := fun W => by
      have h := ritems p W hp
      rw [hq] at h
      exact h
    have C1 := Lib.hid c1
    clear c1 e hq
    go_enter Tryz.func13, Tryz.ntmps13
    go_wp2_with (go_at_call 38; refine (C1.out _).mono ?_; rintro e w1 ⟨rfl, hb1⟩)
    go_ret2
    exact ⟨rfl, hb1⟩
  | some l =>
    have e : matchS p n = some (mt l n) := by unfold matchS; rw [hq]; rfl
    rw [e]
    have hl := parse_len p _ _ _ hq
    have c1 : ∀ W, Calls Tryz.prog 38 #[.string ⟨p.toArray⟩] W fun e w' => (∃ v, e = .returned (.tuple #[v, .bool true]) ∧ w'.ownsRow W.heap.size 86 257 v l.length (prtCells l)) ∧ Below W.heap.size W w' := fun W => by
      have h := ritems p W hp
      rw [hq] at h
      exact h
    have C1 := Lib.hid c1
    clear c1 e hq
    obtain ⟨N, hN⟩ : ∃ N, N = n.length := ⟨_, rfl⟩
    have hmk := run_make_bools (n.length + 1) (by omega)
    rw [show ((n.length + 1 : Nat) : Int) = (n.length : Int) + 1 from by omega] at hmk
    clear hN
    go_enter Tryz.func13, Tryz.ntmps13
    go_upto_region 4 with (go_at_call 38; refine (C1.out _).mono ?_; rintro e w1 ⟨⟨v, rfl, hown⟩, hb1⟩; obtain ⟨A, cp, rfl, _, _, hrd⟩ := own_rd hown; clear hown)
    have hbs1 := hb1.size
    have hf1 : FB (w1.alloc (.cells (bools (n.length + 1) fun _ => false) 4)) w1.heap.size (n.length + 1) fun _ => false := heap_alloc_new w1 _
    have hc1 := hf1.cell 0 (by omega)
    have hz1 := hf1.frozen 0
    go_wp2_with fail
    go_loopw [8, 27] (fun s8 s27 wr => ∃ i b : Nat, i ≤ l.length ∧ s8 = .slice (some ⟨b, 0, none⟩) (n.length + 1) (n.length + 1) ∧ s27 = .int .i64 i ∧ Below w1.heap.size w1 wr ∧ w1.heap.size ≤ b ∧ FB wr b (n.length + 1) (begs l n i)) (fun _ s27 _ => l.length - (intOf s27).toNat)
    case atStart =>
      refine ⟨0, w1.heap.size, by omega, rfl, rfl, (Below.refl _ _).alloc (Nat.le_refl _) _, Nat.le_refl _, ?_⟩
      rw [bools_set _ _ _ _ (by omega)]
      refine FB.congr (heap_alloc_new w1 _) fun c _ => ?_
      unfold upd begs
      cases c with
      | zero => rfl
      | succ c =>
        have : ¬ n.take (c + 1) = [] ∨ n = [] := by
          cases n with
          | nil => right; rfl
          | cons a n => left; simp
        rename_i hc
        rcases this with h | h
        · simp [mt, h]
        · subst h; simp at hc
    case round =>
      clear hf1 hc1 hz1
      obtain ⟨i, b, hi, rfl, rfl, hb, hbb, hfb⟩ := hrel
      have hbs := hb.size
      have hrd' := hrd.below hb (Nat.le_refl _)
      by_cases hlt : i < l.length
      · obtain ⟨ad, rfl, hadb, hany, hhas⟩ := hrd'.prt i hlt
        have hbl := hfb.lt
        have hf2 : FB (wr.alloc (.cells (bools (n.length + 1) fun _ => false) 4)) wr.heap.size (n.length + 1) fun _ => false := heap_alloc_new wr _
        have hfb2 := hfb.alloc (.cells (bools (n.length + 1) fun _ => false) 4)
        have hb2 := hb.alloc hbs (.cells (bools (n.length + 1) fun _ => false) 4)
        have hsz2 : wr.heap.size < (wr.alloc (.cells (bools (n.length + 1) fun _ => false) 4)).heap.size := by simp
        clear hrd'
        go_wp2_with fail
        obtain ⟨wo, rfl⟩ : ∃ wo : World, wo = wr := ⟨_, rfl⟩
        go_loopw [11] (fun s11 wx => ∃ j : Nat, j ≤ n.length + 1 ∧ s11 = .int .i64 j ∧ Below w1.heap.size w1 wx ∧ FB wx b (n.length + 1) (begs l n i) ∧ FB wx wo.heap.size (n.length + 1) (begs2 l n i j)) (fun s11 _ => n.length + 1 - (intOf s11).toNat)
        case atStart => exact ⟨0, by omega, rfl, hb2, hfb2, hf2.congr (fun c _ => by simp [begs2])⟩
        case round =>
          have hne : b ≠ wo.heap.size := by omega
          clear hfb2 hf2 hb2 hb hfb hbl hsz2 hany hhas
          obtain ⟨j, hj, rfl, hb, hfb, hfn⟩ := hrel
          obtain ⟨ad', e, _, hany', hhas⟩ := (hrd.below hb (Nat.le_refl _)).prt i hlt
          cases e
          have HRD := Lib.hid hrd
          clear hrd
          by_cases hjn : j ≤ n.length
          · obtain ⟨a, ha⟩ : ∃ a, l[i].any = a := ⟨_, rfl⟩
            rw [ha] at hany'
            have HA := Lib.hid ha
            have hfz := hfn.frozen j
            have hcn := hfn.cell j (by omega)
            clear ha
            cases a with
            | true =>
              clear hhas
              have hcj := hfb.cell j (by omega)
              obtain ⟨u, hu⟩ : ∃ u, begs l n i j = u := ⟨_, rfl⟩
              rw [hu] at hcj
              have HU := Lib.hid hu
              clear hu
              cases j with
              | zero =>
                cases u
                all_goals
                  go_wp2_with fail
                  go_roundw
                  case rel => exact ⟨1, by omega, rfl, hb.setCell hbs _, hfb.far hne _, begs2_set hfn (by omega) _ (by rw [begs_any0 l n i hlt HA.out, HU.out])⟩
                  case measure => simp [intOf]
              | succ j =>
                have hcp := hfn.cell j (by omega)
                have ev : begs2 l n i (j + 1) j = begs l n (i + 1) j := by unfold begs2; rw [if_pos (by omega)]
                rw [ev] at hcp
                obtain ⟨v, hv⟩ : ∃ v, begs l n (i + 1) j = v := ⟨_, rfl⟩
                rw [hv] at hcp
                have HV := Lib.hid hv
                obtain ⟨x, hx⟩ : ∃ x, n[j] = x := ⟨_, rfl⟩
                have hbx : ∀ h, (ByteArray.mk n.toArray)[j]'h = x := fun _ => hx
                have HX := Lib.hid hx
                have hbr := begs_any l n i j hlt (by omega) HA.out
                rw [HU.out, HV.out, HX.out] at hbr
                have HB := Lib.hid hbr
                clear hv ev hx hbr
                obtain ⟨y, hy⟩ : ∃ y : Bool, ((x.toNat : Int) != 47) = y := ⟨_, rfl⟩
                have hxy : (x != 47) = y := by
                  rw [← hy, Bool.eq_iff_iff]
                  simp only [bne_iff_ne, ne_eq]
                  have := u8_is x 47 (by omega)
                  exact not_congr this.symm
                have HXY := Lib.hid hxy
                clear hxy
                cases u <;> cases v <;> cases y
                all_goals
                  go_wp2_with fail
                  go_roundw
                  case rel => exact ⟨j + 2, by omega, by go_num, hb.setCell hbs _, hfb.far hne _, begs2_set hfn (by omega) _ (by rw [HB.out, HXY.out]; rfl)⟩
                  case measure => simp [intOf]; omega
            | false =>
              cases j with
              | zero =>
                have hbr := begs_one0 l n i hlt HA.out
                have HB := Lib.hid hbr
                clear hbr hhas
                go_upto_region 15 with fail
                go_region
                all_goals go_wp2_with fail
                all_goals go_roundw
                case rel => exact ⟨1, by omega, rfl, (hb.setCell (p := ⟨wo.heap.size, 0, none⟩) hbs _).drew, FB.far (w := wr) hfb hne _, begs2_set (w := wr) hfn (by omega) _ HB.out.symm⟩
                case measure => simp [intOf]
              | succ j =>
                have hcp := hfb.cell j (by omega)
                obtain ⟨v, hv⟩ : ∃ v, begs l n i j = v := ⟨_, rfl⟩
                rw [hv] at hcp
                obtain ⟨x, hx⟩ : ∃ x, n[j] = x := ⟨_, rfl⟩
                have hbx : ∀ h, (ByteArray.mk n.toArray)[j]'h = x := fun _ => hx
                have hx256 := x.toNat_lt
                have hbr := begs_one l n i j hlt (by omega) HA.out
                rw [hv, hx] at hbr
                replace hhas := hhas x.toNat hx256
                obtain ⟨u, hu⟩ : ∃ u, l[i].has x.toNat = u := ⟨_, rfl⟩
                rw [hu] at hbr hhas
                have HB := Lib.hid hbr
                clear hv hu hx hbr
                have hlj : j < n.length := by omega
                cases v <;> cases u
                all_goals
                  go_upto_region 15 with fail
                  go_region
                  all_goals go_wp2_with fail
                  all_goals go_roundw
                  case rel => exact ⟨j + 2, by omega, by go_num, (hb.setCell (p := ⟨wo.heap.size, j + 1, none⟩) hbs _).drew, FB.far (w := wr) hfb hne _, begs2_set (w := wr) hfn (by omega) _ (by rw [HB.out]; rfl)⟩
                  case measure => simp [intOf]; omega
          · have hfn2 : FB wr wo.heap.size (n.length + 1) (begs l n (i + 1)) := hfn.congr fun c hc => by
              unfold begs2
              rw [if_pos (by omega)]
            clear hfn hany' hhas
            go_wp2_with fail
            go_roundw
            case rel => exact ⟨i + 1, wo.heap.size, by omega, rfl, by go_num, hb, hbs, hfn2⟩
            case measure => simp [intOf]; omega
      · have hil : i = l.length := by omega
        have hc := hfb.cell n.length (by omega)
        have e : begs l n i n.length = mt l n := by unfold begs; rw [hil, List.take_length, List.take_length]
        rw [e] at hc
        have HE := Lib.hid e
        clear e hil
        go_wp2_with fail
        go_ret2
        exact ⟨rfl, hb1.trans (hb.mono hbs1)⟩
end Go.Proofs.YtkaoechldamggaaGreatDoor
