/- files.has. -/
import Derived.Test.YtkaoechldamggaaGreatDoorH
import Derived.Test.YtkaoechldamggaaGreatDoorN
namespace Go.Proofs.YtkaoechldamggaaGreatDoor
open Go Go.RowKit
set_option maxRecDepth 100000

theorem Rd.prt {w : World} {B : Nat} {A : Option Addr} {l : List Prt} (h : Rd w B A (prtCells l)) (i : Nat) (hi : i < l.length) :
    ∃ ad, A = some ad ∧ ad.block < B ∧ w.cell? (ad.add (i * 257)) = some (.bool l[i].any) ∧ ∀ c, c < 256 → w.cell? ⟨(ad.add (i * 257)).block, (ad.add (i * 257)).off + 1 + c, none⟩ = some (.bool (l[i].has c)) := by
  have g0 := flat_get prtCell 257 prtCell_length l i 0 (by omega) hi
  have e0 : (prtCell l[i])[0]? = some (.bool l[i].any) := by rw [prtCell, Array.getElem?_toList, prtArr_zero]
  obtain ⟨ad, e, hb, h0, h1⟩ := h.at i 257 (u := .bool l[i].any) (by rw [← e0]; exact g0)
  refine ⟨ad, e, hb, h0, fun c hc => ?_⟩
  have g1 := flat_get prtCell 257 prtCell_length l i (1 + c) (by omega) hi
  have e1 : (prtCell l[i])[1 + c]? = some (.bool (l[i].has c)) := by rw [prtCell, Array.getElem?_toList, prtArr_get _ _ _ hc]
  rw [e1] at g1
  have := h1 (1 + c) _ (by omega) g1
  rw [Nat.add_assoc]
  exact this

set_option maxHeartbeats 4000000 in
theorem phas (A : Option Addr) (cp : Nat) (l : List Prt) (n : Bs) (w : World) (hr : Rd w w.heap.size A (prtCells l)) (hl : l.length ≤ 1048576) (hn : n.length ≤ 1048576) (hf : FinePt l) :
    Calls Tryz.prog 37 #[.slice A l.length cp, .string ⟨n.toArray⟩] w fun e w' => e = .returned (.bool (mt l n)) ∧ Below w.heap.size w w' := by
  obtain ⟨r, hr0⟩ : ∃ r, mt l n = r := ⟨_, rfl⟩
  have HI := Lib.hid (hr0 ▸ GInv.start l n)
  rw [hr0]
  clear hr0
  have HF := Lib.hid hf
  clear hf
  go_enter Tryz.func37, Tryz.ntmps37
  go_wp2_with fail
  go_loopg [5, 6, 7, 8] (gmeas l.length n.length 0 0 0 + 1) (fun gk si sk ss sf wr => ∃ i k z fr : Nat, si = .int .i64 i ∧ sk = .int .i64 k ∧ ss = .int .i64 ((z : Int) - 1) ∧ sf = .int .i64 fr ∧ Below w.heap.size w wr ∧ Hid (GInv l n r i k z fr ∧ gmeas l.length n.length i z fr < gk))
  case atStart => exact ⟨0, 0, 0, 0, rfl, rfl, rfl, rfl, Below.refl _ _, HI.out, by omega⟩
  case round =>
    clear HI
    obtain ⟨i, k, z, fr, rfl, rfl, rfl, rfl, hb, HI⟩ := hrel
    have hr' := hr.below hb (Nat.le_refl _)
    obtain ⟨g, rfl⟩ : ∃ g, gk = g + 1 := ⟨gk - 1, by have := HI.2; omega⟩
    have hil := HI.1.il
    have hkn := HI.1.kn
    have hzi := HI.1.zi
    have hfk := HI.1.fk
    by_cases hk : k < n.length
    · obtain ⟨c, hc⟩ : ∃ c, n[k] = c := ⟨_, rfl⟩
      have hbx : ∀ h, (ByteArray.mk n.toArray)[k]'h = c := fun _ => hc
      have HC := Lib.hid hc
      have hc256 := c.toNat_lt
      clear hc
      by_cases hi : i < l.length
      · obtain ⟨ad, rfl, hadb, h0, h1⟩ := hr'.prt i hi
        replace h1 := h1 c.toNat hc256
        clear hr' hr
        obtain ⟨b, hbb⟩ : ∃ b, l[i].any = b := ⟨_, rfl⟩
        rw [hbb] at h0
        have HB := Lib.hid hbb
        clear hbb
        cases b with
        | true =>
          go_wp2_with fail
          go_roundg g
          case rel =>
            refine ⟨i + 1, k, i + 1, k, by go_num, rfl, by go_num, rfl, hb, HI.1.any HF.out hi HB.out, ?_⟩
            have := gmeas_any (L := l.length) (N := n.length) hi hzi hfk
            have := HI.2
            omega
          case measure => omega
        | false =>
          obtain ⟨b2, hbb⟩ : ∃ b, l[i].has c.toNat = b := ⟨_, rfl⟩
          rw [hbb] at h1
          have HB2 := Lib.hid hbb
          clear hbb
          cases b2 with
          | true =>
            go_upto_region 8 with fail
            go_quiet (fail)
            go_wp2_with fail
            go_roundg g
            case rel =>
              refine ⟨i + 1, k + 1, z, fr, by go_num, by go_num, rfl, rfl, blN hb _, HI.1.one hi hk HB.out (by rw [HC.out]; exact HB2.out), ?_⟩
              have := gmeas_one (L := l.length) (N := n.length) (z := z) (fr := fr) hi
              have := HI.2
              omega
            case measure => omega
          | false =>
            have hst : ∀ hi : i < l.length, l[i].any = false ∧ l[i].has n[k].toNat = false := fun _ => ⟨HB.out, by rw [HC.out]; exact HB2.out⟩
            have HST := Lib.hid hst
            clear hst
            by_cases hz : z = 0
            · have HE := Lib.hid (HI.1.fail hk HST.out (.inl hz))
              subst hz
              clear HST HF HI
              go_upto_region 8 with fail
              go_quiet (fail)
              go_wp2_with fail
              go_ret
              exact ⟨ret_bool HE.out.symm, blN hb _⟩
            · have hfn : fr < n.length := by omega
              obtain ⟨y, hy⟩ : ∃ y, n[fr] = y := ⟨_, rfl⟩
              have hby : ∀ h, (ByteArray.mk n.toArray)[fr]'h = y := fun _ => hy
              have HY := Lib.hid hy
              have hz1 : (1 : Int) ≤ z := by omega
              clear hy
              cases h47 : ((y.toNat : Int) == 47)
              · have hne : ((y.toNat : Int) != 47) = true := by simp [bne, h47]
                have HB := Lib.hid (HI.1.back hz hk HST.out (by rw [HY.out]; exact eqb_false (n := 47) (by omega) h47))
                have HG := Lib.hid HI.2
                clear HST HI h47
                go_upto_region 8 with fail
                go_quiet (fail)
                go_wp2_with fail
                go_roundg g
                case rel =>
                  refine ⟨z, fr + 1, z, fr + 1, by go_num, by go_num, rfl, by go_num, blN hb _, HB, ?_⟩
                  have h3 := gmeas_back (L := l.length) (N := n.length) (i := i) (z := z) hfn
                  have h4 := HG.out
                  omega
                case measure => omega
              · have hne : ((y.toNat : Int) != 47) = false := by simp [bne, h47]
                have HE := Lib.hid (HI.1.fail hk HST.out (.inr (by rw [HY.out]; exact eqb_true (n := 47) (by omega) h47)))
                clear HST HI h47
                go_upto_region 8 with fail
                go_quiet (fail)
                go_wp2_with fail
                go_ret
                exact ⟨ret_bool HE.out.symm, blN hb _⟩
      · clear hr' hr
        have hst : ∀ hi : i < l.length, l[i].any = false ∧ l[i].has n[k].toNat = false := fun h => absurd h hi
        have HST := Lib.hid hst
        clear hst
        by_cases hz : z = 0
        · have HE := Lib.hid (HI.1.fail hk HST.out (.inl hz))
          subst hz
          clear HST HF HI
          go_upto_region 8 with fail
          go_quiet (fail)
          go_wp2_with fail
          go_ret
          exact ⟨ret_bool HE.out.symm, blN hb _⟩
        · have hfn : fr < n.length := by omega
          obtain ⟨y, hy⟩ : ∃ y, n[fr] = y := ⟨_, rfl⟩
          have hby : ∀ h, (ByteArray.mk n.toArray)[fr]'h = y := fun _ => hy
          have HY := Lib.hid hy
          have hz1 : (1 : Int) ≤ z := by omega
          clear hy
          cases h47 : ((y.toNat : Int) == 47)
          · have hne : ((y.toNat : Int) != 47) = true := by simp [bne, h47]
            have HB := Lib.hid (HI.1.back hz hk HST.out (by rw [HY.out]; exact eqb_false (n := 47) (by omega) h47))
            have HG := Lib.hid HI.2
            clear HST HI h47
            go_upto_region 8 with fail
            go_quiet (fail)
            go_wp2_with fail
            go_roundg g
            case rel =>
              refine ⟨z, fr + 1, z, fr + 1, by go_num, by go_num, rfl, by go_num, blN hb _, HB, ?_⟩
              have h3 := gmeas_back (L := l.length) (N := n.length) (i := i) (z := z) hfn
              have h4 := HG.out
              omega
            case measure => omega
          · have hne : ((y.toNat : Int) != 47) = false := by simp [bne, h47]
            have HE := Lib.hid (HI.1.fail hk HST.out (.inr (by rw [HY.out]; exact eqb_true (n := 47) (by omega) h47)))
            clear HST HI h47
            go_upto_region 8 with fail
            go_quiet (fail)
            go_wp2_with fail
            go_ret
            exact ⟨ret_bool HE.out.symm, blN hb _⟩
    · have HE := Lib.hid (HI.1.last (by omega)).symm
      clear HI hr' HF
      go_wp2_with fail
      go_loopw [5] (fun si wx => ∃ i : Nat, i ≤ l.length ∧ si = .int .i64 i ∧ Below w.heap.size w wx ∧ Hid (mt (l.drop i) [] = r)) (fun si _ => l.length - (intOf si).toNat)
      case atStart => exact ⟨i, hil, rfl, hb, HE⟩
      case round =>
        clear HE hil hzi hb
        obtain ⟨i, hil, rfl, hb, HE⟩ := hrel
        have hr' := hr.below hb (Nat.le_refl _)
        by_cases hi : i < l.length
        · obtain ⟨ad, rfl, hadb, h0, h1⟩ := hr'.prt i hi
          clear hr' hr h1
          obtain ⟨b, hbb⟩ : ∃ b, l[i].any = b := ⟨_, rfl⟩
          rw [hbb] at h0
          have HB := Lib.hid hbb
          clear hbb
          cases b with
          | true =>
            have HE2 := Lib.hid ((mt_end_any l i hi HB.out).symm.trans HE)
            go_wp2_with fail
            go_roundw
            case rel => exact ⟨i + 1, by omega, by go_num, hb, HE2⟩
            case measure => simp [intOf]; omega
          | false =>
            have HE2 := Lib.hid ((mt_end_one l i hi HB.out).symm.trans HE)
            have hne : ((i : Int) == (l.length : Int)) = false := by simp; omega
            go_wp2_with fail
            go_ret
            exact ⟨ret_bool HE2.out, hb⟩
        · have HE2 := Lib.hid ((mt_end_nil l i (by omega)).symm.trans HE)
          have hne : ((i : Int) == (l.length : Int)) = true := by simp; omega
          clear hr' hr
          go_wp2_with fail
          go_ret
          exact ⟨ret_bool HE2.out, hb⟩
end Go.Proofs.YtkaoechldamggaaGreatDoor
