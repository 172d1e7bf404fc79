/- The reference's functions: split, Elements, look: what each call returns. -/
import Derived.Test.YtkaoechldamggaaGreatDoorP
import Derived.Test.YtkaoechldamggaaGreatDoorA
namespace Go.Proofs.YtkaoechldamggaaGreatDoor
open Go Go.RowKit

theorem byte47 {x : UInt8} (h : ((x.toNat : Int) == 47) = true) : x = 47 := (u8_is x 47 (by omega)).1 (by simpa using h)
theorem byte47_not {x : UInt8} (h : ((x.toNat : Int) == 47) = false) : x ≠ 47 := fun e => by subst e; simp at h

set_option maxRecDepth 100000 in
theorem relements (s : Bs) (w : World) (hs : s.length ≤ 1099511627776) :
    Calls Tryz.prog 54 #[.string ⟨s.toArray⟩] w fun e w' => ∃ v, e = .returned v ∧ w'.ownsRow w.heap.size 9 1 v (elems s).length (strCells (elems s)) ∧ Below w.heap.size w w' := by
  go_enter Tryz.func54, Tryz.ntmps54
  go_wp2_with fail
  go_loopw [3, 4, 5] (fun l a i wr => ∃ (at_ k : Nat) (xs : List Bs), at_ ≤ k ∧ k ≤ s.length + 1 ∧ xs.length ≤ k ∧ a = .int .i64 at_ ∧ i = .int .i64 k ∧ wr.ownsRow w.heap.size 9 1 l xs.length (strCells xs) ∧ Below w.heap.size w wr ∧ ElInv s at_ k xs) (fun _ _ i _ => s.length + 1 - (intOf i).toNat)
  case atStart => exact ⟨0, 0, [], by omega, by omega, by simp, rfl, rfl, World.ownsRow_nil _ _ _ _, Below.refl _ _, ElInv.start s⟩
  case round =>
    obtain ⟨a, k, xs, hak, hk, hxs, rfl, rfl, hown, hb, hinv⟩ := hrel
    have hbs := hb.size
    have HI := Lib.hid hinv
    clear hinv
    by_cases hlt : k < s.length
    · obtain ⟨x, hx⟩ : ∃ x, s[k] = x := ⟨_, rfl⟩
      have hbx : ∀ h, (ByteArray.mk s.toArray)[k]'h = x := fun _ => hx
      have HX := Lib.hid hx
      clear hx
      have hne : ((k : Int) == (s.length : Int)) = false := by simp; omega
      by_cases h47 : ((x.toNat : Int) == 47) = true
      · go_wp2_with (at_builtin; go_must (refine push_str _ _ _ _ _ rfl xs _ _ (ByteArray.extract_mk _ _ _) rfl rfl hown rfl (by omega) hbs ?_); intro v' w1 hown' hg')
        go_roundw
        case rel => exact ⟨k + 1, k + 1, _, by omega, by omega, by simp; omega, by go_num, by go_num, hown', hb.grown hg' hbs (fun q hq => (hown.lt q hq).1), HI.out.cut hak hlt (HX.out.trans (byte47 h47))⟩
        case measure => simp [intOf]; omega
      · have h47 : ((x.toNat : Int) == 47) = false := by simpa using h47
        go_wp2_with fail
        go_roundw
        case rel => exact ⟨a, k + 1, xs, by omega, by omega, by omega, rfl, by go_num, hown, hb, HI.out.plain hak hlt (by rw [HX.out]; exact byte47_not h47)⟩
        case measure => simp [intOf]; omega
    · by_cases he : k = s.length
      · have HE := Lib.hid he
        have hne : ((k : Int) == (s.length : Int)) = true := by simp; omega
        have hle : k ≤ s.length := by omega
        clear he
        go_wp2_with (at_builtin; go_must (refine push_str _ _ _ _ _ rfl xs _ _ (ByteArray.extract_mk _ _ _) rfl rfl hown rfl (by omega) hbs ?_); intro v' w1 hown' hg')
        go_roundw
        case rel => exact ⟨k + 1, k + 1, _, by omega, by have := HE.out; omega, by simp; omega, by go_num, by go_num, hown', hb.grown hg' hbs (fun q hq => (hown.lt q hq).1), HI.out.last HE.out⟩
        case measure => simp [intOf]; omega
      · have hgt : s.length < k := by omega
        go_wp2_with fail
        go_ret
        have e := HI.out.done hgt
        rw [e]
        exact ⟨_, rfl, hown, hb⟩
theorem ret_two {a a' b b' : Value} (h : a = a') (h2 : b = b') : Ending.returned (.tuple #[a, b]) = .returned (.tuple #[a', b']) := by rw [h, h2]
theorem mk_of {b : ByteArray} {l : Bs} (h : b = ⟨l.toArray⟩) : Value.string b = .string ⟨l.toArray⟩ := by rw [h]

set_option maxRecDepth 100000 in
theorem rsplit (s : Bs) (w : World) (hs : s.length ≤ 1099511627776) :
    Calls Tryz.prog 73 #[.string ⟨s.toArray⟩] w fun e w' => e = .returned (.tuple #[.string ⟨(split2 s).1.toArray⟩, .string ⟨(split2 s).2.toArray⟩]) ∧ Below w.heap.size w w' := by
  go_enter Tryz.func73, Tryz.ntmps73
  go_wp2_with fail
  go_loopw [4] (fun i wr => wr = w ∧ ∃ k : Nat, k ≤ s.length ∧ i = .int .i64 ((k : Int) - 1) ∧ Hid (∀ j (hj : j < s.length), k ≤ j → s[j] ≠ 47)) (fun i _ => (intOf i + 1).toNat)
  case atStart => exact ⟨rfl, s.length, by omega, rfl, fun j hj h => by omega⟩
  case round =>
    obtain ⟨rfl, k, hk, rfl, HI⟩ := hrel
    cases k with
    | zero =>
      go_wp2_with fail
      go_ret2
      have e := split2_none s ((lastSl_none s).2 fun j hj => HI j hj (by omega))
      rw [e]
      exact ⟨rfl, Below.refl _ _⟩
    | succ k =>
      have ek : ((k + 1 : Nat) : Int) - 1 = (k : Int) := by omega
      rw [ek]
      have hlt : k < s.length := by omega
      obtain ⟨x, hx⟩ : ∃ x, s[k] = x := ⟨_, rfl⟩
      have hbx : ∀ h, (ByteArray.mk s.toArray)[k]'h = x := fun _ => hx
      have HX := Lib.hid hx
      clear hx ek
      by_cases h47 : ((x.toNat : Int) == 47) = true
      · by_cases h0 : ((k : Int) == 0) = true
        · have hp := split2_zero s (by
            have e0 : k = 0 := by simpa using h0
            rw [← e0]
            exact lastSl_at s k hlt (HX.out.trans (byte47 h47)) fun j hj hlt => HI j hj (by omega))
          have HP := Lib.hid hp
          clear hp
          go_wp2_with fail
          go_quiet (fail)
          go_wp2_with fail
          go_ret2
          rw [HP.out]
          exact ⟨ret_two rfl (mk_of (cut_all _ _)), blN (Below.refl _ _) _⟩
        · have h0 : ((k : Int) == 0) = false := by simpa using h0
          have hp := split2_at s k (lastSl_at s k hlt (HX.out.trans (byte47 h47)) fun j hj hlt => HI j hj (by omega)) (by
            have : (k : Int) ≠ 0 := by simpa using h0
            omega)
          have HP := Lib.hid hp
          clear hp
          go_wp2_with fail
          go_quiet (fail)
          go_wp2_with fail
          go_ret2
          rw [HP.out]
          exact ⟨ret_two (mk_of (cut_to _ _)) (mk_of (cut_all _ _)), blN (Below.refl _ _) _⟩
      · have h47 : ((x.toNat : Int) == 47) = false := by simpa using h47
        go_wp2_with fail
        go_roundw
        case rel => exact ⟨trivial, k, by omega, by go_num, fun j hj hle => by
          rcases Nat.lt_or_ge k j with h | h
          · exact HI j hj (by omega)
          · have : j = k := by omega
            subst this
            rw [HX.out]; exact byte47_not h47⟩
        case measure => simp [intOf]

theorem rlook (A : Option Addr) (c : Nat) (es : List Ent) (caps : Int) (blind : Bool) (p : Bs) (w : World) (hr : Rd w w.heap.size A (entCells es)) (hm : es.length ≤ 256) (hps : p.length ≤ 140737488351232) (hpl : ∀ e ∈ es, e.path.length ≤ 140737488351232) :
    Calls Tryz.prog 46 #[.agg #[.slice A es.length c, .int .u32 caps, .bool blind], .string ⟨p.toArray⟩] w fun e w' => e = .returned (.tuple #[.int .i64 (kindOf (look es p)), .string ⟨(dataOf (look es p)).toArray⟩]) ∧ Below w.heap.size w w' := by
  by_cases hp : (p == [46]) = true
  · rw [look_dot es p hp]
    go_enter Tryz.func46, Tryz.ntmps46
    go_wp2_with fail
    go_ret2
    exact ⟨rfl, by go_grown⟩
  · have hp : (p == [46]) = false := by simpa using hp
    obtain ⟨r, hr0⟩ : ∃ r, look es p = r := ⟨_, rfl⟩
    rw [hr0]
    rw [look_in es p hp] at hr0
    have HR := Lib.hid hr0
    clear hr0
    go_enter Tryz.func46, Tryz.ntmps46
    go_wp2_with fail
    go_loopw [13] (fun i wr => ∃ k : Nat, k ≤ es.length ∧ i = .int .i64 k ∧ Below w.heap.size w wr ∧ Hid (lookIn (es.drop k) p = r)) (fun i _ => es.length - (intOf i).toNat)
    case atStart => exact ⟨0, Nat.zero_le _, rfl, by go_grown, HR.out⟩
    case round =>
      obtain ⟨k, hk, rfl, hb, HI⟩ := hrel
      have hr' := hr.below hb (Nat.le_refl _)
      have hbs := hb.size
      by_cases hlt : k < es.length
      · obtain ⟨ad, rfl, hadb, h1, h2⟩ := hr'.ent k hlt
        clear hr' hr
        by_cases hq : (es[k].path == p) = true
        · have HI := Lib.hid (HI.symm.trans (lookIn_hit es p k hlt hq))
          go_wp2_with fail
          go_quiet (fail)
          go_wp2_with fail
          go_ret2
          rw [HI.out]
          exact ⟨rfl, blN (hb.alloc hbs _) _⟩
        · have hq : (es[k].path == p) = false := by simpa using hq
          obtain ⟨b, hbl⟩ : ∃ b, isBelow p es[k].path = b := ⟨_, rfl⟩
          have HB := Lib.hid hbl
          have hsz : es[k].path.length ≤ 140737488351232 := hpl _ (List.getElem_mem hlt)
          clear hbl
          cases b with
          | true =>
            have HI := Lib.hid (HI.symm.trans (lookIn_dir es p k hlt hq HB.out))
            go_wp2_with (go_at_call 39; refine (rbelow _ _ _ hps hsz).mono ?_; rw [HB.out]; rintro e w' ⟨rfl, rfl⟩)
            go_ret2
            rw [HI.out]
            exact ⟨rfl, hb.alloc hbs _⟩
          | false =>
            have HI := Lib.hid ((lookIn_on es p k hlt hq HB.out).symm.trans HI)
            go_wp2_with (go_at_call 39; refine (rbelow _ _ _ hps hsz).mono ?_; rw [HB.out]; rintro e w' ⟨rfl, rfl⟩)
            go_roundw
            case rel => exact ⟨k + 1, by omega, by go_num, hb.alloc hbs _, HI.out⟩
            case measure => simp [intOf]; omega
      · have HI := Lib.hid (HI.symm.trans (lookIn_end es p k (by omega)))
        go_wp2_with fail
        go_ret2
        rw [HI.out]
        exact ⟨rfl, hb⟩
end Go.Proofs.YtkaoechldamggaaGreatDoor
