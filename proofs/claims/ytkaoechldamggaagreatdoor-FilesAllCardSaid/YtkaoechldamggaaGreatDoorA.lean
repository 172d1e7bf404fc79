/- The reference's functions on paths: below, join, magic, split, look: what each call returns. -/
import Derived.Test.YtkaoechldamggaaGreatDoorProg
import Derived.Test.YtkaoechldamggaaGreatDoorV
namespace Go.Proofs.YtkaoechldamggaaGreatDoor
open Go Go.RowKit

theorem mk_get (l : Bs) (k : Nat) (h : k < (ByteArray.mk l.toArray).size) : (ByteArray.mk l.toArray)[k]'h = l[k]'h := rfl
theorem mk_cut (l : Bs) (a b : Nat) : ((ByteArray.mk l.toArray).extract a b).toList = (l.drop a).take (b - a) := by
  rw [ByteArray.extract_mk, ByteArray.toList_mk]
theorem byte_is (c : UInt8) (n : Nat) (h : n < 256) : ((c.toNat : Int) == (n : Int)) = (c == UInt8.ofNat n) := by
  rw [Bool.eq_iff_iff]
  simp only [beq_iff_eq]
  constructor
  · intro e
    have : c.toNat = n := by omega
    rw [← this]; simp
  · rintro rfl
    simp; omega

theorem isBelow_raw (d p : Bs) (h : (d == [46]) = false) (hlt : d.length < p.length) (he : ((ByteArray.mk p.toArray).extract 0 d.length).toList = d) (hk : d.length < (ByteArray.mk p.toArray).size) :
    isBelow d p = (((ByteArray.mk p.toArray)[d.length]'hk).toNat == (47 : Int)) := by
  rw [isBelow_not d p h, mk_get, Bool.eq_iff_iff, decide_eq_true_eq, prefix_slash]
  rw [mk_cut] at he
  have hb := byte_is (p[d.length]) 47 (by omega)
  rw [show ((47 : Nat) : Int) = 47 from rfl] at hb
  rw [hb]
  simp only [List.drop_zero, Nat.sub_zero] at he
  simp only [beq_iff_eq]
  exact ⟨fun ⟨_, _, h⟩ => h, fun h => ⟨hlt, he, h⟩⟩
theorem isBelow_raw2 (d p : Bs) (h : (d == [46]) = false) (he : ¬ ((ByteArray.mk p.toArray).extract 0 d.length).toList = d) : isBelow d p = false := by
  rw [isBelow_not d p h, decide_eq_false_iff_not, prefix_slash]
  rw [mk_cut] at he
  simp only [List.drop_zero, Nat.sub_zero] at he
  rintro ⟨_, h, _⟩
  exact he h
theorem isBelow_raw3 (d p : Bs) (h : (d == [46]) = false) (he : ¬ d.length < p.length) : isBelow d p = false := by
  rw [isBelow_not d p h, decide_eq_false_iff_not, prefix_slash]
  rintro ⟨h, _, _⟩
  exact he h

theorem ret_bool {a b : Bool} (h : a = b) : Ending.returned (.bool a) = .returned (.bool b) := by rw [h]

theorem rbelow (d p : Bs) (w : World) (_hs : d.length ≤ 140737488351232) (_hp : p.length ≤ 140737488351232) :
    Calls Tryz.prog 39 #[.string ⟨d.toArray⟩, .string ⟨p.toArray⟩] w fun e w' => e = .returned (.bool (isBelow d p)) ∧ w = w' := by
  have e1 := Lib.hid (isBelow_dot d p)
  have e2 := Lib.hid (isBelow_raw d p)
  have e3 := Lib.hid (isBelow_raw2 d p)
  have e4 := Lib.hid (isBelow_raw3 d p)
  generalize isBelow d p = r at *
  go_enter Tryz.func39, Tryz.ntmps39
  go_wp2
  all_goals go_ret
  · exact ⟨ret_bool (e1.out ‹_›).symm, rfl⟩
  · exact ⟨ret_bool (e2.out ‹_› ‹_› ‹_› (by simpa)).symm, rfl⟩
  · exact ⟨ret_bool (e3.out ‹_› ‹_›).symm, rfl⟩
  · exact ⟨ret_bool (e4.out ‹_› ‹_›).symm, rfl⟩

theorem join_raw (d n : Bs) (h : (d == [46]) = true) : join d n = n := by
  have h : d = [46] := by simpa using h
  unfold join; rw [if_pos h]
theorem join_raw2 (d n : Bs) (h : (d == [46]) = false) : join d n = d ++ [47] ++ n := by
  have h : d ≠ [46] := by simpa using h
  unfold join; rw [if_neg h]
theorem ret_str {a b : ByteArray} (h : a = b) : Ending.returned (.string a) = .returned (.string b) := by rw [h]

theorem rjoin (d p : Bs) (w : World) (_hs : d.length ≤ 140737488351232) (_hp : p.length ≤ 140737488351232) :
    Calls Tryz.prog 51 #[.string ⟨d.toArray⟩, .string ⟨p.toArray⟩] w fun e w' => e = .returned (.string ⟨(join d p).toArray⟩) ∧ w = w' := by
  have e1 := Lib.hid (join_raw d p)
  have e2 := Lib.hid (join_raw2 d p)
  generalize join d p = r at *
  go_enter Tryz.func51, Tryz.ntmps51
  go_wp2
  all_goals go_ret
  · exact ⟨ret_str (by rw [e1.out ‹_›]), rfl⟩
  · exact ⟨ret_str (by rw [e2.out ‹_›]; simp [ByteArray.mk_append_mk]), rfl⟩

theorem pjoin (d p : Bs) (w : World) (_hs : d.length ≤ 140737488351232) (_hp : p.length ≤ 140737488351232) :
    Calls Tryz.prog 71 #[.string ⟨d.toArray⟩, .string ⟨p.toArray⟩] w fun e w' => e = .returned (.string ⟨(join d p).toArray⟩) ∧ w = w' := by
  have e1 := Lib.hid (join_raw d p)
  have e2 := Lib.hid (join_raw2 d p)
  generalize join d p = r at *
  go_enter Tryz.func71, Tryz.ntmps71
  go_wp2
  all_goals go_ret
  · exact ⟨ret_str (by rw [e1.out ‹_›]), rfl⟩
  · exact ⟨ret_str (by rw [e2.out ‹_›]; simp [ByteArray.mk_append_mk]), rfl⟩

theorem u8_is (x : UInt8) (n : Nat) (_hn : n < 256) : (x.toNat : Int) = (n : Int) ↔ x = UInt8.ofNat n := by
  constructor
  · intro h
    have : x.toNat = n := by omega
    rw [← this]; simp
  · rintro rfl
    simp; omega
theorem magic_step (s : Bs) (k : Nat) (h : k < s.length) (x : UInt8) (hx : s[k] = x) : magic (s.drop k) = (isMagic x || magic (s.drop (k + 1))) := by
  rw [List.drop_eq_getElem_cons h, hx]; rfl
theorem isMagic_raw (x : UInt8) : isMagic x = decide ((x.toNat : Int) = 42 ∨ (x.toNat : Int) = 63 ∨ (x.toNat : Int) = 91 ∨ (x.toNat : Int) = 92) := by
  have h1 : (x.toNat : Int) = 42 ↔ x = 42 := u8_is x 42 (by omega)
  have h2 : (x.toNat : Int) = 63 ↔ x = 63 := u8_is x 63 (by omega)
  have h3 : (x.toNat : Int) = 91 ↔ x = 91 := u8_is x 91 (by omega)
  have h4 : (x.toNat : Int) = 92 ↔ x = 92 := u8_is x 92 (by omega)
  rw [Bool.eq_iff_iff, decide_eq_true_eq, h1, h2, h3, h4]
  simp [isMagic]

theorem rmagic (s : Bs) (w : World) (hs : s.length ≤ 140737488351232) :
    Calls Tryz.prog 72 #[.string ⟨s.toArray⟩] w fun e w' => e = .returned (.bool (magic s)) ∧ w = w' := by
  obtain ⟨r, hr⟩ : ∃ r, magic s = r := ⟨_, rfl⟩
  rw [hr]
  go_enter Tryz.func72, Tryz.ntmps72
  go_wp2_with fail
  go_loop [3] (fun i => ∃ k : Nat, k ≤ s.length ∧ i = .int .i64 k ∧ magic (s.drop k) = r) (fun i => s.length - (intOf i).toNat)
  case atStart => exact ⟨0, Nat.zero_le _, rfl, hr⟩
  case round =>
    obtain ⟨k, hk, rfl, hm⟩ := hrel
    clear hr
    by_cases hlt : k < s.length
    · obtain ⟨x, hx⟩ : ∃ x, s[k] = x := ⟨_, rfl⟩
      have hb : ∀ h, (ByteArray.mk s.toArray)[k]'h = x := fun _ => hx
      have H := Lib.hid ((magic_step s k hlt x hx).symm.trans hm)
      have HM := Lib.hid (isMagic_raw x)
      clear hm hx
      go_wp2_with fail
      · go_ret; exact ⟨ret_bool (by rw [← H.out, HM.out]; simp [*]), rfl⟩
      · go_ret; exact ⟨ret_bool (by rw [← H.out, HM.out]; simp [*]), rfl⟩
      · go_ret; exact ⟨ret_bool (by rw [← H.out, HM.out]; simp [*]), rfl⟩
      · go_ret; exact ⟨ret_bool (by rw [← H.out, HM.out]; simp_all), rfl⟩
      · go_round
        case rel => exact ⟨k + 1, by omega, by go_num, by rw [← H.out, HM.out]; simp_all⟩
        case measure => simp [intOf]; omega
    · have e : s.drop k = [] := List.drop_eq_nil_of_le (by omega)
      rw [e] at hm
      have H := Lib.hid hm
      clear hm e
      go_wp2_with fail
      go_ret
      exact ⟨ret_bool H.out, rfl⟩
end Go.Proofs.YtkaoechldamggaaGreatDoor
