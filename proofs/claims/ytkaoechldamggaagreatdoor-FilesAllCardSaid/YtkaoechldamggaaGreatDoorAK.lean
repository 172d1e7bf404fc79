/- files.magic: strings.ContainsAny of any bytes for the four signs of a pattern. -/
import Derived.Test.YtkaoechldamggaaGreatDoorL
import Derived.Laws.RangeAny
import Derived.Laws.Runes
import Derived.WalkMore
import Derived.Outline
import Derived.Shelf.Strings.IndexAnyAll
namespace Go.Proofs.YtkaoechldamggaaGreatDoor
open Go Go.RowKit
set_option maxRecDepth 100000

/-- The bytes that a decoded rune of many bytes takes are all high. -/
theorem decode_bytes (s : ByteArray) (pos : Nat) (h : pos < s.size) (ha : 128 ≤ (s[pos]'h).toNat) : ∀ k, k < (Utf8.decode s pos).2 → pos + k < s.size ∧ 128 ≤ (s.get! (pos + k)).toNat := by
  have hn : ¬ (s[pos]'h).toNat < 128 := by omega
  have h0 : pos + 0 < s.size ∧ 128 ≤ (s.get! (pos + 0)).toNat := ⟨h, by rw [get_at s pos h]; exact ha⟩
  simp only [Utf8.decode, get_at s pos h, hn, if_false]
  intro k
  have one : k < 1 → pos + k < s.size ∧ 128 ≤ (s.get! (pos + k)).toNat := fun hk => by
    have : k = 0 := by omega
    subst this; exact h0
  split
  · rename_i h1
    simp only [Bool.and_eq_true, decide_eq_true_eq, beq_iff_eq] at h1
    split
    · intro hk
      have : k = 0 ∨ k = 1 := by simp only at hk; omega
      rcases this with rfl | rfl
      · exact h0
      · exact ⟨h1.2.1, by have := h1.2.2; omega⟩
    · exact one
  · split
    · rename_i h1
      simp only [Bool.and_eq_true, decide_eq_true_eq, beq_iff_eq] at h1
      split
      · intro hk
        have : k = 0 ∨ k = 1 ∨ k = 2 := by simp only at hk; omega
        rcases this with rfl | rfl | rfl
        · exact h0
        · exact ⟨h1.1.2.1, by have := h1.1.2.2; omega⟩
        · exact ⟨h1.2.1, by have := h1.2.2; omega⟩
      · exact one
    · split
      · rename_i h1
        simp only [Bool.and_eq_true, decide_eq_true_eq, beq_iff_eq] at h1
        split
        · intro hk
          have : k = 0 ∨ k = 1 ∨ k = 2 ∨ k = 3 := by simp only at hk; omega
          rcases this with rfl | rfl | rfl | rfl
          · exact h0
          · exact ⟨h1.1.1.2.1, by have := h1.1.1.2.2; omega⟩
          · exact ⟨h1.1.2.1, by have := h1.1.2.2; omega⟩
          · exact ⟨h1.2.1, by have := h1.2.2; omega⟩
        · exact one
      · exact one

theorem signs_low : ∀ i (h : i < 4), ((⟨#[42, 63, 91, 92]⟩ : ByteArray)[i]'h).toNat < 128 := by decide

/-- A high byte is none of the signs. -/
theorem idx_high (l : Bs) (hl : ∀ b ∈ l, b.toNat < 128) (c : UInt8) (hc : 128 ≤ c.toNat) : Lib.indexByte l c = -1 := by
  have h := Lib.contains_iff_indexByte l c
  have h1 := Lib.indexByte_ge l c
  have h2 : l.contains c = false := by
    simp only [List.contains_eq_any_beq, List.any_eq_false]
    intro b hb e
    have := hl b hb
    have : c = b := by simpa using e
    subst this; omega
  rw [h2] at h
  have := of_decide_eq_false h.symm
  omega

theorem encode_two (r : Nat) (hv : Lib.validRune r = true) (h : 128 ≤ r) : ∃ (x : UInt8) (l : List UInt8) (c : UInt8), Utf8.encode (r : Int) = ⟨(x :: (l ++ [c])).toArray⟩ ∧ l.length ≤ 2 ∧ 128 ≤ c.toNat := by
  have hv2 : Utf8.valid (r : Int) = true := by
    rw [validRune_eq]; simpa [validRune, Lib.validRune] using hv
  have hc : ¬ r < 128 := by omega
  unfold Utf8.encode
  simp only [hv2, if_true, Int.toNat_natCast, hc, if_false]
  have h1 : 128 ≤ (UInt8.ofNat (128 + r % 64)).toNat := by simp; omega
  split
  · exact ⟨_, [], _, rfl, by simp, h1⟩
  · split
    · exact ⟨_, [_], _, rfl, by simp, h1⟩
    · exact ⟨_, [_, _], _, rfl, by simp, h1⟩

set_option maxHeartbeats 1000000 in
/-- strings.IndexRune of a rune of many bytes in the signs. -/
theorem pIndexRune (r : Nat) (h : 128 ≤ r) (hr : r ≤ 2147483647) (w : World) :
    Calls Tryz.prog 126 #[.string ⟨#[42, 63, 91, 92]⟩, .int .i32 (r : Int)] w fun e w' => e = .returned (.int .i64 (-1)) ∧ Below w.heap.size w w' := by
  have n1 : decide ((0 : Int) ≤ (r : Int)) = true := by simp
  have n2 : decide ((r : Int) < 128) = false := by simp; omega
  by_cases h3 : (r : Int) = 65533
  · rw [h3]
    clear n1 n2
    go_enter Tryz.func126, Tryz.ntmps126
    go_wp2_with fail
    go_loopg [5, 6] 4 (fun g _ _ wx => ∃ i : Nat, i + g = 4 ∧ wx = w.iter ⟨#[42, 63, 91, 92]⟩ i)
    case atStart => exact ⟨0, by omega, rfl⟩
    case round =>
      obtain ⟨i, hig, rfl⟩ := hrel
      cases gk with
      | zero =>
        obtain rfl : i = 4 := by omega
        have hnx := run_next_end (P := Tryz.prog) w ⟨#[42, 63, 91, 92]⟩ 4
        go_wp2
        go_returns
        exact ⟨rfl, (Below.refl _ _).alloc (Nat.le_refl _) _⟩
      | succ g =>
        have hnx := fun ty => run_next_ascii (P := Tryz.prog) w ⟨#[42, 63, 91, 92]⟩ i ty (show i < 4 by omega) (signs_low i (by omega))
        have h4 : i = 0 ∨ i = 1 ∨ i = 2 ∨ i = 3 := by omega
        rcases h4 with rfl | rfl | rfl | rfl
        all_goals
          go_wp2
          go_roundg g
          case measure => omega
          case rel => exact ⟨_, by omega, rfl⟩
  · have n3 : ((r : Int) == 65533) = false := by simpa using h3
    cases hv : Lib.validRune (r : Int) with
    | false =>
      have cv := fun W => Tryz.utf8_ValidRune (r : Int) W
      rw [hv] at cv
      go_enter Tryz.func126, Tryz.ntmps126
      go_wp2_with (go_at_call 142; refine (cv _).mono ?_; rintro e w1 ⟨rfl, rfl⟩)
      go_returns
      exact ⟨rfl, by go_grown⟩
    | true =>
      have cv := fun W => Tryz.utf8_ValidRune (r : Int) W
      rw [hv] at cv
      obtain ⟨x, l, c, he, hl, hc⟩ := encode_two r hv h
      have hcv0 : ∀ W, (convert 21 9 (.int .i32 (r : Int))).run Tryz.prog W = .ok (.string ⟨(x :: (l ++ [c])).toArray⟩) W := fun W => by rw [← he]; exact run_convert_int_string W 21 9 .i32 r rfl rfl
      have h63 : ((63 : Int) == (c.toNat : Int)) = false := by simp; omega
      have h91 : ((91 : Int) == (c.toNat : Int)) = false := by simp; omega
      have h92 : ((92 : Int) == (c.toNat : Int)) = false := by simp; omega
      have cb : ∀ (l : Bs) (hl : ∀ b ∈ l, b.toNat < 128) W, Calls Tryz.prog 141 #[.string ⟨l.toArray⟩, .int .u8 (c.toNat : Int)] W fun e w' => e = .returned (.int .i64 (-1)) ∧ w' = W := fun l hl W => by
        have h := Tryz.strings_IndexByte ⟨l.toArray⟩ (c.toNat : Int) W
        have e : ((c.toNat : Int)).toNat.toUInt8 = c := by simp
        rw [e, str_mk, idx_high l hl c hc] at h
        exact h
      have cb2 := cb [91, 92] (by decide)
      have cb3 := cb [92] (by decide)
      have cb4 := cb [] (by decide)
      clear cb
      have hcv := he
      clear he hv hcv0
      rcases l with _ | ⟨a, _ | ⟨b, _ | ⟨d, l⟩⟩⟩
      · go_enter Tryz.func126, Tryz.ntmps126
        go_wp2_with (go_at_call 142; refine (cv _).mono ?_; rintro e w1 ⟨rfl, rfl⟩)
        go_step3
        go_wp2_with fail
        go_loopg [9] 0 (fun g s9 wx => s9 = .int .i64 1 ∧ wx = w1)
        case atStart => exact ⟨rfl, rfl⟩
        case round =>
          obtain ⟨rfl, rfl⟩ := hrel
          go_wp2_with fail
          go_step3
          go_wp2_with fail
          clear cb3 cb4 h91 h92 cv hcv n1 n2 n3 h3 hl
          have hn : (((({ data := #[42, 63, 91, 92] } : ByteArray)[1]'(by show 1 < 4; decide)).toNat : Int) != ((({ data := #[x, c] } : ByteArray)[1]'(by show 1 < 2; decide)).toNat : Int)) = true := by show (!((63 : Int) == (c.toNat : Int))) = true; rw [h63]; rfl
          go_region
          go_wp2_with fail
          clear hn
          go_region_with (go_at_call 141; refine (cb2 _).mono ?_; rintro e w1 ⟨rfl, rfl⟩)
          all_goals
            go_wp2_with fail
            rw [Exit.noGoto_ret]
            go_wp2_with fail
            rw [Exit.noGoto_ret]
            go_returns
            exact ⟨rfl, by go_grown⟩
      · go_enter Tryz.func126, Tryz.ntmps126
        go_wp2_with (go_at_call 142; refine (cv _).mono ?_; rintro e w1 ⟨rfl, rfl⟩)
        go_step3
        go_wp2_with fail
        go_loopg [9] 0 (fun g s9 wx => s9 = .int .i64 2 ∧ wx = w1)
        case atStart => exact ⟨rfl, rfl⟩
        case round =>
          obtain ⟨rfl, rfl⟩ := hrel
          go_wp2_with fail
          go_step3
          go_wp2_with fail
          clear cb2 cb4 h63 h92 cv hcv n1 n2 n3 h3 hl
          have hn : (((({ data := #[42, 63, 91, 92] } : ByteArray)[2]'(by show 2 < 4; decide)).toNat : Int) != ((({ data := #[x, a, c] } : ByteArray)[2]'(by show 2 < 3; decide)).toNat : Int)) = true := by show (!((91 : Int) == (c.toNat : Int))) = true; rw [h91]; rfl
          go_region
          go_wp2_with fail
          clear hn
          go_region_with (go_at_call 141; refine (cb3 _).mono ?_; rintro e w1 ⟨rfl, rfl⟩)
          all_goals
            go_wp2_with fail
            rw [Exit.noGoto_ret]
            go_wp2_with fail
            rw [Exit.noGoto_ret]
            go_returns
            exact ⟨rfl, by go_grown⟩
      · go_enter Tryz.func126, Tryz.ntmps126
        go_wp2_with (go_at_call 142; refine (cv _).mono ?_; rintro e w1 ⟨rfl, rfl⟩)
        go_step3
        go_wp2_with fail
        go_loopg [9] 0 (fun g s9 wx => s9 = .int .i64 3 ∧ wx = w1)
        case atStart => exact ⟨rfl, rfl⟩
        case round =>
          obtain ⟨rfl, rfl⟩ := hrel
          go_wp2_with fail
          go_step3
          go_wp2_with fail
          clear cb2 cb3 h63 h91 cv hcv n1 n2 n3 h3 hl
          have hn : (((({ data := #[42, 63, 91, 92] } : ByteArray)[3]'(by show 3 < 4; decide)).toNat : Int) != ((({ data := #[x, a, b, c] } : ByteArray)[3]'(by show 3 < 4; decide)).toNat : Int)) = true := by show (!((92 : Int) == (c.toNat : Int))) = true; rw [h92]; rfl
          go_region
          go_wp2_with fail
          clear hn
          go_region_with (go_at_call 141; refine (cb4 _).mono ?_; rintro e w1 ⟨rfl, rfl⟩)
          all_goals
            go_wp2_with fail
            rw [Exit.noGoto_ret]
            go_wp2_with fail
            rw [Exit.noGoto_ret]
            go_returns
            exact ⟨rfl, by go_grown⟩
      · simp at hl
end Go.Proofs.YtkaoechldamggaaGreatDoor
