/- files.magic. -/
import Derived.Test.YtkaoechldamggaaGreatDoorAK
import Derived.Lib.OthersKept
import Derived.Outline
namespace Go.Proofs.YtkaoechldamggaaGreatDoor
open Go Go.RowKit Go.Lib
set_option maxRecDepth 100000

theorem noAny_more {s : ByteArray} {i : Nat} (h : Lib.NoAny s.data.toList [42, 63, 91, 92] i) (hi : i < s.size) (ha : 128 ≤ (s[i]'hi).toNat) : Lib.NoAny s.data.toList [42, 63, 91, 92] (i + (Utf8.decode s i).2) := by
  intro j b hj hb
  by_cases hlt : j < i
  · exact h j b hlt hb
  · obtain ⟨h1, h2⟩ := decode_bytes s i hi ha (j - i) (by omega)
    have e : i + (j - i) = j := by omega
    rw [e] at h1 h2
    rw [Lib.data_getElem? s j h1] at hb
    cases hb
    have h3 : s.get! j = s[j] := by simpa using get_at s j h1
    rw [h3] at h2
    simp only [List.contains_eq_any_beq, List.any_eq_false]
    intro c hc e
    have e : s[j] = c := by simpa using e
    rw [e] at h2
    simp only [List.mem_cons, List.not_mem_nil, or_false] at hc
    rcases hc with rfl | rfl | rfl | rfl <;> exact absurd h2 (by decide)

theorem decode_end (s : ByteArray) (i : Nat) (hi : i < s.size) (ha : 128 ≤ (s[i]'hi).toNat) : i + (Utf8.decode s i).2 ≤ s.size := by
  have h1 := (decode_high s i hi ha).2
  obtain ⟨h2, _⟩ := decode_bytes s i hi ha ((Utf8.decode s i).2 - 1) (by omega)
  omega

set_option maxHeartbeats 1000000 in
theorem pIndexAny_short (s : ByteArray) (w : World) (h8 : s.size ≤ 8) :
    Calls Tryz.prog 105 #[.string s, .string ⟨#[42, 63, 91, 92]⟩] w fun e w' => e = .returned (.int .i64 (Lib.indexAny s.data.toList [42, 63, 91, 92])) ∧ Below w.heap.size w w' := by
  have h8z : decide ((8 : Int) < (s.size : Int)) = false := decide_eq_false (by omega)
  have c127 := fun n W => Tryz.strings_shouldUseASCIISet n W
  go_enter Tryz.func105, Tryz.ntmps105
  go_wp2_with (go_at_call 127; refine (c127 _ _).mono ?_; rintro e w1 ⟨rfl, hw1⟩; rw [hw1, h8z])
  go_loopg [9, 10] s.size (fun g _ _ wx => ∃ i : Nat, i ≤ s.size ∧ s.size - i ≤ g ∧ Below w.heap.size w wx ∧ wx.heap[w.heap.size]? = some (.stringIter s i) ∧ Lib.NoAny s.data.toList [42, 63, 91, 92] i)
  case atStart => exact ⟨0, by omega, by omega, (Below.refl _ _).alloc (Nat.le_refl _) _, World.iter_heap _ _ _, Lib.NoAny.zero _ _⟩
  case round =>
    obtain ⟨i, hi, hig, hb, hk, hno⟩ := hrel
    have HN := Lib.hid hno
    clear hno c127
    have hbs := hb.size
    by_cases hlt : i < s.size
    · obtain ⟨x, hx⟩ : ∃ x : UInt8, s[i]'hlt = x := ⟨_, rfl⟩
      have hxl : s.data.toList[i]? = some x := by rw [← hx]; exact Lib.data_getElem? s i hlt
      have hlow := fun j (hj : w.heap.size ≤ j) => below_iterAt hb hj s
      by_cases hx8 : x.toNat < 128
      · have hnx := fun ty => run_next_ascii_at (P := Tryz.prog) wr w.heap.size s i ty hk hlt (by rw [hx]; exact hx8)
        rw [hx] at hnx
        have hk2 := iterAt_heap wr w.heap.size s i (i + 1) hk
        have hb2 := hlow _ (Nat.le_refl _) (i + 1)
        have Hx := Lib.hid hxl
        have hcon := Lib.contains_iff_indexByte [42, 63, 91, 92] x
        have hback : ((x.toNat : Int)).toNat.toUInt8 = x := by simp
        have cr := fun W => Tryz.strings_IndexRune_ascii ⟨#[42, 63, 91, 92]⟩ (x.toNat : Int) W (by omega) (by omega)
        rw [hback, show (ByteArray.mk #[42, 63, 91, 92]).data.toList = [42, 63, 91, 92] from rfl] at cr
        clear hxl hx hlow
        cases hin : [42, 63, 91, 92].contains x
        · rw [hin] at hcon
          have hlt0 : ¬ ((0 : Int) ≤ Lib.indexByte [42, 63, 91, 92] x) := of_decide_eq_false hcon.symm
          have HI := Lib.hid hin
          clear hcon hback hin
          go_wp2_with (go_at_call 126; refine (cr _).mono ?_; rintro e w1 ⟨rfl, hw1⟩; rw [hw1])
          go_roundg (gk - 1)
          case measure => omega
          case rel => exact ⟨i + 1, by omega, by omega, hb2, hk2, HN.out.succ Hx.out HI.out⟩
        · rw [hin] at hcon
          have hge0 : (0 : Int) ≤ Lib.indexByte [42, 63, 91, 92] x := of_decide_eq_true hcon.symm
          have HI := Lib.hid hin
          clear hcon hback hin
          go_wp2_with (go_at_call 126; refine (cr _).mono ?_; rintro e w1 ⟨rfl, hw1⟩; rw [hw1])
          go_returns
          exact ⟨by rw [Lib.indexAny_hit HN.out Hx.out HI.out]; rfl, hb2⟩
      · have ha : 128 ≤ (s[i]'hlt).toNat := by rw [hx]; omega
        have hnx := fun ty => run_next_any_at (P := Tryz.prog) wr w.heap.size s i ty hk hlt
        have HN2 := Lib.hid (noAny_more HN.out hlt ha)
        have hend := decode_end s i hlt ha
        obtain ⟨hd1, hd2⟩ := decode_high s i hlt ha
        have hd3 := decode_le s i
        obtain ⟨r, hr⟩ : ∃ r, (Utf8.decode s i).1 = r := ⟨_, rfl⟩
        obtain ⟨n, hn⟩ : ∃ n, (Utf8.decode s i).2 = n := ⟨_, rfl⟩
        rw [hr] at hnx hd1 hd3
        rw [hn] at hnx HN2 hend hd2
        have hk2 := iterAt_heap wr w.heap.size s i (i + n) hk
        have hb2 := hlow _ (Nat.le_refl _) (i + n)
        have cr := fun W => pIndexRune r hd1 hd3 W
        have hs2 := hb2.size
        clear hxl hx hlow hr hn ha
        go_wp2_with (go_at_call 126; refine (cr _).mono ?_; rintro e w1 ⟨rfl, hb3⟩; have hk3 := (hb3.block _ (Array.getElem?_eq_some_iff.1 hk2).1).trans hk2; have hb4 := hb2.trans (hb3.mono (by omega)))
        go_roundg (gk - 1)
        case measure => omega
        case rel => exact ⟨i + n, by omega, by omega, hb4, hk3, HN2.out⟩
    · have hnx := run_next_end_at (P := Tryz.prog) wr w.heap.size s i (hk := hk) (h := hlt)
      have : i = s.size := by omega
      go_wp2_with fail
      go_returns
      exact ⟨by rw [Lib.indexAny_none (by rw [← Lib.size_eq, ← this]; exact HN.out)]; rfl, hb⟩

theorem pIndexAny (s : ByteArray) (w : World) (hs : s.size < 4294967281) :
    Calls Tryz.prog 105 #[.string s, .string ⟨#[42, 63, 91, 92]⟩] w fun e w' => e = .returned (.int .i64 (Lib.indexAny s.data.toList [42, 63, 91, 92])) ∧ Below w.heap.size w w' := by
  by_cases h8 : s.size ≤ 8
  · exact pIndexAny_short s w h8
  · refine (Tryz.strings_IndexAny_long (zero_of_info (n := 256) (by kernel_rfl)).1 s ⟨#[42, 63, 91, 92]⟩ w (by decide) (by omega) hs (by decide) ?_).mono fun e w' ⟨h1, h2⟩ => ⟨h1, ?_⟩
    · intro j b hb
      have := List.mem_of_getElem? hb
      simp only [List.mem_cons, List.not_mem_nil, or_false] at this
      rcases this with rfl | rfl | rfl | rfl <;> decide
    · rw [h2]
      exact ((Below.refl _ _).alloc (Nat.le_refl _) _).alloc (by simp) _

theorem any_magic (l : Bs) : Lib.containsAny l [42, 63, 91, 92] = magic l := by
  unfold Lib.containsAny magic
  induction l with
  | nil => rfl
  | cons x l ih =>
    have hm : [42, 63, 91, 92].contains x = isMagic x := by
      simp only [List.contains_eq_any_beq, List.any_cons, List.any_nil, Bool.or_false]
      rfl
    have hg := Lib.indexAny_ge [42, 63, 91, 92] l
    have e0 : Lib.indexAny (x :: l) [42, 63, 91, 92] = if isMagic x = true then 0 else if (Lib.indexAny l [42, 63, 91, 92] == -1) = true then -1 else Lib.indexAny l [42, 63, 91, 92] + 1 := by rw [← hm]; rfl
    rw [List.any_cons]
    cases hx : isMagic x
    · rw [Bool.false_or, ← ih]
      refine decide_eq_decide.2 ?_
      rw [e0, hx, if_neg (by decide)]
      by_cases e : Lib.indexAny l [42, 63, 91, 92] = -1
      · rw [e]; decide
      · have e' : (Lib.indexAny l [42, 63, 91, 92] == -1) = false := by simpa using e
        rw [e', if_neg (by decide)]
        omega
    · rw [Bool.true_or]
      refine decide_eq_true ?_
      rw [e0, hx, if_pos rfl]
      decide

theorem pmagic (p : Bs) (w : World) (hp : p.length ≤ 1048576) :
    Calls Tryz.prog 69 #[.string ⟨p.toArray⟩] w fun e w' => e = .returned (.bool (magic p)) ∧ Below w.heap.size w w' := by
  have c1 : ∀ W, Calls Tryz.prog 91 #[.string ⟨p.toArray⟩, .string ⟨#[42, 63, 91, 92]⟩] W fun e w' => e = .returned (.bool (magic p)) ∧ Below W.heap.size W w' := fun W => by
    have c := pIndexAny ⟨p.toArray⟩ W (by simp [ByteArray.size]; omega)
    rw [str_mk] at c
    rw [← any_magic]
    unfold Lib.containsAny
    go_enter Tryz.func91, Tryz.ntmps91
    go_wp2_with (go_at_call 105; refine c.mono ?_; rintro e w1 ⟨rfl, hb1⟩)
    go_returns
    exact ⟨rfl, hb1⟩
  go_enter Tryz.func69, Tryz.ntmps69
  go_wp2_with (go_at_call 91; refine (c1 _).mono ?_; rintro e w1 ⟨rfl, hb1⟩)
  go_returns
  exact ⟨rfl, hb1⟩
end Go.Proofs.YtkaoechldamggaaGreatDoor
