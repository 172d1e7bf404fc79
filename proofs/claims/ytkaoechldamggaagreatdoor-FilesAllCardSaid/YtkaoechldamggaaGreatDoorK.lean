/- files.Match; the reference's Match. -/
import Derived.Test.YtkaoechldamggaaGreatDoorI
import Derived.Test.YtkaoechldamggaaGreatDoorJ
import Derived.StillTailTactics
import Derived.Deep.OwnRows
namespace Go.Proofs.YtkaoechldamggaaGreatDoor
open Go Go.RowKit
set_option maxRecDepth 100000

/-- Has the pattern the name; none: it is no pattern. -/
def matchS (p n : Bs) : Option Bool := (parseAll p).map fun l => mt l n
def retMatch : Option Bool → Value
  | none => .tuple #[.bool false, .int .i64 375]
  | some b => .tuple #[.bool b, .int .i64 0]

theorem parse_len (p : Bs) : ∀ (n k : Nat) (l : List Prt), parse p n k = some l → l.length ≤ n
  | 0, k, l, h => by
    rw [parse] at h
    split at h
    · cases h; simp
    · cases h
  | n + 1, k, l, h => by
    rw [parse] at h
    have cons : ∀ (x : Prt) (o : Nat), (parse p n o).map (x :: ·) = some l → l.length ≤ n + 1 := by
      intro x o ho
      cases e : parse p n o with
      | none => rw [e] at ho; cases ho
      | some l' =>
        rw [e] at ho
        cases ho
        have := parse_len p n o l' e
        simp; omega
    split at h
    · cases h; simp
    · split at h
      · exact cons _ _ h
      · split at h
        · exact cons _ _ h
        · split at h
          · split at h
            · cases h
            · exact cons _ _ h
          · split at h
            · split at h
              · cases h
              · exact cons _ _ h
            · exact cons _ _ h

theorem pmatch (p n : Bs) (w : World) (hp : p.length ≤ 1048576) (hn : n.length ≤ 1048576) :
    Calls Tryz.prog 12 #[.string ⟨p.toArray⟩, .string ⟨n.toArray⟩] w fun e w' => e = .returned (retMatch (matchS p n)) ∧ Below w.heap.size w w' := by
  cases hq : parseAll p with
  | none =>
    have e : matchS p n = none := by unfold matchS; rw [hq]; rfl
    rw [e]
    have c1 : ∀ W, Calls Tryz.prog 36 #[.string ⟨p.toArray⟩] W fun e w' => e = .returned (.tuple #[.slice none 0 0, .bool false]) ∧ Below W.heap.size W w' := fun W => by
      have h := pparts p W hp
      rw [hq] at h
      exact h
    have C1 := Lib.hid c1
    clear c1 e hq
    go_enter Tryz.func12, Tryz.ntmps12
    go_wp2_with (go_at_call 36; refine (C1.out _).mono ?_; rintro e w1 ⟨rfl, hb1⟩)
    go_ret2
    exact ⟨rfl, hb1⟩
  | some l =>
    have e : matchS p n = some (mt l n) := by unfold matchS; rw [hq]; rfl
    rw [e]
    have hl := parse_len p _ _ _ hq
    have hf := parse_fine p _ _ _ hq
    have c1 : ∀ W, Calls Tryz.prog 36 #[.string ⟨p.toArray⟩] W fun e w' => (∃ v, e = .returned (.tuple #[v, .bool true]) ∧ w'.ownsRow W.heap.size 137 257 v l.length (prtCells l)) ∧ Below W.heap.size W w' := fun W => by
      have h := pparts p W hp
      rw [hq] at h
      exact h
    have C1 := Lib.hid c1
    have HF := Lib.hid hf
    clear c1 e hq hf
    go_enter Tryz.func12, Tryz.ntmps12
    go_wp2_with (first | (go_at_call 36; refine (C1.out _).mono ?_; rintro e w1 ⟨⟨v, rfl, hown⟩, hb1⟩; obtain ⟨A, cp, rfl, _, _, hrd⟩ := own_rd hown; have HRD := Lib.hid hrd; clear hrd hown) | (go_at_call 37; refine (phas _ _ _ _ _ HRD.out (by omega) hn HF.out).mono ?_; rintro e w2 ⟨rfl, hb2⟩))
    go_ret2
    exact ⟨rfl, hb1.trans (hb2.mono hb1.size)⟩

/-- A row of m bools in a block. -/
def bools (m : Nat) (f : Nat → Bool) : Array Value := (Array.range m).map fun c => .bool (f c)
def FB (w : World) (b m : Nat) (f : Nat → Bool) : Prop := w.heap[b]? = some (.cells (bools m f) 4 (0, 0))
theorem bools_get (m : Nat) (f : Nat → Bool) (k : Nat) (h : k < m) : (bools m f)[k]? = some (.bool (f k)) := by simp [bools, h]
theorem bools_set (m : Nat) (f : Nat → Bool) (k : Nat) (v : Bool) (h : k < m) : (bools m f).setIfInBounds k (.bool v) = bools m (upd f k v) := by
  apply Array.ext_getElem?
  intro i
  rw [Array.getElem?_setIfInBounds]
  by_cases h1 : k = i
  · subst h1
    rw [if_pos rfl, if_pos (by simp [bools, h]), bools_get _ _ _ h]
    simp [upd]
  · rw [if_neg h1]
    by_cases hi : i < m
    · rw [bools_get _ _ _ hi, bools_get _ _ _ hi]
      have : i ≠ k := fun e => h1 e.symm
      simp [upd, this]
    · rw [Array.getElem?_eq_none (by simp [bools]; omega), Array.getElem?_eq_none (by simp [bools]; omega)]
theorem bools_congr (m : Nat) (f g : Nat → Bool) (h : ∀ c, c < m → f c = g c) : bools m f = bools m g := by
  unfold bools
  apply Array.ext
  · simp
  · intro i h1 h2
    simp at h1 h2 ⊢
    exact h i h1
section
variable {w w' : World} {b m : Nat} {f : Nat → Bool}
theorem FB.lt (h : FB w b m f) : b < w.heap.size := (Array.getElem?_eq_some_iff.1 h).1
theorem FB.cell (h : FB w b m f) (k : Nat) (hk : k < m) : w.cell? ⟨b, k, none⟩ = some (.bool (f k)) := by rw [cell_of_row w b _ _ 4 (0, 0) h, bools_get _ _ _ hk]
theorem FB.frozen (h : FB w b m f) (i : Nat) : w.frozen? ⟨b, i, none⟩ = false := by simp only [FB] at h; simp [World.frozen?, h]
theorem FB.set_ (h : FB w b m f) (k : Nat) (v : Bool) (hk : k < m) : FB (w.setCell ⟨b, k, none⟩ (.bool v)) b m (upd f k v) := by
  unfold FB at h ⊢
  rw [← bools_set _ _ _ _ hk]
  simp [World.setCell, Array.getElem?_modify, h]
theorem FB.far (h : FB w b m f) {p : Addr} (hp : b ≠ p.block) (u : Value) : FB (w.setCell p u) b m f := (Below.heap_setCell w p u b hp).trans h
theorem FB.alloc (h : FB w b m f) (o : Obj) : FB (w.alloc o) b m f := (Below.heap_alloc w o b h.lt).trans h
theorem FB.congr (h : FB w b m f) {g : Nat → Bool} (hg : ∀ c, c < m → f c = g c) : FB w b m g := by
  unfold FB at h ⊢; rw [h, bools_congr m f g hg]
end
theorem run_make_bools (n : Nat) (hn : n ≤ 2097152) (w : World) : (Instr.makeSlice 83 (.int .i64 (n : Int)) (.int .i64 (n : Int))).run Tryz.prog w = .ok (.slice (some ⟨w.heap.size, 0, none⟩) n n) (w.alloc (.cells (bools n fun _ => false) 4)) := by
  have h := run_make_row' (P := Tryz.prog) 83 4 (.bool false) 1 Tryz.underlying83 (by kernel_rfl) rfl .i64 .i64 n (by omega) (by omega) w
  rw [h]
  have e : madeCells #[.bool false] n = bools n fun _ => false := by
    unfold madeCells bools
    apply Array.ext
    · simp
    · intro i h1 h2
      simp [Nat.mod_one]
  rw [e]
end Go.Proofs.YtkaoechldamggaaGreatDoor
