/- slices.Sort and slices.Compact of a slice of names that the call owns. -/
import Derived.Test.YtkaoechldamggaaGreatDoorShelf
import Derived.Test.YtkaoechldamggaaGreatDoorH
import Derived.Sort.OwnSorted
namespace Go.Proofs.YtkaoechldamggaaGreatDoor
open Go Go.RowKit Go.Sort
set_option maxRecDepth 100000

def sortL (xs : List Bs) : List Bs := xs.mergeSort fun x y => decide (x ≤ y)
theorem strCells_enc (xs : List Bs) : strCells xs = xs.map encStr := rfl

theorem psort (xs : List Bs) (v : Value) (base : Nat) (W : World) (hown : W.ownsRow base 9 1 v xs.length (strCells xs)) (hn : xs.length ≤ 1099511627776) :
    Calls Tryz.prog 89 #[v] W fun e w' => e = .returned (.tuple #[]) ∧ w'.ownsRow base 9 1 v xs.length (strCells (sortL xs)) ∧ W.grownBy w' v.ownBlock := by
  have hl : (sortL xs).length = xs.length := by simp [sortL]
  rcases hown.2 with ⟨rfl, h0⟩ | ⟨g, cap, cur, rfl, hbase, hb, h1, h2, h3, h4⟩
  · have hx : xs = [] := by simpa [strCells] using h0
    subst hx
    refine (Tryz.slices_Sort_string_none none 0 W).mono ?_
    rintro e w' ⟨rfl, rfl⟩
    exact ⟨rfl, by rw [show sortL ([] : List Bs) = [] from by simp [sortL]]; exact hown, ⟨rfl, rfl, rfl, Nat.le_refl _, fun _ _ _ => rfl⟩⟩
  · refine (Tryz.slices_Sort_string g 0 cap xs W (holds_of_block hb (by simpa [strCells_enc] using h4)) (Array.getElem?_eq_some_iff.1 hb).1 (by omega)).mono ?_
    rintro e w' ⟨rfl, n, os, rfl⟩
    exact ⟨rfl, ownsRow_sorted (ts := sortL xs) hl hbase hb h1 h2 h3, grownBy_sorted _⟩

theorem pcompact (xs : List Bs) (v : Value) (base : Nat) (W : World) (hown : W.ownsRow base 9 1 v xs.length (strCells xs)) (hn : xs.length ≤ 1099511627776) :
    Calls Tryz.prog 90 #[v] W fun e w' => ∃ A c, e = .returned (.slice A (Lib.compact xs).length c) ∧ Rd w' w'.heap.size A (strCells (Lib.compact xs)) ∧ W.grownBy w' v.ownBlock := by
  rcases hown.2 with ⟨rfl, h0⟩ | ⟨g, cap, cur, rfl, hbase, hb, h1, h2, h3, h4⟩
  · have hx : xs = [] := by simpa [strCells] using h0
    subst hx
    refine (Tryz.slices_Compact_string_empty none 0 W).mono ?_
    rintro e w' ⟨rfl, rfl⟩
    exact ⟨none, 0, rfl, Rd.nil _ _ _, ⟨rfl, rfl, rfl, Nat.le_refl _, fun _ _ _ => rfl⟩⟩
  · have hle : (Lib.compact xs).length ≤ xs.length := Lib.compact_length_le xs
    refine (Tryz.slices_Compact_string g 0 cap xs W (holds_of_block hb (by simpa [strCells_enc] using h4)) (by omega) h1).mono ?_
    rintro e w' ⟨rfl, n, rfl⟩
    have ho := ownsRow_sorted (n := n) (os := #[]) (ts := Lib.compact xs ++ List.replicate (xs.length - (Lib.compact xs).length) []) (by simp; omega) hbase hb h1 h2 h3
    have hg := grownBy_sorted (w := W) (g := g) (n := n) (os := #[]) (Lib.compact xs ++ List.replicate (xs.length - (Lib.compact xs).length) []).toArray
    rw [grow_empty] at ho hg
    refine ⟨some ⟨g, 0, none⟩, cap, rfl, ?_, hg⟩
    obtain ⟨A', c', e1, -, -, hr⟩ := own_rd ho
    cases e1
    intro j u hj
    refine hr j u ?_
    rw [List.map_append, List.getElem?_append_left]
    · exact hj
    · have := (List.getElem?_eq_some_iff.1 hj).1
      simpa [strCells] using this
end Go.Proofs.YtkaoechldamggaaGreatDoor
