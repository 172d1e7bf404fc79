/- Words for memory: rows of cells read as lists; what a call leaves as it was. Plain lemmas over worlds; no program in sight. -/
import Derived.Handy
import Derived.Lib.Hide
import Derived.WalkSpells
import Derived.Deep.LoopGhost
import Derived.Deep.QuietTactic
import Derived.BigQuiet
import Derived.Deep.DeepFit
import Derived.Deep.DeepCutAuto
import Derived.Deep.CutBlock
import Derived.Test.YtkaoechldamggaaGreatDoorS
namespace Go.Proofs.YtkaoechldamggaaGreatDoor
open Go Go.RowKit

theorem cut_all (s : Bs) (a : Nat) : (ByteArray.mk s.toArray).extract a s.length = ⟨(s.drop a).toArray⟩ := by
  rw [ByteArray.extract_mk, List.take_of_length_le (by rw [List.length_drop]; omega)]
theorem cut_to (s : Bs) (k : Nat) : (ByteArray.mk s.toArray).extract 0 k = ⟨(s.take k).toArray⟩ := by rw [ByteArray.extract_mk]; simp
theorem blN {B : Nat} {a w : World} (h : Below B a w) (n : Nat) : Below B a (w.drewN n) := ⟨h.os, h.tape, h.output, h.size, h.block⟩

theorem add_block (a : Addr) (n : Nat) : (a.add n).block = a.block := by unfold Addr.add; split <;> rfl
theorem add_lit (g j : Nat) : (⟨g, 0, none⟩ : Addr).add j = ⟨g, j, none⟩ := by unfold Addr.add; split <;> simp_all
theorem add_more (ad : Addr) (m j : Nat) (hj : 0 < j) : ad.add (m + j) = ⟨(ad.add m).block, (ad.add m).off + j, none⟩ := by
  unfold Addr.add
  split <;> split <;> simp_all <;> omega

/-- The row that begins at A holds the cells xs; it lies below block B. -/
def Rd (w : World) (B : Nat) (A : Option Addr) (xs : List Value) : Prop :=
  ∀ j u, xs[j]? = some u → ∃ ad, A = some ad ∧ ad.block < B ∧ w.cell? (ad.add j) = some u

theorem Rd.nil (w : World) (B : Nat) (A : Option Addr) : Rd w B A [] := fun j u h => by simp at h
theorem Rd.below {w w' : World} {B B' : Nat} {A : Option Addr} {xs : List Value} (h : Rd w B A xs) (hb : Below B' w w') (hB : B ≤ B') : Rd w' B A xs := by
  intro j u hj
  obtain ⟨ad, rfl, hlt, hc⟩ := h j u hj
  exact ⟨ad, rfl, hlt, (hb.cell (p := ad.add j) (by rw [add_block]; omega)).trans hc⟩
theorem Rd.more {w : World} {B B' : Nat} {A : Option Addr} {xs : List Value} (h : Rd w B A xs) (hB : B ≤ B') : Rd w B' A xs := by
  intro j u hj
  obtain ⟨ad, rfl, hlt, hc⟩ := h j u hj
  exact ⟨ad, rfl, by omega, hc⟩
/-- Element i of a row of elements of size sz > 0: its first cell, and those behind it, in the walk's own spelling. -/
theorem Rd.at {w : World} {B : Nat} {A : Option Addr} {xs : List Value} (h : Rd w B A xs) (i sz : Nat) {u : Value} (hu : xs[i * sz]? = some u) :
    ∃ ad, A = some ad ∧ ad.block < B ∧ w.cell? (ad.add (i * sz)) = some u ∧ ∀ j v, 0 < j → xs[i * sz + j]? = some v → w.cell? ⟨(ad.add (i * sz)).block, (ad.add (i * sz)).off + j, none⟩ = some v := by
  obtain ⟨ad, rfl, hlt, hc⟩ := h _ u hu
  refine ⟨ad, rfl, hlt, hc, fun j v hj hv => ?_⟩
  obtain ⟨ad', e, _, hc'⟩ := h _ v hv
  cases e
  rw [← add_more _ _ _ hj]
  exact hc'

/-- The i-th piece of a list of pieces of one length. -/
theorem flat_get {α : Type} (f : α → List Value) (sz : Nat) (hf : ∀ a, (f a).length = sz) (l : List α) : ∀ (i j : Nat) (_ : j < sz) (hi : i < l.length), (l.flatMap f)[i * sz + j]? = (f l[i])[j]? := by
  induction l with
  | nil => intro i j _ hi; simp at hi
  | cons a l ih =>
    intro i j hj hi
    cases i with
    | zero =>
      rw [List.flatMap_cons, List.getElem?_append_left (by rw [hf]; omega)]
      simp
    | succ i =>
      rw [List.flatMap_cons, List.getElem?_append_right (by rw [hf, Nat.succ_mul]; omega), hf, show (i + 1) * sz + j - sz = i * sz + j from by rw [Nat.succ_mul]; omega]
      exact ih i j hj (by simpa using hi)
theorem flat_length {α : Type} (f : α → List Value) (sz : Nat) (hf : ∀ a, (f a).length = sz) (l : List α) : (l.flatMap f).length = l.length * sz := by
  induction l with
  | nil => simp
  | cons a l ih => rw [List.flatMap_cons, List.length_append, hf, ih, List.length_cons, Nat.succ_mul, Nat.add_comm]

/-! The rows of this program. -/
def str (l : Bs) : Value := .string ⟨l.toArray⟩
def strCells (l : List Bs) : List Value := l.map str
def entCell (e : Ent) : List Value := [str e.path, str e.data]
def entCells (l : List Ent) : List Value := l.flatMap entCell
def infCell (x : Inf) : List Value := [str x.name, .bool x.dir, .int .i64 (x.size : Int)]
def infCells (l : List Inf) : List Value := l.flatMap infCell
def askCell (x : Ask) : List Value := [.int .i64 (x.way : Int), str x.path]
def askCells (l : List Ask) : List Value := l.flatMap askCell

theorem Rd.ent {w : World} {B : Nat} {A : Option Addr} {es : List Ent} (h : Rd w B A (entCells es)) (k : Nat) (hk : k < es.length) :
    ∃ ad, A = some ad ∧ ad.block < B ∧ w.cell? (ad.add (k * 2)) = some (.string ⟨es[k].path.toArray⟩) ∧ w.cell? ⟨(ad.add (k * 2)).block, (ad.add (k * 2)).off + 1, none⟩ = some (.string ⟨es[k].data.toArray⟩) := by
  have g0 := flat_get entCell 2 (fun _ => rfl) es k 0 (by omega) hk
  have g1 := flat_get entCell 2 (fun _ => rfl) es k 1 (by omega) hk
  obtain ⟨ad, e, hb, h0, h1⟩ := h.at k 2 (u := str es[k].path) g0
  exact ⟨ad, e, hb, h0, h1 1 _ (by omega) g1⟩
theorem Rd.inf {w : World} {B : Nat} {A : Option Addr} {es : List Inf} (h : Rd w B A (infCells es)) (k : Nat) (hk : k < es.length) :
    ∃ ad, A = some ad ∧ ad.block < B ∧ w.cell? (ad.add (k * 3)) = some (.string ⟨es[k].name.toArray⟩) ∧ w.cell? ⟨(ad.add (k * 3)).block, (ad.add (k * 3)).off + 1, none⟩ = some (.bool es[k].dir)
      ∧ w.cell? ⟨(ad.add (k * 3)).block, (ad.add (k * 3)).off + 2, none⟩ = some (.int .i64 (es[k].size : Int)) := by
  have g0 := flat_get infCell 3 (fun _ => rfl) es k 0 (by omega) hk
  have g1 := flat_get infCell 3 (fun _ => rfl) es k 1 (by omega) hk
  have g2 := flat_get infCell 3 (fun _ => rfl) es k 2 (by omega) hk
  obtain ⟨ad, e, hb, h0, h1⟩ := h.at k 3 (u := str es[k].name) g0
  exact ⟨ad, e, hb, h0, h1 1 _ (by omega) g1, h1 2 _ (by omega) g2⟩
theorem Rd.ask {w : World} {B : Nat} {A : Option Addr} {es : List Ask} (h : Rd w B A (askCells es)) (k : Nat) (hk : k < es.length) :
    ∃ ad, A = some ad ∧ ad.block < B ∧ w.cell? (ad.add (k * 2)) = some (.int .i64 (es[k].way : Int)) ∧ w.cell? ⟨(ad.add (k * 2)).block, (ad.add (k * 2)).off + 1, none⟩ = some (.string ⟨es[k].path.toArray⟩) := by
  have g0 := flat_get askCell 2 (fun _ => rfl) es k 0 (by omega) hk
  have g1 := flat_get askCell 2 (fun _ => rfl) es k 1 (by omega) hk
  obtain ⟨ad, e, hb, h0, h1⟩ := h.at k 2 (u := .int .i64 (es[k].way : Int)) g0
  exact ⟨ad, e, hb, h0, h1 1 _ (by omega) g1⟩
theorem Rd.str {w : World} {B : Nat} {A : Option Addr} {es : List Bs} (h : Rd w B A (strCells es)) (k : Nat) (hk : k < es.length) :
    ∃ ad, A = some ad ∧ ad.block < B ∧ w.cell? (ad.add k) = some (.string ⟨es[k].toArray⟩) :=
  h k (.string ⟨es[k].toArray⟩) (by simp [strCells, YtkaoechldamggaaGreatDoor.str, hk])

/-- A slice value that owns the row xs of n elements, laid from block 'base' on. -/
abbrev Own (w : World) (base : Nat) (e sz : Nat) (v : Value) (n : Nat) (xs : List Value) : Prop := w.ownsRow base e sz v n xs
theorem own_rd {w : World} {base e sz n : Nat} {v : Value} {xs : List Value} (h : w.ownsRow base e sz v n xs) :
    ∃ A c, v = .slice A n c ∧ n ≤ c ∧ c ≤ maxLen ∧ Rd w w.heap.size A xs := by
  rcases h.2 with ⟨rfl, rfl⟩ | ⟨g, cap, cur, rfl, hb, hg, hnc, hcm, hsz, htk⟩
  · have : xs = [] := List.eq_nil_of_length_eq_zero (by simpa using h.1)
    subst this
    exact ⟨_, _, rfl, Nat.le_refl _, Nat.zero_le _, Rd.nil _ _ _⟩
  · refine ⟨_, _, rfl, hnc, hcm, fun j u hj => ⟨_, rfl, (Array.getElem?_eq_some_iff.1 hg).1, h.cells (g := g) rfl j u hj⟩⟩

end Go.Proofs.YtkaoechldamggaaGreatDoor
