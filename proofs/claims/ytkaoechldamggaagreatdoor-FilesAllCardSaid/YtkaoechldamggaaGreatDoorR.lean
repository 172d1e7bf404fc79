/- The store in the program: what was asked (note), open, has. -/
import Derived.Test.YtkaoechldamggaaGreatDoorO
namespace Go.Proofs.YtkaoechldamggaaGreatDoor
open Go Go.RowKit
set_option maxRecDepth 100000

/-- What a call on the store at g may turn: block g, and rows of what was asked from g on. -/
structure Kp (g : Nat) (w w' : World) : Prop where
  os : w'.os = w.os
  tape : w'.tape = w.tape
  output : w'.output = w.output
  size : w.heap.size ≤ w'.heap.size
  low : ∀ k, k < w.heap.size → k < g → w'.heap[k]? = w.heap[k]?
  other : ∀ k, k < w.heap.size → k ≠ g → (∀ cs, w.heap[k]? ≠ some (.cells cs 102 (0, 0))) → w'.heap[k]? = w.heap[k]?
theorem Kp.refl (g : Nat) (w : World) : Kp g w w := ⟨rfl, rfl, rfl, Nat.le_refl _, fun _ _ _ => rfl, fun _ _ _ _ => rfl⟩
theorem Kp.trans {g : Nat} {a b c : World} (h : Kp g a b) (k : Kp g b c) : Kp g a c :=
  ⟨k.os.trans h.os, k.tape.trans h.tape, k.output.trans h.output, Nat.le_trans h.size k.size,
    fun i hi hg => (k.low i (Nat.lt_of_lt_of_le hi h.size) hg).trans (h.low i hi hg),
    fun i hi hg ht => (k.other i (Nat.lt_of_lt_of_le hi h.size) hg (by rw [h.other i hi hg ht]; exact ht)).trans (h.other i hi hg ht)⟩
theorem Kp.of_below {g : Nat} {w w' : World} (h : Below w.heap.size w w') : Kp g w w' :=
  ⟨h.os, h.tape, h.output, h.size, fun i hi _ => h.block i hi, fun i hi _ _ => h.block i hi⟩
theorem Kp.cell {g : Nat} (w : World) {p : Addr} (hp : p.block = g) (u : Value) : Kp g w (w.setCell p u) :=
  ⟨rfl, rfl, rfl, by simp [World.setCell], fun k _ hk => Below.heap_setCell w p u k (by omega), fun k _ hk _ => Below.heap_setCell w p u k (by omega)⟩
theorem Kp.low_ {g B : Nat} {w w' : World} (h : Kp g w w') (hg : g ≤ w.heap.size) (hB : B ≤ g) : Below B w w' := ⟨h.os, h.tape, h.output, h.size, fun k hk => h.low k (by omega) (by omega)⟩
theorem Kp.blk {g b t : Nat} {w w' : World} {cs : Array Value} (h : Kp g w w') (hb : Blk w b t cs) (hg : b ≠ g) (ht : t ≠ 102) : Blk w' b t cs := by
  refine (h.other b hb.lt hg fun cs' e => ?_).trans hb
  unfold Blk at hb
  rw [hb] at e
  cases e
  exact ht rfl
theorem Kp.own {g base e sz n : Nat} {v : Value} {xs : List Value} {w w' : World} (h : Kp g w w') (ho : w.ownsRow base e sz v n xs) (ht : e ≠ 102) (hg : v.ownBlock ≠ some g) : w'.ownsRow base e sz v n xs := by
  refine ⟨ho.1, ?_⟩
  rcases ho.2 with h2 | ⟨q, cap, cur, rfl, hq, hh, r⟩
  · exact .inl h2
  · refine .inr ⟨q, cap, cur, rfl, hq, ?_, r⟩
    rw [h.other q (Array.getElem?_eq_some_iff.1 hh).1 (fun e2 => hg (by simp [Value.ownBlock, e2])) (fun cs' e2 => by rw [hh] at e2; cases e2; exact ht rfl)]
    exact hh
/-- A row of elements that is not of store's type lies elsewhere. -/
theorem own_ne_blk {w : World} {base e t sz n g : Nat} {v : Value} {xs : List Value} {cs : Array Value} (ho : w.ownsRow base e sz v n xs) (hg : Blk w g t cs) (hne : e ≠ t) : v.ownBlock ≠ some g := by
  rcases ho.2 with ⟨rfl, _⟩ | ⟨q, cap, cur, rfl, _, hh, _⟩
  · simp [Value.ownBlock]
  · intro he
    have : q = g := by simpa [Value.ownBlock] using he
    subst this
    unfold Blk at hg
    rw [hh] at hg
    cases hg
    exact hne rfl

/-- The store at g: its files' row, what it can do, and what it was asked. -/
structure StAt (w : World) (g : Nat) (A : Option Addr) (n c : Nat) (caps : Int) (blind : Bool) (qs : List Ask) : Prop where
  ex : ∃ av, Blk w g 89 #[.slice A n c, .int .u32 caps, .bool blind, av] ∧ w.ownsRow (g + 1) 102 2 av qs.length (askCells qs)
theorem StAt.below {w w' : World} {g : Nat} {A : Option Addr} {n c : Nat} {caps : Int} {blind : Bool} {qs : List Ask} (h : StAt w g A n c caps blind qs) (hb : Below w.heap.size w w') : StAt w' g A n c caps blind qs := by
  obtain ⟨av, h1, h2⟩ := h.ex
  exact ⟨av, h1.below hb h1.lt, own_below h2 hb⟩
theorem StAt.lt {w : World} {g : Nat} {A : Option Addr} {n c : Nat} {caps : Int} {blind : Bool} {qs : List Ask} (h : StAt w g A n c caps blind qs) : g < w.heap.size := by
  obtain ⟨av, h1, h2⟩ := h.ex
  exact h1.lt
theorem Kp.grown {g : Nat} {w w' : World} {av : Value} {n : Nat} {xs : List Value} (ho : w.ownsRow (g + 1) 102 2 av n xs) (h : w.grownBy w' av.ownBlock) : Kp g w w' := by
  refine ⟨h.os, h.tape, h.output, h.size, fun k hk hg => h.block k hk fun e => ?_, fun k hk hg ht => h.block k hk fun e => ?_⟩
  · have := (ho.lt k e.symm).1
    omega
  · rcases ho.2 with ⟨rfl, _⟩ | ⟨q, cap, cur, rfl, _, hh, _⟩
    · simp [Value.ownBlock] at e
    · have : k = q := by simpa [Value.ownBlock] using e
      subst this
      exact ht _ hh

theorem pnote (g : Nat) (A : Option Addr) (n c : Nat) (caps : Int) (blind : Bool) (qs : List Ask) (k : Nat) (kz : Int) (hk : kz = k) (p : Bs) (w : World) (hg : StAt w g A n c caps blind qs) (hl : qs.length ≤ 1099511627776) :
    Calls Tryz.prog 64 #[.pointer (some ⟨g, 0, none⟩), .int .i64 kz, .string ⟨p.toArray⟩] w fun e w' => e = .returned (.tuple #[]) ∧ StAt w' g A n c caps blind (qs ++ [⟨k, p⟩]) ∧ Kp g w w' := by
  subst hk
  obtain ⟨av, hb, ho⟩ := hg.ex
  have hlt := hb.lt
  have hbc := hb.cell
  have hbf := hb.frozen
  go_enter Tryz.func64, Tryz.ntmps64
  go_wp2_with (at_builtin; go_loud (refine push_ask w _ _ (g + 1) av rfl qs ⟨k, p⟩ rfl rfl ho rfl hl hlt ?_); intro v' w1 ho' hg'; obtain ⟨A', c', hv', -⟩ := own_rd ho'; simp only [List.length_append, List.length_cons, List.length_nil, Nat.zero_add] at hv'; subst hv'; have hb1 := (hg'.block g hlt (fun e => own_ne_blk ho hb (by decide) e.symm)).trans hb; have hbc1 := Blk.cell hb1; have hbf1 := Blk.frozen hb1; have HO := Lib.hid ho'; have HG := Lib.hid hg'; have HB := Lib.hid hb1; clear ho' hg' hb1; simp only [Act.put, List.setIfInBounds_toArray, List.set_cons_succ, List.set_cons_zero])
  go_end0
  have h2 := Blk.set_ HB.out 3 (.slice A' (qs.length + 1) c')
  have hneq : (Value.slice A' (qs.length + 1) c').ownBlock ≠ some g := own_ne_blk HO.out HB.out (by decide)
  refine ⟨rfl, ⟨_, h2, own_wrote HO.out (Wrote.cell w1 ⟨g, 3, none⟩ _) hneq⟩, (Kp.grown ho HG.out).trans (Kp.cell (p := ⟨g, 3, none⟩) w1 rfl _)⟩
end Go.Proofs.YtkaoechldamggaaGreatDoor
