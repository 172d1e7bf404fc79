/- The store in the program: open, has. -/
import Derived.Test.YtkaoechldamggaaGreatDoorR
import Derived.Test.YtkaoechldamggaaGreatDoorC
namespace Go.Proofs.YtkaoechldamggaaGreatDoor
open Go Go.RowKit
set_option maxRecDepth 100000

/-- Files that fit. -/
structure Fine (es : List Ent) : Prop where
  many : es.length ≤ 256
  each : ∀ e ∈ es, e.path.length ≤ 1024 ∧ e.data.length ≤ 65535

/-- The store at g with its files es. -/
structure StF (w : World) (g : Nat) (A : Option Addr) (c : Nat) (es : List Ent) (caps : Nat) (blind : Bool) (qs : List Ask) : Prop where
  st : StAt w g A es.length c (caps : Int) blind qs
  rd : Rd w g A (entCells es)
section
variable {w w' : World} {g : Nat} {A : Option Addr} {c : Nat} {es : List Ent} {caps : Nat} {blind : Bool} {qs : List Ask}
theorem StF.below (h : StF w g A c es caps blind qs) (hb : Below w.heap.size w w') : StF w' g A c es caps blind qs := ⟨h.st.below hb, h.rd.below hb (Nat.le_of_lt h.st.lt)⟩
theorem StF.alloc (h : StF w g A c es caps blind qs) (o : Obj) : StF (w.alloc o) g A c es caps blind qs := h.below ((Below.refl _ _).alloc (Nat.le_refl _) o)
theorem StF.drewN (h : StF w g A c es caps blind qs) (n : Nat) : StF (w.drewN n) g A c es caps blind qs := h.below (blN (Below.refl _ _) n)
theorem StF.lt (h : StF w g A c es caps blind qs) : g < w.heap.size := h.st.lt
/-- A write into another block that is no row of what was asked keeps the store. -/
theorem StF.wrote (h : StF w g A c es caps blind qs) {k t : Nat} {cs : Array Value} (hb : Blk w k t cs) (ht : t ≠ 102) (hk : g < k) (hw : Wrote w k w') : StF w' g A c es caps blind qs := by
  obtain ⟨av, h1, h2⟩ := h.st.ex
  exact ⟨⟨av, h1.wrote hw (by omega), own_wrote h2 hw (own_ne_blk h2 hb (fun e => ht e.symm))⟩, h.rd.below (hw.below (Below.refl g w) (Nat.le_of_lt hk)) (Nat.le_refl _)⟩
theorem Kp.wrote {w1 : World} {k : Nat} (h : Kp g w w1) (hw : Wrote w1 k w') (hk : w.heap.size ≤ k) : Kp g w w' :=
  ⟨hw.os.trans h.os, hw.tape.trans h.tape, hw.output.trans h.output, by rw [hw.size]; exact h.size, fun i hi hg => (hw.block i (by omega)).trans (h.low i hi hg), fun i hi hg ht => (hw.block i (by omega)).trans (h.other i hi hg ht)⟩
theorem Kp.alloc {w1 : World} (h : Kp g w w1) (o : Obj) : Kp g w (w1.alloc o) := h.trans (Kp.of_below ((Below.refl _ _).alloc (Nat.le_refl _) o))
theorem Kp.below {w1 : World} (h : Kp g w w1) (hb : Below w1.heap.size w1 w') : Kp g w w' := h.trans (Kp.of_below hb)
theorem Kp.drewN {w1 : World} (h : Kp g w w1) (n : Nat) : Kp g w (w1.drewN n) := h.below (blN (Below.refl _ _) n)
end

theorem pcan (g : Nat) (A : Option Addr) (n c : Nat) (caps : Nat) (blind : Bool) (qs : List Ask) (k : Nat) (kz : Int) (hk : kz = k) (hc : k < 5) (hcaps : caps < 4294967296) (w : World) (hg : StAt w g A n c (caps : Int) blind qs) :
    Calls Tryz.prog 57 #[.pointer (some ⟨g, 0, none⟩), .int .i64 kz] w fun e w' => e = .returned (.bool (hasCap caps k)) ∧ w' = w := by
  subst hk
  obtain ⟨av, hb, ho⟩ := hg.ex
  have hbc := hb.cell
  have hb1 := capBit caps k hcaps
  obtain ⟨b, hb2⟩ : ∃ b, hasCap caps k = b := ⟨_, rfl⟩
  rw [hb2] at hb1 ⊢
  clear hb2
  have hcz : (k : Int) < 5 := by omega
  cases b
  all_goals
    go_enter Tryz.func57, Tryz.ntmps57
    go_wp2_with fail
    go_ret
    exact ⟨rfl, rfl⟩

theorem popen (g : Nat) (A : Option Addr) (c : Nat) (es : List Ent) (caps : Nat) (blind : Bool) (qs : List Ask) (p : Bs) (w : World) (hg : StF w g A c es caps blind qs) (hf : Fine es) (hps : p.length ≤ 1024) (hl : qs.length ≤ 1099511627776) :
    Calls Tryz.prog 74 #[.pointer (some ⟨g, 0, none⟩), .string ⟨p.toArray⟩] w fun e w' => e = .returned (.tuple #[.agg (entArr g p (look es p)), errV (missing (look es p))]) ∧ StF w' g A c es caps blind (qs ++ [⟨5, p⟩]) ∧ Kp g w w' := by
  have hlt := hg.lt
  obtain ⟨r, hr⟩ : ∃ r, look es p = r := ⟨_, rfl⟩
  have hz : Blk (w.alloc (.cells zeroEnt 122)) w.heap.size 122 zeroEnt := Blk.newAt _ _ rfl rfl
  have hg0 := hg.alloc (.cells zeroEnt 122)
  have hk0 : Kp g w (w.alloc (.cells zeroEnt 122)) := (Kp.refl g w).alloc _
  unfold zeroEnt at hz hg0 hk0
  go_enter Tryz.func74, Tryz.ntmps74
  go_wp2_with (first
    | (go_at_call 64; refine (pnote g A es.length c caps blind qs 5 5 rfl p _ hg0.st hl).mono ?_; rintro e w1 ⟨rfl, hs1, hk1⟩; have hz1 := hk1.blk hz (by omega) (by decide); have hg1 : StF w1 g A c es caps blind (qs ++ [⟨5, p⟩]) := ⟨hs1, hg0.rd.below (hk1.low_ (Nat.le_of_lt hg0.lt) (Nat.le_refl g)) (Nat.le_refl _)⟩; have hk01 := hk0.trans hk1)
    | (go_at_call 56; obtain ⟨av, hb1, -⟩ := hs1.ex; refine (pfind g A c es caps blind av p w1 hb1 (hg1.rd.more (Nat.le_of_lt hg1.lt)) hf.many (by omega) hf.each).mono ?_; rw [hr]; rintro e w2 ⟨rfl, hb2⟩; have hz2 := hz1.below hb2 hz1.lt; have hg2 := hg1.below hb2; have hk2 := hk01.below hb2)
    | (refine storeB sty122 rfl (.tmp 4) (.tmp 12) rfl _ _ _ _ rfl hz2 rfl rfl rfl rfl ?_; intro w3 hz3 hw3; simp only [Act.put]))
  rw [hr]
  refine bodyPost_ret (resultsB1 sty122 rfl _ _ _ _ _ rfl hz3 rfl) rfl ?_
  exact ⟨ret_two rfl rfl, hg2.wrote hz2 (by decide) (by omega) hw3, hk2.wrote hw3 (Nat.le_refl _)⟩

end Go.Proofs.YtkaoechldamggaaGreatDoor
