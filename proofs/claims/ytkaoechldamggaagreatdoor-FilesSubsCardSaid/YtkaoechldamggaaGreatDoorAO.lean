/- files.Glob: what is told, not what was asked. -/
import Derived.Test.YtkaoechldamggaaGreatDoorAN
import Derived.Test.YtkaoechldamggaaGreatDoorAF
namespace Go.Proofs.YtkaoechldamggaaGreatDoor
open Go Go.RowKit
set_option maxRecDepth 100000

/-- The paths that a pattern has. -/
def handL (es : List Ent) (caps : Nat) (blind : Bool) (p : Bs) : List Bs := handF es caps blind (p.length + 1) p

theorem noGlob : ∀ (v : Value) (xT : TypeId) (w : World), (Instr.typeAssert (.iface 87 v) xT 91 true).run Tryz.prog w = .ok (.tuple #[.nilIface, .bool false]) w := fun v xT w => run_typeAssert_lacksB Tryz.underlying91 (by kernel_rfl) (by kernel_rfl) v xT w
theorem yesGlob : ∀ (v : Value) (xT : TypeId) (w : World), (Instr.typeAssert (.iface 162 v) xT 91 true).run Tryz.prog w = .ok (.tuple #[.iface 162 v, .bool true]) w := fun v xT w => run_typeAssert_hasB Tryz.underlying91 (by kernel_rfl) v xT w

set_option maxHeartbeats 1000000 in
theorem pdoGlob (g B : Nat) (A : Option Addr) (c : Nat) (es : List Ent) (caps : Nat) (blind : Bool) (qs : List Ask) (p : Bs) (w : World) (hg : StF w g A c es caps blind qs) (hf : Fine es) (he : Env w) (hg5 : 5 ≤ g) (hcaps : caps < 4294967296) (hps : p.length ≤ 1024) (hl : qs.length ≤ 1099511627776)
    (hb1 : Blk w B 87 #[.pointer (some ⟨g, 0, none⟩)]) (hb2 : Blk w (B + 1) 3 #[.int .i64 3]) (hgB : g < B) :
    Calls Tryz.prog 68 #[.string ⟨p.toArray⟩, .pointer (some ⟨B, 0, none⟩), .pointer (some ⟨B + 1, 0, none⟩)] w fun e w' => ∃ v, e = .returned v ∧ w'.ownsRow w.heap.size 9 1 v (handL es caps false p).length (strCells (handL es caps false p)) ∧ StF w' g A c es caps blind (qs ++ [⟨3, p⟩]) ∧ Kp g w w' := by
  have hlt := hg.lt
  have hbc1 := hb1.cell
  have hbc2 := hb2.cell
  have hB := hb1.lt
  unfold handL
  have hlb : ([] : List Ask).length + (p.length + 1) * 262400 ≤ 1099511627776 := by
    have : (p.length + 1) * 262400 ≤ 1025 * 262400 := Nat.mul_le_mul_right _ (by omega)
    simp only [List.length_nil]
    omega
  go_enter Tryz.func68, Tryz.ntmps68
  go_wp2_with (first
    | (go_at_call 64; refine (pnote g A es.length c caps blind qs 3 3 rfl p _ hg.st hl).mono ?_; rintro e w1 ⟨rfl, hs1, hk1⟩; have hbd := (hk1.blk hb1 (by omega) (by decide)); have hbe := hbd.cell; have hg1 : StF w1 g A c es caps blind (qs ++ [⟨3, p⟩]) := ⟨hs1, hg.rd.below (hk1.low_ (Nat.le_of_lt hg.lt) (Nat.le_refl g)) (Nat.le_refl _)⟩; have hz1 := hk1.size; obtain ⟨av, hv1, ho1⟩ := hs1.ex; have hvc := hv1.cell)
    | (go_at_call 41; go_loud (refine (pbyHand es caps false (w1.heap.size + 1) A c hf (by omega) hcaps (p.length + 1) [] p _ (by omega) (StF.fresh (c := c) (hg1.rd.more (Nat.le_of_lt hg1.lt)) _) ((he.low hk1 hg5).below (by go_grown)) hps hlb).mono ?_; rintro e w2 ⟨v2, rfl, hr2, -, hk2⟩; have hb2 : Below w1.heap.size w1 w2 := (show Below w1.heap.size w1 _ by go_grown).trans (hk2.low_' (B := w1.heap.size) (by omega) (by simp; omega)))))
  go_returns
  exact ⟨_, rfl, own_low hr2 (by simp; omega), hg1.below hb2, hk1.below hb2⟩

theorem pmGlob (g B : Nat) (A : Option Addr) (c : Nat) (es : List Ent) (caps : Nat) (blind : Bool) (qs : List Ask) (p : Bs) (w : World) (hg : StF w g A c es caps blind qs) (hf : Fine es) (he : Env w) (hg5 : 5 ≤ g) (hcaps : caps < 4294967296) (hps : p.length ≤ 1024) (hl : qs.length ≤ 1099511627776)
    (hb1 : Blk w B 87 #[.pointer (some ⟨g, 0, none⟩)]) (hb2 : Blk w (B + 1) 3 #[.int .i64 3]) (hgB : g < B) :
    Calls Tryz.prog 168 #[.agg #[.pointer (some ⟨g, 0, none⟩), .func (.func 68) #[] #[.pointer (some ⟨B, 0, none⟩), .pointer (some ⟨B + 1, 0, none⟩)]], .string ⟨p.toArray⟩] w fun e w' => ∃ v, e = .returned v ∧ w'.ownsRow w.heap.size 9 1 v (handL es caps false p).length (strCells (handL es caps false p)) ∧ StF w' g A c es caps blind (qs ++ [⟨3, p⟩]) ∧ Kp g w w' := by
  go_enter Tryz.func168, Tryz.ntmps168
  go_wp2_with (go_at_call 68; refine (pdoGlob g B A c es caps blind qs p _ (hg.alloc _) hf (he.below (by go_grown)) hg5 hcaps hps hl (hb1.alloc _) (hb2.alloc _) hgB).mono ?_; rintro e w1 ⟨v, rfl, hi1, hg1, hk1⟩)
  go_returns
  exact ⟨_, rfl, own_low hi1 (by simp), hg1, ((Kp.refl g w).alloc _).trans hk1⟩
end Go.Proofs.YtkaoechldamggaaGreatDoor
