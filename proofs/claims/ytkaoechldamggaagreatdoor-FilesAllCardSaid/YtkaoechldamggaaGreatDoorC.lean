/- The reference's functions: way, asked, info. -/
import Derived.Test.YtkaoechldamggaaGreatDoorB
namespace Go.Proofs.YtkaoechldamggaaGreatDoor
open Go Go.RowKit
set_option maxRecDepth 100000

theorem u32_and_one (n : Nat) (h : n < 4294967296) : bits .and .u32 (n : Int) 1 = ((n % 2 : Nat) : Int) := by
  have hx : n &&& 1 = n % 2 := Nat.and_one_is_mod n
  show IntKind.u32.wrap ((BitVec.ofInt 32 (n : Int) &&& BitVec.ofInt 32 1).toNat : Int) = _
  have e1 : (BitVec.ofInt 32 (n : Int)).toNat = n := by
    rw [BitVec.ofInt_natCast, BitVec.toNat_ofNat]; exact Nat.mod_eq_of_lt (by omega)
  have e2 : (BitVec.ofInt 32 (1 : Int)).toNat = 1 := by decide
  rw [BitVec.toNat_and, e1, e2, hx, IntKind.wrap_u32]
  omega
theorem capBit (caps c : Nat) (h : caps < 4294967296) : (bits .and .u32 ((caps : Int) / 2 ^ c) 1 == 1) = hasCap caps c := by
  have e : ((caps : Int) / 2 ^ c) = ((caps / 2 ^ c : Nat) : Int) := by
    rw [Int.natCast_ediv]; rfl
  rw [e, u32_and_one _ (Nat.lt_of_le_of_lt (Nat.div_le_self _ _) h), hasCap, Bool.eq_iff_iff]
  simp only [beq_iff_eq]
  omega

theorem rway (v : Value) (caps c : Nat) (blind : Bool) (k : Int) (hk : k = c) (hc : c < 5) (hcaps : caps < 4294967296) (w : World) :
    Calls Tryz.prog 76 #[.agg #[v, .int .u32 (caps : Int), .bool blind], .int .i64 k] w fun e w' => e = .returned (.int .i64 (way caps c : Int)) ∧ Below w.heap.size w w' := by
  subst hk
  have hb := capBit caps c hcaps
  obtain ⟨b, hb2⟩ : ∃ b, hasCap caps c = b := ⟨_, rfl⟩
  rw [hb2] at hb
  have hw : way caps c = if b then c else 5 := by unfold way; rw [hb2]
  rw [hw]
  clear hb2 hw
  have hcz : (c : Int) < 5 := by omega
  cases b
  all_goals
    go_enter Tryz.func76, Tryz.ntmps76
    go_wp2_with fail
    go_ret
    exact ⟨rfl, by go_grown⟩

theorem own_lit (W : World) (e sz : Nat) (base : Nat) (cs : Array Value) (hb : base ≤ W.heap.size) (hs : cs.size = sz) : (W.alloc (.cells cs e)).ownsRow base e sz (.slice (some ⟨W.heap.size, 0, none⟩) 1 1) 1 cs.toList :=
  ⟨by simpa using hs, .inr ⟨W.heap.size, 1, cs, rfl, hb, heap_alloc_new W _, Nat.le_refl _, by simp [maxLen], by simpa using hs, by rw [Nat.one_mul, ← hs, ← Array.length_toList, List.take_length]⟩⟩

theorem rasked (A : Option Addr) (n cc : Nat) (caps c : Nat) (blind : Bool) (k : Int) (p : Bs) (hk : k = c) (hc : c < 5) (hcaps : caps < 4294967296) (w : World) :
    Calls Tryz.prog 45 #[.agg #[.slice A n cc, .int .u32 (caps : Int), .bool blind], .int .i64 k, .string ⟨p.toArray⟩] w fun e w' =>
      ∃ v, e = .returned v ∧ w'.ownsRow w.heap.size 102 2 v 1 (askCells [⟨way caps c, p⟩]) ∧ Below w.heap.size w w' := by
  subst hk
  go_enter Tryz.func45, Tryz.ntmps45
  go_wp2_with (go_at_call 76; refine (rway _ _ _ _ _ rfl hc hcaps _).mono ?_; rintro e w1 ⟨rfl, hb1⟩)
  have hs1 := hb1.size
  simp at hs1
  go_ret
  refine ⟨_, rfl, ?_, ?_⟩
  · have h := own_lit w1 102 2 w.heap.size #[.int .i64 (way caps c : Int), .string ⟨p.toArray⟩] (by omega) rfl
    exact h
  · exact ((((Below.refl _ _).alloc (Nat.le_refl _) _).trans (hb1.mono (by simp))).alloc (by omega) _)

end Go.Proofs.YtkaoechldamggaaGreatDoor
