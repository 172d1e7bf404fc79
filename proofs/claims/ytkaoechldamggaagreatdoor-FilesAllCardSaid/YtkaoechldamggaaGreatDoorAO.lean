/- files.Glob: what is told, not what was asked. files.Glob: what is told and its number; of what was asked nothing is said (Go leaves open when the return reads it). -/
import Derived.Test.YtkaoechldamggaaGreatDoorAN
import Derived.Test.YtkaoechldamggaaGreatDoorAF
import Derived.Test.YtkaoechldamggaaGreatDoorH
namespace Go.Proofs.YtkaoechldamggaaGreatDoor
open Go Go.RowKit
set_option maxRecDepth 100000

/-- The paths that a pattern has. -/
def handL (es : List Ent) (caps : Nat) (blind : Bool) (p : Bs) : List Bs := handF es caps blind (p.length + 1) p

theorem noGlob : ∀ (v : Value) (xT : TypeId) (w : World), (Instr.typeAssert (.iface 87 v) xT 91 true).run Tryz.prog w = .ok (.tuple #[.nilIface, .bool false]) w := fun v xT w => run_typeAssert_lacksB Tryz.underlying91 (by kernel_rfl) (by kernel_rfl) v xT w
theorem yesGlob : ∀ (v : Value) (xT : TypeId) (w : World), (Instr.typeAssert (.iface 162 v) xT 91 true).run Tryz.prog w = .ok (.tuple #[.iface 162 v, .bool true]) w := fun v xT w => run_typeAssert_hasB Tryz.underlying91 (by kernel_rfl) v xT w

set_option maxHeartbeats 1000000 in
theorem pdoGlob (g B : Nat) (A : Option Addr) (c : Nat) (es : List Ent) (caps : Nat) (blind : Bool) (qs : List Ask) (p : Bs) (w : World) (hg : StF w g A c es caps blind qs) (hf : Fine es) (he : Env w) (hg5 : 5 ≤ g) (hcaps : caps < 4294967296) (hps : p.length ≤ 1024) (hl : qs.length ≤ 1099511627776)
    (hb1 : Blk w B 87 #[.pointer (some ⟨g, 0, none⟩)]) (hb2 : Blk w (B + 1) 3 #[.int .i64 3]) (hgB : g < B) :
    Calls Tryz.prog 68 #[.string ⟨p.toArray⟩, .pointer (some ⟨B, 0, none⟩), .pointer (some ⟨B + 1, 0, none⟩)] w fun e w' => ∃ v, e = .returned v ∧ w'.ownsRow w.heap.size 9 1 v (handL es caps false p).length (strCells (handL es caps false p)) ∧ StF w' g A c es caps blind (qs ++ [⟨3, p⟩]) ∧ Kp g w w' := by
  have hlt := hg.lt
  have hbc1 := hb1.cell
  have hbc2 := hb2.cell
  have hB := hb1.lt
  unfold handL
  have hlb : ([] : List Ask).length + (p.length + 1) * 262400 ≤ 1099511627776 := by
    have : (p.length + 1) * 262400 ≤ 1025 * 262400 := Nat.mul_le_mul_right _ (by omega)
    simp only [List.length_nil]
    omega
  go_enter Tryz.func68, Tryz.ntmps68
  go_wp2_with (first
    | (go_at_call 64; refine (pnote g A es.length c caps blind qs 3 3 rfl p _ hg.st hl).mono ?_; rintro e w1 ⟨rfl, hs1, hk1⟩; have hbd := (hk1.blk hb1 (by omega) (by decide)); have hbe := hbd.cell; have hg1 : StF w1 g A c es caps blind (qs ++ [⟨3, p⟩]) := ⟨hs1, hg.rd.below (hk1.low_ (Nat.le_of_lt hg.lt) (Nat.le_refl g)) (Nat.le_refl _)⟩; have hz1 := hk1.size; obtain ⟨av, hv1, ho1⟩ := hs1.ex; have hvc := hv1.cell)
    | (go_at_call 41; go_loud (refine (pbyHand es caps false (w1.heap.size + 1) A c hf (by omega) hcaps (p.length + 1) [] p _ (by omega) (StF.fresh (c := c) (hg1.rd.more (Nat.le_of_lt hg1.lt)) _) ((he.low hk1 hg5).below (by go_grown)) hps hlb).mono ?_; rintro e w2 ⟨v2, rfl, hr2, -, hk2⟩; have hb2 : Below w1.heap.size w1 w2 := (show Below w1.heap.size w1 _ by go_grown).trans (hk2.low_' (B := w1.heap.size) (by omega) (by simp; omega)))))
  go_returns
  exact ⟨_, rfl, own_low hr2 (by simp; omega), hg1.below hb2, hk1.below hb2⟩

theorem pmGlob (g B : Nat) (A : Option Addr) (c : Nat) (es : List Ent) (caps : Nat) (blind : Bool) (qs : List Ask) (p : Bs) (w : World) (hg : StF w g A c es caps blind qs) (hf : Fine es) (he : Env w) (hg5 : 5 ≤ g) (hcaps : caps < 4294967296) (hps : p.length ≤ 1024) (hl : qs.length ≤ 1099511627776)
    (hb1 : Blk w B 87 #[.pointer (some ⟨g, 0, none⟩)]) (hb2 : Blk w (B + 1) 3 #[.int .i64 3]) (hgB : g < B) :
    Calls Tryz.prog 168 #[.agg #[.pointer (some ⟨g, 0, none⟩), .func (.func 68) #[] #[.pointer (some ⟨B, 0, none⟩), .pointer (some ⟨B + 1, 0, none⟩)]], .string ⟨p.toArray⟩] w fun e w' => ∃ v, e = .returned v ∧ w'.ownsRow w.heap.size 9 1 v (handL es caps false p).length (strCells (handL es caps false p)) ∧ StF w' g A c es caps blind (qs ++ [⟨3, p⟩]) ∧ Kp g w w' := by
  go_enter Tryz.func168, Tryz.ntmps168
  go_wp2_with (go_at_call 68; refine (pdoGlob g B A c es caps blind qs p _ (hg.alloc _) hf (he.below (by go_grown)) hg5 hcaps hps hl (hb1.alloc _) (hb2.alloc _) hgB).mono ?_; rintro e w1 ⟨v, rfl, hi1, hg1, hk1⟩)
  go_returns
  exact ⟨_, rfl, own_low hi1 (by simp), hg1, ((Kp.refl g w).alloc _).trans hk1⟩
end Go.Proofs.YtkaoechldamggaaGreatDoor
namespace Go.Proofs.YtkaoechldamggaaGreatDoor
open Go Go.RowKit
set_option maxRecDepth 100000

theorem StF.fresh1 {w : World} {A : Option Addr} {c : Nat} {es : List Ent} {caps : Nat} {blind : Bool} (hr : Rd w w.heap.size A (entCells es)) :
    StF (w.alloc (.cells #[.slice A es.length c, .int .u32 (caps : Int), .bool blind, .slice none 0 0] 89)) w.heap.size A c es caps blind [] :=
  ⟨⟨.slice none 0 0, Blk.newAt _ _ rfl rfl, ⟨rfl, .inl ⟨rfl, rfl⟩⟩⟩, hr.below (B' := w.heap.size) (by go_grown) (Nat.le_refl _)⟩

def globErr (p : Bs) : Nat := if (parseAll p).isSome then 0 else 375
def globL (es : List Ent) (caps : Nat) (blind : Bool) (p : Bs) : List Bs := if (parseAll p).isSome then handL es caps (blind && !hasCap caps 3) p else []

set_option maxHeartbeats 4000000 in
theorem pGlob (A : Option Addr) (c : Nat) (es : List Ent) (caps : Nat) (blind : Bool) (p : Bs) (w : World) (hr : Rd w w.heap.size A (entCells es)) (hf : Fine es) (he : Env w) (hcaps : caps < 4294967296) (hps : p.length ≤ 1024) :
    Calls Tryz.prog 15 #[.agg #[.slice A es.length c, .int .u32 (caps : Int), .bool blind], .string ⟨p.toArray⟩] w fun e w' => ∃ v u,
      e = .returned (.tuple #[v, u, .int .i64 (globErr p : Int)]) ∧ w'.ownsRow w.heap.size 9 1 v (globL es caps blind p).length (strCells (globL es caps blind p)) ∧ Below w.heap.size w w' := by
  have h5 := he.size
  have cp := fun W => pparts p W (by omega)
  unfold globErr globL
  obtain ⟨r, hr0⟩ : ∃ r, parseAll p = r := ⟨_, rfl⟩
  rw [hr0] at cp ⊢
  clear hr0
  cases r with
  | none =>
    dsimp only [RetParts] at cp
    simp only [Option.isSome_none, Bool.false_eq_true, if_false]
    go_enter Tryz.func15, Tryz.ntmps15
    go_wp2_with (go_at_call 36; refine (cp _).mono ?_; rintro e w1 ⟨rfl, hb1⟩)
    go_returns
    exact ⟨_, _, rfl, World.ownsRow_nil _ _ _ _, (show Below w.heap.size w _ by go_grown).trans (hb1.mono (by simp))⟩
  | some xs =>
    dsimp only [RetParts] at cp
    simp only [Option.isSome_some, if_true]
    obtain ⟨o1, ho1⟩ : ∃ o : Obj, o = .cells #[.slice A es.length c, .int .u32 (caps : Int), .bool blind] 32 := ⟨_, rfl⟩
    have hblk : Blk (w.alloc o1) w.heap.size 32 #[.slice A es.length c, .int .u32 (caps : Int), .bool blind] := Blk.newAt _ _ ho1 rfl
    have hb0 : Below w.heap.size w (w.alloc o1) := by go_grown
    have h1 := noGlob
    have h2 := yesGlob
    have hlb : ([] : List Ask).length + (p.length + 1) * 262400 ≤ 1099511627776 := by
      have : (p.length + 1) * 262400 ≤ 1025 * 262400 := Nat.mul_le_mul_right _ (by omega)
      simp only [List.length_nil]
      omega
    obtain ⟨b, hb⟩ : ∃ b, hasCap caps 3 = b := ⟨_, rfl⟩
    rw [hb]
    obtain ⟨bl, hbl⟩ : ∃ bl, (blind && !b) = bl := ⟨_, rfl⟩
    rw [hbl]
    have HB := Lib.hid hbl
    clear hbl
    subst ho1
    go_enter Tryz.func15, Tryz.ntmps15
    go_upto_region 4 with (go_at_call 36; refine (cp _).mono ?_; rintro e w1 ⟨⟨v1, rfl, -⟩, hb1⟩; have hblk1 := hblk.below hb1 hblk.lt; have hbc := hblk1.cell; have hb2 := hb0.trans (hb1.mono (by simp)); have hs1 := hb2.size)
    have hr1 : Rd w1 w1.heap.size A (entCells es) := (hr.below hb2 (Nat.le_refl _)).more hs1
    have hg0 := StF.fresh1 (c := c) (caps := caps) (blind := blind) hr1
    have hb3 := hb2.alloc hs1 (.cells #[.slice A es.length c, .int .u32 (caps : Int), .bool blind, .slice none 0 0] 89)
    have he3 := he.below hb3
    cases b with
    | false =>
      obtain rfl : blind = bl := by have := HB.out; simpa using this
      go_upto_region 9 with (first
        | (go_at_call 40; refine (pas3 w1.heap.size A es.length c caps blind [] hcaps _ hg0.st).mono ?_; rw [hb]; rintro e w2 ⟨rfl, hb4, hx, hy⟩; have hg2 := hg0.below hb4; unfold asV; dsimp only; have hb5 := hb3.trans (hb4.mono (by simp; omega)))
        | (go_at_call 41; go_loud (refine (pbyHand es caps blind w1.heap.size A c hf (by omega) hcaps (p.length + 1) [] p w2 (by omega) hg2 (he.below hb5) hps hlb).mono ?_; rintro e w3 ⟨v3, rfl, hr3, hg3, hk3⟩)))
      obtain ⟨av, hv3, -⟩ := hg3.st.ex
      have hv4 := hv3.drew1
      have hc4 := hv4.cell
      have hz5 := hb5.size
      have hb6 : Below w.heap.size w w3.drew := (hb5.trans (hk3.low_' (B := w.heap.size) (by omega) hz5)).trans (by go_grown)
      have hr4 : w3.drew.ownsRow w.heap.size 9 1 v3 (handF es caps blind (p.length + 1) p).length (strCells (handF es caps blind (p.length + 1) p)) := own_low hr3 hz5
      clear hr3 hg3 hk3 hv3
      go_region
      go_wp2_with fail
      go_returns
      exact ⟨_, _, rfl, hr4, hb6⟩
    | true =>
      obtain rfl : false = bl := by have := HB.out; simpa using this
      go_upto_region 7 with (first
        | (go_at_call 40; refine (pas3 w1.heap.size A es.length c caps blind [] hcaps _ hg0.st).mono ?_; rw [hb]; rintro e w2 ⟨rfl, hb4, hx, hy⟩; have hg2 := hg0.below hb4; unfold asV; dsimp only; have hb5 := hb3.trans (hb4.mono (by simp; omega))))
      have hz5 := hb5.size
      have he5 : Env w2.drew := (he.below hb5).below (by go_grown)
      have hg5 : StF w2.drew w1.heap.size A c es caps blind [] := hg2.below (by go_grown)
      obtain ⟨av, hv2, -⟩ := hg2.st.ex
      have hv2' := hv2.drew1
      have hc2 := hv2'.cell
      simp only [World.size_alloc] at hx hy
      have hx' := hx.drew1
      have hy' := hy.drew1
      clear hv2 hg2 hx hy
      go_region_with (go_at_call 168; go_loud (refine (pmGlob w1.heap.size (w1.heap.size + 1) A c es caps blind [] p _ hg5 hf he5 (by omega) hcaps hps (by simp) hx' hy' (by omega)).mono ?_; rintro e w3 ⟨v3, rfl, hr3, hg3, hk3⟩; obtain ⟨av3, hv3, -⟩ := hg3.st.ex; have hc3 := hv3.cell))
      all_goals
        go_wp2_with fail
        go_returns
        exact ⟨_, _, rfl, own_low hr3 hz5, hb5.trans ((show Below w.heap.size w2 w2.drew by go_grown).trans (hk3.low_' (by omega) hz5))⟩
end Go.Proofs.YtkaoechldamggaaGreatDoor
