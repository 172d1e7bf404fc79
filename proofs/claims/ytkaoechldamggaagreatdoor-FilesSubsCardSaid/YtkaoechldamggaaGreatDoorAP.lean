/- files.Glob: what is told and its number; of what was asked nothing is said (Go leaves open when the return reads it). -/
import Derived.Test.YtkaoechldamggaaGreatDoorAO
import Derived.Test.YtkaoechldamggaaGreatDoorH
namespace Go.Proofs.YtkaoechldamggaaGreatDoor
open Go Go.RowKit
set_option maxRecDepth 100000

theorem StF.fresh1 {w : World} {A : Option Addr} {c : Nat} {es : List Ent} {caps : Nat} {blind : Bool} (hr : Rd w w.heap.size A (entCells es)) :
    StF (w.alloc (.cells #[.slice A es.length c, .int .u32 (caps : Int), .bool blind, .slice none 0 0] 89)) w.heap.size A c es caps blind [] :=
  ⟨⟨.slice none 0 0, Blk.newAt _ _ rfl rfl, ⟨rfl, .inl ⟨rfl, rfl⟩⟩⟩, hr.below (B' := w.heap.size) (by go_grown) (Nat.le_refl _)⟩

def globErr (p : Bs) : Nat := if (parseAll p).isSome then 0 else 375
def globL (es : List Ent) (caps : Nat) (blind : Bool) (p : Bs) : List Bs := if (parseAll p).isSome then handL es caps (blind && !hasCap caps 3) p else []

set_option maxHeartbeats 4000000 in
theorem pGlob (A : Option Addr) (c : Nat) (es : List Ent) (caps : Nat) (blind : Bool) (p : Bs) (w : World) (hr : Rd w w.heap.size A (entCells es)) (hf : Fine es) (he : Env w) (hcaps : caps < 4294967296) (hps : p.length ≤ 1024) :
    Calls Tryz.prog 15 #[.agg #[.slice A es.length c, .int .u32 (caps : Int), .bool blind], .string ⟨p.toArray⟩] w fun e w' => ∃ v u,
      e = .returned (.tuple #[v, u, .int .i64 (globErr p : Int)]) ∧ w'.ownsRow w.heap.size 9 1 v (globL es caps blind p).length (strCells (globL es caps blind p)) ∧ Below w.heap.size w w' := by
  have h5 := he.size
  have cp := fun W => pparts p W (by omega)
  unfold globErr globL
  obtain ⟨r, hr0⟩ : ∃ r, parseAll p = r := ⟨_, rfl⟩
  rw [hr0] at cp ⊢
  clear hr0
  cases r with
  | none =>
    dsimp only [RetParts] at cp
    simp only [Option.isSome_none, Bool.false_eq_true, if_false]
    go_enter Tryz.func15, Tryz.ntmps15
    go_wp2_with (go_at_call 36; refine (cp _).mono ?_; rintro e w1 ⟨rfl, hb1⟩)
    go_returns
    exact ⟨_, _, rfl, World.ownsRow_nil _ _ _ _, (show Below w.heap.size w _ by go_grown).trans (hb1.mono (by simp))⟩
  | some xs =>
    dsimp only [RetParts] at cp
    simp only [Option.isSome_some, if_true]
    obtain ⟨o1, ho1⟩ : ∃ o : Obj, o = .cells #[.slice A es.length c, .int .u32 (caps : Int), .bool blind] 32 := ⟨_, rfl⟩
    have hblk : Blk (w.alloc o1) w.heap.size 32 #[.slice A es.length c, .int .u32 (caps : Int), .bool blind] := Blk.newAt _ _ ho1 rfl
    have hb0 : Below w.heap.size w (w.alloc o1) := by go_grown
    have h1 := noGlob
    have h2 := yesGlob
    have hlb : ([] : List Ask).length + (p.length + 1) * 262400 ≤ 1099511627776 := by
      have : (p.length + 1) * 262400 ≤ 1025 * 262400 := Nat.mul_le_mul_right _ (by omega)
      simp only [List.length_nil]
      omega
    obtain ⟨b, hb⟩ : ∃ b, hasCap caps 3 = b := ⟨_, rfl⟩
    rw [hb]
    obtain ⟨bl, hbl⟩ : ∃ bl, (blind && !b) = bl := ⟨_, rfl⟩
    rw [hbl]
    have HB := Lib.hid hbl
    clear hbl
    subst ho1
    go_enter Tryz.func15, Tryz.ntmps15
    go_upto_region 4 with (go_at_call 36; refine (cp _).mono ?_; rintro e w1 ⟨⟨v1, rfl, -⟩, hb1⟩; have hblk1 := hblk.below hb1 hblk.lt; have hbc := hblk1.cell; have hb2 := hb0.trans (hb1.mono (by simp)); have hs1 := hb2.size)
    have hr1 : Rd w1 w1.heap.size A (entCells es) := (hr.below hb2 (Nat.le_refl _)).more hs1
    have hg0 := StF.fresh1 (c := c) (caps := caps) (blind := blind) hr1
    have hb3 := hb2.alloc hs1 (.cells #[.slice A es.length c, .int .u32 (caps : Int), .bool blind, .slice none 0 0] 89)
    have he3 := he.below hb3
    cases b with
    | false =>
      obtain rfl : blind = bl := by have := HB.out; simpa using this
      go_upto_region 9 with (first
        | (go_at_call 40; refine (pas3 w1.heap.size A es.length c caps blind [] hcaps _ hg0.st).mono ?_; rw [hb]; rintro e w2 ⟨rfl, hb4, hx, hy⟩; have hg2 := hg0.below hb4; unfold asV; dsimp only; have hb5 := hb3.trans (hb4.mono (by simp; omega)))
        | (go_at_call 41; go_loud (refine (pbyHand es caps blind w1.heap.size A c hf (by omega) hcaps (p.length + 1) [] p w2 (by omega) hg2 (he.below hb5) hps hlb).mono ?_; rintro e w3 ⟨v3, rfl, hr3, hg3, hk3⟩)))
      obtain ⟨av, hv3, -⟩ := hg3.st.ex
      have hv4 := hv3.drew1
      have hc4 := hv4.cell
      have hz5 := hb5.size
      have hb6 : Below w.heap.size w w3.drew := (hb5.trans (hk3.low_' (B := w.heap.size) (by omega) hz5)).trans (by go_grown)
      have hr4 : w3.drew.ownsRow w.heap.size 9 1 v3 (handF es caps blind (p.length + 1) p).length (strCells (handF es caps blind (p.length + 1) p)) := own_low hr3 hz5
      clear hr3 hg3 hk3 hv3
      go_region
      go_wp2_with fail
      go_returns
      exact ⟨_, _, rfl, hr4, hb6⟩
    | true =>
      obtain rfl : false = bl := by have := HB.out; simpa using this
      go_upto_region 7 with (first
        | (go_at_call 40; refine (pas3 w1.heap.size A es.length c caps blind [] hcaps _ hg0.st).mono ?_; rw [hb]; rintro e w2 ⟨rfl, hb4, hx, hy⟩; have hg2 := hg0.below hb4; unfold asV; dsimp only; have hb5 := hb3.trans (hb4.mono (by simp; omega))))
      have hz5 := hb5.size
      have he5 : Env w2.drew := (he.below hb5).below (by go_grown)
      have hg5 : StF w2.drew w1.heap.size A c es caps blind [] := hg2.below (by go_grown)
      obtain ⟨av, hv2, -⟩ := hg2.st.ex
      have hv2' := hv2.drew1
      have hc2 := hv2'.cell
      simp only [World.size_alloc] at hx hy
      have hx' := hx.drew1
      have hy' := hy.drew1
      clear hv2 hg2 hx hy
      go_region_with (go_at_call 168; go_loud (refine (pmGlob w1.heap.size (w1.heap.size + 1) A c es caps blind [] p _ hg5 hf he5 (by omega) hcaps hps (by simp) hx' hy' (by omega)).mono ?_; rintro e w3 ⟨v3, rfl, hr3, hg3, hk3⟩; obtain ⟨av3, hv3, -⟩ := hg3.st.ex; have hc3 := hv3.cell))
      all_goals
        go_wp2_with fail
        go_returns
        exact ⟨_, _, rfl, own_low hr3 hz5, hb5.trans ((show Below w.heap.size w2 w2.drew by go_grown).trans (hk3.low_' (by omega) hz5))⟩
end Go.Proofs.YtkaoechldamggaaGreatDoor
