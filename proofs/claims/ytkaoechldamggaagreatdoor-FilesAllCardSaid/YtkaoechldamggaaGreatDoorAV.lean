/- The reference's Fit. -/
import Derived.Test.YtkaoechldamggaaGreatDoorX
import Derived.Test.YtkaoechldamggaaGreatDoorL
import Derived.Test.YtkaoechldamggaaGreatDoorA
namespace Go.Proofs.YtkaoechldamggaaGreatDoor
open Go Go.RowKit
set_option maxRecDepth 100000

def goodEnt (e : Ent) : Bool := valid e.path && !(e.path == [46]) && decide (e.data.length ≤ 65535)
def badPair (ne : Bool) (a b : Ent) : Bool := ne && (a.path == b.path || isBelow a.path b.path)
/-- A store that fits. -/
structure FitP (es : List Ent) (caps : Nat) : Prop where
  many : es.length ≤ 256
  caps : caps < 32
  each : ∀ i (hi : i < es.length), goodEnt es[i] = true ∧ ∀ k (hk : k < es.length), badPair (k != i) es[i] es[k] = false

theorem FitP.fine {es : List Ent} {caps : Nat} (h : FitP es caps) : Fine es := by
  refine ⟨h.many, fun e he => ?_⟩
  obtain ⟨i, hi, rfl⟩ := List.getElem_of_mem he
  have := (h.each i hi).1
  simp only [goodEnt, Bool.and_eq_true, decide_eq_true_eq] at this
  exact ⟨valid_len this.1.1, this.2⟩

set_option maxHeartbeats 2000000 in
theorem rfit (A : Option Addr) (c : Nat) (es : List Ent) (caps : Nat) (blind : Bool) (w : World) (hr : Rd w w.heap.size A (entCells es)) (he : Env w) (hcaps : caps < 4294967296) (hes : ∀ e ∈ es, e.path.length ≤ 140737488351232 ∧ e.data.length ≤ 140737488351232) :
    Calls Tryz.prog 14 #[.agg #[.slice A es.length c, .int .u32 (caps : Int), .bool blind]] w fun e w' => ∃ b : Bool, e = .returned (.bool b) ∧ (b = true ↔ FitP es caps) ∧ Below w.heap.size w w' := by
  by_cases hm : 256 < es.length
  · have h1 : decide ((256 : Int) < (es.length : Int)) = true := decide_eq_true (by omega)
    go_enter Tryz.func14, Tryz.ntmps14
    go_wp2_with fail
    go_returns
    exact ⟨false, rfl, ⟨(fun h => by cases h), fun h => by have := h.many; omega⟩, by go_grown⟩
  have h1 : decide ((256 : Int) < (es.length : Int)) = false := decide_eq_false (by omega)
  by_cases hc : 32 ≤ caps
  · have h2 : decide ((32 : Int) ≤ (caps : Int)) = true := decide_eq_true (by omega)
    go_enter Tryz.func14, Tryz.ntmps14
    go_wp2_with fail
    go_returns
    exact ⟨false, rfl, ⟨(fun h => by cases h), fun h => by have := h.caps; omega⟩, by go_grown⟩
  have h2 : decide ((32 : Int) ≤ (caps : Int)) = false := decide_eq_false (by omega)
  obtain ⟨w0, hw0⟩ : ∃ w0, w.alloc (.cells #[.slice A es.length c, .int .u32 (caps : Int), .bool blind] 32) = w0 := ⟨_, rfl⟩
  have hb0 : Below w.heap.size w w0 := by rw [← hw0]; go_grown
  have hx0 : Blk w0 w.heap.size 32 #[.slice A es.length c, .int .u32 (caps : Int), .bool blind] := by rw [← hw0]; exact Blk.newAt _ _ rfl rfl
  have hxl := hx0.lt
  go_enter Tryz.func14, Tryz.ntmps14
  have hxc := hx0.cell
  go_wp2_with fail
  clear hw0 h1 h2 hxc
  go_loopw [19] (fun i wr => ∃ k : Nat, k ≤ es.length ∧ i = .int .i64 k ∧ (∀ i (hi : i < es.length), i < k → goodEnt es[i] = true ∧ ∀ k (hk : k < es.length), badPair (k != i) es[i] es[k] = false) ∧ Below w0.heap.size w0 wr) (fun i _ => es.length - (intOf i).toNat)
  case atStart => exact ⟨0, Nat.zero_le _, rfl, fun _ _ h => by omega, Below.refl _ _⟩
  case round =>
    obtain ⟨k, hk, rfl, hall, hb⟩ := hrel
    have HA := Lib.hid hall
    clear hall
    have hxr := (hx0.below hb hxl).cell
    have hbs := hb.size
    have hbw := hb0.trans (hb.mono hb0.size)
    by_cases hkl : k < es.length
    · obtain ⟨ad, rfl, had, e1, e2⟩ := (hr.below hbw (Nat.le_refl _)).ent k hkl
      have hel := hes _ (List.getElem_mem hkl)
      obtain ⟨x, hx⟩ : ∃ x, es[k] = x := ⟨_, rfl⟩
      rw [hx] at e1 e2 hel
      have HX := Lib.hid hx
      have hb1 := hb.alloc hbs (.cells #[.string ⟨x.path.toArray⟩, .string ⟨x.data.toArray⟩] 74)
      have hy : Blk (wr.alloc (.cells #[.string ⟨x.path.toArray⟩, .string ⟨x.data.toArray⟩] 74)) wr.heap.size 74 #[.string ⟨x.path.toArray⟩, .string ⟨x.data.toArray⟩] := Blk.newAt _ _ rfl rfl
      have hyl := hy.lt
      obtain ⟨v, hv⟩ : ∃ v, valid x.path = v := ⟨_, rfl⟩
      have cv := fun W (hW : Env W) => rvalid x.path W hel.1 hW
      rw [hv] at cv
      have he1 := he.below (hb0.trans (hb1.mono hb0.size))
      have hs1 := hb1.size
      have HV := Lib.hid hv
      clear hv hx
      cases v with
      | false =>
        go_wp2_with (go_at_call 29; refine (cv _ he1).mono ?_; rintro e w1 ⟨rfl, hb2⟩; have hb3 := hb1.trans (hb2.mono hs1); have hyc := (hy.below hb2 hyl).cell)
        go_returns
        refine ⟨false, rfl, ⟨(fun h => by cases h), fun h => ?_⟩, hb0.trans (hb3.mono hb0.size)⟩
        have h3 := (h.each k hkl).1
        rw [HX.out] at h3
        simp [goodEnt, HV.out] at h3
      | true =>
        cases hdt : (x.path == [46]) with
        | true =>
          go_wp2_with (go_at_call 29; refine (cv _ he1).mono ?_; rintro e w1 ⟨rfl, hb2⟩; have hb3 := hb1.trans (hb2.mono hs1); have hyc := (hy.below hb2 hyl).cell)
          go_returns
          refine ⟨false, rfl, ⟨(fun h => by cases h), fun h => ?_⟩, hb0.trans (hb3.mono hb0.size)⟩
          have h3 := (h.each k hkl).1
          rw [HX.out] at h3
          simp [goodEnt, hdt] at h3
        | false =>
          by_cases hdl : 65535 < x.data.length
          · have h3 : decide ((65535 : Int) < (x.data.length : Int)) = true := decide_eq_true (by omega)
            go_wp2_with (go_at_call 29; refine (cv _ he1).mono ?_; rintro e w1 ⟨rfl, hb2⟩; have hb3 := hb1.trans (hb2.mono hs1); have hyc := (hy.below hb2 hyl).cell)
            go_returns
            refine ⟨false, rfl, ⟨(fun h => by cases h), fun h => ?_⟩, hb0.trans (hb3.mono hb0.size)⟩
            have h4 := (h.each k hkl).1
            rw [HX.out] at h4
            simp only [goodEnt, Bool.and_eq_true, decide_eq_true_eq] at h4
            omega
          · have h3 : decide ((65535 : Int) < (x.data.length : Int)) = false := decide_eq_false (by omega)
            have hgood : goodEnt x = true := by
              simp only [goodEnt, HV.out, hdt, Bool.not_false, Bool.and_self, Bool.true_and, decide_eq_true_eq]
              omega
            have HG := Lib.hid hgood
            clear hgood
            go_wp2_with (go_at_call 29; refine (cv _ he1).mono ?_; rintro e w1 ⟨rfl, hb2⟩; have hb3 := hb1.trans (hb2.mono hs1); have hy1 := hy.below hb2 hyl; have hyc := hy1.cell; have hxm := (hx0.below hb3 hxl); have hxc1 := hxm.cell)
            have hs3 := hb3.size
            have hy1l := hy1.lt
            have hxml := hxm.lt
            have hb4 := hb0.trans (hb3.mono hb0.size)
            clear h3 hdt hyc cv he1 hxc1
            go_loopw [42] (fun i wy => ∃ j : Nat, j ≤ es.length ∧ i = .int .i64 j ∧ (∀ l (hl : l < es.length), l < j → badPair (l != k) x es[l] = false) ∧ Below w1.heap.size w1 wy) (fun i _ => es.length - (intOf i).toNat)
            case atStart => exact ⟨0, Nat.zero_le _, rfl, fun _ _ h => by omega, Below.refl _ _⟩
            case round =>
              obtain ⟨j, hj, rfl, hin, hc1⟩ := hrel
              have HI := Lib.hid hin
              clear hin hxr e1 e2
              have hc2 := hb4.trans (hc1.mono hb4.size)
              have hxc := (hxm.below hc1 hxml).cell
              have hy2 := hy1.below hc1 hy1l
              have hyc := hy2.cell
              have hcs := hc1.size
              by_cases hjl : j < es.length
              · obtain ⟨ad2, e0, had2, f1, f2⟩ := (hr.below hc2 (Nat.le_refl _)).ent j hjl
                cases e0
                have hel2 := hes _ (List.getElem_mem hjl)
                obtain ⟨z, hz⟩ : ∃ z, es[j] = z := ⟨_, rfl⟩
                rw [hz] at f1 f2 hel2
                have HZ := Lib.hid hz
                clear hz
                have hc3 := hc1.alloc hcs (.cells #[.string ⟨z.path.toArray⟩, .string ⟨z.data.toArray⟩] 74)
                have hyd := (hy2.alloc (.cells #[.string ⟨z.path.toArray⟩, .string ⟨z.data.toArray⟩] 74)).cell
                by_cases hjk : j = k
                · have h4 : ((j : Int) == (k : Int)) = true := by simp [hjk]
                  have h5 : ((j : Int) != (k : Int)) = false := by simp [hjk]
                  have HJ := Lib.hid hjk
                  clear hjk
                  go_wp2_with fail
                  go_roundw
                  case rel => exact ⟨j + 1, by omega, by go_num, fun l hl hlj => by
                    by_cases e : l = j
                    · subst e; have := HJ.out; subst this; simp [badPair]
                    · exact HI.out l hl (by omega), hc3⟩
                  case measure => simp [intOf]; omega
                · have h4 : ((j : Int) == (k : Int)) = false := by simp; omega
                  have h5 : ((j : Int) != (k : Int)) = true := by simp; omega
                  have hne : (j != k) = true := by simpa using hjk
                  have HN := Lib.hid hne
                  clear hne
                  have cb := fun W => rbelow x.path z.path W hel.1 hel2.1
                  cases hpe : (x.path == z.path) with
                  | true =>
                    go_wp2_with fail
                    go_returns
                    refine ⟨false, rfl, ⟨(fun h => by cases h), fun h => ?_⟩, hc2.trans ((show Below wr.heap.size wr _ by go_grown).mono hc2.size)⟩
                    have h6 := (h.each k hkl).2 j hjl
                    rw [HX.out, HZ.out, HN.out] at h6
                    simp [badPair, hpe] at h6
                  | false =>
                    cases hib : isBelow x.path z.path with
                    | true =>
                      rw [hib] at cb
                      go_wp2_with (go_at_call 39; refine (cb _).mono ?_; rintro e w5 ⟨rfl, rfl⟩)
                      go_returns
                      refine ⟨false, rfl, ⟨(fun h => by cases h), fun h => ?_⟩, hc2.trans ((show Below wr.heap.size wr _ by go_grown).mono hc2.size)⟩
                      have h6 := (h.each k hkl).2 j hjl
                      rw [HX.out, HZ.out, HN.out] at h6
                      simp [badPair, hib] at h6
                    | false =>
                      rw [hib] at cb
                      have hbp : badPair (j != k) x z = false := by simp [badPair, hpe, hib]
                      have HB := Lib.hid hbp
                      clear hbp
                      go_wp2_with (go_at_call 39; refine (cb _).mono ?_; rintro e w5 ⟨rfl, rfl⟩)
                      go_roundw
                      case rel => exact ⟨j + 1, by omega, by go_num, fun l hl hlj => by
                        by_cases e : l = j
                        · subst e; rw [HZ.out]; exact HB.out
                        · exact HI.out l hl (by omega), hc3⟩
                      case measure => simp [intOf]; omega
              · go_wp2_with fail
                go_roundw
                case rel => exact ⟨k + 1, by omega, by go_num, fun i hi hik => by
                  by_cases e : i = k
                  · subst e
                    rw [HX.out]
                    exact ⟨HG.out, fun l hl => HI.out l hl (by omega)⟩
                  · exact HA.out i hi (by omega), hb3.trans (hc1.mono hs3)⟩
                case measure => simp [intOf]; omega
    · have hke : k = es.length := by omega
      go_wp2_with fail
      go_returns
      exact ⟨true, rfl, ⟨fun _ => ⟨by omega, by omega, fun i hi => HA.out i hi (by omega)⟩, fun _ => rfl⟩, hbw⟩
end Go.Proofs.YtkaoechldamggaaGreatDoor
