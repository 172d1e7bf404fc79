/- files.parts. -/
import Derived.Test.YtkaoechldamggaaGreatDoorF
namespace Go.Proofs.YtkaoechldamggaaGreatDoor
open Go Go.RowKit
set_option maxRecDepth 100000

/-- What parts tells: the row and true, or nil and false. -/
def RetParts (e sz : Nat) (_w : World) (base : Nat) (w' : World) (en : Ending) (r : Option (List Prt)) : Prop :=
  match r with
  | none => en = .returned (.tuple #[.slice none 0 0, .bool false])
  | some xs => ∃ v, en = .returned (.tuple #[v, .bool true]) ∧ w'.ownsRow base e sz v xs.length (prtCells xs)

theorem Wrote.grown {w w' : World} {g : Nat} (h : Wrote w g w') : w.grownBy w' (some g) := ⟨h.os, h.tape, h.output, by rw [h.size]; exact Nat.le_refl _, fun k _ hk => h.block k fun e => hk (by rw [e])⟩
theorem own_wrote {w w' : World} {g base e sz n : Nat} {v : Value} {xs : List Value} (h : w.ownsRow base e sz v n xs) (hw : Wrote w g w') (hne : v.ownBlock ≠ some g) : w'.ownsRow base e sz v n xs :=
  h.kept hw.grown (.inr hne)
theorem own_ne_new {w : World} {base e sz n : Nat} {v : Value} {xs : List Value} (h : w.ownsRow base e sz v n xs) : v.ownBlock ≠ some w.heap.size := fun he => by
  have := (h.lt _ he).2
  omega
theorem own_below {w w' : World} {base e sz n : Nat} {v : Value} {xs : List Value} (h : w.ownsRow base e sz v n xs) (hb : Below w.heap.size w w') : w'.ownsRow base e sz v n xs :=
  h.kept (row := none) ⟨hb.os, hb.tape, hb.output, hb.size, fun k hk _ => hb.block k hk⟩ (by cases v.ownBlock <;> simp)
theorem one_upd (c : Nat) : upd (fun _ => false) c true = one c := by
  funext x
  unfold upd one
  by_cases h : x = c <;> simp [h]

set_option maxHeartbeats 8000000 in
theorem pparts (p : Bs) (w : World) (hp : p.length ≤ 1048576) :
    Calls Tryz.prog 36 #[.string ⟨p.toArray⟩] w fun e w' => RetParts 137 257 w w.heap.size w' e (parseAll p) ∧ Below w.heap.size w w' := by
  obtain ⟨r, hr⟩ : ∃ r, parseAll p = r := ⟨_, rfl⟩
  have HI := Lib.hid (hr ▸ PInv.start p)
  rw [hr]
  clear hr
  have hz := zero137
  go_enter Tryz.func36, Tryz.ntmps36
  go_wp2_with fail
  go_loopw [4, 5] (fun l at_ wr => ∃ (k : Nat) (xs : List Prt), k ≤ p.length ∧ xs.length ≤ k ∧ at_ = .int .i64 k ∧ wr.ownsRow w.heap.size 137 257 l xs.length (prtCells xs) ∧ Below w.heap.size w wr ∧ Hid (PInv p r xs k)) (fun _ at_ _ => p.length - (intOf at_).toNat)
  case atStart => exact ⟨0, [], by omega, by simp, rfl, World.ownsRow_nil _ _ _ _, Below.refl _ _, HI.out⟩
  case round =>
    clear HI
    obtain ⟨k, xs, hk, hxs, rfl, hown, hb, HI⟩ := hrel
    have hbs := hb.size
    by_cases hlt : k < p.length
    · obtain ⟨c, hc⟩ : ∃ c, p[k] = c := ⟨_, rfl⟩
      have hbx : ∀ h, (ByteArray.mk p.toArray)[k]'h = c := fun _ => hc
      have HC := Lib.hid hc
      clear hc
      have hown1 := hown.alloc (.cells (prtArr false fun _ => false) 137)
      have hb1 := hb.alloc hbs (.cells (prtArr false fun _ => false) 137)
      have hpb := PB.new wr 137 false fun _ => false
      have hz1 : wr.heap.size < (wr.alloc (.cells (prtArr false fun _ => false) 137)).heap.size := by simp
      go_upto_block 2 with fail
      go_cut [5] (fun a w' => ∃ (k2 : Nat) (any : Bool) (f : Nat → Bool), k < k2 ∧ k2 ≤ p.length ∧ a = .int .i64 (k2 : Int) ∧ w'.ownsRow w.heap.size 137 257 u4 xs.length (prtCells xs) ∧ Below w.heap.size w w' ∧ PB w' wr.heap.size 137 any f ∧ Hid (PInv p r (xs ++ [⟨any, f⟩]) k2))
      case first =>
        have hne := own_ne_new hown
        have hc256 := c.toNat_lt
        clear hown hb
        generalize wr.alloc (.cells (prtArr false fun _ => false) 137) = W1 at *
        have hf0 := hpb.frozen
        cases h42 : ((c.toNat : Int) == 42)
        · cases h63 : ((c.toNat : Int) == 63)
          · cases h91 : ((c.toNat : Int) == 91)
            · cases h92 : ((c.toNat : Int) == 92)
              · have hc := hpb.cell c.toNat c.toNat_lt
                have hf := hpb.frozen (1 + c.toNat)
                go_wp2_with fail
                go_meet
                exact ⟨k + 1, false, _, by omega, by omega, by go_num, own_wrote hown1 (Wrote.cell _ _ _) hne, hb1.setCell hbs _, hpb.set_ c.toNat true hc256, by
                  rw [one_upd, ← HC.out]
                  exact HI.plain hlt (by rw [HC.out]; exact eqb_false (n := 42) (by omega) h42) (by rw [HC.out]; exact eqb_false (n := 63) (by omega) h63) (by rw [HC.out]; exact eqb_false (n := 91) (by omega) h91) (by rw [HC.out]; exact eqb_false (n := 92) (by omega) h92)⟩
              · by_cases hlt1 : k + 1 < p.length
                · obtain ⟨d, hd⟩ : ∃ d, p[k + 1] = d := ⟨_, rfl⟩
                  have hbd : ∀ h, (ByteArray.mk p.toArray)[k + 1]'h = d := fun _ => hd
                  have HD := Lib.hid hd
                  have hd256 := d.toNat_lt
                  have hne1 : ((k : Int) + 1 == (p.length : Int)) = false := by simp; omega
                  clear hd
                  have hc := hpb.cell d.toNat d.toNat_lt
                  have hf := hpb.frozen (1 + d.toNat)
                  go_wp2_with fail
                  go_meet
                  exact ⟨k + 2, false, _, by omega, by omega, by go_num, own_wrote hown1 (Wrote.cell _ _ _) hne, hb1.setCell hbs _, hpb.set_ d.toNat true hd256, by
                    rw [one_upd, ← HD.out]
                    exact HI.esc hlt (HC.out.trans (eqb_true (n := 92) (by omega) h92)) hlt1⟩
                · have hne1 : ((k : Int) + 1 == (p.length : Int)) = true := by simp; omega
                  have HE := Lib.hid (HI.escBad hlt (HC.out.trans (eqb_true (n := 92) (by omega) h92)) (by omega))
                  clear HI
                  go_wp2_with fail
                  go_ret2
                  refine ⟨?_, hb1⟩
                  rw [HE.out]
                  unfold RetParts
                  exact ret_two rfl rfl
            · have hx91 : p[k] = 91 := HC.out.trans (eqb_true (n := 91) (by omega) h91)
              obtain ⟨q, hq⟩ : ∃ q, clsAt p (k + 1) = q := ⟨_, rfl⟩
              cases q with
              | none =>
                have HE := Lib.hid (HI.clsBad hlt hx91 hq)
                have c1 : ∀ W, Calls Tryz.prog 61 #[.string ⟨p.toArray⟩, .int .i64 ((k : Int) + 1)] W fun e w' => (∃ f0, e = .returned (.tuple #[.agg (prtArr false f0), .int .i64 0, .bool false])) ∧ Below W.heap.size W w' := fun W => by
                  have h := pclass p (k + 1) W (by omega) (by omega)
                  rw [hq] at h
                  rw [show ((k + 1 : Nat) : Int) = (k : Int) + 1 from by omega] at h
                  exact h
                have C1 := Lib.hid c1
                clear c1 hq HI
                go_wp2_with (first | (go_at_call 61; refine (C1.out _).mono ?_; rintro e w2 ⟨⟨f0, rfl⟩, hb2⟩) | (refine store137 rfl _ _ rfl _ rfl (PB.new _ _ _ _) rfl ?_; intro w3 hpb3 hw3; simp only [Act.put]))
                go_ret2
                refine ⟨?_, hw3.below ((hb1.trans (hb2.mono hb1.size)).alloc (by have := hb2.size; omega) _) (by have := hb2.size; omega)⟩
                rw [HE.out]
                exact ret_two rfl rfl
              | some q =>
                obtain ⟨g, e⟩ := q
                obtain ⟨hl1, hl2⟩ := clsAt_lt hq
                have HI3 := Lib.hid (HI.cls hlt hx91 hq (by omega))
                have c1 : ∀ W, Calls Tryz.prog 61 #[.string ⟨p.toArray⟩, .int .i64 ((k : Int) + 1)] W fun en w' => en = .returned (.tuple #[.agg (prtArr false g), .int .i64 (e : Int), .bool true]) ∧ Below W.heap.size W w' := fun W => by
                  have h := pclass p (k + 1) W (by omega) (by omega)
                  rw [hq] at h
                  rw [show ((k + 1 : Nat) : Int) = (k : Int) + 1 from by omega] at h
                  exact h.mono fun _ _ ⟨⟨_, h1⟩, h2⟩ => ⟨h1, h2⟩
                have C1 := Lib.hid c1
                clear c1 hq HI
                go_wp2_with (first | (go_at_call 61; refine (C1.out _).mono ?_; rintro en w2 ⟨rfl, hb2⟩; have hs2 := hb2.size) | (refine store137 rfl (.tmp 9) (.tmp 45) rfl _ rfl (PB.new _ _ _ _) rfl ?_; intro w3 hpb3 hw3; have hpbx := ((hpb.below hb2 hz1).alloc (.cells (prtArr false fun _ => false) 137)).wrote hw3 (by omega); simp only [Act.put]) | (refine load137 rfl (.tmp 9) rfl _ rfl hpb3 ?_; simp only [Act.put, List.setIfInBounds_toArray, List.set_cons_succ, List.set_cons_zero]) | (refine store137 rfl (.tmp 6) _ rfl _ rfl hpbx rfl ?_; intro w4 hpb4 hw4; simp only [Act.put]))
                go_meet
                have hown3 := own_wrote (own_wrote ((own_below hown1 hb2).alloc (.cells (prtArr false fun _ => false) 137)) hw3 (fun h => by have := (hown1.lt _ h).2; omega)) hw4 hne
                refine ⟨e, false, g, by omega, hl2, rfl, hown3, ?_, hpb4, HI3⟩
                exact hw4.below (hw3.below ((hb1.trans (hb2.mono hb1.size)).alloc (by omega) _) (by omega)) hbs
          · go_wp2_with fail
            go_loopw [30] (fun i wx => ∃ j : Nat, j ≤ 256 ∧ i = .int .i64 j ∧ Below w.heap.size w wx ∧ PB wx wr.heap.size 137 false (fun c => if c < j then c != 47 else false) ∧ wx.ownsRow w.heap.size 137 257 u4 xs.length (prtCells xs)) (fun i _ => 256 - (intOf i).toNat)
            case atStart => exact ⟨0, by omega, rfl, hb1, hpb.congr (fun c _ => by simp), hown1⟩
            case round =>
              clear hpb hown1 hb1 hf0 hz1
              obtain ⟨j, hj, rfl, hb1, hpb, hown1⟩ := hrel
              by_cases hlt2 : j < 256
              · have hc := hpb.cell j hlt2
                rw [if_neg (by omega)] at hc
                have hf := hpb.frozen (1 + j)
                go_wp2_with fail
                go_roundw
                case rel =>
                  refine ⟨j + 1, by omega, by go_num, hb1.setCell hbs _, ?_, own_wrote hown1 (Wrote.cell _ _ _) hne⟩
                  rw [show ((j : Int) != 47) = (j != 47) from bneInt j 47]
                  refine (hpb.set_ j _ hlt2).congr fun c _ => ?_
                  unfold upd
                  by_cases e : c = j
                  · subst e; simp
                  · have : (c < j + 1) = (c < j) := by rw [eq_iff_iff]; omega
                    simp [e, this]
                case measure => simp [intOf]; omega
              · have e : j = 256 := by omega
                subst e
                go_wp2_with fail
                go_meet
                refine ⟨k + 1, false, _, by omega, by omega, by go_num, hown1, hb1, hpb.congr (g := fun x => x != 47) (fun c hc => by simp [hc]), HI.any1 hlt (HC.out.trans (eqb_true (n := 63) (by omega) h63))⟩
        · have hc := hpb.cell0
          have hf := hpb.frozen 0
          go_wp2_with fail
          go_meet
          exact ⟨k + 1, true, _, by omega, by omega, by go_num, own_wrote hown1 (Wrote.cell _ _ _) hne, hb1.setCell hbs _, hpb.set0 true, HI.star hlt (HC.out.trans (eqb_true (n := 42) (by omega) h42))⟩
      case rest =>
        obtain ⟨k2, any, f, hk2, hk3, rfl, hown2, hb2, hpb2, HI2⟩ := hcut
        go_wp2_with (first | (refine load137 rfl _ rfl _ rfl hpb2 ?_; simp only [Act.put, List.setIfInBounds_toArray, List.set_cons_succ, List.set_cons_zero]) | (refine build137 rfl _ rfl any f rfl ?_; simp only [Act.put, List.setIfInBounds_toArray, List.set_cons_succ, List.set_cons_zero]) | (at_builtin; refine push_137 _ rfl _ _ _ u4 xs any f rfl rfl hown2 rfl (by omega) hb2.size ?_; intro v' w1 hown' hg'; have HO := Lib.hid hown'; have HG := Lib.hid hg'; clear hown' hg'; simp only [Act.put, List.setIfInBounds_toArray, List.set_cons_succ, List.set_cons_zero]))
        go_roundw
        case rel => 
          refine ⟨k2, xs ++ [⟨any, f⟩], hk3, ?_, rfl, ?_, ?_, HI2⟩
          · simp; omega
          · exact HO
          · exact hb2.grown HG.out hb2.size (fun q hq => (hown2.lt q hq).1)
        case measure => simp [intOf]; omega
    · have e := HI.done (by omega)
      have HE := Lib.hid e
      clear e
      go_wp2_with fail
      go_ret2
      rw [HE.out]
      exact ⟨⟨_, rfl, hown⟩, hb⟩
end Go.Proofs.YtkaoechldamggaaGreatDoor
