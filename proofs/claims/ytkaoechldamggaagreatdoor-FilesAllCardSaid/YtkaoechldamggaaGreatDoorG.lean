/- The reference's class. -/
import Derived.Test.YtkaoechldamggaaGreatDoorF
namespace Go.Proofs.YtkaoechldamggaaGreatDoor
open Go Go.RowKit
set_option maxRecDepth 100000

set_option maxHeartbeats 1000000 in
theorem rclass (p : Bs) (k : Nat) (w : World) (hp : p.length ≤ 1099511627776) (hk : k ≤ p.length) :
    Calls Tryz.prog 62 #[.string ⟨p.toArray⟩, .int .i64 (k : Int)] w fun e w' => (∃ f0, e = .returned (retCls f0 (clsAt p k))) ∧ Below w.heap.size w w' := by
  obtain ⟨r, hr⟩ : ∃ r, clsAt p k = r := ⟨_, rfl⟩
  rw [hr]
  rw [clsAt_go p k] at hr
  obtain ⟨no, hno⟩ : ∃ no : Bool, isAt p k 94 = no := ⟨_, rfl⟩
  rw [hno] at hr
  have hk1 : (if no = true then k + 1 else k) ≤ p.length := by
    cases no
    · exact hk
    · exact isAt_lt hno
  obtain ⟨k1, hkk⟩ : ∃ k1, (if no = true then k + 1 else k) = k1 := ⟨_, rfl⟩
  rw [hkk] at hr hk1
  have HR := Lib.hid hr
  have HK := Lib.hid hkk
  have HN := Lib.hid hno
  clear hr hkk hno
  have hz := zero86
  go_enter Tryz.func62, Tryz.ntmps62
  go_upto_region 2 with fail
  go_cut [8] (fun v w' => v = .bool no ∧ w' = (w.alloc (.cells (prtArr false fun _ => false) 86)).alloc (.cells (prtArr false fun _ => false) 86))
  case first =>
    rcases at_cases p k 94 94 rfl with ⟨hlt, h⟩ | ⟨x, hlt, hbx, h94, h⟩ | ⟨x, hlt, hbx, h94, h⟩
    all_goals
      have HN := Lib.hid (HN.out.symm.trans h)
      clear h
      go_wp2_with fail
      go_meet
      exact ⟨by rw [HN.out], rfl⟩
  case rest =>
    obtain ⟨rfl, rfl⟩ := hcut
    clear HN
    go_upto_if 26 with fail
    go_cut [1] (fun v w' => v = .int .i64 (k1 : Int) ∧ w' = (w.alloc (.cells (prtArr false fun _ => false) 86)).alloc (.cells (prtArr false fun _ => false) 86))
    case first =>
      cases no
      all_goals
        go_wp2_with fail
        go_meet
        exact ⟨by rw [← HK.out]; simp, rfl⟩
    case rest =>
      obtain ⟨rfl, rfl⟩ := hcut
      clear HK
      go_wp2_with fail
      go_loopw [1, 9] (fun at_ n wr => ∃ (k1 m fu : Nat) (f : Nat → Bool), k1 ≤ p.length ∧ m ≤ k1 ∧ at_ = .int .i64 k1 ∧ n = .int .i64 m ∧ Below w.heap.size w wr ∧ PB wr (w.heap.size + 1) 86 false f ∧ PB wr w.heap.size 86 false (fun _ => false)
          ∧ Hid (p.length + 1 ≤ fu + k1 ∧ fin no (cls p fu k1 (decide (0 < m)) f) = r))
        (fun at_ _ _ => (p.length + 1 - intOf at_).toNat)
      case atStart => exact ⟨k1, 0, _, fun _ => false, hk1, by omega, rfl, rfl, by go_grown, PB.newAt _ _ _ rfl (by simp), (PB.newAt _ _ _ rfl rfl).alloc _, by omega, HR.out⟩
      case round =>
        clear HR hk1 k1
        obtain ⟨k1, m, fu, f, hk1, hm, rfl, rfl, hb, hpb, hpb4, HI⟩ := hrel
        have hbs := hb.size
        obtain ⟨stop, hstop⟩ : ∃ stop : Bool, (decide (0 < m) && isAt p k1 93) = stop := ⟨_, rfl⟩
        have HS := Lib.hid hstop
        clear hstop
        go_upto_region 6 with fail
        go_cut [42] (fun v w' => v = .bool stop ∧ wr = w')
        case first =>
          have hstop := HS.out
          clear HS
          by_cases hm0 : 0 < m
          · rcases at_cases p k1 93 93 rfl with ⟨hlt, h⟩ | ⟨x, hlt, hbx, h94, h⟩ | ⟨x, hlt, hbx, h94, h⟩
            all_goals
              rw [h] at hstop
              have HS := Lib.hid hstop
              clear h hstop
              go_wp2_with fail
              go_meet
              exact ⟨by rw [← HS.out]; simp [hm0], rfl⟩
          · have HS := Lib.hid hstop
            clear hstop
            go_wp2_with fail
            all_goals
              go_meet
              exact ⟨by rw [← HS.out]; simp [hm0], rfl⟩
        case rest =>
          obtain ⟨rfl, rfl⟩ := hcut
          cases stop with
          | true =>
            have hst : 0 < m ∧ isAt p k1 93 = true := by simpa using HS.out
            have hlt1 := isAt_lt hst.2
            have hfin : fin no (some (f, k1 + 1)) = r := by
              have h2 := HI.2
              have e : decide (0 < m) = true := by simpa using hst.1
              obtain ⟨fu', rfl⟩ : ∃ q, fu = q + 1 := ⟨fu - 1, by have := HI.1; omega⟩
              have h93 := (isAt_iff _ _ _).1 hst.2
              rw [List.getElem?_eq_getElem hlt1] at h93
              rw [e, cls_done p fu' k1 f hlt1 (Option.some.inj h93)] at h2
              exact h2
            have HF := Lib.hid hfin
            clear hfin hst HS HI
            go_wp2_with fail
            go_loopw [15] (fun i wr => ∃ j : Nat, j ≤ 256 ∧ i = .int .i64 j ∧ Below w.heap.size w wr ∧ PB wr (w.heap.size + 1) 86 false (mix f no j) ∧ PB wr w.heap.size 86 false (fun _ => false)) (fun i _ => 256 - (intOf i).toNat)
            case atStart => exact ⟨0, by omega, rfl, hb, by rw [mix_zero]; exact hpb, hpb4⟩
            case round =>
              clear hpb hpb4 hb hbs
              obtain ⟨j, hj, rfl, hb, hpb, hpb4⟩ := hrel
              by_cases hlt : j < 256
              · have hc := hpb.cell j hlt
                rw [mix_at] at hc
                have hf := hpb.frozen (1 + j)
                obtain ⟨fj, hfj⟩ : ∃ fj, f j = fj := ⟨_, rfl⟩
                rw [hfj] at hc
                have HJ := Lib.hid hfj
                clear hfj
                cases no <;> cases fj
                all_goals
                  go_wp2_with fail
                  go_roundw
                  case rel => exact ⟨j + 1, by omega, by go_num, hb.setCell (by simp) _, mix_set hpb hlt _ (by rw [HJ.out]; simp [← bneInt]), hpb4.far (by simp) _⟩
                  case measure => simp [intOf]; omega
              · have e : j = 256 := by omega
                have HP := mix_end (e ▸ hpb)
                clear hpb e
                go_wp2_with (first | (refine load86 rfl _ rfl _ rfl HP ?_) | (refine store86 rfl _ _ rfl _ rfl hpb4 rfl ?_; intro w2 hpb2 hw2))
                refine bodyPost_ret (results_86 rfl _ _ _ _ _ rfl hpb2) rfl ⟨⟨fun _ => false, ?_⟩, hw2.below hb (Nat.le_refl _)⟩
                rw [← HF.out]
                exact ret_eq rfl
          | false =>
            have hx : ¬ (decide (0 < m) = true ∧ p[k1]? = some 93) := by
              rintro ⟨h1, h2⟩
              have h3 := HS.out
              rw [h1, (isAt_iff _ _ _).2 h2] at h3
              cases h3
            obtain ⟨hfu, hr0⟩ := HI
            obtain ⟨fu, rfl⟩ : ∃ q, fu = q + 1 := ⟨fu - 1, by omega⟩
            clear HS
            cases he : endB p k1 with
            | none =>
              rw [cls_bad p fu k1 _ f hx he] at hr0
              have c1 : ∀ W, Calls Tryz.prog 87 #[.string ⟨p.toArray⟩, .int .i64 (k1 : Int)] W fun e w' => e = .returned (.tuple #[.int .u8 0, .int .i64 0, .bool false]) ∧ W = w' := fun W => by
                have h := rbound p k1 hp (by omega) _ rfl W
                rw [he] at h
                exact h
              have C1 := Lib.hid c1
              have HR := Lib.hid hr0
              clear hr0 he c1 hx
              go_wp2_with (first | (go_at_call 87; refine (C1.out _).mono ?_; rintro e w' ⟨rfl, rfl⟩) | (refine load86 rfl _ rfl _ rfl hpb ?_) | (refine store86 rfl _ _ rfl _ rfl hpb4 rfl ?_; intro w2 hpb2 hw2))
              refine bodyPost_ret (results_86 rfl _ _ _ _ _ rfl hpb2) rfl ⟨⟨f, ?_⟩, hw2.below hb (Nat.le_refl _)⟩
              rw [← HR.out]
              exact ret_eq rfl
            | some q =>
              obtain ⟨lo, n1⟩ := q
              obtain ⟨hl1, hl2⟩ := endB_lt he
              have c1 : ∀ W, Calls Tryz.prog 87 #[.string ⟨p.toArray⟩, .int .i64 (k1 : Int)] W fun e w' => e = .returned (.tuple #[.int .u8 (lo.toNat : Int), .int .i64 (n1 : Int), .bool true]) ∧ W = w' := fun W => by
                have h := rbound p k1 hp (by omega) _ rfl W
                rw [he] at h
                exact h
              have C1 := Lib.hid c1
              have HX := Lib.hid hx
              have HE := Lib.hid he
              have HR := Lib.hid hr0
              clear hr0 he c1 hx
              obtain ⟨dash, hdash⟩ : ∃ dash : Bool, isAt p n1 45 = dash := ⟨_, rfl⟩
              have HD := Lib.hid hdash
              clear hdash
              go_upto_region 13 with (go_at_call 87; refine (C1.out _).mono ?_; rintro e w' ⟨rfl, rfl⟩)
              go_cut [66] (fun v w' => v = .bool dash ∧ wr = w')
              case first =>
                have hdash := HD.out
                clear HD
                rcases at_cases p n1 45 45 rfl with ⟨hlt, h⟩ | ⟨x, hlt, hbx, h94, h⟩ | ⟨x, hlt, hbx, h94, h⟩
                all_goals
                  rw [h] at hdash
                  have HD := Lib.hid hdash
                  clear h hdash
                  go_wp2_with fail
                  go_meet
                  exact ⟨by first | (rw [← HD.out]; done) | (rw [← HD.out]; simp [*]), rfl⟩
              case rest =>
                obtain ⟨rfl, rfl⟩ := hcut
                go_upto_if 66 with fail
                go_cut [1, 11, 12, 13] (fun a _ _ c w' => ∃ (hi : UInt8) (k2 : Nat), k1 < k2 ∧ k2 ≤ p.length ∧ a = .int .i64 (k2 : Int) ∧ c = .int .u8 (hi.toNat : Int) ∧ Hid (p.length + 1 ≤ fu + k2 ∧ fin no (cls p fu k2 true (rng f lo.toNat hi.toNat)) = r) ∧ wr = w')
                case first =>
                  cases dash with
                  | false =>
                    have hr1 := HR.out
                    rw [cls_one p fu k1 _ f HX.out HE.out ((isAt_not _ _ _).1 HD.out)] at hr1
                    have HR1 := Lib.hid hr1
                    clear hr1
                    go_wp2_with fail
                    go_meet
                    exact ⟨lo, n1, hl1, hl2, rfl, rfl, ⟨by omega, HR1.out⟩, rfl⟩
                  | true =>
                    have hlt45 := isAt_lt HD.out
                    cases he2 : endB p (n1 + 1) with
                    | none =>
                      have hr1 := HR.out
                      rw [cls_bad2 p fu k1 _ f HX.out HE.out ((isAt_iff _ _ _).1 HD.out) he2] at hr1
                      have HR1 := Lib.hid hr1
                      have c2 : ∀ W, Calls Tryz.prog 87 #[.string ⟨p.toArray⟩, .int .i64 ((n1 : Int) + 1)] W fun e w' => e = .returned (.tuple #[.int .u8 0, .int .i64 0, .bool false]) ∧ W = w' := fun W => by
                        have h := rbound p (n1 + 1) hp (by omega) ((n1 : Int) + 1) (by omega) W
                        rw [he2] at h
                        exact h
                      have C2 := Lib.hid c2
                      clear hr1 c2 he2
                      go_wp2_with (first | (go_at_call 87; refine (C2.out _).mono ?_; rintro e w' ⟨rfl, rfl⟩) | (refine load86 rfl _ rfl _ rfl hpb ?_) | (refine store86 rfl _ _ rfl _ rfl hpb4 rfl ?_; intro w2 hpb2 hw2))
                      refine bodyPost_ret (results_86 rfl _ _ _ _ _ rfl hpb2) rfl ⟨⟨f, ?_⟩, hw2.below hb (Nat.le_refl _)⟩
                      rw [← HR1.out]
                      exact ret_eq rfl
                    | some q2 =>
                      obtain ⟨hi, k2⟩ := q2
                      obtain ⟨hl3, hl4⟩ := endB_lt he2
                      have hr1 := HR.out
                      rw [cls_two p fu k1 _ f HX.out HE.out ((isAt_iff _ _ _).1 HD.out) he2] at hr1
                      have HR1 := Lib.hid hr1
                      have c2 : ∀ W, Calls Tryz.prog 87 #[.string ⟨p.toArray⟩, .int .i64 ((n1 : Int) + 1)] W fun e w' => e = .returned (.tuple #[.int .u8 (hi.toNat : Int), .int .i64 (k2 : Int), .bool true]) ∧ W = w' := fun W => by
                        have h := rbound p (n1 + 1) hp (by omega) ((n1 : Int) + 1) (by omega) W
                        rw [he2] at h
                        exact h
                      have C2 := Lib.hid c2
                      clear hr1 c2 he2
                      go_wp2_with (go_at_call 87; refine (C2.out _).mono ?_; rintro e w' ⟨rfl, rfl⟩)
                      go_meet
                      exact ⟨hi, k2, by omega, hl4, rfl, rfl, ⟨by omega, HR1.out⟩, rfl⟩
                case rest =>
                  obtain ⟨hi, k2, h12, h2l, rfl, rfl, HI, rfl⟩ := hcut
                  clear HR HX HE C1 HD hl1 hl2
                  have hlo : lo.toNat < 256 := lo.toNat_lt
                  have hhi : hi.toNat < 256 := hi.toNat_lt
                  obtain ⟨lon, hlon⟩ : ∃ q, lo.toNat = q := ⟨_, rfl⟩
                  obtain ⟨hin, hhin⟩ : ∃ q, hi.toNat = q := ⟨_, rfl⟩
                  rw [hlon] at hlo HI
                  rw [hhin] at hhi HI
                  simp only [hlon, hhin]
                  clear hlon hhin
                  obtain ⟨wo, rfl⟩ : ∃ wo : World, wo = wr := ⟨_, rfl⟩
                  go_wp2_with fail
                  go_loopw [14] (fun c wr => ∃ j : Nat, lon ≤ j ∧ j ≤ 256 ∧ (j ≤ hin + 1 ∨ j = lon) ∧ c = .int .i64 (j : Int) ∧ Below w.heap.size w wr ∧ PB wr (w.heap.size + 1) 86 false (fill f lon j) ∧ PB wr w.heap.size 86 false (fun _ => false)) (fun c _ => 256 - (intOf c).toNat)
                  case atStart => exact ⟨lon, by omega, by omega, .inr rfl, rfl, hb, by rw [fill_start]; exact hpb, hpb4⟩
                  case round =>
                    clear hpb hpb4 hb hbs
                    obtain ⟨j, hj1, hj2, hj3, rfl, hb, hpb, hpb4⟩ := hrel
                    by_cases hle : j ≤ hin
                    · have hc := hpb.cell j (by omega)
                      have hf := hpb.frozen (1 + j)
                      go_wp2_with fail
                      go_roundw
                      case rel => exact ⟨j + 1, by omega, by omega, .inl (by omega), by go_num, hb.setCell (by simp) _, fill_set hpb hj1 (by omega), hpb4.far (by simp) _⟩
                      case measure => simp [intOf]; omega
                    · have e := fill_end f lon hin j (by omega) hj3
                      rw [e] at hpb
                      clear e
                      go_wp2_with fail
                      go_roundw
                      case rel => exact ⟨k2, m + 1, fu, _, h2l, by omega, rfl, by go_num, hb, hpb, hpb4, by simpa using HI⟩
                      case measure => simp [intOf]; omega
end Go.Proofs.YtkaoechldamggaaGreatDoor
