/- What the calls ask of the world; paths and their elements in the program: Valid (both), last, cut, below. -/
import Derived.Test.YtkaoechldamggaaGreatDoorShelf
import Derived.Test.YtkaoechldamggaaGreatDoorQ
import Derived.Test.YtkaoechldamggaaGreatDoorB
namespace Go.Proofs.YtkaoechldamggaaGreatDoor
open Go Go.RowKit
set_option maxRecDepth 100000

/-- The library's tables and variables, as they are laid. R: the number of reflectlite's own type of handles. -/
structure Env (w : World) : Prop where
  tabs : Lib.Utf8Tabs 1 2 w
  mx : ∃ m, w.cell? ⟨4, 0, none⟩ = some (.int .i64 m)
  et : w.cell? ⟨3, 0, none⟩ = some (.iface 213 (.agg #[.pointer (some ⟨5, 104, none⟩)]))
theorem Env.below {w w' : World} (h : Env w) (hb : Below w.heap.size w w') : Env w' := by
  refine ⟨Utf8Tabs_below h.tabs hb, ?_, (hb.cell (World.block_lt_of_cell? w _ h.et)).trans h.et⟩
  obtain ⟨m, hm⟩ := h.mx
  exact ⟨m, (hb.cell (World.block_lt_of_cell? w _ hm)).trans hm⟩

theorem str_mk (s : Bs) : (ByteArray.mk s.toArray).data.toList = s := by simp

theorem pvalidString (s : Bs) (w : World) (hs : s.length ≤ 140737488351232) (he : Env w) :
    Calls Tryz.prog 52 #[.string ⟨s.toArray⟩] w fun e w' => e = .returned (.bool (Lib.validD s)) ∧ Below w.heap.size w w' := by
  have h := Tryz.utf8_ValidString ⟨s.toArray⟩ w (by simp [ByteArray.size]; omega) he.tabs
  rw [str_mk] at h
  exact h

theorem psplit (s : Bs) (w : World) (hs : s.length ≤ 1048576) (he : Env w) :
    Calls Tryz.prog 53 #[.string ⟨s.toArray⟩, .string ⟨#[47]⟩] w fun e w' => (∃ A, e = .returned (.slice A (elems s).length (elems s).length) ∧ Rd w' w'.heap.size A (strCells (elems s))) ∧ Below w.heap.size w w' := by
  obtain ⟨m, hm⟩ := he.mx
  have h := Tryz.strings_Split ⟨s.toArray⟩ ⟨#[47]⟩ m w (by simp [ByteArray.size]; omega) hm (by decide)
  have e1 : (Lib.splitB ⟨#[47]⟩ 0 (Lib.countB ⟨s.toArray⟩ ⟨#[47]⟩) ⟨s.toArray⟩).map (·.data.toList) = elems s := by
    rw [Lib.splitB_data]
    have := split47 s.length s (s.length + 1) (Nat.le_refl _) (Nat.le_refl _)
    rw [show Lib.countB ⟨s.toArray⟩ ⟨#[47]⟩ = Lib.countFrom [47] (s.length + 1) s from by simp [Lib.countB, Lib.count]]
    simpa using this
  have e2 : (Lib.splitB ⟨#[47]⟩ 0 (Lib.countB ⟨s.toArray⟩ ⟨#[47]⟩) ⟨s.toArray⟩).map Value.string = strCells (elems s) := by
    rw [← e1]
    simp [strCells, str, Function.comp_def]
  have e3 : Lib.countB ⟨s.toArray⟩ ⟨#[47]⟩ + 1 = (elems s).length := by
    rw [← count47 s.length s (s.length + 1) (Nat.le_refl _) (Nat.le_refl _)]
    simp [Lib.countB, Lib.count]
  rw [e2, e3] at h
  refine h.mono fun e w' ⟨h1, h2⟩ => ⟨⟨_, h1, ?_⟩, ?_⟩
  · intro j u hj
    subst h2
    refine ⟨_, rfl, by simp, ?_⟩
    rw [add_lit, World.cell?_alloc_at _ _ _ _ rfl]
    simpa using hj
  · subst h2
    exact (Below.refl _ _).alloc (Nat.le_refl _) _

theorem all_drop (l : List Bs) (q : Bs → Bool) (k : Nat) (hk : k < l.length) : (l.drop k).all q = (q l[k] && (l.drop (k + 1)).all q) := by
  rw [List.drop_eq_getElem_cons hk, List.all_cons]
theorem goodEl_raw (x : Bs) : goodEl x = (!(x == []) && (!(x == [46]) && !(x == [46, 46]))) := by unfold goodEl; rw [Bool.and_assoc]

theorem valid_no (p : Bs) (h : ¬ p.length ≤ 1024) : valid p = false := by unfold valid; simp [h]
theorem valid_bad (p : Bs) (h : Lib.validD p = false) : valid p = false := by unfold valid; simp [h]
theorem valid_dot (p : Bs) (h0 : p.length ≤ 1024) (h : Lib.validD p = true) (h1 : (p == [46]) = true) : valid p = true := by unfold valid; simp [h, h0, h1]
theorem valid_in (p : Bs) (h0 : p.length ≤ 1024) (h : Lib.validD p = true) (h1 : (p == [46]) = false) : valid p = (elems p).all goodEl := by unfold valid; simp [h, h0, h1]

theorem plast (p : Bs) (w : World) (hp : p.length ≤ 1099511627776) :
    Calls Tryz.prog 82 #[.string ⟨p.toArray⟩] w fun e w' => e = .returned (.string ⟨(lastEl p).toArray⟩) ∧ w = w' := by
  have c1 : ∀ W, Calls Tryz.prog 92 #[.string ⟨p.toArray⟩, .int .u8 47] W fun e w' => e = .returned (.int .i64 (match lastSl p with | none => -1 | some i => (i : Int))) ∧ W = w' := fun W => by
    have h := Tryz.strings_LastIndexByte ⟨p.toArray⟩ 47 (by simp [ByteArray.size]; omega) W
    rw [lastIdx47] at h
    exact h.mono fun _ _ ⟨a, b⟩ => ⟨a, b.symm⟩
  cases hl : lastSl p with
  | none =>
    rw [hl] at c1
    rw [lastEl_none p hl]
    have C1 := Lib.hid c1
    clear c1 hl
    go_enter Tryz.func82, Tryz.ntmps82
    go_wp2_with (go_at_call 92; refine (C1.out _).mono ?_; rintro e w1 ⟨rfl, rfl⟩)
    go_ret
    exact ⟨ret_str (by rw [cut_all]; simp), rfl⟩
  | some i =>
    rw [hl] at c1
    rw [lastEl_some p i hl]
    have hi : i < p.length := ((lastSl_some p i).1 hl).1
    have C1 := Lib.hid c1
    clear c1 hl
    go_enter Tryz.func82, Tryz.ntmps82
    go_wp2_with (go_at_call 92; refine (C1.out _).mono ?_; rintro e w1 ⟨rfl, rfl⟩)
    go_ret
    exact ⟨ret_str (cut_all _ _), rfl⟩

theorem pbelow (d p : Bs) (w : World) (hd : d.length ≤ 1099511627776) (_hp : p.length ≤ 140737488351232) :
    Calls Tryz.prog 55 #[.string ⟨d.toArray⟩, .string ⟨p.toArray⟩] w fun e w' => e = .returned (.tuple #[.string ⟨((below d p).getD p).toArray⟩, .bool (isBelow d p)]) ∧ w = w' := by
  cases hdot : (d == [46])
  · have hd0 : d ≠ [46] := by simpa using hdot
    have c1 : ∀ W, Calls Tryz.prog 81 #[.string ⟨p.toArray⟩, .string ⟨(d ++ [47]).toArray⟩] W fun e w' => e = .returned (.tuple #[.string ⟨((below d p).getD p).toArray⟩, .bool (isBelow d p)]) ∧ W = w' := fun W => by
      have h := Tryz.strings_CutPrefix ⟨p.toArray⟩ ⟨(d ++ [47]).toArray⟩ W
      rw [str_mk, str_mk] at h
      have e1 : Lib.hasPrefix p (d ++ [47]) = isBelow d p := by
        rw [isBelow_not d p hdot, Lib.hasPrefix, Bool.eq_iff_iff, decide_eq_true_eq, List.isPrefixOf_iff_prefix]
      have e2 : Lib.trimPrefix p (d ++ [47]) = (below d p).getD p := by
        unfold Lib.trimPrefix below
        rw [if_neg hd0]
        by_cases hpre : d ++ [47] <+: p
        · rw [if_pos hpre, if_pos (by rw [Lib.hasPrefix, List.isPrefixOf_iff_prefix]; exact hpre)]; simp
        · rw [if_neg hpre, if_neg (by rw [Lib.hasPrefix, List.isPrefixOf_iff_prefix]; exact hpre)]; simp
      rw [e1, e2] at h
      exact h.mono fun _ _ ⟨a, b⟩ => ⟨a, b.symm⟩
    have C1 := Lib.hid c1
    clear c1 hd0
    have e : (ByteArray.mk d.toArray ++ ByteArray.mk #[47]) = ⟨(d ++ [47]).toArray⟩ := ByteArray.mk_append_mk d [47]
    have E := Lib.hid e
    clear e
    go_enter Tryz.func55, Tryz.ntmps55
    go_wp2_with fail
    rw [E.out]
    refine (C1.out _).mono ?_
    rintro e w1 ⟨rfl, rfl⟩
    go_wp2_with fail
    go_ret2
    exact ⟨rfl, rfl⟩
  · have e1 : isBelow d p = !(p == [46]) := isBelow_dot d p hdot
    have e2 : (below d p).getD p = p := by
      have hd0 : d = [46] := by simpa using hdot
      unfold below
      rw [if_pos hd0]
      split <;> rfl
    rw [e1, e2]
    clear e1 e2
    go_enter Tryz.func55, Tryz.ntmps55
    go_wp2_with fail
    go_ret2
    exact ⟨rfl, rfl⟩

set_option maxHeartbeats 1000000 in
theorem pvalid (p : Bs) (w : World) (hp : p.length ≤ 140737488351232) (he : Env w) :
    Calls Tryz.prog 28 #[.string ⟨p.toArray⟩] w fun e w' => e = .returned (.bool (valid p)) ∧ Below w.heap.size w w' := by
  by_cases hlen : p.length ≤ 1024
  · have hv := fun W (hW : Env W) => pvalidString p W hp hW
    obtain ⟨v, hv0⟩ : ∃ v, Lib.validD p = v := ⟨_, rfl⟩
    simp only [hv0] at hv
    have HV := Lib.hid hv
    have hlz : ¬ (1024 : Int) < (p.length : Int) := by omega
    clear hv
    cases v with
    | false =>
      rw [valid_bad p hv0]
      clear hv0
      go_enter Tryz.func28, Tryz.ntmps28
      go_wp2_with (go_at_call 52; refine (HV.out _ he).mono ?_; rintro e w1 ⟨rfl, hb1⟩)
      go_ret
      exact ⟨rfl, hb1⟩
    | true =>
      cases hdot : (p == [46])
      · rw [valid_in p hlen hv0 hdot]
        obtain ⟨r, hr⟩ : ∃ r, (elems p).all goodEl = r := ⟨_, rfl⟩
        rw [hr]
        have HR := Lib.hid hr
        clear hr hv0
        go_enter Tryz.func28, Tryz.ntmps28
        go_wp2_with (first | (go_at_call 52; refine (HV.out _ he).mono ?_; rintro e w1 ⟨rfl, hb1⟩) | (go_at_call 53; refine (psplit p _ (by omega) (he.below hb1)).mono ?_; rintro e w2 ⟨⟨A, rfl, hrd⟩, hb2⟩))
        have hs2 := hb1.trans (hb2.mono hb1.size)
        go_loopw [18] (fun s18 wr => ∃ k : Nat, k ≤ (elems p).length ∧ s18 = .int .i64 k ∧ w2 = wr ∧ Hid (((elems p).drop k).all goodEl = r)) (fun s18 _ => (elems p).length - (intOf s18).toNat)
        case atStart => exact ⟨0, by omega, rfl, rfl, HR.out⟩
        case round =>
          obtain ⟨k, hk, rfl, rfl, HI⟩ := hrel
          clear HR
          by_cases hlt : k < (elems p).length
          · obtain ⟨ad, rfl, hadb, hc⟩ := hrd.str k hlt
            have HI2 := Lib.hid ((all_drop _ _ k hlt).symm.trans HI)
            obtain ⟨x, hx⟩ : ∃ x, (elems p)[k] = x := ⟨_, rfl⟩
            rw [hx, goodEl_raw] at HI2
            rw [hx] at hc
            clear hx hrd HI
            have hel := elems_length p
            go_wp2_with fail
            · have h : x = [] := by assumption
              go_ret; exact ⟨ret_bool (by rw [← HI2.out]; simp [h]), hs2⟩
            · have h : x = [46] := by assumption
              go_ret; exact ⟨ret_bool (by rw [← HI2.out]; simp [h]), hs2⟩
            · have h1 : ¬ x = [] := by assumption
              have h2 : ¬ x = [46] := by assumption
              have h : x = [46, 46] := by simp_all
              go_ret; exact ⟨ret_bool (by rw [← HI2.out]; simp [h]), hs2⟩
            · have h1 : ¬ x = [] := by assumption
              have h2 : ¬ x = [46] := by assumption
              have h : ¬ x = [46, 46] := by simp_all
              have HI3 : Hid (((elems p).drop (k + 1)).all goodEl = r) := by
                have h5 := HI2.out
                unfold Hid
                rw [beq_eq_false_iff_ne.2 h1, beq_eq_false_iff_ne.2 h2, beq_eq_false_iff_ne.2 h] at h5
                exact h5
              go_roundw
              case rel => exact ⟨k + 1, by omega, by go_num, trivial, HI3⟩
              case measure => simp [intOf]; omega
          · have e : (elems p).drop k = [] := List.drop_eq_nil_of_le (by omega)
            rw [e] at HI
            clear e
            go_wp2_with fail
            go_ret
            exact ⟨ret_bool HI, hs2⟩
      · rw [valid_dot p hlen hv0 hdot]
        clear hv0
        go_enter Tryz.func28, Tryz.ntmps28
        go_wp2_with (go_at_call 52; refine (HV.out _ he).mono ?_; rintro e w1 ⟨rfl, hb1⟩)
        go_ret
        exact ⟨rfl, hb1⟩
  · rw [valid_no p hlen]
    have hlz : (1024 : Int) < (p.length : Int) := by omega
    go_enter Tryz.func28, Tryz.ntmps28
    go_wp2_with fail
    go_ret
    exact ⟨rfl, Below.refl _ _⟩
set_option maxHeartbeats 1000000 in
theorem rvalid (p : Bs) (w : World) (hp : p.length ≤ 140737488351232) (he : Env w) :
    Calls Tryz.prog 29 #[.string ⟨p.toArray⟩] w fun e w' => e = .returned (.bool (valid p)) ∧ Below w.heap.size w w' := by
  by_cases hlen : p.length ≤ 1024
  · have hv := fun W (hW : Env W) => pvalidString p W hp hW
    obtain ⟨v, hv0⟩ : ∃ v, Lib.validD p = v := ⟨_, rfl⟩
    simp only [hv0] at hv
    have HV := Lib.hid hv
    have hlz : ¬ (1024 : Int) < (p.length : Int) := by omega
    clear hv
    cases v with
    | false =>
      rw [valid_bad p hv0]
      clear hv0
      go_enter Tryz.func29, Tryz.ntmps29
      go_wp2_with (go_at_call 52; refine (HV.out _ he).mono ?_; rintro e w1 ⟨rfl, hb1⟩)
      go_ret
      exact ⟨rfl, hb1⟩
    | true =>
      cases hdot : (p == [46])
      · rw [valid_in p hlen hv0 hdot]
        obtain ⟨r, hr⟩ : ∃ r, (elems p).all goodEl = r := ⟨_, rfl⟩
        rw [hr]
        have HR := Lib.hid hr
        clear hr hv0
        go_enter Tryz.func29, Tryz.ntmps29
        go_wp2_with (first | (go_at_call 52; refine (HV.out _ he).mono ?_; rintro e w1 ⟨rfl, hb1⟩) | (go_at_call 54; refine (relements p _ (by omega)).mono ?_; rintro e w2 ⟨v, rfl, hown, hb2⟩; obtain ⟨A, cp, rfl, _, _, hrd⟩ := own_rd hown; clear hown))
        have hs2 := hb1.trans (hb2.mono hb1.size)
        go_loopw [18] (fun s18 wr => ∃ k : Nat, k ≤ (elems p).length ∧ s18 = .int .i64 k ∧ w2 = wr ∧ Hid (((elems p).drop k).all goodEl = r)) (fun s18 _ => (elems p).length - (intOf s18).toNat)
        case atStart => exact ⟨0, by omega, rfl, rfl, HR.out⟩
        case round =>
          obtain ⟨k, hk, rfl, rfl, HI⟩ := hrel
          clear HR
          by_cases hlt : k < (elems p).length
          · obtain ⟨ad, rfl, hadb, hc⟩ := hrd.str k hlt
            have HI2 := Lib.hid ((all_drop _ _ k hlt).symm.trans HI)
            obtain ⟨x, hx⟩ : ∃ x, (elems p)[k] = x := ⟨_, rfl⟩
            rw [hx, goodEl_raw] at HI2
            rw [hx] at hc
            clear hx hrd HI
            have hel := elems_length p
            go_wp2_with fail
            · have h : x = [] := by assumption
              go_ret; exact ⟨ret_bool (by rw [← HI2.out]; simp [h]), hs2⟩
            · have h : x = [46] := by assumption
              go_ret; exact ⟨ret_bool (by rw [← HI2.out]; simp [h]), hs2⟩
            · have h1 : ¬ x = [] := by assumption
              have h2 : ¬ x = [46] := by assumption
              have h : x = [46, 46] := by simp_all
              go_ret; exact ⟨ret_bool (by rw [← HI2.out]; simp [h]), hs2⟩
            · have h1 : ¬ x = [] := by assumption
              have h2 : ¬ x = [46] := by assumption
              have h : ¬ x = [46, 46] := by simp_all
              have HI3 : Hid (((elems p).drop (k + 1)).all goodEl = r) := by
                have h5 := HI2.out
                unfold Hid
                rw [beq_eq_false_iff_ne.2 h1, beq_eq_false_iff_ne.2 h2, beq_eq_false_iff_ne.2 h] at h5
                exact h5
              go_roundw
              case rel => exact ⟨k + 1, by omega, by go_num, trivial, HI3⟩
              case measure => simp [intOf]; omega
          · have e : (elems p).drop k = [] := List.drop_eq_nil_of_le (by omega)
            rw [e] at HI
            clear e
            go_wp2_with fail
            go_ret
            exact ⟨ret_bool HI, hs2⟩
      · rw [valid_dot p hlen hv0 hdot]
        clear hv0
        go_enter Tryz.func29, Tryz.ntmps29
        go_wp2_with (go_at_call 52; refine (HV.out _ he).mono ?_; rintro e w1 ⟨rfl, hb1⟩)
        go_ret
        exact ⟨rfl, hb1⟩
  · rw [valid_no p hlen]
    have hlz : (1024 : Int) < (p.length : Int) := by omega
    go_enter Tryz.func29, Tryz.ntmps29
    go_wp2_with fail
    go_ret
    exact ⟨rfl, Below.refl _ _⟩
end Go.Proofs.YtkaoechldamggaaGreatDoor
