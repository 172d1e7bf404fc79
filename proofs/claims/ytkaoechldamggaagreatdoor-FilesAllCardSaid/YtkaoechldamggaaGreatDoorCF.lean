/- The program's walk (under way). files.Walk. -/
import Derived.Test.YtkaoechldamggaaGreatDoorCD
import Derived.Test.YtkaoechldamggaaGreatDoorCG
namespace Go.Proofs.YtkaoechldamggaaGreatDoor
open Go Go.RowKit
set_option maxRecDepth 100000

/-- How a walk ends, as an error. -/
def errW (b : Addr) (n : Nat) : Value := if n = 0 then .nilIface else if n = 1 then .iface 263 (.pointer (some b)) else .iface 125 (.int .i64 (n : Int))

set_option maxHeartbeats 4000000 in
theorem pwalk (es : List Ent) (caps : Nat) (blind : Bool) (skip : List Bs) (k g B : Nat) (b : Addr) (A A' : Option Addr) (c c' : Nat) (hf : Fine es) (hg5 : 5 ≤ g) (hgk : g < k) (hkB : k < B) (hcaps : caps < 4294967296) (hsn : skip.length ≤ 1099511627776) (hL : LG (fun d => rdDirLst es d caps blind)) :
    ∀ (n : Nat) (p : Bs) (nm : Bs) (dir : Bool) (sz : Int) (ps : List Bs) (qs : List Ask) (W : World), fuelOk n p → Wk W k g B A c skip ps → StF W g A' c' es caps blind qs → Env W → W.cell? ⟨0, 0, none⟩ = some (.iface 263 (.pointer (some b))) → B ≤ W.heap.size →
      ps.length + (walkF es caps blind skip n p dir).paths.length ≤ 1099511627776 → qs.length + (walkF es caps blind skip n p dir).asks.length ≤ 1099511627776 →
    Calls Tryz.prog 58 #[.pointer (some ⟨k, 0, none⟩), .string ⟨p.toArray⟩, .agg #[.string ⟨nm.toArray⟩, .bool dir, .int .i64 sz]] W fun e w' =>
      e = .returned (errW b (walkF es caps blind skip n p dir).out) ∧ Wk w' k g B A c skip (ps ++ (walkF es caps blind skip n p dir).paths) ∧ StF w' g A' c' es caps blind (qs ++ (walkF es caps blind skip n p dir).asks) ∧ Kw g k W w' := by
  intro n
  induction n with
  | zero =>
    intro p nm dir sz ps qs W h
    rcases h with ⟨_, h⟩ | ⟨_, h2, h3⟩ <;> omega
  | succ n ih =>
    intro p nm dir sz ps qs W hfu hk hst he hs hBs hn hq
    obtain ⟨W0, hW0⟩ : ∃ W0, W.alloc (.cells #[.string ⟨nm.toArray⟩, .bool dir, .int .i64 sz] 45) = W0 := ⟨_, rfl⟩
    have b0 : Below W.heap.size W W0 := by rw [← hW0]; go_grown
    have x0 : Blk W0 W.heap.size 45 #[.string ⟨nm.toArray⟩, .bool dir, .int .i64 sz] := by rw [← hW0]; exact Blk.newAt _ _ rfl rfl
    have hk0 := hk.below hgk b0
    have hst0 := hst.below b0
    have hkw0 : Kw g k W W0 := Kw.of_kp (Kp.of_below b0)
    have hs0 := hkw0.cell0 (by omega) hs
    have hp1 : ps.length ≤ 1099511627776 := by omega
    have hxl := x0.lt
    have hkl : k < W.heap.size := by omega
    have cc := fun (hB0 : B ≤ W0.heap.size) => pcome k g B b A c skip ps p W0 hk0 hs0 (by omega) hgk hkB hB0 hp1 hsn hst0
    have hB0 : B ≤ W0.heap.size := by have := b0.size; omega
    have cc := cc hB0
    unfold walkF at hn hq ⊢
    obtain ⟨r, hr⟩ : ∃ r, skip.contains p = r := ⟨_, rfl⟩
    rw [hr] at cc hn hq ⊢
    cases r with
    | true =>
      simp only [if_true] at cc hn hq ⊢
      cases dir
      all_goals
        simp only [errW, if_true, if_false, Bool.false_eq_true, Nat.one_ne_zero, List.append_nil]
        go_enter Tryz.func58, Tryz.ntmps58
        go_wp2_with (first
          | (go_at_call 83; refine cc.mono ?_; rintro e w1 ⟨rfl, hk1, hst1, hkw1⟩; have hs1 := hkw1.cell0 (by omega) hs0; have xc1 : ∀ i, w1.cell? ⟨W.heap.size, i, none⟩ = _ := fun i => ((Blk.cell (hkw1.blk45 x0 (by omega) (by omega)) i)))
          | (go_at_call 59; refine (pisSame _ _).mono ?_; rintro e w2 ⟨rfl, hw2⟩; rw [hw2]))
        go_returns
        exact ⟨rfl, hk1, hst1, hkw0.trans hkw1⟩
    | false =>
      simp only [Bool.false_eq_true, if_false] at cc hn hq ⊢
      cases dir with
      | false =>
        simp only [errW, if_true, List.append_nil]
        go_enter Tryz.func58, Tryz.ntmps58
        go_wp2_with (go_at_call 83; refine cc.mono ?_; rintro e w1 ⟨rfl, hk1, hst1, hkw1⟩; have xc1 : ∀ i, w1.cell? ⟨W.heap.size, i, none⟩ = _ := fun i => ((Blk.cell (hkw1.blk45 x0 (by omega) (by omega)) i)))
        go_returns
        exact ⟨rfl, hk1, hst1, hkw0.trans hkw1⟩
      | true =>
        simp only [Bool.true_eq_false, if_false] at hn hq ⊢
        have hpl : p.length ≤ 1024 := by
          rcases hfu with ⟨h, _⟩ | ⟨_, h, _⟩
          · rw [h]; decide
          · exact h
        have crd := fun (ps : List Bs) (W : World) (hst : StF W g A' c' es caps blind qs) (he : Env W) => preadDir g A' c' es caps blind qs p W hst hf he hg5 hcaps (by omega) (by omega)
        obtain ⟨en, hen⟩ : ∃ en, rdDirErr es p caps blind = en := ⟨_, rfl⟩
        rw [hen] at crd hn hq ⊢
        by_cases hn0 : en = 0
        · subst hn0
          rw [errV0] at crd
          rw [if_pos rfl] at hn hq ⊢
          obtain ⟨f, hfd⟩ : ∃ f : Inf → WR, (fun x => walkF es caps blind skip n (join p x.name) x.dir) = f := ⟨_, rfl⟩
          rw [hfd] at hn hq ⊢
          have hlc := rdDir_count hf p caps blind
          obtain ⟨l, hll⟩ : ∃ l, rdDirLst es p caps blind = l := ⟨_, rfl⟩
          rw [hll] at crd hn hq hlc ⊢
          have HF := Lib.hid hfd
          have HL := Lib.hid hll
          clear hfd hll hen
          dsimp only at hn hq ⊢
          go_enter Tryz.func58, Tryz.ntmps58
          go_wp2_with (first
            | (go_at_call 83; refine cc.mono ?_; rintro e w1 ⟨rfl, hk1, hst1, hkw1⟩; have xc1 : ∀ i, w1.cell? ⟨W.heap.size, i, none⟩ = _ := fun i => ((Blk.cell (hkw1.blk45 x0 (by omega) (by omega)) i)); obtain ⟨pv1, kb1, ko1⟩ := hk1.ex; have kc1 := kb1.cell; have he1 : Env w1 := he.kw (hkw0.trans hkw1) hg5)
            | (go_at_call 49; refine (crd ps w1 hst1 he1).mono ?_; rintro e w2 ⟨u2, rfl, hi2, hst2, hkp2⟩; obtain ⟨A5, c5, rfl, -, -, -⟩ := own_rd hi2))
          have hkw2 := (hkw0.trans hkw1).trans (Kw.of_kp (k := k) hkp2)
          have hk2 : Wk w2 k g B A c skip (ps ++ [p]) := ⟨⟨pv1, hkp2.blk kb1 (by omega) (by decide), hkp2.own ko1 (by decide) (own_ne_blk ko1 (hst1.st.ex.choose_spec.1) (by decide))⟩, hk1.sk.below (hkp2.low_ (Nat.le_of_lt hst1.lt) (Nat.le_refl g)) (Nat.le_refl _)⟩
          have hB2 : B ≤ w2.heap.size := by have := hkw2.size; omega
          have hkl1 : k < w1.heap.size := by have := (hkw0.trans hkw1).size; omega
          clear cc crd hk0 hst0 hkw0 hs0 hk1 hst1 hkw1 xc1 kb1 ko1 kc1 he1 hkp2 x0
          go_loopw [43] (fun i wr => ∃ j : Nat, j ≤ l.length ∧ i = .int .i64 j ∧ (∀ i (hi : i < l.length), i < j → (f l[i]).out = 0) ∧ Wk wr k g B A c skip (ps ++ [p] ++ (l.take j).flatMap fun x => (f x).paths) ∧ StF wr g A' c' es caps blind (qs ++ asksOf caps 2 p ++ (l.take j).flatMap fun x => (f x).asks) ∧ wr.ownsRow w1.heap.size 45 3 (.slice A5 l.length c5) l.length (infCells l) ∧ Kw g k W wr ∧ B ≤ wr.heap.size) (fun i _ => l.length - (intOf i).toNat)
          case atStart => exact ⟨0, Nat.zero_le _, rfl, fun _ _ h => by omega, by simpa using hk2, by simpa using hst2, hi2, hkw2, hB2⟩
          case round =>
            clear hk2 hst2 hi2 hkw2 hB2
            obtain ⟨j, hj, rfl, hout, hkj, hstj, hij, hkwj, hBj⟩ := hrel
            by_cases hjl : j < l.length
            · obtain ⟨ad, rfl, -, e1, e2, e3⟩ := own_inf hij j hjl
              have hxm : l[j] ∈ rdDirLst es p caps blind := by rw [HL.out]; exact List.getElem_mem hjl
              obtain ⟨hns, hnd⟩ := hL p _ hxm
              obtain ⟨ee, hee, hpre⟩ := (rdDir_ok es caps blind).pre hxm
              have hjl2 : (join p l[j].name).length ≤ 1024 := Nat.le_trans hpre.length_le (hf.each ee hee).1
              have hfu2 := fuel_next hfu hnd (join_ne p hnd) hjl2
              have hrm := goL_room j hjl hout
              have hstop := goL_stop j hjl hout
              have hp2 := inf_take (fun x => (f x).paths) j hjl
              have hq2 := inf_take (fun x => (f x).asks) j hjl
              have hout2 : (f l[j]).out = 0 → ∀ i (hi : i < l.length), i < j + 1 → (f l[i]).out = 0 := fun h0 i hi hlt => by
                rcases Nat.lt_or_ge i j with h | h
                · exact hout i hi h
                · obtain rfl : i = j := by omega
                  exact h0
              have hfx : f l[j] = walkF es caps blind skip n (join p l[j].name) l[j].dir := by rw [← HF.out]
              have hnl : l[j].name.length ≤ 1024 := by
                have h9 : l[j].name.length ≤ (join p l[j].name).length := by unfold join; split <;> simp <;> omega
                omega
              clear hout
              obtain ⟨x, hx⟩ : ∃ x, l[j] = x := ⟨_, rfl⟩
              rw [hx] at e1 e2 e3 hfu2 hfx hnl hrm hstop hp2 hq2 hout2
              clear hx hxm hns hnd hpre hjl2
              rw [List.length_cons] at hn
              rw [List.length_append] at hq
              have ihx := fun W h1 h2 h3 h4 h5 => ih (join p x.name) x.name x.dir (x.size : Int) (ps ++ [p] ++ (l.take j).flatMap fun x => (f x).paths) (qs ++ asksOf caps 2 p ++ (l.take j).flatMap fun x => (f x).asks) W hfu2 h1 h2 h3 h4 h5 (by rw [← hfx]; simp only [List.length_append, List.length_singleton]; omega) (by rw [← hfx]; simp only [List.length_append]; omega)
              rw [← hfx] at ihx
              have cj := fun W => pjoin p x.name W (by omega) (by omega)
              obtain ⟨R, hR⟩ : ∃ R, f x = R := ⟨_, rfl⟩
              rw [hR] at ihx hrm hstop hp2 hq2 hout2
              have bA : Below wr.heap.size wr (wr.alloc (.cells #[.string ⟨x.name.toArray⟩, .bool x.dir, .int .i64 (x.size : Int)] 45)).drew := by go_grown
              have hkA := hkj.below hgk bA
              have hstA := hstj.below bA
              have hkwA := hkwj.below bA
              have heA := he.kw hkwA hg5
              have hsA := hkwA.cell0 (by omega) hs
              have hBA := Nat.le_trans hBj bA.size
              have hijA := own_below hij bA
              have xA : Blk (wr.alloc (.cells #[.string ⟨x.name.toArray⟩, .bool x.dir, .int .i64 (x.size : Int)] 45)) wr.heap.size 45 _ := Blk.newAt _ _ rfl rfl
              have xcA := xA.drew1.cell
              have ihx := ihx _ hkA hstA heA hsA hBA
              have HS := Lib.hid hstop
              have HP := Lib.hid (And.intro hp2 hq2)
              have HO := Lib.hid hout2
              have hne1 : (Value.slice (some ad) l.length c5).ownBlock ≠ some g := fun e => by have := (hij.lt _ e).1; omega
              have hne2 : (Value.slice (some ad) l.length c5).ownBlock ≠ some k := fun e => by have := (hij.lt _ e).1; omega
              have hlast : ∀ {w6 : World}, Kw g k (wr.alloc (.cells #[.string ⟨x.name.toArray⟩, .bool x.dir, .int .i64 (x.size : Int)] 45)).drew w6 → w6.ownsRow w1.heap.size 45 3 (.slice (some ad) l.length c5) l.length (infCells l) ∧ Kw g k W w6 ∧ B ≤ w6.heap.size ∧ w6.cell? ⟨0, 0, none⟩ = some (.iface 263 (.pointer (some b))) := fun hk6 => ⟨hk6.own hijA (by decide) (by decide) hne1 hne2, hkwA.trans hk6, Nat.le_trans hBA hk6.size, hk6.cell0 (by omega) hsA⟩
              clear hR hfx hstop hp2 hq2 hout2 hrm
              go_upto_region 14 with fail
              have hRc : R.out = 0 ∨ R.out = 1 ∨ (R.out ≠ 0 ∧ R.out ≠ 1) := by omega
              rcases hRc with h0 | h0 | ⟨h0, h1⟩
              · have ew : errW b R.out = .nilIface := by rw [h0]; rfl
                rw [ew] at ihx
                have H0 := Lib.hid h0
                clear h0 ew
                go_region_with (first
                  | (go_at_call 71; refine (cj _).mono ?_; rintro e w5 ⟨rfl, rfl⟩)
                  | (go_at_call 58; refine ihx.mono ?_; rintro e w6 ⟨rfl, hk6, hst6, hkw6⟩; obtain ⟨hi6, hkw7, hB6, hs6⟩ := hlast hkw6))
                all_goals
                  go_wp2_with fail
                  go_roundw
                  case rel => exact ⟨j + 1, by omega, by go_num, HO.out H0.out, by rw [HP.out.1, ← List.append_assoc]; exact hk6, by rw [HP.out.2, ← List.append_assoc]; exact hst6, hi6, hkw7, hB6⟩
                  case measure => simp [intOf]; omega
              · have ew : errW b R.out = .iface 263 (.pointer (some b)) := by rw [h0]; rfl
                rw [ew] at ihx
                have H0 := Lib.hid h0
                clear h0 ew
                go_region_with (first
                  | (go_at_call 71; refine (cj _).mono ?_; rintro e w5 ⟨rfl, rfl⟩)
                  | (go_at_call 58; refine ihx.mono ?_; rintro e w6 ⟨rfl, hk6, hst6, hkw6⟩; obtain ⟨hi6, hkw7, hB6, hs6⟩ := hlast hkw6))
                all_goals
                  go_wp2_with (go_at_call 59; refine (pisSame _ _).mono ?_; rintro e w7 ⟨rfl, hw7⟩; rw [hw7])
                  go_returns
                  have h0 := H0.out
                  have hg := HS.out (by omega)
                  rw [h0] at hg
                  rw [hg]
                  exact ⟨rfl, by rw [List.append_assoc, List.append_assoc] at hk6; simpa using hk6, by rw [List.append_assoc, List.append_assoc] at hst6; simpa using hst6, hkw7⟩
              · have ew : errW b R.out = .iface 125 (.int .i64 (R.out : Int)) := by unfold errW; rw [if_neg h0, if_neg h1]
                rw [ew] at ihx
                have H0 := Lib.hid (And.intro h0 h1)
                clear h0 h1 ew
                go_region_with (first
                  | (go_at_call 71; refine (cj _).mono ?_; rintro e w5 ⟨rfl, rfl⟩)
                  | (go_at_call 58; refine ihx.mono ?_; rintro e w6 ⟨rfl, hk6, hst6, hkw6⟩; obtain ⟨hi6, hkw7, hB6, hs6⟩ := hlast hkw6))
                all_goals
                  go_wp2_with (go_at_call 59; refine (pisFault _ _ _).mono ?_; rintro e w7 ⟨rfl, hw7⟩; rw [hw7])
                  go_returns
                  obtain ⟨h0, h1⟩ := H0.out
                  rw [HS.out h0]
                  refine ⟨by unfold errW errN; rw [if_neg h1, if_neg h0, if_neg h1]; rfl, by rw [List.append_assoc, List.append_assoc] at hk6; simpa using hk6, by rw [List.append_assoc, List.append_assoc] at hst6; simpa using hst6, hkw7⟩
            · have hje : l.take j = l := List.take_of_length_le (by omega)
              rw [hje] at hkj hstj
              have hg := goL_end (f := f) (l := l) (fun i hi _ => hout i hi (by omega))
              have e1 : (goL f l).out = 0 := by rw [hg]
              have e2 : (goL f l).paths = l.flatMap fun x => (f x).paths := by rw [hg]
              have e3 : (goL f l).asks = l.flatMap fun x => (f x).asks := by rw [hg]
              have HG := Lib.hid (And.intro e1 (And.intro e2 e3))
              clear hg e1 e2 e3 hout
              go_wp2_with fail
              go_returns
              obtain ⟨e1, e2, e3⟩ := HG.out
              rw [e1, e2, e3]
              exact ⟨rfl, by simpa using hkj, by simpa using hstj, hkwj⟩
        · rw [if_neg hn0] at hn hq ⊢
          have hen1 : en ≠ 1 := by rw [← hen]; exact rdDirErr_ne1 es p caps blind
          have hev : errV en = .iface 125 (.int .i64 (en : Int)) := by unfold errV; rw [if_neg hn0]
          have hew : errW b en = .iface 125 (.int .i64 (en : Int)) := by unfold errW; rw [if_neg hn0, if_neg hen1]
          rw [hev] at crd
          rw [hew]
          have hcl := rdDir_err es p caps blind (by rw [hen]; exact hn0)
          clear hen hev hew
          go_enter Tryz.func58, Tryz.ntmps58
          go_wp2_with (first
            | (go_at_call 83; refine cc.mono ?_; rintro e w1 ⟨rfl, hk1, hst1, hkw1⟩; have xc1 : ∀ i, w1.cell? ⟨W.heap.size, i, none⟩ = _ := fun i => ((Blk.cell (hkw1.blk45 x0 (by omega) (by omega)) i)); obtain ⟨pv1, kb1, ko1⟩ := hk1.ex; have kc1 := kb1.cell; have he1 : Env w1 := he.kw (hkw0.trans hkw1) hg5)
            | (go_at_call 49; go_loud (refine (crd ps w1 hst1 he1).mono ?_; rintro e w2 ⟨u2, rfl, hi2, hst2, hkp2⟩)))
          go_returns
          have hkw2 := (hkw0.trans hkw1).trans (Kw.of_kp (k := k) hkp2)
          refine ⟨rfl, ?_, hst2, hkw2⟩
          exact ⟨⟨pv1, hkp2.blk kb1 (by omega) (by decide), hkp2.own ko1 (by decide) (own_ne_blk ko1 (hst1.st.ex.choose_spec.1) (by decide))⟩, hk1.sk.below (hkp2.low_ (Nat.le_of_lt hst1.lt) (Nat.le_refl g)) (Nat.le_refl _)⟩
end Go.Proofs.YtkaoechldamggaaGreatDoor
namespace Go.Proofs.YtkaoechldamggaaGreatDoor
open Go Go.RowKit
set_option maxRecDepth 100000

/-- What Walk tells. -/
def wRes (es : List Ent) (caps : Nat) (blind : Bool) (skip : List Bs) (root : Bs) : WR :=
  if stErr es root = 0 then ⟨(walkF es caps blind skip 1026 root (dirK (look es root))).paths, asksOf caps 0 root ++ (walkF es caps blind skip 1026 root (dirK (look es root))).asks, errN (walkF es caps blind skip 1026 root (dirK (look es root))).out⟩
  else ⟨[], asksOf caps 0 root, stErr es root⟩
theorem wRes_len {es : List Ent} {cap0 : Nat} (h : FitP es cap0) (caps : Nat) (blind : Bool) (skip : List Bs) (root : Bs) : (wRes es caps blind skip root).paths.length ≤ 262401 ∧ (wRes es caps blind skip root).asks.length ≤ 262402 := by
  have h1 := asks_len caps 0 root
  unfold wRes
  split
  · have h2 := walk_len (skip := skip) h.many (fun e he => (h.fine.each e he).1) (fit_LG h caps blind) (rdDir_ok es caps blind) 1026 root (dirK (look es root))
    have h3 := walk_asks (es := es) (caps := caps) (blind := blind) (skip := skip) 1026 root (dirK (look es root))
    simp only [List.length_append]
    omega
  · simp only [List.length_nil]
    omega
theorem stErr_zero {es : List Ent} {p : Bs} (h : stErr es p = 0) : valid p = true ∧ look es p ≠ none ∧ ∃ (s : Bs) (m : Nat), stInf es p = #[.string ⟨s.toArray⟩, .bool (dirK (look es p)), .int .i64 (m : Int)] := by
  unfold stErr at h
  split at h
  · rename_i hv
    refine ⟨hv, ?_, ?_⟩
    · intro e; rw [e] at h; cases h
    unfold stInf
    rw [if_pos hv]
    exact ⟨_, _, rfl⟩
  · cases h
theorem fuel_root {p : Bs} (h : valid p = true) : fuelOk 1026 p := by
  by_cases hp : p = [46]
  · exact .inl ⟨hp, Nat.le_refl _⟩
  · exact .inr ⟨hp, valid_len h, by omega⟩
theorem Wk.kp {W W' : World} {k g B : Nat} {A A' : Option Addr} {c c' : Nat} {skip ps : List Bs} {es : List Ent} {caps : Nat} {blind : Bool} {qs : List Ask} (h : Wk W k g B A c skip ps) (hst : StF W g A' c' es caps blind qs) (hgk : g < k) (hk : Kp g W W') : Wk W' k g B A c skip ps := by
  obtain ⟨pv, h1, h2⟩ := h.ex
  exact ⟨⟨pv, hk.blk h1 (by omega) (by decide), hk.own h2 (by decide) (own_ne_blk h2 (hst.st.ex.choose_spec.1) (by decide))⟩, h.sk.below (hk.low_ (Nat.le_of_lt hst.lt) (Nat.le_refl g)) (Nat.le_refl _)⟩

theorem pisW (b : Addr) (n : Nat) (w : World) : Calls Tryz.prog 59 #[errW b n, .iface 263 (.pointer (some b))] w fun e w' => e = .returned (.bool (decide (n = 1))) ∧ w' = w := by
  by_cases h0 : n = 0
  · subst h0
    exact pisNil b w
  · by_cases h1 : n = 1
    · subst h1
      exact pisSame b w
    · have e : errW b n = .iface 125 (.int .i64 (n : Int)) := by unfold errW; rw [if_neg h0, if_neg h1]
      rw [e, decide_eq_false h1]
      exact pisFault _ b w
theorem errW_N (b : Addr) {n : Nat} (h : n ≠ 1) : errW b n = errV (errN n) := by
  have e : errN n = n := by unfold errN; rw [if_neg h]
  rw [e]
  unfold errW errV
  by_cases h0 : n = 0
  · rw [if_pos h0, if_pos h0]
  · rw [if_neg h0, if_neg h0, if_neg h]
set_option maxHeartbeats 4000000 in
theorem pWalk (A SA : Option Addr) (c sc cap0 : Nat) (es : List Ent) (caps : Nat) (blind : Bool) (skip : List Bs) (root : Bs) (b : Addr) (w : World) (hr : Rd w w.heap.size A (entCells es)) (hsk : Rd w w.heap.size SA (strCells skip)) (hfit : FitP es cap0) (he : Env w)
    (hs : w.cell? ⟨0, 0, none⟩ = some (.iface 263 (.pointer (some b)))) (hcaps : caps < 4294967296) (hps : root.length ≤ 140737488351232) (hsn : skip.length ≤ 1099511627776) :
    Calls Tryz.prog 33 #[.agg #[.slice A es.length c, .int .u32 (caps : Int), .bool blind], .string ⟨root.toArray⟩, .slice SA skip.length sc] w fun e w' => ∃ u v,
      e = .returned (.tuple #[u, v, .int .i64 ((wRes es caps blind skip root).out : Int)]) ∧ w'.ownsRow w.heap.size 9 1 u (wRes es caps blind skip root).paths.length (strCells (wRes es caps blind skip root).paths) ∧ Asks w' w.heap.size v (wRes es caps blind skip root).asks ∧ Below w.heap.size w w' := by
  have hf := hfit.fine
  have h5 := he.size
  have hlen := wRes_len hfit caps blind skip root
  obtain ⟨W0, hW0⟩ : ∃ W0, ((w.alloc (.cells #[.slice A es.length c, .int .u32 (caps : Int), .bool blind] 32)).alloc (.cells #[.slice A es.length c, .int .u32 (caps : Int), .bool blind, .slice none 0 0] 89)).alloc (.cells #[.pointer (some ⟨w.heap.size + 1, 0, none⟩), .slice none 0 0, .slice SA skip.length sc] 129) = W0 := ⟨_, rfl⟩
  have b0 : Below w.heap.size w W0 := by rw [← hW0]; go_grown
  have st0 : StF W0 (w.heap.size + 1) A c es caps blind [] := by rw [← hW0]; exact (StF.fresh hr _).alloc _
  have wk0 : Wk W0 (w.heap.size + 1 + 1) (w.heap.size + 1) (w.heap.size + 1 + 1 + 1) SA sc skip [] :=
    ⟨⟨.slice none 0 0, by rw [← hW0]; exact Blk.newAt _ _ rfl (by simp), World.ownsRow_nil _ _ _ _⟩, (hsk.below b0 (Nat.le_refl _)).more (by omega)⟩
  have kb0 : Blk W0 (w.heap.size + 1 + 1) 129 #[.pointer (some ⟨w.heap.size + 1, 0, none⟩), .slice none 0 0, .slice SA skip.length sc] := by rw [← hW0]; exact Blk.newAt _ _ rfl (by simp)
  have kc0 := kb0.cell
  have hkl0 := kb0.lt
  have he0 := he.below b0
  have hs0 := (b0.cell (p := ⟨0, 0, none⟩) (by show 0 < w.heap.size; omega)).trans hs
  have cst := pstat (w.heap.size + 1) A c es caps blind [] root W0 st0 hf he0 hcaps hps (by simp)
  rw [List.nil_append] at cst
  have hkw0 : Kw (w.heap.size + 1) (w.heap.size + 1 + 1) w W0 := Kw.of_kp (Kp.of_below b0)
  obtain ⟨n, hn⟩ : ∃ n, stErr es root = n := ⟨_, rfl⟩
  by_cases hn0 : n = 0
  · subst hn0
    obtain ⟨hv, hlk, s, m, hin⟩ := stErr_zero hn
    have hwf := hn
    unfold wRes at hlen ⊢
    rw [if_pos hn] at hlen ⊢
    rw [hn, hin, errV0] at cst
    have cw := fun W hk hst he hs hB h1 h2 => pwalk es caps blind skip (w.heap.size + 1 + 1) (w.heap.size + 1) (w.heap.size + 1 + 1 + 1) b SA A sc c hf (by omega) (by omega) (by omega) hcaps hsn (fit_LG hfit caps blind) 1026 root s (dirK (look es root)) (m : Int) [] (asksOf caps 0 root) W (fuel_root hv) hk hst he hs hB h1 h2
    generalize walkF es caps blind skip 1026 root (dirK (look es root)) = R at *
    generalize dirK (look es root) = d at *
    generalize asksOf caps 0 root = qs at *
    simp only [List.length_append] at hlen
    have cw := fun W hk hst he hs hB => cw W hk hst he hs hB (by simp only [List.length_nil]; omega) (by omega)
    simp only [List.nil_append] at cw
    have ci := fun W => pisW b R.out W
    obtain ⟨hb, hbe⟩ : ∃ hb, decide (R.out = 1) = hb := ⟨_, rfl⟩
    rw [hbe] at ci
    have HB := Lib.hid hbe
    have c0 := perrno (errN R.out)
    clear hbe hn hin hwf hlk
    go_enter Tryz.func33, Tryz.ntmps33
    go_upto_region 3 with (go_at_call 43; refine cst.mono ?_; rintro e w1 ⟨rfl, st1, kp1⟩)
    have wk1 := wk0.kp st0 (by omega) kp1
    obtain ⟨w2, hw2⟩ : ∃ w2, w1.alloc (.cells #[.string ⟨s.toArray⟩, .bool d, .int .i64 (m : Int)] 45) = w2 := ⟨_, rfl⟩
    have b2 : Below w1.heap.size w1 w2 := by rw [← hw2]; go_grown
    have x2 : Blk w2 w1.heap.size 45 #[.string ⟨s.toArray⟩, .bool d, .int .i64 (m : Int)] := by rw [← hw2]; exact Blk.newAt _ _ rfl rfl
    have xc2 := x2.cell
    have st2 := st1.below b2
    have wk2 := wk1.below (by omega) b2
    have kw2 := (hkw0.trans (Kw.of_kp kp1)).below b2
    have he2 := he.kw kw2 (by omega)
    have hs2 := kw2.cell0 (by omega) hs
    have hB2 : w.heap.size + 1 + 1 + 1 ≤ w2.heap.size := by have := kp1.size; have := b2.size; omega
    rw [hw2]
    clear hw2 hW0 st0 wk0 kb0 kc0 he0 hs0 cst b0 kp1 st1 wk1 b2
    go_upto_if 35 with (first
      | (go_at_call 58; refine (cw _ wk2 st2 he2 hs2 hB2).mono ?_; rintro e w3 ⟨rfl, wk3, st3, kw3⟩; have kw3 := kw2.trans kw3; have hs3 := kw3.cell0 (by omega) hs)
      | (go_at_call 59; refine (ci _).mono ?_; rintro e w4 ⟨rfl, hw4⟩; rw [hw4]))
    clear cw ci
    go_cut [11] (fun v wr => v = errV (errN R.out) ∧ wr = w3)
    case first =>
      cases hb with
      | true =>
        have h1 : R.out = 1 := by simpa using HB.out
        have e1 : errV (errN R.out) = .nilIface := by rw [h1]; rfl
        have HE := Lib.hid e1
        clear h1 e1
        go_wp2_with fail
        go_meet
        exact ⟨HE.out.symm, rfl⟩
      | false =>
        have h1 : R.out ≠ 1 := by simpa using HB.out
        have HE := Lib.hid (errW_N b h1)
        clear h1
        go_wp2_with fail
        go_meet
        exact ⟨HE.out, rfl⟩
    case rest =>
      obtain ⟨rfl, rfl⟩ := hcut
      obtain ⟨pv, kb, ko⟩ := wk3.ex
      obtain ⟨av, gb, go⟩ := st3.st.ex
      have he3 : Env wc.drew := (he.kw kw3 (by omega)).below (by go_grown)
      have kd := kb.drew1
      have gd := gb.drew1
      have kc := kd.cell
      have gc := gd.cell
      have kl := kb.lt
      have gl := gb.lt
      go_wp2_with fail
      go_region_with (go_at_call 44; refine (c0 _ he3).mono ?_; rintro e w5 ⟨rfl, hb5⟩; have k5 := (kd.below hb5 kl).cell; have g5 := (gd.below hb5 gl).cell)
      all_goals
        go_wp2_with fail
        go_returns
        have hb6 : Below wc.heap.size wc w5 := Below.trans (by go_grown) hb5
        exact ⟨_, _, rfl, own_low (own_below ko hb6) (by omega), own_low (own_below go hb6) (by omega), (kw3.low_ (B := w.heap.size) (by omega) (Nat.le_refl _)).trans (hb6.mono (by have := kw3.size; omega))⟩
  · unfold wRes at hlen ⊢
    rw [if_neg (by rw [hn]; exact hn0)] at hlen ⊢
    obtain ⟨s, d, m, hin⟩ := stInf_cells es root
    have hE : errV n = .iface 125 (.int .i64 (n : Int)) := by unfold errV; rw [if_neg hn0]
    rw [hn, hin, hE] at cst
    rw [hn]
    have c0 := perrno n
    rw [hE] at c0
    generalize asksOf caps 0 root = qs at *
    have ci := fun W => pisFault (n : Int) b W
    clear hE hin hn
    go_enter Tryz.func33, Tryz.ntmps33
    go_upto_region 3 with (go_at_call 43; refine cst.mono ?_; rintro e w1 ⟨rfl, st1, kp1⟩)
    have wk1 := wk0.kp st0 (by omega) kp1
    obtain ⟨w2, hw2⟩ : ∃ w2, w1.alloc (.cells #[.string ⟨s.toArray⟩, .bool d, .int .i64 (m : Int)] 45) = w2 := ⟨_, rfl⟩
    have b2 : Below w1.heap.size w1 w2 := by rw [← hw2]; go_grown
    have st3 := st1.below b2
    have wk3 := wk1.below (by omega) b2
    have kw3 := (hkw0.trans (Kw.of_kp kp1)).below b2
    have hs3 := kw3.cell0 (by omega) hs
    rw [hw2]
    clear hw2 hW0 st0 wk0 kb0 kc0 he0 hs0 cst b0 kp1 st1 wk1 b2
    obtain ⟨pv, kb, ko⟩ := wk3.ex
    obtain ⟨av, gb, go⟩ := st3.st.ex
    have he3 : Env w2.drew := (he.kw kw3 (by omega)).below (by go_grown)
    have kd := kb.drew1
    have gd := gb.drew1
    have kc := kd.cell
    have gc := gd.cell
    have kl := kb.lt
    have gl := gb.lt
    go_wp2_with (go_at_call 59; refine (ci _).mono ?_; rintro e w4 ⟨rfl, hw4⟩; rw [hw4])
    go_region_with (go_at_call 44; refine (c0 _ he3).mono ?_; rintro e w5 ⟨rfl, hb5⟩; have k5 := (kd.below hb5 kl).cell; have g5 := (gd.below hb5 gl).cell)
    all_goals
      go_wp2_with fail
      go_returns
      have hb6 : Below w2.heap.size w2 w5 := Below.trans (by go_grown) hb5
      exact ⟨_, _, rfl, own_low (own_below ko hb6) (by omega), own_low (own_below go hb6) (by omega), (kw3.low_ (B := w.heap.size) (by omega) (Nat.le_refl _)).trans (hb6.mono (by have := kw3.size; omega))⟩
end Go.Proofs.YtkaoechldamggaaGreatDoor
