/- Sub: what it computes; the reference's. The program's Sub. -/
import Derived.Test.YtkaoechldamggaaGreatDoorBD
import Derived.Test.YtkaoechldamggaaGreatDoorAP
namespace Go.Proofs.YtkaoechldamggaaGreatDoor
open Go Go.RowKit
set_option maxRecDepth 100000

/-- The files below a directory. -/
def subL (es : List Ent) (d : Bs) : List Ent := es.filterMap fun x => (below d x.path).map fun r => ⟨r, x.data⟩
def subCaps (caps : Nat) : Nat := if hasCap caps 4 then caps else 30
def subErr (es : List Ent) (d : Bs) : Nat := if valid d then dirErr (look es d) false else 370
def subS (es : List Ent) (caps : Nat) (blind : Bool) (d : Bs) : Sto := if subErr es d = 0 then ⟨subL es d, subCaps caps, blind⟩ else ⟨[], 0, false⟩

theorem subL_take (es : List Ent) (d : Bs) (k : Nat) (hk : k < es.length) : subL (es.take (k + 1)) d = subL (es.take k) d ++ (match below d es[k].path with | none => [] | some r => [⟨r, es[k].data⟩]) := by
  unfold subL
  rw [List.take_succ_eq_append_getElem hk, List.filterMap_append]
  congr 1
  cases h : below d es[k].path <;> simp [h]
theorem subL_len (es : List Ent) (d : Bs) : (subL es d).length ≤ es.length := List.length_filterMap_le _ _

/-- A store that is being gathered: its block out, its files' row from base on. -/
structure SubAt (w : World) (out base : Nat) (cp : Nat) (bl : Bool) (l : List Ent) (W : World) : Prop where
  b : Below w.heap.size w W
  ge : w.heap.size ≤ out
  lt : out < base
  bs : base ≤ W.heap.size
  ex : ∃ A c, Blk W out 32 #[.slice A l.length c, .int .u32 (cp : Int), .bool bl] ∧ W.ownsRow base 74 2 (.slice A l.length c) l.length (entCells l)
section
variable {w W W' : World} {out base cp : Nat} {bl : Bool} {l : List Ent}
theorem SubAt.step (h : SubAt w out base cp bl l W) (hb : Below W.heap.size W W') : SubAt w out base cp bl l W' := by
  obtain ⟨A, c, h1, h2⟩ := h.ex
  exact ⟨h.b.trans (hb.mono h.b.size), h.ge, h.lt, Nat.le_trans h.bs hb.size, A, c, h1.below hb h1.lt, own_below h2 hb⟩
theorem SubAt.alloc (h : SubAt w out base cp bl l W) (o : Obj) : SubAt w out base cp bl l (W.alloc o) := h.step ((Below.refl _ _).alloc (Nat.le_refl _) o)
/-- One more file: the row grown to w2, the slice stored. -/
theorem SubAt.push (h : SubAt w out base cp bl l W) {A A2 : Option Addr} {c c2 n2 : Nat} {x : Ent} {w2 : World} (hz : Blk W out 32 #[.slice A l.length c, .int .u32 (cp : Int), .bool bl]) (ho : W.ownsRow base 74 2 (.slice A l.length c) l.length (entCells l))
    (hn : n2 = (l ++ [x]).length) (ho2 : w2.ownsRow base 74 2 (.slice A2 (l ++ [x]).length c2) (l ++ [x]).length (entCells (l ++ [x]))) (hg : W.grownBy w2 (Value.slice A l.length c).ownBlock) :
    SubAt w out base cp bl (l ++ [x]) (w2.setCell ⟨out, 0, none⟩ (.slice A2 n2 c2)) := by
  subst hn
  have hne : ∀ q, (Value.slice A l.length c).ownBlock = some q → base ≤ q := fun q hq => (ho.lt q hq).1
  have hz2 : Blk w2 out 32 _ := hz.grown hg (fun e => by have := hne _ e; have := h.lt; omega)
  have hg3 : w2.grownBy (w2.setCell ⟨out, 0, none⟩ (.slice A2 (l ++ [x]).length c2)) (some out) := ⟨rfl, rfl, rfl, by simp [World.setCell], fun k _ hk => Below.heap_setCell w2 ⟨out, 0, none⟩ _ k (fun e => hk (by rw [e]))⟩
  have hb2 : Below w.heap.size w w2 := h.b.grown hg h.b.size (fun q hq => by have := hne q hq; have := h.ge; have := h.lt; omega)
  refine ⟨hb2.grown hg3 hb2.size (fun q hq => by cases hq; exact h.ge), h.ge, h.lt, Nat.le_trans h.bs (Nat.le_trans hg.size hg3.size), A2, c2, hz2.set_ 0 _, ho2.kept hg3 (.inr fun e => ?_)⟩
  have := (ho2.lt _ e).1
  have := h.lt
  omega
end

theorem bit4 (caps : Nat) (h : caps < 4294967296) : (bits .and .u32 ((caps : Int) / 2 ^ 4) 1 == 0) = !hasCap caps 4 := by
  have e : ((caps : Int) / 2 ^ 4) = ((caps / 2 ^ 4 : Nat) : Int) := by rw [Int.natCast_ediv]; rfl
  rw [e, u32_and_one _ (Nat.lt_of_le_of_lt (Nat.div_le_self _ _) h), hasCap, Bool.eq_iff_iff]
  simp only [beq_iff_eq, Bool.not_eq_true', beq_eq_false_iff_ne]
  omega

set_option maxHeartbeats 4000000 in
theorem rSub (A : Option Addr) (c : Nat) (es : List Ent) (caps : Nat) (blind : Bool) (d : Bs) (w : World) (hr : Rd w w.heap.size A (entCells es)) (hf : Fine es) (he : Env w) (hcaps : caps < 4294967296) (hps : d.length ≤ 140737488351232) :
    Calls Tryz.prog 32 #[.agg #[.slice A es.length c, .int .u32 (caps : Int), .bool blind], .string ⟨d.toArray⟩] w fun e w' => ∃ A' c',
      e = .returned (.tuple #[.agg #[.slice A' (subS es caps blind d).files.length c', .int .u32 ((subS es caps blind d).caps : Int), .bool (subS es caps blind d).blind], .int .i64 (subErr es d : Int)]) ∧ Rd w' w'.heap.size A' (entCells (subS es caps blind d).files) ∧ Below w.heap.size w w' := by
  obtain ⟨w0, hw0⟩ : ∃ w0, (w.alloc (.cells #[.slice A es.length c, .int .u32 (caps : Int), .bool blind] 32)).alloc (.cells #[.slice none 0 0, .int .u32 0, .bool false] 32) = w0 := ⟨_, rfl⟩
  have hb0 : Below w.heap.size w w0 := by rw [← hw0]; go_grown
  have hx0 : Blk w0 w.heap.size 32 #[.slice A es.length c, .int .u32 (caps : Int), .bool blind] := by rw [← hw0]; exact (Blk.newAt _ _ rfl rfl).alloc _
  have hz0 : Blk w0 (w.heap.size + 1) 32 #[.slice none 0 0, .int .u32 0, .bool false] := by rw [← hw0]; exact Blk.newAt _ _ rfl (by simp)
  have hxl := hx0.lt
  have hzl := hz0.lt
  have hs0 := hb0.size
  have he0 := he.below hb0
  unfold subS subErr
  obtain ⟨v, hv⟩ : ∃ v, valid d = v := ⟨_, rfl⟩
  have cv := fun W (hW : Env W) => rvalid d W hps hW
  rw [hv] at cv ⊢
  cases v with
  | false =>
    simp only [Bool.false_eq_true, if_false]
    rw [if_neg (by decide)]
    clear hv
    go_enter Tryz.func32, Tryz.ntmps32
    go_upto_region 1 with fail
    clear hw0
    go_wp2_with (first
      | (go_at_call 29; refine (cv _ he0).mono ?_; rintro e w1 ⟨rfl, hb1⟩; have hz1 := hz0.below hb1 hzl; have hb2 := hb0.trans (hb1.mono hs0))
      | (refine storeB sty32 rfl (.tmp 4) (.tmp 14) rfl _ _ _ _ rfl hz1 rfl rfl rfl rfl ?_; intro w4 hz4 hw4; simp only [Act.put]))
    refine bodyPost_ret (resultsB1 sty32 rfl _ _ _ _ _ rfl hz4 rfl) rfl ?_
    exact ⟨none, 0, rfl, Rd.nil _ _ _, hw4.below hb2 (by omega)⟩
  | true =>
    have hp2 : d.length ≤ 1024 := valid_len hv
    clear hv
    simp only [if_true]
    obtain ⟨k, hk⟩ : ∃ k, look es d = k := ⟨_, rfl⟩
    have cl := fun W (hr : Rd W W.heap.size A (entCells es)) => rlook A c es (caps : Int) blind d W hr hf.many (by omega) (fun e he => by have := (hf.each e he).1; omega)
    rw [hk] at cl ⊢
    clear hk
    rcases k with _ | _ | dd
    · rw [show dirErr none false = 371 from rfl, if_neg (by decide)]
      dsimp only [kindOf, dataOf] at cl
      go_enter Tryz.func32, Tryz.ntmps32
      go_upto_region 1 with fail
      clear hw0
      go_wp2_with (first
        | (go_at_call 29; refine (cv _ he0).mono ?_; rintro e w1 ⟨rfl, hb1⟩; have hz1 := hz0.below hb1 hzl; have hxc1 := (hx0.below hb1 hxl).cell; have hb2 := hb0.trans (hb1.mono hs0); have hr2 := (hr.below hb2 (Nat.le_refl _)).more hb2.size)
        | (go_at_call 46; refine (cl _ hr2).mono ?_; rintro e w3 ⟨rfl, hb3⟩; have hz2 := hz1.below hb3 hz1.lt; have hb4 := hb2.trans (hb3.mono hb2.size))
        | (refine storeB sty32 rfl (.tmp 4) (.tmp 23) rfl _ _ _ _ rfl hz2 rfl rfl rfl rfl ?_; intro w4 hz4 hw4; simp only [Act.put]))
      refine bodyPost_ret (resultsB1 sty32 rfl _ _ _ _ _ rfl hz4 rfl) rfl ?_
      exact ⟨none, 0, rfl, Rd.nil _ _ _, hw4.below hb4 (by omega)⟩
    · rw [show dirErr (some none) false = 0 from rfl, if_pos rfl]
      dsimp only [kindOf, dataOf] at cl
      dsimp only
      obtain ⟨bb, hbb⟩ : ∃ bb, hasCap caps 4 = bb := ⟨_, rfl⟩
      obtain ⟨cp, hcp⟩ : ∃ cp, subCaps caps = cp := ⟨_, rfl⟩
      have hcp2 : cp = if bb then caps else 30 := by rw [← hcp]; unfold subCaps; rw [hbb]
      have hbit := bit4 caps hcaps
      rw [hbb] at hbit
      have hbit2 : (bits .and .u32 ((caps : Int) / 16) 1 == 0) = !bb := hbit
      rw [hcp]
      have HC := Lib.hid hcp2
      clear hcp hcp2 hbb
      have hall : subL (es.take es.length) d = subL es d := by rw [List.take_length]
      have hmany := hf.many
      go_enter Tryz.func32, Tryz.ntmps32
      go_upto_region 1 with fail
      clear hw0
      go_upto_region 8 with (first
        | (go_at_call 29; refine (cv _ he0).mono ?_; rintro e w1 ⟨rfl, hb1⟩; have hz1 := hz0.below hb1 hzl; have hx1 := hx0.below hb1 hxl; have hxc1 := hx1.cell; have hb2 := hb0.trans (hb1.mono hs0); have hr2 := (hr.below hb2 (Nat.le_refl _)).more hb2.size)
        | (go_at_call 46; refine (cl _ hr2).mono ?_; rintro e w3 ⟨rfl, hb3⟩; have hz2 := hz1.below hb3 hz1.lt; have hx3 := hx1.below hb3 hx1.lt; have hxc3 := hx3.cell; have hb4 := hb2.trans (hb3.mono hb2.size)))
      have hx4 := (hx3.alloc (.cells #[.slice none 0 0, .int .u32 (caps : Int), .bool blind] 32)).cell
      have hx5 := (hx3.alloc (.cells #[.slice none 0 0, .int .u32 30, .bool blind] 32)).cell
      have hs4 := hb4.size
      have S0 : ∀ (q : Int), q = (cp : Int) → SubAt w3 w3.heap.size (w3.heap.size + 1) cp blind (subL (es.take 0) d) (w3.alloc (.cells #[.slice none 0 0, .int .u32 q, .bool blind] 32)) := fun q hq => by
        subst hq
        exact ⟨by go_grown, Nat.le_refl _, by omega, by simp, none, 0, Blk.newAt _ _ rfl rfl, World.ownsRow_nil _ _ _ _⟩
      clear cv cl hxc1 hx1 hz1 hr2 hbit
      cases bb
      all_goals
        have hq := HC.out
        simp only [Bool.false_eq_true, if_false, if_true] at hq
        subst hq
        go_wp2_with fail
        clear hx4 hx5 hbit2 hxc3
        go_loopw [41] (fun i wr => ∃ k : Nat, k ≤ es.length ∧ i = .int .i64 k ∧ SubAt w3 w3.heap.size (w3.heap.size + 1) _ blind (subL (es.take k) d) wr) (fun i _ => es.length - (intOf i).toNat)
        case atStart => exact ⟨0, Nat.zero_le _, rfl, S0 _ rfl⟩
        case round =>
          clear S0
          obtain ⟨k, hk, rfl, S⟩ := hrel
          have hbw := hb4.trans (S.b.mono hs4)
          obtain ⟨A9, c9, hz, ho⟩ := S.ex
          have hbs := S.b.size
          by_cases hkl : k < es.length
          · obtain ⟨ad, rfl, had, e1, e2⟩ := (hr.below hbw (Nat.le_refl _)).ent k hkl
            have hel := hf.each _ (List.getElem_mem hkl)
            have hst := subL_take es d k hkl
            have hln := subL_len (es.take k) d
            have hlk : (es.take k).length = k := by simp; omega
            obtain ⟨x, hx⟩ : ∃ x, es[k] = x := ⟨_, rfl⟩
            rw [hx] at e1 e2 hel hst
            have cb := fun W => rbelow d x.path W (by omega) (by omega)
            unfold isBelow at cb
            obtain ⟨bo, hbo⟩ : ∃ bo, below d x.path = bo := ⟨_, rfl⟩
            rw [hbo] at cb hst
            clear hx
            generalize subL (es.take k) d = L at *
            cases bo with
            | none =>
              simp only [List.append_nil] at hst
              have HS := Lib.hid hst
              have S2 := S.alloc (.cells #[.string ⟨x.path.toArray⟩, .string ⟨x.data.toArray⟩] 74)
              clear hst hbo
              go_wp2_with (go_at_call 39; refine (cb _).mono ?_; rintro e w5 ⟨rfl, rfl⟩)
              go_roundw
              case rel => exact ⟨k + 1, by omega, by go_num, by rw [HS.out]; exact S2⟩
              case measure => simp [intOf]; omega
            | some r =>
              have HS := Lib.hid hst
              have S2 := S.alloc (.cells #[.string ⟨r.toArray⟩, .string ⟨x.data.toArray⟩] 74)
              have hz2' := hz.alloc (.cells #[.string ⟨r.toArray⟩, .string ⟨x.data.toArray⟩] 74)
              have ho2 := ho.alloc (.cells #[.string ⟨r.toArray⟩, .string ⟨x.data.toArray⟩] 74)
              have hzc := hz2'.cell
              have hzl2 := hz2'.lt
              have hzn : w3.heap.size < wr.heap.size := hz.lt
              cases hdt : (d == [46]) with
              | true =>
                have hrp : r = x.path := by
                  have : d = [46] := by simpa using hdt
                  unfold below at hbo
                  rw [if_pos this] at hbo
                  split at hbo
                  · cases hbo
                  · cases hbo; rfl
                subst hrp
                clear hst hbo
                go_wp2_with (first
                  | (go_at_call 39; refine (cb _).mono ?_; rintro e w5 ⟨rfl, rfl⟩)
                  | (at_builtin; go_must (refine push_ent _ _ _ (w3.heap.size + 1) (.slice A9 L.length c9) rfl L ⟨x.path, x.data⟩ rfl rfl ho2 (by rw [World.size_alloc]; rfl) (by omega) (by simp; omega) ?_); intro v' w6 ho6 hg6; obtain ⟨A6, c6, rfl, -, -, -⟩ := own_rd ho6; have hz6 := hz2'.grown hg6 (fun e => by have := (ho2.lt _ e).1; omega); have hzc6 := hz6.cell; have hzf6 := hz6.frozen))
                go_roundw
                case rel => exact ⟨k + 1, by omega, by go_num, by rw [HS.out]; exact S2.push hz2' ho2 (by simp) ho6 hg6⟩
                case measure => simp [intOf]; omega
              | false =>
                have hcut : (ByteArray.mk x.path.toArray).extract (d.length + 1) x.path.length = ⟨r.toArray⟩ := by
                  rw [cut_all]
                  have : ¬ d = [46] := by simpa using hdt
                  unfold below at hbo
                  rw [if_neg this] at hbo
                  split at hbo
                  · cases hbo; rfl
                  · cases hbo
                have hdl : d.length + 1 ≤ x.path.length := by
                  have : ¬ d = [46] := by simpa using hdt
                  unfold below at hbo
                  rw [if_neg this] at hbo
                  split at hbo
                  · rename_i hp; have := hp.length_le; simpa using this
                  · cases hbo
                clear hst hbo
                go_wp2_with (first
                  | (go_at_call 39; refine (cb _).mono ?_; rintro e w5 ⟨rfl, rfl⟩)
                  | (at_builtin; go_must (refine push_ent _ _ _ (w3.heap.size + 1) (.slice A9 L.length c9) rfl L ⟨r, x.data⟩ rfl rfl ho2 (by rw [World.size_alloc]; rfl) (by omega) (by simp; omega) ?_); intro v' w6 ho6 hg6; obtain ⟨A6, c6, rfl, -, -, -⟩ := own_rd ho6; have hz6 := hz2'.grown hg6 (fun e => by have := (ho2.lt _ e).1; omega); have hzc6 := hz6.cell; have hzf6 := hz6.frozen))
                go_roundw
                case rel => exact ⟨k + 1, by omega, by go_num, by rw [HS.out]; exact S2.push hz2' ho2 (by simp) ho6 hg6⟩
                case measure => simp [intOf]; omega
          · have hke : es.take k = es := List.take_of_length_le (by omega)
            rw [hke] at hz ho
            have hzc := hz.cell
            have hz4 := hz2.below S.b hz2.lt
            obtain ⟨A8, c8, e8, -, -, hr8⟩ := own_rd ho
            cases e8
            go_wp2_with (refine storeB sty32 rfl (.tmp 4) (.tmp 66) rfl _ _ _ _ rfl hz4 rfl rfl rfl rfl ?_; intro w7 hz7 hw7; have ho7 := own_wrote ho hw7 (own_ne_blk ho hz4 (by decide)); simp only [Act.put])
            refine bodyPost_ret (resultsB1 sty32 rfl _ _ _ _ _ rfl hz7 rfl) rfl ?_
            obtain ⟨A7, c7, e7, -, -, hr7⟩ := own_rd ho7
            cases e7
            exact ⟨A9, c9, rfl, hr7, hw7.below hbw (by omega)⟩
    · rw [show dirErr (some (some dd)) false = 373 from rfl, if_neg (by decide)]
      dsimp only [kindOf, dataOf] at cl
      go_enter Tryz.func32, Tryz.ntmps32
      go_upto_region 1 with fail
      clear hw0
      go_wp2_with (first
        | (go_at_call 29; refine (cv _ he0).mono ?_; rintro e w1 ⟨rfl, hb1⟩; have hz1 := hz0.below hb1 hzl; have hxc1 := (hx0.below hb1 hxl).cell; have hb2 := hb0.trans (hb1.mono hs0); have hr2 := (hr.below hb2 (Nat.le_refl _)).more hb2.size)
        | (go_at_call 46; refine (cl _ hr2).mono ?_; rintro e w3 ⟨rfl, hb3⟩; have hz2 := hz1.below hb3 hz1.lt; have hb4 := hb2.trans (hb3.mono hb2.size))
        | (refine storeB sty32 rfl (.tmp 4) (.tmp 26) rfl _ _ _ _ rfl hz2 rfl rfl rfl rfl ?_; intro w4 hz4 hw4; simp only [Act.put]))
      refine bodyPost_ret (resultsB1 sty32 rfl _ _ _ _ _ rfl hz4 rfl) rfl ?_
      exact ⟨none, 0, rfl, Rd.nil _ _ _, hw4.below hb4 (by omega)⟩
end Go.Proofs.YtkaoechldamggaaGreatDoor
namespace Go.Proofs.YtkaoechldamggaaGreatDoor
open Go Go.RowKit
set_option maxRecDepth 100000

set_option maxHeartbeats 4000000 in
theorem pSub (A : Option Addr) (c : Nat) (es : List Ent) (caps : Nat) (blind : Bool) (d : Bs) (w : World) (hr : Rd w w.heap.size A (entCells es)) (hf : Fine es) (he : Env w) (hcaps : caps < 4294967296) (hps : d.length ≤ 140737488351232) :
    Calls Tryz.prog 31 #[.agg #[.slice A es.length c, .int .u32 (caps : Int), .bool blind], .string ⟨d.toArray⟩] w fun e w' => ∃ A' c',
      e = .returned (.tuple #[.agg #[.slice A' (subS es caps blind d).files.length c', .int .u32 ((subS es caps blind d).caps : Int), .bool (subS es caps blind d).blind], .int .i64 (subErr es d : Int)]) ∧ Rd w' w'.heap.size A' (entCells (subS es caps blind d).files) ∧ Below w.heap.size w w' := by
  have h5 := he.size
  obtain ⟨w9, hw9⟩ : ∃ w9, (w.alloc (.cells #[.slice A es.length c, .int .u32 (caps : Int), .bool blind] 32)).alloc (.cells #[.slice none 0 0, .int .u32 0, .bool false] 32) = w9 := ⟨_, rfl⟩
  have hb9 : Below w.heap.size w w9 := by rw [← hw9]; go_grown
  have hx9 : Blk w9 w.heap.size 32 #[.slice A es.length c, .int .u32 (caps : Int), .bool blind] := by rw [← hw9]; exact (Blk.newAt _ _ rfl rfl).alloc _
  have hz9 : Blk w9 (w.heap.size + 1) 32 #[.slice none 0 0, .int .u32 0, .bool false] := by rw [← hw9]; exact Blk.newAt _ _ rfl (by simp)
  have hr9 : Rd w9 w9.heap.size A (entCells es) := (hr.below hb9 (Nat.le_refl _)).more hb9.size
  have hs9 : w9.heap.size = w.heap.size + 1 + 1 := by rw [← hw9]; simp
  obtain ⟨w0, hw0⟩ : ∃ w0, w9.alloc (.cells #[.slice A es.length c, .int .u32 (caps : Int), .bool blind, .slice none 0 0] 89) = w0 := ⟨_, rfl⟩
  have hg0 : StF w0 (w.heap.size + 1 + 1) A c es caps blind [] := by rw [← hw0, ← hs9]; exact StF.fresh1 hr9
  have hb0 : Below w.heap.size w w0 := by rw [← hw0]; exact hb9.alloc hb9.size _
  have hx0 : Blk w0 w.heap.size 32 #[.slice A es.length c, .int .u32 (caps : Int), .bool blind] := by rw [← hw0]; exact hx9.alloc _
  have hz0 : Blk w0 (w.heap.size + 1) 32 #[.slice none 0 0, .int .u32 0, .bool false] := by rw [← hw0]; exact hz9.alloc _
  have hxl := hx0.lt
  have hzl := hz0.lt
  have hs0 := hb0.size
  have he0 := he.below hb0
  have hxc9 := hx9.cell
  clear hz9 hr9 hb9 hx9
  unfold subS subErr
  obtain ⟨v, hv⟩ : ∃ v, valid d = v := ⟨_, rfl⟩
  have cv := fun W (hW : Env W) => pvalid d W hps hW
  rw [hv] at cv ⊢
  cases v with
  | false =>
    simp only [Bool.false_eq_true, if_false]
    rw [if_neg (by decide)]
    clear hv
    go_enter Tryz.func31, Tryz.ntmps31
    go_upto_region 2 with fail
    clear hw9 hw0 hxc9
    go_wp2_with (first
      | (go_at_call 28; refine (cv _ he0).mono ?_; rintro e w1 ⟨rfl, hb1⟩; have hz1 := hz0.below hb1 hzl; have hb2 := hb0.trans (hb1.mono hs0))
      | (refine storeB sty32 rfl (.tmp 4) (.tmp 20) rfl _ _ _ _ rfl hz1 rfl rfl rfl rfl ?_; intro w4 hz4 hw4; simp only [Act.put]))
    refine bodyPost_ret (resultsB1 sty32 rfl _ _ _ _ _ rfl hz4 rfl) rfl ?_
    exact ⟨none, 0, rfl, Rd.nil _ _ _, hw4.below hb2 (by omega)⟩
  | true =>
    have hp2 : d.length ≤ 1024 := valid_len hv
    clear hv
    simp only [if_true]
    obtain ⟨k, hk⟩ : ∃ k, look es d = k := ⟨_, rfl⟩
    have hk2 := hk
    rw [hk]
    rcases k with _ | _ | dd
    · rw [show dirErr (none) false = 371 from rfl, if_neg (by decide)]
      have c0 := fun W (hW : Env W) => perrno 371 W hW
      rw [errV371] at c0
      clear hk2
      go_enter Tryz.func31, Tryz.ntmps31
      go_upto_region 2 with fail
      clear hw9 hw0 hxc9
      go_wp2_with (first
        | (go_at_call 28; refine (cv _ he0).mono ?_; rintro e w1 ⟨rfl, hb1⟩; have hz1 := hz0.below hb1 hzl; have hx1 := hx0.below hb1 hxl; have hg1 := hg0.below hb1; have hb2 := hb0.trans (hb1.mono hs0); have hs2 := hb2.size; have hr2 := (hr.below hb2 (Nat.le_refl _)).more hs2)
        | (go_at_call 56; obtain ⟨av, hv1, -⟩ := hg1.st.ex; refine (pfind (w.heap.size + 1 + 1) A c es (caps : Int) blind av d w1 hv1 hr2 hf.many (by omega) hf.each).mono ?_; rw [hk]; dsimp only [missing]; simp only [errV371]; rintro e w2 ⟨rfl, hb3⟩; have hz2 := hz1.below hb3 hz1.lt; have hx2 := hx1.below hb3 hx1.lt; have hg2 := hg1.below hb3; have hb4 := hb2.trans (hb3.mono hs2); have hs4 := hb4.size; have hbe := hb4.alloc hs4 (.cells #[.pointer none, .string ⟨#[]⟩, .string ⟨#[]⟩, .bool false, .int .i64 0, .string ⟨#[]⟩] 122))
        | (refine storeB sty122 rfl (.tmp 7) (.tmp 25) rfl w2.heap.size 122 _ (entArr (w.heap.size + 1 + 1) d none) rfl (blkEnt w2) rfl rfl rfl rfl ?_; intro w4 hy4 hw4; have hyc4 := hy4.cell; dsimp only [entArr, dataOf] at hyc4; have hz4 := (hz2.alloc (.cells #[.pointer none, .string ⟨#[]⟩, .string ⟨#[]⟩, .bool false, .int .i64 0, .string ⟨#[]⟩] 122)).wrote hw4 (by have := hz2.lt; omega); have hx4 := (hx2.alloc (.cells #[.pointer none, .string ⟨#[]⟩, .string ⟨#[]⟩, .bool false, .int .i64 0, .string ⟨#[]⟩] 122)).wrote hw4 (by have := hx2.lt; omega); have hg4 := (hg2.alloc (.cells #[.pointer none, .string ⟨#[]⟩, .string ⟨#[]⟩, .bool false, .int .i64 0, .string ⟨#[]⟩] 122)).wrote (blkEnt w2) (by decide) (by have := hg2.lt; omega) hw4; have hb5 := hw4.below hbe hs4; have hs5 := hb5.size; have he5 := he.below hb5; simp only [Act.put])
        | (go_at_call 44; refine (c0 _ he5).mono ?_; rintro e w6 ⟨rfl, hb6⟩; have hz6 := hz4.below hb6 hz4.lt; have hb7 := hb5.trans (hb6.mono hs5))
        | (refine storeB sty32 rfl (.tmp 4) (.tmp 38) rfl _ _ _ _ rfl hz6 rfl rfl rfl rfl ?_; intro w7 hz7 hw7; simp only [Act.put]))
      refine bodyPost_ret (resultsB1 sty32 rfl _ _ _ _ _ rfl hz7 rfl) rfl ?_
      exact ⟨none, 0, rfl, Rd.nil _ _ _, hw7.below hb7 (by omega)⟩
    · rw [show dirErr (some none) false = 0 from rfl, if_pos rfl]
      dsimp only
      obtain ⟨bb, hbb⟩ : ∃ bb, hasCap caps 4 = bb := ⟨_, rfl⟩
      obtain ⟨cp, hcp⟩ : ∃ cp, subCaps caps = cp := ⟨_, rfl⟩
      have hcp2 : cp = if bb then caps else 30 := by rw [← hcp]; unfold subCaps; rw [hbb]
      rw [hcp]
      have HC := Lib.hid hcp2
      clear hcp hcp2 hk2
      have hmany := hf.many
      have cq := fun W (hW : StAt W (w.heap.size + 1 + 1) A es.length c (caps : Int) blind []) => pcan (w.heap.size + 1 + 1) A es.length c caps blind [] 4 4 rfl (by decide) hcaps W hW
      rw [hbb] at cq
      clear hbb
      go_enter Tryz.func31, Tryz.ntmps31
      go_upto_region 2 with fail
      clear hw9 hw0 hxc9
      go_upto_region 9 with (first
        | (go_at_call 28; refine (cv _ he0).mono ?_; rintro e w1 ⟨rfl, hb1⟩; have hz1 := hz0.below hb1 hzl; have hx1 := hx0.below hb1 hxl; have hg1 := hg0.below hb1; have hb2 := hb0.trans (hb1.mono hs0); have hs2 := hb2.size; have hr2 := (hr.below hb2 (Nat.le_refl _)).more hs2)
        | (go_at_call 56; obtain ⟨av, hv1, -⟩ := hg1.st.ex; refine (pfind (w.heap.size + 1 + 1) A c es (caps : Int) blind av d w1 hv1 hr2 hf.many (by omega) hf.each).mono ?_; rw [hk]; dsimp only [missing]; simp only [errV0]; rintro e w2 ⟨rfl, hb3⟩; have hz2 := hz1.below hb3 hz1.lt; have hx2 := hx1.below hb3 hx1.lt; have hg2 := hg1.below hb3; have hb4 := hb2.trans (hb3.mono hs2); have hs4 := hb4.size; have hbe := hb4.alloc hs4 (.cells #[.pointer none, .string ⟨#[]⟩, .string ⟨#[]⟩, .bool false, .int .i64 0, .string ⟨#[]⟩] 122))
        | (refine storeB sty122 rfl (.tmp 7) (.tmp 25) rfl w2.heap.size 122 _ (entArr (w.heap.size + 1 + 1) d (some none)) rfl (blkEnt w2) rfl rfl rfl rfl ?_; intro w4 hy4 hw4; have hyc4 := hy4.cell; dsimp only [entArr, dataOf] at hyc4; have hz4 := (hz2.alloc (.cells #[.pointer none, .string ⟨#[]⟩, .string ⟨#[]⟩, .bool false, .int .i64 0, .string ⟨#[]⟩] 122)).wrote hw4 (by have := hz2.lt; omega); have hx4 := (hx2.alloc (.cells #[.pointer none, .string ⟨#[]⟩, .string ⟨#[]⟩, .bool false, .int .i64 0, .string ⟨#[]⟩] 122)).wrote hw4 (by have := hx2.lt; omega); have hg4 := (hg2.alloc (.cells #[.pointer none, .string ⟨#[]⟩, .string ⟨#[]⟩, .bool false, .int .i64 0, .string ⟨#[]⟩] 122)).wrote (blkEnt w2) (by decide) (by have := hg2.lt; omega) hw4; have hb5 := hw4.below hbe hs4; have hs5 := hb5.size; have he5 := he.below hb5; simp only [Act.put]))
      have hxc4 := hx4.cell
      obtain ⟨w3, hw3⟩ : ∃ w3, w4 = w3 := ⟨_, rfl⟩
      subst hw3
      have S0 : ∀ (q : Int), q = (cp : Int) → SubAt w4 w4.heap.size (w4.heap.size + 1) cp blind (subL (es.take 0) d) (w4.alloc (.cells #[.slice none 0 0, .int .u32 q, .bool blind] 32)) := fun q hq => by
        subst hq
        exact ⟨by go_grown, Nat.le_refl _, by omega, by simp, none, 0, Blk.newAt _ _ rfl rfl, World.ownsRow_nil _ _ _ _⟩
      have hx5 := (hx4.alloc (.cells #[.slice none 0 0, .int .u32 (caps : Int), .bool blind] 32)).cell
      have hx6 := (hx4.alloc (.cells #[.slice none 0 0, .int .u32 30, .bool blind] 32)).cell
      have hg5 := hg4.alloc (.cells #[.slice none 0 0, .int .u32 (caps : Int), .bool blind] 32)
      clear cv hyc4
      cases bb
      all_goals
        have hq := HC.out
        simp only [Bool.false_eq_true, if_false, if_true] at hq
        subst hq
        go_wp2_with (go_at_call 57; refine (cq _ hg5.st).mono ?_; rintro e w5 ⟨rfl, hw5⟩; rw [hw5])
        clear hx5 hx6 hxc4
        go_loopw [53] (fun i wr => ∃ k : Nat, k ≤ es.length ∧ i = .int .i64 k ∧ SubAt w4 w4.heap.size (w4.heap.size + 1) _ blind (subL (es.take k) d) wr) (fun i _ => es.length - (intOf i).toNat)
        case atStart => exact ⟨0, Nat.zero_le _, rfl, S0 _ rfl⟩
        case round =>
          clear S0
          obtain ⟨k, hk, rfl, S⟩ := hrel
          have hbw := hb5.trans (S.b.mono hs5)
          obtain ⟨A9, c9, hz, ho⟩ := S.ex
          have hbs := S.b.size
          by_cases hkl : k < es.length
          · obtain ⟨ad, rfl, had, e1, e2⟩ := (hr.below hbw (Nat.le_refl _)).ent k hkl
            have hel := hf.each _ (List.getElem_mem hkl)
            have hst := subL_take es d k hkl
            have hln := subL_len (es.take k) d
            have hlk : (es.take k).length = k := by simp; omega
            obtain ⟨x, hx⟩ : ∃ x, es[k] = x := ⟨_, rfl⟩
            rw [hx] at e1 e2 hel hst
            have cb := fun W => pbelow d x.path W (by omega) (by omega)
            unfold isBelow at cb
            obtain ⟨bo, hbo⟩ : ∃ bo, below d x.path = bo := ⟨_, rfl⟩
            rw [hbo] at cb hst
            clear hx
            generalize subL (es.take k) d = L at *
            cases bo with
            | none =>
              simp only [List.append_nil] at hst
              have HS := Lib.hid hst
              have S2 := S.alloc (.cells #[.string ⟨x.path.toArray⟩, .string ⟨x.data.toArray⟩] 74)
              clear hst hbo
              go_wp2_with (go_at_call 55; refine (cb _).mono ?_; rintro e w5 ⟨rfl, rfl⟩)
              go_roundw
              case rel => exact ⟨k + 1, by omega, by go_num, by rw [HS.out]; exact S2⟩
              case measure => simp [intOf]; omega
            | some r =>
              have HS := Lib.hid hst
              have S2 := S.alloc (.cells #[.string ⟨x.path.toArray⟩, .string ⟨x.data.toArray⟩] 74)
              have hz2' := hz.alloc (.cells #[.string ⟨x.path.toArray⟩, .string ⟨x.data.toArray⟩] 74)
              have ho2 := ho.alloc (.cells #[.string ⟨x.path.toArray⟩, .string ⟨x.data.toArray⟩] 74)
              have hzc := hz2'.cell
              have hzl2 := hz2'.lt
              have hzn : w4.heap.size < wr.heap.size := hz.lt
              simp only [Option.getD_some, Option.isSome_some] at cb
              clear hst hbo
              go_wp2_with (first
                | (go_at_call 55; refine (cb _).mono ?_; rintro e w5 ⟨rfl, rfl⟩)
                | (at_builtin; go_must (refine push_ent _ _ _ (w4.heap.size + 1) (.slice A9 L.length c9) rfl L ⟨r, x.data⟩ rfl rfl ho2 (by rw [World.size_alloc]; rfl) (by omega) (by simp; omega) ?_); intro v' w6 ho6 hg6; obtain ⟨A6, c6, rfl, -, -, -⟩ := own_rd ho6; have hz6 := hz2'.grown hg6 (fun e => by have := (ho2.lt _ e).1; omega); have hzc6 := hz6.cell; have hzf6 := hz6.frozen))
              go_roundw
              case rel => exact ⟨k + 1, by omega, by go_num, by rw [HS.out]; exact S2.push hz2' ho2 (by simp) ho6 hg6⟩
              case measure => simp [intOf]; omega
          · have hke : es.take k = es := List.take_of_length_le (by omega)
            rw [hke] at hz ho
            have hzc := hz.cell
            have hz8 := hz4.below S.b hz4.lt
            obtain ⟨A8, c8, e8, -, -, hr8⟩ := own_rd ho
            cases e8
            go_wp2_with (refine storeB sty32 rfl (.tmp 4) (.tmp 75) rfl _ _ _ _ rfl hz8 rfl rfl rfl rfl ?_; intro w7 hz7 hw7; have ho7 := own_wrote ho hw7 (own_ne_blk ho hz8 (by decide)); simp only [Act.put])
            refine bodyPost_ret (resultsB1 sty32 rfl _ _ _ _ _ rfl hz7 rfl) rfl ?_
            obtain ⟨A7, c7, e7, -, -, hr7⟩ := own_rd ho7
            cases e7
            exact ⟨A9, c9, rfl, hr7, hw7.below hbw (by omega)⟩
    · rw [show dirErr (some (some dd)) false = 373 from rfl, if_neg (by decide)]
      have c0 := fun W (hW : Env W) => perrno 373 W hW
      rw [errV373] at c0
      clear hk2
      go_enter Tryz.func31, Tryz.ntmps31
      go_upto_region 2 with fail
      clear hw9 hw0 hxc9
      go_wp2_with (first
        | (go_at_call 28; refine (cv _ he0).mono ?_; rintro e w1 ⟨rfl, hb1⟩; have hz1 := hz0.below hb1 hzl; have hx1 := hx0.below hb1 hxl; have hg1 := hg0.below hb1; have hb2 := hb0.trans (hb1.mono hs0); have hs2 := hb2.size; have hr2 := (hr.below hb2 (Nat.le_refl _)).more hs2)
        | (go_at_call 56; obtain ⟨av, hv1, -⟩ := hg1.st.ex; refine (pfind (w.heap.size + 1 + 1) A c es (caps : Int) blind av d w1 hv1 hr2 hf.many (by omega) hf.each).mono ?_; rw [hk]; dsimp only [missing]; simp only [errV0]; rintro e w2 ⟨rfl, hb3⟩; have hz2 := hz1.below hb3 hz1.lt; have hx2 := hx1.below hb3 hx1.lt; have hg2 := hg1.below hb3; have hb4 := hb2.trans (hb3.mono hs2); have hs4 := hb4.size; have hbe := hb4.alloc hs4 (.cells #[.pointer none, .string ⟨#[]⟩, .string ⟨#[]⟩, .bool false, .int .i64 0, .string ⟨#[]⟩] 122))
        | (refine storeB sty122 rfl (.tmp 7) (.tmp 25) rfl w2.heap.size 122 _ (entArr (w.heap.size + 1 + 1) d (some (some dd))) rfl (blkEnt w2) rfl rfl rfl rfl ?_; intro w4 hy4 hw4; have hyc4 := hy4.cell; dsimp only [entArr, dataOf] at hyc4; have hz4 := (hz2.alloc (.cells #[.pointer none, .string ⟨#[]⟩, .string ⟨#[]⟩, .bool false, .int .i64 0, .string ⟨#[]⟩] 122)).wrote hw4 (by have := hz2.lt; omega); have hx4 := (hx2.alloc (.cells #[.pointer none, .string ⟨#[]⟩, .string ⟨#[]⟩, .bool false, .int .i64 0, .string ⟨#[]⟩] 122)).wrote hw4 (by have := hx2.lt; omega); have hg4 := (hg2.alloc (.cells #[.pointer none, .string ⟨#[]⟩, .string ⟨#[]⟩, .bool false, .int .i64 0, .string ⟨#[]⟩] 122)).wrote (blkEnt w2) (by decide) (by have := hg2.lt; omega) hw4; have hb5 := hw4.below hbe hs4; have hs5 := hb5.size; have he5 := he.below hb5; simp only [Act.put])
        | (go_at_call 44; refine (c0 _ he5).mono ?_; rintro e w6 ⟨rfl, hb6⟩; have hz6 := hz4.below hb6 hz4.lt; have hb7 := hb5.trans (hb6.mono hs5))
        | (refine storeB sty32 rfl (.tmp 4) (.tmp 38) rfl _ _ _ _ rfl hz6 rfl rfl rfl rfl ?_; intro w7 hz7 hw7; simp only [Act.put]))
      refine bodyPost_ret (resultsB1 sty32 rfl _ _ _ _ _ rfl hz7 rfl) rfl ?_
      exact ⟨none, 0, rfl, Rd.nil _ _ _, hw7.below hb7 (by omega)⟩
end Go.Proofs.YtkaoechldamggaaGreatDoor
