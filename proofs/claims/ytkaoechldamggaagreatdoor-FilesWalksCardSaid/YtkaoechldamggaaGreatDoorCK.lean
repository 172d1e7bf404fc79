/- The law FilesWalks: the walk. FilesWalks: for every store, root and list of what is left out the law returns true: the row, proved. FilesWalks: for every store, root and list of what is left out the law returns true: the tied card, proved. -/
import Derived.Test.YtkaoechldamggaaGreatDoorCH
import Derived.Test.YtkaoechldamggaaGreatDoorBC
import Derived.Test.YtkaoechldamggaaGreatDoorAQ
import Derived.Test.YtkaoechldamggaaGreatDoorAZ
import Derived.Test.YtkaoechldamggaaGreatDoorTie
import Derived.Test.YtkaoechldamggaaGreatDoorCards
import Derived.SevenTiedAt
namespace Go.Proofs.YtkaoechldamggaaGreatDoor
open Go Go.RowKit
set_option maxRecDepth 100000

/-- A store in memory, behind the law's own block; the variables. -/
structure St1 (w : World) (bx : Nat) (A SA : Option Addr) (c : Nat) (es : List Ent) (caps : Nat) (blind : Bool) (skip : List Bs) (b : Addr) (W : World) : Prop where
  bw : Below w.heap.size w W
  x : Blk W bx 32 #[.slice A es.length c, .int .u32 (caps : Int), .bool blind]
  r : Rd W W.heap.size A (entCells es)
  s : Rd W W.heap.size SA (strCells skip)
  e : Env W
  k : W.cell? ⟨0, 0, none⟩ = some (.iface 263 (.pointer (some b)))
section
variable {w W W' : World} {bx : Nat} {A SA : Option Addr} {c : Nat} {es : List Ent} {caps : Nat} {blind : Bool} {skip : List Bs} {b : Addr}
theorem St1.step (h : St1 w bx A SA c es caps blind skip b W) (hb : Below W.heap.size W W') : St1 w bx A SA c es caps blind skip b W' :=
  ⟨h.bw.trans (hb.mono h.bw.size), h.x.below hb h.x.lt, (h.r.below hb (Nat.le_refl _)).more hb.size, (h.s.below hb (Nat.le_refl _)).more hb.size, h.e.below hb, (hb.cell (p := ⟨0, 0, none⟩) (World.block_lt_of_cell? W _ h.k)).trans h.k⟩
theorem St1.alloc (h : St1 w bx A SA c es caps blind skip b W) (o : Obj) : St1 w bx A SA c es caps blind skip b (W.alloc o) := h.step ((Below.refl _ _).alloc (Nat.le_refl _) o)
end

set_option maxHeartbeats 4000000 in
theorem lWalks (p : Bs) (A SA : Option Addr) (c sc : Nat) (es : List Ent) (caps : Nat) (blind : Bool) (skip : List Bs) (b : Addr) (w : World) (hr : Rd w w.heap.size A (entCells es)) (hsk : Rd w w.heap.size SA (strCells skip)) (he : Env w) (hs : w.cell? ⟨0, 0, none⟩ = some (.iface 263 (.pointer (some b)))) (hcaps : caps < 4294967296) (hp : p.length ≤ 140737488351232) (hes : ∀ e ∈ es, e.path.length ≤ 140737488351232 ∧ e.data.length ≤ 140737488351232) :
    Calls Tryz.prog 8 #[.agg #[.slice A es.length c, .int .u32 (caps : Int), .bool blind], .string ⟨p.toArray⟩, .slice SA skip.length sc] w fun e w' => e = .returned (.bool true) ∧ Below w.heap.size w w' := by
  obtain ⟨w0, hw0⟩ : ∃ w0, w.alloc (.cells #[.slice A es.length c, .int .u32 (caps : Int), .bool blind] 32) = w0 := ⟨_, rfl⟩
  have b0 : Below w.heap.size w w0 := by rw [← hw0]; go_grown
  have x0 : Blk w0 w.heap.size 32 #[.slice A es.length c, .int .u32 (caps : Int), .bool blind] := by rw [← hw0]; exact Blk.newAt _ _ rfl rfl
  have s0 : St1 w w.heap.size A SA c es caps blind skip b w0 := ⟨b0, x0, (hr.below b0 (Nat.le_refl _)).more b0.size, (hsk.below b0 (Nat.le_refl _)).more b0.size, he.below b0, (b0.cell (p := ⟨0, 0, none⟩) (World.block_lt_of_cell? w _ hs)).trans hs⟩
  have xc0 := s0.x.cell
  have cf := fun W (hr : Rd W W.heap.size A (entCells es)) (hW : Env W) => rfit A c es caps blind W hr hW hcaps hes
  have ca := fun W (hW : Env W) => paw W hW
  by_cases hF : FitP es caps
  · have cf : ∀ W (hr : Rd W W.heap.size A (entCells es)) (hW : Env W), Calls Tryz.prog 14 #[.agg #[.slice A es.length c, .int .u32 (caps : Int), .bool blind]] W fun e w' => e = .returned (.bool true) ∧ Below W.heap.size W w' := fun W hr hW =>
      (cf W hr hW).mono fun e w' ⟨b, h1, h2, h3⟩ => ⟨by rw [h1, h2.2 hF], h3⟩
    by_cases hl : 400 < skip.length
    · have hd1 : decide ((400 : Int) < (skip.length : Int)) = true := decide_eq_true (by omega)
      go_enter Tryz.func8, Tryz.ntmps8
      go_wp2_with (first
        | (go_at_call 14; refine (cf _ s0.r s0.e).mono ?_; rintro e w1 ⟨rfl, hb1⟩; have s1 := s0.step hb1)
        | (go_at_call 11; refine (ca _ s1.e).mono ?_; rintro e w2 ⟨rfl, hb2⟩; have s2 := s1.step hb2))
      go_returns
      exact ⟨rfl, s2.bw⟩
    · have hd1 : decide ((400 : Int) < (skip.length : Int)) = false := decide_eq_false (by omega)
      have hlen := wRes_len hF caps blind skip p
      have c1 := fun W (hr : Rd W W.heap.size A (entCells es)) (hsk : Rd W W.heap.size SA (strCells skip)) (he : Env W) (hs : W.cell? ⟨0, 0, none⟩ = some (.iface 263 (.pointer (some b)))) => pWalk A SA c sc caps es caps blind skip p b W hr hsk hF he hs hcaps hp (by omega)
      have c2 := fun W (hr : Rd W W.heap.size A (entCells es)) (hsk : Rd W W.heap.size SA (strCells skip)) (he : Env W) => rWalk A SA c sc caps es caps blind skip p W hr hsk hF he hcaps hp (by omega)
      generalize wRes es caps blind skip p = R at *
      have hee : ((R.out : Int) == (R.out : Int)) = true := by simp
      clear hF
      go_enter Tryz.func8, Tryz.ntmps8
      go_wp2_with (first
        | (go_at_call 14; refine (cf _ s0.r s0.e).mono ?_; rintro e w1 ⟨rfl, hb1⟩; have s1 := s0.step hb1; have xc1 := s1.x.cell)
        | (go_at_call 33; refine (c1 _ s1.r s1.s s1.e s1.k).mono ?_; rintro e w2 ⟨u2, v2, rfl, hu2, hv2, hb2⟩; have s2 := s1.step hb2; have xc2 := s2.x.cell; obtain ⟨A2, k2, rfl, -, -, ru2⟩ := own_rd hu2; obtain ⟨A3, k3, rfl, -, -, rv2⟩ := own_rd hv2)
        | (go_at_call 34; refine (c2 _ s2.r s2.s s2.e).mono ?_; rintro e w3 ⟨u3, v3, rfl, hu3, hv3, hb3⟩; have s3 := s2.step hb3; obtain ⟨A4, k4, rfl, -, -, ru3⟩ := own_rd hu3; obtain ⟨A5, k5, rfl, -, -, rv3⟩ := own_rd hv3; have ru4 := (ru2.below hb3 (Nat.le_refl _)).more hb3.size; have rv4 := (rv2.below hb3 (Nat.le_refl _)).more hb3.size)
        | (go_at_call 17; refine (lTextsEq A2 A4 k2 k4 R.paths _ ru4 ru3 (by omega)).mono ?_; rintro e w4 ⟨rfl, hb4⟩; have s4 := s3.step hb4; have rv5 := (rv4.below hb4 (Nat.le_refl _)).more hb4.size; have rv6 := (rv3.below hb4 (Nat.le_refl _)).more hb4.size)
        | (go_at_call 18; refine (lAskedEq A3 A5 k3 k5 R.asks _ rv5 rv6 (by omega)).mono ?_; rintro e w5 ⟨rfl, hb5⟩; have s5 := s4.step hb5)
        | (go_at_call 11; refine (ca _ s5.e).mono ?_; rintro e w6 ⟨rfl, hb6⟩; have s6 := s5.step hb6))
      go_returns
      exact ⟨rfl, s6.bw⟩
  · have cf : ∀ W (hr : Rd W W.heap.size A (entCells es)) (hW : Env W), Calls Tryz.prog 14 #[.agg #[.slice A es.length c, .int .u32 (caps : Int), .bool blind]] W fun e w' => e = .returned (.bool false) ∧ Below W.heap.size W w' := fun W hr hW =>
      (cf W hr hW).mono fun e w' ⟨b, h1, h2, h3⟩ => ⟨by rw [h1]; cases b with | false => rfl | true => exact absurd (h2.1 rfl) hF, h3⟩
    clear hF
    go_enter Tryz.func8, Tryz.ntmps8
    go_wp2_with (first
      | (go_at_call 14; refine (cf _ s0.r s0.e).mono ?_; rintro e w1 ⟨rfl, hb1⟩; have s1 := s0.step hb1)
      | (go_at_call 11; refine (ca _ s1.e).mono ?_; rintro e w2 ⟨rfl, hb2⟩; have s2 := s1.step hb2))
    go_returns
    exact ⟨rfl, s2.bw⟩
end Go.Proofs.YtkaoechldamggaaGreatDoor
namespace Go.Proofs.YtkaoechldamggaaGreatDoor
open Go Go.ChangeShapes Go.WideShapes Go.ChangeAt Go.RowKit Go.ChangeMaps
set_option maxRecDepth 100000

theorem filesWalks_witness (os : Os) {H : Type} (enc : TypeId × Value → H) :
    (OpenSpec.ofChange Rows.filesWalksSpec).preRow enc Tryz.prog Tryz.f8 Rows.filesWalksRow.domain false Rows.filesWalksRow.laid ((skipWorld os).forCall (fun _ _ => 0) ⟨#[], #[.agg #[.slice none 0 0, .int .u32 0, .bool false], .string ⟨#[]⟩, .slice none 0 0], []⟩).memory #[.agg #[.slice none 0 0, .int .u32 0, .bool false], .string ⟨#[]⟩, .slice none 0 0] := by
  have hw : (DataW.whole enc Tryz.prog ((skipWorld os).forCall (fun _ _ => 0) ⟨#[], #[.agg #[.slice none 0 0, .int .u32 0, .bool false], .string ⟨#[]⟩, .slice none 0 0], []⟩).memory Tryz.f8.params.toList (OpenSpec.ofChange Rows.filesWalksSpec).vars false #[Value.agg #[.slice none 0 0, .int .u32 0, .bool false], Value.string ⟨#[]⟩, Value.slice none 0 0].toList 8).map (fun x => (x.1, x.2.1)) =
      some ([.agg [.nil, .lit (.int .u32 0), .lit (.bool false)], .lit (.string []), .nil], []) := by kernel_rfl
  obtain ⟨⟨x1, x2, x3⟩, hx, hx1⟩ := Option.map_eq_some_iff.1 hw
  simp only [Prod.mk.injEq] at hx1
  obtain ⟨rfl, rfl⟩ := hx1
  exact OpenSpec.preRow_of_cond 8 hx (by kernel_rfl) (fun k hk => by cases hk) (by kernel_rfl) (skipWorld_met os _)

set_option maxHeartbeats 2000000 in
theorem filesWalks_lifted (os : Os) (started : os.Started) (H : Type) (enc : TypeId × Value → H) (F : Stop.Interp) :
    ReturnsInHanded {} Tryz.checked os 8 .any ((OpenSpec.ofChange Rows.filesWalksSpec).preRow enc Tryz.prog Tryz.f8 Rows.filesWalksRow.domain false Rows.filesWalksRow.laid) (((OpenSpec.ofChange Rows.filesWalksSpec).at F).post enc Tryz.prog Tryz.f8 false true false false) := by
  refine returnsInHanded_of_row (C := Tryz.checked) (s := OpenSpec.ofChange Rows.filesWalksSpec) own started (by kernel_rfl) Tryz.func8
    (witness_row_at (enc := enc) (C := Tryz.checked) false (skipWorld os) #[.agg #[.slice none 0 0, .int .u32 0, .bool false], .string ⟨#[]⟩, .slice none 0 0] rfl (by kernel_rfl) (by kernel_rfl) (by kernel_rfl) (filesWalks_witness os enc)) ?_
  intro W base args ds gs before hval0 hW _ _ hsz0 hL hsh _
  have hsz : (DataW.weightsEach Tryz.prog (Tryz.f8.params.toList ++ (OpenSpec.ofChange Rows.filesWalksSpec).bare.plain.varTypes Tryz.prog) (ds ++ gs)).all (· ≤ reachBytes) = true := hsz0
  have hval : ∀ (j : Nat) t v, Tryz.f8.params[j]? = some t → args[j]? = some v → Value.okWide Tryz.prog W .any base t v := hval0
  have hW' := hW
  obtain ⟨p, q, hA0, hV0, rfl, _, _⟩ := hW
  have hA : DataW.TrodAll enc Tryz.prog W 0 (fun _ => true) true Tryz.f8.params.toList args.toList ds p := hA0
  rw [Tryz.params8] at hA hval hsz
  obtain ⟨v0, v1, v2, d0, d1, d2, p0, p1, p2, rfl, rfl, rfl, h0, h1, h2⟩ := trodAll_three hA
  obtain ⟨rfl, rfl⟩ := trodVars_none hV0
  simp only [List.append_nil] at hW'
  have hlt : ∀ x ∈ p0 ++ p1 ++ p2, x.block < W.heap.size := fun x hx => by simpa using hW'.lt x hx
  obtain ⟨he, bk, hk⟩ := env_skip hL hsh
  obtain ⟨A, c, es, caps, blind, e0a, hr, hcaps, hwe⟩ := open_store (hval 0 32 v0 rfl rfl) h0
  subst e0a
  obtain ⟨s1, e1a, e1b, -, -⟩ := open_string Tryz.underlying9 (hval 1 9 v1 rfl rfl) h1
  subst e1a e1b
  obtain ⟨SA, sc, skip, e2a, hsk⟩ := open_names (hval 2 34 v2 rfl rfl) h2
  subst e2a
  have hall := List.all_eq_true.1 hsz
  have hes : ∀ e ∈ es, e.path.length ≤ 140737488351232 ∧ e.data.length ≤ 140737488351232 := fun e hm => by
    obtain ⟨m1, m2⟩ := hwe e hm
    have g1 := hall _ (by rw [List.append_nil]; exact mem_each0 m1)
    have g2 := hall _ (by rw [List.append_nil]; exact mem_each0 m2)
    exact ⟨of_decide_eq_true g1, of_decide_eq_true g2⟩
  have hs1 : s1.data.toList.length ≤ 140737488351232 := by
    have := hall s1.data.toList.length (by rw [List.append_nil]; exact (mem_each1 (by rw [DataW.weights]; simp)))
    exact of_decide_eq_true this
  have hc := lWalks s1.data.toList A SA c sc es caps blind skip bk W hr hsk he hk hcaps hs1 hes
  simp only [bytes_back] at hc
  refine hc.mono ?_
  rintro e W' ⟨rfl, bel⟩
  have e1 : ((OpenSpec.ofChange Rows.filesWalksSpec).at F).fn H ([d0, .lit (.string s1.data.toList), d2] ++ []) = { results := [.lit (.bool true)], args := [d0, .lit (.string s1.data.toList), d2] } := rfl
  refine ⟨_, rfl, _, _, _, [], p0 ++ p1 ++ p2, [], hW', ?_, ?_, ?_, bel.frame _, fun h => by cases h⟩
  · rw [e1]; exact trodAll_mk1 (shut_bool Tryz.underlying4 _)
  · rw [e1, List.append_assoc]; exact trodAll_mk3 (Below.trod laidOut (by kernel_rfl) (of_decide_eq_true (by kernel_rfl)) h0 bel (fun x hx => hlt x (by simp [hx]))) (Below.trod laidOut (by kernel_rfl) (of_decide_eq_true (by kernel_rfl)) h1 bel (fun x hx => hlt x (by simp [hx]))) (Below.trod laidOut (by kernel_rfl) (of_decide_eq_true (by kernel_rfl)) h2 bel (fun x hx => hlt x (by simp [hx])))
  · rw [e1]; rfl

theorem filesWalks_holds : Rows.FilesWalksSaid :=
  OpenClaim.holds_of_cond 8 Tryz.f8 rfl rfl rfl rfl rfl rfl rfl ⟨rfl, rfl, rfl, rfl, rfl⟩ rfl rfl rfl rfl rfl (by kernel_rfl) Tryz.func8 (by kernel_rfl)
    (of_decide_eq_true (by kernel_rfl)) (by unfold Func.isWrapper; rw [if_neg (of_decide_eq_false (by kernel_rfl))]; exact ⟨rfl, rfl⟩)
    (fun os started H enc _ F0 => by rw [OpenClaim.pre_eq_preRow]; exact filesWalks_lifted os started H enc F0)
#print axioms filesWalks_holds
end Go.Proofs.YtkaoechldamggaaGreatDoor
namespace Go.Proofs.YtkaoechldamggaaGreatDoor
open Go

theorem filesWalks_card : Rows.FilesWalksCardSaid :=
  Claim7.holds_tied_plain_at .later [] [.data, .handle, .sentinel, .pinned] true (true, "279b2154b93464579006ceb286a2db82dd03ca17af16163be17d2f27eaad64e4") true
    filesWalks_holds (fun _ h => by cases h) (by kernel_rfl) (fun _ h => by cases h) filesWalks_row_tie rfl ⟨rfl, rfl⟩ (by kernel_rfl) rfl
    (fun f fn hf hfn => by
      obtain rfl : f = 8 := Option.some.inj ((show Tryz.prog.funcNamed "conduit/conduitlaw37.FilesWalks" = some 8 by kernel_rfl).symm.trans hf) |>.symm
      obtain rfl : fn = Tryz.f8 := (Option.some.inj (Tryz.func8.symm.trans hfn)).symm
      exact ⟨by kernel_rfl, fun j t ht => by
        rw [Tryz.params8] at ht
        have hm : t ∈ [32, 9, 34] := by
          have := List.mem_of_getElem? (by simpa using ht : [32, 9, 34][j]? = some t)
          exact this
        simp only [List.mem_cons, List.not_mem_nil, or_false] at hm
        rcases hm with rfl | rfl | rfl
        · exact (show Tryz.prog.wantsStandIn 32 = false by kernel_rfl)
        · exact (show Tryz.prog.wantsStandIn 9 = false by kernel_rfl)
        · exact (show Tryz.prog.wantsStandIn 34 = false by kernel_rfl)⟩)
    (by kernel_rfl)
#print axioms filesWalks_card
end Go.Proofs.YtkaoechldamggaaGreatDoor
