/- FilesAll: for every store the law returns true: the row, proved. FilesAll: for every store the law returns true: the tied card, proved. -/
import Derived.Test.YtkaoechldamggaaGreatDoorAZ
import Derived.Test.YtkaoechldamggaaGreatDoorCO
import Derived.Test.YtkaoechldamggaaGreatDoorTie
import Derived.Test.YtkaoechldamggaaGreatDoorCards
import Derived.SevenTiedAt
namespace Go.Proofs.YtkaoechldamggaaGreatDoor
open Go Go.ChangeShapes Go.WideShapes Go.ChangeAt Go.RowKit Go.ChangeMaps
set_option maxRecDepth 100000

theorem filesAll_witness (os : Os) {H : Type} (enc : TypeId × Value → H) :
    (OpenSpec.ofChange Rows.filesAllSpec).preRow enc Tryz.prog Tryz.f10 Rows.filesAllRow.domain false Rows.filesAllRow.laid ((skipWorld os).forCall (fun _ _ => 0) ⟨#[], #[.agg #[.slice none 0 0, .int .u32 0, .bool false]], []⟩).memory #[.agg #[.slice none 0 0, .int .u32 0, .bool false]] := by
  have hw : (DataW.whole enc Tryz.prog ((skipWorld os).forCall (fun _ _ => 0) ⟨#[], #[.agg #[.slice none 0 0, .int .u32 0, .bool false]], []⟩).memory Tryz.f10.params.toList (OpenSpec.ofChange Rows.filesAllSpec).vars false #[Value.agg #[.slice none 0 0, .int .u32 0, .bool false]].toList 8).map (fun x => (x.1, x.2.1)) =
      some ([.agg [.nil, .lit (.int .u32 0), .lit (.bool false)]], []) := by kernel_rfl
  obtain ⟨⟨x1, x2, x3⟩, hx, hx1⟩ := Option.map_eq_some_iff.1 hw
  simp only [Prod.mk.injEq] at hx1
  obtain ⟨rfl, rfl⟩ := hx1
  exact OpenSpec.preRow_of_cond 8 hx (by kernel_rfl) (fun k hk => by cases hk) (by kernel_rfl) (skipWorld_met os _)

set_option maxHeartbeats 2000000 in
theorem filesAll_lifted (os : Os) (started : os.Started) (H : Type) (enc : TypeId × Value → H) (F : Stop.Interp) :
    ReturnsInHanded {} Tryz.checked os 10 .any ((OpenSpec.ofChange Rows.filesAllSpec).preRow enc Tryz.prog Tryz.f10 Rows.filesAllRow.domain false Rows.filesAllRow.laid) (((OpenSpec.ofChange Rows.filesAllSpec).at F).post enc Tryz.prog Tryz.f10 false true false false) := by
  refine returnsInHanded_of_row (C := Tryz.checked) (s := OpenSpec.ofChange Rows.filesAllSpec) own started (by kernel_rfl) Tryz.func10
    (witness_row_at (enc := enc) (C := Tryz.checked) false (skipWorld os) #[.agg #[.slice none 0 0, .int .u32 0, .bool false]] rfl (by kernel_rfl) (by kernel_rfl) (by kernel_rfl) (filesAll_witness os enc)) ?_
  intro W base args ds gs before hval0 hW _ _ hsz0 hL hsh _
  have hsz : (DataW.weightsEach Tryz.prog (Tryz.f10.params.toList ++ (OpenSpec.ofChange Rows.filesAllSpec).bare.plain.varTypes Tryz.prog) (ds ++ gs)).all (· ≤ reachBytes) = true := hsz0
  have hval : ∀ (j : Nat) t v, Tryz.f10.params[j]? = some t → args[j]? = some v → Value.okWide Tryz.prog W .any base t v := hval0
  have hW' := hW
  obtain ⟨p, q, hA0, hV0, rfl, _, _⟩ := hW
  have hA : DataW.TrodAll enc Tryz.prog W 0 (fun _ => true) true Tryz.f10.params.toList args.toList ds p := hA0
  rw [Tryz.params10] at hA hval hsz
  obtain ⟨v0, d0, rfl, rfl, h0⟩ := trodAll_one hA
  obtain ⟨rfl, rfl⟩ := trodVars_none hV0
  simp only [List.append_nil] at hW'
  have hlt : ∀ x ∈ p, x.block < W.heap.size := fun x hx => by simpa using hW'.lt x hx
  obtain ⟨he, bk, hk⟩ := env_skip hL hsh
  obtain ⟨A, c, es, caps, blind, e0a, hr, hcaps, hwe⟩ := open_store (hval 0 32 v0 rfl rfl) h0
  subst e0a
  have hall := List.all_eq_true.1 hsz
  have hes : ∀ e ∈ es, e.path.length ≤ 140737488351232 ∧ e.data.length ≤ 140737488351232 := fun e hm => by
    obtain ⟨m1, m2⟩ := hwe e hm
    have g1 := hall _ (by rw [List.append_nil]; exact mem_each0 m1)
    have g2 := hall _ (by rw [List.append_nil]; exact mem_each0 m2)
    exact ⟨of_decide_eq_true g1, of_decide_eq_true g2⟩
  have hc := lAll A c es caps blind bk W hr he hk hcaps hes
  refine hc.mono ?_
  rintro e W' ⟨rfl, bel⟩
  have e1 : ((OpenSpec.ofChange Rows.filesAllSpec).at F).fn H ([d0] ++ []) = { results := [.lit (.bool true)], args := [d0] } := rfl
  refine ⟨_, rfl, _, _, _, [], p, [], hW', ?_, ?_, ?_, bel.frame _, fun h => by cases h⟩
  · rw [e1]; exact trodAll_mk1 (shut_bool Tryz.underlying4 _)
  · rw [e1]; exact trodAll_mk1 (Below.trod laidOut (by kernel_rfl) (of_decide_eq_true (by kernel_rfl)) h0 bel (fun x hx => hlt x (by simp [hx])))
  · rw [e1]; rfl

theorem filesAll_holds : Rows.FilesAllSaid :=
  OpenClaim.holds_of_cond 10 Tryz.f10 rfl rfl rfl rfl rfl rfl rfl ⟨rfl, rfl, rfl, rfl, rfl⟩ rfl rfl rfl rfl rfl (by kernel_rfl) Tryz.func10 (by kernel_rfl)
    (of_decide_eq_true (by kernel_rfl)) (by unfold Func.isWrapper; rw [if_neg (of_decide_eq_false (by kernel_rfl))]; exact ⟨rfl, rfl⟩)
    (fun os started H enc _ F0 => by rw [OpenClaim.pre_eq_preRow]; exact filesAll_lifted os started H enc F0)
#print axioms filesAll_holds
end Go.Proofs.YtkaoechldamggaaGreatDoor
namespace Go.Proofs.YtkaoechldamggaaGreatDoor
open Go

theorem filesAll_card : Rows.FilesAllCardSaid :=
  Claim7.holds_tied_plain_at .later [] [.data, .handle, .sentinel, .pinned] true (true, "279b2154b93464579006ceb286a2db82dd03ca17af16163be17d2f27eaad64e4") true
    filesAll_holds (fun _ h => by cases h) (by kernel_rfl) (fun _ h => by cases h) filesAll_row_tie rfl ⟨rfl, rfl⟩ (by kernel_rfl) rfl
    (fun f fn hf hfn => by
      obtain rfl : f = 10 := Option.some.inj ((show Tryz.prog.funcNamed "conduit/conduitlaw37.FilesAll" = some 10 by kernel_rfl).symm.trans hf) |>.symm
      obtain rfl : fn = Tryz.f10 := (Option.some.inj (Tryz.func10.symm.trans hfn)).symm
      exact ⟨by kernel_rfl, fun j t ht => by
        rw [Tryz.params10] at ht
        have hm : t ∈ [32] := by
          have := List.mem_of_getElem? (by simpa using ht : [32][j]? = some t)
          exact this
        simp only [List.mem_cons, List.not_mem_nil, or_false] at hm
        rcases hm with rfl
        · exact (show Tryz.prog.wantsStandIn 32 = false by kernel_rfl)⟩)
    (by kernel_rfl)
#print axioms filesAll_card
end Go.Proofs.YtkaoechldamggaaGreatDoor
