/- FilesValid: for every path and every store the law returns true: the row, proved. -/
import Derived.Test.YtkaoechldamggaaGreatDoorAZ
import Derived.Test.YtkaoechldamggaaGreatDoorAY
namespace Go.Proofs.YtkaoechldamggaaGreatDoor
open Go Go.ChangeShapes Go.WideShapes Go.ChangeAt Go.RowKit Go.ChangeMaps
set_option maxRecDepth 100000

theorem filesValid_witness (os : Os) {H : Type} (enc : TypeId × Value → H) :
    (OpenSpec.ofChange Rows.filesValidSpec).preRow enc Tryz.prog Tryz.f6 Rows.filesValidRow.domain false Rows.filesValidRow.laid ((laidWorld os).forCall (fun _ _ => 0) ⟨#[], #[.string ⟨#[]⟩, .agg #[.slice none 0 0, .int .u32 0, .bool false]], []⟩).memory #[.string ⟨#[]⟩, .agg #[.slice none 0 0, .int .u32 0, .bool false]] := by
  have hw : (DataW.whole enc Tryz.prog ((laidWorld os).forCall (fun _ _ => 0) ⟨#[], #[.string ⟨#[]⟩, .agg #[.slice none 0 0, .int .u32 0, .bool false]], []⟩).memory Tryz.f6.params.toList (OpenSpec.ofChange Rows.filesValidSpec).vars false #[Value.string ⟨#[]⟩, Value.agg #[.slice none 0 0, .int .u32 0, .bool false]].toList 8).map (fun x => (x.1, x.2.1)) =
      some ([.lit (.string []), .agg [.nil, .lit (.int .u32 0), .lit (.bool false)]], []) := by kernel_rfl
  obtain ⟨⟨x1, x2, x3⟩, hx, hx1⟩ := Option.map_eq_some_iff.1 hw
  simp only [Prod.mk.injEq] at hx1
  obtain ⟨rfl, rfl⟩ := hx1
  exact OpenSpec.preRow_of_cond 8 hx (by kernel_rfl) (fun k hk => by cases hk) (by kernel_rfl) (laidWorld_met os _)

set_option maxHeartbeats 2000000 in
theorem filesValid_lifted (os : Os) (started : os.Started) (H : Type) (enc : TypeId × Value → H) (F : Stop.Interp) :
    ReturnsInHanded {} Tryz.checked os 6 .any ((OpenSpec.ofChange Rows.filesValidSpec).preRow enc Tryz.prog Tryz.f6 Rows.filesValidRow.domain false Rows.filesValidRow.laid) (((OpenSpec.ofChange Rows.filesValidSpec).at F).post enc Tryz.prog Tryz.f6 false true false false) := by
  refine returnsInHanded_of_row (C := Tryz.checked) (s := OpenSpec.ofChange Rows.filesValidSpec) own started (by kernel_rfl) Tryz.func6
    (witness_row_at (enc := enc) (C := Tryz.checked) false (laidWorld os) #[.string ⟨#[]⟩, .agg #[.slice none 0 0, .int .u32 0, .bool false]] rfl (by kernel_rfl) (by kernel_rfl) (by kernel_rfl) (filesValid_witness os enc)) ?_
  intro W base args ds gs before hval0 hW _ _ hsz0 hL hsh _
  have hsz : (DataW.weightsEach Tryz.prog (Tryz.f6.params.toList ++ (OpenSpec.ofChange Rows.filesValidSpec).bare.plain.varTypes Tryz.prog) (ds ++ gs)).all (· ≤ reachBytes) = true := hsz0
  have hval : ∀ (j : Nat) t v, Tryz.f6.params[j]? = some t → args[j]? = some v → Value.okWide Tryz.prog W .any base t v := hval0
  have hW' := hW
  obtain ⟨p, q, hA0, hV0, rfl, _, _⟩ := hW
  have hA : DataW.TrodAll enc Tryz.prog W 0 (fun _ => true) true Tryz.f6.params.toList args.toList ds p := hA0
  rw [Tryz.params6] at hA hval hsz
  obtain ⟨v0, v1, d0, d1, p0, p1, rfl, rfl, rfl, h0, h1⟩ := trodAll_two hA
  obtain ⟨rfl, rfl⟩ := trodVars_none hV0
  simp only [List.append_nil] at hW'
  have hlt : ∀ x ∈ p0 ++ p1, x.block < W.heap.size := fun x hx => by simpa using hW'.lt x hx
  have he := env_matches hL hsh
  obtain ⟨s0, e0a, e0b, -, -⟩ := open_string Tryz.underlying9 (hval 0 9 v0 rfl rfl) h0
  subst e0a e0b
  obtain ⟨A, c, es, caps, blind, e1a, hr, hcaps, hwe⟩ := open_store (hval 1 32 v1 rfl rfl) h1
  subst e1a
  have hall := List.all_eq_true.1 hsz
  have hs0 : s0.data.toList.length ≤ 140737488351232 := by
    have := hall s0.data.toList.length (by rw [List.append_nil]; exact (mem_each0 (by rw [DataW.weights]; simp)))
    exact of_decide_eq_true this
  have hes : ∀ e ∈ es, e.path.length ≤ 140737488351232 ∧ e.data.length ≤ 140737488351232 := fun e hm => by
    obtain ⟨m1, m2⟩ := hwe e hm
    have g1 := hall _ (by rw [List.append_nil]; exact mem_each1 m1)
    have g2 := hall _ (by rw [List.append_nil]; exact mem_each1 m2)
    exact ⟨of_decide_eq_true g1, of_decide_eq_true g2⟩
  have hc := lValid s0.data.toList A c es caps blind W hr he hcaps hs0 hes
  simp only [bytes_back] at hc
  refine hc.mono ?_
  rintro e W' ⟨rfl, bel⟩
  have e1 : ((OpenSpec.ofChange Rows.filesValidSpec).at F).fn H ([.lit (.string s0.data.toList), d1] ++ []) = { results := [.lit (.bool true)], args := [.lit (.string s0.data.toList), d1] } := rfl
  refine ⟨_, rfl, _, _, _, [], p0 ++ p1, [], hW', ?_, ?_, ?_, bel.frame _, fun h => by cases h⟩
  · rw [e1]; exact trodAll_mk1 (shut_bool Tryz.underlying4 _)
  · rw [e1]; exact trodAll_mk2 (Below.trod laidOut (by kernel_rfl) (of_decide_eq_true (by kernel_rfl)) h0 bel (fun x hx => hlt x (by simp [hx]))) (Below.trod laidOut (by kernel_rfl) (of_decide_eq_true (by kernel_rfl)) h1 bel (fun x hx => hlt x (by simp [hx])))
  · rw [e1]; rfl

theorem filesValid_holds : Rows.FilesValidSaid :=
  OpenClaim.holds_of_cond 6 Tryz.f6 rfl rfl rfl rfl rfl rfl rfl ⟨rfl, rfl, rfl, rfl, rfl⟩ rfl rfl rfl rfl rfl (by kernel_rfl) Tryz.func6 (by kernel_rfl)
    (of_decide_eq_true (by kernel_rfl)) (by unfold Func.isWrapper; rw [if_neg (of_decide_eq_false (by kernel_rfl))]; exact ⟨rfl, rfl⟩)
    (fun os started H enc _ F0 => by rw [OpenClaim.pre_eq_preRow]; exact filesValid_lifted os started H enc F0)
#print axioms filesValid_holds
end Go.Proofs.YtkaoechldamggaaGreatDoor
