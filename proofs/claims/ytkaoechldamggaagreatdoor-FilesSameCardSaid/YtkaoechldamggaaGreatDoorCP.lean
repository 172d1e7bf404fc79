/- FilesSame: for every store, other abilities, path and pattern the law returns true: the row, proved. FilesSame: for every store, other abilities, path and pattern the law returns true: the tied card, proved. -/
import Derived.Test.YtkaoechldamggaaGreatDoorAZ
import Derived.Test.YtkaoechldamggaaGreatDoorCN
import Derived.Test.YtkaoechldamggaaGreatDoorTie
import Derived.Test.YtkaoechldamggaaGreatDoorCards
import Derived.SevenTiedAt
namespace Go.Proofs.YtkaoechldamggaaGreatDoor
open Go Go.ChangeShapes Go.WideShapes Go.ChangeAt Go.RowKit Go.ChangeMaps
set_option maxRecDepth 100000

theorem filesSame_witness (os : Os) {H : Type} (enc : TypeId × Value → H) :
    (OpenSpec.ofChange Rows.filesSameSpec).preRow enc Tryz.prog Tryz.f9 Rows.filesSameRow.domain false Rows.filesSameRow.laid ((skipWorld os).forCall (fun _ _ => 0) ⟨#[], #[.agg #[.slice none 0 0, .int .u32 0, .bool false], .int .u32 0, .string ⟨#[]⟩, .string ⟨#[]⟩], []⟩).memory #[.agg #[.slice none 0 0, .int .u32 0, .bool false], .int .u32 0, .string ⟨#[]⟩, .string ⟨#[]⟩] := by
  have hw : (DataW.whole enc Tryz.prog ((skipWorld os).forCall (fun _ _ => 0) ⟨#[], #[.agg #[.slice none 0 0, .int .u32 0, .bool false], .int .u32 0, .string ⟨#[]⟩, .string ⟨#[]⟩], []⟩).memory Tryz.f9.params.toList (OpenSpec.ofChange Rows.filesSameSpec).vars false #[Value.agg #[.slice none 0 0, .int .u32 0, .bool false], Value.int .u32 0, Value.string ⟨#[]⟩, Value.string ⟨#[]⟩].toList 8).map (fun x => (x.1, x.2.1)) =
      some ([.agg [.nil, .lit (.int .u32 0), .lit (.bool false)], .lit (.int .u32 0), .lit (.string []), .lit (.string [])], []) := by kernel_rfl
  obtain ⟨⟨x1, x2, x3⟩, hx, hx1⟩ := Option.map_eq_some_iff.1 hw
  simp only [Prod.mk.injEq] at hx1
  obtain ⟨rfl, rfl⟩ := hx1
  exact OpenSpec.preRow_of_cond 8 hx (by kernel_rfl) (fun k hk => by cases hk) (by kernel_rfl) (skipWorld_met os _)

set_option maxHeartbeats 2000000 in
theorem filesSame_lifted (os : Os) (started : os.Started) (H : Type) (enc : TypeId × Value → H) (F : Stop.Interp) :
    ReturnsInHanded {} Tryz.checked os 9 .any ((OpenSpec.ofChange Rows.filesSameSpec).preRow enc Tryz.prog Tryz.f9 Rows.filesSameRow.domain false Rows.filesSameRow.laid) (((OpenSpec.ofChange Rows.filesSameSpec).at F).post enc Tryz.prog Tryz.f9 false true false false) := by
  refine returnsInHanded_of_row (C := Tryz.checked) (s := OpenSpec.ofChange Rows.filesSameSpec) own started (by kernel_rfl) Tryz.func9
    (witness_row_at (enc := enc) (C := Tryz.checked) false (skipWorld os) #[.agg #[.slice none 0 0, .int .u32 0, .bool false], .int .u32 0, .string ⟨#[]⟩, .string ⟨#[]⟩] rfl (by kernel_rfl) (by kernel_rfl) (by kernel_rfl) (filesSame_witness os enc)) ?_
  intro W base args ds gs before hval0 hW _ _ hsz0 hL hsh _
  have hsz : (DataW.weightsEach Tryz.prog (Tryz.f9.params.toList ++ (OpenSpec.ofChange Rows.filesSameSpec).bare.plain.varTypes Tryz.prog) (ds ++ gs)).all (· ≤ reachBytes) = true := hsz0
  have hval : ∀ (j : Nat) t v, Tryz.f9.params[j]? = some t → args[j]? = some v → Value.okWide Tryz.prog W .any base t v := hval0
  have hW' := hW
  obtain ⟨p, q, hA0, hV0, rfl, _, _⟩ := hW
  have hA : DataW.TrodAll enc Tryz.prog W 0 (fun _ => true) true Tryz.f9.params.toList args.toList ds p := hA0
  rw [Tryz.params9] at hA hval hsz
  obtain ⟨v0, v1, v2, v3, d0, d1, d2, d3, p0, p1, p2, p3, rfl, rfl, rfl, h0, h1, h2, h3⟩ := trodAll_four hA
  obtain ⟨rfl, rfl⟩ := trodVars_none hV0
  simp only [List.append_nil] at hW'
  have hlt : ∀ x ∈ p0 ++ p1 ++ p2 ++ p3, x.block < W.heap.size := fun x hx => by simpa using hW'.lt x hx
  obtain ⟨he, bk, hk⟩ := env_skip hL hsh
  obtain ⟨A, c, es, caps, blind, e0a, hr, hcaps, hwe⟩ := open_store (hval 0 32 v0 rfl rfl) h0
  subst e0a
  obtain ⟨x1, e1a, e1b, -, hw1⟩ := open_int Tryz.underlying30 (hval 1 30 v1 rfl rfl) h1
  subst e1a e1b
  have hx1 : 0 ≤ x1 ∧ x1 < 4294967296 := by
    have h1 : IntKind.u32.min ≤ x1 ∧ x1 ≤ IntKind.u32.max := by simpa [Lit.wf] using hw1
    have h2 : IntKind.u32.min = 0 := by decide
    have h3 : IntKind.u32.max = 4294967295 := by decide
    omega
  obtain ⟨n1, rfl⟩ : ∃ n : Nat, x1 = (n : Int) := ⟨x1.toNat, by omega⟩
  obtain ⟨s2, e2a, e2b, -, -⟩ := open_string Tryz.underlying9 (hval 2 9 v2 rfl rfl) h2
  subst e2a e2b
  obtain ⟨s3, e3a, e3b, -, -⟩ := open_string Tryz.underlying9 (hval 3 9 v3 rfl rfl) h3
  subst e3a e3b
  have hall := List.all_eq_true.1 hsz
  have hes : ∀ e ∈ es, e.path.length ≤ 140737488351232 ∧ e.data.length ≤ 140737488351232 := fun e hm => by
    obtain ⟨m1, m2⟩ := hwe e hm
    have g1 := hall _ (by rw [List.append_nil]; exact mem_each0 m1)
    have g2 := hall _ (by rw [List.append_nil]; exact mem_each0 m2)
    exact ⟨of_decide_eq_true g1, of_decide_eq_true g2⟩
  have hs2 : s2.data.toList.length ≤ 140737488351232 := by
    have := hall s2.data.toList.length (by rw [List.append_nil]; exact (mem_each2 (by rw [DataW.weights]; simp)))
    exact of_decide_eq_true this
  have hs3 : s3.data.toList.length ≤ 140737488351232 := by
    have := hall s3.data.toList.length (by rw [List.append_nil]; exact (mem_each3 (by rw [DataW.weights]; simp)))
    exact of_decide_eq_true this
  have hc := lSame n1 s2.data.toList s3.data.toList A c es caps blind bk W hr he hk hcaps (by omega) hs2 hs3 hes
  simp only [bytes_back] at hc
  refine hc.mono ?_
  rintro e W' ⟨rfl, bel⟩
  have e1 : ((OpenSpec.ofChange Rows.filesSameSpec).at F).fn H ([d0, .lit (.int .u32 (n1 : Int)), .lit (.string s2.data.toList), .lit (.string s3.data.toList)] ++ []) = { results := [.lit (.bool true)], args := [d0, .lit (.int .u32 (n1 : Int)), .lit (.string s2.data.toList), .lit (.string s3.data.toList)] } := rfl
  refine ⟨_, rfl, _, _, _, [], p0 ++ p1 ++ p2 ++ p3, [], hW', ?_, ?_, ?_, bel.frame _, fun h => by cases h⟩
  · rw [e1]; exact trodAll_mk1 (shut_bool Tryz.underlying4 _)
  · rw [e1, List.append_assoc, List.append_assoc]; exact trodAll_mk4 (Below.trod laidOut (by kernel_rfl) (of_decide_eq_true (by kernel_rfl)) h0 bel (fun x hx => hlt x (by simp [hx]))) (Below.trod laidOut (by kernel_rfl) (of_decide_eq_true (by kernel_rfl)) h1 bel (fun x hx => hlt x (by simp [hx]))) (Below.trod laidOut (by kernel_rfl) (of_decide_eq_true (by kernel_rfl)) h2 bel (fun x hx => hlt x (by simp [hx]))) (Below.trod laidOut (by kernel_rfl) (of_decide_eq_true (by kernel_rfl)) h3 bel (fun x hx => hlt x (by simp [hx])))
  · rw [e1]; rfl

theorem filesSame_holds : Rows.FilesSameSaid :=
  OpenClaim.holds_of_cond 9 Tryz.f9 rfl rfl rfl rfl rfl rfl rfl ⟨rfl, rfl, rfl, rfl, rfl⟩ rfl rfl rfl rfl rfl (by kernel_rfl) Tryz.func9 (by kernel_rfl)
    (of_decide_eq_true (by kernel_rfl)) (by unfold Func.isWrapper; rw [if_neg (of_decide_eq_false (by kernel_rfl))]; exact ⟨rfl, rfl⟩)
    (fun os started H enc _ F0 => by rw [OpenClaim.pre_eq_preRow]; exact filesSame_lifted os started H enc F0)
#print axioms filesSame_holds
end Go.Proofs.YtkaoechldamggaaGreatDoor
namespace Go.Proofs.YtkaoechldamggaaGreatDoor
open Go

theorem filesSame_card : Rows.FilesSameCardSaid :=
  Claim7.holds_tied_plain_at .later [] [.data, .handle, .sentinel, .pinned] true (true, "279b2154b93464579006ceb286a2db82dd03ca17af16163be17d2f27eaad64e4") true
    filesSame_holds (fun _ h => by cases h) (by kernel_rfl) (fun _ h => by cases h) filesSame_row_tie rfl ⟨rfl, rfl⟩ (by kernel_rfl) rfl
    (fun f fn hf hfn => by
      obtain rfl : f = 9 := Option.some.inj ((show Tryz.prog.funcNamed "conduit/conduitlaw37.FilesSame" = some 9 by kernel_rfl).symm.trans hf) |>.symm
      obtain rfl : fn = Tryz.f9 := (Option.some.inj (Tryz.func9.symm.trans hfn)).symm
      exact ⟨by kernel_rfl, fun j t ht => by
        rw [Tryz.params9] at ht
        have hm : t ∈ [32, 30, 9, 9] := by
          have := List.mem_of_getElem? (by simpa using ht : [32, 30, 9, 9][j]? = some t)
          exact this
        simp only [List.mem_cons, List.not_mem_nil, or_false] at hm
        rcases hm with rfl | rfl | rfl | rfl
        · exact (show Tryz.prog.wantsStandIn 32 = false by kernel_rfl)
        · exact (show Tryz.prog.wantsStandIn 30 = false by kernel_rfl)
        · exact (show Tryz.prog.wantsStandIn 9 = false by kernel_rfl)
        · exact (show Tryz.prog.wantsStandIn 9 = false by kernel_rfl)⟩)
    (by kernel_rfl)
#print axioms filesSame_card
end Go.Proofs.YtkaoechldamggaaGreatDoor
