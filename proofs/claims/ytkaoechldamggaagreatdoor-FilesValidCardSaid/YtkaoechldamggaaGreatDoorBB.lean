/- FilesValid: for every path and every store the law returns true: the tied card, proved. -/
import Derived.Test.YtkaoechldamggaaGreatDoorBA
import Derived.Test.YtkaoechldamggaaGreatDoorTie
import Derived.Test.YtkaoechldamggaaGreatDoorCards
import Derived.SevenTiedAt
namespace Go.Proofs.YtkaoechldamggaaGreatDoor
open Go

theorem filesValid_card : Rows.FilesValidCardSaid :=
  Claim7.holds_tied_plain_at .later [] [.data, .handle, .pinned] true (true, "279b2154b93464579006ceb286a2db82dd03ca17af16163be17d2f27eaad64e4") true
    filesValid_holds (fun _ h => by cases h) (by kernel_rfl) (fun _ h => by cases h) filesValid_row_tie rfl ⟨rfl, rfl⟩ (by kernel_rfl) rfl
    (fun f fn hf hfn => by
      obtain rfl : f = 6 := Option.some.inj ((show Tryz.prog.funcNamed "conduit/conduitlaw37.FilesValid" = some 6 by kernel_rfl).symm.trans hf) |>.symm
      obtain rfl : fn = Tryz.f6 := (Option.some.inj (Tryz.func6.symm.trans hfn)).symm
      exact ⟨by kernel_rfl, fun j t ht => by
        rw [Tryz.params6] at ht
        have hm : t ∈ [9, 32] := by
          have := List.mem_of_getElem? (by simpa using ht : [9, 32][j]? = some t)
          exact this
        simp only [List.mem_cons, List.not_mem_nil, or_false] at hm
        rcases hm with rfl | rfl
        · exact (show Tryz.prog.wantsStandIn 9 = false by kernel_rfl)
        · exact (show Tryz.prog.wantsStandIn 32 = false by kernel_rfl)⟩)
    (by kernel_rfl)
#print axioms filesValid_card
end Go.Proofs.YtkaoechldamggaaGreatDoor
