/-
  DERIVED. GIVEN WITH THE SEED: THE CARDS: each row of YtkaoechldamggaaGreatDoorRows.lean that lists a variable, with what it lists TIED to the program's text (the seventh form; the later family's looks); each row that meets fmt, with fmt's text TOLD by the authors' own Lean function (tested against real Go, not proved from fmt's source: count such statements apart). THE CARD IS WHAT COUNTS. Prove the row's statement (the work); the ties are given (YtkaoechldamggaaGreatDoorTie.lean); close each card by the builder's one call (the guide's Derived/Test/ToyasCard.lean, 'card_holds'). Laid BY PROGRAM, IN A SANDBOX (cutbox-door.mjs). By AI agents, Wed Nov 11 2026. No macro, syntax, notation, axiom, sorry.
-/
import Derived.Test.YtkaoechldamggaaGreatDoorRows
import GoSem.ClaimSeven
namespace Go.Proofs.YtkaoechldamggaaGreatDoor
namespace Rows

/-- THE TIED CARD OF 'conduitlaw37.FilesMatches'. -/
def filesMatchesCard : Claim7 := { stood := { row := filesMatchesRow, standIns := [], harness := (true, "279b2154b93464579006ceb286a2db82dd03ca17af16163be17d2f27eaad64e4"), looks := true }, kinds := [], alts := [], laidByText := true, laidKinds := [.data, .handle, .pinned], laidTests := true, laidLooks := .later }
def FilesMatchesCardSaid : Prop := Claim7.holds Tryz.pinned (.plain (OpenSpec.ofChange filesMatchesSpec)) filesMatchesCard

/-- THE TIED CARD OF 'conduitlaw37.FilesGlobs'. -/
def filesGlobsCard : Claim7 := { stood := { row := filesGlobsRow, standIns := [], harness := (true, "279b2154b93464579006ceb286a2db82dd03ca17af16163be17d2f27eaad64e4"), looks := true }, kinds := [], alts := [], laidByText := true, laidKinds := [.data, .handle, .pinned], laidTests := true, laidLooks := .later }
def FilesGlobsCardSaid : Prop := Claim7.holds Tryz.pinned (.plain (OpenSpec.ofChange filesGlobsSpec)) filesGlobsCard

/-- THE TIED CARD OF 'conduitlaw37.FilesAsks'. -/
def filesAsksCard : Claim7 := { stood := { row := filesAsksRow, standIns := [], harness := (true, "279b2154b93464579006ceb286a2db82dd03ca17af16163be17d2f27eaad64e4"), looks := true }, kinds := [], alts := [], laidByText := true, laidKinds := [.data, .handle, .pinned], laidTests := true, laidLooks := .later }
def FilesAsksCardSaid : Prop := Claim7.holds Tryz.pinned (.plain (OpenSpec.ofChange filesAsksSpec)) filesAsksCard

/-- THE TIED CARD OF 'conduitlaw37.FilesValid'. -/
def filesValidCard : Claim7 := { stood := { row := filesValidRow, standIns := [], harness := (true, "279b2154b93464579006ceb286a2db82dd03ca17af16163be17d2f27eaad64e4"), looks := true }, kinds := [], alts := [], laidByText := true, laidKinds := [.data, .handle, .pinned], laidTests := true, laidLooks := .later }
def FilesValidCardSaid : Prop := Claim7.holds Tryz.pinned (.plain (OpenSpec.ofChange filesValidSpec)) filesValidCard

/-- THE TIED CARD OF 'conduitlaw37.FilesSubs'. -/
def filesSubsCard : Claim7 := { stood := { row := filesSubsRow, standIns := [], harness := (true, "279b2154b93464579006ceb286a2db82dd03ca17af16163be17d2f27eaad64e4"), looks := true }, kinds := [], alts := [], laidByText := true, laidKinds := [.data, .handle, .pinned], laidTests := true, laidLooks := .later }
def FilesSubsCardSaid : Prop := Claim7.holds Tryz.pinned (.plain (OpenSpec.ofChange filesSubsSpec)) filesSubsCard

/-- THE TIED CARD OF 'conduitlaw37.FilesWalks'. -/
def filesWalksCard : Claim7 := { stood := { row := filesWalksRow, standIns := [], harness := (true, "279b2154b93464579006ceb286a2db82dd03ca17af16163be17d2f27eaad64e4"), looks := true }, kinds := [], alts := [], laidByText := true, laidKinds := [.data, .handle, .sentinel, .pinned], laidTests := true, laidLooks := .later }
def FilesWalksCardSaid : Prop := Claim7.holds Tryz.pinned (.plain (OpenSpec.ofChange filesWalksSpec)) filesWalksCard

/-- THE TIED CARD OF 'conduitlaw37.FilesSame'. -/
def filesSameCard : Claim7 := { stood := { row := filesSameRow, standIns := [], harness := (true, "279b2154b93464579006ceb286a2db82dd03ca17af16163be17d2f27eaad64e4"), looks := true }, kinds := [], alts := [], laidByText := true, laidKinds := [.data, .handle, .sentinel, .pinned], laidTests := true, laidLooks := .later }
def FilesSameCardSaid : Prop := Claim7.holds Tryz.pinned (.plain (OpenSpec.ofChange filesSameSpec)) filesSameCard

/-- THE TIED CARD OF 'conduitlaw37.FilesAll'. -/
def filesAllCard : Claim7 := { stood := { row := filesAllRow, standIns := [], harness := (true, "279b2154b93464579006ceb286a2db82dd03ca17af16163be17d2f27eaad64e4"), looks := true }, kinds := [], alts := [], laidByText := true, laidKinds := [.data, .handle, .sentinel, .pinned], laidTests := true, laidLooks := .later }
def FilesAllCardSaid : Prop := Claim7.holds Tryz.pinned (.plain (OpenSpec.ofChange filesAllSpec)) filesAllCard

/-- THE SECOND FORM's CARD OF 'conduitlaw37.FilesMatches'. -/
def filesMatchesUptoCard : Claim7 := { stood := { row := filesMatchesUptoRow, standIns := [], harness := (true, "279b2154b93464579006ceb286a2db82dd03ca17af16163be17d2f27eaad64e4"), looks := true }, kinds := [], alts := [], laidByText := true, laidKinds := [.data, .handle, .pinned], laidTests := true, laidLooks := .later }
def FilesMatchesUptoCardSaid : Prop := Claim7.holds Tryz.pinned (.plain (OpenSpec.upto filesMatchesSpec)) filesMatchesUptoCard

/-- THE SECOND FORM's CARD OF 'conduitlaw37.FilesGlobs'. -/
def filesGlobsUptoCard : Claim7 := { stood := { row := filesGlobsUptoRow, standIns := [], harness := (true, "279b2154b93464579006ceb286a2db82dd03ca17af16163be17d2f27eaad64e4"), looks := true }, kinds := [], alts := [], laidByText := true, laidKinds := [.data, .handle, .pinned], laidTests := true, laidLooks := .later }
def FilesGlobsUptoCardSaid : Prop := Claim7.holds Tryz.pinned (.plain (OpenSpec.upto filesGlobsSpec)) filesGlobsUptoCard

/-- THE SECOND FORM's CARD OF 'conduitlaw37.FilesAsks'. -/
def filesAsksUptoCard : Claim7 := { stood := { row := filesAsksUptoRow, standIns := [], harness := (true, "279b2154b93464579006ceb286a2db82dd03ca17af16163be17d2f27eaad64e4"), looks := true }, kinds := [], alts := [], laidByText := true, laidKinds := [.data, .handle, .pinned], laidTests := true, laidLooks := .later }
def FilesAsksUptoCardSaid : Prop := Claim7.holds Tryz.pinned (.plain (OpenSpec.upto filesAsksSpec)) filesAsksUptoCard

/-- THE SECOND FORM's CARD OF 'conduitlaw37.FilesValid'. -/
def filesValidUptoCard : Claim7 := { stood := { row := filesValidUptoRow, standIns := [], harness := (true, "279b2154b93464579006ceb286a2db82dd03ca17af16163be17d2f27eaad64e4"), looks := true }, kinds := [], alts := [], laidByText := true, laidKinds := [.data, .handle, .pinned], laidTests := true, laidLooks := .later }
def FilesValidUptoCardSaid : Prop := Claim7.holds Tryz.pinned (.plain (OpenSpec.upto filesValidSpec)) filesValidUptoCard

/-- THE SECOND FORM's CARD OF 'conduitlaw37.FilesSubs'. -/
def filesSubsUptoCard : Claim7 := { stood := { row := filesSubsUptoRow, standIns := [], harness := (true, "279b2154b93464579006ceb286a2db82dd03ca17af16163be17d2f27eaad64e4"), looks := true }, kinds := [], alts := [], laidByText := true, laidKinds := [.data, .handle, .pinned], laidTests := true, laidLooks := .later }
def FilesSubsUptoCardSaid : Prop := Claim7.holds Tryz.pinned (.plain (OpenSpec.upto filesSubsSpec)) filesSubsUptoCard

/-- THE SECOND FORM's CARD OF 'conduitlaw37.FilesWalks'. -/
def filesWalksUptoCard : Claim7 := { stood := { row := filesWalksUptoRow, standIns := [], harness := (true, "279b2154b93464579006ceb286a2db82dd03ca17af16163be17d2f27eaad64e4"), looks := true }, kinds := [], alts := [], laidByText := true, laidKinds := [.data, .handle, .sentinel, .pinned], laidTests := true, laidLooks := .later }
def FilesWalksUptoCardSaid : Prop := Claim7.holds Tryz.pinned (.plain (OpenSpec.upto filesWalksSpec)) filesWalksUptoCard

/-- THE SECOND FORM's CARD OF 'conduitlaw37.FilesSame'. -/
def filesSameUptoCard : Claim7 := { stood := { row := filesSameUptoRow, standIns := [], harness := (true, "279b2154b93464579006ceb286a2db82dd03ca17af16163be17d2f27eaad64e4"), looks := true }, kinds := [], alts := [], laidByText := true, laidKinds := [.data, .handle, .sentinel, .pinned], laidTests := true, laidLooks := .later }
def FilesSameUptoCardSaid : Prop := Claim7.holds Tryz.pinned (.plain (OpenSpec.upto filesSameSpec)) filesSameUptoCard

/-- THE SECOND FORM's CARD OF 'conduitlaw37.FilesAll'. -/
def filesAllUptoCard : Claim7 := { stood := { row := filesAllUptoRow, standIns := [], harness := (true, "279b2154b93464579006ceb286a2db82dd03ca17af16163be17d2f27eaad64e4"), looks := true }, kinds := [], alts := [], laidByText := true, laidKinds := [.data, .handle, .sentinel, .pinned], laidTests := true, laidLooks := .later }
def FilesAllUptoCardSaid : Prop := Claim7.holds Tryz.pinned (.plain (OpenSpec.upto filesAllSpec)) filesAllUptoCard
end Rows
end Go.Proofs.YtkaoechldamggaaGreatDoor
