/-
  NARROWER THAN 'FOR EVERY INPUT', by the rows' own cells (each row's printed sentence says how): FilesMatches: laid · FilesGlobs: laid · FilesAsks: laid · FilesValid: laid · FilesSubs: laid · FilesWalks: laid · FilesSame: laid · FilesAll: laid.
  DERIVED. THE GIVEN ROWS OF THIS SEAT. 8 by the template 'for every input the law returns true; each argument reads behind the call as it read before'; 0 by the template 'total and deterministic' (their statements: YtkaoechldamggaaGreatDoorTotals.lean).
  GIVEN WITH THE SEED: the statements are not yours to turn. If you find one false, say at which input.
  Laid BY PROGRAM, IN A SANDBOX (cutbox-rows.mjs): the forced cells as the released guide's own fill.sh prints them over the translation b0cbacff536bf78e… (all of the seat's roots in one cut). By AI agents, Wed Nov 11 2026. No macro, syntax, notation, axiom, sorry.
-/
import Derived.Test.YtkaoechldamggaaGreatDoorChecked
import GoSem.PinnedTables
import GoSem.Claim
import GoSem.ClaimJoined
import GoSem.ClaimMapViews
import Derived.JoinedTies
import Derived.KernelRfl
namespace Go.Proofs.YtkaoechldamggaaGreatDoor
/- THE CELL 'sum', in the pinned program and in every row, IS THE sha256 OF THE DUMP (.gsa) THAT YtkaoechldamggaaGreatDoorProg.lean LOADS. Nothing in Lean hashes anything: it is a label: what it is worth is what the hold of that sum in a sandbox is worth. -/
noncomputable def Tryz.pinned : Pinned := { name := "ytkaoechldamggaagreatdoor", sum := "b0cbacff536bf78eaebd777c060acc94ba49ade9b05108a4dfe56a538aef3e30", checked := Tryz.checked }
namespace Rows
def none {H : Type} : Left H := { results := [], args := [] }

/- WHAT THE LISTED PACKAGE-LEVEL VARIABLES READ AS WHEN THE CALL BEGINS. Each datum BY PROGRAM (the guide's laid-datum.mjs) off the statement by which the dump's own 'gosem.cut.vars' lays the variable. In a bare row this is a premise. The card (YtkaoechldamggaaGreatDoorCards.lean) ties it to the program's text. -/
def laid_unicode_utf8_acceptRanges {H : Type} : DataW H := .agg [.agg [.lit (.int .u8 128), .lit (.int .u8 191)], .agg [.lit (.int .u8 160), .lit (.int .u8 191)], .agg [.lit (.int .u8 128), .lit (.int .u8 159)], .agg [.lit (.int .u8 144), .lit (.int .u8 191)], .agg [.lit (.int .u8 128), .lit (.int .u8 143)], .agg [.lit (.int .u8 0), .lit (.int .u8 0)], .agg [.lit (.int .u8 0), .lit (.int .u8 0)], .agg [.lit (.int .u8 0), .lit (.int .u8 0)], .agg [.lit (.int .u8 0), .lit (.int .u8 0)], .agg [.lit (.int .u8 0), .lit (.int .u8 0)], .agg [.lit (.int .u8 0), .lit (.int .u8 0)], .agg [.lit (.int .u8 0), .lit (.int .u8 0)], .agg [.lit (.int .u8 0), .lit (.int .u8 0)], .agg [.lit (.int .u8 0), .lit (.int .u8 0)], .agg [.lit (.int .u8 0), .lit (.int .u8 0)], .agg [.lit (.int .u8 0), .lit (.int .u8 0)]]
def laid_errors_errorType {H : Type} : DataW H := .iface "internal/reflectlite.rtype" (.agg [.ptr (.lit (.string [101, 114, 114, 111, 114]))])
/-- One of Go's own tables, pinned by name: the form's constant. -/
def laid_unicode_utf8_first : DataW Unit := Go.Pinned.utf8First
def laid_conduit_files_errSkip {H : Type} : DataW H := .iface "*errors.errorString" (.ptr (.agg [.lit (.string [115, 107, 105, 112])]))

/-- 'conduitlaw37.FilesMatches': WHATEVER THE INPUT: true; the input reads as it did. -/
def filesMatchesSpec : ChangeSpec := { name := "filesMatches", fn := fun _ => fun
  | [d1, d2] => { results := [.lit (.bool true)], args := [d1, d2] }
  | _ => none }
def filesMatchesRow : OpenClaim := { program := "ytkaoechldamggaagreatdoor", sum := "b0cbacff536bf78eaebd777c060acc94ba49ade9b05108a4dfe56a538aef3e30", func := "conduit/conduitlaw37.FilesMatches", spec := "filesMatches", inPlace := ["internal/bytealg.CountString", "internal/bytealg.IndexByteString", "internal/bytealg.IndexString", "internal/reflectlite.ValueOf", "(internal/reflectlite.Value).Type", "(internal/reflectlite.Value).IsNil", "internal/reflectlite.TypeOf", "(internal/reflectlite.Value).Elem", "(internal/reflectlite.Value).Set"], unfollowed := true, recurses := true, named := ["unicode/utf8.first", "unicode/utf8.acceptRanges", "internal/bytealg.MaxLen", "errors.errorType"], apart := false, laid := [("unicode/utf8.acceptRanges", laid_unicode_utf8_acceptRanges), ("errors.errorType", laid_errors_errorType), ("unicode/utf8.first", laid_unicode_utf8_first)] }
def FilesMatchesSaid : Prop := filesMatchesRow.holds Tryz.pinned (OpenSpec.ofChange filesMatchesSpec)

/-- ITS FALSE NEIGHBOUR: 'it returns false'. Refute it at one input. -/
def filesMatchesWrong : ChangeSpec := { name := "filesMatches", fn := fun _ => fun
  | [d1, d2] => { results := [.lit (.bool false)], args := [d1, d2] }
  | _ => none }
def FilesMatchesWrongFalsely : Prop := filesMatchesRow.holds Tryz.pinned (OpenSpec.ofChange filesMatchesWrong)

/-- 'conduitlaw37.FilesGlobs': WHATEVER THE INPUT: true; the input reads as it did. -/
def filesGlobsSpec : ChangeSpec := { name := "filesGlobs", fn := fun _ => fun
  | [d1, d2] => { results := [.lit (.bool true)], args := [d1, d2] }
  | _ => none }
def filesGlobsRow : OpenClaim := { program := "ytkaoechldamggaagreatdoor", sum := "b0cbacff536bf78eaebd777c060acc94ba49ade9b05108a4dfe56a538aef3e30", func := "conduit/conduitlaw37.FilesGlobs", spec := "filesGlobs", inPlace := ["internal/bytealg.CountString", "internal/bytealg.IndexByteString", "internal/bytealg.IndexString", "internal/reflectlite.ValueOf", "(internal/reflectlite.Value).Type", "(internal/reflectlite.Value).IsNil", "internal/reflectlite.TypeOf", "(internal/reflectlite.Value).Elem", "(internal/reflectlite.Value).Set"], unfollowed := true, recurses := true, named := ["unicode/utf8.first", "unicode/utf8.acceptRanges", "internal/bytealg.MaxLen", "errors.errorType"], apart := false, laid := [("unicode/utf8.acceptRanges", laid_unicode_utf8_acceptRanges), ("errors.errorType", laid_errors_errorType), ("unicode/utf8.first", laid_unicode_utf8_first)] }
def FilesGlobsSaid : Prop := filesGlobsRow.holds Tryz.pinned (OpenSpec.ofChange filesGlobsSpec)

/-- ITS FALSE NEIGHBOUR: 'it returns false'. Refute it at one input. -/
def filesGlobsWrong : ChangeSpec := { name := "filesGlobs", fn := fun _ => fun
  | [d1, d2] => { results := [.lit (.bool false)], args := [d1, d2] }
  | _ => none }
def FilesGlobsWrongFalsely : Prop := filesGlobsRow.holds Tryz.pinned (OpenSpec.ofChange filesGlobsWrong)

/-- 'conduitlaw37.FilesAsks': WHATEVER THE INPUT: true; the input reads as it did. -/
def filesAsksSpec : ChangeSpec := { name := "filesAsks", fn := fun _ => fun
  | [d1, d2] => { results := [.lit (.bool true)], args := [d1, d2] }
  | _ => none }
def filesAsksRow : OpenClaim := { program := "ytkaoechldamggaagreatdoor", sum := "b0cbacff536bf78eaebd777c060acc94ba49ade9b05108a4dfe56a538aef3e30", func := "conduit/conduitlaw37.FilesAsks", spec := "filesAsks", inPlace := ["internal/bytealg.CountString", "internal/bytealg.IndexByteString", "internal/bytealg.IndexString", "internal/reflectlite.ValueOf", "(internal/reflectlite.Value).Type", "(internal/reflectlite.Value).IsNil", "internal/reflectlite.TypeOf", "(internal/reflectlite.Value).Elem", "(internal/reflectlite.Value).Set"], unfollowed := true, recurses := true, named := ["unicode/utf8.first", "unicode/utf8.acceptRanges", "internal/bytealg.MaxLen", "errors.errorType"], apart := false, laid := [("unicode/utf8.acceptRanges", laid_unicode_utf8_acceptRanges), ("errors.errorType", laid_errors_errorType), ("unicode/utf8.first", laid_unicode_utf8_first)] }
def FilesAsksSaid : Prop := filesAsksRow.holds Tryz.pinned (OpenSpec.ofChange filesAsksSpec)

/-- ITS FALSE NEIGHBOUR: 'it returns false'. Refute it at one input. -/
def filesAsksWrong : ChangeSpec := { name := "filesAsks", fn := fun _ => fun
  | [d1, d2] => { results := [.lit (.bool false)], args := [d1, d2] }
  | _ => none }
def FilesAsksWrongFalsely : Prop := filesAsksRow.holds Tryz.pinned (OpenSpec.ofChange filesAsksWrong)

/-- 'conduitlaw37.FilesValid': WHATEVER THE INPUT: true; the input reads as it did. -/
def filesValidSpec : ChangeSpec := { name := "filesValid", fn := fun _ => fun
  | [d1, d2] => { results := [.lit (.bool true)], args := [d1, d2] }
  | _ => none }
def filesValidRow : OpenClaim := { program := "ytkaoechldamggaagreatdoor", sum := "b0cbacff536bf78eaebd777c060acc94ba49ade9b05108a4dfe56a538aef3e30", func := "conduit/conduitlaw37.FilesValid", spec := "filesValid", inPlace := ["internal/bytealg.CountString", "internal/bytealg.IndexByteString", "internal/bytealg.IndexString", "internal/reflectlite.ValueOf", "(internal/reflectlite.Value).Type", "(internal/reflectlite.Value).IsNil", "internal/reflectlite.TypeOf", "(internal/reflectlite.Value).Elem", "(internal/reflectlite.Value).Set"], unfollowed := true, recurses := true, named := ["unicode/utf8.first", "unicode/utf8.acceptRanges", "internal/bytealg.MaxLen", "errors.errorType"], apart := false, laid := [("unicode/utf8.acceptRanges", laid_unicode_utf8_acceptRanges), ("errors.errorType", laid_errors_errorType), ("unicode/utf8.first", laid_unicode_utf8_first)] }
def FilesValidSaid : Prop := filesValidRow.holds Tryz.pinned (OpenSpec.ofChange filesValidSpec)

/-- ITS FALSE NEIGHBOUR: 'it returns false'. Refute it at one input. -/
def filesValidWrong : ChangeSpec := { name := "filesValid", fn := fun _ => fun
  | [d1, d2] => { results := [.lit (.bool false)], args := [d1, d2] }
  | _ => none }
def FilesValidWrongFalsely : Prop := filesValidRow.holds Tryz.pinned (OpenSpec.ofChange filesValidWrong)

/-- 'conduitlaw37.FilesSubs': WHATEVER THE INPUT: true; the input reads as it did. -/
def filesSubsSpec : ChangeSpec := { name := "filesSubs", fn := fun _ => fun
  | [d1, d2, d3] => { results := [.lit (.bool true)], args := [d1, d2, d3] }
  | _ => none }
def filesSubsRow : OpenClaim := { program := "ytkaoechldamggaagreatdoor", sum := "b0cbacff536bf78eaebd777c060acc94ba49ade9b05108a4dfe56a538aef3e30", func := "conduit/conduitlaw37.FilesSubs", spec := "filesSubs", inPlace := ["internal/bytealg.CountString", "internal/bytealg.IndexByteString", "internal/bytealg.IndexString", "internal/reflectlite.ValueOf", "(internal/reflectlite.Value).Type", "(internal/reflectlite.Value).IsNil", "internal/reflectlite.TypeOf", "(internal/reflectlite.Value).Elem", "(internal/reflectlite.Value).Set"], unfollowed := true, recurses := true, named := ["unicode/utf8.first", "unicode/utf8.acceptRanges", "internal/bytealg.MaxLen", "errors.errorType"], apart := false, laid := [("unicode/utf8.acceptRanges", laid_unicode_utf8_acceptRanges), ("errors.errorType", laid_errors_errorType), ("unicode/utf8.first", laid_unicode_utf8_first)] }
def FilesSubsSaid : Prop := filesSubsRow.holds Tryz.pinned (OpenSpec.ofChange filesSubsSpec)

/-- ITS FALSE NEIGHBOUR: 'it returns false'. Refute it at one input. -/
def filesSubsWrong : ChangeSpec := { name := "filesSubs", fn := fun _ => fun
  | [d1, d2, d3] => { results := [.lit (.bool false)], args := [d1, d2, d3] }
  | _ => none }
def FilesSubsWrongFalsely : Prop := filesSubsRow.holds Tryz.pinned (OpenSpec.ofChange filesSubsWrong)

/-- 'conduitlaw37.FilesWalks': WHATEVER THE INPUT: true; the input reads as it did. -/
def filesWalksSpec : ChangeSpec := { name := "filesWalks", fn := fun _ => fun
  | [d1, d2, d3] => { results := [.lit (.bool true)], args := [d1, d2, d3] }
  | _ => none }
def filesWalksRow : OpenClaim := { program := "ytkaoechldamggaagreatdoor", sum := "b0cbacff536bf78eaebd777c060acc94ba49ade9b05108a4dfe56a538aef3e30", func := "conduit/conduitlaw37.FilesWalks", spec := "filesWalks", inPlace := ["internal/bytealg.CountString", "internal/bytealg.IndexByteString", "internal/bytealg.IndexString", "internal/reflectlite.ValueOf", "(internal/reflectlite.Value).Type", "(internal/reflectlite.Value).IsNil", "internal/reflectlite.TypeOf", "(internal/reflectlite.Value).Elem", "(internal/reflectlite.Value).Set"], unfollowed := true, recurses := true, named := ["unicode/utf8.first", "unicode/utf8.acceptRanges", "internal/bytealg.MaxLen", "errors.errorType", "conduit/files.errSkip"], apart := false, laid := [("unicode/utf8.acceptRanges", laid_unicode_utf8_acceptRanges), ("errors.errorType", laid_errors_errorType), ("conduit/files.errSkip", laid_conduit_files_errSkip), ("unicode/utf8.first", laid_unicode_utf8_first)] }
def FilesWalksSaid : Prop := filesWalksRow.holds Tryz.pinned (OpenSpec.ofChange filesWalksSpec)

/-- ITS FALSE NEIGHBOUR: 'it returns false'. Refute it at one input. -/
def filesWalksWrong : ChangeSpec := { name := "filesWalks", fn := fun _ => fun
  | [d1, d2, d3] => { results := [.lit (.bool false)], args := [d1, d2, d3] }
  | _ => none }
def FilesWalksWrongFalsely : Prop := filesWalksRow.holds Tryz.pinned (OpenSpec.ofChange filesWalksWrong)

/-- 'conduitlaw37.FilesSame': WHATEVER THE INPUT: true; the input reads as it did. -/
def filesSameSpec : ChangeSpec := { name := "filesSame", fn := fun _ => fun
  | [d1, d2, d3, d4] => { results := [.lit (.bool true)], args := [d1, d2, d3, d4] }
  | _ => none }
def filesSameRow : OpenClaim := { program := "ytkaoechldamggaagreatdoor", sum := "b0cbacff536bf78eaebd777c060acc94ba49ade9b05108a4dfe56a538aef3e30", func := "conduit/conduitlaw37.FilesSame", spec := "filesSame", inPlace := ["internal/bytealg.CountString", "internal/bytealg.IndexByteString", "internal/bytealg.IndexString", "internal/reflectlite.ValueOf", "(internal/reflectlite.Value).Type", "(internal/reflectlite.Value).IsNil", "internal/reflectlite.TypeOf", "(internal/reflectlite.Value).Elem", "(internal/reflectlite.Value).Set"], unfollowed := true, recurses := true, named := ["unicode/utf8.first", "unicode/utf8.acceptRanges", "internal/bytealg.MaxLen", "errors.errorType", "conduit/files.errSkip"], apart := false, laid := [("unicode/utf8.acceptRanges", laid_unicode_utf8_acceptRanges), ("errors.errorType", laid_errors_errorType), ("conduit/files.errSkip", laid_conduit_files_errSkip), ("unicode/utf8.first", laid_unicode_utf8_first)] }
def FilesSameSaid : Prop := filesSameRow.holds Tryz.pinned (OpenSpec.ofChange filesSameSpec)

/-- ITS FALSE NEIGHBOUR: 'it returns false'. Refute it at one input. -/
def filesSameWrong : ChangeSpec := { name := "filesSame", fn := fun _ => fun
  | [d1, d2, d3, d4] => { results := [.lit (.bool false)], args := [d1, d2, d3, d4] }
  | _ => none }
def FilesSameWrongFalsely : Prop := filesSameRow.holds Tryz.pinned (OpenSpec.ofChange filesSameWrong)

/-- 'conduitlaw37.FilesAll': WHATEVER THE INPUT: true; the input reads as it did. -/
def filesAllSpec : ChangeSpec := { name := "filesAll", fn := fun _ => fun
  | [d] => { results := [.lit (.bool true)], args := [d] }
  | _ => none }
def filesAllRow : OpenClaim := { program := "ytkaoechldamggaagreatdoor", sum := "b0cbacff536bf78eaebd777c060acc94ba49ade9b05108a4dfe56a538aef3e30", func := "conduit/conduitlaw37.FilesAll", spec := "filesAll", inPlace := ["internal/bytealg.CountString", "internal/bytealg.IndexByteString", "internal/bytealg.IndexString", "internal/reflectlite.ValueOf", "(internal/reflectlite.Value).Type", "(internal/reflectlite.Value).IsNil", "internal/reflectlite.TypeOf", "(internal/reflectlite.Value).Elem", "(internal/reflectlite.Value).Set"], unfollowed := true, recurses := true, named := ["unicode/utf8.first", "unicode/utf8.acceptRanges", "internal/bytealg.MaxLen", "errors.errorType", "conduit/files.errSkip"], apart := false, laid := [("unicode/utf8.acceptRanges", laid_unicode_utf8_acceptRanges), ("errors.errorType", laid_errors_errorType), ("conduit/files.errSkip", laid_conduit_files_errSkip), ("unicode/utf8.first", laid_unicode_utf8_first)] }
def FilesAllSaid : Prop := filesAllRow.holds Tryz.pinned (OpenSpec.ofChange filesAllSpec)

/-- ITS FALSE NEIGHBOUR: 'it returns false'. Refute it at one input. -/
def filesAllWrong : ChangeSpec := { name := "filesAll", fn := fun _ => fun
  | [d] => { results := [.lit (.bool false)], args := [d] }
  | _ => none }
def FilesAllWrongFalsely : Prop := filesAllRow.holds Tryz.pinned (OpenSpec.ofChange filesAllWrong)

/- THE SECOND FORM. 'bulk': how many values and letters a reading holds, each counted each time it is reached (what is shared counts as often as it is met; a slice's spare places count too). A statement '..UptoSaid' is the law's where the arguments, and the package variables that the reading takes, are together of bulk at most 1048576: NARROWER than '..Said'. Prove '..Said' where nothing that the law and all that it calls make is longer than what came in: it says more and counts as full. Else prove '..UptoSaid'. A law counts once. -/
mutual
def uptoBulk {H : Type} : DataW H → Nat
  | .lit (.string bytes) => bytes.length + 1
  | .lit _ => 1
  | .nil => 1
  | .ptr d => uptoBulk d + 1
  | .slice elems spare => uptoBulkAll elems + uptoBulkAll spare + 1
  | .agg parts => uptoBulkAll parts + 1
  | .iface _ d => uptoBulk d + 1
  | .map entries => uptoBulkEntries entries + 1
  | .held _ => 1
def uptoBulkAll {H : Type} : List (DataW H) → Nat
  | [] => 0
  | d :: r => uptoBulk d + uptoBulkAll r
def uptoBulkEntries {H : Type} : List (Lit × DataW H) → Nat
  | [] => 0
  | x :: r => uptoBulkEntry x + uptoBulkEntries r
def uptoBulkEntry {H : Type} : Lit × DataW H → Nat
  | (.string bytes, d) => bytes.length + uptoBulk d + 1
  | (_, d) => uptoBulk d + 1
 end
def uptoSmall : (H : Type) → List (DataW H) → Bool := fun _ ds => decide (uptoBulkAll ds ≤ 1048576)
def OpenSpec.upto (s : _root_.Go.ChangeSpec) : _root_.Go.OpenSpec := { _root_.Go.OpenSpec.ofChange s with cond := some uptoSmall }

/-- 'conduitlaw37.FilesMatches', WHERE WHAT IT READS IS OF BULK AT MOST 1048576: true; the input reads as it did. -/
def filesMatchesUptoRow : OpenClaim := { program := "ytkaoechldamggaagreatdoor", sum := "b0cbacff536bf78eaebd777c060acc94ba49ade9b05108a4dfe56a538aef3e30", func := "conduit/conduitlaw37.FilesMatches", spec := "filesMatches", inPlace := ["internal/bytealg.CountString", "internal/bytealg.IndexByteString", "internal/bytealg.IndexString", "internal/reflectlite.ValueOf", "(internal/reflectlite.Value).Type", "(internal/reflectlite.Value).IsNil", "internal/reflectlite.TypeOf", "(internal/reflectlite.Value).Elem", "(internal/reflectlite.Value).Set"], unfollowed := true, recurses := true, named := ["unicode/utf8.first", "unicode/utf8.acceptRanges", "internal/bytealg.MaxLen", "errors.errorType"], apart := false, laid := [("unicode/utf8.acceptRanges", laid_unicode_utf8_acceptRanges), ("errors.errorType", laid_errors_errorType), ("unicode/utf8.first", laid_unicode_utf8_first)], narrowed := true }
def FilesMatchesUptoSaid : Prop := filesMatchesUptoRow.holds Tryz.pinned (OpenSpec.upto filesMatchesSpec)

/-- 'conduitlaw37.FilesGlobs', WHERE WHAT IT READS IS OF BULK AT MOST 1048576: true; the input reads as it did. -/
def filesGlobsUptoRow : OpenClaim := { program := "ytkaoechldamggaagreatdoor", sum := "b0cbacff536bf78eaebd777c060acc94ba49ade9b05108a4dfe56a538aef3e30", func := "conduit/conduitlaw37.FilesGlobs", spec := "filesGlobs", inPlace := ["internal/bytealg.CountString", "internal/bytealg.IndexByteString", "internal/bytealg.IndexString", "internal/reflectlite.ValueOf", "(internal/reflectlite.Value).Type", "(internal/reflectlite.Value).IsNil", "internal/reflectlite.TypeOf", "(internal/reflectlite.Value).Elem", "(internal/reflectlite.Value).Set"], unfollowed := true, recurses := true, named := ["unicode/utf8.first", "unicode/utf8.acceptRanges", "internal/bytealg.MaxLen", "errors.errorType"], apart := false, laid := [("unicode/utf8.acceptRanges", laid_unicode_utf8_acceptRanges), ("errors.errorType", laid_errors_errorType), ("unicode/utf8.first", laid_unicode_utf8_first)], narrowed := true }
def FilesGlobsUptoSaid : Prop := filesGlobsUptoRow.holds Tryz.pinned (OpenSpec.upto filesGlobsSpec)

/-- 'conduitlaw37.FilesAsks', WHERE WHAT IT READS IS OF BULK AT MOST 1048576: true; the input reads as it did. -/
def filesAsksUptoRow : OpenClaim := { program := "ytkaoechldamggaagreatdoor", sum := "b0cbacff536bf78eaebd777c060acc94ba49ade9b05108a4dfe56a538aef3e30", func := "conduit/conduitlaw37.FilesAsks", spec := "filesAsks", inPlace := ["internal/bytealg.CountString", "internal/bytealg.IndexByteString", "internal/bytealg.IndexString", "internal/reflectlite.ValueOf", "(internal/reflectlite.Value).Type", "(internal/reflectlite.Value).IsNil", "internal/reflectlite.TypeOf", "(internal/reflectlite.Value).Elem", "(internal/reflectlite.Value).Set"], unfollowed := true, recurses := true, named := ["unicode/utf8.first", "unicode/utf8.acceptRanges", "internal/bytealg.MaxLen", "errors.errorType"], apart := false, laid := [("unicode/utf8.acceptRanges", laid_unicode_utf8_acceptRanges), ("errors.errorType", laid_errors_errorType), ("unicode/utf8.first", laid_unicode_utf8_first)], narrowed := true }
def FilesAsksUptoSaid : Prop := filesAsksUptoRow.holds Tryz.pinned (OpenSpec.upto filesAsksSpec)

/-- 'conduitlaw37.FilesValid', WHERE WHAT IT READS IS OF BULK AT MOST 1048576: true; the input reads as it did. -/
def filesValidUptoRow : OpenClaim := { program := "ytkaoechldamggaagreatdoor", sum := "b0cbacff536bf78eaebd777c060acc94ba49ade9b05108a4dfe56a538aef3e30", func := "conduit/conduitlaw37.FilesValid", spec := "filesValid", inPlace := ["internal/bytealg.CountString", "internal/bytealg.IndexByteString", "internal/bytealg.IndexString", "internal/reflectlite.ValueOf", "(internal/reflectlite.Value).Type", "(internal/reflectlite.Value).IsNil", "internal/reflectlite.TypeOf", "(internal/reflectlite.Value).Elem", "(internal/reflectlite.Value).Set"], unfollowed := true, recurses := true, named := ["unicode/utf8.first", "unicode/utf8.acceptRanges", "internal/bytealg.MaxLen", "errors.errorType"], apart := false, laid := [("unicode/utf8.acceptRanges", laid_unicode_utf8_acceptRanges), ("errors.errorType", laid_errors_errorType), ("unicode/utf8.first", laid_unicode_utf8_first)], narrowed := true }
def FilesValidUptoSaid : Prop := filesValidUptoRow.holds Tryz.pinned (OpenSpec.upto filesValidSpec)

/-- 'conduitlaw37.FilesSubs', WHERE WHAT IT READS IS OF BULK AT MOST 1048576: true; the input reads as it did. -/
def filesSubsUptoRow : OpenClaim := { program := "ytkaoechldamggaagreatdoor", sum := "b0cbacff536bf78eaebd777c060acc94ba49ade9b05108a4dfe56a538aef3e30", func := "conduit/conduitlaw37.FilesSubs", spec := "filesSubs", inPlace := ["internal/bytealg.CountString", "internal/bytealg.IndexByteString", "internal/bytealg.IndexString", "internal/reflectlite.ValueOf", "(internal/reflectlite.Value).Type", "(internal/reflectlite.Value).IsNil", "internal/reflectlite.TypeOf", "(internal/reflectlite.Value).Elem", "(internal/reflectlite.Value).Set"], unfollowed := true, recurses := true, named := ["unicode/utf8.first", "unicode/utf8.acceptRanges", "internal/bytealg.MaxLen", "errors.errorType"], apart := false, laid := [("unicode/utf8.acceptRanges", laid_unicode_utf8_acceptRanges), ("errors.errorType", laid_errors_errorType), ("unicode/utf8.first", laid_unicode_utf8_first)], narrowed := true }
def FilesSubsUptoSaid : Prop := filesSubsUptoRow.holds Tryz.pinned (OpenSpec.upto filesSubsSpec)

/-- 'conduitlaw37.FilesWalks', WHERE WHAT IT READS IS OF BULK AT MOST 1048576: true; the input reads as it did. -/
def filesWalksUptoRow : OpenClaim := { program := "ytkaoechldamggaagreatdoor", sum := "b0cbacff536bf78eaebd777c060acc94ba49ade9b05108a4dfe56a538aef3e30", func := "conduit/conduitlaw37.FilesWalks", spec := "filesWalks", inPlace := ["internal/bytealg.CountString", "internal/bytealg.IndexByteString", "internal/bytealg.IndexString", "internal/reflectlite.ValueOf", "(internal/reflectlite.Value).Type", "(internal/reflectlite.Value).IsNil", "internal/reflectlite.TypeOf", "(internal/reflectlite.Value).Elem", "(internal/reflectlite.Value).Set"], unfollowed := true, recurses := true, named := ["unicode/utf8.first", "unicode/utf8.acceptRanges", "internal/bytealg.MaxLen", "errors.errorType", "conduit/files.errSkip"], apart := false, laid := [("unicode/utf8.acceptRanges", laid_unicode_utf8_acceptRanges), ("errors.errorType", laid_errors_errorType), ("conduit/files.errSkip", laid_conduit_files_errSkip), ("unicode/utf8.first", laid_unicode_utf8_first)], narrowed := true }
def FilesWalksUptoSaid : Prop := filesWalksUptoRow.holds Tryz.pinned (OpenSpec.upto filesWalksSpec)

/-- 'conduitlaw37.FilesSame', WHERE WHAT IT READS IS OF BULK AT MOST 1048576: true; the input reads as it did. -/
def filesSameUptoRow : OpenClaim := { program := "ytkaoechldamggaagreatdoor", sum := "b0cbacff536bf78eaebd777c060acc94ba49ade9b05108a4dfe56a538aef3e30", func := "conduit/conduitlaw37.FilesSame", spec := "filesSame", inPlace := ["internal/bytealg.CountString", "internal/bytealg.IndexByteString", "internal/bytealg.IndexString", "internal/reflectlite.ValueOf", "(internal/reflectlite.Value).Type", "(internal/reflectlite.Value).IsNil", "internal/reflectlite.TypeOf", "(internal/reflectlite.Value).Elem", "(internal/reflectlite.Value).Set"], unfollowed := true, recurses := true, named := ["unicode/utf8.first", "unicode/utf8.acceptRanges", "internal/bytealg.MaxLen", "errors.errorType", "conduit/files.errSkip"], apart := false, laid := [("unicode/utf8.acceptRanges", laid_unicode_utf8_acceptRanges), ("errors.errorType", laid_errors_errorType), ("conduit/files.errSkip", laid_conduit_files_errSkip), ("unicode/utf8.first", laid_unicode_utf8_first)], narrowed := true }
def FilesSameUptoSaid : Prop := filesSameUptoRow.holds Tryz.pinned (OpenSpec.upto filesSameSpec)

/-- 'conduitlaw37.FilesAll', WHERE WHAT IT READS IS OF BULK AT MOST 1048576: true; the input reads as it did. -/
def filesAllUptoRow : OpenClaim := { program := "ytkaoechldamggaagreatdoor", sum := "b0cbacff536bf78eaebd777c060acc94ba49ade9b05108a4dfe56a538aef3e30", func := "conduit/conduitlaw37.FilesAll", spec := "filesAll", inPlace := ["internal/bytealg.CountString", "internal/bytealg.IndexByteString", "internal/bytealg.IndexString", "internal/reflectlite.ValueOf", "(internal/reflectlite.Value).Type", "(internal/reflectlite.Value).IsNil", "internal/reflectlite.TypeOf", "(internal/reflectlite.Value).Elem", "(internal/reflectlite.Value).Set"], unfollowed := true, recurses := true, named := ["unicode/utf8.first", "unicode/utf8.acceptRanges", "internal/bytealg.MaxLen", "errors.errorType", "conduit/files.errSkip"], apart := false, laid := [("unicode/utf8.acceptRanges", laid_unicode_utf8_acceptRanges), ("errors.errorType", laid_errors_errorType), ("conduit/files.errSkip", laid_conduit_files_errSkip), ("unicode/utf8.first", laid_unicode_utf8_first)], narrowed := true }
def FilesAllUptoSaid : Prop := filesAllUptoRow.holds Tryz.pinned (OpenSpec.upto filesAllSpec)

end Rows
end Go.Proofs.YtkaoechldamggaaGreatDoor
