/-
  NARROWER THAN 'FOR EVERY INPUT', by the rows' own cells (each row's printed sentence says how): SpaceEdits: laid · SpaceAny: laid · SpaceStays: laid · SpaceQuotas: laid · SpaceLeases: laid · SpaceFolds: laid · SpaceWrites: laid · SpaceMoves: laid · ImageBack: laid · ImageBit: laid · ImageApart: laid · SpaceAsks: laid.
  DERIVED. THE GIVEN ROWS OF THIS SEAT. 12 by the template 'for every input the law returns true; each argument reads behind the call as it read before'; 0 by the template 'total and deterministic' (their statements: YtdfckkadmgmcaaaGreatDoorTotals.lean).
  GIVEN WITH THE SEED: the statements are not yours to turn. If you find one false, say at which input.
  Laid BY PROGRAM, IN A SANDBOX (cutbox-rows.mjs): the forced cells as the released guide's own fill.sh prints them over the translation 9652d77dc2e1bf7c… (all of the seat's roots in one cut). By AI agents, Wed Nov 11 2026. No macro, syntax, notation, axiom, sorry.
-/
import Derived.Test.YtdfckkadmgmcaaaGreatDoorChecked
import GoSem.PinnedTables
import GoSem.Claim
import GoSem.ClaimJoined
import GoSem.ClaimMapViews
import Derived.JoinedTies
import Derived.KernelRfl
namespace Go.Proofs.YtdfckkadmgmcaaaGreatDoor
/- THE CELL 'sum', in the pinned program and in every row, IS THE sha256 OF THE DUMP (.gsa) THAT YtdfckkadmgmcaaaGreatDoorProg.lean LOADS. Nothing in Lean hashes anything: it is a label: what it is worth is what the hold of that sum in a sandbox is worth. -/
noncomputable def Tryz.pinned : Pinned := { name := "ytdfckkadmgmcaaagreatdoor", sum := "9652d77dc2e1bf7c7cb53fc6609cef58a00ac4f5a26952cfb28424cb46166d63", checked := Tryz.checked }
namespace Rows
def none {H : Type} : Left H := { results := [], args := [] }

/- WHAT THE LISTED PACKAGE-LEVEL VARIABLES READ AS WHEN THE CALL BEGINS. Each datum BY PROGRAM (the guide's laid-datum.mjs) off the statement by which the dump's own 'gosem.cut.vars' lays the variable. In a bare row this is a premise. The card (YtdfckkadmgmcaaaGreatDoorCards.lean) ties it to the program's text. -/
def laid_unicode_utf8_acceptRanges {H : Type} : DataW H := .agg [.agg [.lit (.int .u8 128), .lit (.int .u8 191)], .agg [.lit (.int .u8 160), .lit (.int .u8 191)], .agg [.lit (.int .u8 128), .lit (.int .u8 159)], .agg [.lit (.int .u8 144), .lit (.int .u8 191)], .agg [.lit (.int .u8 128), .lit (.int .u8 143)], .agg [.lit (.int .u8 0), .lit (.int .u8 0)], .agg [.lit (.int .u8 0), .lit (.int .u8 0)], .agg [.lit (.int .u8 0), .lit (.int .u8 0)], .agg [.lit (.int .u8 0), .lit (.int .u8 0)], .agg [.lit (.int .u8 0), .lit (.int .u8 0)], .agg [.lit (.int .u8 0), .lit (.int .u8 0)], .agg [.lit (.int .u8 0), .lit (.int .u8 0)], .agg [.lit (.int .u8 0), .lit (.int .u8 0)], .agg [.lit (.int .u8 0), .lit (.int .u8 0)], .agg [.lit (.int .u8 0), .lit (.int .u8 0)], .agg [.lit (.int .u8 0), .lit (.int .u8 0)]]
/-- One of Go's own tables, pinned by name: the form's constant. -/
def laid_unicode_utf8_first : DataW Unit := Go.Pinned.utf8First

/-- 'tabulariumlaw11.SpaceEdits': WHATEVER THE INPUT: true; the input reads as it did. -/
def spaceEditsSpec : ChangeSpec := { name := "spaceEdits", fn := fun _ => fun
  | [d] => { results := [.lit (.bool true)], args := [d] }
  | _ => none }
def spaceEditsRow : OpenClaim := { program := "ytdfckkadmgmcaaagreatdoor", sum := "9652d77dc2e1bf7c7cb53fc6609cef58a00ac4f5a26952cfb28424cb46166d63", func := "tabularium/tabulariumlaw11.SpaceEdits", spec := "spaceEdits", inPlace := ["internal/bytealg.CountString", "internal/bytealg.IndexByteString", "internal/bytealg.IndexString", "internal/bytealg.abigen_runtime_cmpstring", "slices.overlaps[tabularium/api.Lease]", "internal/abi.NoEscape", "internal/bytealg.MakeNoZero"], unfollowed := true, recurses := true, named := ["unicode/utf8.first", "unicode/utf8.acceptRanges", "internal/bytealg.MaxLen"], apart := false, laid := [("unicode/utf8.acceptRanges", laid_unicode_utf8_acceptRanges), ("unicode/utf8.first", laid_unicode_utf8_first)] }
def SpaceEditsSaid : Prop := spaceEditsRow.holds Tryz.pinned (OpenSpec.ofChange spaceEditsSpec)

/-- ITS FALSE NEIGHBOUR: 'it returns false'. Refute it at one input. -/
def spaceEditsWrong : ChangeSpec := { name := "spaceEdits", fn := fun _ => fun
  | [d] => { results := [.lit (.bool false)], args := [d] }
  | _ => none }
def SpaceEditsWrongFalsely : Prop := spaceEditsRow.holds Tryz.pinned (OpenSpec.ofChange spaceEditsWrong)

/-- 'tabulariumlaw11.SpaceAny': WHATEVER THE INPUT: true; the input reads as it did. -/
def spaceAnySpec : ChangeSpec := { name := "spaceAny", fn := fun _ => fun
  | [d1, d2] => { results := [.lit (.bool true)], args := [d1, d2] }
  | _ => none }
def spaceAnyRow : OpenClaim := { program := "ytdfckkadmgmcaaagreatdoor", sum := "9652d77dc2e1bf7c7cb53fc6609cef58a00ac4f5a26952cfb28424cb46166d63", func := "tabularium/tabulariumlaw11.SpaceAny", spec := "spaceAny", inPlace := ["internal/bytealg.CountString", "internal/bytealg.IndexByteString", "internal/bytealg.IndexString", "internal/bytealg.abigen_runtime_cmpstring", "slices.overlaps[tabularium/api.Lease]", "internal/abi.NoEscape", "internal/bytealg.MakeNoZero"], unfollowed := true, recurses := true, named := ["unicode/utf8.first", "unicode/utf8.acceptRanges", "internal/bytealg.MaxLen"], apart := false, laid := [("unicode/utf8.acceptRanges", laid_unicode_utf8_acceptRanges), ("unicode/utf8.first", laid_unicode_utf8_first)] }
def SpaceAnySaid : Prop := spaceAnyRow.holds Tryz.pinned (OpenSpec.ofChange spaceAnySpec)

/-- ITS FALSE NEIGHBOUR: 'it returns false'. Refute it at one input. -/
def spaceAnyWrong : ChangeSpec := { name := "spaceAny", fn := fun _ => fun
  | [d1, d2] => { results := [.lit (.bool false)], args := [d1, d2] }
  | _ => none }
def SpaceAnyWrongFalsely : Prop := spaceAnyRow.holds Tryz.pinned (OpenSpec.ofChange spaceAnyWrong)

/-- 'tabulariumlaw11.SpaceStays': WHATEVER THE INPUT: true; the input reads as it did. -/
def spaceStaysSpec : ChangeSpec := { name := "spaceStays", fn := fun _ => fun
  | [d] => { results := [.lit (.bool true)], args := [d] }
  | _ => none }
def spaceStaysRow : OpenClaim := { program := "ytdfckkadmgmcaaagreatdoor", sum := "9652d77dc2e1bf7c7cb53fc6609cef58a00ac4f5a26952cfb28424cb46166d63", func := "tabularium/tabulariumlaw11.SpaceStays", spec := "spaceStays", inPlace := ["internal/bytealg.CountString", "internal/bytealg.IndexByteString", "internal/bytealg.IndexString", "internal/bytealg.abigen_runtime_cmpstring", "slices.overlaps[tabularium/api.Lease]", "internal/abi.NoEscape", "internal/bytealg.MakeNoZero"], unfollowed := true, recurses := true, named := ["unicode/utf8.first", "unicode/utf8.acceptRanges", "internal/bytealg.MaxLen"], apart := false, laid := [("unicode/utf8.acceptRanges", laid_unicode_utf8_acceptRanges), ("unicode/utf8.first", laid_unicode_utf8_first)] }
def SpaceStaysSaid : Prop := spaceStaysRow.holds Tryz.pinned (OpenSpec.ofChange spaceStaysSpec)

/-- ITS FALSE NEIGHBOUR: 'it returns false'. Refute it at one input. -/
def spaceStaysWrong : ChangeSpec := { name := "spaceStays", fn := fun _ => fun
  | [d] => { results := [.lit (.bool false)], args := [d] }
  | _ => none }
def SpaceStaysWrongFalsely : Prop := spaceStaysRow.holds Tryz.pinned (OpenSpec.ofChange spaceStaysWrong)

/-- 'tabulariumlaw11.SpaceQuotas': WHATEVER THE INPUT: true; the input reads as it did. -/
def spaceQuotasSpec : ChangeSpec := { name := "spaceQuotas", fn := fun _ => fun
  | [d1, d2, d3] => { results := [.lit (.bool true)], args := [d1, d2, d3] }
  | _ => none }
def spaceQuotasRow : OpenClaim := { program := "ytdfckkadmgmcaaagreatdoor", sum := "9652d77dc2e1bf7c7cb53fc6609cef58a00ac4f5a26952cfb28424cb46166d63", func := "tabularium/tabulariumlaw11.SpaceQuotas", spec := "spaceQuotas", inPlace := ["internal/bytealg.CountString", "internal/bytealg.IndexByteString", "internal/bytealg.IndexString", "internal/bytealg.abigen_runtime_cmpstring", "slices.overlaps[tabularium/api.Lease]", "internal/abi.NoEscape", "internal/bytealg.MakeNoZero"], unfollowed := true, recurses := true, named := ["unicode/utf8.first", "unicode/utf8.acceptRanges", "internal/bytealg.MaxLen"], apart := false, laid := [("unicode/utf8.acceptRanges", laid_unicode_utf8_acceptRanges), ("unicode/utf8.first", laid_unicode_utf8_first)] }
def SpaceQuotasSaid : Prop := spaceQuotasRow.holds Tryz.pinned (OpenSpec.ofChange spaceQuotasSpec)

/-- ITS FALSE NEIGHBOUR: 'it returns false'. Refute it at one input. -/
def spaceQuotasWrong : ChangeSpec := { name := "spaceQuotas", fn := fun _ => fun
  | [d1, d2, d3] => { results := [.lit (.bool false)], args := [d1, d2, d3] }
  | _ => none }
def SpaceQuotasWrongFalsely : Prop := spaceQuotasRow.holds Tryz.pinned (OpenSpec.ofChange spaceQuotasWrong)

/-- 'tabulariumlaw11.SpaceLeases': WHATEVER THE INPUT: true; the input reads as it did. -/
def spaceLeasesSpec : ChangeSpec := { name := "spaceLeases", fn := fun _ => fun
  | [d] => { results := [.lit (.bool true)], args := [d] }
  | _ => none }
def spaceLeasesRow : OpenClaim := { program := "ytdfckkadmgmcaaagreatdoor", sum := "9652d77dc2e1bf7c7cb53fc6609cef58a00ac4f5a26952cfb28424cb46166d63", func := "tabularium/tabulariumlaw11.SpaceLeases", spec := "spaceLeases", inPlace := ["internal/bytealg.CountString", "internal/bytealg.IndexByteString", "internal/bytealg.IndexString", "internal/bytealg.abigen_runtime_cmpstring", "slices.overlaps[tabularium/api.Lease]", "internal/abi.NoEscape", "internal/bytealg.MakeNoZero"], unfollowed := true, recurses := true, named := ["unicode/utf8.first", "unicode/utf8.acceptRanges", "internal/bytealg.MaxLen"], apart := false, laid := [("unicode/utf8.acceptRanges", laid_unicode_utf8_acceptRanges), ("unicode/utf8.first", laid_unicode_utf8_first)] }
def SpaceLeasesSaid : Prop := spaceLeasesRow.holds Tryz.pinned (OpenSpec.ofChange spaceLeasesSpec)

/-- ITS FALSE NEIGHBOUR: 'it returns false'. Refute it at one input. -/
def spaceLeasesWrong : ChangeSpec := { name := "spaceLeases", fn := fun _ => fun
  | [d] => { results := [.lit (.bool false)], args := [d] }
  | _ => none }
def SpaceLeasesWrongFalsely : Prop := spaceLeasesRow.holds Tryz.pinned (OpenSpec.ofChange spaceLeasesWrong)

/-- 'tabulariumlaw11.SpaceFolds': WHATEVER THE INPUT: true; the input reads as it did. -/
def spaceFoldsSpec : ChangeSpec := { name := "spaceFolds", fn := fun _ => fun
  | [d1, d2] => { results := [.lit (.bool true)], args := [d1, d2] }
  | _ => none }
def spaceFoldsRow : OpenClaim := { program := "ytdfckkadmgmcaaagreatdoor", sum := "9652d77dc2e1bf7c7cb53fc6609cef58a00ac4f5a26952cfb28424cb46166d63", func := "tabularium/tabulariumlaw11.SpaceFolds", spec := "spaceFolds", inPlace := ["internal/bytealg.CountString", "internal/bytealg.IndexByteString", "internal/bytealg.IndexString", "internal/bytealg.abigen_runtime_cmpstring", "slices.overlaps[tabularium/api.Lease]", "internal/abi.NoEscape", "internal/bytealg.MakeNoZero"], unfollowed := true, recurses := true, named := ["unicode/utf8.first", "unicode/utf8.acceptRanges", "internal/bytealg.MaxLen"], apart := false, laid := [("unicode/utf8.acceptRanges", laid_unicode_utf8_acceptRanges), ("unicode/utf8.first", laid_unicode_utf8_first)] }
def SpaceFoldsSaid : Prop := spaceFoldsRow.holds Tryz.pinned (OpenSpec.ofChange spaceFoldsSpec)

/-- ITS FALSE NEIGHBOUR: 'it returns false'. Refute it at one input. -/
def spaceFoldsWrong : ChangeSpec := { name := "spaceFolds", fn := fun _ => fun
  | [d1, d2] => { results := [.lit (.bool false)], args := [d1, d2] }
  | _ => none }
def SpaceFoldsWrongFalsely : Prop := spaceFoldsRow.holds Tryz.pinned (OpenSpec.ofChange spaceFoldsWrong)

/-- 'tabulariumlaw11.SpaceWrites': WHATEVER THE INPUT: true; the input reads as it did. -/
def spaceWritesSpec : ChangeSpec := { name := "spaceWrites", fn := fun _ => fun
  | [d] => { results := [.lit (.bool true)], args := [d] }
  | _ => none }
def spaceWritesRow : OpenClaim := { program := "ytdfckkadmgmcaaagreatdoor", sum := "9652d77dc2e1bf7c7cb53fc6609cef58a00ac4f5a26952cfb28424cb46166d63", func := "tabularium/tabulariumlaw11.SpaceWrites", spec := "spaceWrites", inPlace := ["internal/bytealg.CountString", "internal/bytealg.IndexByteString", "internal/bytealg.IndexString", "internal/bytealg.abigen_runtime_cmpstring", "slices.overlaps[tabularium/api.Lease]", "internal/abi.NoEscape", "internal/bytealg.MakeNoZero"], unfollowed := true, recurses := true, named := ["unicode/utf8.first", "unicode/utf8.acceptRanges", "internal/bytealg.MaxLen"], apart := false, laid := [("unicode/utf8.acceptRanges", laid_unicode_utf8_acceptRanges), ("unicode/utf8.first", laid_unicode_utf8_first)] }
def SpaceWritesSaid : Prop := spaceWritesRow.holds Tryz.pinned (OpenSpec.ofChange spaceWritesSpec)

/-- ITS FALSE NEIGHBOUR: 'it returns false'. Refute it at one input. -/
def spaceWritesWrong : ChangeSpec := { name := "spaceWrites", fn := fun _ => fun
  | [d] => { results := [.lit (.bool false)], args := [d] }
  | _ => none }
def SpaceWritesWrongFalsely : Prop := spaceWritesRow.holds Tryz.pinned (OpenSpec.ofChange spaceWritesWrong)

/-- 'tabulariumlaw11.SpaceMoves': WHATEVER THE INPUT: true; the input reads as it did. -/
def spaceMovesSpec : ChangeSpec := { name := "spaceMoves", fn := fun _ => fun
  | [d1, d2, d3] => { results := [.lit (.bool true)], args := [d1, d2, d3] }
  | _ => none }
def spaceMovesRow : OpenClaim := { program := "ytdfckkadmgmcaaagreatdoor", sum := "9652d77dc2e1bf7c7cb53fc6609cef58a00ac4f5a26952cfb28424cb46166d63", func := "tabularium/tabulariumlaw11.SpaceMoves", spec := "spaceMoves", inPlace := ["internal/bytealg.CountString", "internal/bytealg.IndexByteString", "internal/bytealg.IndexString", "internal/bytealg.abigen_runtime_cmpstring", "slices.overlaps[tabularium/api.Lease]", "internal/abi.NoEscape", "internal/bytealg.MakeNoZero"], unfollowed := true, recurses := true, named := ["unicode/utf8.first", "unicode/utf8.acceptRanges", "internal/bytealg.MaxLen"], apart := false, laid := [("unicode/utf8.acceptRanges", laid_unicode_utf8_acceptRanges), ("unicode/utf8.first", laid_unicode_utf8_first)] }
def SpaceMovesSaid : Prop := spaceMovesRow.holds Tryz.pinned (OpenSpec.ofChange spaceMovesSpec)

/-- ITS FALSE NEIGHBOUR: 'it returns false'. Refute it at one input. -/
def spaceMovesWrong : ChangeSpec := { name := "spaceMoves", fn := fun _ => fun
  | [d1, d2, d3] => { results := [.lit (.bool false)], args := [d1, d2, d3] }
  | _ => none }
def SpaceMovesWrongFalsely : Prop := spaceMovesRow.holds Tryz.pinned (OpenSpec.ofChange spaceMovesWrong)

/-- 'tabulariumlaw12.ImageBack': WHATEVER THE INPUT: true; the input reads as it did. -/
def imageBackSpec : ChangeSpec := { name := "imageBack", fn := fun _ => fun
  | [d1, d2] => { results := [.lit (.bool true)], args := [d1, d2] }
  | _ => none }
def imageBackRow : OpenClaim := { program := "ytdfckkadmgmcaaagreatdoor", sum := "9652d77dc2e1bf7c7cb53fc6609cef58a00ac4f5a26952cfb28424cb46166d63", func := "tabularium/tabulariumlaw12.ImageBack", spec := "imageBack", inPlace := ["internal/bytealg.CountString", "internal/bytealg.IndexByteString", "internal/bytealg.IndexString", "internal/bytealg.abigen_runtime_cmpstring", "internal/abi.NoEscape", "slices.overlaps[tabularium/api.Lease]", "internal/bytealg.MakeNoZero"], unfollowed := true, recurses := true, named := ["unicode/utf8.first", "unicode/utf8.acceptRanges", "internal/bytealg.MaxLen"], apart := false, laid := [("unicode/utf8.acceptRanges", laid_unicode_utf8_acceptRanges), ("unicode/utf8.first", laid_unicode_utf8_first)] }
def ImageBackSaid : Prop := imageBackRow.holds Tryz.pinned (OpenSpec.ofChange imageBackSpec)

/-- ITS FALSE NEIGHBOUR: 'it returns false'. Refute it at one input. -/
def imageBackWrong : ChangeSpec := { name := "imageBack", fn := fun _ => fun
  | [d1, d2] => { results := [.lit (.bool false)], args := [d1, d2] }
  | _ => none }
def ImageBackWrongFalsely : Prop := imageBackRow.holds Tryz.pinned (OpenSpec.ofChange imageBackWrong)

/-- 'tabulariumlaw12.ImageBit': WHATEVER THE INPUT: true; the input reads as it did. -/
def imageBitSpec : ChangeSpec := { name := "imageBit", fn := fun _ => fun
  | [d1, d2] => { results := [.lit (.bool true)], args := [d1, d2] }
  | _ => none }
def imageBitRow : OpenClaim := { program := "ytdfckkadmgmcaaagreatdoor", sum := "9652d77dc2e1bf7c7cb53fc6609cef58a00ac4f5a26952cfb28424cb46166d63", func := "tabularium/tabulariumlaw12.ImageBit", spec := "imageBit", inPlace := ["internal/bytealg.CountString", "internal/bytealg.IndexByteString", "internal/bytealg.IndexString", "internal/bytealg.abigen_runtime_cmpstring", "internal/abi.NoEscape", "slices.overlaps[tabularium/api.Lease]", "internal/bytealg.MakeNoZero"], unfollowed := true, recurses := true, named := ["unicode/utf8.first", "unicode/utf8.acceptRanges", "internal/bytealg.MaxLen"], apart := false, laid := [("unicode/utf8.acceptRanges", laid_unicode_utf8_acceptRanges), ("unicode/utf8.first", laid_unicode_utf8_first)] }
def ImageBitSaid : Prop := imageBitRow.holds Tryz.pinned (OpenSpec.ofChange imageBitSpec)

/-- ITS FALSE NEIGHBOUR: 'it returns false'. Refute it at one input. -/
def imageBitWrong : ChangeSpec := { name := "imageBit", fn := fun _ => fun
  | [d1, d2] => { results := [.lit (.bool false)], args := [d1, d2] }
  | _ => none }
def ImageBitWrongFalsely : Prop := imageBitRow.holds Tryz.pinned (OpenSpec.ofChange imageBitWrong)

/-- 'tabulariumlaw12.ImageApart': WHATEVER THE INPUT: true; the input reads as it did. -/
def imageApartSpec : ChangeSpec := { name := "imageApart", fn := fun _ => fun
  | [d1, d2] => { results := [.lit (.bool true)], args := [d1, d2] }
  | _ => none }
def imageApartRow : OpenClaim := { program := "ytdfckkadmgmcaaagreatdoor", sum := "9652d77dc2e1bf7c7cb53fc6609cef58a00ac4f5a26952cfb28424cb46166d63", func := "tabularium/tabulariumlaw12.ImageApart", spec := "imageApart", inPlace := ["internal/bytealg.CountString", "internal/bytealg.IndexByteString", "internal/bytealg.IndexString", "internal/bytealg.abigen_runtime_cmpstring", "internal/abi.NoEscape", "slices.overlaps[tabularium/api.Lease]", "internal/bytealg.MakeNoZero"], unfollowed := true, recurses := true, named := ["unicode/utf8.first", "unicode/utf8.acceptRanges", "internal/bytealg.MaxLen"], apart := false, laid := [("unicode/utf8.acceptRanges", laid_unicode_utf8_acceptRanges), ("unicode/utf8.first", laid_unicode_utf8_first)] }
def ImageApartSaid : Prop := imageApartRow.holds Tryz.pinned (OpenSpec.ofChange imageApartSpec)

/-- ITS FALSE NEIGHBOUR: 'it returns false'. Refute it at one input. -/
def imageApartWrong : ChangeSpec := { name := "imageApart", fn := fun _ => fun
  | [d1, d2] => { results := [.lit (.bool false)], args := [d1, d2] }
  | _ => none }
def ImageApartWrongFalsely : Prop := imageApartRow.holds Tryz.pinned (OpenSpec.ofChange imageApartWrong)

/-- 'tabulariumlaw11.SpaceAsks': WHATEVER THE INPUT: true; the input reads as it did. -/
def spaceAsksSpec : ChangeSpec := { name := "spaceAsks", fn := fun _ => fun
  | [d1, d2, d3] => { results := [.lit (.bool true)], args := [d1, d2, d3] }
  | _ => none }
def spaceAsksRow : OpenClaim := { program := "ytdfckkadmgmcaaagreatdoor", sum := "9652d77dc2e1bf7c7cb53fc6609cef58a00ac4f5a26952cfb28424cb46166d63", func := "tabularium/tabulariumlaw11.SpaceAsks", spec := "spaceAsks", inPlace := ["internal/bytealg.CountString", "internal/bytealg.IndexByteString", "internal/bytealg.IndexString", "internal/bytealg.abigen_runtime_cmpstring", "slices.overlaps[tabularium/api.Lease]", "internal/abi.NoEscape", "internal/bytealg.MakeNoZero"], unfollowed := true, recurses := true, named := ["unicode/utf8.first", "unicode/utf8.acceptRanges", "internal/bytealg.MaxLen"], apart := false, laid := [("unicode/utf8.acceptRanges", laid_unicode_utf8_acceptRanges), ("unicode/utf8.first", laid_unicode_utf8_first)] }
def SpaceAsksSaid : Prop := spaceAsksRow.holds Tryz.pinned (OpenSpec.ofChange spaceAsksSpec)

/-- ITS FALSE NEIGHBOUR: 'it returns false'. Refute it at one input. -/
def spaceAsksWrong : ChangeSpec := { name := "spaceAsks", fn := fun _ => fun
  | [d1, d2, d3] => { results := [.lit (.bool false)], args := [d1, d2, d3] }
  | _ => none }
def SpaceAsksWrongFalsely : Prop := spaceAsksRow.holds Tryz.pinned (OpenSpec.ofChange spaceAsksWrong)

/- THE SECOND FORM. 'bulk': how many values and letters a reading holds, each counted each time it is reached (what is shared counts as often as it is met; a slice's spare places count too). A statement '..UptoSaid' is the law's where the arguments, and the package variables that the reading takes, are together of bulk at most 1048576: NARROWER than '..Said'. Prove '..Said' where nothing that the law and all that it calls make is longer than what came in: it says more and counts as full. Else prove '..UptoSaid'. A law counts once. -/
mutual
def uptoBulk {H : Type} : DataW H → Nat
  | .lit (.string bytes) => bytes.length + 1
  | .lit _ => 1
  | .nil => 1
  | .ptr d => uptoBulk d + 1
  | .slice elems spare => uptoBulkAll elems + uptoBulkAll spare + 1
  | .agg parts => uptoBulkAll parts + 1
  | .iface _ d => uptoBulk d + 1
  | .map entries => uptoBulkEntries entries + 1
  | .held _ => 1
def uptoBulkAll {H : Type} : List (DataW H) → Nat
  | [] => 0
  | d :: r => uptoBulk d + uptoBulkAll r
def uptoBulkEntries {H : Type} : List (Lit × DataW H) → Nat
  | [] => 0
  | x :: r => uptoBulkEntry x + uptoBulkEntries r
def uptoBulkEntry {H : Type} : Lit × DataW H → Nat
  | (.string bytes, d) => bytes.length + uptoBulk d + 1
  | (_, d) => uptoBulk d + 1
 end
def uptoSmall : (H : Type) → List (DataW H) → Bool := fun _ ds => decide (uptoBulkAll ds ≤ 1048576)
def OpenSpec.upto (s : _root_.Go.ChangeSpec) : _root_.Go.OpenSpec := { _root_.Go.OpenSpec.ofChange s with cond := some uptoSmall }

/-- 'tabulariumlaw11.SpaceEdits', WHERE WHAT IT READS IS OF BULK AT MOST 1048576: true; the input reads as it did. -/
def spaceEditsUptoRow : OpenClaim := { program := "ytdfckkadmgmcaaagreatdoor", sum := "9652d77dc2e1bf7c7cb53fc6609cef58a00ac4f5a26952cfb28424cb46166d63", func := "tabularium/tabulariumlaw11.SpaceEdits", spec := "spaceEdits", inPlace := ["internal/bytealg.CountString", "internal/bytealg.IndexByteString", "internal/bytealg.IndexString", "internal/bytealg.abigen_runtime_cmpstring", "slices.overlaps[tabularium/api.Lease]", "internal/abi.NoEscape", "internal/bytealg.MakeNoZero"], unfollowed := true, recurses := true, named := ["unicode/utf8.first", "unicode/utf8.acceptRanges", "internal/bytealg.MaxLen"], apart := false, laid := [("unicode/utf8.acceptRanges", laid_unicode_utf8_acceptRanges), ("unicode/utf8.first", laid_unicode_utf8_first)], narrowed := true }
def SpaceEditsUptoSaid : Prop := spaceEditsUptoRow.holds Tryz.pinned (OpenSpec.upto spaceEditsSpec)

/-- 'tabulariumlaw11.SpaceAny', WHERE WHAT IT READS IS OF BULK AT MOST 1048576: true; the input reads as it did. -/
def spaceAnyUptoRow : OpenClaim := { program := "ytdfckkadmgmcaaagreatdoor", sum := "9652d77dc2e1bf7c7cb53fc6609cef58a00ac4f5a26952cfb28424cb46166d63", func := "tabularium/tabulariumlaw11.SpaceAny", spec := "spaceAny", inPlace := ["internal/bytealg.CountString", "internal/bytealg.IndexByteString", "internal/bytealg.IndexString", "internal/bytealg.abigen_runtime_cmpstring", "slices.overlaps[tabularium/api.Lease]", "internal/abi.NoEscape", "internal/bytealg.MakeNoZero"], unfollowed := true, recurses := true, named := ["unicode/utf8.first", "unicode/utf8.acceptRanges", "internal/bytealg.MaxLen"], apart := false, laid := [("unicode/utf8.acceptRanges", laid_unicode_utf8_acceptRanges), ("unicode/utf8.first", laid_unicode_utf8_first)], narrowed := true }
def SpaceAnyUptoSaid : Prop := spaceAnyUptoRow.holds Tryz.pinned (OpenSpec.upto spaceAnySpec)

/-- 'tabulariumlaw11.SpaceStays', WHERE WHAT IT READS IS OF BULK AT MOST 1048576: true; the input reads as it did. -/
def spaceStaysUptoRow : OpenClaim := { program := "ytdfckkadmgmcaaagreatdoor", sum := "9652d77dc2e1bf7c7cb53fc6609cef58a00ac4f5a26952cfb28424cb46166d63", func := "tabularium/tabulariumlaw11.SpaceStays", spec := "spaceStays", inPlace := ["internal/bytealg.CountString", "internal/bytealg.IndexByteString", "internal/bytealg.IndexString", "internal/bytealg.abigen_runtime_cmpstring", "slices.overlaps[tabularium/api.Lease]", "internal/abi.NoEscape", "internal/bytealg.MakeNoZero"], unfollowed := true, recurses := true, named := ["unicode/utf8.first", "unicode/utf8.acceptRanges", "internal/bytealg.MaxLen"], apart := false, laid := [("unicode/utf8.acceptRanges", laid_unicode_utf8_acceptRanges), ("unicode/utf8.first", laid_unicode_utf8_first)], narrowed := true }
def SpaceStaysUptoSaid : Prop := spaceStaysUptoRow.holds Tryz.pinned (OpenSpec.upto spaceStaysSpec)

/-- 'tabulariumlaw11.SpaceQuotas', WHERE WHAT IT READS IS OF BULK AT MOST 1048576: true; the input reads as it did. -/
def spaceQuotasUptoRow : OpenClaim := { program := "ytdfckkadmgmcaaagreatdoor", sum := "9652d77dc2e1bf7c7cb53fc6609cef58a00ac4f5a26952cfb28424cb46166d63", func := "tabularium/tabulariumlaw11.SpaceQuotas", spec := "spaceQuotas", inPlace := ["internal/bytealg.CountString", "internal/bytealg.IndexByteString", "internal/bytealg.IndexString", "internal/bytealg.abigen_runtime_cmpstring", "slices.overlaps[tabularium/api.Lease]", "internal/abi.NoEscape", "internal/bytealg.MakeNoZero"], unfollowed := true, recurses := true, named := ["unicode/utf8.first", "unicode/utf8.acceptRanges", "internal/bytealg.MaxLen"], apart := false, laid := [("unicode/utf8.acceptRanges", laid_unicode_utf8_acceptRanges), ("unicode/utf8.first", laid_unicode_utf8_first)], narrowed := true }
def SpaceQuotasUptoSaid : Prop := spaceQuotasUptoRow.holds Tryz.pinned (OpenSpec.upto spaceQuotasSpec)

/-- 'tabulariumlaw11.SpaceLeases', WHERE WHAT IT READS IS OF BULK AT MOST 1048576: true; the input reads as it did. -/
def spaceLeasesUptoRow : OpenClaim := { program := "ytdfckkadmgmcaaagreatdoor", sum := "9652d77dc2e1bf7c7cb53fc6609cef58a00ac4f5a26952cfb28424cb46166d63", func := "tabularium/tabulariumlaw11.SpaceLeases", spec := "spaceLeases", inPlace := ["internal/bytealg.CountString", "internal/bytealg.IndexByteString", "internal/bytealg.IndexString", "internal/bytealg.abigen_runtime_cmpstring", "slices.overlaps[tabularium/api.Lease]", "internal/abi.NoEscape", "internal/bytealg.MakeNoZero"], unfollowed := true, recurses := true, named := ["unicode/utf8.first", "unicode/utf8.acceptRanges", "internal/bytealg.MaxLen"], apart := false, laid := [("unicode/utf8.acceptRanges", laid_unicode_utf8_acceptRanges), ("unicode/utf8.first", laid_unicode_utf8_first)], narrowed := true }
def SpaceLeasesUptoSaid : Prop := spaceLeasesUptoRow.holds Tryz.pinned (OpenSpec.upto spaceLeasesSpec)

/-- 'tabulariumlaw11.SpaceFolds', WHERE WHAT IT READS IS OF BULK AT MOST 1048576: true; the input reads as it did. -/
def spaceFoldsUptoRow : OpenClaim := { program := "ytdfckkadmgmcaaagreatdoor", sum := "9652d77dc2e1bf7c7cb53fc6609cef58a00ac4f5a26952cfb28424cb46166d63", func := "tabularium/tabulariumlaw11.SpaceFolds", spec := "spaceFolds", inPlace := ["internal/bytealg.CountString", "internal/bytealg.IndexByteString", "internal/bytealg.IndexString", "internal/bytealg.abigen_runtime_cmpstring", "slices.overlaps[tabularium/api.Lease]", "internal/abi.NoEscape", "internal/bytealg.MakeNoZero"], unfollowed := true, recurses := true, named := ["unicode/utf8.first", "unicode/utf8.acceptRanges", "internal/bytealg.MaxLen"], apart := false, laid := [("unicode/utf8.acceptRanges", laid_unicode_utf8_acceptRanges), ("unicode/utf8.first", laid_unicode_utf8_first)], narrowed := true }
def SpaceFoldsUptoSaid : Prop := spaceFoldsUptoRow.holds Tryz.pinned (OpenSpec.upto spaceFoldsSpec)

/-- 'tabulariumlaw11.SpaceWrites', WHERE WHAT IT READS IS OF BULK AT MOST 1048576: true; the input reads as it did. -/
def spaceWritesUptoRow : OpenClaim := { program := "ytdfckkadmgmcaaagreatdoor", sum := "9652d77dc2e1bf7c7cb53fc6609cef58a00ac4f5a26952cfb28424cb46166d63", func := "tabularium/tabulariumlaw11.SpaceWrites", spec := "spaceWrites", inPlace := ["internal/bytealg.CountString", "internal/bytealg.IndexByteString", "internal/bytealg.IndexString", "internal/bytealg.abigen_runtime_cmpstring", "slices.overlaps[tabularium/api.Lease]", "internal/abi.NoEscape", "internal/bytealg.MakeNoZero"], unfollowed := true, recurses := true, named := ["unicode/utf8.first", "unicode/utf8.acceptRanges", "internal/bytealg.MaxLen"], apart := false, laid := [("unicode/utf8.acceptRanges", laid_unicode_utf8_acceptRanges), ("unicode/utf8.first", laid_unicode_utf8_first)], narrowed := true }
def SpaceWritesUptoSaid : Prop := spaceWritesUptoRow.holds Tryz.pinned (OpenSpec.upto spaceWritesSpec)

/-- 'tabulariumlaw11.SpaceMoves', WHERE WHAT IT READS IS OF BULK AT MOST 1048576: true; the input reads as it did. -/
def spaceMovesUptoRow : OpenClaim := { program := "ytdfckkadmgmcaaagreatdoor", sum := "9652d77dc2e1bf7c7cb53fc6609cef58a00ac4f5a26952cfb28424cb46166d63", func := "tabularium/tabulariumlaw11.SpaceMoves", spec := "spaceMoves", inPlace := ["internal/bytealg.CountString", "internal/bytealg.IndexByteString", "internal/bytealg.IndexString", "internal/bytealg.abigen_runtime_cmpstring", "slices.overlaps[tabularium/api.Lease]", "internal/abi.NoEscape", "internal/bytealg.MakeNoZero"], unfollowed := true, recurses := true, named := ["unicode/utf8.first", "unicode/utf8.acceptRanges", "internal/bytealg.MaxLen"], apart := false, laid := [("unicode/utf8.acceptRanges", laid_unicode_utf8_acceptRanges), ("unicode/utf8.first", laid_unicode_utf8_first)], narrowed := true }
def SpaceMovesUptoSaid : Prop := spaceMovesUptoRow.holds Tryz.pinned (OpenSpec.upto spaceMovesSpec)

/-- 'tabulariumlaw12.ImageBack', WHERE WHAT IT READS IS OF BULK AT MOST 1048576: true; the input reads as it did. -/
def imageBackUptoRow : OpenClaim := { program := "ytdfckkadmgmcaaagreatdoor", sum := "9652d77dc2e1bf7c7cb53fc6609cef58a00ac4f5a26952cfb28424cb46166d63", func := "tabularium/tabulariumlaw12.ImageBack", spec := "imageBack", inPlace := ["internal/bytealg.CountString", "internal/bytealg.IndexByteString", "internal/bytealg.IndexString", "internal/bytealg.abigen_runtime_cmpstring", "internal/abi.NoEscape", "slices.overlaps[tabularium/api.Lease]", "internal/bytealg.MakeNoZero"], unfollowed := true, recurses := true, named := ["unicode/utf8.first", "unicode/utf8.acceptRanges", "internal/bytealg.MaxLen"], apart := false, laid := [("unicode/utf8.acceptRanges", laid_unicode_utf8_acceptRanges), ("unicode/utf8.first", laid_unicode_utf8_first)], narrowed := true }
def ImageBackUptoSaid : Prop := imageBackUptoRow.holds Tryz.pinned (OpenSpec.upto imageBackSpec)

/-- 'tabulariumlaw12.ImageBit', WHERE WHAT IT READS IS OF BULK AT MOST 1048576: true; the input reads as it did. -/
def imageBitUptoRow : OpenClaim := { program := "ytdfckkadmgmcaaagreatdoor", sum := "9652d77dc2e1bf7c7cb53fc6609cef58a00ac4f5a26952cfb28424cb46166d63", func := "tabularium/tabulariumlaw12.ImageBit", spec := "imageBit", inPlace := ["internal/bytealg.CountString", "internal/bytealg.IndexByteString", "internal/bytealg.IndexString", "internal/bytealg.abigen_runtime_cmpstring", "internal/abi.NoEscape", "slices.overlaps[tabularium/api.Lease]", "internal/bytealg.MakeNoZero"], unfollowed := true, recurses := true, named := ["unicode/utf8.first", "unicode/utf8.acceptRanges", "internal/bytealg.MaxLen"], apart := false, laid := [("unicode/utf8.acceptRanges", laid_unicode_utf8_acceptRanges), ("unicode/utf8.first", laid_unicode_utf8_first)], narrowed := true }
def ImageBitUptoSaid : Prop := imageBitUptoRow.holds Tryz.pinned (OpenSpec.upto imageBitSpec)

/-- 'tabulariumlaw12.ImageApart', WHERE WHAT IT READS IS OF BULK AT MOST 1048576: true; the input reads as it did. -/
def imageApartUptoRow : OpenClaim := { program := "ytdfckkadmgmcaaagreatdoor", sum := "9652d77dc2e1bf7c7cb53fc6609cef58a00ac4f5a26952cfb28424cb46166d63", func := "tabularium/tabulariumlaw12.ImageApart", spec := "imageApart", inPlace := ["internal/bytealg.CountString", "internal/bytealg.IndexByteString", "internal/bytealg.IndexString", "internal/bytealg.abigen_runtime_cmpstring", "internal/abi.NoEscape", "slices.overlaps[tabularium/api.Lease]", "internal/bytealg.MakeNoZero"], unfollowed := true, recurses := true, named := ["unicode/utf8.first", "unicode/utf8.acceptRanges", "internal/bytealg.MaxLen"], apart := false, laid := [("unicode/utf8.acceptRanges", laid_unicode_utf8_acceptRanges), ("unicode/utf8.first", laid_unicode_utf8_first)], narrowed := true }
def ImageApartUptoSaid : Prop := imageApartUptoRow.holds Tryz.pinned (OpenSpec.upto imageApartSpec)

/-- 'tabulariumlaw11.SpaceAsks', WHERE WHAT IT READS IS OF BULK AT MOST 1048576: true; the input reads as it did. -/
def spaceAsksUptoRow : OpenClaim := { program := "ytdfckkadmgmcaaagreatdoor", sum := "9652d77dc2e1bf7c7cb53fc6609cef58a00ac4f5a26952cfb28424cb46166d63", func := "tabularium/tabulariumlaw11.SpaceAsks", spec := "spaceAsks", inPlace := ["internal/bytealg.CountString", "internal/bytealg.IndexByteString", "internal/bytealg.IndexString", "internal/bytealg.abigen_runtime_cmpstring", "slices.overlaps[tabularium/api.Lease]", "internal/abi.NoEscape", "internal/bytealg.MakeNoZero"], unfollowed := true, recurses := true, named := ["unicode/utf8.first", "unicode/utf8.acceptRanges", "internal/bytealg.MaxLen"], apart := false, laid := [("unicode/utf8.acceptRanges", laid_unicode_utf8_acceptRanges), ("unicode/utf8.first", laid_unicode_utf8_first)], narrowed := true }
def SpaceAsksUptoSaid : Prop := spaceAsksUptoRow.holds Tryz.pinned (OpenSpec.upto spaceAsksSpec)

end Rows
end Go.Proofs.YtdfckkadmgmcaaaGreatDoor
