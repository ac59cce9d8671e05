/-
  No cell of these rows narrows 'for every input' (looked for: loops, veiled, ifaces, maps, wideKeys, modest, calm, conditions, laid).
  DERIVED. THE GIVEN ROWS OF THIS SEAT. 8 by the template 'for every input the law returns true; each argument reads behind the call as it read before'; 0 by the template 'total and deterministic' (their statements: YtdkebkalcelgpaaTotals.lean).
  GIVEN WITH THE SEED: the statements are not yours to turn. If you find one false, say at which input.
  Laid BY PROGRAM, IN A SANDBOX (cutbox-rows.mjs): the forced cells as the released guide's own fill.sh prints them over the translation 38f6ee55fd4efea4… (all of the seat's roots in one cut). By AI agents, Wed Nov 11 2026. No macro, syntax, notation, axiom, sorry.
-/
import Derived.Test.YtdkebkalcelgpaaChecked
import GoSem.Claim
import GoSem.ClaimJoined
import GoSem.ClaimMapViews
import Derived.JoinedTies
import Derived.KernelRfl
namespace Go.Proofs.Ytdkebkalcelgpaa
/- THE CELL 'sum', in the pinned program and in every row, IS THE sha256 OF THE DUMP (.gsa) THAT YtdkebkalcelgpaaProg.lean LOADS. Nothing in Lean hashes anything: it is a label: what it is worth is what the hold of that sum in a sandbox is worth. -/
noncomputable def Try.pinned : Pinned := { name := "ytdkebkalcelgpaa", sum := "38f6ee55fd4efea45445d638ea71b16e9b240c3493346ac5e8c8251e28e65247", checked := Try.checked }
namespace Rows
def none {H : Type} : Left H := { results := [], args := [] }

/-- 'tabulariumlaw05.MailPlays': WHATEVER THE INPUT: true; the input reads as it did. -/
def mailPlaysSpec : ChangeSpec := { name := "mailPlays", fn := fun _ => fun
  | [d] => { results := [.lit (.bool true)], args := [d] }
  | _ => none }
def mailPlaysRow : OpenClaim := { program := "ytdkebkalcelgpaa", sum := "38f6ee55fd4efea45445d638ea71b16e9b240c3493346ac5e8c8251e28e65247", func := "tabularium/tabulariumlaw05.MailPlays", spec := "mailPlays", unfollowed := true, recurses := true, apart := false }
def MailPlaysSaid : Prop := mailPlaysRow.holds Try.pinned (OpenSpec.ofChange mailPlaysSpec)

/-- ITS FALSE NEIGHBOUR: 'it returns false'. Refute it at one input. -/
def mailPlaysWrong : ChangeSpec := { name := "mailPlays", fn := fun _ => fun
  | [d] => { results := [.lit (.bool false)], args := [d] }
  | _ => none }
def MailPlaysWrongFalsely : Prop := mailPlaysRow.holds Try.pinned (OpenSpec.ofChange mailPlaysWrong)

/-- 'tabulariumlaw05.MailTakes': WHATEVER THE INPUT: true; the input reads as it did. -/
def mailTakesSpec : ChangeSpec := { name := "mailTakes", fn := fun _ => fun
  | [d1, d2] => { results := [.lit (.bool true)], args := [d1, d2] }
  | _ => none }
def mailTakesRow : OpenClaim := { program := "ytdkebkalcelgpaa", sum := "38f6ee55fd4efea45445d638ea71b16e9b240c3493346ac5e8c8251e28e65247", func := "tabularium/tabulariumlaw05.MailTakes", spec := "mailTakes", unfollowed := true, recurses := true, apart := false }
def MailTakesSaid : Prop := mailTakesRow.holds Try.pinned (OpenSpec.ofChange mailTakesSpec)

/-- ITS FALSE NEIGHBOUR: 'it returns false'. Refute it at one input. -/
def mailTakesWrong : ChangeSpec := { name := "mailTakes", fn := fun _ => fun
  | [d1, d2] => { results := [.lit (.bool false)], args := [d1, d2] }
  | _ => none }
def MailTakesWrongFalsely : Prop := mailTakesRow.holds Try.pinned (OpenSpec.ofChange mailTakesWrong)

/-- 'tabulariumlaw05.MailAges': WHATEVER THE INPUT: true; the input reads as it did. -/
def mailAgesSpec : ChangeSpec := { name := "mailAges", fn := fun _ => fun
  | [d1, d2] => { results := [.lit (.bool true)], args := [d1, d2] }
  | _ => none }
def mailAgesRow : OpenClaim := { program := "ytdkebkalcelgpaa", sum := "38f6ee55fd4efea45445d638ea71b16e9b240c3493346ac5e8c8251e28e65247", func := "tabularium/tabulariumlaw05.MailAges", spec := "mailAges", unfollowed := true, recurses := true, apart := false }
def MailAgesSaid : Prop := mailAgesRow.holds Try.pinned (OpenSpec.ofChange mailAgesSpec)

/-- ITS FALSE NEIGHBOUR: 'it returns false'. Refute it at one input. -/
def mailAgesWrong : ChangeSpec := { name := "mailAges", fn := fun _ => fun
  | [d1, d2] => { results := [.lit (.bool false)], args := [d1, d2] }
  | _ => none }
def MailAgesWrongFalsely : Prop := mailAgesRow.holds Try.pinned (OpenSpec.ofChange mailAgesWrong)

/-- 'tabulariumlaw05.MailTwins': WHATEVER THE INPUT: true; the input reads as it did. -/
def mailTwinsSpec : ChangeSpec := { name := "mailTwins", fn := fun _ => fun
  | [d1, d2] => { results := [.lit (.bool true)], args := [d1, d2] }
  | _ => none }
def mailTwinsRow : OpenClaim := { program := "ytdkebkalcelgpaa", sum := "38f6ee55fd4efea45445d638ea71b16e9b240c3493346ac5e8c8251e28e65247", func := "tabularium/tabulariumlaw05.MailTwins", spec := "mailTwins", unfollowed := true, recurses := true, apart := false }
def MailTwinsSaid : Prop := mailTwinsRow.holds Try.pinned (OpenSpec.ofChange mailTwinsSpec)

/-- ITS FALSE NEIGHBOUR: 'it returns false'. Refute it at one input. -/
def mailTwinsWrong : ChangeSpec := { name := "mailTwins", fn := fun _ => fun
  | [d1, d2] => { results := [.lit (.bool false)], args := [d1, d2] }
  | _ => none }
def MailTwinsWrongFalsely : Prop := mailTwinsRow.holds Try.pinned (OpenSpec.ofChange mailTwinsWrong)

/-- 'tabulariumlaw09.LeaseLate': WHATEVER THE INPUT: true; the input reads as it did. -/
def leaseLateSpec : ChangeSpec := { name := "leaseLate", fn := fun _ => fun
  | [d1, d2, d3] => { results := [.lit (.bool true)], args := [d1, d2, d3] }
  | _ => none }
def leaseLateRow : OpenClaim := { program := "ytdkebkalcelgpaa", sum := "38f6ee55fd4efea45445d638ea71b16e9b240c3493346ac5e8c8251e28e65247", func := "tabularium/tabulariumlaw09.LeaseLate", spec := "leaseLate", inPlace := ["slices.overlaps[tabularium/api.Lease]"], unfollowed := true, recurses := true, apart := false }
def LeaseLateSaid : Prop := leaseLateRow.holds Try.pinned (OpenSpec.ofChange leaseLateSpec)

/-- ITS FALSE NEIGHBOUR: 'it returns false'. Refute it at one input. -/
def leaseLateWrong : ChangeSpec := { name := "leaseLate", fn := fun _ => fun
  | [d1, d2, d3] => { results := [.lit (.bool false)], args := [d1, d2, d3] }
  | _ => none }
def LeaseLateWrongFalsely : Prop := leaseLateRow.holds Try.pinned (OpenSpec.ofChange leaseLateWrong)

/-- 'tabulariumlaw09.LeaseTells': WHATEVER THE INPUT: true; the input reads as it did. -/
def leaseTellsSpec : ChangeSpec := { name := "leaseTells", fn := fun _ => fun
  | [d1, d2, d3] => { results := [.lit (.bool true)], args := [d1, d2, d3] }
  | _ => none }
def leaseTellsRow : OpenClaim := { program := "ytdkebkalcelgpaa", sum := "38f6ee55fd4efea45445d638ea71b16e9b240c3493346ac5e8c8251e28e65247", func := "tabularium/tabulariumlaw09.LeaseTells", spec := "leaseTells", inPlace := ["slices.overlaps[tabularium/api.Lease]"], unfollowed := true, recurses := true, apart := false }
def LeaseTellsSaid : Prop := leaseTellsRow.holds Try.pinned (OpenSpec.ofChange leaseTellsSpec)

/-- ITS FALSE NEIGHBOUR: 'it returns false'. Refute it at one input. -/
def leaseTellsWrong : ChangeSpec := { name := "leaseTells", fn := fun _ => fun
  | [d1, d2, d3] => { results := [.lit (.bool false)], args := [d1, d2, d3] }
  | _ => none }
def LeaseTellsWrongFalsely : Prop := leaseTellsRow.holds Try.pinned (OpenSpec.ofChange leaseTellsWrong)

/-- 'tabulariumlaw09.LeaseChanges': WHATEVER THE INPUT: true; the input reads as it did. -/
def leaseChangesSpec : ChangeSpec := { name := "leaseChanges", fn := fun _ => fun
  | [d1, d2, d3] => { results := [.lit (.bool true)], args := [d1, d2, d3] }
  | _ => none }
def leaseChangesRow : OpenClaim := { program := "ytdkebkalcelgpaa", sum := "38f6ee55fd4efea45445d638ea71b16e9b240c3493346ac5e8c8251e28e65247", func := "tabularium/tabulariumlaw09.LeaseChanges", spec := "leaseChanges", inPlace := ["slices.overlaps[tabularium/api.Lease]"], unfollowed := true, recurses := true, apart := false }
def LeaseChangesSaid : Prop := leaseChangesRow.holds Try.pinned (OpenSpec.ofChange leaseChangesSpec)

/-- ITS FALSE NEIGHBOUR: 'it returns false'. Refute it at one input. -/
def leaseChangesWrong : ChangeSpec := { name := "leaseChanges", fn := fun _ => fun
  | [d1, d2, d3] => { results := [.lit (.bool false)], args := [d1, d2, d3] }
  | _ => none }
def LeaseChangesWrongFalsely : Prop := leaseChangesRow.holds Try.pinned (OpenSpec.ofChange leaseChangesWrong)

/-- 'tabulariumlaw09.LeaseLasts': WHATEVER THE INPUT: true; the input reads as it did. -/
def leaseLastsSpec : ChangeSpec := { name := "leaseLasts", fn := fun _ => fun
  | [d1, d2, d3, d4, d5] => { results := [.lit (.bool true)], args := [d1, d2, d3, d4, d5] }
  | _ => none }
def leaseLastsRow : OpenClaim := { program := "ytdkebkalcelgpaa", sum := "38f6ee55fd4efea45445d638ea71b16e9b240c3493346ac5e8c8251e28e65247", func := "tabularium/tabulariumlaw09.LeaseLasts", spec := "leaseLasts", inPlace := ["slices.overlaps[tabularium/api.Lease]"], unfollowed := true, recurses := true, apart := false }
def LeaseLastsSaid : Prop := leaseLastsRow.holds Try.pinned (OpenSpec.ofChange leaseLastsSpec)

/-- ITS FALSE NEIGHBOUR: 'it returns false'. Refute it at one input. -/
def leaseLastsWrong : ChangeSpec := { name := "leaseLasts", fn := fun _ => fun
  | [d1, d2, d3, d4, d5] => { results := [.lit (.bool false)], args := [d1, d2, d3, d4, d5] }
  | _ => none }
def LeaseLastsWrongFalsely : Prop := leaseLastsRow.holds Try.pinned (OpenSpec.ofChange leaseLastsWrong)

/- THE SECOND FORM. 'bulk': how many values and letters a reading holds, each counted each time it is reached (what is shared counts as often as it is met; a slice's spare places count too). A statement '..UptoSaid' is the law's where the arguments, and the package variables that the reading takes, are together of bulk at most 1048576: NARROWER than '..Said'. Prove '..Said' where nothing that the law and all that it calls make is longer than what came in: it says more and counts as full. Else prove '..UptoSaid'. A law counts once. -/
mutual
def uptoBulk {H : Type} : DataW H → Nat
  | .lit (.string bytes) => bytes.length + 1
  | .lit _ => 1
  | .nil => 1
  | .ptr d => uptoBulk d + 1
  | .slice elems spare => uptoBulkAll elems + uptoBulkAll spare + 1
  | .agg parts => uptoBulkAll parts + 1
  | .iface _ d => uptoBulk d + 1
  | .map entries => uptoBulkEntries entries + 1
  | .held _ => 1
def uptoBulkAll {H : Type} : List (DataW H) → Nat
  | [] => 0
  | d :: r => uptoBulk d + uptoBulkAll r
def uptoBulkEntries {H : Type} : List (Lit × DataW H) → Nat
  | [] => 0
  | x :: r => uptoBulkEntry x + uptoBulkEntries r
def uptoBulkEntry {H : Type} : Lit × DataW H → Nat
  | (.string bytes, d) => bytes.length + uptoBulk d + 1
  | (_, d) => uptoBulk d + 1
 end
def uptoSmall : (H : Type) → List (DataW H) → Bool := fun _ ds => decide (uptoBulkAll ds ≤ 1048576)
def OpenSpec.upto (s : _root_.Go.ChangeSpec) : _root_.Go.OpenSpec := { _root_.Go.OpenSpec.ofChange s with cond := some uptoSmall }

/-- 'tabulariumlaw05.MailPlays', WHERE WHAT IT READS IS OF BULK AT MOST 1048576: true; the input reads as it did. -/
def mailPlaysUptoRow : OpenClaim := { program := "ytdkebkalcelgpaa", sum := "38f6ee55fd4efea45445d638ea71b16e9b240c3493346ac5e8c8251e28e65247", func := "tabularium/tabulariumlaw05.MailPlays", spec := "mailPlays", unfollowed := true, recurses := true, apart := false, narrowed := true }
def MailPlaysUptoSaid : Prop := mailPlaysUptoRow.holds Try.pinned (OpenSpec.upto mailPlaysSpec)

/-- 'tabulariumlaw05.MailTakes', WHERE WHAT IT READS IS OF BULK AT MOST 1048576: true; the input reads as it did. -/
def mailTakesUptoRow : OpenClaim := { program := "ytdkebkalcelgpaa", sum := "38f6ee55fd4efea45445d638ea71b16e9b240c3493346ac5e8c8251e28e65247", func := "tabularium/tabulariumlaw05.MailTakes", spec := "mailTakes", unfollowed := true, recurses := true, apart := false, narrowed := true }
def MailTakesUptoSaid : Prop := mailTakesUptoRow.holds Try.pinned (OpenSpec.upto mailTakesSpec)

/-- 'tabulariumlaw05.MailAges', WHERE WHAT IT READS IS OF BULK AT MOST 1048576: true; the input reads as it did. -/
def mailAgesUptoRow : OpenClaim := { program := "ytdkebkalcelgpaa", sum := "38f6ee55fd4efea45445d638ea71b16e9b240c3493346ac5e8c8251e28e65247", func := "tabularium/tabulariumlaw05.MailAges", spec := "mailAges", unfollowed := true, recurses := true, apart := false, narrowed := true }
def MailAgesUptoSaid : Prop := mailAgesUptoRow.holds Try.pinned (OpenSpec.upto mailAgesSpec)

/-- 'tabulariumlaw05.MailTwins', WHERE WHAT IT READS IS OF BULK AT MOST 1048576: true; the input reads as it did. -/
def mailTwinsUptoRow : OpenClaim := { program := "ytdkebkalcelgpaa", sum := "38f6ee55fd4efea45445d638ea71b16e9b240c3493346ac5e8c8251e28e65247", func := "tabularium/tabulariumlaw05.MailTwins", spec := "mailTwins", unfollowed := true, recurses := true, apart := false, narrowed := true }
def MailTwinsUptoSaid : Prop := mailTwinsUptoRow.holds Try.pinned (OpenSpec.upto mailTwinsSpec)

/-- 'tabulariumlaw09.LeaseLate', WHERE WHAT IT READS IS OF BULK AT MOST 1048576: true; the input reads as it did. -/
def leaseLateUptoRow : OpenClaim := { program := "ytdkebkalcelgpaa", sum := "38f6ee55fd4efea45445d638ea71b16e9b240c3493346ac5e8c8251e28e65247", func := "tabularium/tabulariumlaw09.LeaseLate", spec := "leaseLate", inPlace := ["slices.overlaps[tabularium/api.Lease]"], unfollowed := true, recurses := true, apart := false, narrowed := true }
def LeaseLateUptoSaid : Prop := leaseLateUptoRow.holds Try.pinned (OpenSpec.upto leaseLateSpec)

/-- 'tabulariumlaw09.LeaseTells', WHERE WHAT IT READS IS OF BULK AT MOST 1048576: true; the input reads as it did. -/
def leaseTellsUptoRow : OpenClaim := { program := "ytdkebkalcelgpaa", sum := "38f6ee55fd4efea45445d638ea71b16e9b240c3493346ac5e8c8251e28e65247", func := "tabularium/tabulariumlaw09.LeaseTells", spec := "leaseTells", inPlace := ["slices.overlaps[tabularium/api.Lease]"], unfollowed := true, recurses := true, apart := false, narrowed := true }
def LeaseTellsUptoSaid : Prop := leaseTellsUptoRow.holds Try.pinned (OpenSpec.upto leaseTellsSpec)

/-- 'tabulariumlaw09.LeaseChanges', WHERE WHAT IT READS IS OF BULK AT MOST 1048576: true; the input reads as it did. -/
def leaseChangesUptoRow : OpenClaim := { program := "ytdkebkalcelgpaa", sum := "38f6ee55fd4efea45445d638ea71b16e9b240c3493346ac5e8c8251e28e65247", func := "tabularium/tabulariumlaw09.LeaseChanges", spec := "leaseChanges", inPlace := ["slices.overlaps[tabularium/api.Lease]"], unfollowed := true, recurses := true, apart := false, narrowed := true }
def LeaseChangesUptoSaid : Prop := leaseChangesUptoRow.holds Try.pinned (OpenSpec.upto leaseChangesSpec)

/-- 'tabulariumlaw09.LeaseLasts', WHERE WHAT IT READS IS OF BULK AT MOST 1048576: true; the input reads as it did. -/
def leaseLastsUptoRow : OpenClaim := { program := "ytdkebkalcelgpaa", sum := "38f6ee55fd4efea45445d638ea71b16e9b240c3493346ac5e8c8251e28e65247", func := "tabularium/tabulariumlaw09.LeaseLasts", spec := "leaseLasts", inPlace := ["slices.overlaps[tabularium/api.Lease]"], unfollowed := true, recurses := true, apart := false, narrowed := true }
def LeaseLastsUptoSaid : Prop := leaseLastsUptoRow.holds Try.pinned (OpenSpec.upto leaseLastsSpec)

end Rows
end Go.Proofs.Ytdkebkalcelgpaa
