/-
  No cell of these rows narrows 'for every input' (looked for: loops, veiled, ifaces, maps, wideKeys, modest, calm, conditions, laid).
  DERIVED. THE GIVEN ROWS OF THIS SEAT. 5 by the template 'for every input the law returns true; each argument reads behind the call as it read before'; 0 by the template 'total and deterministic' (their statements: YtcmcelilollchaaTotals.lean).
  GIVEN WITH THE SEED: the statements are not yours to turn. If you find one false, say at which input.
  Laid BY PROGRAM, IN A SANDBOX (cutbox-rows.mjs): the forced cells as the released guide's own fill.sh prints them over the translation 159f324177742d88… (all of the seat's roots in one cut). By AI agents, Wed Nov 11 2026. No macro, syntax, notation, axiom, sorry.
-/
import Derived.Test.YtcmcelilollchaaChecked
import GoSem.Claim
import GoSem.ClaimJoined
import GoSem.ClaimMapViews
import Derived.JoinedTies
import Derived.KernelRfl
namespace Go.Proofs.Ytcmcelilollchaa
/- THE CELL 'sum', in the pinned program and in every row, IS THE sha256 OF THE DUMP (.gsa) THAT YtcmcelilollchaaProg.lean LOADS. Nothing in Lean hashes anything: it is a label: what it is worth is what the hold of that sum in a sandbox is worth. -/
noncomputable def Try.pinned : Pinned := { name := "ytcmcelilollchaa", sum := "159f324177742d882df861071a8e8cf89ef1608abce55c8ad2a6a7e0459a14e6", checked := Try.checked }
namespace Rows
def none {H : Type} : Left H := { results := [], args := [] }

/-- 'exchequerlaw23.MessageLogs': WHATEVER THE INPUT: true; the input reads as it did. -/
def messageLogsSpec : ChangeSpec := { name := "messageLogs", fn := fun _ => fun
  | [d1, d2] => { results := [.lit (.bool true)], args := [d1, d2] }
  | _ => none }
def messageLogsRow : OpenClaim := { program := "ytcmcelilollchaa", sum := "159f324177742d882df861071a8e8cf89ef1608abce55c8ad2a6a7e0459a14e6", func := "exchequer/exchequerlaw23.MessageLogs", spec := "messageLogs", apart := false }
def MessageLogsSaid : Prop := messageLogsRow.holds Try.pinned (OpenSpec.ofChange messageLogsSpec)

/-- ITS FALSE NEIGHBOUR: 'it returns false'. Refute it at one input. -/
def messageLogsWrong : ChangeSpec := { name := "messageLogs", fn := fun _ => fun
  | [d1, d2] => { results := [.lit (.bool false)], args := [d1, d2] }
  | _ => none }
def MessageLogsWrongFalsely : Prop := messageLogsRow.holds Try.pinned (OpenSpec.ofChange messageLogsWrong)

/-- 'exchequerlaw23.MessageSize': WHATEVER THE INPUT: true; the input reads as it did. -/
def messageSizeSpec : ChangeSpec := { name := "messageSize", fn := fun _ => fun
  | [d1, d2] => { results := [.lit (.bool true)], args := [d1, d2] }
  | _ => none }
def messageSizeRow : OpenClaim := { program := "ytcmcelilollchaa", sum := "159f324177742d882df861071a8e8cf89ef1608abce55c8ad2a6a7e0459a14e6", func := "exchequer/exchequerlaw23.MessageSize", spec := "messageSize", apart := false }
def MessageSizeSaid : Prop := messageSizeRow.holds Try.pinned (OpenSpec.ofChange messageSizeSpec)

/-- ITS FALSE NEIGHBOUR: 'it returns false'. Refute it at one input. -/
def messageSizeWrong : ChangeSpec := { name := "messageSize", fn := fun _ => fun
  | [d1, d2] => { results := [.lit (.bool false)], args := [d1, d2] }
  | _ => none }
def MessageSizeWrongFalsely : Prop := messageSizeRow.holds Try.pinned (OpenSpec.ofChange messageSizeWrong)

/-- 'exchequerlaw23.MessageKnown': WHATEVER THE INPUT: true; the input reads as it did. -/
def messageKnownSpec : ChangeSpec := { name := "messageKnown", fn := fun _ => fun
  | [] => { results := [.lit (.bool true)], args := [] }
  | _ => none }
def messageKnownRow : OpenClaim := { program := "ytcmcelilollchaa", sum := "159f324177742d882df861071a8e8cf89ef1608abce55c8ad2a6a7e0459a14e6", func := "exchequer/exchequerlaw23.MessageKnown", spec := "messageKnown", unfollowed := true, recurses := true, apart := false }
def MessageKnownSaid : Prop := messageKnownRow.holds Try.pinned (OpenSpec.ofChange messageKnownSpec)

/-- ITS FALSE NEIGHBOUR: 'it returns false'. Refute it at one input. -/
def messageKnownWrong : ChangeSpec := { name := "messageKnown", fn := fun _ => fun
  | [] => { results := [.lit (.bool false)], args := [] }
  | _ => none }
def MessageKnownWrongFalsely : Prop := messageKnownRow.holds Try.pinned (OpenSpec.ofChange messageKnownWrong)

/-- 'exchequerlaw23.MessageIDs': WHATEVER THE INPUT: true; the input reads as it did. -/
def messageIDsSpec : ChangeSpec := { name := "messageIDs", fn := fun _ => fun
  | [d1, d2] => { results := [.lit (.bool true)], args := [d1, d2] }
  | _ => none }
def messageIDsRow : OpenClaim := { program := "ytcmcelilollchaa", sum := "159f324177742d882df861071a8e8cf89ef1608abce55c8ad2a6a7e0459a14e6", func := "exchequer/exchequerlaw23.MessageIDs", spec := "messageIDs", unfollowed := true, recurses := true, apart := false }
def MessageIDsSaid : Prop := messageIDsRow.holds Try.pinned (OpenSpec.ofChange messageIDsSpec)

/-- ITS FALSE NEIGHBOUR: 'it returns false'. Refute it at one input. -/
def messageIDsWrong : ChangeSpec := { name := "messageIDs", fn := fun _ => fun
  | [d1, d2] => { results := [.lit (.bool false)], args := [d1, d2] }
  | _ => none }
def MessageIDsWrongFalsely : Prop := messageIDsRow.holds Try.pinned (OpenSpec.ofChange messageIDsWrong)

/-- 'exchequerlaw23.MessageBack': WHATEVER THE INPUT: true; the input reads as it did. -/
def messageBackSpec : ChangeSpec := { name := "messageBack", fn := fun _ => fun
  | [d1, d2, d3] => { results := [.lit (.bool true)], args := [d1, d2, d3] }
  | _ => none }
def messageBackRow : OpenClaim := { program := "ytcmcelilollchaa", sum := "159f324177742d882df861071a8e8cf89ef1608abce55c8ad2a6a7e0459a14e6", func := "exchequer/exchequerlaw23.MessageBack", spec := "messageBack", unfollowed := true, recurses := true, apart := false }
def MessageBackSaid : Prop := messageBackRow.holds Try.pinned (OpenSpec.ofChange messageBackSpec)

/-- ITS FALSE NEIGHBOUR: 'it returns false'. Refute it at one input. -/
def messageBackWrong : ChangeSpec := { name := "messageBack", fn := fun _ => fun
  | [d1, d2, d3] => { results := [.lit (.bool false)], args := [d1, d2, d3] }
  | _ => none }
def MessageBackWrongFalsely : Prop := messageBackRow.holds Try.pinned (OpenSpec.ofChange messageBackWrong)

/- THE SECOND FORM. 'bulk': how many values and letters a reading holds, each counted each time it is reached (what is shared counts as often as it is met; a slice's spare places count too). A statement '..UptoSaid' is the law's where the arguments, and the package variables that the reading takes, are together of bulk at most 1048576: NARROWER than '..Said'. Prove '..Said' where nothing that the law and all that it calls make is longer than what came in: it says more and counts as full. Else prove '..UptoSaid'. A law counts once. -/
mutual
def uptoBulk {H : Type} : DataW H → Nat
  | .lit (.string bytes) => bytes.length + 1
  | .lit _ => 1
  | .nil => 1
  | .ptr d => uptoBulk d + 1
  | .slice elems spare => uptoBulkAll elems + uptoBulkAll spare + 1
  | .agg parts => uptoBulkAll parts + 1
  | .iface _ d => uptoBulk d + 1
  | .map entries => uptoBulkEntries entries + 1
  | .held _ => 1
def uptoBulkAll {H : Type} : List (DataW H) → Nat
  | [] => 0
  | d :: r => uptoBulk d + uptoBulkAll r
def uptoBulkEntries {H : Type} : List (Lit × DataW H) → Nat
  | [] => 0
  | x :: r => uptoBulkEntry x + uptoBulkEntries r
def uptoBulkEntry {H : Type} : Lit × DataW H → Nat
  | (.string bytes, d) => bytes.length + uptoBulk d + 1
  | (_, d) => uptoBulk d + 1
 end
def uptoSmall : (H : Type) → List (DataW H) → Bool := fun _ ds => decide (uptoBulkAll ds ≤ 1048576)
def OpenSpec.upto (s : _root_.Go.ChangeSpec) : _root_.Go.OpenSpec := { _root_.Go.OpenSpec.ofChange s with cond := some uptoSmall }

/-- 'exchequerlaw23.MessageLogs', WHERE WHAT IT READS IS OF BULK AT MOST 1048576: true; the input reads as it did. -/
def messageLogsUptoRow : OpenClaim := { program := "ytcmcelilollchaa", sum := "159f324177742d882df861071a8e8cf89ef1608abce55c8ad2a6a7e0459a14e6", func := "exchequer/exchequerlaw23.MessageLogs", spec := "messageLogs", apart := false, narrowed := true }
def MessageLogsUptoSaid : Prop := messageLogsUptoRow.holds Try.pinned (OpenSpec.upto messageLogsSpec)

/-- 'exchequerlaw23.MessageSize', WHERE WHAT IT READS IS OF BULK AT MOST 1048576: true; the input reads as it did. -/
def messageSizeUptoRow : OpenClaim := { program := "ytcmcelilollchaa", sum := "159f324177742d882df861071a8e8cf89ef1608abce55c8ad2a6a7e0459a14e6", func := "exchequer/exchequerlaw23.MessageSize", spec := "messageSize", apart := false, narrowed := true }
def MessageSizeUptoSaid : Prop := messageSizeUptoRow.holds Try.pinned (OpenSpec.upto messageSizeSpec)

/-- 'exchequerlaw23.MessageKnown', WHERE WHAT IT READS IS OF BULK AT MOST 1048576: true; the input reads as it did. -/
def messageKnownUptoRow : OpenClaim := { program := "ytcmcelilollchaa", sum := "159f324177742d882df861071a8e8cf89ef1608abce55c8ad2a6a7e0459a14e6", func := "exchequer/exchequerlaw23.MessageKnown", spec := "messageKnown", unfollowed := true, recurses := true, apart := false, narrowed := true }
def MessageKnownUptoSaid : Prop := messageKnownUptoRow.holds Try.pinned (OpenSpec.upto messageKnownSpec)

/-- 'exchequerlaw23.MessageIDs', WHERE WHAT IT READS IS OF BULK AT MOST 1048576: true; the input reads as it did. -/
def messageIDsUptoRow : OpenClaim := { program := "ytcmcelilollchaa", sum := "159f324177742d882df861071a8e8cf89ef1608abce55c8ad2a6a7e0459a14e6", func := "exchequer/exchequerlaw23.MessageIDs", spec := "messageIDs", unfollowed := true, recurses := true, apart := false, narrowed := true }
def MessageIDsUptoSaid : Prop := messageIDsUptoRow.holds Try.pinned (OpenSpec.upto messageIDsSpec)

/-- 'exchequerlaw23.MessageBack', WHERE WHAT IT READS IS OF BULK AT MOST 1048576: true; the input reads as it did. -/
def messageBackUptoRow : OpenClaim := { program := "ytcmcelilollchaa", sum := "159f324177742d882df861071a8e8cf89ef1608abce55c8ad2a6a7e0459a14e6", func := "exchequer/exchequerlaw23.MessageBack", spec := "messageBack", unfollowed := true, recurses := true, apart := false, narrowed := true }
def MessageBackUptoSaid : Prop := messageBackUptoRow.holds Try.pinned (OpenSpec.upto messageBackSpec)

end Rows
end Go.Proofs.Ytcmcelilollchaa
