/-
  No cell of these rows narrows 'for every input' (looked for: loops, veiled, ifaces, maps, wideKeys, modest, calm, conditions, laid).
  DERIVED. THE GIVEN ROWS OF THIS SEAT. 4 by the template 'for every input the law returns true; each argument reads behind the call as it read before'; 0 by the template 'total and deterministic' (their statements: YthbcemcgbgoplaaTotals.lean).
  GIVEN WITH THE SEED: the statements are not yours to turn. If you find one false, say at which input.
  Laid BY PROGRAM, IN A SANDBOX (cutbox-rows.mjs): the forced cells as the released guide's own fill.sh prints them over the translation 3603d1016caa6ccb… (all of the seat's roots in one cut). By AI agents, Wed Nov 11 2026. No macro, syntax, notation, axiom, sorry.
-/
import Derived.Test.YthbcemcgbgoplaaChecked
import GoSem.Claim
import GoSem.ClaimJoined
import GoSem.ClaimMapViews
import Derived.JoinedTies
import Derived.KernelRfl
namespace Go.Proofs.Ythbcemcgbgoplaa
/- THE CELL 'sum', in the pinned program and in every row, IS THE sha256 OF THE DUMP (.gsa) THAT YthbcemcgbgoplaaProg.lean LOADS. Nothing in Lean hashes anything: it is a label: what it is worth is what the hold of that sum in a sandbox is worth. -/
noncomputable def Try.pinned : Pinned := { name := "ythbcemcgbgoplaa", sum := "3603d1016caa6ccb101ffb4cd80fc091ad6bb4fbbe5d0747934c810bd19c3063", checked := Try.checked }
namespace Rows
def none {H : Type} : Left H := { results := [], args := [] }

/-- 'exchequerlaw26.PipelineOrder': WHATEVER THE INPUT: true; the input reads as it did. -/
def pipelineOrderSpec : ChangeSpec := { name := "pipelineOrder", fn := fun _ => fun
  | [d1, d2, d3, d4, d5] => { results := [.lit (.bool true)], args := [d1, d2, d3, d4, d5] }
  | _ => none }
def pipelineOrderRow : OpenClaim := { program := "ythbcemcgbgoplaa", sum := "3603d1016caa6ccb101ffb4cd80fc091ad6bb4fbbe5d0747934c810bd19c3063", func := "exchequer/exchequerlaw26.PipelineOrder", spec := "pipelineOrder", unfollowed := true, recurses := true, apart := false }
def PipelineOrderSaid : Prop := pipelineOrderRow.holds Try.pinned (OpenSpec.ofChange pipelineOrderSpec)

/-- ITS FALSE NEIGHBOUR: 'it returns false'. Refute it at one input. -/
def pipelineOrderWrong : ChangeSpec := { name := "pipelineOrder", fn := fun _ => fun
  | [d1, d2, d3, d4, d5] => { results := [.lit (.bool false)], args := [d1, d2, d3, d4, d5] }
  | _ => none }
def PipelineOrderWrongFalsely : Prop := pipelineOrderRow.holds Try.pinned (OpenSpec.ofChange pipelineOrderWrong)

/-- 'exchequerlaw26.PipelineKnown': WHATEVER THE INPUT: true; the input reads as it did. -/
def pipelineKnownSpec : ChangeSpec := { name := "pipelineKnown", fn := fun _ => fun
  | [] => { results := [.lit (.bool true)], args := [] }
  | _ => none }
def pipelineKnownRow : OpenClaim := { program := "ythbcemcgbgoplaa", sum := "3603d1016caa6ccb101ffb4cd80fc091ad6bb4fbbe5d0747934c810bd19c3063", func := "exchequer/exchequerlaw26.PipelineKnown", spec := "pipelineKnown", unfollowed := true, recurses := true, apart := false }
def PipelineKnownSaid : Prop := pipelineKnownRow.holds Try.pinned (OpenSpec.ofChange pipelineKnownSpec)

/-- ITS FALSE NEIGHBOUR: 'it returns false'. Refute it at one input. -/
def pipelineKnownWrong : ChangeSpec := { name := "pipelineKnown", fn := fun _ => fun
  | [] => { results := [.lit (.bool false)], args := [] }
  | _ => none }
def PipelineKnownWrongFalsely : Prop := pipelineKnownRow.holds Try.pinned (OpenSpec.ofChange pipelineKnownWrong)

/-- 'exchequerlaw26.PipelineScript': WHATEVER THE INPUT: true; the input reads as it did. -/
def pipelineScriptSpec : ChangeSpec := { name := "pipelineScript", fn := fun _ => fun
  | [d1, d2, d3] => { results := [.lit (.bool true)], args := [d1, d2, d3] }
  | _ => none }
def pipelineScriptRow : OpenClaim := { program := "ythbcemcgbgoplaa", sum := "3603d1016caa6ccb101ffb4cd80fc091ad6bb4fbbe5d0747934c810bd19c3063", func := "exchequer/exchequerlaw26.PipelineScript", spec := "pipelineScript", unfollowed := true, recurses := true, apart := false }
def PipelineScriptSaid : Prop := pipelineScriptRow.holds Try.pinned (OpenSpec.ofChange pipelineScriptSpec)

/-- ITS FALSE NEIGHBOUR: 'it returns false'. Refute it at one input. -/
def pipelineScriptWrong : ChangeSpec := { name := "pipelineScript", fn := fun _ => fun
  | [d1, d2, d3] => { results := [.lit (.bool false)], args := [d1, d2, d3] }
  | _ => none }
def PipelineScriptWrongFalsely : Prop := pipelineScriptRow.holds Try.pinned (OpenSpec.ofChange pipelineScriptWrong)

/-- 'exchequerlaw26.PipelineNone': WHATEVER THE INPUT: true; the input reads as it did. -/
def pipelineNoneSpec : ChangeSpec := { name := "pipelineNone", fn := fun _ => fun
  | [d] => { results := [.lit (.bool true)], args := [d] }
  | _ => none }
def pipelineNoneRow : OpenClaim := { program := "ythbcemcgbgoplaa", sum := "3603d1016caa6ccb101ffb4cd80fc091ad6bb4fbbe5d0747934c810bd19c3063", func := "exchequer/exchequerlaw26.PipelineNone", spec := "pipelineNone", unfollowed := true, recurses := true, apart := false }
def PipelineNoneSaid : Prop := pipelineNoneRow.holds Try.pinned (OpenSpec.ofChange pipelineNoneSpec)

/-- ITS FALSE NEIGHBOUR: 'it returns false'. Refute it at one input. -/
def pipelineNoneWrong : ChangeSpec := { name := "pipelineNone", fn := fun _ => fun
  | [d] => { results := [.lit (.bool false)], args := [d] }
  | _ => none }
def PipelineNoneWrongFalsely : Prop := pipelineNoneRow.holds Try.pinned (OpenSpec.ofChange pipelineNoneWrong)

/- THE SECOND FORM. 'bulk': how many values and letters a reading holds, each counted each time it is reached (what is shared counts as often as it is met; a slice's spare places count too). A statement '..UptoSaid' is the law's where the arguments, and the package variables that the reading takes, are together of bulk at most 1048576: NARROWER than '..Said'. Prove '..Said' where nothing that the law and all that it calls make is longer than what came in: it says more and counts as full. Else prove '..UptoSaid'. A law counts once. -/
mutual
def uptoBulk {H : Type} : DataW H → Nat
  | .lit (.string bytes) => bytes.length + 1
  | .lit _ => 1
  | .nil => 1
  | .ptr d => uptoBulk d + 1
  | .slice elems spare => uptoBulkAll elems + uptoBulkAll spare + 1
  | .agg parts => uptoBulkAll parts + 1
  | .iface _ d => uptoBulk d + 1
  | .map entries => uptoBulkEntries entries + 1
  | .held _ => 1
def uptoBulkAll {H : Type} : List (DataW H) → Nat
  | [] => 0
  | d :: r => uptoBulk d + uptoBulkAll r
def uptoBulkEntries {H : Type} : List (Lit × DataW H) → Nat
  | [] => 0
  | x :: r => uptoBulkEntry x + uptoBulkEntries r
def uptoBulkEntry {H : Type} : Lit × DataW H → Nat
  | (.string bytes, d) => bytes.length + uptoBulk d + 1
  | (_, d) => uptoBulk d + 1
 end
def uptoSmall : (H : Type) → List (DataW H) → Bool := fun _ ds => decide (uptoBulkAll ds ≤ 1048576)
def OpenSpec.upto (s : _root_.Go.ChangeSpec) : _root_.Go.OpenSpec := { _root_.Go.OpenSpec.ofChange s with cond := some uptoSmall }

/-- 'exchequerlaw26.PipelineOrder', WHERE WHAT IT READS IS OF BULK AT MOST 1048576: true; the input reads as it did. -/
def pipelineOrderUptoRow : OpenClaim := { program := "ythbcemcgbgoplaa", sum := "3603d1016caa6ccb101ffb4cd80fc091ad6bb4fbbe5d0747934c810bd19c3063", func := "exchequer/exchequerlaw26.PipelineOrder", spec := "pipelineOrder", unfollowed := true, recurses := true, apart := false, narrowed := true }
def PipelineOrderUptoSaid : Prop := pipelineOrderUptoRow.holds Try.pinned (OpenSpec.upto pipelineOrderSpec)

/-- 'exchequerlaw26.PipelineKnown', WHERE WHAT IT READS IS OF BULK AT MOST 1048576: true; the input reads as it did. -/
def pipelineKnownUptoRow : OpenClaim := { program := "ythbcemcgbgoplaa", sum := "3603d1016caa6ccb101ffb4cd80fc091ad6bb4fbbe5d0747934c810bd19c3063", func := "exchequer/exchequerlaw26.PipelineKnown", spec := "pipelineKnown", unfollowed := true, recurses := true, apart := false, narrowed := true }
def PipelineKnownUptoSaid : Prop := pipelineKnownUptoRow.holds Try.pinned (OpenSpec.upto pipelineKnownSpec)

/-- 'exchequerlaw26.PipelineScript', WHERE WHAT IT READS IS OF BULK AT MOST 1048576: true; the input reads as it did. -/
def pipelineScriptUptoRow : OpenClaim := { program := "ythbcemcgbgoplaa", sum := "3603d1016caa6ccb101ffb4cd80fc091ad6bb4fbbe5d0747934c810bd19c3063", func := "exchequer/exchequerlaw26.PipelineScript", spec := "pipelineScript", unfollowed := true, recurses := true, apart := false, narrowed := true }
def PipelineScriptUptoSaid : Prop := pipelineScriptUptoRow.holds Try.pinned (OpenSpec.upto pipelineScriptSpec)

/-- 'exchequerlaw26.PipelineNone', WHERE WHAT IT READS IS OF BULK AT MOST 1048576: true; the input reads as it did. -/
def pipelineNoneUptoRow : OpenClaim := { program := "ythbcemcgbgoplaa", sum := "3603d1016caa6ccb101ffb4cd80fc091ad6bb4fbbe5d0747934c810bd19c3063", func := "exchequer/exchequerlaw26.PipelineNone", spec := "pipelineNone", unfollowed := true, recurses := true, apart := false, narrowed := true }
def PipelineNoneUptoSaid : Prop := pipelineNoneUptoRow.holds Try.pinned (OpenSpec.upto pipelineNoneSpec)

end Rows
end Go.Proofs.Ythbcemcgbgoplaa
