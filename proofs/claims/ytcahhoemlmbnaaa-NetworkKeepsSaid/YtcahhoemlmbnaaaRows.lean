/-
  No cell of these rows narrows 'for every input' (looked for: loops, veiled, ifaces, maps, wideKeys, modest, calm, conditions, laid).
  DERIVED. THE GIVEN ROWS OF THIS SEAT. 5 by the template 'for every input the law returns true; each argument reads behind the call as it read before'; 0 by the template 'total and deterministic' (their statements: YtcahhoemlmbnaaaTotals.lean).
  GIVEN WITH THE SEED: the statements are not yours to turn. If you find one false, say at which input.
  Laid BY PROGRAM, IN A SANDBOX (cutbox-rows.mjs): the forced cells as the released guide's own fill.sh prints them over the translation ca57a25ba979ad09… (all of the seat's roots in one cut). By AI agents, Wed Nov 11 2026. No macro, syntax, notation, axiom, sorry.
-/
import Derived.Test.YtcahhoemlmbnaaaChecked
import GoSem.Claim
import GoSem.ClaimJoined
import GoSem.ClaimMapViews
import Derived.JoinedTies
import Derived.KernelRfl
namespace Go.Proofs.Ytcahhoemlmbnaaa
/- THE CELL 'sum', in the pinned program and in every row, IS THE sha256 OF THE DUMP (.gsa) THAT YtcahhoemlmbnaaaProg.lean LOADS. Nothing in Lean hashes anything: it is a label: what it is worth is what the hold of that sum in a sandbox is worth. -/
noncomputable def Try.pinned : Pinned := { name := "ytcahhoemlmbnaaa", sum := "ca57a25ba979ad0983cb308dacb21ac8155c4a93c9a54aa1cd479162b3246278", checked := Try.checked }
namespace Rows
def none {H : Type} : Left H := { results := [], args := [] }

/-- 'exchequerlaw30.NetworkOrder': WHATEVER THE INPUT: true; the input reads as it did. -/
def networkOrderSpec : ChangeSpec := { name := "networkOrder", fn := fun _ => fun
  | [d1, d2] => { results := [.lit (.bool true)], args := [d1, d2] }
  | _ => none }
def networkOrderRow : OpenClaim := { program := "ytcahhoemlmbnaaa", sum := "ca57a25ba979ad0983cb308dacb21ac8155c4a93c9a54aa1cd479162b3246278", func := "exchequer/exchequerlaw30.NetworkOrder", spec := "networkOrder", plainKeys := false, apart := false }
def NetworkOrderSaid : Prop := networkOrderRow.holds Try.pinned (OpenSpec.ofChange networkOrderSpec)

/-- ITS FALSE NEIGHBOUR: 'it returns false'. Refute it at one input. -/
def networkOrderWrong : ChangeSpec := { name := "networkOrder", fn := fun _ => fun
  | [d1, d2] => { results := [.lit (.bool false)], args := [d1, d2] }
  | _ => none }
def NetworkOrderWrongFalsely : Prop := networkOrderRow.holds Try.pinned (OpenSpec.ofChange networkOrderWrong)

/-- 'exchequerlaw30.NetworkKnown': WHATEVER THE INPUT: true; the input reads as it did. -/
def networkKnownSpec : ChangeSpec := { name := "networkKnown", fn := fun _ => fun
  | [] => { results := [.lit (.bool true)], args := [] }
  | _ => none }
def networkKnownRow : OpenClaim := { program := "ytcahhoemlmbnaaa", sum := "ca57a25ba979ad0983cb308dacb21ac8155c4a93c9a54aa1cd479162b3246278", func := "exchequer/exchequerlaw30.NetworkKnown", spec := "networkKnown", inPlace := ["slices.overlaps[exchequer/api.Packet]"], plainKeys := false, apart := false }
def NetworkKnownSaid : Prop := networkKnownRow.holds Try.pinned (OpenSpec.ofChange networkKnownSpec)

/-- ITS FALSE NEIGHBOUR: 'it returns false'. Refute it at one input. -/
def networkKnownWrong : ChangeSpec := { name := "networkKnown", fn := fun _ => fun
  | [] => { results := [.lit (.bool false)], args := [] }
  | _ => none }
def NetworkKnownWrongFalsely : Prop := networkKnownRow.holds Try.pinned (OpenSpec.ofChange networkKnownWrong)

/-- 'exchequerlaw30.NetworkKeeps': WHATEVER THE INPUT: true; the input reads as it did. -/
def networkKeepsSpec : ChangeSpec := { name := "networkKeeps", fn := fun _ => fun
  | [d] => { results := [.lit (.bool true)], args := [d] }
  | _ => none }
def networkKeepsRow : OpenClaim := { program := "ytcahhoemlmbnaaa", sum := "ca57a25ba979ad0983cb308dacb21ac8155c4a93c9a54aa1cd479162b3246278", func := "exchequer/exchequerlaw30.NetworkKeeps", spec := "networkKeeps", inPlace := ["slices.overlaps[exchequer/api.Packet]"], plainKeys := false, apart := false }
def NetworkKeepsSaid : Prop := networkKeepsRow.holds Try.pinned (OpenSpec.ofChange networkKeepsSpec)

/-- ITS FALSE NEIGHBOUR: 'it returns false'. Refute it at one input. -/
def networkKeepsWrong : ChangeSpec := { name := "networkKeeps", fn := fun _ => fun
  | [d] => { results := [.lit (.bool false)], args := [d] }
  | _ => none }
def NetworkKeepsWrongFalsely : Prop := networkKeepsRow.holds Try.pinned (OpenSpec.ofChange networkKeepsWrong)

/-- 'exchequerlaw30.NetworkScript': WHATEVER THE INPUT: true; the input reads as it did. -/
def networkScriptSpec : ChangeSpec := { name := "networkScript", fn := fun _ => fun
  | [d1, d2] => { results := [.lit (.bool true)], args := [d1, d2] }
  | _ => none }
def networkScriptRow : OpenClaim := { program := "ytcahhoemlmbnaaa", sum := "ca57a25ba979ad0983cb308dacb21ac8155c4a93c9a54aa1cd479162b3246278", func := "exchequer/exchequerlaw30.NetworkScript", spec := "networkScript", inPlace := ["slices.overlaps[exchequer/api.Packet]"], plainKeys := false, apart := false }
def NetworkScriptSaid : Prop := networkScriptRow.holds Try.pinned (OpenSpec.ofChange networkScriptSpec)

/-- ITS FALSE NEIGHBOUR: 'it returns false'. Refute it at one input. -/
def networkScriptWrong : ChangeSpec := { name := "networkScript", fn := fun _ => fun
  | [d1, d2] => { results := [.lit (.bool false)], args := [d1, d2] }
  | _ => none }
def NetworkScriptWrongFalsely : Prop := networkScriptRow.holds Try.pinned (OpenSpec.ofChange networkScriptWrong)

/-- 'exchequerlaw30.NetworkNone': WHATEVER THE INPUT: true; the input reads as it did. -/
def networkNoneSpec : ChangeSpec := { name := "networkNone", fn := fun _ => fun
  | [d] => { results := [.lit (.bool true)], args := [d] }
  | _ => none }
def networkNoneRow : OpenClaim := { program := "ytcahhoemlmbnaaa", sum := "ca57a25ba979ad0983cb308dacb21ac8155c4a93c9a54aa1cd479162b3246278", func := "exchequer/exchequerlaw30.NetworkNone", spec := "networkNone", inPlace := ["slices.overlaps[exchequer/api.Packet]"], plainKeys := false, apart := false }
def NetworkNoneSaid : Prop := networkNoneRow.holds Try.pinned (OpenSpec.ofChange networkNoneSpec)

/-- ITS FALSE NEIGHBOUR: 'it returns false'. Refute it at one input. -/
def networkNoneWrong : ChangeSpec := { name := "networkNone", fn := fun _ => fun
  | [d] => { results := [.lit (.bool false)], args := [d] }
  | _ => none }
def NetworkNoneWrongFalsely : Prop := networkNoneRow.holds Try.pinned (OpenSpec.ofChange networkNoneWrong)

/- THE SECOND FORM. 'bulk': how many values and letters a reading holds, each counted each time it is reached (what is shared counts as often as it is met; a slice's spare places count too). A statement '..UptoSaid' is the law's where the arguments, and the package variables that the reading takes, are together of bulk at most 1048576: NARROWER than '..Said'. Prove '..Said' where nothing that the law and all that it calls make is longer than what came in: it says more and counts as full. Else prove '..UptoSaid'. A law counts once. -/
mutual
def uptoBulk {H : Type} : DataW H → Nat
  | .lit (.string bytes) => bytes.length + 1
  | .lit _ => 1
  | .nil => 1
  | .ptr d => uptoBulk d + 1
  | .slice elems spare => uptoBulkAll elems + uptoBulkAll spare + 1
  | .agg parts => uptoBulkAll parts + 1
  | .iface _ d => uptoBulk d + 1
  | .map entries => uptoBulkEntries entries + 1
  | .held _ => 1
def uptoBulkAll {H : Type} : List (DataW H) → Nat
  | [] => 0
  | d :: r => uptoBulk d + uptoBulkAll r
def uptoBulkEntries {H : Type} : List (Lit × DataW H) → Nat
  | [] => 0
  | x :: r => uptoBulkEntry x + uptoBulkEntries r
def uptoBulkEntry {H : Type} : Lit × DataW H → Nat
  | (.string bytes, d) => bytes.length + uptoBulk d + 1
  | (_, d) => uptoBulk d + 1
 end
def uptoSmall : (H : Type) → List (DataW H) → Bool := fun _ ds => decide (uptoBulkAll ds ≤ 1048576)
def OpenSpec.upto (s : _root_.Go.ChangeSpec) : _root_.Go.OpenSpec := { _root_.Go.OpenSpec.ofChange s with cond := some uptoSmall }

/-- 'exchequerlaw30.NetworkOrder', WHERE WHAT IT READS IS OF BULK AT MOST 1048576: true; the input reads as it did. -/
def networkOrderUptoRow : OpenClaim := { program := "ytcahhoemlmbnaaa", sum := "ca57a25ba979ad0983cb308dacb21ac8155c4a93c9a54aa1cd479162b3246278", func := "exchequer/exchequerlaw30.NetworkOrder", spec := "networkOrder", plainKeys := false, apart := false, narrowed := true }
def NetworkOrderUptoSaid : Prop := networkOrderUptoRow.holds Try.pinned (OpenSpec.upto networkOrderSpec)

/-- 'exchequerlaw30.NetworkKnown', WHERE WHAT IT READS IS OF BULK AT MOST 1048576: true; the input reads as it did. -/
def networkKnownUptoRow : OpenClaim := { program := "ytcahhoemlmbnaaa", sum := "ca57a25ba979ad0983cb308dacb21ac8155c4a93c9a54aa1cd479162b3246278", func := "exchequer/exchequerlaw30.NetworkKnown", spec := "networkKnown", inPlace := ["slices.overlaps[exchequer/api.Packet]"], plainKeys := false, apart := false, narrowed := true }
def NetworkKnownUptoSaid : Prop := networkKnownUptoRow.holds Try.pinned (OpenSpec.upto networkKnownSpec)

/-- 'exchequerlaw30.NetworkKeeps', WHERE WHAT IT READS IS OF BULK AT MOST 1048576: true; the input reads as it did. -/
def networkKeepsUptoRow : OpenClaim := { program := "ytcahhoemlmbnaaa", sum := "ca57a25ba979ad0983cb308dacb21ac8155c4a93c9a54aa1cd479162b3246278", func := "exchequer/exchequerlaw30.NetworkKeeps", spec := "networkKeeps", inPlace := ["slices.overlaps[exchequer/api.Packet]"], plainKeys := false, apart := false, narrowed := true }
def NetworkKeepsUptoSaid : Prop := networkKeepsUptoRow.holds Try.pinned (OpenSpec.upto networkKeepsSpec)

/-- 'exchequerlaw30.NetworkScript', WHERE WHAT IT READS IS OF BULK AT MOST 1048576: true; the input reads as it did. -/
def networkScriptUptoRow : OpenClaim := { program := "ytcahhoemlmbnaaa", sum := "ca57a25ba979ad0983cb308dacb21ac8155c4a93c9a54aa1cd479162b3246278", func := "exchequer/exchequerlaw30.NetworkScript", spec := "networkScript", inPlace := ["slices.overlaps[exchequer/api.Packet]"], plainKeys := false, apart := false, narrowed := true }
def NetworkScriptUptoSaid : Prop := networkScriptUptoRow.holds Try.pinned (OpenSpec.upto networkScriptSpec)

/-- 'exchequerlaw30.NetworkNone', WHERE WHAT IT READS IS OF BULK AT MOST 1048576: true; the input reads as it did. -/
def networkNoneUptoRow : OpenClaim := { program := "ytcahhoemlmbnaaa", sum := "ca57a25ba979ad0983cb308dacb21ac8155c4a93c9a54aa1cd479162b3246278", func := "exchequer/exchequerlaw30.NetworkNone", spec := "networkNone", inPlace := ["slices.overlaps[exchequer/api.Packet]"], plainKeys := false, apart := false, narrowed := true }
def NetworkNoneUptoSaid : Prop := networkNoneUptoRow.holds Try.pinned (OpenSpec.upto networkNoneSpec)

end Rows
end Go.Proofs.Ytcahhoemlmbnaaa
