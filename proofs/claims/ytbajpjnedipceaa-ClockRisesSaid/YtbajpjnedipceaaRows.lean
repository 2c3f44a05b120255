/-
  No cell of these rows narrows 'for every input' (looked for: loops, veiled, ifaces, maps, wideKeys, modest, calm, conditions, laid).
  DERIVED. THE GIVEN ROWS OF THIS SEAT. 5 by the template 'for every input the law returns true; each argument reads behind the call as it read before'; 0 by the template 'total and deterministic' (their statements: YtbajpjnedipceaaTotals.lean).
  GIVEN WITH THE SEED: the statements are not yours to turn. If you find one false, say at which input.
  Laid BY PROGRAM, IN A SANDBOX (cutbox-rows.mjs): the forced cells as the released guide's own fill.sh prints them over the translation 35aa03ec13e5218d… (all of the seat's roots in one cut). By AI agents, Wed Nov 11 2026. No macro, syntax, notation, axiom, sorry.
-/
import Derived.Test.YtbajpjnedipceaaChecked
import GoSem.Claim
import GoSem.ClaimJoined
import GoSem.ClaimMapViews
import Derived.JoinedTies
import Derived.KernelRfl
namespace Go.Proofs.Ytbajpjnedipceaa
/- THE CELL 'sum', in the pinned program and in every row, IS THE sha256 OF THE DUMP (.gsa) THAT YtbajpjnedipceaaProg.lean LOADS. Nothing in Lean hashes anything: it is a label: what it is worth is what the hold of that sum in a sandbox is worth. -/
noncomputable def Try.pinned : Pinned := { name := "ytbajpjnedipceaa", sum := "35aa03ec13e5218d2b85037e3a609f902988f37fb82f17e5b3464528f0f3dc17", checked := Try.checked }
namespace Rows
def none {H : Type} : Left H := { results := [], args := [] }

/-- 'exchequerlaw25.ClockMoments': WHATEVER THE INPUT: true; the input reads as it did. -/
def clockMomentsSpec : ChangeSpec := { name := "clockMoments", fn := fun _ => fun
  | [d1, d2, d3] => { results := [.lit (.bool true)], args := [d1, d2, d3] }
  | _ => none }
def clockMomentsRow : OpenClaim := { program := "ytbajpjnedipceaa", sum := "35aa03ec13e5218d2b85037e3a609f902988f37fb82f17e5b3464528f0f3dc17", func := "exchequer/exchequerlaw25.ClockMoments", spec := "clockMoments", inPlace := ["math/bits.Add64"], apart := false }
def ClockMomentsSaid : Prop := clockMomentsRow.holds Try.pinned (OpenSpec.ofChange clockMomentsSpec)

/-- ITS FALSE NEIGHBOUR: 'it returns false'. Refute it at one input. -/
def clockMomentsWrong : ChangeSpec := { name := "clockMoments", fn := fun _ => fun
  | [d1, d2, d3] => { results := [.lit (.bool false)], args := [d1, d2, d3] }
  | _ => none }
def ClockMomentsWrongFalsely : Prop := clockMomentsRow.holds Try.pinned (OpenSpec.ofChange clockMomentsWrong)

/-- 'exchequerlaw25.ClockRises': WHATEVER THE INPUT: true; the input reads as it did. -/
def clockRisesSpec : ChangeSpec := { name := "clockRises", fn := fun _ => fun
  | [d1, d2, d3] => { results := [.lit (.bool true)], args := [d1, d2, d3] }
  | _ => none }
def clockRisesRow : OpenClaim := { program := "ytbajpjnedipceaa", sum := "35aa03ec13e5218d2b85037e3a609f902988f37fb82f17e5b3464528f0f3dc17", func := "exchequer/exchequerlaw25.ClockRises", spec := "clockRises", inPlace := ["math/bits.Add64"], apart := false }
def ClockRisesSaid : Prop := clockRisesRow.holds Try.pinned (OpenSpec.ofChange clockRisesSpec)

/-- ITS FALSE NEIGHBOUR: 'it returns false'. Refute it at one input. -/
def clockRisesWrong : ChangeSpec := { name := "clockRises", fn := fun _ => fun
  | [d1, d2, d3] => { results := [.lit (.bool false)], args := [d1, d2, d3] }
  | _ => none }
def ClockRisesWrongFalsely : Prop := clockRisesRow.holds Try.pinned (OpenSpec.ofChange clockRisesWrong)

/-- 'exchequerlaw25.ClockEnds': WHATEVER THE INPUT: true; the input reads as it did. -/
def clockEndsSpec : ChangeSpec := { name := "clockEnds", fn := fun _ => fun
  | [d1, d2] => { results := [.lit (.bool true)], args := [d1, d2] }
  | _ => none }
def clockEndsRow : OpenClaim := { program := "ytbajpjnedipceaa", sum := "35aa03ec13e5218d2b85037e3a609f902988f37fb82f17e5b3464528f0f3dc17", func := "exchequer/exchequerlaw25.ClockEnds", spec := "clockEnds", inPlace := ["math/bits.Add64"], apart := false }
def ClockEndsSaid : Prop := clockEndsRow.holds Try.pinned (OpenSpec.ofChange clockEndsSpec)

/-- ITS FALSE NEIGHBOUR: 'it returns false'. Refute it at one input. -/
def clockEndsWrong : ChangeSpec := { name := "clockEnds", fn := fun _ => fun
  | [d1, d2] => { results := [.lit (.bool false)], args := [d1, d2] }
  | _ => none }
def ClockEndsWrongFalsely : Prop := clockEndsRow.holds Try.pinned (OpenSpec.ofChange clockEndsWrong)

/-- 'exchequerlaw25.ClockTimers': WHATEVER THE INPUT: true; the input reads as it did. -/
def clockTimersSpec : ChangeSpec := { name := "clockTimers", fn := fun _ => fun
  | [d1, d2, d3] => { results := [.lit (.bool true)], args := [d1, d2, d3] }
  | _ => none }
def clockTimersRow : OpenClaim := { program := "ytbajpjnedipceaa", sum := "35aa03ec13e5218d2b85037e3a609f902988f37fb82f17e5b3464528f0f3dc17", func := "exchequer/exchequerlaw25.ClockTimers", spec := "clockTimers", inPlace := ["math/bits.Add64"], apart := false }
def ClockTimersSaid : Prop := clockTimersRow.holds Try.pinned (OpenSpec.ofChange clockTimersSpec)

/-- ITS FALSE NEIGHBOUR: 'it returns false'. Refute it at one input. -/
def clockTimersWrong : ChangeSpec := { name := "clockTimers", fn := fun _ => fun
  | [d1, d2, d3] => { results := [.lit (.bool false)], args := [d1, d2, d3] }
  | _ => none }
def ClockTimersWrongFalsely : Prop := clockTimersRow.holds Try.pinned (OpenSpec.ofChange clockTimersWrong)

/-- 'exchequerlaw25.ClockKnown': WHATEVER THE INPUT: true; the input reads as it did. -/
def clockKnownSpec : ChangeSpec := { name := "clockKnown", fn := fun _ => fun
  | [] => { results := [.lit (.bool true)], args := [] }
  | _ => none }
def clockKnownRow : OpenClaim := { program := "ytbajpjnedipceaa", sum := "35aa03ec13e5218d2b85037e3a609f902988f37fb82f17e5b3464528f0f3dc17", func := "exchequer/exchequerlaw25.ClockKnown", spec := "clockKnown", inPlace := ["math/bits.Add64"], apart := false }
def ClockKnownSaid : Prop := clockKnownRow.holds Try.pinned (OpenSpec.ofChange clockKnownSpec)

/-- ITS FALSE NEIGHBOUR: 'it returns false'. Refute it at one input. -/
def clockKnownWrong : ChangeSpec := { name := "clockKnown", fn := fun _ => fun
  | [] => { results := [.lit (.bool false)], args := [] }
  | _ => none }
def ClockKnownWrongFalsely : Prop := clockKnownRow.holds Try.pinned (OpenSpec.ofChange clockKnownWrong)

/- THE SECOND FORM. 'bulk': how many values and letters a reading holds, each counted each time it is reached (what is shared counts as often as it is met; a slice's spare places count too). A statement '..UptoSaid' is the law's where the arguments, and the package variables that the reading takes, are together of bulk at most 1048576: NARROWER than '..Said'. Prove '..Said' where nothing that the law and all that it calls make is longer than what came in: it says more and counts as full. Else prove '..UptoSaid'. A law counts once. -/
mutual
def uptoBulk {H : Type} : DataW H → Nat
  | .lit (.string bytes) => bytes.length + 1
  | .lit _ => 1
  | .nil => 1
  | .ptr d => uptoBulk d + 1
  | .slice elems spare => uptoBulkAll elems + uptoBulkAll spare + 1
  | .agg parts => uptoBulkAll parts + 1
  | .iface _ d => uptoBulk d + 1
  | .map entries => uptoBulkEntries entries + 1
  | .held _ => 1
def uptoBulkAll {H : Type} : List (DataW H) → Nat
  | [] => 0
  | d :: r => uptoBulk d + uptoBulkAll r
def uptoBulkEntries {H : Type} : List (Lit × DataW H) → Nat
  | [] => 0
  | x :: r => uptoBulkEntry x + uptoBulkEntries r
def uptoBulkEntry {H : Type} : Lit × DataW H → Nat
  | (.string bytes, d) => bytes.length + uptoBulk d + 1
  | (_, d) => uptoBulk d + 1
 end
def uptoSmall : (H : Type) → List (DataW H) → Bool := fun _ ds => decide (uptoBulkAll ds ≤ 1048576)
def OpenSpec.upto (s : _root_.Go.ChangeSpec) : _root_.Go.OpenSpec := { _root_.Go.OpenSpec.ofChange s with cond := some uptoSmall }

/-- 'exchequerlaw25.ClockMoments', WHERE WHAT IT READS IS OF BULK AT MOST 1048576: true; the input reads as it did. -/
def clockMomentsUptoRow : OpenClaim := { program := "ytbajpjnedipceaa", sum := "35aa03ec13e5218d2b85037e3a609f902988f37fb82f17e5b3464528f0f3dc17", func := "exchequer/exchequerlaw25.ClockMoments", spec := "clockMoments", inPlace := ["math/bits.Add64"], apart := false, narrowed := true }
def ClockMomentsUptoSaid : Prop := clockMomentsUptoRow.holds Try.pinned (OpenSpec.upto clockMomentsSpec)

/-- 'exchequerlaw25.ClockRises', WHERE WHAT IT READS IS OF BULK AT MOST 1048576: true; the input reads as it did. -/
def clockRisesUptoRow : OpenClaim := { program := "ytbajpjnedipceaa", sum := "35aa03ec13e5218d2b85037e3a609f902988f37fb82f17e5b3464528f0f3dc17", func := "exchequer/exchequerlaw25.ClockRises", spec := "clockRises", inPlace := ["math/bits.Add64"], apart := false, narrowed := true }
def ClockRisesUptoSaid : Prop := clockRisesUptoRow.holds Try.pinned (OpenSpec.upto clockRisesSpec)

/-- 'exchequerlaw25.ClockEnds', WHERE WHAT IT READS IS OF BULK AT MOST 1048576: true; the input reads as it did. -/
def clockEndsUptoRow : OpenClaim := { program := "ytbajpjnedipceaa", sum := "35aa03ec13e5218d2b85037e3a609f902988f37fb82f17e5b3464528f0f3dc17", func := "exchequer/exchequerlaw25.ClockEnds", spec := "clockEnds", inPlace := ["math/bits.Add64"], apart := false, narrowed := true }
def ClockEndsUptoSaid : Prop := clockEndsUptoRow.holds Try.pinned (OpenSpec.upto clockEndsSpec)

/-- 'exchequerlaw25.ClockTimers', WHERE WHAT IT READS IS OF BULK AT MOST 1048576: true; the input reads as it did. -/
def clockTimersUptoRow : OpenClaim := { program := "ytbajpjnedipceaa", sum := "35aa03ec13e5218d2b85037e3a609f902988f37fb82f17e5b3464528f0f3dc17", func := "exchequer/exchequerlaw25.ClockTimers", spec := "clockTimers", inPlace := ["math/bits.Add64"], apart := false, narrowed := true }
def ClockTimersUptoSaid : Prop := clockTimersUptoRow.holds Try.pinned (OpenSpec.upto clockTimersSpec)

/-- 'exchequerlaw25.ClockKnown', WHERE WHAT IT READS IS OF BULK AT MOST 1048576: true; the input reads as it did. -/
def clockKnownUptoRow : OpenClaim := { program := "ytbajpjnedipceaa", sum := "35aa03ec13e5218d2b85037e3a609f902988f37fb82f17e5b3464528f0f3dc17", func := "exchequer/exchequerlaw25.ClockKnown", spec := "clockKnown", inPlace := ["math/bits.Add64"], apart := false, narrowed := true }
def ClockKnownUptoSaid : Prop := clockKnownUptoRow.holds Try.pinned (OpenSpec.upto clockKnownSpec)

end Rows
end Go.Proofs.Ytbajpjnedipceaa
