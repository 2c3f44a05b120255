/-
  No cell of these rows narrows 'for every input' (looked for: loops, veiled, ifaces, maps, wideKeys, modest, calm, conditions, laid).
  DERIVED. THE GIVEN ROWS OF THIS SEAT. 6 by the template 'for every input the law returns true; each argument reads behind the call as it read before'; 0 by the template 'total and deterministic' (their statements: YtoliafpammlkiaaTotals.lean).
  GIVEN WITH THE SEED: the statements are not yours to turn. If you find one false, say at which input.
  Laid BY PROGRAM, IN A SANDBOX (cutbox-rows.mjs): the forced cells as the released guide's own fill.sh prints them over the translation 8bfd9ad791fe075b… (all of the seat's roots in one cut). By AI agents, Wed Nov 11 2026. No macro, syntax, notation, axiom, sorry.
-/
import Derived.Test.YtoliafpammlkiaaChecked
import GoSem.Claim
import GoSem.ClaimJoined
import GoSem.ClaimMapViews
import Derived.JoinedTies
import Derived.KernelRfl
namespace Go.Proofs.Ytoliafpammlkiaa
/- THE CELL 'sum', in the pinned program and in every row, IS THE sha256 OF THE DUMP (.gsa) THAT YtoliafpammlkiaaProg.lean LOADS. Nothing in Lean hashes anything: it is a label: what it is worth is what the hold of that sum in a sandbox is worth. -/
noncomputable def Try.pinned : Pinned := { name := "ytoliafpammlkiaa", sum := "8bfd9ad791fe075be58e4c9ee93c78052adae4b7c276afb8ecd87ee5670ff030", checked := Try.checked }
namespace Rows
def none {H : Type} : Left H := { results := [], args := [] }

/-- 'exchequerlaw24.QuorumMeets': WHATEVER THE INPUT: true; the input reads as it did. -/
def quorumMeetsSpec : ChangeSpec := { name := "quorumMeets", fn := fun _ => fun
  | [d1, d2, d3] => { results := [.lit (.bool true)], args := [d1, d2, d3] }
  | _ => none }
def quorumMeetsRow : OpenClaim := { program := "ytoliafpammlkiaa", sum := "8bfd9ad791fe075be58e4c9ee93c78052adae4b7c276afb8ecd87ee5670ff030", func := "exchequer/exchequerlaw24.QuorumMeets", spec := "quorumMeets", apart := false }
def QuorumMeetsSaid : Prop := quorumMeetsRow.holds Try.pinned (OpenSpec.ofChange quorumMeetsSpec)

/-- ITS FALSE NEIGHBOUR: 'it returns false'. Refute it at one input. -/
def quorumMeetsWrong : ChangeSpec := { name := "quorumMeets", fn := fun _ => fun
  | [d1, d2, d3] => { results := [.lit (.bool false)], args := [d1, d2, d3] }
  | _ => none }
def QuorumMeetsWrongFalsely : Prop := quorumMeetsRow.holds Try.pinned (OpenSpec.ofChange quorumMeetsWrong)

/-- 'exchequerlaw24.QuorumAdds': WHATEVER THE INPUT: true; the input reads as it did. -/
def quorumAddsSpec : ChangeSpec := { name := "quorumAdds", fn := fun _ => fun
  | [d1, d2, d3, d4] => { results := [.lit (.bool true)], args := [d1, d2, d3, d4] }
  | _ => none }
def quorumAddsRow : OpenClaim := { program := "ytoliafpammlkiaa", sum := "8bfd9ad791fe075be58e4c9ee93c78052adae4b7c276afb8ecd87ee5670ff030", func := "exchequer/exchequerlaw24.QuorumAdds", spec := "quorumAdds", apart := false }
def QuorumAddsSaid : Prop := quorumAddsRow.holds Try.pinned (OpenSpec.ofChange quorumAddsSpec)

/-- ITS FALSE NEIGHBOUR: 'it returns false'. Refute it at one input. -/
def quorumAddsWrong : ChangeSpec := { name := "quorumAdds", fn := fun _ => fun
  | [d1, d2, d3, d4] => { results := [.lit (.bool false)], args := [d1, d2, d3, d4] }
  | _ => none }
def QuorumAddsWrongFalsely : Prop := quorumAddsRow.holds Try.pinned (OpenSpec.ofChange quorumAddsWrong)

/-- 'exchequerlaw24.QuorumSets': WHATEVER THE INPUT: true; the input reads as it did. -/
def quorumSetsSpec : ChangeSpec := { name := "quorumSets", fn := fun _ => fun
  | [d1, d2, d3, d4] => { results := [.lit (.bool true)], args := [d1, d2, d3, d4] }
  | _ => none }
def quorumSetsRow : OpenClaim := { program := "ytoliafpammlkiaa", sum := "8bfd9ad791fe075be58e4c9ee93c78052adae4b7c276afb8ecd87ee5670ff030", func := "exchequer/exchequerlaw24.QuorumSets", spec := "quorumSets", apart := false }
def QuorumSetsSaid : Prop := quorumSetsRow.holds Try.pinned (OpenSpec.ofChange quorumSetsSpec)

/-- ITS FALSE NEIGHBOUR: 'it returns false'. Refute it at one input. -/
def quorumSetsWrong : ChangeSpec := { name := "quorumSets", fn := fun _ => fun
  | [d1, d2, d3, d4] => { results := [.lit (.bool false)], args := [d1, d2, d3, d4] }
  | _ => none }
def QuorumSetsWrongFalsely : Prop := quorumSetsRow.holds Try.pinned (OpenSpec.ofChange quorumSetsWrong)

/-- 'exchequerlaw24.QuorumCounts': WHATEVER THE INPUT: true; the input reads as it did. -/
def quorumCountsSpec : ChangeSpec := { name := "quorumCounts", fn := fun _ => fun
  | [d1, d2, d3] => { results := [.lit (.bool true)], args := [d1, d2, d3] }
  | _ => none }
def quorumCountsRow : OpenClaim := { program := "ytoliafpammlkiaa", sum := "8bfd9ad791fe075be58e4c9ee93c78052adae4b7c276afb8ecd87ee5670ff030", func := "exchequer/exchequerlaw24.QuorumCounts", spec := "quorumCounts", apart := false }
def QuorumCountsSaid : Prop := quorumCountsRow.holds Try.pinned (OpenSpec.ofChange quorumCountsSpec)

/-- ITS FALSE NEIGHBOUR: 'it returns false'. Refute it at one input. -/
def quorumCountsWrong : ChangeSpec := { name := "quorumCounts", fn := fun _ => fun
  | [d1, d2, d3] => { results := [.lit (.bool false)], args := [d1, d2, d3] }
  | _ => none }
def QuorumCountsWrongFalsely : Prop := quorumCountsRow.holds Try.pinned (OpenSpec.ofChange quorumCountsWrong)

/-- 'exchequerlaw24.QuorumNext': WHATEVER THE INPUT: true; the input reads as it did. -/
def quorumNextSpec : ChangeSpec := { name := "quorumNext", fn := fun _ => fun
  | [d1, d2, d3] => { results := [.lit (.bool true)], args := [d1, d2, d3] }
  | _ => none }
def quorumNextRow : OpenClaim := { program := "ytoliafpammlkiaa", sum := "8bfd9ad791fe075be58e4c9ee93c78052adae4b7c276afb8ecd87ee5670ff030", func := "exchequer/exchequerlaw24.QuorumNext", spec := "quorumNext", apart := false }
def QuorumNextSaid : Prop := quorumNextRow.holds Try.pinned (OpenSpec.ofChange quorumNextSpec)

/-- ITS FALSE NEIGHBOUR: 'it returns false'. Refute it at one input. -/
def quorumNextWrong : ChangeSpec := { name := "quorumNext", fn := fun _ => fun
  | [d1, d2, d3] => { results := [.lit (.bool false)], args := [d1, d2, d3] }
  | _ => none }
def QuorumNextWrongFalsely : Prop := quorumNextRow.holds Try.pinned (OpenSpec.ofChange quorumNextWrong)

/-- 'exchequerlaw24.QuorumKnown': WHATEVER THE INPUT: true; the input reads as it did. -/
def quorumKnownSpec : ChangeSpec := { name := "quorumKnown", fn := fun _ => fun
  | [] => { results := [.lit (.bool true)], args := [] }
  | _ => none }
def quorumKnownRow : OpenClaim := { program := "ytoliafpammlkiaa", sum := "8bfd9ad791fe075be58e4c9ee93c78052adae4b7c276afb8ecd87ee5670ff030", func := "exchequer/exchequerlaw24.QuorumKnown", spec := "quorumKnown", apart := false }
def QuorumKnownSaid : Prop := quorumKnownRow.holds Try.pinned (OpenSpec.ofChange quorumKnownSpec)

/-- ITS FALSE NEIGHBOUR: 'it returns false'. Refute it at one input. -/
def quorumKnownWrong : ChangeSpec := { name := "quorumKnown", fn := fun _ => fun
  | [] => { results := [.lit (.bool false)], args := [] }
  | _ => none }
def QuorumKnownWrongFalsely : Prop := quorumKnownRow.holds Try.pinned (OpenSpec.ofChange quorumKnownWrong)

/- THE SECOND FORM. 'bulk': how many values and letters a reading holds, each counted each time it is reached (what is shared counts as often as it is met; a slice's spare places count too). A statement '..UptoSaid' is the law's where the arguments, and the package variables that the reading takes, are together of bulk at most 1048576: NARROWER than '..Said'. Prove '..Said' where nothing that the law and all that it calls make is longer than what came in: it says more and counts as full. Else prove '..UptoSaid'. A law counts once. -/
mutual
def uptoBulk {H : Type} : DataW H → Nat
  | .lit (.string bytes) => bytes.length + 1
  | .lit _ => 1
  | .nil => 1
  | .ptr d => uptoBulk d + 1
  | .slice elems spare => uptoBulkAll elems + uptoBulkAll spare + 1
  | .agg parts => uptoBulkAll parts + 1
  | .iface _ d => uptoBulk d + 1
  | .map entries => uptoBulkEntries entries + 1
  | .held _ => 1
def uptoBulkAll {H : Type} : List (DataW H) → Nat
  | [] => 0
  | d :: r => uptoBulk d + uptoBulkAll r
def uptoBulkEntries {H : Type} : List (Lit × DataW H) → Nat
  | [] => 0
  | x :: r => uptoBulkEntry x + uptoBulkEntries r
def uptoBulkEntry {H : Type} : Lit × DataW H → Nat
  | (.string bytes, d) => bytes.length + uptoBulk d + 1
  | (_, d) => uptoBulk d + 1
 end
def uptoSmall : (H : Type) → List (DataW H) → Bool := fun _ ds => decide (uptoBulkAll ds ≤ 1048576)
def OpenSpec.upto (s : _root_.Go.ChangeSpec) : _root_.Go.OpenSpec := { _root_.Go.OpenSpec.ofChange s with cond := some uptoSmall }

/-- 'exchequerlaw24.QuorumMeets', WHERE WHAT IT READS IS OF BULK AT MOST 1048576: true; the input reads as it did. -/
def quorumMeetsUptoRow : OpenClaim := { program := "ytoliafpammlkiaa", sum := "8bfd9ad791fe075be58e4c9ee93c78052adae4b7c276afb8ecd87ee5670ff030", func := "exchequer/exchequerlaw24.QuorumMeets", spec := "quorumMeets", apart := false, narrowed := true }
def QuorumMeetsUptoSaid : Prop := quorumMeetsUptoRow.holds Try.pinned (OpenSpec.upto quorumMeetsSpec)

/-- 'exchequerlaw24.QuorumAdds', WHERE WHAT IT READS IS OF BULK AT MOST 1048576: true; the input reads as it did. -/
def quorumAddsUptoRow : OpenClaim := { program := "ytoliafpammlkiaa", sum := "8bfd9ad791fe075be58e4c9ee93c78052adae4b7c276afb8ecd87ee5670ff030", func := "exchequer/exchequerlaw24.QuorumAdds", spec := "quorumAdds", apart := false, narrowed := true }
def QuorumAddsUptoSaid : Prop := quorumAddsUptoRow.holds Try.pinned (OpenSpec.upto quorumAddsSpec)

/-- 'exchequerlaw24.QuorumSets', WHERE WHAT IT READS IS OF BULK AT MOST 1048576: true; the input reads as it did. -/
def quorumSetsUptoRow : OpenClaim := { program := "ytoliafpammlkiaa", sum := "8bfd9ad791fe075be58e4c9ee93c78052adae4b7c276afb8ecd87ee5670ff030", func := "exchequer/exchequerlaw24.QuorumSets", spec := "quorumSets", apart := false, narrowed := true }
def QuorumSetsUptoSaid : Prop := quorumSetsUptoRow.holds Try.pinned (OpenSpec.upto quorumSetsSpec)

/-- 'exchequerlaw24.QuorumCounts', WHERE WHAT IT READS IS OF BULK AT MOST 1048576: true; the input reads as it did. -/
def quorumCountsUptoRow : OpenClaim := { program := "ytoliafpammlkiaa", sum := "8bfd9ad791fe075be58e4c9ee93c78052adae4b7c276afb8ecd87ee5670ff030", func := "exchequer/exchequerlaw24.QuorumCounts", spec := "quorumCounts", apart := false, narrowed := true }
def QuorumCountsUptoSaid : Prop := quorumCountsUptoRow.holds Try.pinned (OpenSpec.upto quorumCountsSpec)

/-- 'exchequerlaw24.QuorumNext', WHERE WHAT IT READS IS OF BULK AT MOST 1048576: true; the input reads as it did. -/
def quorumNextUptoRow : OpenClaim := { program := "ytoliafpammlkiaa", sum := "8bfd9ad791fe075be58e4c9ee93c78052adae4b7c276afb8ecd87ee5670ff030", func := "exchequer/exchequerlaw24.QuorumNext", spec := "quorumNext", apart := false, narrowed := true }
def QuorumNextUptoSaid : Prop := quorumNextUptoRow.holds Try.pinned (OpenSpec.upto quorumNextSpec)

/-- 'exchequerlaw24.QuorumKnown', WHERE WHAT IT READS IS OF BULK AT MOST 1048576: true; the input reads as it did. -/
def quorumKnownUptoRow : OpenClaim := { program := "ytoliafpammlkiaa", sum := "8bfd9ad791fe075be58e4c9ee93c78052adae4b7c276afb8ecd87ee5670ff030", func := "exchequer/exchequerlaw24.QuorumKnown", spec := "quorumKnown", apart := false, narrowed := true }
def QuorumKnownUptoSaid : Prop := quorumKnownUptoRow.holds Try.pinned (OpenSpec.upto quorumKnownSpec)

end Rows
end Go.Proofs.Ytoliafpammlkiaa
