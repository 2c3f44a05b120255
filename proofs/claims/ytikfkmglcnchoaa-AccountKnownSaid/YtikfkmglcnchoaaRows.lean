/-
  No cell of these rows narrows 'for every input' (looked for: loops, veiled, ifaces, maps, wideKeys, modest, calm, conditions, laid).
  DERIVED. THE GIVEN ROWS OF THIS SEAT. 6 by the template 'for every input the law returns true; each argument reads behind the call as it read before'; 0 by the template 'total and deterministic' (their statements: YtikfkmglcnchoaaTotals.lean).
  GIVEN WITH THE SEED: the statements are not yours to turn. If you find one false, say at which input.
  Laid BY PROGRAM, IN A SANDBOX (cutbox-rows.mjs): the forced cells as the released guide's own fill.sh prints them over the translation 26cca1adca5bf3eb… (all of the seat's roots in one cut). By AI agents, Wed Nov 11 2026. No macro, syntax, notation, axiom, sorry.
-/
import Derived.Test.YtikfkmglcnchoaaChecked
import GoSem.Claim
import GoSem.ClaimJoined
import GoSem.ClaimMapViews
import Derived.JoinedTies
import Derived.KernelRfl
namespace Go.Proofs.Ytikfkmglcnchoaa
/- THE CELL 'sum', in the pinned program and in every row, IS THE sha256 OF THE DUMP (.gsa) THAT YtikfkmglcnchoaaProg.lean LOADS. Nothing in Lean hashes anything: it is a label: what it is worth is what the hold of that sum in a sandbox is worth. -/
noncomputable def Try.pinned : Pinned := { name := "ytikfkmglcnchoaa", sum := "26cca1adca5bf3eba38685868ad894da70e88f9755531f4c17bbebd9d9fc9eb2", checked := Try.checked }
namespace Rows
def none {H : Type} : Left H := { results := [], args := [] }

/-- 'exchequerlaw17.AccountChecks': WHATEVER THE INPUT: true; the input reads as it did. -/
def accountChecksSpec : ChangeSpec := { name := "accountChecks", fn := fun _ => fun
  | [d] => { results := [.lit (.bool true)], args := [d] }
  | _ => none }
def accountChecksRow : OpenClaim := { program := "ytikfkmglcnchoaa", sum := "26cca1adca5bf3eba38685868ad894da70e88f9755531f4c17bbebd9d9fc9eb2", func := "exchequer/exchequerlaw17.AccountChecks", spec := "accountChecks", inPlace := ["math/bits.Add64"], apart := false }
def AccountChecksSaid : Prop := accountChecksRow.holds Try.pinned (OpenSpec.ofChange accountChecksSpec)

/-- ITS FALSE NEIGHBOUR: 'it returns false'. Refute it at one input. -/
def accountChecksWrong : ChangeSpec := { name := "accountChecks", fn := fun _ => fun
  | [d] => { results := [.lit (.bool false)], args := [d] }
  | _ => none }
def AccountChecksWrongFalsely : Prop := accountChecksRow.holds Try.pinned (OpenSpec.ofChange accountChecksWrong)

/-- 'exchequerlaw17.AccountKnown': WHATEVER THE INPUT: true; the input reads as it did. -/
def accountKnownSpec : ChangeSpec := { name := "accountKnown", fn := fun _ => fun
  | [] => { results := [.lit (.bool true)], args := [] }
  | _ => none }
def accountKnownRow : OpenClaim := { program := "ytikfkmglcnchoaa", sum := "26cca1adca5bf3eba38685868ad894da70e88f9755531f4c17bbebd9d9fc9eb2", func := "exchequer/exchequerlaw17.AccountKnown", spec := "accountKnown", inPlace := ["math/bits.Add64"], apart := false }
def AccountKnownSaid : Prop := accountKnownRow.holds Try.pinned (OpenSpec.ofChange accountKnownSpec)

/-- ITS FALSE NEIGHBOUR: 'it returns false'. Refute it at one input. -/
def accountKnownWrong : ChangeSpec := { name := "accountKnown", fn := fun _ => fun
  | [] => { results := [.lit (.bool false)], args := [] }
  | _ => none }
def AccountKnownWrongFalsely : Prop := accountKnownRow.holds Try.pinned (OpenSpec.ofChange accountKnownWrong)

/-- 'exchequerlaw17.AccountLimits': WHATEVER THE INPUT: true; the input reads as it did. -/
def accountLimitsSpec : ChangeSpec := { name := "accountLimits", fn := fun _ => fun
  | [d1, d2] => { results := [.lit (.bool true)], args := [d1, d2] }
  | _ => none }
def accountLimitsRow : OpenClaim := { program := "ytikfkmglcnchoaa", sum := "26cca1adca5bf3eba38685868ad894da70e88f9755531f4c17bbebd9d9fc9eb2", func := "exchequer/exchequerlaw17.AccountLimits", spec := "accountLimits", inPlace := ["math/bits.Add64"], apart := false }
def AccountLimitsSaid : Prop := accountLimitsRow.holds Try.pinned (OpenSpec.ofChange accountLimitsSpec)

/-- ITS FALSE NEIGHBOUR: 'it returns false'. Refute it at one input. -/
def accountLimitsWrong : ChangeSpec := { name := "accountLimits", fn := fun _ => fun
  | [d1, d2] => { results := [.lit (.bool false)], args := [d1, d2] }
  | _ => none }
def AccountLimitsWrongFalsely : Prop := accountLimitsRow.holds Try.pinned (OpenSpec.ofChange accountLimitsWrong)

/-- 'exchequerlaw17.AccountGrows': WHATEVER THE INPUT: true; the input reads as it did. -/
def accountGrowsSpec : ChangeSpec := { name := "accountGrows", fn := fun _ => fun
  | [d1, d2, d3] => { results := [.lit (.bool true)], args := [d1, d2, d3] }
  | _ => none }
def accountGrowsRow : OpenClaim := { program := "ytikfkmglcnchoaa", sum := "26cca1adca5bf3eba38685868ad894da70e88f9755531f4c17bbebd9d9fc9eb2", func := "exchequer/exchequerlaw17.AccountGrows", spec := "accountGrows", inPlace := ["math/bits.Add64"], apart := false }
def AccountGrowsSaid : Prop := accountGrowsRow.holds Try.pinned (OpenSpec.ofChange accountGrowsSpec)

/-- ITS FALSE NEIGHBOUR: 'it returns false'. Refute it at one input. -/
def accountGrowsWrong : ChangeSpec := { name := "accountGrows", fn := fun _ => fun
  | [d1, d2, d3] => { results := [.lit (.bool false)], args := [d1, d2, d3] }
  | _ => none }
def AccountGrowsWrongFalsely : Prop := accountGrowsRow.holds Try.pinned (OpenSpec.ofChange accountGrowsWrong)

/-- 'exchequerlaw17.AccountOthers': WHATEVER THE INPUT: true; the input reads as it did. -/
def accountOthersSpec : ChangeSpec := { name := "accountOthers", fn := fun _ => fun
  | [d1, d2, d3] => { results := [.lit (.bool true)], args := [d1, d2, d3] }
  | _ => none }
def accountOthersRow : OpenClaim := { program := "ytikfkmglcnchoaa", sum := "26cca1adca5bf3eba38685868ad894da70e88f9755531f4c17bbebd9d9fc9eb2", func := "exchequer/exchequerlaw17.AccountOthers", spec := "accountOthers", inPlace := ["math/bits.Add64"], apart := false }
def AccountOthersSaid : Prop := accountOthersRow.holds Try.pinned (OpenSpec.ofChange accountOthersSpec)

/-- ITS FALSE NEIGHBOUR: 'it returns false'. Refute it at one input. -/
def accountOthersWrong : ChangeSpec := { name := "accountOthers", fn := fun _ => fun
  | [d1, d2, d3] => { results := [.lit (.bool false)], args := [d1, d2, d3] }
  | _ => none }
def AccountOthersWrongFalsely : Prop := accountOthersRow.holds Try.pinned (OpenSpec.ofChange accountOthersWrong)

/-- 'exchequerlaw17.AccountClean': WHATEVER THE INPUT: true; the input reads as it did. -/
def accountCleanSpec : ChangeSpec := { name := "accountClean", fn := fun _ => fun
  | [d1, d2] => { results := [.lit (.bool true)], args := [d1, d2] }
  | _ => none }
def accountCleanRow : OpenClaim := { program := "ytikfkmglcnchoaa", sum := "26cca1adca5bf3eba38685868ad894da70e88f9755531f4c17bbebd9d9fc9eb2", func := "exchequer/exchequerlaw17.AccountClean", spec := "accountClean", inPlace := ["math/bits.Add64"], apart := false }
def AccountCleanSaid : Prop := accountCleanRow.holds Try.pinned (OpenSpec.ofChange accountCleanSpec)

/-- ITS FALSE NEIGHBOUR: 'it returns false'. Refute it at one input. -/
def accountCleanWrong : ChangeSpec := { name := "accountClean", fn := fun _ => fun
  | [d1, d2] => { results := [.lit (.bool false)], args := [d1, d2] }
  | _ => none }
def AccountCleanWrongFalsely : Prop := accountCleanRow.holds Try.pinned (OpenSpec.ofChange accountCleanWrong)

/- THE SECOND FORM. 'bulk': how many values and letters a reading holds, each counted each time it is reached (what is shared counts as often as it is met; a slice's spare places count too). A statement '..UptoSaid' is the law's where the arguments, and the package variables that the reading takes, are together of bulk at most 1048576: NARROWER than '..Said'. Prove '..Said' where nothing that the law and all that it calls make is longer than what came in: it says more and counts as full. Else prove '..UptoSaid'. A law counts once. -/
mutual
def uptoBulk {H : Type} : DataW H → Nat
  | .lit (.string bytes) => bytes.length + 1
  | .lit _ => 1
  | .nil => 1
  | .ptr d => uptoBulk d + 1
  | .slice elems spare => uptoBulkAll elems + uptoBulkAll spare + 1
  | .agg parts => uptoBulkAll parts + 1
  | .iface _ d => uptoBulk d + 1
  | .map entries => uptoBulkEntries entries + 1
  | .held _ => 1
def uptoBulkAll {H : Type} : List (DataW H) → Nat
  | [] => 0
  | d :: r => uptoBulk d + uptoBulkAll r
def uptoBulkEntries {H : Type} : List (Lit × DataW H) → Nat
  | [] => 0
  | x :: r => uptoBulkEntry x + uptoBulkEntries r
def uptoBulkEntry {H : Type} : Lit × DataW H → Nat
  | (.string bytes, d) => bytes.length + uptoBulk d + 1
  | (_, d) => uptoBulk d + 1
 end
def uptoSmall : (H : Type) → List (DataW H) → Bool := fun _ ds => decide (uptoBulkAll ds ≤ 1048576)
def OpenSpec.upto (s : _root_.Go.ChangeSpec) : _root_.Go.OpenSpec := { _root_.Go.OpenSpec.ofChange s with cond := some uptoSmall }

/-- 'exchequerlaw17.AccountChecks', WHERE WHAT IT READS IS OF BULK AT MOST 1048576: true; the input reads as it did. -/
def accountChecksUptoRow : OpenClaim := { program := "ytikfkmglcnchoaa", sum := "26cca1adca5bf3eba38685868ad894da70e88f9755531f4c17bbebd9d9fc9eb2", func := "exchequer/exchequerlaw17.AccountChecks", spec := "accountChecks", inPlace := ["math/bits.Add64"], apart := false, narrowed := true }
def AccountChecksUptoSaid : Prop := accountChecksUptoRow.holds Try.pinned (OpenSpec.upto accountChecksSpec)

/-- 'exchequerlaw17.AccountKnown', WHERE WHAT IT READS IS OF BULK AT MOST 1048576: true; the input reads as it did. -/
def accountKnownUptoRow : OpenClaim := { program := "ytikfkmglcnchoaa", sum := "26cca1adca5bf3eba38685868ad894da70e88f9755531f4c17bbebd9d9fc9eb2", func := "exchequer/exchequerlaw17.AccountKnown", spec := "accountKnown", inPlace := ["math/bits.Add64"], apart := false, narrowed := true }
def AccountKnownUptoSaid : Prop := accountKnownUptoRow.holds Try.pinned (OpenSpec.upto accountKnownSpec)

/-- 'exchequerlaw17.AccountLimits', WHERE WHAT IT READS IS OF BULK AT MOST 1048576: true; the input reads as it did. -/
def accountLimitsUptoRow : OpenClaim := { program := "ytikfkmglcnchoaa", sum := "26cca1adca5bf3eba38685868ad894da70e88f9755531f4c17bbebd9d9fc9eb2", func := "exchequer/exchequerlaw17.AccountLimits", spec := "accountLimits", inPlace := ["math/bits.Add64"], apart := false, narrowed := true }
def AccountLimitsUptoSaid : Prop := accountLimitsUptoRow.holds Try.pinned (OpenSpec.upto accountLimitsSpec)

/-- 'exchequerlaw17.AccountGrows', WHERE WHAT IT READS IS OF BULK AT MOST 1048576: true; the input reads as it did. -/
def accountGrowsUptoRow : OpenClaim := { program := "ytikfkmglcnchoaa", sum := "26cca1adca5bf3eba38685868ad894da70e88f9755531f4c17bbebd9d9fc9eb2", func := "exchequer/exchequerlaw17.AccountGrows", spec := "accountGrows", inPlace := ["math/bits.Add64"], apart := false, narrowed := true }
def AccountGrowsUptoSaid : Prop := accountGrowsUptoRow.holds Try.pinned (OpenSpec.upto accountGrowsSpec)

/-- 'exchequerlaw17.AccountOthers', WHERE WHAT IT READS IS OF BULK AT MOST 1048576: true; the input reads as it did. -/
def accountOthersUptoRow : OpenClaim := { program := "ytikfkmglcnchoaa", sum := "26cca1adca5bf3eba38685868ad894da70e88f9755531f4c17bbebd9d9fc9eb2", func := "exchequer/exchequerlaw17.AccountOthers", spec := "accountOthers", inPlace := ["math/bits.Add64"], apart := false, narrowed := true }
def AccountOthersUptoSaid : Prop := accountOthersUptoRow.holds Try.pinned (OpenSpec.upto accountOthersSpec)

/-- 'exchequerlaw17.AccountClean', WHERE WHAT IT READS IS OF BULK AT MOST 1048576: true; the input reads as it did. -/
def accountCleanUptoRow : OpenClaim := { program := "ytikfkmglcnchoaa", sum := "26cca1adca5bf3eba38685868ad894da70e88f9755531f4c17bbebd9d9fc9eb2", func := "exchequer/exchequerlaw17.AccountClean", spec := "accountClean", inPlace := ["math/bits.Add64"], apart := false, narrowed := true }
def AccountCleanUptoSaid : Prop := accountCleanUptoRow.holds Try.pinned (OpenSpec.upto accountCleanSpec)

end Rows
end Go.Proofs.Ytikfkmglcnchoaa
