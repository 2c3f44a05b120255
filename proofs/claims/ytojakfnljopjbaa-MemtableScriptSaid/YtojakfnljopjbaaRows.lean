/-
  No cell of these rows narrows 'for every input' (looked for: loops, veiled, ifaces, maps, wideKeys, modest, calm, conditions, laid).
  DERIVED. THE GIVEN ROWS OF THIS SEAT. 6 by the template 'for every input the law returns true; each argument reads behind the call as it read before'; 0 by the template 'total and deterministic' (their statements: YtojakfnljopjbaaTotals.lean).
  GIVEN WITH THE SEED: the statements are not yours to turn. If you find one false, say at which input.
  Laid BY PROGRAM, IN A SANDBOX (cutbox-rows.mjs): the forced cells as the released guide's own fill.sh prints them over the translation 1a859bb5d5cd1397… (all of the seat's roots in one cut). By AI agents, Wed Nov 11 2026. No macro, syntax, notation, axiom, sorry.
-/
import Derived.Test.YtojakfnljopjbaaChecked
import GoSem.Claim
import GoSem.ClaimJoined
import GoSem.ClaimMapViews
import Derived.JoinedTies
import Derived.KernelRfl
namespace Go.Proofs.Ytojakfnljopjbaa
/- THE CELL 'sum', in the pinned program and in every row, IS THE sha256 OF THE DUMP (.gsa) THAT YtojakfnljopjbaaProg.lean LOADS. Nothing in Lean hashes anything: it is a label: what it is worth is what the hold of that sum in a sandbox is worth. -/
noncomputable def Try.pinned : Pinned := { name := "ytojakfnljopjbaa", sum := "1a859bb5d5cd1397a5f6e1c1d480ba2047fd3c2fe91b500f83488dc4ef8fa81f", checked := Try.checked }
namespace Rows
def none {H : Type} : Left H := { results := [], args := [] }

/-- 'exchequerlaw12.MemtableChecks': WHATEVER THE INPUT: true; the input reads as it did. -/
def memtableChecksSpec : ChangeSpec := { name := "memtableChecks", fn := fun _ => fun
  | [d] => { results := [.lit (.bool true)], args := [d] }
  | _ => none }
def memtableChecksRow : OpenClaim := { program := "ytojakfnljopjbaa", sum := "1a859bb5d5cd1397a5f6e1c1d480ba2047fd3c2fe91b500f83488dc4ef8fa81f", func := "exchequer/exchequerlaw12.MemtableChecks", spec := "memtableChecks", inPlace := ["internal/bytealg.Compare", "slices.overlaps[exchequer/api.Pair]"], unfollowed := true, recurses := true, apart := false }
def MemtableChecksSaid : Prop := memtableChecksRow.holds Try.pinned (OpenSpec.ofChange memtableChecksSpec)

/-- ITS FALSE NEIGHBOUR: 'it returns false'. Refute it at one input. -/
def memtableChecksWrong : ChangeSpec := { name := "memtableChecks", fn := fun _ => fun
  | [d] => { results := [.lit (.bool false)], args := [d] }
  | _ => none }
def MemtableChecksWrongFalsely : Prop := memtableChecksRow.holds Try.pinned (OpenSpec.ofChange memtableChecksWrong)

/-- 'exchequerlaw12.MemtableKnown': WHATEVER THE INPUT: true; the input reads as it did. -/
def memtableKnownSpec : ChangeSpec := { name := "memtableKnown", fn := fun _ => fun
  | [] => { results := [.lit (.bool true)], args := [] }
  | _ => none }
def memtableKnownRow : OpenClaim := { program := "ytojakfnljopjbaa", sum := "1a859bb5d5cd1397a5f6e1c1d480ba2047fd3c2fe91b500f83488dc4ef8fa81f", func := "exchequer/exchequerlaw12.MemtableKnown", spec := "memtableKnown", inPlace := ["internal/bytealg.Compare", "slices.overlaps[exchequer/api.Pair]"], unfollowed := true, recurses := true, apart := false }
def MemtableKnownSaid : Prop := memtableKnownRow.holds Try.pinned (OpenSpec.ofChange memtableKnownSpec)

/-- ITS FALSE NEIGHBOUR: 'it returns false'. Refute it at one input. -/
def memtableKnownWrong : ChangeSpec := { name := "memtableKnown", fn := fun _ => fun
  | [] => { results := [.lit (.bool false)], args := [] }
  | _ => none }
def MemtableKnownWrongFalsely : Prop := memtableKnownRow.holds Try.pinned (OpenSpec.ofChange memtableKnownWrong)

/-- 'exchequerlaw12.MemtableParts': WHATEVER THE INPUT: true; the input reads as it did. -/
def memtablePartsSpec : ChangeSpec := { name := "memtableParts", fn := fun _ => fun
  | [d1, d2, d3, d4] => { results := [.lit (.bool true)], args := [d1, d2, d3, d4] }
  | _ => none }
def memtablePartsRow : OpenClaim := { program := "ytojakfnljopjbaa", sum := "1a859bb5d5cd1397a5f6e1c1d480ba2047fd3c2fe91b500f83488dc4ef8fa81f", func := "exchequer/exchequerlaw12.MemtableParts", spec := "memtableParts", inPlace := ["internal/bytealg.Compare", "slices.overlaps[exchequer/api.Pair]"], unfollowed := true, recurses := true, apart := false }
def MemtablePartsSaid : Prop := memtablePartsRow.holds Try.pinned (OpenSpec.ofChange memtablePartsSpec)

/-- ITS FALSE NEIGHBOUR: 'it returns false'. Refute it at one input. -/
def memtablePartsWrong : ChangeSpec := { name := "memtableParts", fn := fun _ => fun
  | [d1, d2, d3, d4] => { results := [.lit (.bool false)], args := [d1, d2, d3, d4] }
  | _ => none }
def MemtablePartsWrongFalsely : Prop := memtablePartsRow.holds Try.pinned (OpenSpec.ofChange memtablePartsWrong)

/-- 'exchequerlaw12.MemtableScript': WHATEVER THE INPUT: true; the input reads as it did. -/
def memtableScriptSpec : ChangeSpec := { name := "memtableScript", fn := fun _ => fun
  | [d] => { results := [.lit (.bool true)], args := [d] }
  | _ => none }
def memtableScriptRow : OpenClaim := { program := "ytojakfnljopjbaa", sum := "1a859bb5d5cd1397a5f6e1c1d480ba2047fd3c2fe91b500f83488dc4ef8fa81f", func := "exchequer/exchequerlaw12.MemtableScript", spec := "memtableScript", inPlace := ["internal/bytealg.Compare", "slices.overlaps[exchequer/api.Pair]"], unfollowed := true, recurses := true, apart := false }
def MemtableScriptSaid : Prop := memtableScriptRow.holds Try.pinned (OpenSpec.ofChange memtableScriptSpec)

/-- ITS FALSE NEIGHBOUR: 'it returns false'. Refute it at one input. -/
def memtableScriptWrong : ChangeSpec := { name := "memtableScript", fn := fun _ => fun
  | [d] => { results := [.lit (.bool false)], args := [d] }
  | _ => none }
def MemtableScriptWrongFalsely : Prop := memtableScriptRow.holds Try.pinned (OpenSpec.ofChange memtableScriptWrong)

/-- 'exchequerlaw12.MemtableNone': WHATEVER THE INPUT: true; the input reads as it did. -/
def memtableNoneSpec : ChangeSpec := { name := "memtableNone", fn := fun _ => fun
  | [d] => { results := [.lit (.bool true)], args := [d] }
  | _ => none }
def memtableNoneRow : OpenClaim := { program := "ytojakfnljopjbaa", sum := "1a859bb5d5cd1397a5f6e1c1d480ba2047fd3c2fe91b500f83488dc4ef8fa81f", func := "exchequer/exchequerlaw12.MemtableNone", spec := "memtableNone", inPlace := ["internal/bytealg.Compare", "slices.overlaps[exchequer/api.Pair]"], unfollowed := true, recurses := true, apart := false }
def MemtableNoneSaid : Prop := memtableNoneRow.holds Try.pinned (OpenSpec.ofChange memtableNoneSpec)

/-- ITS FALSE NEIGHBOUR: 'it returns false'. Refute it at one input. -/
def memtableNoneWrong : ChangeSpec := { name := "memtableNone", fn := fun _ => fun
  | [d] => { results := [.lit (.bool false)], args := [d] }
  | _ => none }
def MemtableNoneWrongFalsely : Prop := memtableNoneRow.holds Try.pinned (OpenSpec.ofChange memtableNoneWrong)

/-- 'exchequerlaw12.MemtableMap': WHATEVER THE INPUT: true; the input reads as it did. -/
def memtableMapSpec : ChangeSpec := { name := "memtableMap", fn := fun _ => fun
  | [d1, d2] => { results := [.lit (.bool true)], args := [d1, d2] }
  | _ => none }
def memtableMapRow : OpenClaim := { program := "ytojakfnljopjbaa", sum := "1a859bb5d5cd1397a5f6e1c1d480ba2047fd3c2fe91b500f83488dc4ef8fa81f", func := "exchequer/exchequerlaw12.MemtableMap", spec := "memtableMap", inPlace := ["internal/bytealg.Compare", "slices.overlaps[exchequer/api.Pair]"], unfollowed := true, recurses := true, apart := false }
def MemtableMapSaid : Prop := memtableMapRow.holds Try.pinned (OpenSpec.ofChange memtableMapSpec)

/-- ITS FALSE NEIGHBOUR: 'it returns false'. Refute it at one input. -/
def memtableMapWrong : ChangeSpec := { name := "memtableMap", fn := fun _ => fun
  | [d1, d2] => { results := [.lit (.bool false)], args := [d1, d2] }
  | _ => none }
def MemtableMapWrongFalsely : Prop := memtableMapRow.holds Try.pinned (OpenSpec.ofChange memtableMapWrong)

/- THE SECOND FORM. 'bulk': how many values and letters a reading holds, each counted each time it is reached (what is shared counts as often as it is met; a slice's spare places count too). A statement '..UptoSaid' is the law's where the arguments, and the package variables that the reading takes, are together of bulk at most 1048576: NARROWER than '..Said'. Prove '..Said' where nothing that the law and all that it calls make is longer than what came in: it says more and counts as full. Else prove '..UptoSaid'. A law counts once. -/
mutual
def uptoBulk {H : Type} : DataW H → Nat
  | .lit (.string bytes) => bytes.length + 1
  | .lit _ => 1
  | .nil => 1
  | .ptr d => uptoBulk d + 1
  | .slice elems spare => uptoBulkAll elems + uptoBulkAll spare + 1
  | .agg parts => uptoBulkAll parts + 1
  | .iface _ d => uptoBulk d + 1
  | .map entries => uptoBulkEntries entries + 1
  | .held _ => 1
def uptoBulkAll {H : Type} : List (DataW H) → Nat
  | [] => 0
  | d :: r => uptoBulk d + uptoBulkAll r
def uptoBulkEntries {H : Type} : List (Lit × DataW H) → Nat
  | [] => 0
  | x :: r => uptoBulkEntry x + uptoBulkEntries r
def uptoBulkEntry {H : Type} : Lit × DataW H → Nat
  | (.string bytes, d) => bytes.length + uptoBulk d + 1
  | (_, d) => uptoBulk d + 1
 end
def uptoSmall : (H : Type) → List (DataW H) → Bool := fun _ ds => decide (uptoBulkAll ds ≤ 1048576)
def OpenSpec.upto (s : _root_.Go.ChangeSpec) : _root_.Go.OpenSpec := { _root_.Go.OpenSpec.ofChange s with cond := some uptoSmall }

/-- 'exchequerlaw12.MemtableChecks', WHERE WHAT IT READS IS OF BULK AT MOST 1048576: true; the input reads as it did. -/
def memtableChecksUptoRow : OpenClaim := { program := "ytojakfnljopjbaa", sum := "1a859bb5d5cd1397a5f6e1c1d480ba2047fd3c2fe91b500f83488dc4ef8fa81f", func := "exchequer/exchequerlaw12.MemtableChecks", spec := "memtableChecks", inPlace := ["internal/bytealg.Compare", "slices.overlaps[exchequer/api.Pair]"], unfollowed := true, recurses := true, apart := false, narrowed := true }
def MemtableChecksUptoSaid : Prop := memtableChecksUptoRow.holds Try.pinned (OpenSpec.upto memtableChecksSpec)

/-- 'exchequerlaw12.MemtableKnown', WHERE WHAT IT READS IS OF BULK AT MOST 1048576: true; the input reads as it did. -/
def memtableKnownUptoRow : OpenClaim := { program := "ytojakfnljopjbaa", sum := "1a859bb5d5cd1397a5f6e1c1d480ba2047fd3c2fe91b500f83488dc4ef8fa81f", func := "exchequer/exchequerlaw12.MemtableKnown", spec := "memtableKnown", inPlace := ["internal/bytealg.Compare", "slices.overlaps[exchequer/api.Pair]"], unfollowed := true, recurses := true, apart := false, narrowed := true }
def MemtableKnownUptoSaid : Prop := memtableKnownUptoRow.holds Try.pinned (OpenSpec.upto memtableKnownSpec)

/-- 'exchequerlaw12.MemtableParts', WHERE WHAT IT READS IS OF BULK AT MOST 1048576: true; the input reads as it did. -/
def memtablePartsUptoRow : OpenClaim := { program := "ytojakfnljopjbaa", sum := "1a859bb5d5cd1397a5f6e1c1d480ba2047fd3c2fe91b500f83488dc4ef8fa81f", func := "exchequer/exchequerlaw12.MemtableParts", spec := "memtableParts", inPlace := ["internal/bytealg.Compare", "slices.overlaps[exchequer/api.Pair]"], unfollowed := true, recurses := true, apart := false, narrowed := true }
def MemtablePartsUptoSaid : Prop := memtablePartsUptoRow.holds Try.pinned (OpenSpec.upto memtablePartsSpec)

/-- 'exchequerlaw12.MemtableScript', WHERE WHAT IT READS IS OF BULK AT MOST 1048576: true; the input reads as it did. -/
def memtableScriptUptoRow : OpenClaim := { program := "ytojakfnljopjbaa", sum := "1a859bb5d5cd1397a5f6e1c1d480ba2047fd3c2fe91b500f83488dc4ef8fa81f", func := "exchequer/exchequerlaw12.MemtableScript", spec := "memtableScript", inPlace := ["internal/bytealg.Compare", "slices.overlaps[exchequer/api.Pair]"], unfollowed := true, recurses := true, apart := false, narrowed := true }
def MemtableScriptUptoSaid : Prop := memtableScriptUptoRow.holds Try.pinned (OpenSpec.upto memtableScriptSpec)

/-- 'exchequerlaw12.MemtableNone', WHERE WHAT IT READS IS OF BULK AT MOST 1048576: true; the input reads as it did. -/
def memtableNoneUptoRow : OpenClaim := { program := "ytojakfnljopjbaa", sum := "1a859bb5d5cd1397a5f6e1c1d480ba2047fd3c2fe91b500f83488dc4ef8fa81f", func := "exchequer/exchequerlaw12.MemtableNone", spec := "memtableNone", inPlace := ["internal/bytealg.Compare", "slices.overlaps[exchequer/api.Pair]"], unfollowed := true, recurses := true, apart := false, narrowed := true }
def MemtableNoneUptoSaid : Prop := memtableNoneUptoRow.holds Try.pinned (OpenSpec.upto memtableNoneSpec)

/-- 'exchequerlaw12.MemtableMap', WHERE WHAT IT READS IS OF BULK AT MOST 1048576: true; the input reads as it did. -/
def memtableMapUptoRow : OpenClaim := { program := "ytojakfnljopjbaa", sum := "1a859bb5d5cd1397a5f6e1c1d480ba2047fd3c2fe91b500f83488dc4ef8fa81f", func := "exchequer/exchequerlaw12.MemtableMap", spec := "memtableMap", inPlace := ["internal/bytealg.Compare", "slices.overlaps[exchequer/api.Pair]"], unfollowed := true, recurses := true, apart := false, narrowed := true }
def MemtableMapUptoSaid : Prop := memtableMapUptoRow.holds Try.pinned (OpenSpec.upto memtableMapSpec)

end Rows
end Go.Proofs.Ytojakfnljopjbaa
