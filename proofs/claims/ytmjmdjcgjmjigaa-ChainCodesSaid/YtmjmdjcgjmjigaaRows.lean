/-
  No cell of these rows narrows 'for every input' (looked for: loops, veiled, ifaces, maps, wideKeys, modest, calm, conditions, laid).
  DERIVED. THE GIVEN ROWS OF THIS SEAT. 7 by the template 'for every input the law returns true; each argument reads behind the call as it read before'; 0 by the template 'total and deterministic' (their statements: YtmjmdjcgjmjigaaTotals.lean).
  GIVEN WITH THE SEED: the statements are not yours to turn. If you find one false, say at which input.
  Laid BY PROGRAM, IN A SANDBOX (cutbox-rows.mjs): the forced cells as the released guide's own fill.sh prints them over the translation 5f1e43e66d3680e0… (all of the seat's roots in one cut). By AI agents, Wed Nov 11 2026. No macro, syntax, notation, axiom, sorry.
-/
import Derived.Test.YtmjmdjcgjmjigaaChecked
import GoSem.Claim
import GoSem.ClaimJoined
import GoSem.ClaimMapViews
import Derived.JoinedTies
import Derived.KernelRfl
namespace Go.Proofs.Ytmjmdjcgjmjigaa
/- THE CELL 'sum', in the pinned program and in every row, IS THE sha256 OF THE DUMP (.gsa) THAT YtmjmdjcgjmjigaaProg.lean LOADS. Nothing in Lean hashes anything: it is a label: what it is worth is what the hold of that sum in a sandbox is worth. -/
noncomputable def Try.pinned : Pinned := { name := "ytmjmdjcgjmjigaa", sum := "5f1e43e66d3680e06f86b8b016a34f5ada56035f4900885ce4ebd0bd776f7c28", checked := Try.checked }
namespace Rows
def none {H : Type} : Left H := { results := [], args := [] }

/-- 'exchequerlaw19.ChainWhole': WHATEVER THE INPUT: true; the input reads as it did. -/
def chainWholeSpec : ChangeSpec := { name := "chainWhole", fn := fun _ => fun
  | [d1, d2] => { results := [.lit (.bool true)], args := [d1, d2] }
  | _ => none }
def chainWholeRow : OpenClaim := { program := "ytmjmdjcgjmjigaa", sum := "5f1e43e66d3680e06f86b8b016a34f5ada56035f4900885ce4ebd0bd776f7c28", func := "exchequer/exchequerlaw19.ChainWhole", spec := "chainWhole", unfollowed := true, recurses := true, apart := false }
def ChainWholeSaid : Prop := chainWholeRow.holds Try.pinned (OpenSpec.ofChange chainWholeSpec)

/-- ITS FALSE NEIGHBOUR: 'it returns false'. Refute it at one input. -/
def chainWholeWrong : ChangeSpec := { name := "chainWhole", fn := fun _ => fun
  | [d1, d2] => { results := [.lit (.bool false)], args := [d1, d2] }
  | _ => none }
def ChainWholeWrongFalsely : Prop := chainWholeRow.holds Try.pinned (OpenSpec.ofChange chainWholeWrong)

/-- 'exchequerlaw19.ChainAlone': WHATEVER THE INPUT: true; the input reads as it did. -/
def chainAloneSpec : ChangeSpec := { name := "chainAlone", fn := fun _ => fun
  | [d] => { results := [.lit (.bool true)], args := [d] }
  | _ => none }
def chainAloneRow : OpenClaim := { program := "ytmjmdjcgjmjigaa", sum := "5f1e43e66d3680e06f86b8b016a34f5ada56035f4900885ce4ebd0bd776f7c28", func := "exchequer/exchequerlaw19.ChainAlone", spec := "chainAlone", unfollowed := true, recurses := true, apart := false }
def ChainAloneSaid : Prop := chainAloneRow.holds Try.pinned (OpenSpec.ofChange chainAloneSpec)

/-- ITS FALSE NEIGHBOUR: 'it returns false'. Refute it at one input. -/
def chainAloneWrong : ChangeSpec := { name := "chainAlone", fn := fun _ => fun
  | [d] => { results := [.lit (.bool false)], args := [d] }
  | _ => none }
def ChainAloneWrongFalsely : Prop := chainAloneRow.holds Try.pinned (OpenSpec.ofChange chainAloneWrong)

/-- 'exchequerlaw19.ChainTimes': WHATEVER THE INPUT: true; the input reads as it did. -/
def chainTimesSpec : ChangeSpec := { name := "chainTimes", fn := fun _ => fun
  | [d1, d2] => { results := [.lit (.bool true)], args := [d1, d2] }
  | _ => none }
def chainTimesRow : OpenClaim := { program := "ytmjmdjcgjmjigaa", sum := "5f1e43e66d3680e06f86b8b016a34f5ada56035f4900885ce4ebd0bd776f7c28", func := "exchequer/exchequerlaw19.ChainTimes", spec := "chainTimes", unfollowed := true, recurses := true, apart := false }
def ChainTimesSaid : Prop := chainTimesRow.holds Try.pinned (OpenSpec.ofChange chainTimesSpec)

/-- ITS FALSE NEIGHBOUR: 'it returns false'. Refute it at one input. -/
def chainTimesWrong : ChangeSpec := { name := "chainTimes", fn := fun _ => fun
  | [d1, d2] => { results := [.lit (.bool false)], args := [d1, d2] }
  | _ => none }
def ChainTimesWrongFalsely : Prop := chainTimesRow.holds Try.pinned (OpenSpec.ofChange chainTimesWrong)

/-- 'exchequerlaw19.ChainCodes': WHATEVER THE INPUT: true; the input reads as it did. -/
def chainCodesSpec : ChangeSpec := { name := "chainCodes", fn := fun _ => fun
  | [d1, d2] => { results := [.lit (.bool true)], args := [d1, d2] }
  | _ => none }
def chainCodesRow : OpenClaim := { program := "ytmjmdjcgjmjigaa", sum := "5f1e43e66d3680e06f86b8b016a34f5ada56035f4900885ce4ebd0bd776f7c28", func := "exchequer/exchequerlaw19.ChainCodes", spec := "chainCodes", unfollowed := true, recurses := true, apart := false }
def ChainCodesSaid : Prop := chainCodesRow.holds Try.pinned (OpenSpec.ofChange chainCodesSpec)

/-- ITS FALSE NEIGHBOUR: 'it returns false'. Refute it at one input. -/
def chainCodesWrong : ChangeSpec := { name := "chainCodes", fn := fun _ => fun
  | [d1, d2] => { results := [.lit (.bool false)], args := [d1, d2] }
  | _ => none }
def ChainCodesWrongFalsely : Prop := chainCodesRow.holds Try.pinned (OpenSpec.ofChange chainCodesWrong)

/-- 'exchequerlaw19.ChainBytes': WHATEVER THE INPUT: true; the input reads as it did. -/
def chainBytesSpec : ChangeSpec := { name := "chainBytes", fn := fun _ => fun
  | [d1, d2] => { results := [.lit (.bool true)], args := [d1, d2] }
  | _ => none }
def chainBytesRow : OpenClaim := { program := "ytmjmdjcgjmjigaa", sum := "5f1e43e66d3680e06f86b8b016a34f5ada56035f4900885ce4ebd0bd776f7c28", func := "exchequer/exchequerlaw19.ChainBytes", spec := "chainBytes", unfollowed := true, recurses := true, apart := false }
def ChainBytesSaid : Prop := chainBytesRow.holds Try.pinned (OpenSpec.ofChange chainBytesSpec)

/-- ITS FALSE NEIGHBOUR: 'it returns false'. Refute it at one input. -/
def chainBytesWrong : ChangeSpec := { name := "chainBytes", fn := fun _ => fun
  | [d1, d2] => { results := [.lit (.bool false)], args := [d1, d2] }
  | _ => none }
def ChainBytesWrongFalsely : Prop := chainBytesRow.holds Try.pinned (OpenSpec.ofChange chainBytesWrong)

/-- 'exchequerlaw19.ChainBack': WHATEVER THE INPUT: true; the input reads as it did. -/
def chainBackSpec : ChangeSpec := { name := "chainBack", fn := fun _ => fun
  | [d1, d2] => { results := [.lit (.bool true)], args := [d1, d2] }
  | _ => none }
def chainBackRow : OpenClaim := { program := "ytmjmdjcgjmjigaa", sum := "5f1e43e66d3680e06f86b8b016a34f5ada56035f4900885ce4ebd0bd776f7c28", func := "exchequer/exchequerlaw19.ChainBack", spec := "chainBack", unfollowed := true, recurses := true, apart := false }
def ChainBackSaid : Prop := chainBackRow.holds Try.pinned (OpenSpec.ofChange chainBackSpec)

/-- ITS FALSE NEIGHBOUR: 'it returns false'. Refute it at one input. -/
def chainBackWrong : ChangeSpec := { name := "chainBack", fn := fun _ => fun
  | [d1, d2] => { results := [.lit (.bool false)], args := [d1, d2] }
  | _ => none }
def ChainBackWrongFalsely : Prop := chainBackRow.holds Try.pinned (OpenSpec.ofChange chainBackWrong)

/-- 'exchequerlaw19.ChainKnown': WHATEVER THE INPUT: true; the input reads as it did. -/
def chainKnownSpec : ChangeSpec := { name := "chainKnown", fn := fun _ => fun
  | [] => { results := [.lit (.bool true)], args := [] }
  | _ => none }
def chainKnownRow : OpenClaim := { program := "ytmjmdjcgjmjigaa", sum := "5f1e43e66d3680e06f86b8b016a34f5ada56035f4900885ce4ebd0bd776f7c28", func := "exchequer/exchequerlaw19.ChainKnown", spec := "chainKnown", unfollowed := true, recurses := true, apart := false }
def ChainKnownSaid : Prop := chainKnownRow.holds Try.pinned (OpenSpec.ofChange chainKnownSpec)

/-- ITS FALSE NEIGHBOUR: 'it returns false'. Refute it at one input. -/
def chainKnownWrong : ChangeSpec := { name := "chainKnown", fn := fun _ => fun
  | [] => { results := [.lit (.bool false)], args := [] }
  | _ => none }
def ChainKnownWrongFalsely : Prop := chainKnownRow.holds Try.pinned (OpenSpec.ofChange chainKnownWrong)

/- THE SECOND FORM. 'bulk': how many values and letters a reading holds, each counted each time it is reached (what is shared counts as often as it is met; a slice's spare places count too). A statement '..UptoSaid' is the law's where the arguments, and the package variables that the reading takes, are together of bulk at most 1048576: NARROWER than '..Said'. Prove '..Said' where nothing that the law and all that it calls make is longer than what came in: it says more and counts as full. Else prove '..UptoSaid'. A law counts once. -/
mutual
def uptoBulk {H : Type} : DataW H → Nat
  | .lit (.string bytes) => bytes.length + 1
  | .lit _ => 1
  | .nil => 1
  | .ptr d => uptoBulk d + 1
  | .slice elems spare => uptoBulkAll elems + uptoBulkAll spare + 1
  | .agg parts => uptoBulkAll parts + 1
  | .iface _ d => uptoBulk d + 1
  | .map entries => uptoBulkEntries entries + 1
  | .held _ => 1
def uptoBulkAll {H : Type} : List (DataW H) → Nat
  | [] => 0
  | d :: r => uptoBulk d + uptoBulkAll r
def uptoBulkEntries {H : Type} : List (Lit × DataW H) → Nat
  | [] => 0
  | x :: r => uptoBulkEntry x + uptoBulkEntries r
def uptoBulkEntry {H : Type} : Lit × DataW H → Nat
  | (.string bytes, d) => bytes.length + uptoBulk d + 1
  | (_, d) => uptoBulk d + 1
 end
def uptoSmall : (H : Type) → List (DataW H) → Bool := fun _ ds => decide (uptoBulkAll ds ≤ 1048576)
def OpenSpec.upto (s : _root_.Go.ChangeSpec) : _root_.Go.OpenSpec := { _root_.Go.OpenSpec.ofChange s with cond := some uptoSmall }

/-- 'exchequerlaw19.ChainWhole', WHERE WHAT IT READS IS OF BULK AT MOST 1048576: true; the input reads as it did. -/
def chainWholeUptoRow : OpenClaim := { program := "ytmjmdjcgjmjigaa", sum := "5f1e43e66d3680e06f86b8b016a34f5ada56035f4900885ce4ebd0bd776f7c28", func := "exchequer/exchequerlaw19.ChainWhole", spec := "chainWhole", unfollowed := true, recurses := true, apart := false, narrowed := true }
def ChainWholeUptoSaid : Prop := chainWholeUptoRow.holds Try.pinned (OpenSpec.upto chainWholeSpec)

/-- 'exchequerlaw19.ChainAlone', WHERE WHAT IT READS IS OF BULK AT MOST 1048576: true; the input reads as it did. -/
def chainAloneUptoRow : OpenClaim := { program := "ytmjmdjcgjmjigaa", sum := "5f1e43e66d3680e06f86b8b016a34f5ada56035f4900885ce4ebd0bd776f7c28", func := "exchequer/exchequerlaw19.ChainAlone", spec := "chainAlone", unfollowed := true, recurses := true, apart := false, narrowed := true }
def ChainAloneUptoSaid : Prop := chainAloneUptoRow.holds Try.pinned (OpenSpec.upto chainAloneSpec)

/-- 'exchequerlaw19.ChainTimes', WHERE WHAT IT READS IS OF BULK AT MOST 1048576: true; the input reads as it did. -/
def chainTimesUptoRow : OpenClaim := { program := "ytmjmdjcgjmjigaa", sum := "5f1e43e66d3680e06f86b8b016a34f5ada56035f4900885ce4ebd0bd776f7c28", func := "exchequer/exchequerlaw19.ChainTimes", spec := "chainTimes", unfollowed := true, recurses := true, apart := false, narrowed := true }
def ChainTimesUptoSaid : Prop := chainTimesUptoRow.holds Try.pinned (OpenSpec.upto chainTimesSpec)

/-- 'exchequerlaw19.ChainCodes', WHERE WHAT IT READS IS OF BULK AT MOST 1048576: true; the input reads as it did. -/
def chainCodesUptoRow : OpenClaim := { program := "ytmjmdjcgjmjigaa", sum := "5f1e43e66d3680e06f86b8b016a34f5ada56035f4900885ce4ebd0bd776f7c28", func := "exchequer/exchequerlaw19.ChainCodes", spec := "chainCodes", unfollowed := true, recurses := true, apart := false, narrowed := true }
def ChainCodesUptoSaid : Prop := chainCodesUptoRow.holds Try.pinned (OpenSpec.upto chainCodesSpec)

/-- 'exchequerlaw19.ChainBytes', WHERE WHAT IT READS IS OF BULK AT MOST 1048576: true; the input reads as it did. -/
def chainBytesUptoRow : OpenClaim := { program := "ytmjmdjcgjmjigaa", sum := "5f1e43e66d3680e06f86b8b016a34f5ada56035f4900885ce4ebd0bd776f7c28", func := "exchequer/exchequerlaw19.ChainBytes", spec := "chainBytes", unfollowed := true, recurses := true, apart := false, narrowed := true }
def ChainBytesUptoSaid : Prop := chainBytesUptoRow.holds Try.pinned (OpenSpec.upto chainBytesSpec)

/-- 'exchequerlaw19.ChainBack', WHERE WHAT IT READS IS OF BULK AT MOST 1048576: true; the input reads as it did. -/
def chainBackUptoRow : OpenClaim := { program := "ytmjmdjcgjmjigaa", sum := "5f1e43e66d3680e06f86b8b016a34f5ada56035f4900885ce4ebd0bd776f7c28", func := "exchequer/exchequerlaw19.ChainBack", spec := "chainBack", unfollowed := true, recurses := true, apart := false, narrowed := true }
def ChainBackUptoSaid : Prop := chainBackUptoRow.holds Try.pinned (OpenSpec.upto chainBackSpec)

/-- 'exchequerlaw19.ChainKnown', WHERE WHAT IT READS IS OF BULK AT MOST 1048576: true; the input reads as it did. -/
def chainKnownUptoRow : OpenClaim := { program := "ytmjmdjcgjmjigaa", sum := "5f1e43e66d3680e06f86b8b016a34f5ada56035f4900885ce4ebd0bd776f7c28", func := "exchequer/exchequerlaw19.ChainKnown", spec := "chainKnown", unfollowed := true, recurses := true, apart := false, narrowed := true }
def ChainKnownUptoSaid : Prop := chainKnownUptoRow.holds Try.pinned (OpenSpec.upto chainKnownSpec)

end Rows
end Go.Proofs.Ytmjmdjcgjmjigaa
