/-
  No cell of these rows narrows 'for every input' (looked for: loops, veiled, ifaces, maps, wideKeys, modest, calm, conditions, laid).
  DERIVED. THE GIVEN ROWS OF THIS SEAT. 8 by the template 'for every input the law returns true; each argument reads behind the call as it read before'; 0 by the template 'total and deterministic' (their statements: YtpiapipmhlpmjaaTotals.lean).
  GIVEN WITH THE SEED: the statements are not yours to turn. If you find one false, say at which input.
  Laid BY PROGRAM, IN A SANDBOX (cutbox-rows.mjs): the forced cells as the released guide's own fill.sh prints them over the translation 569587f97868779e… (all of the seat's roots in one cut). By AI agents, Wed Nov 11 2026. No macro, syntax, notation, axiom, sorry.
-/
import Derived.Test.YtpiapipmhlpmjaaChecked
import GoSem.Claim
import GoSem.ClaimJoined
import GoSem.ClaimMapViews
import Derived.JoinedTies
import Derived.KernelRfl
namespace Go.Proofs.Ytpiapipmhlpmjaa
/- THE CELL 'sum', in the pinned program and in every row, IS THE sha256 OF THE DUMP (.gsa) THAT YtpiapipmhlpmjaaProg.lean LOADS. Nothing in Lean hashes anything: it is a label: what it is worth is what the hold of that sum in a sandbox is worth. -/
noncomputable def Try.pinned : Pinned := { name := "ytpiapipmhlpmjaa", sum := "569587f97868779e905ec9cfeada82143ae0bfb806940f2d4903c10bc6737235", checked := Try.checked }
namespace Rows
def none {H : Type} : Left H := { results := [], args := [] }

/-- 'exchequerlaw01.U128Adds': WHATEVER THE INPUT: true; the input reads as it did. -/
def u128AddsSpec : ChangeSpec := { name := "u128Adds", fn := fun _ => fun
  | [d] => { results := [.lit (.bool true)], args := [d] }
  | _ => none }
def u128AddsRow : OpenClaim := { program := "ytpiapipmhlpmjaa", sum := "569587f97868779e905ec9cfeada82143ae0bfb806940f2d4903c10bc6737235", func := "exchequer/exchequerlaw01.U128Adds", spec := "u128Adds", inPlace := ["math/bits.Add64"], named := ["math/bits.divideError", "math/bits.overflowError"], apart := false }
def U128AddsSaid : Prop := u128AddsRow.holds Try.pinned (OpenSpec.ofChange u128AddsSpec)

/-- ITS FALSE NEIGHBOUR: 'it returns false'. Refute it at one input. -/
def u128AddsWrong : ChangeSpec := { name := "u128Adds", fn := fun _ => fun
  | [d] => { results := [.lit (.bool false)], args := [d] }
  | _ => none }
def U128AddsWrongFalsely : Prop := u128AddsRow.holds Try.pinned (OpenSpec.ofChange u128AddsWrong)

/-- 'exchequerlaw01.U128Sums': WHATEVER THE INPUT: true; the input reads as it did. -/
def u128SumsSpec : ChangeSpec := { name := "u128Sums", fn := fun _ => fun
  | [d1, d2] => { results := [.lit (.bool true)], args := [d1, d2] }
  | _ => none }
def u128SumsRow : OpenClaim := { program := "ytpiapipmhlpmjaa", sum := "569587f97868779e905ec9cfeada82143ae0bfb806940f2d4903c10bc6737235", func := "exchequer/exchequerlaw01.U128Sums", spec := "u128Sums", inPlace := ["math/bits.Add64", "math/bits.Sub64"], named := ["math/bits.divideError", "math/bits.overflowError"], apart := false }
def U128SumsSaid : Prop := u128SumsRow.holds Try.pinned (OpenSpec.ofChange u128SumsSpec)

/-- ITS FALSE NEIGHBOUR: 'it returns false'. Refute it at one input. -/
def u128SumsWrong : ChangeSpec := { name := "u128Sums", fn := fun _ => fun
  | [d1, d2] => { results := [.lit (.bool false)], args := [d1, d2] }
  | _ => none }
def U128SumsWrongFalsely : Prop := u128SumsRow.holds Try.pinned (OpenSpec.ofChange u128SumsWrong)

/-- 'exchequerlaw01.U128Bytes': WHATEVER THE INPUT: true; the input reads as it did. -/
def u128BytesSpec : ChangeSpec := { name := "u128Bytes", fn := fun _ => fun
  | [d1, d2] => { results := [.lit (.bool true)], args := [d1, d2] }
  | _ => none }
def u128BytesRow : OpenClaim := { program := "ytpiapipmhlpmjaa", sum := "569587f97868779e905ec9cfeada82143ae0bfb806940f2d4903c10bc6737235", func := "exchequer/exchequerlaw01.U128Bytes", spec := "u128Bytes", inPlace := ["math/bits.Add64"], named := ["math/bits.divideError", "math/bits.overflowError"], apart := false }
def U128BytesSaid : Prop := u128BytesRow.holds Try.pinned (OpenSpec.ofChange u128BytesSpec)

/-- ITS FALSE NEIGHBOUR: 'it returns false'. Refute it at one input. -/
def u128BytesWrong : ChangeSpec := { name := "u128Bytes", fn := fun _ => fun
  | [d1, d2] => { results := [.lit (.bool false)], args := [d1, d2] }
  | _ => none }
def U128BytesWrongFalsely : Prop := u128BytesRow.holds Try.pinned (OpenSpec.ofChange u128BytesWrong)

/-- 'exchequerlaw01.U128Texts': WHATEVER THE INPUT: true; the input reads as it did. -/
def u128TextsSpec : ChangeSpec := { name := "u128Texts", fn := fun _ => fun
  | [d1, d2] => { results := [.lit (.bool true)], args := [d1, d2] }
  | _ => none }
def u128TextsRow : OpenClaim := { program := "ytpiapipmhlpmjaa", sum := "569587f97868779e905ec9cfeada82143ae0bfb806940f2d4903c10bc6737235", func := "exchequer/exchequerlaw01.U128Texts", spec := "u128Texts", inPlace := ["math/bits.Add64"], named := ["math/bits.divideError", "math/bits.overflowError"], apart := false }
def U128TextsSaid : Prop := u128TextsRow.holds Try.pinned (OpenSpec.ofChange u128TextsSpec)

/-- ITS FALSE NEIGHBOUR: 'it returns false'. Refute it at one input. -/
def u128TextsWrong : ChangeSpec := { name := "u128Texts", fn := fun _ => fun
  | [d1, d2] => { results := [.lit (.bool false)], args := [d1, d2] }
  | _ => none }
def U128TextsWrongFalsely : Prop := u128TextsRow.holds Try.pinned (OpenSpec.ofChange u128TextsWrong)

/-- 'exchequerlaw01.U128Known': WHATEVER THE INPUT: true; the input reads as it did. -/
def u128KnownSpec : ChangeSpec := { name := "u128Known", fn := fun _ => fun
  | [] => { results := [.lit (.bool true)], args := [] }
  | _ => none }
def u128KnownRow : OpenClaim := { program := "ytpiapipmhlpmjaa", sum := "569587f97868779e905ec9cfeada82143ae0bfb806940f2d4903c10bc6737235", func := "exchequer/exchequerlaw01.U128Known", spec := "u128Known", inPlace := ["math/bits.Sub64", "math/bits.Add64", "internal/abi.NoEscape", "internal/bytealg.MakeNoZero"], named := ["math/bits.divideError", "math/bits.overflowError"], apart := false }
def U128KnownSaid : Prop := u128KnownRow.holds Try.pinned (OpenSpec.ofChange u128KnownSpec)

/-- ITS FALSE NEIGHBOUR: 'it returns false'. Refute it at one input. -/
def u128KnownWrong : ChangeSpec := { name := "u128Known", fn := fun _ => fun
  | [] => { results := [.lit (.bool false)], args := [] }
  | _ => none }
def U128KnownWrongFalsely : Prop := u128KnownRow.holds Try.pinned (OpenSpec.ofChange u128KnownWrong)

/-- 'exchequerlaw01.U128Back': WHATEVER THE INPUT: true; the input reads as it did. -/
def u128BackSpec : ChangeSpec := { name := "u128Back", fn := fun _ => fun
  | [d1, d2] => { results := [.lit (.bool true)], args := [d1, d2] }
  | _ => none }
def u128BackRow : OpenClaim := { program := "ytpiapipmhlpmjaa", sum := "569587f97868779e905ec9cfeada82143ae0bfb806940f2d4903c10bc6737235", func := "exchequer/exchequerlaw01.U128Back", spec := "u128Back", inPlace := ["math/bits.Sub64", "math/bits.Add64", "internal/abi.NoEscape", "internal/bytealg.MakeNoZero"], named := ["math/bits.divideError", "math/bits.overflowError"], apart := false }
def U128BackSaid : Prop := u128BackRow.holds Try.pinned (OpenSpec.ofChange u128BackSpec)

/-- ITS FALSE NEIGHBOUR: 'it returns false'. Refute it at one input. -/
def u128BackWrong : ChangeSpec := { name := "u128Back", fn := fun _ => fun
  | [d1, d2] => { results := [.lit (.bool false)], args := [d1, d2] }
  | _ => none }
def U128BackWrongFalsely : Prop := u128BackRow.holds Try.pinned (OpenSpec.ofChange u128BackWrong)

/-- 'exchequerlaw01.U128Order': WHATEVER THE INPUT: true; the input reads as it did. -/
def u128OrderSpec : ChangeSpec := { name := "u128Order", fn := fun _ => fun
  | [d1, d2] => { results := [.lit (.bool true)], args := [d1, d2] }
  | _ => none }
def u128OrderRow : OpenClaim := { program := "ytpiapipmhlpmjaa", sum := "569587f97868779e905ec9cfeada82143ae0bfb806940f2d4903c10bc6737235", func := "exchequer/exchequerlaw01.U128Order", spec := "u128Order", inPlace := ["math/bits.Sub64", "math/bits.Add64", "internal/abi.NoEscape", "internal/bytealg.MakeNoZero"], named := ["math/bits.divideError", "math/bits.overflowError"], apart := false }
def U128OrderSaid : Prop := u128OrderRow.holds Try.pinned (OpenSpec.ofChange u128OrderSpec)

/-- ITS FALSE NEIGHBOUR: 'it returns false'. Refute it at one input. -/
def u128OrderWrong : ChangeSpec := { name := "u128Order", fn := fun _ => fun
  | [d1, d2] => { results := [.lit (.bool false)], args := [d1, d2] }
  | _ => none }
def U128OrderWrongFalsely : Prop := u128OrderRow.holds Try.pinned (OpenSpec.ofChange u128OrderWrong)

/-- 'exchequerlaw01.U128Reads': WHATEVER THE INPUT: true; the input reads as it did. -/
def u128ReadsSpec : ChangeSpec := { name := "u128Reads", fn := fun _ => fun
  | [d1, d2, d3] => { results := [.lit (.bool true)], args := [d1, d2, d3] }
  | _ => none }
def u128ReadsRow : OpenClaim := { program := "ytpiapipmhlpmjaa", sum := "569587f97868779e905ec9cfeada82143ae0bfb806940f2d4903c10bc6737235", func := "exchequer/exchequerlaw01.U128Reads", spec := "u128Reads", inPlace := ["math/bits.Sub64", "math/bits.Add64", "internal/abi.NoEscape", "internal/bytealg.MakeNoZero"], named := ["math/bits.divideError", "math/bits.overflowError"], apart := false }
def U128ReadsSaid : Prop := u128ReadsRow.holds Try.pinned (OpenSpec.ofChange u128ReadsSpec)

/-- ITS FALSE NEIGHBOUR: 'it returns false'. Refute it at one input. -/
def u128ReadsWrong : ChangeSpec := { name := "u128Reads", fn := fun _ => fun
  | [d1, d2, d3] => { results := [.lit (.bool false)], args := [d1, d2, d3] }
  | _ => none }
def U128ReadsWrongFalsely : Prop := u128ReadsRow.holds Try.pinned (OpenSpec.ofChange u128ReadsWrong)

/- THE SECOND FORM. 'bulk': how many values and letters a reading holds, each counted each time it is reached (what is shared counts as often as it is met; a slice's spare places count too). A statement '..UptoSaid' is the law's where the arguments, and the package variables that the reading takes, are together of bulk at most 1048576: NARROWER than '..Said'. Prove '..Said' where nothing that the law and all that it calls make is longer than what came in: it says more and counts as full. Else prove '..UptoSaid'. A law counts once. -/
mutual
def uptoBulk {H : Type} : DataW H → Nat
  | .lit (.string bytes) => bytes.length + 1
  | .lit _ => 1
  | .nil => 1
  | .ptr d => uptoBulk d + 1
  | .slice elems spare => uptoBulkAll elems + uptoBulkAll spare + 1
  | .agg parts => uptoBulkAll parts + 1
  | .iface _ d => uptoBulk d + 1
  | .map entries => uptoBulkEntries entries + 1
  | .held _ => 1
def uptoBulkAll {H : Type} : List (DataW H) → Nat
  | [] => 0
  | d :: r => uptoBulk d + uptoBulkAll r
def uptoBulkEntries {H : Type} : List (Lit × DataW H) → Nat
  | [] => 0
  | x :: r => uptoBulkEntry x + uptoBulkEntries r
def uptoBulkEntry {H : Type} : Lit × DataW H → Nat
  | (.string bytes, d) => bytes.length + uptoBulk d + 1
  | (_, d) => uptoBulk d + 1
 end
def uptoSmall : (H : Type) → List (DataW H) → Bool := fun _ ds => decide (uptoBulkAll ds ≤ 1048576)
def OpenSpec.upto (s : _root_.Go.ChangeSpec) : _root_.Go.OpenSpec := { _root_.Go.OpenSpec.ofChange s with cond := some uptoSmall }

/-- 'exchequerlaw01.U128Adds', WHERE WHAT IT READS IS OF BULK AT MOST 1048576: true; the input reads as it did. -/
def u128AddsUptoRow : OpenClaim := { program := "ytpiapipmhlpmjaa", sum := "569587f97868779e905ec9cfeada82143ae0bfb806940f2d4903c10bc6737235", func := "exchequer/exchequerlaw01.U128Adds", spec := "u128Adds", inPlace := ["math/bits.Add64"], named := ["math/bits.divideError", "math/bits.overflowError"], apart := false, narrowed := true }
def U128AddsUptoSaid : Prop := u128AddsUptoRow.holds Try.pinned (OpenSpec.upto u128AddsSpec)

/-- 'exchequerlaw01.U128Sums', WHERE WHAT IT READS IS OF BULK AT MOST 1048576: true; the input reads as it did. -/
def u128SumsUptoRow : OpenClaim := { program := "ytpiapipmhlpmjaa", sum := "569587f97868779e905ec9cfeada82143ae0bfb806940f2d4903c10bc6737235", func := "exchequer/exchequerlaw01.U128Sums", spec := "u128Sums", inPlace := ["math/bits.Add64", "math/bits.Sub64"], named := ["math/bits.divideError", "math/bits.overflowError"], apart := false, narrowed := true }
def U128SumsUptoSaid : Prop := u128SumsUptoRow.holds Try.pinned (OpenSpec.upto u128SumsSpec)

/-- 'exchequerlaw01.U128Bytes', WHERE WHAT IT READS IS OF BULK AT MOST 1048576: true; the input reads as it did. -/
def u128BytesUptoRow : OpenClaim := { program := "ytpiapipmhlpmjaa", sum := "569587f97868779e905ec9cfeada82143ae0bfb806940f2d4903c10bc6737235", func := "exchequer/exchequerlaw01.U128Bytes", spec := "u128Bytes", inPlace := ["math/bits.Add64"], named := ["math/bits.divideError", "math/bits.overflowError"], apart := false, narrowed := true }
def U128BytesUptoSaid : Prop := u128BytesUptoRow.holds Try.pinned (OpenSpec.upto u128BytesSpec)

/-- 'exchequerlaw01.U128Texts', WHERE WHAT IT READS IS OF BULK AT MOST 1048576: true; the input reads as it did. -/
def u128TextsUptoRow : OpenClaim := { program := "ytpiapipmhlpmjaa", sum := "569587f97868779e905ec9cfeada82143ae0bfb806940f2d4903c10bc6737235", func := "exchequer/exchequerlaw01.U128Texts", spec := "u128Texts", inPlace := ["math/bits.Add64"], named := ["math/bits.divideError", "math/bits.overflowError"], apart := false, narrowed := true }
def U128TextsUptoSaid : Prop := u128TextsUptoRow.holds Try.pinned (OpenSpec.upto u128TextsSpec)

/-- 'exchequerlaw01.U128Known', WHERE WHAT IT READS IS OF BULK AT MOST 1048576: true; the input reads as it did. -/
def u128KnownUptoRow : OpenClaim := { program := "ytpiapipmhlpmjaa", sum := "569587f97868779e905ec9cfeada82143ae0bfb806940f2d4903c10bc6737235", func := "exchequer/exchequerlaw01.U128Known", spec := "u128Known", inPlace := ["math/bits.Sub64", "math/bits.Add64", "internal/abi.NoEscape", "internal/bytealg.MakeNoZero"], named := ["math/bits.divideError", "math/bits.overflowError"], apart := false, narrowed := true }
def U128KnownUptoSaid : Prop := u128KnownUptoRow.holds Try.pinned (OpenSpec.upto u128KnownSpec)

/-- 'exchequerlaw01.U128Back', WHERE WHAT IT READS IS OF BULK AT MOST 1048576: true; the input reads as it did. -/
def u128BackUptoRow : OpenClaim := { program := "ytpiapipmhlpmjaa", sum := "569587f97868779e905ec9cfeada82143ae0bfb806940f2d4903c10bc6737235", func := "exchequer/exchequerlaw01.U128Back", spec := "u128Back", inPlace := ["math/bits.Sub64", "math/bits.Add64", "internal/abi.NoEscape", "internal/bytealg.MakeNoZero"], named := ["math/bits.divideError", "math/bits.overflowError"], apart := false, narrowed := true }
def U128BackUptoSaid : Prop := u128BackUptoRow.holds Try.pinned (OpenSpec.upto u128BackSpec)

/-- 'exchequerlaw01.U128Order', WHERE WHAT IT READS IS OF BULK AT MOST 1048576: true; the input reads as it did. -/
def u128OrderUptoRow : OpenClaim := { program := "ytpiapipmhlpmjaa", sum := "569587f97868779e905ec9cfeada82143ae0bfb806940f2d4903c10bc6737235", func := "exchequer/exchequerlaw01.U128Order", spec := "u128Order", inPlace := ["math/bits.Sub64", "math/bits.Add64", "internal/abi.NoEscape", "internal/bytealg.MakeNoZero"], named := ["math/bits.divideError", "math/bits.overflowError"], apart := false, narrowed := true }
def U128OrderUptoSaid : Prop := u128OrderUptoRow.holds Try.pinned (OpenSpec.upto u128OrderSpec)

/-- 'exchequerlaw01.U128Reads', WHERE WHAT IT READS IS OF BULK AT MOST 1048576: true; the input reads as it did. -/
def u128ReadsUptoRow : OpenClaim := { program := "ytpiapipmhlpmjaa", sum := "569587f97868779e905ec9cfeada82143ae0bfb806940f2d4903c10bc6737235", func := "exchequer/exchequerlaw01.U128Reads", spec := "u128Reads", inPlace := ["math/bits.Sub64", "math/bits.Add64", "internal/abi.NoEscape", "internal/bytealg.MakeNoZero"], named := ["math/bits.divideError", "math/bits.overflowError"], apart := false, narrowed := true }
def U128ReadsUptoSaid : Prop := u128ReadsUptoRow.holds Try.pinned (OpenSpec.upto u128ReadsSpec)

end Rows
end Go.Proofs.Ytpiapipmhlpmjaa
