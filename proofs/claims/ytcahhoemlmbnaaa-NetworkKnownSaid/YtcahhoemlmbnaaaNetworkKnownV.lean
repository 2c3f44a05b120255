/-
  NetworkKnown: its examples, run in the kernel. Conditions: none.
-/
import Derived.Test.YtcahhoemlmbnaaaVmV
import Derived.Test.YtcahhoemlmbnaaaProg
namespace Go.Proofs.Ytcahhoemlmbnaaa
set_option linter.unusedSimpArgs false
set_option linter.unusedVariables false
open Go Go.RowKit
set_option maxRecDepth 1000000 in
theorem known_val : valF ⟨Try.prog, noX, noT⟩ 30 4 [] = some (.bool true) := by kernel_rfl
theorem known_any (W : World) : Calls Try.prog 4 #[] W fun e w' => e = .returned (.bool true) ∧ Ext W w' :=
  closed (E := ⟨Try.prog, noX, noT⟩) noX_ok noT_ok (by kernel_rfl) 30 _ [] _ rfl known_val (fun _ => rfl) W
end Go.Proofs.Ytcahhoemlmbnaaa
