/-
  MergeKnown: its examples, run in the kernel. Conditions: none.
-/
import Derived.Test.YtmoflcoijmmpjaaVmW
import Derived.Test.YtmoflcoijmmpjaaProg
namespace Go.Proofs.Ytmoflcoijmmpjaa
set_option linter.unusedSimpArgs false
set_option linter.unusedVariables false
open Go Go.RowKit
theorem xCmp_ok {T : FuncId → List Value → Hp → Nat → Option Out} : XOk ⟨Try.prog, cmpX 45, T⟩ :=
  cmp_one fun args w => run_callFunc_extern Try.func45 (by kernel_rfl) (by kernel_rfl) (by kernel_rfl) (e := Extern.BytealgCompare.compare) (by kernel_rfl) args w
set_option maxRecDepth 1000000 in
theorem known_val : valF ⟨Try.prog, cmpX 45, noT⟩ 30 5 [] = some (.bool true) := by kernel_rfl
theorem known_any (W : World) : Calls Try.prog 5 #[] W fun e w' => e = .returned (.bool true) ∧ Ext W w' :=
  closed (E := ⟨Try.prog, cmpX 45, noT⟩) xCmp_ok noT_ok (by kernel_rfl) 30 _ [] _ rfl known_val (fun _ => rfl) W
end Go.Proofs.Ytmoflcoijmmpjaa
