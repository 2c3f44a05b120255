/-
  SessionKnown: its examples, run in the kernel. Conditions: none.
-/
import Derived.Test.YtdcakhahagbedaaVmV
import Derived.Test.YtdcakhahagbedaaProg
namespace Go.Proofs.Ytdcakhahagbedaa
set_option linter.unusedSimpArgs false
set_option linter.unusedVariables false
open Go Go.RowKit
theorem xSub_ok {T : FuncId → List Value → Hp → Nat → Option Out} : XOk ⟨Try.prog, sub64V 60, T⟩ :=
  sub64_one fun x y c w => run_callFunc_extern Try.func60 (by kernel_rfl) (by kernel_rfl) (by kernel_rfl) (e := sub64Entry) (by kernel_rfl) _ w
set_option maxRecDepth 1000000 in
theorem known_val : valF ⟨Try.prog, sub64V 60, noT⟩ 30 6 [] = some (.bool true) := by kernel_rfl
theorem known_any (W : World) : Calls Try.prog 6 #[] W fun e w' => e = .returned (.bool true) ∧ Ext W w' :=
  closed (E := ⟨Try.prog, sub64V 60, noT⟩) xSub_ok noT_ok (by kernel_rfl) 30 _ [] _ rfl known_val (fun _ => rfl) W
end Go.Proofs.Ytdcakhahagbedaa
