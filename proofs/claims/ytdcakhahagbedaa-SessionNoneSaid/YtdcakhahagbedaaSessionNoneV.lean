/-
  SessionNone: run in the kernel at any client and number. Conditions: none.
-/
import Derived.Test.YtdcakhahagbedaaSessionKnownV
import Derived.Test.YtdcakhahagbedaaProg
namespace Go.Proofs.Ytdcakhahagbedaa
set_option linter.unusedSimpArgs false
set_option linter.unusedVariables false
open Go Go.RowKit
set_option maxRecDepth 1000000 in
theorem none_val (x y n : Int) : valF ⟨Try.prog, sub64V 60, noT⟩ 30 7 [.agg #[.int .u64 x, .int .u64 y], .int .i64 n] = some (.bool true) := by kernel_rfl
theorem none_any (x y n : Int) (W : World) : Calls Try.prog 7 #[.agg #[.int .u64 x, .int .u64 y], .int .i64 n] W fun e w' => e = .returned (.bool true) ∧ Ext W w' :=
  closed (E := ⟨Try.prog, sub64V 60, noT⟩) xSub_ok noT_ok (by kernel_rfl) 30 _ [.agg #[.int .u64 x, .int .u64 y], .int .i64 n] _ rfl (none_val x y n) (fun _ => rfl) W
end Go.Proofs.Ytdcakhahagbedaa
