/-
  Contracts of the document's limits, and of the examples' account.
-/
import Derived.Test.YtikfkmglcnchoaaAccountH
import Derived.Test.YtikfkmglcnchoaaAccountD
import Derived.Test.YtikfkmglcnchoaaAccountG
namespace Go.Proofs.Ytikfkmglcnchoaa
set_option linter.unusedSimpArgs false
set_option linter.unusedVariables false
set_option linter.unusedSectionVars false
open Go.ChangeShapes Go.WideShapes Go.ChangeAt Go.RowKit
attribute [local go_sem ↓] isSome_setCell
attribute [local go_sem] setCell_setCell
theorem one_lit (w : World) : Calls Try.prog 12 #[] w fun e w' => e = .returned (.agg #[.int .u64 0, .int .u64 1, .int .u64 0, .int .u64 0, .int .u64 0, .int .u64 0, .int .u64 0, .int .u64 0, .int .u64 0, .int .u64 0, .int .u64 0, .int .u64 0, .int .u64 0, .int .u32 0, .int .u32 0, .int .u32 1, .int .u16 1, .int .u16 0, .int .u64 0]) ∧ Ext w w' := one_any w
theorem chk_one (w : World) : Calls Try.prog 9 #[.agg #[.int .u64 0, .int .u64 1, .int .u64 0, .int .u64 0, .int .u64 0, .int .u64 0, .int .u64 0, .int .u64 0, .int .u64 0, .int .u64 0, .int .u64 0, .int .u64 0, .int .u64 0, .int .u32 0, .int .u32 0, .int .u32 1, .int .u16 1, .int .u16 0, .int .u64 0]] w fun e w' => e = .returned (.int .i64 0) ∧ Ext w w' :=
  check_any 0 1 0 0 0 0 0 0 0 0 0 0 0 0 0 1 1 0 0 w false false (by decide +kernel) (by decide +kernel)
theorem chk_zero (w : World) : Calls Try.prog 9 #[.agg #[.int .u64 0, .int .u64 0, .int .u64 0, .int .u64 0, .int .u64 0, .int .u64 0, .int .u64 0, .int .u64 0, .int .u64 0, .int .u64 0, .int .u64 0, .int .u64 0, .int .u64 0, .int .u32 0, .int .u32 0, .int .u32 0, .int .u16 0, .int .u16 0, .int .u64 0]] w fun e w' => e = .returned (.int .i64 6) ∧ Ext w w' :=
  check_any 0 0 0 0 0 0 0 0 0 0 0 0 0 0 0 0 0 0 0 w false false (by decide +kernel) (by decide +kernel)
theorem oth_one (w : World) : Calls Try.prog 13 #[.agg #[.int .u64 0, .int .u64 1, .int .u64 0, .int .u64 0, .int .u64 0, .int .u64 0, .int .u64 0, .int .u64 0, .int .u64 0, .int .u64 0, .int .u64 0, .int .u64 0, .int .u64 0, .int .u32 0, .int .u32 0, .int .u32 1, .int .u16 1, .int .u16 0, .int .u64 0], .agg #[.int .u64 0, .int .u64 1, .int .u64 0, .int .u64 0, .int .u64 0, .int .u64 0, .int .u64 0, .int .u64 0, .int .u64 0, .int .u64 0, .int .u64 0, .int .u64 0, .int .u64 0, .int .u32 0, .int .u32 0, .int .u32 1, .int .u16 1, .int .u16 0, .int .u64 0]] w fun e w' => e = .returned (.int .i64 21) ∧ Ext w w' :=
  other_any 0 1 0 0 0 0 0 0 0 0 0 0 0 0 0 1 1 0 0 0 1 0 0 0 0 0 0 0 0 0 0 0 0 0 1 1 0 0 w
theorem deb6 (w : World) : Calls Try.prog 14 #[.agg #[.int .u64 0, .int .u64 1, .int .u64 0, .int .u64 0, .int .u64 0, .int .u64 0, .int .u64 0, .int .u64 0, .int .u64 0, .int .u64 5, .int .u64 0, .int .u64 0, .int .u64 0, .int .u32 0, .int .u32 0, .int .u32 1, .int .u16 1, .int .u16 2, .int .u64 0], .agg #[.int .u64 0, .int .u64 6]] w fun e w' => e = .returned (.bool true) ∧ Ext w w' := by
  have h := debited_any 0 1 0 0 0 0 0 0 0 5 0 0 0 0 0 1 1 2 0 0 6 w (by simp [W64]) (by simp [W64]) (by simp [W64]) (by simp [W64]) (by simp [W64]) true (by decide +kernel)
  rw [show (true && decide (V 0 5 < V 0 0 + V 0 0 + V 0 6)) = true from by simp [V]] at h
  exact h
theorem deb5 (w : World) : Calls Try.prog 14 #[.agg #[.int .u64 0, .int .u64 1, .int .u64 0, .int .u64 0, .int .u64 0, .int .u64 0, .int .u64 0, .int .u64 0, .int .u64 0, .int .u64 5, .int .u64 0, .int .u64 0, .int .u64 0, .int .u32 0, .int .u32 0, .int .u32 1, .int .u16 1, .int .u16 2, .int .u64 0], .agg #[.int .u64 0, .int .u64 5]] w fun e w' => e = .returned (.bool false) ∧ Ext w w' := by
  have h := debited_any 0 1 0 0 0 0 0 0 0 5 0 0 0 0 0 1 1 2 0 0 5 w (by simp [W64]) (by simp [W64]) (by simp [W64]) (by simp [W64]) (by simp [W64]) true (by decide +kernel)
  rw [show (true && decide (V 0 5 < V 0 0 + V 0 0 + V 0 5)) = false from by simp [V]] at h
  exact h
end Go.Proofs.Ytikfkmglcnchoaa
