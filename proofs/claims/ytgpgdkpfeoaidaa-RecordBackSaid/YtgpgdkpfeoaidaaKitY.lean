/-
  OverBytes writes over a list whose contents are told; copies of lists of bytes.
-/
import Derived.Test.YtgpgdkpfeoaidaaKitX
namespace Go.Proofs.Ytgpgdkpfeoaidaa
set_option linter.unusedSimpArgs false
set_option linter.unusedVariables false
set_option linter.unusedSectionVars false
open Go Go.RowKit

/-! ### OverBytes, told -/
/-! ### CopyBytes -/
end Go.Proofs.Ytgpgdkpfeoaidaa
