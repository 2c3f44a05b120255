/-
  What the opened cells of a struct are, for a load of it.
-/
import Derived.Test.YtojakfnljopjbaaOpenDp
namespace Go.Proofs.Ytojakfnljopjbaa
set_option linter.unusedSimpArgs false
set_option linter.unusedVariables false
set_option linter.unusedSectionVars false
open Go Go.RowKit

end Go.Proofs.Ytojakfnljopjbaa
