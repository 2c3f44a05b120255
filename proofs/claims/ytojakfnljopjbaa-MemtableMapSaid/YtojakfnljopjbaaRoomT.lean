/-
  A call that changes a grown row of flat cells, told: from a run over one whole row.
-/
import Derived.Test.YtojakfnljopjbaaInsG
namespace Go.Proofs.Ytojakfnljopjbaa
set_option linter.unusedSimpArgs false
set_option linter.unusedVariables false
set_option linter.unusedSectionVars false
open Go Go.RowKit

end Go.Proofs.Ytojakfnljopjbaa
