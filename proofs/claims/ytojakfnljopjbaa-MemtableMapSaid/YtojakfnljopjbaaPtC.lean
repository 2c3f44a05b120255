/-
  Chapter 12: the statement MemtableParts: the law's runs.
-/
import Derived.Test.YtojakfnljopjbaaPtB
namespace Go.Proofs.Ytojakfnljopjbaa
set_option linter.unusedSimpArgs false
set_option linter.unusedVariables false
set_option linter.unusedSectionVars false
open Go Go.RowKit
end Go.Proofs.Ytojakfnljopjbaa
