/-
  Chapter 02: the bytes of batches, the document's functions: contracts.
-/
import Derived.Test.YtgpgdkpfeoaidaaRecE
namespace Go.Proofs.Ytgpgdkpfeoaidaa
set_option linter.unusedSimpArgs false
set_option linter.unusedVariables false
set_option linter.unusedSectionVars false
open Go Go.RowKit

end Go.Proofs.Ytgpgdkpfeoaidaa
