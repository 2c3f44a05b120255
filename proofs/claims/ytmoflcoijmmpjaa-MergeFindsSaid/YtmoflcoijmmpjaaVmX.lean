/-
  The machine that runs in the kernel, part X: runs at arguments that bear one slice of older memory which is never read.
-/
import Derived.Test.YtmoflcoijmmpjaaVmW
namespace Go.Proofs.Ytmoflcoijmmpjaa
set_option linter.unusedSimpArgs false
set_option linter.unusedVariables false
set_option linter.unusedSectionVars false
open Go Go.RowKit

end Go.Proofs.Ytmoflcoijmmpjaa
