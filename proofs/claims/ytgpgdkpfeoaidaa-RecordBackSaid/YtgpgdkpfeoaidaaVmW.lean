/-
  The machine that runs in the kernel, part W: functions of other make that read memory.
-/
import Derived.Test.YtgpgdkpfeoaidaaVmV
import Derived.Lib.BytesEntry
namespace Go.Proofs.Ytgpgdkpfeoaidaa
set_option linter.unusedSimpArgs false
set_option linter.unusedVariables false
set_option linter.unusedSectionVars false
open Go Go.RowKit

end Go.Proofs.Ytgpgdkpfeoaidaa
