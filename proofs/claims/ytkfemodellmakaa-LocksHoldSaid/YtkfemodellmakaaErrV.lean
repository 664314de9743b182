/- Errors as values. -/
import Derived.Test.YtkfemodellmakaaFrame
import Derived.Test.YtkfemodellmakaaProg
namespace Go.Proofs.Ytkfemodellmakaa
open Go.RowKit
set_option linter.unusedSimpArgs false
set_option linter.unusedVariables false

/-- An error of the program's: none, or an Errno. -/
def errV : Option Int → Value
  | none => .nilIface
  | some c => .iface 43 (.int .i64 c)

end Go.Proofs.Ytkfemodellmakaa
