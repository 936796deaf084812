/-
  THE PLUMBING OF A LAW'S FUNCTIONS, PRINTED BY A PROGRAM OF THIS PROJECT (wip/gen/plumb.py).
-/
import Derived.Test.YtnpaokckkbhdjaaR7l
import Derived.Test.YtnpaokckkbhdjaaLawB
import Derived.Test.YtnpaokckkbhdjaaLawC
import Derived.Test.YtnpaokckkbhdjaaVmU
set_option linter.unusedVariables false
set_option linter.unusedSimpArgs false
open Go Go.Vm Go.Proofs
namespace Go.Proofs.Ytnpaokckkbhdjaa.V
end Go.Proofs.Ytnpaokckkbhdjaa.V
