/- A part of the proof: X04i, X04v. -/
import Derived.Test.YtncbkgbdpaibmaaH04h
import Derived.Test.YtncbkgbdpaibmaaC04r0
import Derived.Test.YtncbkgbdpaibmaaP04f
import Derived.Test.YtncbkgbdpaibmaaP04j
set_option linter.unusedVariables false
set_option linter.unusedSimpArgs false
set_option maxRecDepth 20000
namespace S04
open Go Abs
@[reducible] def lsW (W : List (List Int)) : List FV := W.map fun l => .list false (ints l)
end S04

namespace S04
open Go Abs
end S04

