/- A part of the proof: X04e. -/
import Derived.Test.YtncbkgbdpaibmaaP04d
import Derived.Test.YtncbkgbdpaibmaaX04b
import Derived.Test.YtncbkgbdpaibmaaC04b0
set_option linter.unusedVariables false
set_option linter.unusedSimpArgs false
set_option maxRecDepth 20000
namespace S04
open Go Abs
def BestSt (b : Option (List Int)) (v : LV) : Prop := match b with | none => v = .gl 12 1 | some l => v = .fv (.list false (ints l))
def rlV : Option (List Int) → FV
  | none => .list false []
  | some l => .list false (ints l)
end S04

