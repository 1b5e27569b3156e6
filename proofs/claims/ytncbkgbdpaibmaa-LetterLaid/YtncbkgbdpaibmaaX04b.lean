/- A part of the proof: X04b. -/
import Derived.Test.YtncbkgbdpaibmaaP04b
import Derived.Test.YtncbkgbdpaibmaaH04h
import Derived.Test.YtncbkgbdpaibmaaC04h0
set_option linter.unusedVariables false
set_option linter.unusedSimpArgs false
set_option maxRecDepth 20000
namespace S04
open Go Abs
def valR (L lo hi : Int) (sb : FV) (ms b : List Int) (all : Int) : FV := match ms with
  | [] => sb
  | m :: ms => optL (fillR L lo hi (m :: ms) b all)
end S04

