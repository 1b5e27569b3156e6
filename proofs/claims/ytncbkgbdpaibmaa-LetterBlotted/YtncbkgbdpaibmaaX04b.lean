/- A part of the proof: X04b, X04c, X04d. -/
import Derived.Test.YtncbkgbdpaibmaaP04b
import Derived.Test.YtncbkgbdpaibmaaH04h
import Derived.Test.YtncbkgbdpaibmaaC04h0
import Derived.Test.YtncbkgbdpaibmaaC04b0
set_option linter.unusedVariables false
set_option linter.unusedSimpArgs false
set_option maxRecDepth 20000
namespace S04
open Go Abs
def valR (L lo hi : Int) (sb : FV) (ms b : List Int) (all : Int) : FV := match ms with
  | [] => sb
  | m :: ms => optL (fillR L lo hi (m :: ms) b all)
end S04

namespace S04
open Go Abs
def BestRt (b : Option (List Int)) (v : LV) (h : AH) : Prop := (b = none ∧ v = .gl 23 1 ∧ h.gen 23 = 1 ∧ h.obj 23 = some (.list 3 1 false false [])) ∨ ∃ l, b = some l ∧ v = .fv (.list false (ints l))
end S04

namespace S04
open Go Abs
end S04

