/- A part of the proof: X04c. -/
import Derived.Test.YtncbkgbdpaibmaaX04b
import Derived.Test.YtncbkgbdpaibmaaC04b0
set_option linter.unusedVariables false
set_option linter.unusedSimpArgs false
set_option maxRecDepth 20000
namespace S04
open Go Abs
def BestRt (b : Option (List Int)) (v : LV) (h : AH) : Prop := (b = none ∧ v = .gl 23 1 ∧ h.gen 23 = 1 ∧ h.obj 23 = some (.list 3 1 false false [])) ∨ ∃ l, b = some l ∧ v = .fv (.list false (ints l))
end S04

