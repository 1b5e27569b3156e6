/- A part of the proof: X04u. -/
import Derived.Test.YtncbkgbdpaibmaaP04j
import Derived.Test.YtncbkgbdpaibmaaX04b
import Derived.Test.YtncbkgbdpaibmaaC04h0
set_option linter.unusedVariables false
set_option linter.unusedSimpArgs false
set_option maxRecDepth 20000
namespace S04
open Go Abs
theorem ints_getJ {l : List Int} {i : Nat} (h2 : i < l.length) : (ints l)[i]? = some (.int (gI l (i : Nat))) := by have := gI_get (p := l) (i := (i : Int)) (by omega) (by omega); rw [Int.toNat_natCast] at this; simp [ints, this]
end S04

