/- A part of the proof: X04i, X04o. -/
import Derived.Test.YtncbkgbdpaibmaaH04h
import Derived.Test.YtncbkgbdpaibmaaC04r0
import Derived.Test.YtncbkgbdpaibmaaP04h
import Derived.Test.YtncbkgbdpaibmaaC04h0
set_option linter.unusedVariables false
set_option linter.unusedSimpArgs false
set_option maxRecDepth 20000
namespace S04
open Go Abs
@[reducible] def lsW (W : List (List Int)) : List FV := W.map fun l => .list false (ints l)
end S04

namespace S04
open Go Abs
theorem ints_getJ {l : List Int} {i : Nat} (h2 : i < l.length) : (ints l)[i]? = some (.int (gI l (i : Nat))) := by have := gI_get (p := l) (i := (i : Int)) (by omega) (by omega); rw [Int.toNat_natCast] at this; simp [ints, this]
def rdsV (n : Nat) (s : FV) (w : List Int) : FV := if -1 ∈ w then .list false (lsW (rds n w)) else .list false [s]
end S04

