/- A part of the proof: H04f, H04g. -/
import Derived.Test.YtncbkgbdpaibmaaP04a
set_option linter.unusedVariables false
set_option linter.unusedSimpArgs false
set_option maxRecDepth 20000
namespace S04
open Go Abs
def largeF (c : Cs) (W : List (List Int)) : Bool := (W.take 21).any (fun w => decide (20 < w.length)) || decide (20 < c.W.length) || decide (20 < c.P.length) || decide (20 < W.length)
@[reducible] def swC (c : Cs) : FV := .list false (ints c.W)
@[reducible] def spC (c : Cs) : FV := .list false (c.P.map tF)
end S04

namespace S04
open Go Abs
end S04

