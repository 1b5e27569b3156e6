/- A part of the proof: H07z0, H07z. -/
import Derived.Test.YtmanbdacloeioaaH07a
import Derived.Test.YtmanbdacloeioaaP07aa
set_option linter.unusedVariables false
set_option linter.unusedSimpArgs false
set_option maxRecDepth 20000
namespace S07
open Go Abs
theorem ints_len (l : List Int) : (ints l).length = l.length := by simp [ints]
end S07

namespace S07
open Go Abs
end S07

