/- A part of the proof: H07a. -/
import Derived.Test.YtmanbdacloeioaaG07v
import Derived.Test.YtmanbdacloeioaaC07h0
set_option linter.unusedVariables false
set_option linter.unusedSimpArgs false
set_option maxRecDepth 20000
namespace S07
open Go Abs
def u8 (x : Int) : FV := .val (.int .u8 x)
def wordF (N : Int) (bs : List Int) : List Int := if bs = [] then [0] else (bs.take 6).map (·.tmod N)
def countF (N : Int) (bs : List Int) : List Int := (bs.take N.toNat).map (·.tmod 6)
def setC (N : Int) (H A : List (Int × Int)) : FV := .agg [.int N, .list false (H.map pF), .list false (A.map pF)]
theorem pF_len (l : List (Int × Int)) : ∀ x ∈ l.map pF, x.cells.length = 2 := by
  intro x hx
  obtain ⟨p, _, rfl⟩ := List.mem_map.1 hx
  rfl
theorem setC_v {N : Int} {H A : List (Int × Int)} (lH : H.length ≤ 9223372036854775807) (lA : A.length ≤ 9223372036854775807) : SetV (setC N H A) N (.list false (H.map pF)) (.list false (A.map pF)) H A := ⟨rfl, rfl, rfl, lH, lA⟩
def headF : List (Int × Int) → Int → Int
  | [], _ => -1
  | p :: ps, x => if x = p.1 then p.2 else if x = p.2 then p.1 else headF ps x
end S07

