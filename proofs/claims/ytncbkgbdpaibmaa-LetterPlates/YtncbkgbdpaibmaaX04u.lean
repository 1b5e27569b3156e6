/- A part of the proof: X04u, X04w. -/
import Derived.Test.YtncbkgbdpaibmaaP04j
import Derived.Test.YtncbkgbdpaibmaaX04b
import Derived.Test.YtncbkgbdpaibmaaC04h0
import Derived.Test.YtncbkgbdpaibmaaX04i
set_option linter.unusedVariables false
set_option linter.unusedSimpArgs false
set_option maxRecDepth 20000
namespace S04
open Go Abs
theorem ints_getJ {l : List Int} {i : Nat} (h2 : i < l.length) : (ints l)[i]? = some (.int (gI l (i : Nat))) := by have := gI_get (p := l) (i := (i : Int)) (by omega) (by omega); rw [Int.toNat_natCast] at this; simp [ints, this]
end S04

namespace S04
open Go Abs
def bitP (v : Int) (x : Int) : Bool := v / 2 ^ x.toNat % 2 == 1
def bitL (v : Int) (k : Nat) : List Int := 0 :: (numFrom 1 k).filter (bitP v)
structure MW (c : Cs) (W : List (List Int)) : Prop where
  l : W.length ≤ 5
  w : ∀ w ∈ W, WV c (.list false (ints w)) w
  i : ∀ w ∈ W, isW c.W.length 0 w = true
  n : ∀ w ∈ W, 1 ≤ w.length ∧ w.length ≤ 7
theorem many_ok {x : List FV} {s : FV} {c : Cs} {sw sp : FV} (T : TY x s c sw sp) {Bs : List (List Int)} (hb : ∀ b ∈ Bs, (∀ x ∈ b, 0 ≤ x ∧ x < 256) ∧ b.length ≤ 9223372036854775807) : MW c (manyF Bs) := by
  have n6 := T.n6
  have key : ∀ w ∈ manyF Bs, 1 ≤ w.length ∧ w.length ≤ 7 ∧ ∀ x ∈ w, 0 ≤ x ∧ x < 6 := by
    intro w hw
    unfold manyF at hw
    rw [List.mem_map] at hw
    obtain ⟨b, h1, rfl⟩ := hw
    exact wordF_ok (hb b (List.mem_of_mem_take h1)).1
  refine ⟨by simp only [manyF, List.length_map, List.length_take]; omega, fun w hw => ?_, fun w hw => ?_, fun w hw => ?_⟩
  · obtain ⟨h1, h2, h3⟩ := key w hw
    exact ⟨rfl, by omega, fun x hx => by have := h3 x hx; omega⟩
  · obtain ⟨h1, h2, h3⟩ := key w hw
    exact errO_word T.e n6 h1 h2 h3
  · obtain ⟨h1, h2, h3⟩ := key w hw
    exact ⟨h1, h2⟩
end S04

