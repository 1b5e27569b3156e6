/- A part of the proof: X04b, X04c, X04d. -/
import Derived.Test.YtncbkgbdpaibmaaP04b
import Derived.Test.YtncbkgbdpaibmaaH04h
import Derived.Test.YtncbkgbdpaibmaaC04h0
import Derived.Test.YtncbkgbdpaibmaaC04b0
set_option linter.unusedVariables false
set_option linter.unusedSimpArgs false
set_option maxRecDepth 20000
namespace S04
open Go Abs
def valR (L lo hi : Int) (sb : FV) (ms b : List Int) (all : Int) : FV := match ms with
  | [] => sb
  | m :: ms => optL (fillR L lo hi (m :: ms) b all)
end S04

namespace S04
open Go Abs
def BestRt (b : Option (List Int)) (v : LV) (h : AH) : Prop := (b = none ∧ v = .gl 23 1 ∧ h.gen 23 = 1 ∧ h.obj 23 = some (.list 3 1 false false [])) ∨ ∃ l, b = some l ∧ v = .fv (.list false (ints l))
end S04

namespace S04
open Go Abs
theorem lay_is {c : Cs} {w : List Int} {n : Int} (e : errY c w n = 0) (h1 : w.length ≠ 1) : ∃ l W, LayIs c w n (l, W) ∧ layW (c.loo w) c.L (n - c.wd w) W = some l ∧ 0 ≤ W ∧ W ≤ 500 ∧ ∀ k, 0 ≤ k → k < W → layW (c.loo w) c.L (n - c.wd w) k = none := by
  obtain ⟨eG, nn⟩ := errY_ok e
  obtain ⟨e1, n0, n1⟩ := errG_ok eG
  obtain ⟨ok, hw⟩ := errO_ok e1
  obtain ⟨q1, q2, q3⟩ := hw w (by simp)
  have hne : c.loo w ≠ [] := by intro h; have := c.loo_len w; rw [h] at this; simp at this; omega
  have wsb := ok.ws w q3
  have r0 := ok.r0
  obtain ⟨l, W, g1, g2, g3, g4⟩ := lay_ex (ok.loo w) hne ok.l0 ok.l1 (all := n - c.wd w) (by unfold Cs.nd at nn; omega) (by unfold Cs.wd; omega)
  refine ⟨l, W, ?_, g1, g2, g3, g4⟩
  rw [LayIs, if_neg h1]
  exact ⟨g1, g2, by dsimp only; omega, g4⟩
end S04

