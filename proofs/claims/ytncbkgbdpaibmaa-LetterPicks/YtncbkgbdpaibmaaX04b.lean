/- A part of the proof: X04b, X04e. -/
import Derived.Test.YtncbkgbdpaibmaaP04b
import Derived.Test.YtncbkgbdpaibmaaH04h
import Derived.Test.YtncbkgbdpaibmaaC04s0
import Derived.Test.YtncbkgbdpaibmaaC04c0
set_option linter.unusedVariables false
set_option linter.unusedSimpArgs false
set_option maxRecDepth 20000
namespace S04
open Go Abs
def valR (L lo hi : Int) (sb : FV) (ms b : List Int) (all : Int) : FV := match ms with
  | [] => sb
  | m :: ms => optL (fillR L lo hi (m :: ms) b all)
end S04

namespace S04
open Go Abs
theorem contains_at {l : List Int} {x : Int} {k : Nat} (hx : l[k]? = some x) : l.contains x = true := by
  have := List.mem_of_getElem? hx
  simpa using this
theorem t119 {s : FV} {l : List Int} {n : Int} (hs : lsOf s = some (ints l)) (hl : l.length ≤ 1000000) : Fn Q 119 [.fo s, .fo (.int n)] (.one (.fx (.bool (l.contains n)))) := by
  refine w119 ?_
  dsimp only [c119, sop, gop, nop, qmv, qsg, qex, qld, qcl, qln, qix, qbo, qt, qi]
  simp -implicitDefEqProofs only [go_sem, simprocAttr]
  refine lpH 6 [5] 6 [] (fun k : Nat => l.length - k) (fun k => k ≤ l.length ∧ (l.take k).contains n = false) (fun k ρ h => ρ 5 = .fv (.int (k : Nat))) 0 ⟨Nat.zero_le _, by simp⟩ ?_ ?_
  · simp -implicitDefEqProofs only [go_sem, simprocAttr]
  · rintro k ρ h ⟨k1, ea⟩ r5
    by_cases hk : k < l.length
    · have hk' : (k : Int) < (l.length : Nat) := by omega
      have hw : IntKind.i64.wrap ((k : Int) + 1) = ((k + 1 : Nat) : Int) := wr _ (by omega) (by omega)
      obtain ⟨x, hx⟩ : ∃ x, l[k]? = some x := ⟨_, List.getElem?_eq_getElem hk⟩
      have et : l.take (k + 1) = l.take k ++ [x] := by rw [List.take_add_one, hx]; rfl
      by_cases e : x = n
      · have e' : (x == n) = true := by simpa using e
        simp -implicitDefEqProofs only [go_sem, simprocAttr, r5, lenV_ls hs, ints_length, hk', index_map hs idx_22 hx rfl, e']
        exact ret_eq (by rw [contains_at (e ▸ hx)])
      · have e' : (x == n) = false := by simpa using e
        simp -implicitDefEqProofs only [go_sem, simprocAttr, r5, lenV_ls hs, ints_length, hk', index_map hs idx_22 hx rfl, e', hw]
        refine nxt (k + 1) (by omega) ⟨by omega, ?_⟩ ?_
        · rw [et, List.contains_append, ea]
          simpa using fun h => e h.symm
        · simp -implicitDefEqProofs only [go_sem, simprocAttr]
    · have hk' : ¬ (k : Int) < (l.length : Nat) := by omega
      rw [List.take_of_length_le (by omega)] at ea
      simp -implicitDefEqProofs only [go_sem, simprocAttr, r5, lenV_ls hs, ints_length, hk']
      exact ret_eq (by rw [ea])
def BestSt (b : Option (List Int)) (v : LV) : Prop := match b with | none => v = .gl 12 1 | some l => v = .fv (.list false (ints l))
def rlV : Option (List Int) → FV
  | none => .list false []
  | some l => .list false (ints l)
end S04

