/- A part of the proof: X04b, X04e. -/
import Derived.Test.YtncbkgbdpaibmaaP04b
import Derived.Test.YtncbkgbdpaibmaaH04h
import Derived.Test.YtncbkgbdpaibmaaC04s0
import Derived.Test.YtncbkgbdpaibmaaC04c0
set_option linter.unusedVariables false
set_option linter.unusedSimpArgs false
set_option maxRecDepth 20000
namespace S04
open Go Abs
theorem t87 {sa sb : FV} {a b : List Int} (h1 : lsOf sa = some (ints a)) (h2 : lsOf sb = some (ints b)) (hl : a.length = b.length) (l1 : a.length ≤ 1000000) : Fn Q 87 [.fo sa, .fo sb] (.one (.fx (.bool (decide (cmpL a b < 0))))) := by
  refine w87 ?_
  dsimp only [c87, sop, gop, nop, qmv, qsg, qex, qld, qcl, qln, qix, qbo, qt, qi]
  simp -implicitDefEqProofs only [go_sem, simprocAttr]
  refine lpH 6 [5] 6 [] (fun k : Nat => a.length - k) (fun k => k ≤ a.length ∧ cmpL (a.drop k) (b.drop k) = cmpL a b) (fun k ρ h => ρ 5 = .fv (.int (k : Nat))) 0 ⟨Nat.zero_le _, by simp⟩ ?_ ?_
  · simp -implicitDefEqProofs only [go_sem, simprocAttr]
  · rintro k ρ h' ⟨hk, et⟩ r5
    by_cases q1 : k < a.length
    · have q1' : (k : Int) < (a.length : Nat) := by omega
      have hw : IntKind.i64.wrap ((k : Int) + 1) = ((k + 1 : Nat) : Int) := wr _ (by omega) (by omega)
      obtain ⟨x, hx⟩ : ∃ x, a[k]? = some x := ⟨_, List.getElem?_eq_getElem q1⟩
      obtain ⟨y, hy⟩ : ∃ y, b[k]? = some y := ⟨_, List.getElem?_eq_getElem (show k < b.length by omega)⟩
      rw [drop_get hx, drop_get hy, cmpL] at et
      by_cases e : x = y
      · have e' : (x != y) = false := by simp [e]
        subst e
        rw [cmpI_eq, if_neg (by simp)] at et
        simp -implicitDefEqProofs only [go_sem, simprocAttr, r5, lenV_ls h1, ints_length, q1', index_map h1 idx_22 hx rfl, index_map h2 idx_22 hy rfl, e', hw]
        refine nxt (k + 1) (by omega) ⟨q1, et⟩ ?_
        simp -implicitDefEqProofs only [go_sem, simprocAttr]
      · have e' : (x != y) = true := by simpa using e
        simp -implicitDefEqProofs only [go_sem, simprocAttr, r5, lenV_ls h1, ints_length, q1', index_map h1 idx_22 hx rfl, index_map h2 idx_22 hy rfl, e']
        refine ret_eq ?_
        rw [← et]
        rcases Int.lt_trichotomy x y with g | g | g
        · rw [cmpI_lt g]; simp [g]
        · exact absurd g e
        · have : ¬ x < y := by omega
          rw [cmpI_gt g]; simp [this]
    · have q1' : ¬ (k : Int) < (a.length : Nat) := by omega
      simp -implicitDefEqProofs only [go_sem, simprocAttr, r5, lenV_ls h1, ints_length, q1']
      refine ret_eq ?_
      rw [List.drop_of_length_le (by omega), List.drop_of_length_le (by omega), cmpL] at et
      rw [← et]; rfl
def valR (L lo hi : Int) (sb : FV) (ms b : List Int) (all : Int) : FV := match ms with
  | [] => sb
  | m :: ms => optL (fillR L lo hi (m :: ms) b all)
end S04

namespace S04
open Go Abs
theorem wu {n : Nat} (h : n ≤ 1000) : IntKind.u64.wrap (n : Int) = (n : Int) := by
  unfold IntKind.wrap
  simp [IntKind.signed, IntKind.bits]
  omega
theorem set_len (n s : Nat) : (setL n s).length ≤ n := by
  unfold setL
  rw [idxT_len]
  have := List.length_filter_le id (maskF s n)
  rw [mask_len] at this
  exact this
def BestSt (b : Option (List Int)) (v : LV) : Prop := match b with | none => v = .gl 12 1 | some l => v = .fv (.list false (ints l))
def rlV : Option (List Int) → FV
  | none => .list false []
  | some l => .list false (ints l)
end S04

