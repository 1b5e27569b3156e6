/- A part of the proof: G07y, G07z. -/
import Derived.Test.YtmanbdacloeioaaH07z0
import Derived.Test.YtmanbdacloeioaaC07r0
set_option linter.unusedVariables false
set_option linter.unusedSimpArgs false
set_option maxRecDepth 20000
namespace S07
open Go Abs
/-! The references. -/
theorem t26 (n a b : Int) : Fn Q 26 [.fo (.int n), .fo (.int a), .fo (.int b)] (.one (.fx (.bool (inB a b n)))) := by
  by_cases h1 : a ≤ n
  · by_cases h2 : n ≤ b
    · refine w26 ?_
      dsimp only [c26, sop, gop, nop, qmv, qsg, qex, qld, qcl, qln, qix, qbo, qt, qi]
      simp -implicitDefEqProofs only [go_sem, simprocAttr, h1, h2]
      exact ret_eq (by rw [inB_iff.2 ⟨h1, h2⟩])
    · have e : inB a b n = false := by rw [← Bool.not_eq_true, inB_iff]; omega
      refine w26 ?_
      dsimp only [c26, sop, gop, nop, qmv, qsg, qex, qld, qcl, qln, qix, qbo, qt, qi]
      simp -implicitDefEqProofs only [go_sem, simprocAttr, h1, h2]
      exact ret_eq (by rw [e])
  · have e : inB a b n = false := by rw [← Bool.not_eq_true, inB_iff]; omega
    refine w26 ?_
    dsimp only [c26, sop, gop, nop, qmv, qsg, qex, qld, qcl, qln, qix, qbo, qt, qi]
    simp -implicitDefEqProofs only [go_sem, simprocAttr, h1]
    exact ret_eq (by rw [e])
theorem t76 {s : FV} {l : List Int} (h : lsOf s = some (ints l)) (hl : l.length ≤ 1000000) (x : Int) : Fn Q 76 [.fo s, .fo (.int x)] (.one (.fx (.bool (l.contains x)))) := by
  refine w76 ?_
  dsimp only [c76, sop, gop, nop, qmv, qsg, qex, qld, qcl, qln, qix, qbo, qt, qi]
  simp -implicitDefEqProofs only [go_sem, simprocAttr]
  refine lpL (β := Unit) 6 [5] 6 [] l (by omega) (fun r _ _ => l.contains x = r.contains x) (fun i _ ρ h => ρ 5 = .fv (.int i)) () rfl (by simp -implicitDefEqProofs only [go_sem, simprocAttr]) ?_ ?_
  · rintro _ ρ h' e r5
    simp -implicitDefEqProofs only [go_sem, simprocAttr, r5, lenV_ls h, ints_len]
    exact ret_eq (by rw [e]; simp)
  · rintro y ys i _ ρ h' hy hi hm hi' hw e r5
    by_cases e1 : y = x
    · have b1 : (y == x) = true := by simpa using e1
      simp -implicitDefEqProofs only [go_sem, simprocAttr, r5, lenV_ls h, ints_len, hi', index_map h idx_26 hy rfl, b1]
      exact ret_eq (by rw [e, e1]; simp)
    · have b1 : (y == x) = false := by simpa using e1
      simp -implicitDefEqProofs only [go_sem, simprocAttr, r5, lenV_ls h, ints_len, hi', index_map h idx_26 hy rfl, b1, hw]
      refine nxtL () (by rw [e, List.contains_cons, show (x == y) = false by simpa using fun h => e1 (Eq.symm h), Bool.false_or]) ?_
      simp -implicitDefEqProofs only [go_sem, simprocAttr]
theorem t32 {st : FV} {N : Int} {hs al : FV} {H A : List (Int × Int)} (v : SetV st N hs al H A) (n0 : 1 ≤ N) (n8 : N ≤ 8) {s : FV} {l : List Int} (h : lsOf s = some (ints l)) (hl : l.length ≤ 1000000) (most : Int) :
    Fn Q 32 [.fo st, .fo s, .fo (.int most)] (.one (.fx (.bool (isCount N l most)))) := by
  obtain ⟨rfl, hH, hA, _, _⟩ := v
  have o1 := ls_one hH
  have o2 := ls_one hA
  have w : IntKind.i64.wrap (N - 1) = N - 1 := wr _ (by omega) (by omega)
  refine w32 ?_
  dsimp only [c32, sop, gop, nop, qmv, qsg, qex, qld, qcl, qln, qix, qbo, qt, qi]
  simp -implicitDefEqProofs only [go_sem, simprocAttr, o1, o2]
  refine lpL (β := Unit) 8 [7] 8 [] l (by omega) (fun r _ _ => l.all (inB 0 most) = r.all (inB 0 most)) (fun i _ ρ h => ρ 7 = .fv (.int i)) () rfl (by simp -implicitDefEqProofs only [go_sem, simprocAttr]) ?_ ?_
  · rintro _ ρ h' e r5
    simp -implicitDefEqProofs only [go_sem, simprocAttr, r5, lenV_ls h, ints_len]
    exact ret_eq (by
      simp only [List.all_nil] at e
      unfold isCount
      rw [e, Bool.and_true]; rfl)
  · rintro y ys i _ ρ h' hy hi hm hi' hw e r5
    have c := t26 y 0 most
    cases hb : inB 0 most y with
    | true =>
      rw [hb] at c
      simp -implicitDefEqProofs only [go_sem, simprocAttr, r5, lenV_ls h, ints_len, hi', index_map h idx_26 hy rfl, w]
      refine call1 [] false (c) ?_
      simp -implicitDefEqProofs only [go_sem, simprocAttr, r5, hw]
      refine nxtL () (by rw [e]; simp [hb]) ?_
      simp -implicitDefEqProofs only [go_sem, simprocAttr]
    | false =>
      rw [hb] at c
      simp -implicitDefEqProofs only [go_sem, simprocAttr, r5, lenV_ls h, ints_len, hi', index_map h idx_26 hy rfl, w]
      refine call1 [] false (c) ?_
      simp -implicitDefEqProofs only [go_sem, simprocAttr]
      exact ret_eq (by
        simp only [List.all_cons, hb, Bool.false_and] at e
        unfold isCount
        rw [e, Bool.and_false])
def errWs (N : Int) (W : List (List Int)) : Int := if 5 < W.length then 5 else if (W.all fun l => isWord N l []) = false then 4 else 0
end S07

namespace S07
open Go Abs
def takF (A : List (Int × Int)) (a b : Int) : Bool := A.any fun p => (p.1 == a && p.2 == b) || (p.1 == b && p.2 == a)
def exF (H A : List (Int × Int)) (letter read kind st : Int) : Bool :=
  if (decide (kind ≤ 1) && decide (st ≠ letter)) || (decide (2 ≤ kind) && !takF A letter st) then false else if kind.tmod 2 = 1 then headF H st == read else st == read
def fndF (N : Int) (H A : List (Int × Int)) (l s : Int) (kd : Nat) (n : Nat) : Bool := (List.range n).any fun st => exF H A l s (kd : Nat) (st : Nat)
def kxF (N : Int) (H A : List (Int × Int)) (l s : Int) : Nat → List Int
  | 0 => []
  | k + 1 => kxF N H A l s k ++ if fndF N H A l s k N.toNat then [(k : Int)] else []
end S07

