/- A part of the proof: G07y, G07z. -/
import Derived.Test.YtmanbdacloeioaaH07z0
import Derived.Test.YtmanbdacloeioaaC07r0
set_option linter.unusedVariables false
set_option linter.unusedSimpArgs false
set_option maxRecDepth 20000
namespace S07
open Go Abs
/-! The references. -/
theorem t26 (n a b : Int) : Fn Q 26 [.fo (.int n), .fo (.int a), .fo (.int b)] (.one (.fx (.bool (inB a b n)))) := by
  by_cases h1 : a ≤ n
  · by_cases h2 : n ≤ b
    · refine w26 ?_
      dsimp only [c26, sop, gop, nop, qmv, qsg, qex, qld, qcl, qln, qix, qbo, qt, qi]
      simp -implicitDefEqProofs only [go_sem, simprocAttr, h1, h2]
      exact ret_eq (by rw [inB_iff.2 ⟨h1, h2⟩])
    · have e : inB a b n = false := by rw [← Bool.not_eq_true, inB_iff]; omega
      refine w26 ?_
      dsimp only [c26, sop, gop, nop, qmv, qsg, qex, qld, qcl, qln, qix, qbo, qt, qi]
      simp -implicitDefEqProofs only [go_sem, simprocAttr, h1, h2]
      exact ret_eq (by rw [e])
  · have e : inB a b n = false := by rw [← Bool.not_eq_true, inB_iff]; omega
    refine w26 ?_
    dsimp only [c26, sop, gop, nop, qmv, qsg, qex, qld, qcl, qln, qix, qbo, qt, qi]
    simp -implicitDefEqProofs only [go_sem, simprocAttr, h1]
    exact ret_eq (by rw [e])
theorem t31 {st : FV} {N : Int} {hs al : FV} {H A : List (Int × Int)} (v : SetV st N hs al H A) (n0 : 1 ≤ N) (n8 : N ≤ 8) {s : FV} {l : List Int} (h : lsOf s = some (ints l)) (hl : l.length ≤ 1000000) :
    Fn Q 31 [.fo st, .fo s] (.one (.fx (.bool (isWord N l [])))) := by
  obtain ⟨rfl, hH, hA, _, _⟩ := v
  have o1 := ls_one hH
  have o2 := ls_one hA
  have w : IntKind.i64.wrap (N - 1) = N - 1 := wr _ (by omega) (by omega)
  refine w31 ?_
  dsimp only [c31, sop, gop, nop, qmv, qsg, qex, qld, qcl, qln, qix, qbo, qt, qi]
  simp -implicitDefEqProofs only [go_sem, simprocAttr, o1, o2]
  refine lpL (β := Unit) 6 [5] 6 [] l (by omega) (fun r _ _ => (l.all fun n => inB 0 (N - 1) n) = r.all fun n => inB 0 (N - 1) n) (fun i _ ρ h => ρ 5 = .fv (.int i)) () rfl (by simp -implicitDefEqProofs only [go_sem, simprocAttr]) ?_ ?_
  · rintro _ ρ h' e r5
    simp -implicitDefEqProofs only [go_sem, simprocAttr, r5, lenV_ls h, ints_len]
    refine call1 [] false (t26 (l.length : Nat) 1 6) ?_
    simp -implicitDefEqProofs only [go_sem, simprocAttr]
    exact ret_eq (by
      simp only [List.all_nil] at e
      simp only [isWord, List.contains_nil, Bool.or_false]
      rw [e, Bool.and_true])
  · rintro y ys i _ ρ h' hy hi hm hi' hw e r5
    have c := t26 y 0 (N - 1)
    cases hb : inB 0 (N - 1) y with
    | true =>
      rw [hb] at c
      simp -implicitDefEqProofs only [go_sem, simprocAttr, r5, lenV_ls h, ints_len, hi', index_map h idx_26 hy rfl, w]
      refine call1 [] false (c) ?_
      simp -implicitDefEqProofs only [go_sem, simprocAttr, r5, hw]
      refine nxtL () (by rw [e]; simp [hb]) ?_
      simp -implicitDefEqProofs only [go_sem, simprocAttr]
    | false =>
      rw [hb] at c
      simp -implicitDefEqProofs only [go_sem, simprocAttr, r5, lenV_ls h, ints_len, hi', index_map h idx_26 hy rfl, w]
      refine call1 [] false (c) ?_
      simp -implicitDefEqProofs only [go_sem, simprocAttr]
      exact ret_eq (by
        simp only [List.all_cons, hb, Bool.false_and] at e
        simp only [isWord, List.contains_nil, Bool.or_false]
        rw [e, Bool.and_false])
theorem t32 {st : FV} {N : Int} {hs al : FV} {H A : List (Int × Int)} (v : SetV st N hs al H A) (n0 : 1 ≤ N) (n8 : N ≤ 8) {s : FV} {l : List Int} (h : lsOf s = some (ints l)) (hl : l.length ≤ 1000000) (most : Int) :
    Fn Q 32 [.fo st, .fo s, .fo (.int most)] (.one (.fx (.bool (isCount N l most)))) := by
  obtain ⟨rfl, hH, hA, _, _⟩ := v
  have o1 := ls_one hH
  have o2 := ls_one hA
  have w : IntKind.i64.wrap (N - 1) = N - 1 := wr _ (by omega) (by omega)
  refine w32 ?_
  dsimp only [c32, sop, gop, nop, qmv, qsg, qex, qld, qcl, qln, qix, qbo, qt, qi]
  simp -implicitDefEqProofs only [go_sem, simprocAttr, o1, o2]
  refine lpL (β := Unit) 8 [7] 8 [] l (by omega) (fun r _ _ => l.all (inB 0 most) = r.all (inB 0 most)) (fun i _ ρ h => ρ 7 = .fv (.int i)) () rfl (by simp -implicitDefEqProofs only [go_sem, simprocAttr]) ?_ ?_
  · rintro _ ρ h' e r5
    simp -implicitDefEqProofs only [go_sem, simprocAttr, r5, lenV_ls h, ints_len]
    exact ret_eq (by
      simp only [List.all_nil] at e
      unfold isCount
      rw [e, Bool.and_true]; rfl)
  · rintro y ys i _ ρ h' hy hi hm hi' hw e r5
    have c := t26 y 0 most
    cases hb : inB 0 most y with
    | true =>
      rw [hb] at c
      simp -implicitDefEqProofs only [go_sem, simprocAttr, r5, lenV_ls h, ints_len, hi', index_map h idx_26 hy rfl, w]
      refine call1 [] false (c) ?_
      simp -implicitDefEqProofs only [go_sem, simprocAttr, r5, hw]
      refine nxtL () (by rw [e]; simp [hb]) ?_
      simp -implicitDefEqProofs only [go_sem, simprocAttr]
    | false =>
      rw [hb] at c
      simp -implicitDefEqProofs only [go_sem, simprocAttr, r5, lenV_ls h, ints_len, hi', index_map h idx_26 hy rfl, w]
      refine call1 [] false (c) ?_
      simp -implicitDefEqProofs only [go_sem, simprocAttr]
      exact ret_eq (by
        simp only [List.all_cons, hb, Bool.false_and] at e
        unfold isCount
        rw [e, Bool.and_false])
def errWs (N : Int) (W : List (List Int)) : Int := if 5 < W.length then 5 else if (W.all fun l => isWord N l []) = false then 4 else 0
theorem t24 {st : FV} {N : Int} {hs al : FV} {H A : List (Int × Int)} (v : SetV st N hs al H A) (n0 : 1 ≤ N) (n8 : N ≤ 8) {sW : FV} {W : List (List Int)} (hW : Lists sW W) (hl : W.length ≤ 1000000) (hWl : ∀ l ∈ W, l.length ≤ 1000000) :
    Fn Q 24 [.fo st, .fo sW] (.one (.fx (.int (errWs N W)))) := by
  have c31 := fun {s : FV} {l : List Int} (h : lsOf s = some (ints l)) (hl : l.length ≤ 1000000) => t31 v n0 n8 h hl
  obtain ⟨wl, w1, w2, w3⟩ := hW
  have la : wl.length = W.length := by rw [← w2]; simp
  by_cases h5 : 5 < W.length
  · have h5' : (5 : Int) < (W.length : Nat) := by omega
    obtain ⟨rfl, hH, hA, _, _⟩ := v
    have o1 := ls_one hH
    have o2 := ls_one hA
    have w : IntKind.i64.wrap (N - 1) = N - 1 := wr _ (by omega) (by omega)
    refine w24 ?_
    dsimp only [c24, sop, gop, nop, qmv, qsg, qex, qld, qcl, qln, qix, qbo, qt, qi]
    simp -implicitDefEqProofs only [go_sem, simprocAttr, o1, o2]
    simp -implicitDefEqProofs only [go_sem, simprocAttr, lenV_ls w1, la, h5']
    exact ret_eq (by simp [errWs, h5])
  · have h5' : ¬ (5 : Int) < (W.length : Nat) := by omega
    have ew : errWs N W = if (W.all fun l => isWord N l []) = false then 4 else 0 := by simp [errWs, h5]
    obtain ⟨rfl, hH, hA, _, _⟩ := v
    have o1 := ls_one hH
    have o2 := ls_one hA
    refine w24 ?_
    dsimp only [c24, sop, gop, nop, qmv, qsg, qex, qld, qcl, qln, qix, qbo, qt, qi]
    simp -implicitDefEqProofs only [go_sem, simprocAttr, o1, o2, lenV_ls w1, la, h5']
    refine lpL (β := Unit) 9 [5] 9 [] W (by omega) (fun r _ _ => (W.all fun l => isWord N l []) = r.all fun l => isWord N l []) (fun i _ ρ h => ρ 5 = .fv (.int i)) () rfl (by simp -implicitDefEqProofs only [go_sem, simprocAttr]) ?_ ?_
    · rintro _ ρ h' e r5
      simp only [List.all_nil] at e
      simp -implicitDefEqProofs only [go_sem, simprocAttr, r5, lenV_ls w1, la]
      exact ret_eq (by rw [ew, e]; rfl)
    · rintro y ys i _ ρ h' hy hi hm hi' hw e r5
      obtain ⟨x, hx⟩ : ∃ x, wl[i]? = some x := ⟨_, List.getElem?_eq_getElem (by omega)⟩
      obtain ⟨l, hl1, hl2, hl3⟩ := lists_get (s := sW) w2 w3 hx
      obtain rfl : l = y := by rw [hl2] at hy; simpa using hy
      have c := c31 hl1 (hWl l hm)
      cases hb : isWord N l [] with
      | true =>
        rw [hb] at c
        simp -implicitDefEqProofs only [go_sem, simprocAttr, r5, lenV_ls w1, la, hi', index_ls w1 idx_25 hx (by rw [hl3]; rfl), hl3, o1, o2]
        refine call1 [] false (c) ?_
        simp -implicitDefEqProofs only [go_sem, simprocAttr, r5, hw]
        refine nxtL () (by rw [e]; simp [hb]) ?_
        simp -implicitDefEqProofs only [go_sem, simprocAttr]
      | false =>
        rw [hb] at c
        simp -implicitDefEqProofs only [go_sem, simprocAttr, r5, lenV_ls w1, la, hi', index_ls w1 idx_25 hx (by rw [hl3]; rfl), hl3, o1, o2]
        refine call1 [] false (c) ?_
        simp -implicitDefEqProofs only [go_sem, simprocAttr]
        exact ret_eq (by
          simp only [List.all_cons, hb, Bool.false_and] at e
          rw [ew, e]; rfl)
end S07

namespace S07
open Go Abs
theorem t68 {st : FV} {N : Int} {hs al : FV} {H A : List (Int × Int)} (v : SetV st N hs al H A) (x : Int) :
    Fn Q 68 [.fo st, .fo (.int x)] (.one (.fx (.int (headF H x)))) := by
  obtain ⟨rfl, hH, hA, lH, lA⟩ := v
  have o1 := ls_one hH
  have o2 := ls_one hA
  refine w68 ?_
  dsimp only [c68, sop, gop, nop, qmv, qsg, qex, qld, qcl, qln, qix, qbo, qt, qi]
  simp -implicitDefEqProofs only [go_sem, simprocAttr, o1, o2]
  refine lpL (β := Unit) 6 [5] 6 [] H (by omega) (fun r _ _ => headF H x = headF r x) (fun k _ ρ h => ρ 5 = .fv (.int k)) () rfl (by simp -implicitDefEqProofs only [go_sem, simprocAttr]) ?_ ?_
  · rintro _ ρ h e r5
    simp -implicitDefEqProofs only [go_sem, simprocAttr, r5, lenV_ls hH, List.length_map]
    rw [e]
    exact ret_eq (by simp [headF])
  · rintro p ys k _ ρ h hx hk hm hk' hw e r5
    by_cases e1 : x = p.1
    · have b1 : (p.1 == x) = true := by simpa using e1.symm
      simp -implicitDefEqProofs only [go_sem, simprocAttr, r5, lenV_ls hH, List.length_map, hk', index_map hH idx_22 hx rfl, pF, b1]
      rw [e]
      exact ret_eq (by simp [headF, e1])
    · have b1 : (p.1 == x) = false := by simpa using fun h => e1 (Eq.symm h)
      by_cases e2 : x = p.2
      · have b2 : (p.2 == x) = true := by simpa using e2.symm
        simp -implicitDefEqProofs only [go_sem, simprocAttr, r5, lenV_ls hH, List.length_map, hk', index_map hH idx_22 hx rfl, pF, b1, b2]
        rw [e]
        have e3 : ¬ p.2 = p.1 := e2 ▸ e1
        exact ret_eq (by simp [headF, e2, e3])
      · have b2 : (p.2 == x) = false := by simpa using fun h => e2 (Eq.symm h)
        simp -implicitDefEqProofs only [go_sem, simprocAttr, r5, lenV_ls hH, List.length_map, hk', index_map hH idx_22 hx rfl, pF, b1, b2]
        simp -implicitDefEqProofs only [go_sem, simprocAttr, r5, hw]
        refine nxtL () ?_ ?_
        · rw [e]; simp [headF, e1, e2]
        · simp -implicitDefEqProofs only [go_sem, simprocAttr]
def takF (A : List (Int × Int)) (a b : Int) : Bool := A.any fun p => (p.1 == a && p.2 == b) || (p.1 == b && p.2 == a)
def exF (H A : List (Int × Int)) (letter read kind st : Int) : Bool :=
  if (decide (kind ≤ 1) && decide (st ≠ letter)) || (decide (2 ≤ kind) && !takF A letter st) then false else if kind.tmod 2 = 1 then headF H st == read else st == read
def fndF (N : Int) (H A : List (Int × Int)) (l s : Int) (kd : Nat) (n : Nat) : Bool := (List.range n).any fun st => exF H A l s (kd : Nat) (st : Nat)
def kxF (N : Int) (H A : List (Int × Int)) (l s : Int) : Nat → List Int
  | 0 => []
  | k + 1 => kxF N H A l s k ++ if fndF N H A l s k N.toNat then [(k : Int)] else []
end S07

