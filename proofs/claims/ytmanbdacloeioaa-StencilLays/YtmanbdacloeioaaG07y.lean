/- A part of the proof: G07y, G07z. -/
import Derived.Test.YtmanbdacloeioaaH07z0
import Derived.Test.YtmanbdacloeioaaC07r0
set_option linter.unusedVariables false
set_option linter.unusedSimpArgs false
set_option maxRecDepth 20000
namespace S07
open Go Abs
/-! The references. -/
theorem t26 (n a b : Int) : Fn Q 26 [.fo (.int n), .fo (.int a), .fo (.int b)] (.one (.fx (.bool (inB a b n)))) := by
  by_cases h1 : a ≤ n
  · by_cases h2 : n ≤ b
    · refine w26 ?_
      dsimp only [c26, sop, gop, nop, qmv, qsg, qex, qld, qcl, qln, qix, qbo, qt, qi]
      simp -implicitDefEqProofs only [go_sem, simprocAttr, h1, h2]
      exact ret_eq (by rw [inB_iff.2 ⟨h1, h2⟩])
    · have e : inB a b n = false := by rw [← Bool.not_eq_true, inB_iff]; omega
      refine w26 ?_
      dsimp only [c26, sop, gop, nop, qmv, qsg, qex, qld, qcl, qln, qix, qbo, qt, qi]
      simp -implicitDefEqProofs only [go_sem, simprocAttr, h1, h2]
      exact ret_eq (by rw [e])
  · have e : inB a b n = false := by rw [← Bool.not_eq_true, inB_iff]; omega
    refine w26 ?_
    dsimp only [c26, sop, gop, nop, qmv, qsg, qex, qld, qcl, qln, qix, qbo, qt, qi]
    simp -implicitDefEqProofs only [go_sem, simprocAttr, h1]
    exact ret_eq (by rw [e])
theorem t84 (k : Int) (k0 : 0 ≤ k) (k1 : k ≤ 3) : Fn Q 84 [.fo (.int k)] (.one (.fx (.int (cost k)))) := by
  by_cases h : 2 ≤ k
  · have w : IntKind.i64.wrap (k - 1) = cost k := by
      rw [wr _ (by omega) (by omega)]
      unfold cost
      split
      · omega
      · split <;> omega
    refine w84 ?_
    dsimp only [c84, sop, gop, nop, qmv, qsg, qex, qld, qcl, qln, qix, qbo, qt, qi]
    simp -implicitDefEqProofs only [go_sem, simprocAttr, h, w]
    exact ret_fv
  · have w : k = cost k := by
      unfold cost
      split
      · omega
      · split <;> omega
    refine w84 ?_
    dsimp only [c84, sop, gop, nop, qmv, qsg, qex, qld, qcl, qln, qix, qbo, qt, qi]
    simp -implicitDefEqProofs only [go_sem, simprocAttr, h]
    exact ret_eq (by rw [← w])
theorem t76 {s : FV} {l : List Int} (h : lsOf s = some (ints l)) (hl : l.length ≤ 1000000) (x : Int) : Fn Q 76 [.fo s, .fo (.int x)] (.one (.fx (.bool (l.contains x)))) := by
  refine w76 ?_
  dsimp only [c76, sop, gop, nop, qmv, qsg, qex, qld, qcl, qln, qix, qbo, qt, qi]
  simp -implicitDefEqProofs only [go_sem, simprocAttr]
  refine lpL (β := Unit) 6 [5] 6 [] l (by omega) (fun r _ _ => l.contains x = r.contains x) (fun i _ ρ h => ρ 5 = .fv (.int i)) () rfl (by simp -implicitDefEqProofs only [go_sem, simprocAttr]) ?_ ?_
  · rintro _ ρ h' e r5
    simp -implicitDefEqProofs only [go_sem, simprocAttr, r5, lenV_ls h, ints_len]
    exact ret_eq (by rw [e]; simp)
  · rintro y ys i _ ρ h' hy hi hm hi' hw e r5
    by_cases e1 : y = x
    · have b1 : (y == x) = true := by simpa using e1
      simp -implicitDefEqProofs only [go_sem, simprocAttr, r5, lenV_ls h, ints_len, hi', index_map h idx_26 hy rfl, b1]
      exact ret_eq (by rw [e, e1]; simp)
    · have b1 : (y == x) = false := by simpa using e1
      simp -implicitDefEqProofs only [go_sem, simprocAttr, r5, lenV_ls h, ints_len, hi', index_map h idx_26 hy rfl, b1, hw]
      refine nxtL () (by rw [e, List.contains_cons, show (x == y) = false by simpa using fun h => e1 (Eq.symm h), Bool.false_or]) ?_
      simp -implicitDefEqProofs only [go_sem, simprocAttr]
theorem t31 {st : FV} {N : Int} {hs al : FV} {H A : List (Int × Int)} (v : SetV st N hs al H A) (n0 : 1 ≤ N) (n8 : N ≤ 8) {s : FV} {l : List Int} (h : lsOf s = some (ints l)) (hl : l.length ≤ 1000000) :
    Fn Q 31 [.fo st, .fo s] (.one (.fx (.bool (isWord N l [])))) := by
  obtain ⟨rfl, hH, hA, _, _⟩ := v
  have o1 := ls_one hH
  have o2 := ls_one hA
  have w : IntKind.i64.wrap (N - 1) = N - 1 := wr _ (by omega) (by omega)
  refine w31 ?_
  dsimp only [c31, sop, gop, nop, qmv, qsg, qex, qld, qcl, qln, qix, qbo, qt, qi]
  simp -implicitDefEqProofs only [go_sem, simprocAttr, o1, o2]
  refine lpL (β := Unit) 6 [5] 6 [] l (by omega) (fun r _ _ => (l.all fun n => inB 0 (N - 1) n) = r.all fun n => inB 0 (N - 1) n) (fun i _ ρ h => ρ 5 = .fv (.int i)) () rfl (by simp -implicitDefEqProofs only [go_sem, simprocAttr]) ?_ ?_
  · rintro _ ρ h' e r5
    simp -implicitDefEqProofs only [go_sem, simprocAttr, r5, lenV_ls h, ints_len]
    refine call1 [] false (t26 (l.length : Nat) 1 6) ?_
    simp -implicitDefEqProofs only [go_sem, simprocAttr]
    exact ret_eq (by
      simp only [List.all_nil] at e
      simp only [isWord, List.contains_nil, Bool.or_false]
      rw [e, Bool.and_true])
  · rintro y ys i _ ρ h' hy hi hm hi' hw e r5
    have c := t26 y 0 (N - 1)
    cases hb : inB 0 (N - 1) y with
    | true =>
      rw [hb] at c
      simp -implicitDefEqProofs only [go_sem, simprocAttr, r5, lenV_ls h, ints_len, hi', index_map h idx_26 hy rfl, w]
      refine call1 [] false (c) ?_
      simp -implicitDefEqProofs only [go_sem, simprocAttr, r5, hw]
      refine nxtL () (by rw [e]; simp [hb]) ?_
      simp -implicitDefEqProofs only [go_sem, simprocAttr]
    | false =>
      rw [hb] at c
      simp -implicitDefEqProofs only [go_sem, simprocAttr, r5, lenV_ls h, ints_len, hi', index_map h idx_26 hy rfl, w]
      refine call1 [] false (c) ?_
      simp -implicitDefEqProofs only [go_sem, simprocAttr]
      exact ret_eq (by
        simp only [List.all_cons, hb, Bool.false_and] at e
        simp only [isWord, List.contains_nil, Bool.or_false]
        rw [e, Bool.and_false])
theorem sgn_in {N : Int} (n0 : 1 ≤ N) (n : Int) : (inB 0 (N - 1) n || [(-1 : Int)].contains n) = inB (-1) (N - 1) n := by
  rw [Bool.eq_iff_iff]
  simp only [Bool.or_eq_true, inB_iff, List.contains_iff_mem, List.mem_singleton]
  omega
theorem t25 {st : FV} {N : Int} {hs al : FV} {H A : List (Int × Int)} (v : SetV st N hs al H A) (n0 : 1 ≤ N) (n8 : N ≤ 8) {s : FV} {l : List Int} (h : lsOf s = some (ints l)) (hl : l.length ≤ 1000000) :
    Fn Q 25 [.fo st, .fo s] (.one (.fx (.bool (isWord N l [-1])))) := by
  have eq : (l.all fun n => inB 0 (N - 1) n || [(-1 : Int)].contains n) = l.all fun n => inB (-1) (N - 1) n := by congr 1; funext n; exact sgn_in n0 n
  obtain ⟨rfl, hH, hA, _, _⟩ := v
  have o1 := ls_one hH
  have o2 := ls_one hA
  have w : IntKind.i64.wrap (N - 1) = N - 1 := wr _ (by omega) (by omega)
  refine w25 ?_
  dsimp only [c25, sop, gop, nop, qmv, qsg, qex, qld, qcl, qln, qix, qbo, qt, qi]
  simp -implicitDefEqProofs only [go_sem, simprocAttr, o1, o2]
  refine lpL (β := Unit) 6 [5] 6 [] l (by omega) (fun r _ _ => (l.all fun n => inB (-1) (N - 1) n) = r.all fun n => inB (-1) (N - 1) n) (fun i _ ρ h => ρ 5 = .fv (.int i)) () rfl (by simp -implicitDefEqProofs only [go_sem, simprocAttr]) ?_ ?_
  · rintro _ ρ h' e r5
    simp -implicitDefEqProofs only [go_sem, simprocAttr, r5, lenV_ls h, ints_len]
    refine call1 [] false (t26 (l.length : Nat) 1 6) ?_
    simp -implicitDefEqProofs only [go_sem, simprocAttr]
    exact ret_eq (by
      simp only [List.all_nil] at e
      unfold isWord
      rw [eq, e, Bool.and_true])
  · rintro y ys i _ ρ h' hy hi hm hi' hw e r5
    have c := t26 y (-1) (N - 1)
    cases hb : inB (-1) (N - 1) y with
    | true =>
      rw [hb] at c
      simp -implicitDefEqProofs only [go_sem, simprocAttr, r5, lenV_ls h, ints_len, hi', index_map h idx_26 hy rfl, w]
      refine call1 [] false (c) ?_
      simp -implicitDefEqProofs only [go_sem, simprocAttr, r5, hw]
      refine nxtL () (by rw [e]; simp [hb]) ?_
      simp -implicitDefEqProofs only [go_sem, simprocAttr]
    | false =>
      rw [hb] at c
      simp -implicitDefEqProofs only [go_sem, simprocAttr, r5, lenV_ls h, ints_len, hi', index_map h idx_26 hy rfl, w]
      refine call1 [] false (c) ?_
      simp -implicitDefEqProofs only [go_sem, simprocAttr]
      exact ret_eq (by
        simp only [List.all_cons, hb, Bool.false_and] at e
        unfold isWord
        rw [eq, e, Bool.and_false])
theorem t32 {st : FV} {N : Int} {hs al : FV} {H A : List (Int × Int)} (v : SetV st N hs al H A) (n0 : 1 ≤ N) (n8 : N ≤ 8) {s : FV} {l : List Int} (h : lsOf s = some (ints l)) (hl : l.length ≤ 1000000) (most : Int) :
    Fn Q 32 [.fo st, .fo s, .fo (.int most)] (.one (.fx (.bool (isCount N l most)))) := by
  obtain ⟨rfl, hH, hA, _, _⟩ := v
  have o1 := ls_one hH
  have o2 := ls_one hA
  have w : IntKind.i64.wrap (N - 1) = N - 1 := wr _ (by omega) (by omega)
  refine w32 ?_
  dsimp only [c32, sop, gop, nop, qmv, qsg, qex, qld, qcl, qln, qix, qbo, qt, qi]
  simp -implicitDefEqProofs only [go_sem, simprocAttr, o1, o2]
  refine lpL (β := Unit) 8 [7] 8 [] l (by omega) (fun r _ _ => l.all (inB 0 most) = r.all (inB 0 most)) (fun i _ ρ h => ρ 7 = .fv (.int i)) () rfl (by simp -implicitDefEqProofs only [go_sem, simprocAttr]) ?_ ?_
  · rintro _ ρ h' e r5
    simp -implicitDefEqProofs only [go_sem, simprocAttr, r5, lenV_ls h, ints_len]
    exact ret_eq (by
      simp only [List.all_nil] at e
      unfold isCount
      rw [e, Bool.and_true]; rfl)
  · rintro y ys i _ ρ h' hy hi hm hi' hw e r5
    have c := t26 y 0 most
    cases hb : inB 0 most y with
    | true =>
      rw [hb] at c
      simp -implicitDefEqProofs only [go_sem, simprocAttr, r5, lenV_ls h, ints_len, hi', index_map h idx_26 hy rfl, w]
      refine call1 [] false (c) ?_
      simp -implicitDefEqProofs only [go_sem, simprocAttr, r5, hw]
      refine nxtL () (by rw [e]; simp [hb]) ?_
      simp -implicitDefEqProofs only [go_sem, simprocAttr]
    | false =>
      rw [hb] at c
      simp -implicitDefEqProofs only [go_sem, simprocAttr, r5, lenV_ls h, ints_len, hi', index_map h idx_26 hy rfl, w]
      refine call1 [] false (c) ?_
      simp -implicitDefEqProofs only [go_sem, simprocAttr]
      exact ret_eq (by
        simp only [List.all_cons, hb, Bool.false_and] at e
        unfold isCount
        rw [e, Bool.and_false])
def errWs (N : Int) (W : List (List Int)) : Int := if 5 < W.length then 5 else if (W.all fun l => isWord N l []) = false then 4 else 0
theorem t24 {st : FV} {N : Int} {hs al : FV} {H A : List (Int × Int)} (v : SetV st N hs al H A) (n0 : 1 ≤ N) (n8 : N ≤ 8) {sW : FV} {W : List (List Int)} (hW : Lists sW W) (hl : W.length ≤ 1000000) (hWl : ∀ l ∈ W, l.length ≤ 1000000) :
    Fn Q 24 [.fo st, .fo sW] (.one (.fx (.int (errWs N W)))) := by
  have c31 := fun {s : FV} {l : List Int} (h : lsOf s = some (ints l)) (hl : l.length ≤ 1000000) => t31 v n0 n8 h hl
  obtain ⟨wl, w1, w2, w3⟩ := hW
  have la : wl.length = W.length := by rw [← w2]; simp
  by_cases h5 : 5 < W.length
  · have h5' : (5 : Int) < (W.length : Nat) := by omega
    obtain ⟨rfl, hH, hA, _, _⟩ := v
    have o1 := ls_one hH
    have o2 := ls_one hA
    have w : IntKind.i64.wrap (N - 1) = N - 1 := wr _ (by omega) (by omega)
    refine w24 ?_
    dsimp only [c24, sop, gop, nop, qmv, qsg, qex, qld, qcl, qln, qix, qbo, qt, qi]
    simp -implicitDefEqProofs only [go_sem, simprocAttr, o1, o2]
    simp -implicitDefEqProofs only [go_sem, simprocAttr, lenV_ls w1, la, h5']
    exact ret_eq (by simp [errWs, h5])
  · have h5' : ¬ (5 : Int) < (W.length : Nat) := by omega
    have ew : errWs N W = if (W.all fun l => isWord N l []) = false then 4 else 0 := by simp [errWs, h5]
    obtain ⟨rfl, hH, hA, _, _⟩ := v
    have o1 := ls_one hH
    have o2 := ls_one hA
    refine w24 ?_
    dsimp only [c24, sop, gop, nop, qmv, qsg, qex, qld, qcl, qln, qix, qbo, qt, qi]
    simp -implicitDefEqProofs only [go_sem, simprocAttr, o1, o2, lenV_ls w1, la, h5']
    refine lpL (β := Unit) 9 [5] 9 [] W (by omega) (fun r _ _ => (W.all fun l => isWord N l []) = r.all fun l => isWord N l []) (fun i _ ρ h => ρ 5 = .fv (.int i)) () rfl (by simp -implicitDefEqProofs only [go_sem, simprocAttr]) ?_ ?_
    · rintro _ ρ h' e r5
      simp only [List.all_nil] at e
      simp -implicitDefEqProofs only [go_sem, simprocAttr, r5, lenV_ls w1, la]
      exact ret_eq (by rw [ew, e]; rfl)
    · rintro y ys i _ ρ h' hy hi hm hi' hw e r5
      obtain ⟨x, hx⟩ : ∃ x, wl[i]? = some x := ⟨_, List.getElem?_eq_getElem (by omega)⟩
      obtain ⟨l, hl1, hl2, hl3⟩ := lists_get (s := sW) w2 w3 hx
      obtain rfl : l = y := by rw [hl2] at hy; simpa using hy
      have c := c31 hl1 (hWl l hm)
      cases hb : isWord N l [] with
      | true =>
        rw [hb] at c
        simp -implicitDefEqProofs only [go_sem, simprocAttr, r5, lenV_ls w1, la, hi', index_ls w1 idx_25 hx (by rw [hl3]; rfl), hl3, o1, o2]
        refine call1 [] false (c) ?_
        simp -implicitDefEqProofs only [go_sem, simprocAttr, r5, hw]
        refine nxtL () (by rw [e]; simp [hb]) ?_
        simp -implicitDefEqProofs only [go_sem, simprocAttr]
      | false =>
        rw [hb] at c
        simp -implicitDefEqProofs only [go_sem, simprocAttr, r5, lenV_ls w1, la, hi', index_ls w1 idx_25 hx (by rw [hl3]; rfl), hl3, o1, o2]
        refine call1 [] false (c) ?_
        simp -implicitDefEqProofs only [go_sem, simprocAttr]
        exact ret_eq (by
          simp only [List.all_cons, hb, Bool.false_and] at e
          rw [ew, e]; rfl)
end S07

namespace S07
open Go Abs
theorem t54 {st : FV} {N : Int} {hs al : FV} {H A : List (Int × Int)} (v : SetV st N hs al H A) : Fn Q 54 [.fo st] (.one (.fx (.int (errA N H A)))) := by
  have c82 := t82 v
  obtain ⟨rfl, hH, hA, _, _⟩ := v
  have o1 := ls_one hH
  have o2 := ls_one hA
  refine w54 ?_
  dsimp only [c54, sop, gop, nop, qmv, qsg, qex, qld, qcl, qln, qix, qbo, qt, qi]
  simp -implicitDefEqProofs only [go_sem, simprocAttr, o1, o2]
  refine call1 [] false (c82) ?_
  simp -implicitDefEqProofs only [go_sem, simprocAttr]
  exact ret_fv
theorem t68 {st : FV} {N : Int} {hs al : FV} {H A : List (Int × Int)} (v : SetV st N hs al H A) (x : Int) :
    Fn Q 68 [.fo st, .fo (.int x)] (.one (.fx (.int (headF H x)))) := by
  obtain ⟨rfl, hH, hA, lH, lA⟩ := v
  have o1 := ls_one hH
  have o2 := ls_one hA
  refine w68 ?_
  dsimp only [c68, sop, gop, nop, qmv, qsg, qex, qld, qcl, qln, qix, qbo, qt, qi]
  simp -implicitDefEqProofs only [go_sem, simprocAttr, o1, o2]
  refine lpL (β := Unit) 6 [5] 6 [] H (by omega) (fun r _ _ => headF H x = headF r x) (fun k _ ρ h => ρ 5 = .fv (.int k)) () rfl (by simp -implicitDefEqProofs only [go_sem, simprocAttr]) ?_ ?_
  · rintro _ ρ h e r5
    simp -implicitDefEqProofs only [go_sem, simprocAttr, r5, lenV_ls hH, List.length_map]
    rw [e]
    exact ret_eq (by simp [headF])
  · rintro p ys k _ ρ h hx hk hm hk' hw e r5
    by_cases e1 : x = p.1
    · have b1 : (p.1 == x) = true := by simpa using e1.symm
      simp -implicitDefEqProofs only [go_sem, simprocAttr, r5, lenV_ls hH, List.length_map, hk', index_map hH idx_22 hx rfl, pF, b1]
      rw [e]
      exact ret_eq (by simp [headF, e1])
    · have b1 : (p.1 == x) = false := by simpa using fun h => e1 (Eq.symm h)
      by_cases e2 : x = p.2
      · have b2 : (p.2 == x) = true := by simpa using e2.symm
        simp -implicitDefEqProofs only [go_sem, simprocAttr, r5, lenV_ls hH, List.length_map, hk', index_map hH idx_22 hx rfl, pF, b1, b2]
        rw [e]
        have e3 : ¬ p.2 = p.1 := e2 ▸ e1
        exact ret_eq (by simp [headF, e2, e3])
      · have b2 : (p.2 == x) = false := by simpa using fun h => e2 (Eq.symm h)
        simp -implicitDefEqProofs only [go_sem, simprocAttr, r5, lenV_ls hH, List.length_map, hk', index_map hH idx_22 hx rfl, pF, b1, b2]
        simp -implicitDefEqProofs only [go_sem, simprocAttr, r5, hw]
        refine nxtL () ?_ ?_
        · rw [e]; simp [headF, e1, e2]
        · simp -implicitDefEqProofs only [go_sem, simprocAttr]
/-- Taken for each other. -/
def takF (A : List (Int × Int)) (a b : Int) : Bool := A.any fun p => (p.1 == a && p.2 == b) || (p.1 == b && p.2 == a)
theorem t103 {st : FV} {N : Int} {hs al : FV} {H A : List (Int × Int)} (v : SetV st N hs al H A) (a b : Int) :
    Fn Q 103 [.fo st, .fo (.int a), .fo (.int b)] (.one (.fx (.bool (takF A a b)))) := by
  obtain ⟨rfl, hH, hA, lH, lA⟩ := v
  have o1 := ls_one hH
  have o2 := ls_one hA
  refine w103 ?_
  dsimp only [c103, sop, gop, nop, qmv, qsg, qex, qld, qcl, qln, qix, qbo, qt, qi]
  simp -implicitDefEqProofs only [go_sem, simprocAttr, o1, o2]
  refine lpL (β := Unit) 9 [7, 8] 8 [] A (by omega) (fun r _ _ => takF A a b = takF r a b) (fun k _ ρ h => ρ 7 = .fv (.int k)) () rfl (by simp -implicitDefEqProofs only [go_sem, simprocAttr]) ?_ ?_
  · rintro _ ρ h e r7
    simp -implicitDefEqProofs only [go_sem, simprocAttr, r7, lenV_ls hA, List.length_map]
    rw [e]
    exact ret_eq (by simp [takF])
  · rintro p ys k _ ρ h hx hk hm hk' hw e r7
    have es : takF (p :: ys) a b = (((p.1 == a && p.2 == b) || (p.1 == b && p.2 == a)) || takF ys a b) := by simp [takF]
    rw [es] at e
    cases e1 : p.1 == a <;> cases e2 : p.2 == b <;> cases e3 : p.1 == b <;> cases e4 : p.2 == a <;> (
      simp -implicitDefEqProofs only [go_sem, simprocAttr, r7, lenV_ls hA, List.length_map, hk', index_map hA idx_22 hx rfl, pF, e1, e2, e3, e4]
      first
      | (exact ret_eq (by rw [e, e1, e2, e3, e4]; rfl))
      | (simp -implicitDefEqProofs only [go_sem, simprocAttr, r7, hw]
         refine nxtL () (by rw [e, e1, e2, e3, e4]; rfl) ?_
         simp -implicitDefEqProofs only [go_sem, simprocAttr]))
/-- Whether a kind explains a place by a stencil. -/
def exF (H A : List (Int × Int)) (letter read kind st : Int) : Bool :=
  if (decide (kind ≤ 1) && decide (st ≠ letter)) || (decide (2 ≤ kind) && !takF A letter st) then false else if kind.tmod 2 = 1 then headF H st == read else st == read
theorem t83 {st : FV} {N : Int} {hs al : FV} {H A : List (Int × Int)} (v : SetV st N hs al H A) (letter read kind x : Int) (k0 : 0 ≤ kind) (k3 : kind ≤ 3) :
    Fn Q 83 [.fo st, .fo (.int letter), .fo (.int read), .fo (.int kind), .fo (.int x)] (.one (.fx (.bool (exF H A letter read kind x)))) := by
  have c103 := t103 v letter x
  have c68 := t68 v x
  obtain ⟨rfl, hH, hA, lH, lA⟩ := v
  have o1 := ls_one hH
  have o2 := ls_one hA
  by_cases h1 : kind ≤ 1
  · have h2 : ¬ 2 ≤ kind := by omega
    by_cases e : x = letter
    · have e' : (x != letter) = false := by simpa using e
      by_cases t : kind.tmod 2 = 1
      · have t' : (kind.tmod 2 == 1) = true := by simpa using t
        refine w83 ?_
        dsimp only [c83, sop, gop, nop, qmv, qsg, qex, qld, qcl, qln, qix, qbo, qt, qi]
        simp -implicitDefEqProofs only [go_sem, simprocAttr, o1, o2, h1, h2, e', t']
        refine call1 [] false (c68) ?_
        simp -implicitDefEqProofs only [go_sem, simprocAttr]
        exact ret_eq (by simp [exF, h1, h2, e, t]; try rfl)
      · have t' : (kind.tmod 2 == 1) = false := by simpa using t
        refine w83 ?_
        dsimp only [c83, sop, gop, nop, qmv, qsg, qex, qld, qcl, qln, qix, qbo, qt, qi]
        simp -implicitDefEqProofs only [go_sem, simprocAttr, o1, o2, h1, h2, e', t']
        exact ret_eq (by simp [exF, h1, h2, e, t]; try rfl)
    · have e' : (x != letter) = true := by simpa using e
      refine w83 ?_
      dsimp only [c83, sop, gop, nop, qmv, qsg, qex, qld, qcl, qln, qix, qbo, qt, qi]
      simp -implicitDefEqProofs only [go_sem, simprocAttr, o1, o2, h1, h2, e']
      exact ret_eq (by simp [exF, h1, e])
  · have h2 : 2 ≤ kind := by omega
    cases tk : takF A letter x with
    | false =>
      rw [tk] at c103
      refine w83 ?_
      dsimp only [c83, sop, gop, nop, qmv, qsg, qex, qld, qcl, qln, qix, qbo, qt, qi]
      simp -implicitDefEqProofs only [go_sem, simprocAttr, o1, o2, h1, h2]
      refine call1 [] false (c103) ?_
      simp -implicitDefEqProofs only [go_sem, simprocAttr]
      exact ret_eq (by simp [exF, h2, tk])
    | true =>
      rw [tk] at c103
      by_cases t : kind.tmod 2 = 1
      · have t' : (kind.tmod 2 == 1) = true := by simpa using t
        refine w83 ?_
        dsimp only [c83, sop, gop, nop, qmv, qsg, qex, qld, qcl, qln, qix, qbo, qt, qi]
        simp -implicitDefEqProofs only [go_sem, simprocAttr, o1, o2, h1, h2]
        refine call1 [] false (c103) ?_
        simp -implicitDefEqProofs only [go_sem, simprocAttr, t']
        refine call1 [] false (c68) ?_
        simp -implicitDefEqProofs only [go_sem, simprocAttr]
        exact ret_eq (by simp [exF, h1, h2, tk, t]; try rfl)
      · have t' : (kind.tmod 2 == 1) = false := by simpa using t
        refine w83 ?_
        dsimp only [c83, sop, gop, nop, qmv, qsg, qex, qld, qcl, qln, qix, qbo, qt, qi]
        simp -implicitDefEqProofs only [go_sem, simprocAttr, o1, o2, h1, h2]
        refine call1 [] false (c103) ?_
        simp -implicitDefEqProofs only [go_sem, simprocAttr, t']
        exact ret_eq (by simp [exF, h1, h2, tk, t]; try rfl)
def fndF (N : Int) (H A : List (Int × Int)) (l s : Int) (kd : Nat) (n : Nat) : Bool := (List.range n).any fun st => exF H A l s (kd : Nat) (st : Nat)
def kxF (N : Int) (H A : List (Int × Int)) (l s : Int) : Nat → List Int
  | 0 => []
  | k + 1 => kxF N H A l s k ++ if fndF N H A l s k N.toNat then [(k : Int)] else []
theorem kx_len (N : Int) (H A : List (Int × Int)) (l s : Int) : ∀ k, (kxF N H A l s k).length ≤ k
  | 0 => Nat.le_refl _
  | k + 1 => by
    have := kx_len N H A l s k
    simp only [kxF, List.length_append]
    split <;> simp <;> omega
theorem t55 {st : FV} {N : Int} {hs al : FV} {H A : List (Int × Int)} (v : SetV st N hs al H A) (n0 : 1 ≤ N) (n8 : N ≤ 8) (l s : Int) :
    Fn Q 55 [.fo st, .fo (.int l), .fo (.int s)] (.one (.fx (.list false (ints (kxF N H A l s 4))))) := by
  have c83 := fun kd x h h' => t83 v l s kd x h h'
  obtain ⟨rfl, hH, hA, lH, lA⟩ := v
  have o1 := ls_one hH
  have o2 := ls_one hA
  refine w55 ?_
  dsimp only [c55, sop, gop, nop, qmv, qsg, qex, qld, qcl, qln, qix, qbo, qt, qi]
  simp -implicitDefEqProofs only [go_sem, simprocAttr, o1, o2]
  refine lpH 12 [7, 8, 9, 10] 12 [11] (fun k : Nat => 4 - k) (fun k => k ≤ 4) (fun k ρ h => ρ 8 = .fv (.int k) ∧ ρ 7 = .gl 11 (h.gen 11) ∧ h.obj 11 = some (.list 3 1 false false (ints (kxF N H A l s k)))) 0 (by omega) (by simp -implicitDefEqProofs only [go_sem, simprocAttr, kxF, ints]) ?_
  rintro k ρ h hk ⟨r8, r7, o11⟩
  by_cases q1 : k < 4
  · have q1' : (k : Int) < 4 := by omega
    have hw : IntKind.i64.wrap ((k : Int) + 1) = ((k + 1 : Nat) : Int) := wr _ (by omega) (by omega)
    have kl := kx_len N H A l s k
    simp -implicitDefEqProofs only [go_sem, simprocAttr, r8, q1']
    refine lpH 16 [9, 10] 16 [] (fun j : Nat => N.toNat - j) (fun j => j ≤ N.toNat) (fun j ρ h => ρ 10 = .fv (.int j) ∧ ρ 9 = .fv (.bool (fndF N H A l s k j))) 0 (by omega) (by simp -implicitDefEqProofs only [go_sem, simprocAttr, fndF, List.any_nil]) ?_
    rintro j ρ2 h2 hj ⟨r10, r9⟩
    by_cases q2 : j < N.toNat
    · have q2' : (j : Int) < N := by omega
      have hwj : IntKind.i64.wrap ((j : Int) + 1) = ((j + 1 : Nat) : Int) := wr _ (by omega) (by omega)
      have es : fndF N H A l s k (j + 1) = (fndF N H A l s k j || exF H A l s (k : Nat) (j : Nat)) := by simp [fndF, List.range_succ]
      cases hb : fndF N H A l s k j with
      | true =>
        rw [hb] at r9 es
        simp -implicitDefEqProofs only [go_sem, simprocAttr, r10, q2', r9, hwj]
        refine nxt (j + 1) (by omega) (by omega) ?_
        simp -implicitDefEqProofs only [go_sem, simprocAttr, es]
      | false =>
        rw [hb] at r9 es
        simp -implicitDefEqProofs only [go_sem, simprocAttr, r10, q2', r9, r8, o1, o2]
        refine call1 [] false (c83 (k : Nat) (j : Nat) (by omega) (by omega)) ?_
        simp -implicitDefEqProofs only [go_sem, simprocAttr, r10, hwj]
        refine nxt (j + 1) (by omega) (by omega) ?_
        simp -implicitDefEqProofs only [go_sem, simprocAttr, es]
    · obtain rfl : j = N.toNat := by omega
      have q2' : ¬ ((N.toNat : Nat) : Int) < N := by omega
      have es : kxF N H A l s (k + 1) = kxF N H A l s k ++ if fndF N H A l s k N.toNat then [(k : Int)] else [] := rfl
      cases hb : fndF N H A l s k N.toNat with
      | true =>
        rw [hb] at r9 es
        simp -implicitDefEqProofs only [go_sem, simprocAttr, r10, q2', r9, r7, r8]
        refine app_gl (by simp -implicitDefEqProofs only [go_sem, simprocAttr, o11]; rfl) idx_26 (by simp -implicitDefEqProofs only [go_sem, simprocAttr]; rfl) (by simp [FV.cells]) (by simp -implicitDefEqProofs only [go_sem, simprocAttr]) (by simp [byt_3, ints]; omega) (by simp [maxLen, ints]; omega) (by simp) ?_
        simp -implicitDefEqProofs only [go_sem, simprocAttr, r8, hw]
        refine nxt (k + 1) (by omega) (by omega) ?_
        simp -implicitDefEqProofs only [go_sem, simprocAttr, es, ints, List.map_append, if_true]
      | false =>
        rw [hb] at r9 es
        simp -implicitDefEqProofs only [go_sem, simprocAttr, r10, q2', r9, r8, hw]
        refine nxt (k + 1) (by omega) (by omega) ?_
        simp -implicitDefEqProofs only [go_sem, simprocAttr, es, if_false, r7, o11]
  · obtain rfl : k = 4 := by omega
    have q1' : ¬ ((4 : Nat) : Int) < 4 := by omega
    simp -implicitDefEqProofs only [go_sem, simprocAttr, r8, q1', r7]
    exact ret_fx (fun _ => true) (by simp -implicitDefEqProofs only [go_sem, simprocAttr, o11])
end S07

