/- A part of the proof: G04k, G04l. -/
import Derived.Test.YtncbkgbdpaibmaaG04h
set_option linter.unusedVariables false
set_option linter.unusedSimpArgs false
set_option maxRecDepth 20000
namespace S04
open Go Abs
def addR : List Int → List Int → Int → List Int × Int
  | a :: u, b :: t, r => ((a + min (b - a) (addR u t r).2) :: (addR u t r).1, (addR u t r).2 - min (b - a) (addR u t r).2)
  | _, _, r => ([], r)
theorem addR_len : ∀ (a b : List Int) (r : Int), a.length = b.length → (addR a b r).1.length = a.length
  | [], [], _, _ => rfl
  | a :: u, b :: t, r, h => by simp [addR, addR_len u t r (by simpa using h)]
  | [], _ :: _, _, h => by simp at h
  | _ :: _, [], _, h => by simp at h
theorem addR_bd {B : Int} (B0 : 0 ≤ B) : ∀ (a b : List Int) (r : Int), a.length = b.length → bdd B a → bdd B b → -(2 * B * a.length) - r.natAbs ≤ (addR a b r).2 ∧ (addR a b r).2 ≤ r.natAbs + 2 * B * a.length
  | [], [], r, _, _, _ => by simp [addR]; omega
  | a :: u, b :: t, r, h, h1, h2 => by
    have ih := addR_bd B0 u t r (by simpa using h) (fun z hz => h1 z (by simp [hz])) (fun z hz => h2 z (by simp [hz]))
    have := h1 a (by simp)
    have := h2 b (by simp)
    have e : (2 * B * ((u.length : Int) + 1)) = 2 * B * u.length + 2 * B := by rw [Int.mul_add, Int.mul_one]
    have nn : 0 ≤ 2 * B * (u.length : Int) := Int.mul_nonneg (by omega) (by omega)
    simp only [addR, List.length_cons, Int.natCast_add, Int.natCast_one, e]
    omega
  | [], _ :: _, _, h, _, _ => by simp at h
  | _ :: _, [], _, h, _, _ => by simp at h
def fillF (ms : List Int) (lo hi all : Int) : Option (List Int) :=
  if fillOk lo hi ms = true ∧ sumI (gl lo ms) ≤ all ∧ all ≤ sumI (gm hi ms) then some (addR (gl lo ms) (gm hi ms) (all - sumI (gl lo ms))).1 else none
def optL : Option (List Int) → FV
  | some l => .list false (ints l)
  | none => .nil
theorem ints_set (l : List Int) (i : Nat) (v : Int) : (ints l).set i (.int v) = ints (l.set i v) := by simp [ints, List.map_set]
theorem t84 {c : Cs} {sw sp s : FV} {w : List Int} (v : CV c sw sp) (ok : c.Ok) (ws : WV c s w) {lo hi all : Int} (l0 : 0 ≤ lo) (l1 : lo ≤ 2000) (h0 : 0 ≤ hi) (h1 : hi ≤ 4000) (a0 : -1000 ≤ all) (a1 : all ≤ 1000) (hne : c.loo w ≠ []) :
    Fn Q 84 [.fo (c.bv sw sp), .fo s, .fo (.agg [.int lo, .int hi]), .fo (.int all)] (.tup [.fx (optL (fillF (c.loo w) lo hi all)), .fx (.bool (fillF (c.loo w) lo hi all).isSome)]) := by
  have o1 := ls_one v.w
  have o2 := ls_one v.p
  have o3 := ls_one ws.s
  have c114 := t114 v ok ws l0 l1 h0 h1 hne
  have ll := c.loo_len w
  have hm := ok.loo w
  have wl := ws.l
  have gb := gl_bd l0 l1 hm
  have gb2 := gm_bd h0 h1 hm
  generalize c.loo w = ms at *
  have lg : (gl lo ms).length = ms.length := by simp [gl]
  have lm : (gm hi ms).length = ms.length := by simp [gm]
  by_cases ok1 : fillOk lo hi ms = true ∧ sumI (gl lo ms) ≤ all ∧ all ≤ sumI (gm hi ms)
  · obtain ⟨e1, e2, e3⟩ := ok1
    have e2' : ¬ all < sumI (gl lo ms) := by omega
    have e3' : ¬ sumI (gm hi ms) < all := by omega
    have eF : fillF ms lo hi all = some (addR (gl lo ms) (gm hi ms) (all - sumI (gl lo ms))).1 := by simp [fillF, e1, e2, e3]
    have sb := sumI_bd _ gb
    rw [eF]
    generalize sumI (gm hi ms) = sm at *
    generalize sumI (gl lo ms) = sl at *
    generalize gl lo ms = A at *
    generalize gm hi ms = B at *
    have lA : ((A.length : Nat) : Int) ≤ 20 := by omega
    have w1 : IntKind.i64.wrap ((A.length : Int) - 1) = (A.length : Int) - 1 := wr _ (by omega) (by omega)
    have hB : lsOf (.list false (ints B)) = some (ints B) := rfl
    refine w84 ?_
    dsimp only [c84, sop, gop, nop, qmv, qsg, qex, qld, qcl, qln, qix, qbo, qt, qi]
    simp -implicitDefEqProofs only [go_sem, simprocAttr, o1, o2, o3, mapV]
    refine call1 [] false (c114) ?_
    simp -implicitDefEqProofs only [go_sem, simprocAttr, e1, e2', e3', w1, ints_length]
    refine lpH 15 [12] 15 [] (fun a : Nat × List Int => a.1) (fun a => a.1 ≤ A.length ∧ a.2 = A.take a.1 ++ (addR (A.drop a.1) (B.drop a.1) (all - sl)).1) (fun a ρ h => ρ 15 = .fv (.int ((a.1 : Int) - 1)) ∧ ρ 12 = .fv (.int (all - (addR (A.drop a.1) (B.drop a.1) (all - sl)).2)) ∧ h.gen 12100 = 1 ∧ h.obj 12100 = some (.list 3 1 false false (ints a.2))) (A.length, A) ⟨Nat.le_refl _, by simp [addR]⟩ ?_ ?_
    · have e0 : addR [] (B.drop A.length) (all - sl) = ([], all - sl) := by cases B.drop A.length <;> rfl
      simp -implicitDefEqProofs only [go_sem, simprocAttr, List.drop_length, e0]
      congr 3
      omega
    · rintro ⟨k, l⟩ ρ h ⟨kl, el⟩ ⟨r15, r12, g1, o1'⟩
      dsimp only at kl el r15 r12 o1'
      cases k with
      | zero =>
        have r15' : ρ 15 = .fv (.int (-1)) := by rw [r15]; rfl
        rw [List.take_zero, List.nil_append, List.drop_zero, List.drop_zero] at el
        simp -implicitDefEqProofs only [go_sem, simprocAttr, r15']
        refine ret_tup (fun _ => true) ?_ (by simp [ownNames])
        simp -implicitDefEqProofs only [go_sem, simprocAttr, g1, o1', el, optL, Option.isSome]
      | succ j =>
        have r15' : ρ 15 = .fv (.int (j : Int)) := by rw [r15]; congr 3; omega
        have jA : j < A.length := by omega
        have jB : j < B.length := by omega
        have dA : A.drop j = A[j] :: A.drop (j + 1) := List.drop_eq_getElem_cons jA
        have dB : B.drop j = B[j] :: B.drop (j + 1) := List.drop_eq_getElem_cons jB
        have bA := gb _ (List.getElem_mem jA)
        have bB := gb2 _ (List.getElem_mem jB)
        have rb := addR_bd (B := 5000) (by omega) (A.drop (j + 1)) (B.drop (j + 1)) (all - sl) (by simp; omega) (fun x hx => by have := gb x (List.mem_of_mem_drop hx); omega) (fun x hx => by have := gb2 x (List.mem_of_mem_drop hx); omega)
        have dl : (A.drop (j + 1)).length ≤ 20 := by simp; omega
        have ls := addR_len (A.drop (j + 1)) (B.drop (j + 1)) (all - sl) (by simp; omega)
        have eR : addR (A.drop j) (B.drop j) (all - sl) = ((A[j] + min (B[j] - A[j]) (addR (A.drop (j + 1)) (B.drop (j + 1)) (all - sl)).2) :: (addR (A.drop (j + 1)) (B.drop (j + 1)) (all - sl)).1, (addR (A.drop (j + 1)) (B.drop (j + 1)) (all - sl)).2 - min (B[j] - A[j]) (addR (A.drop (j + 1)) (B.drop (j + 1)) (all - sl)).2) := by rw [dA, dB, addR]
        have key : (A.take j ++ (addR (A.drop j) (B.drop j) (all - sl)).1) = l.set j (A[j] + min (B[j] - A[j]) (addR (A.drop (j + 1)) (B.drop (j + 1)) (all - sl)).2) := by
          rw [el, eR, List.take_add_one, List.getElem?_eq_getElem jA, List.append_assoc]
          rw [List.set_append_right _ _ (by simp; omega)]
          simp [Nat.min_eq_left (Nat.le_of_lt jA)]
        have lj : l[j]? = some A[j] := by
          rw [el, List.take_add_one, List.getElem?_eq_getElem jA, List.append_assoc, List.getElem?_append_right (by simp; omega)]
          simp [Nat.min_eq_left (Nat.le_of_lt jA)]
        have ll2 : j < l.length := (List.getElem?_eq_some_iff.1 lj).1
        have nx1 : (A.take j ++ (addR (A.drop j) (B.drop j) (all - sl)).1) = l.set j (A[j] + min (B[j] - A[j]) (addR (A.drop (j + 1)) (B.drop (j + 1)) (all - sl)).2) := key
        have nx2 : (addR (A.drop j) (B.drop j) (all - sl)).2 = (addR (A.drop (j + 1)) (B.drop (j + 1)) (all - sl)).2 - min (B[j] - A[j]) (addR (A.drop (j + 1)) (B.drop (j + 1)) (all - sl)).2 := by rw [eR]
        generalize addR (A.drop (j + 1)) (B.drop (j + 1)) (all - sl) = R at *
        generalize hR' : addR (A.drop j) (B.drop j) (all - sl) = R' at *
        generalize hn : min (B[j] - A[j]) R.2 = n at *
        have rb1 : R.2 ≤ 1000000 := by omega
        have rb0 : -1000000 ≤ R.2 := by omega
        have wA : IntKind.i64.wrap (B[j] - A[j]) = B[j] - A[j] := wr _ (by omega) (by omega)
        have wB : IntKind.i64.wrap (all - (all - R.2)) = R.2 := by rw [wr _ (by omega) (by omega)]; omega
        have wC : IntKind.i64.wrap (A[j] + n) = A[j] + n := wr _ (by omega) (by omega)
        have wD : IntKind.i64.wrap (all - R.2 + n) = all - R'.2 := by rw [wr _ (by omega) (by omega)]; omega
        have wE : IntKind.i64.wrap ((j : Int) - 1) = (j : Int) - 1 := wr _ (by omega) (by omega)
        have ij : ((j : Int) < (l.length : Nat)) := by omega
        have lj2 : (ints l)[j]? = some (.int A[j]) := by simp [ints, lj]
        have bj2 : (ints B)[j]? = some (.int B[j]) := by simp [ints, jB]
        have jn : (0 : Int) ≤ (j : Int) := by omega
        simp -implicitDefEqProofs only [go_sem, simprocAttr, r15', r12, g1, o1', jn, ij, lj2, bj2, wA, wB, hn, wC]
        refine sto_elem (by rfl) (by rfl) (by rfl) (by simp -implicitDefEqProofs only [go_sem, simprocAttr, g1, o1']; rfl) lj2 (by decide) ?_
        simp -implicitDefEqProofs only [go_sem, simprocAttr, FV.withCells, ints_set, r12, wD, r15', wE]
        refine nxt (j, l.set j (A[j] + n)) (by simp only; omega) ⟨by simp only; omega, by dsimp only; rw [hR']; exact key.symm⟩ ?_
        simp -implicitDefEqProofs only [go_sem, simprocAttr, g1, hR']
  · have eF : fillF ms lo hi all = none := by simp [fillF, ok1]
    rw [eF]
    refine w84 ?_
    dsimp only [c84, sop, gop, nop, qmv, qsg, qex, qld, qcl, qln, qix, qbo, qt, qi]
    simp -implicitDefEqProofs only [go_sem, simprocAttr, o1, o2, o3, mapV]
    refine call1 [] false (c114) ?_
    cases e1 : fillOk lo hi ms
    · simp -implicitDefEqProofs only [go_sem, simprocAttr]
      refine ret_tup (fun _ => true) ?_ (by simp [ownNames])
      simp -implicitDefEqProofs only [go_sem, simprocAttr, optL, Option.isSome]
    · by_cases e2 : all < sumI (gl lo ms)
      · simp -implicitDefEqProofs only [go_sem, simprocAttr, e2]
        refine ret_tup (fun _ => true) ?_ (by simp [ownNames])
        simp -implicitDefEqProofs only [go_sem, simprocAttr, optL, Option.isSome]
      · have e3 : sumI (gm hi ms) < all := by
          simp only [e1, true_and, not_and] at ok1
          have := ok1 (by omega)
          omega
        simp -implicitDefEqProofs only [go_sem, simprocAttr, e2, e3]
        refine ret_tup (fun _ => true) ?_ (by simp [ownNames])
        simp -implicitDefEqProofs only [go_sem, simprocAttr, optL, Option.isSome]
end S04

namespace S04
open Go Abs
theorem t127 (n : Int) : Fn Q 127 [.fo (.int n)] (.one (.fx (.bool false))) := by
  have e : (n != n) = false := by simp
  refine w127 ?_
  dsimp only [c127, sop, gop, nop, qmv, qsg, qex, qld, qcl, qln, qix, qbo, qt, qi]
  simp -implicitDefEqProofs only [go_sem, simprocAttr, e]
  exact ret_fv
def cmpI (a b : Int) : Int := if a < b then -1 else if b < a then 1 else 0
theorem t115 (a b : Int) : Fn Q 115 [.fo (.int a), .fo (.int b)] (.one (.fx (.int (cmpI a b)))) := by
  by_cases h1 : a < b
  · refine w115 ?_
    dsimp only [c115, sop, gop, nop, qmv, qsg, qex, qld, qcl, qln, qix, qbo, qt, qi]
    simp -implicitDefEqProofs only [go_sem, simprocAttr]
    refine call1 [] false (t127 a) ?_
    simp -implicitDefEqProofs only [go_sem, simprocAttr]
    refine call1 [] false (t127 b) ?_
    simp -implicitDefEqProofs only [go_sem, simprocAttr, h1]
    exact ret_eq (by simp [cmpI, h1])
  · by_cases h2 : b < a
    · refine w115 ?_
      dsimp only [c115, sop, gop, nop, qmv, qsg, qex, qld, qcl, qln, qix, qbo, qt, qi]
      simp -implicitDefEqProofs only [go_sem, simprocAttr]
      refine call1 [] false (t127 a) ?_
      simp -implicitDefEqProofs only [go_sem, simprocAttr]
      refine call1 [] false (t127 b) ?_
      simp -implicitDefEqProofs only [go_sem, simprocAttr, h1, h2]
      exact ret_eq (by simp [cmpI, h1, h2])
    · refine w115 ?_
      dsimp only [c115, sop, gop, nop, qmv, qsg, qex, qld, qcl, qln, qix, qbo, qt, qi]
      simp -implicitDefEqProofs only [go_sem, simprocAttr]
      refine call1 [] false (t127 a) ?_
      simp -implicitDefEqProofs only [go_sem, simprocAttr]
      refine call1 [] false (t127 b) ?_
      simp -implicitDefEqProofs only [go_sem, simprocAttr, h1, h2]
      exact ret_eq (by simp [cmpI, h1, h2])
def cmpL : List Int → List Int → Int
  | [], [] => 0
  | [], _ :: _ => -1
  | _ :: _, [] => 1
  | x :: xs, y :: ys => if cmpI x y ≠ 0 then cmpI x y else cmpL xs ys
theorem t85 {s t : FV} {a b : List Int} (hs : lsOf s = some (ints a)) (ht : lsOf t = some (ints b)) (hl : a.length ≤ 1000000) (hl' : b.length ≤ 1000000) : Fn Q 85 [.fo s, .fo t] (.one (.fx (.int (cmpL a b)))) := by
  refine w85 ?_
  dsimp only [c85, sop, gop, nop, qmv, qsg, qex, qld, qcl, qln, qix, qbo, qt, qi]
  simp -implicitDefEqProofs only [go_sem, simprocAttr, lenV_ls hs]
  refine lpL (β := Unit) 11 [5, 6, 7, 8] 11 [] a (by omega) (fun xs k _ => cmpL xs (b.drop k) = cmpL a b ∧ k ≤ b.length) (fun k _ ρ h => ρ 11 = .fv (.int k)) () ⟨rfl, by omega⟩ ?_ ?_ ?_
  · simp -implicitDefEqProofs only [go_sem, simprocAttr]
  · rintro _ ρ h ⟨e, kb⟩ r11
    by_cases hb : a.length < b.length
    · have hb' : ((a.length : Nat) : Int) < (b.length : Nat) := by omega
      simp -implicitDefEqProofs only [go_sem, simprocAttr, r11, lenV_ls hs, lenV_ls ht, hb']
      refine ret_eq ?_
      rw [List.drop_eq_getElem_cons hb] at e
      rw [← e]; rfl
    · have hb' : ¬ ((a.length : Nat) : Int) < (b.length : Nat) := by omega
      simp -implicitDefEqProofs only [go_sem, simprocAttr, r11, lenV_ls hs, lenV_ls ht, hb']
      refine ret_eq ?_
      rw [List.drop_of_length_le (by omega)] at e
      rw [← e]; rfl
  · rintro x xs k _ ρ h hx hk hm hk' hw ⟨e, kb⟩ r11
    by_cases hb : k < b.length
    · have hb' : ¬ ((b.length : Nat) : Int) ≤ (k : Int) := by omega
      have d := List.drop_eq_getElem_cons hb
      rw [d] at e
      simp -implicitDefEqProofs only [go_sem, simprocAttr, r11, hk', index_map hs idx_22 hx rfl, lenV_ls ht, hb', index_map ht idx_22 (List.getElem?_eq_getElem hb) rfl]
      refine call1 [] false (t115 x b[k]) ?_
      by_cases hc : cmpI x b[k] = 0
      · have hc' : (cmpI x b[k] != 0) = false := by simpa using hc
        simp -implicitDefEqProofs only [go_sem, simprocAttr, hc', r11, hw]
        refine nxtL () ⟨?_, hb⟩ ?_
        · rw [← e]; simp [cmpL, hc]
        · simp -implicitDefEqProofs only [go_sem, simprocAttr]
      · have hc' : (cmpI x b[k] != 0) = true := by simpa using hc
        simp -implicitDefEqProofs only [go_sem, simprocAttr, hc']
        exact ret_eq (by rw [← e]; simp [cmpL, hc])
    · have hb' : ((b.length : Nat) : Int) ≤ (k : Int) := by omega
      rw [List.drop_of_length_le (by omega)] at e
      simp -implicitDefEqProofs only [go_sem, simprocAttr, r11, hk', index_map hs idx_22 hx rfl, lenV_ls ht, hb']
      exact ret_eq (by rw [← e]; rfl)
end S04

