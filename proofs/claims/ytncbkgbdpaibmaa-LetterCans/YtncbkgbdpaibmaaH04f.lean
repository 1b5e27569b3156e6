/- A part of the proof: H04f, H04g. -/
import Derived.Test.YtncbkgbdpaibmaaP04a
set_option linter.unusedVariables false
set_option linter.unusedSimpArgs false
set_option maxRecDepth 20000
namespace S04
open Go Abs
def largeF (c : Cs) (W : List (List Int)) : Bool := (W.take 21).any (fun w => decide (20 < w.length)) || decide (20 < c.W.length) || decide (20 < c.P.length) || decide (20 < W.length)
theorem t16 {c : Cs} {sw sp sW : FV} {W : List (List Int)} (v : CV c sw sp) (hW : Lists sW W) (hl : W.length ≤ 9223372036854775807) : Fn Q 16 [.fo (c.fv sw sp), .fo sW] (.one (.fx (.bool (largeF c W)))) := by
  have o1 := ls_one v.w
  have o2 := ls_one v.p
  obtain ⟨wl, w1, w2, w3⟩ := hW
  have la : wl.length = W.length := by rw [← w2]; simp
  refine w16 ?_
  dsimp only [c16, sop, gop, nop, qmv, qsg, qex, qld, qcl, qln, qix, qbo, qt, qi]
  simp -implicitDefEqProofs only [go_sem, simprocAttr, o1, o2]
  refine lpH 6 [5] 6 [] (fun k : Nat => W.length - k) (fun k => k ≤ W.length ∧ k ≤ 21 ∧ (W.take k).any (fun w => decide (20 < w.length)) = false) (fun k ρ h => ρ 5 = .fv (.int (k : Nat))) 0 ⟨Nat.zero_le _, by omega, by simp⟩ ?_ ?_
  · simp -implicitDefEqProofs only [go_sem, simprocAttr]
  · rintro k ρ h ⟨k1, k2, ea⟩ r5
    by_cases hk : k < W.length
    · have hk' : (k : Int) < (W.length : Nat) := by omega
      by_cases hk2 : k < 21
      · have hk2' : (k : Int) < 21 := by omega
        have hw : IntKind.i64.wrap ((k : Int) + 1) = ((k + 1 : Nat) : Int) := wr _ (by omega) (by omega)
        obtain ⟨x, hx⟩ : ∃ x, wl[k]? = some x := ⟨_, List.getElem?_eq_getElem (by omega)⟩
        obtain ⟨l, hl1, hl2, hl3⟩ := lists_get w2 w3 hx
        have et : W.take (k + 1) = W.take k ++ [l] := by rw [List.take_add_one, hl2]; rfl
        by_cases c20 : 20 < l.length
        · have c20' : (20 : Int) < (l.length : Nat) := by omega
          simp -implicitDefEqProofs only [go_sem, simprocAttr, r5, lenV_ls w1, la, hk', hk2', index_ls w1 idx_56 hx (by rw [hl3]; rfl), hl3, lenV_ls hl1, ints_length, c20']
          refine ret_eq ?_
          have : (W.take 21).any (fun w => decide (20 < w.length)) = true := by
            refine List.any_eq_true.2 ⟨l, ?_, by simpa using c20⟩
            have : (W.take 21)[k]? = some l := by rw [List.getElem?_take, if_pos hk2]; exact hl2
            exact List.mem_of_getElem? this
          simp [largeF, this]
        · have c20' : ¬ (20 : Int) < (l.length : Nat) := by omega
          simp -implicitDefEqProofs only [go_sem, simprocAttr, r5, lenV_ls w1, la, hk', hk2', index_ls w1 idx_56 hx (by rw [hl3]; rfl), hl3, lenV_ls hl1, ints_length, c20', hw]
          refine nxt (k + 1) (by omega) ⟨by omega, by omega, by rw [et, List.any_append, ea]; simp [c20]⟩ ?_
          simp -implicitDefEqProofs only [go_sem, simprocAttr]
      · have hk2' : ¬ (k : Int) < 21 := by omega
        have e20 : ((20 : Int) < (W.length : Nat)) := by omega
        have eL : largeF c W = true := by
          have : 20 < W.length := by omega
          simp [largeF, this]
        rw [eL]
        by_cases e1 : 20 < c.W.length
        · have e1' : (20 : Int) < (c.W.length : Nat) := by omega
          simp -implicitDefEqProofs only [go_sem, simprocAttr, r5, lenV_ls w1, la, hk', hk2', lenV_ls v.w, ints_length, e1']
          exact ret_fv
        · have e1' : ¬ (20 : Int) < (c.W.length : Nat) := by omega
          by_cases e2 : 20 < c.P.length
          · have e2' : (20 : Int) < (c.P.length : Nat) := by omega
            simp -implicitDefEqProofs only [go_sem, simprocAttr, r5, lenV_ls w1, la, hk', hk2', lenV_ls v.w, ints_length, e1', lenV_ls v.p, List.length_map, e2']
            exact ret_fv
          · have e2' : ¬ (20 : Int) < (c.P.length : Nat) := by omega
            simp -implicitDefEqProofs only [go_sem, simprocAttr, r5, lenV_ls w1, la, hk', hk2', lenV_ls v.w, ints_length, e1', lenV_ls v.p, List.length_map, e2', e20]
            exact ret_fv
    · have hk' : ¬ (k : Int) < (W.length : Nat) := by omega
      obtain rfl : k = W.length := by omega
      rw [List.take_length] at ea
      have eq1 : largeF c W = (decide (20 < c.W.length) || decide (20 < c.P.length) || decide (20 < W.length)) := by
        unfold largeF
        rw [List.take_of_length_le (by omega), ea, Bool.false_or]
      rw [eq1]
      by_cases e1 : 20 < c.W.length
      · have e1' : (20 : Int) < (c.W.length : Nat) := by omega
        simp -implicitDefEqProofs only [go_sem, simprocAttr, r5, lenV_ls w1, la, hk', lenV_ls v.w, ints_length, e1']
        exact ret_eq (by simp [e1])
      · have e1' : ¬ (20 : Int) < (c.W.length : Nat) := by omega
        by_cases e2 : 20 < c.P.length
        · have e2' : (20 : Int) < (c.P.length : Nat) := by omega
          simp -implicitDefEqProofs only [go_sem, simprocAttr, r5, lenV_ls w1, la, hk', lenV_ls v.w, ints_length, e1', lenV_ls v.p, List.length_map, e2']
          exact ret_eq (by simp [e2])
        · have e2' : ¬ (20 : Int) < (c.P.length : Nat) := by omega
          by_cases e3 : 20 < W.length
          · have e3' : (20 : Int) < (W.length : Nat) := by omega
            simp -implicitDefEqProofs only [go_sem, simprocAttr, r5, lenV_ls w1, la, hk', lenV_ls v.w, ints_length, e1', lenV_ls v.p, List.length_map, e2', e3']
            exact ret_eq (by simp [e3])
          · have e3' : ¬ (20 : Int) < (W.length : Nat) := by omega
            simp -implicitDefEqProofs only [go_sem, simprocAttr, r5, lenV_ls w1, la, hk', lenV_ls v.w, ints_length, e1', lenV_ls v.p, List.length_map, e2', e3']
            exact ret_eq (by simp [e1, e2, e3])
theorem large_no {c : Cs} {W : List (List Int)} (h : largeF c W = false) : c.W.length ≤ 20 ∧ c.P.length ≤ 20 ∧ W.length ≤ 20 ∧ ∀ w ∈ W, w.length ≤ 20 := by
  simp only [largeF, Bool.or_eq_false_iff, decide_eq_false_iff_not] at h
  obtain ⟨⟨⟨h1, h2⟩, h3⟩, h4⟩ := h
  rw [List.take_of_length_le (by omega)] at h1
  exact ⟨by omega, by omega, by omega, fun w hw => by have := not_any h1 hw; simp at this; omega⟩
@[reducible] def swC (c : Cs) : FV := .list false (ints c.W)
@[reducible] def spC (c : Cs) : FV := .list false (c.P.map tF)
theorem t18 {c : Cs} {sw sp : FV} (v : CV c sw sp) (lW : c.W.length ≤ 1000000) (lP : c.P.length ≤ 1000000) : Fn Q 18 [.fo (c.fv sw sp)] (.one (.fx (c.fv (swC c) (spC c)))) := by
  obtain ⟨hw, hp, _, _⟩ := v
  rcases ls_cases hw with ⟨f, rfl⟩ | ⟨rfl, e1⟩ <;> rcases ls_cases hp with ⟨f', rfl⟩ | ⟨rfl, e2⟩
  · refine w18 ?_
    dsimp only [c18, sop, gop, nop, qmv, qsg, qex, qld, qcl, qln, qix, qbo, qt, qi]
    simp -implicitDefEqProofs only [go_sem, simprocAttr]
    refine W_opsD _ _ _ (Vs [[3],[],[],[3,6],[7],[],[],[7,10],[],[1],[],[1]]) ?_ ?_
    · decide
    simp -implicitDefEqProofs only [go_sem, simprocAttr]
    refine app_gl (ys := ints c.W) (by simp -implicitDefEqProofs only [go_sem, simprocAttr]; rfl) idx_22 (by simp -implicitDefEqProofs only [go_sem, simprocAttr]) (fun x hx => (ints_elem c.W x hx).1) (by simp -implicitDefEqProofs only [go_sem, simprocAttr]) (by simp [byt_3, ints]; omega) (by simp [maxLen, ints]; omega) (by simp) ?_
    simp -implicitDefEqProofs only [go_sem, simprocAttr]
    refine app_gl (ys := c.P.map tF) (by simp -implicitDefEqProofs only [go_sem, simprocAttr]; rfl) idx_23 (by simp -implicitDefEqProofs only [go_sem, simprocAttr]) (fun x hx => (tF_elem c.P x hx).1) (by simp -implicitDefEqProofs only [go_sem, simprocAttr]) (by simp [byt_108]; omega) (by simp [maxLen]; omega) (by simp) ?_
    simp -implicitDefEqProofs only [go_sem, simprocAttr]
    exact ret_fx (fun _ => true) (by simp -implicitDefEqProofs only [go_sem, simprocAttr] <;> rfl)
  · have eP : c.P = [] := by simpa using e2
    rw [swC, spC, eP]
    refine w18 ?_
    dsimp only [c18, sop, gop, nop, qmv, qsg, qex, qld, qcl, qln, qix, qbo, qt, qi]
    simp -implicitDefEqProofs only [go_sem, simprocAttr]
    refine W_opsD _ _ _ (Vs [[3],[],[],[3,6],[7],[],[],[7,10],[],[1],[],[1]]) ?_ ?_
    · decide
    simp -implicitDefEqProofs only [go_sem, simprocAttr]
    refine app_gl (ys := ints c.W) (by simp -implicitDefEqProofs only [go_sem, simprocAttr]; rfl) idx_22 (by simp -implicitDefEqProofs only [go_sem, simprocAttr]) (fun x hx => (ints_elem c.W x hx).1) (by simp -implicitDefEqProofs only [go_sem, simprocAttr]) (by simp [byt_3, ints]; omega) (by simp [maxLen, ints]; omega) (by simp) ?_
    simp -implicitDefEqProofs only [go_sem, simprocAttr]
    refine app_none (by simp -implicitDefEqProofs only [go_sem, simprocAttr]; rfl) idx_23 ?_
    simp -implicitDefEqProofs only [go_sem, simprocAttr]
    exact ret_fx (fun _ => true) (by simp -implicitDefEqProofs only [go_sem, simprocAttr] <;> rfl)
  · have eW : c.W = [] := by simpa [ints] using e1
    rw [swC, spC, eW]
    refine w18 ?_
    dsimp only [c18, sop, gop, nop, qmv, qsg, qex, qld, qcl, qln, qix, qbo, qt, qi]
    simp -implicitDefEqProofs only [go_sem, simprocAttr]
    refine W_opsD _ _ _ (Vs [[3],[],[],[3,6],[7],[],[],[7,10],[],[1],[],[1]]) ?_ ?_
    · decide
    simp -implicitDefEqProofs only [go_sem, simprocAttr]
    refine app_none (by simp -implicitDefEqProofs only [go_sem, simprocAttr]; rfl) idx_22 ?_
    simp -implicitDefEqProofs only [go_sem, simprocAttr]
    refine app_gl (ys := c.P.map tF) (by simp -implicitDefEqProofs only [go_sem, simprocAttr]; rfl) idx_23 (by simp -implicitDefEqProofs only [go_sem, simprocAttr]) (fun x hx => (tF_elem c.P x hx).1) (by simp -implicitDefEqProofs only [go_sem, simprocAttr]) (by simp [byt_108]; omega) (by simp [maxLen]; omega) (by simp) ?_
    simp -implicitDefEqProofs only [go_sem, simprocAttr]
    exact ret_fx (fun _ => true) (by simp -implicitDefEqProofs only [go_sem, simprocAttr] <;> rfl)
  · have eP : c.P = [] := by simpa using e2
    have eW : c.W = [] := by simpa [ints] using e1
    rw [swC, spC, eW, eP]
    refine w18 ?_
    dsimp only [c18, sop, gop, nop, qmv, qsg, qex, qld, qcl, qln, qix, qbo, qt, qi]
    simp -implicitDefEqProofs only [go_sem, simprocAttr]
    refine W_opsD _ _ _ (Vs [[3],[],[],[3,6],[7],[],[],[7,10],[],[1],[],[1]]) ?_ ?_
    · decide
    simp -implicitDefEqProofs only [go_sem, simprocAttr]
    refine app_none (by simp -implicitDefEqProofs only [go_sem, simprocAttr]; rfl) idx_22 ?_
    simp -implicitDefEqProofs only [go_sem, simprocAttr]
    refine app_none (by simp -implicitDefEqProofs only [go_sem, simprocAttr]; rfl) idx_23 ?_
    simp -implicitDefEqProofs only [go_sem, simprocAttr]
    exact ret_fx (fun _ => true) (by simp -implicitDefEqProofs only [go_sem, simprocAttr] <;> rfl)
theorem eqT (h : AH) (p : Int × Int × Int) : eqV Q h 108 (.fv (.agg [.int p.1, .int p.2.1, .int p.2.2])) (.fv (.agg [.int p.1, .int p.2.1, .int p.2.2])) = some true := by
  simp [eqV, flat_108, eqCells]
theorem t23 {c : Cs} {sw sp sw' sp' : FV} (v : CV c sw sp) (v' : CV c sw' sp') (lW : c.W.length ≤ 1000000) : Fn Q 23 [.fo (c.fv sw sp), .fo (c.fv sw' sp')] (.one (.fx (.bool true))) := by
  have o1 := ls_one v.w
  have o2 := ls_one v.p
  have o3 := ls_one v'.w
  have o4 := ls_one v'.p
  have n1 : (c.R != c.R) = false := by simp
  have n2 : (c.L != c.L) = false := by simp
  have n3 : (c.B != c.B) = false := by simp
  have n4 : ((c.P.length : Int) != (c.P.length : Nat)) = false := by simp
  have c24 := t24s v.w v'.w lW
  refine w23 ?_
  dsimp only [c23, sop, gop, nop, qmv, qsg, qex, qld, qcl, qln, qix, qbo, qt, qi]
  simp -implicitDefEqProofs only [go_sem, simprocAttr, o1, o2, o3, o4]
  refine call1 [] false (c24) ?_
  simp -implicitDefEqProofs only [go_sem, simprocAttr, lenV_ls v.p, lenV_ls v'.p, List.length_map, n1, n2, n3, n4]
  refine lpL (β := Unit) 42 [5] 42 [] c.P v.pl (fun _ _ _ => True) (fun i _ ρ h => ρ 5 = .fv (.int (i : Nat))) () trivial (by simp -implicitDefEqProofs only [go_sem, simprocAttr]) ?_ ?_
  · rintro _ ρ h _ r5
    simp -implicitDefEqProofs only [go_sem, simprocAttr, r5, lenV_ls v.p, List.length_map]
    exact ret_fv
  · rintro p ps i _ ρ h hx hi hm hi' hw _ r5
    simp -implicitDefEqProofs only [go_sem, simprocAttr, r5, lenV_ls v.p, List.length_map, hi', index_map v.p idx_23 hx rfl, index_map v'.p idx_23 hx rfl, tF, eqT, hw]
    refine nxtL () trivial ?_
    simp -implicitDefEqProofs only [go_sem, simprocAttr]
end S04

namespace S04
open Go Abs
theorem all_take {l : List Int} {p : Int → Bool} {k : Nat} {x : Int} (hx : l[k]? = some x) (h : p x = false) : l.all p = false := by
  rw [Bool.eq_false_iff]
  intro e
  have := List.all_eq_true.1 e x (List.mem_of_getElem? hx)
  rw [h] at this; simp at this
theorem dupK_step {p : Int × Int × Int} {P : List (Int × Int × Int)} {k : Nat} (hx : P[k]? = some p) (hc : ((P.take k).map keyT).contains (keyT p) = false) (h : dupK ((P.take k).map keyT) (P.drop k) = dupK [] P) : dupK ((P.take (k + 1)).map keyT) (P.drop (k + 1)) = dupK [] P := by
  obtain ⟨hk, rfl⟩ := List.getElem?_eq_some_iff.1 hx
  rw [List.drop_eq_getElem_cons hk, dupK, hc, Bool.false_or] at h
  rw [List.take_add_one, hx, List.map_append]
  exact h
theorem t22 {c : Cs} {sw sp : FV} (v : CV c sw sp) (lW : c.W.length ≤ 1000000) (lP : c.P.length ≤ 1000000) : Fn Q 22 [.fo (c.fv sw sp)] (.one (.fx (.int (errC c)))) := by
  have o1 := ls_one v.w
  have o2 := ls_one v.p
  have wl := v.wl
  have w1 : IntKind.i64.wrap ((c.W.length : Int) - 1) = (c.W.length : Int) - 1 := wr _ (by omega) (by omega)
  cases g1 : inB 1 8 (c.W.length : Nat)
  · have e : errC c = 4 := by simp [errC, g1]
    refine w22 ?_
    dsimp only [c22, sop, gop, nop, qmv, qsg, qex, qld, qcl, qln, qix, qbo, qt, qi]
    simp -implicitDefEqProofs only [go_sem, simprocAttr, o1, o2, lenV_ls v.w, ints_length]
    refine call1 [] false (t36 (c.W.length : Nat) 1 8) ?_
    simp -implicitDefEqProofs only [go_sem, simprocAttr, g1]
    exact ret_eq (by rw [e])
  cases g3 : inB 0 20 c.R
  · have e : errC c = 4 := by unfold errC; split; rfl; simp [g3]
    refine w22 ?_
    dsimp only [c22, sop, gop, nop, qmv, qsg, qex, qld, qcl, qln, qix, qbo, qt, qi]
    simp -implicitDefEqProofs only [go_sem, simprocAttr, o1, o2, lenV_ls v.w, ints_length]
    refine call1 [] false (t36 (c.W.length : Nat) 1 8) ?_
    simp -implicitDefEqProofs only [go_sem, simprocAttr, g1]
    refine call1 [] false (t36 c.R 0 20) ?_
    simp -implicitDefEqProofs only [go_sem, simprocAttr, g3]
    exact ret_eq (by rw [e])
  cases g4 : inB 0 10 c.L
  · have e : errC c = 4 := by unfold errC; split; rfl; simp [g3, g4]
    refine w22 ?_
    dsimp only [c22, sop, gop, nop, qmv, qsg, qex, qld, qcl, qln, qix, qbo, qt, qi]
    simp -implicitDefEqProofs only [go_sem, simprocAttr, o1, o2, lenV_ls v.w, ints_length]
    refine call1 [] false (t36 (c.W.length : Nat) 1 8) ?_
    simp -implicitDefEqProofs only [go_sem, simprocAttr, g1]
    refine call1 [] false (t36 c.R 0 20) ?_
    simp -implicitDefEqProofs only [go_sem, simprocAttr, g3]
    refine call1 [] false (t36 c.L 0 10) ?_
    simp -implicitDefEqProofs only [go_sem, simprocAttr, g4]
    exact ret_eq (by rw [e])
  cases g5 : inB 0 30 c.B
  · have e : errC c = 4 := by unfold errC; split; rfl; simp [g3, g4, g5]
    refine w22 ?_
    dsimp only [c22, sop, gop, nop, qmv, qsg, qex, qld, qcl, qln, qix, qbo, qt, qi]
    simp -implicitDefEqProofs only [go_sem, simprocAttr, o1, o2, lenV_ls v.w, ints_length]
    refine call1 [] false (t36 (c.W.length : Nat) 1 8) ?_
    simp -implicitDefEqProofs only [go_sem, simprocAttr, g1]
    refine call1 [] false (t36 c.R 0 20) ?_
    simp -implicitDefEqProofs only [go_sem, simprocAttr, g3]
    refine call1 [] false (t36 c.L 0 10) ?_
    simp -implicitDefEqProofs only [go_sem, simprocAttr, g4]
    refine call1 [] false (t36 c.B 0 30) ?_
    simp -implicitDefEqProofs only [go_sem, simprocAttr, g5]
    exact ret_eq (by rw [e])
  have n8 := (inB_iff.1 g1).2
  have n1 := (inB_iff.1 g1).1
  refine w22 ?_
  dsimp only [c22, sop, gop, nop, qmv, qsg, qex, qld, qcl, qln, qix, qbo, qt, qi]
  simp -implicitDefEqProofs only [go_sem, simprocAttr, o1, o2, lenV_ls v.w, ints_length]
  refine call1 [] false (t36 (c.W.length : Nat) 1 8) ?_
  simp -implicitDefEqProofs only [go_sem, simprocAttr, g1]
  refine call1 [] false (t36 c.R 0 20) ?_
  simp -implicitDefEqProofs only [go_sem, simprocAttr, g3]
  refine call1 [] false (t36 c.L 0 10) ?_
  simp -implicitDefEqProofs only [go_sem, simprocAttr, g4]
  refine call1 [] false (t36 c.B 0 30) ?_
  simp -implicitDefEqProofs only [go_sem, simprocAttr, g5]
  refine lpH 33 [4] 33 [] (fun k : Nat => c.W.length - k) (fun k => k ≤ c.W.length ∧ (c.W.take k).all (inB 1 30) = true) (fun k ρ h => ρ 4 = .fv (.int (k : Nat))) 0 ⟨Nat.zero_le _, by simp⟩ ?_ ?_
  · simp -implicitDefEqProofs only [go_sem, simprocAttr]
  · rintro k ρ h ⟨k1, ea⟩ r4
    by_cases hk : k < c.W.length
    · have hk' : (k : Int) < (c.W.length : Nat) := by omega
      have hw : IntKind.i64.wrap ((k : Int) + 1) = ((k + 1 : Nat) : Int) := wr _ (by omega) (by omega)
      obtain ⟨x, hx⟩ : ∃ x, c.W[k]? = some x := ⟨_, List.getElem?_eq_getElem hk⟩
      have et : c.W.take (k + 1) = c.W.take k ++ [x] := by rw [List.take_add_one, hx]; rfl
      cases gx : inB 1 30 x
      · have e : errC c = 4 := by simp only [errC, all_take hx gx]; simp
        simp -implicitDefEqProofs only [go_sem, simprocAttr, r4, hk', index_map v.w idx_22 hx rfl]
        refine call1 [] false (t36 x 1 30) ?_
        simp -implicitDefEqProofs only [go_sem, simprocAttr, gx]
        exact ret_eq (by rw [e])
      · simp -implicitDefEqProofs only [go_sem, simprocAttr, r4, hk', index_map v.w idx_22 hx rfl]
        refine call1 [] false (t36 x 1 30) ?_
        simp -implicitDefEqProofs only [go_sem, simprocAttr, gx, r4, hw]
        refine nxt (k + 1) (by omega) ⟨by omega, by rw [et, List.all_append, ea]; simp [gx]⟩ ?_
        simp -implicitDefEqProofs only [go_sem, simprocAttr]
    · have hk' : ¬ (k : Int) < (c.W.length : Nat) := by omega
      obtain rfl : k = c.W.length := by omega
      rw [List.take_length] at ea
      by_cases g6 : 10 < c.P.length
      · have g6' : (10 : Int) < (c.P.length : Nat) := by omega
        have e : errC c = 5 := by simp only [errC, g1, ea, g3, g4, g5]; simp [g6]
        simp -implicitDefEqProofs only [go_sem, simprocAttr, r4, hk', lenV_ls v.p, List.length_map, g6']
        exact ret_eq (by rw [e])
      have g6' : ¬ (10 : Int) < (c.P.length : Nat) := by omega
      simp -implicitDefEqProofs only [go_sem, simprocAttr, r4, hk', lenV_ls v.p, List.length_map, g6']
      refine lpH 49 [5, 6] 49 [6] (fun k : Nat => c.P.length - k) (fun k => k ≤ c.P.length ∧ (c.P.take k).any (badT c.W.length) = false) (fun k ρ h => ρ 5 = .fv (.int (k : Nat))) 0 ⟨Nat.zero_le _, by simp⟩ ?_ ?_
      · simp -implicitDefEqProofs only [go_sem, simprocAttr]
      · rintro k ρ h ⟨k1', eb⟩ r5
        by_cases hkp : k < c.P.length
        · have hkp' : (k : Int) < (c.P.length : Nat) := by omega
          have hw : IntKind.i64.wrap ((k : Int) + 1) = ((k + 1 : Nat) : Int) := wr _ (by omega) (by omega)
          obtain ⟨p, hp⟩ : ∃ p, c.P[k]? = some p := ⟨_, List.getElem?_eq_getElem hkp⟩
          have et : c.P.take (k + 1) = c.P.take k ++ [p] := by rw [List.take_add_one, hp]; rfl
          have eB : badT c.W.length p = true → errC c = 2 := fun hb => by
            have : c.P.any (badT c.W.length) = true := List.any_eq_true.2 ⟨p, List.mem_of_getElem? hp, hb⟩
            simp only [errC, g1, ea, g3, g4, g5, this]; simp [g6]
          cases b1 : inB 0 ((c.W.length : Int) - 1) p.1
          · simp -implicitDefEqProofs only [go_sem, simprocAttr, r5, lenV_ls v.p, List.length_map, hkp', index_map v.p idx_23 hp rfl, tF, w1]
            refine call1 [] false (t36 p.1 0 ((c.W.length : Int) - 1)) ?_
            simp -implicitDefEqProofs only [go_sem, simprocAttr, b1]
            exact ret_eq (by rw [eB (by simp [badT, b1])])
          cases b2 : inB 0 ((c.W.length : Int) - 1) p.2.1
          · simp -implicitDefEqProofs only [go_sem, simprocAttr, r5, lenV_ls v.p, List.length_map, hkp', index_map v.p idx_23 hp rfl, tF, w1]
            refine call1 [] false (t36 p.1 0 ((c.W.length : Int) - 1)) ?_
            simp -implicitDefEqProofs only [go_sem, simprocAttr, b1, w1]
            refine call1 [] false (t36 p.2.1 0 ((c.W.length : Int) - 1)) ?_
            simp -implicitDefEqProofs only [go_sem, simprocAttr, b2]
            exact ret_eq (by rw [eB (by simp [badT, b1, b2])])
          cases b3 : inB (-5) 5 p.2.2
          · simp -implicitDefEqProofs only [go_sem, simprocAttr, r5, lenV_ls v.p, List.length_map, hkp', index_map v.p idx_23 hp rfl, tF, w1]
            refine call1 [] false (t36 p.1 0 ((c.W.length : Int) - 1)) ?_
            simp -implicitDefEqProofs only [go_sem, simprocAttr, b1, w1]
            refine call1 [] false (t36 p.2.1 0 ((c.W.length : Int) - 1)) ?_
            simp -implicitDefEqProofs only [go_sem, simprocAttr, b2]
            refine call1 [] false (t36 p.2.2 (-5) 5) ?_
            simp -implicitDefEqProofs only [go_sem, simprocAttr, b3]
            exact ret_eq (by rw [eB (by simp [badT, b1, b2, b3])])
          · simp -implicitDefEqProofs only [go_sem, simprocAttr, r5, lenV_ls v.p, List.length_map, hkp', index_map v.p idx_23 hp rfl, tF, w1]
            refine call1 [] false (t36 p.1 0 ((c.W.length : Int) - 1)) ?_
            simp -implicitDefEqProofs only [go_sem, simprocAttr, b1, w1]
            refine call1 [] false (t36 p.2.1 0 ((c.W.length : Int) - 1)) ?_
            simp -implicitDefEqProofs only [go_sem, simprocAttr, b2]
            refine call1 [] false (t36 p.2.2 (-5) 5) ?_
            simp -implicitDefEqProofs only [go_sem, simprocAttr, b3, r5, hw]
            refine nxt (k + 1) (by omega) ⟨by omega, by rw [et, List.any_append, eb]; simp [badT, b1, b2, b3]⟩ ?_
            simp -implicitDefEqProofs only [go_sem, simprocAttr]
        · have hkp' : ¬ (k : Int) < (c.P.length : Nat) := by omega
          obtain rfl : k = c.P.length := by omega
          rw [List.take_length] at eb
          have eD : dupK [] c.P = true → errC c = 6 := fun hd => by
            have := (dup_M c).1 hd
            simp only [errC, g1, ea, g3, g4, g5, eb]; simp [g6, this]
          have e0 : dupK [] c.P = false → errC c = 0 := fun hd => by
            have : ¬ c.M.length < c.P.length := fun h => by rw [(dup_M c).2 h] at hd; simp at hd
            simp only [errC, g1, ea, g3, g4, g5, eb]; simp [g6, this]
          simp -implicitDefEqProofs only [go_sem, simprocAttr, r5, lenV_ls v.p, List.length_map, hkp']
          refine lpH 81 [7, 8] 81 [] (fun k : Nat => c.P.length - k) (fun k => k ≤ c.P.length ∧ dupK ((c.P.take k).map keyT) (c.P.drop k) = dupK [] c.P) (fun k ρ h => ρ 7 = .fv (.int (k : Nat))) 0 ⟨Nat.zero_le _, by simp⟩ ?_ ?_
          · simp -implicitDefEqProofs only [go_sem, simprocAttr]
          · rintro k ρ h ⟨k1'', ed⟩ r7
            by_cases hkq : k < c.P.length
            · have hkq' : (k : Int) < (c.P.length : Nat) := by omega
              have hw : IntKind.i64.wrap ((k : Int) + 1) = ((k + 1 : Nat) : Int) := wr _ (by omega) (by omega)
              obtain ⟨p, hp⟩ : ∃ p, c.P[k]? = some p := ⟨_, List.getElem?_eq_getElem hkq⟩
              simp -implicitDefEqProofs only [go_sem, simprocAttr, r7, lenV_ls v.p, List.length_map, hkq']
              refine lpH 88 [8] 88 [] (fun j : Nat => k - j) (fun j => j ≤ k ∧ ((c.P.take j).map keyT).contains (keyT p) = false) (fun j ρ h => ρ 8 = .fv (.int (j : Nat))) 0 ⟨Nat.zero_le _, by simp⟩ ?_ ?_
              · simp -implicitDefEqProofs only [go_sem, simprocAttr]
              · rintro j ρ h ⟨j1, ej⟩ r8
                by_cases hj : j < k
                · have hj' : (j : Int) < (k : Nat) := by omega
                  have hwj : IntKind.i64.wrap ((j : Int) + 1) = ((j + 1 : Nat) : Int) := wr _ (by omega) (by omega)
                  obtain ⟨q, hq⟩ : ∃ q, c.P[j]? = some q := ⟨_, List.getElem?_eq_getElem (by omega)⟩
                  have et : c.P.take (j + 1) = c.P.take j ++ [q] := by rw [List.take_add_one, hq]; rfl
                  have eN : keyT p ≠ keyT q → ((c.P.take (j + 1)).map keyT).contains (keyT p) = false := fun hne => by
                    rw [et, List.map_append, List.contains_append, ej]
                    simpa using hne
                  by_cases h1 : p.1 = q.1
                  · have h1' : (p.1 == q.1) = true := by simpa using h1
                    by_cases h2 : p.2.1 = q.2.1
                    · have h2' : (p.2.1 == q.2.1) = true := by simpa using h2
                      simp -implicitDefEqProofs only [go_sem, simprocAttr, r7, r8, hj', index_map v.p idx_23 hp rfl, index_map v.p idx_23 hq rfl, tF, h1', h2']
                      refine ret_eq ?_
                      have hcon : ((c.P.take k).map keyT).contains (keyT p) = true := by
                        have hm : keyT q ∈ (c.P.take k).map keyT := by
                          refine List.mem_map.2 ⟨q, ?_, rfl⟩
                          have : (c.P.take k)[j]? = some q := by rw [List.getElem?_take, if_pos hj]; exact hq
                          exact List.mem_of_getElem? this
                        have : keyT p = keyT q := by unfold keyT; rw [h1, h2]
                        rw [this]; simpa using hm
                      have hd : dupK [] c.P = true := by
                        rw [← ed]
                        obtain ⟨hk3, rfl⟩ := List.getElem?_eq_some_iff.1 hp
                        rw [List.drop_eq_getElem_cons hk3, dupK, hcon]; rfl
                      rw [eD hd]
                    · have h2' : (p.2.1 == q.2.1) = false := by simpa using h2
                      simp -implicitDefEqProofs only [go_sem, simprocAttr, r7, r8, hj', index_map v.p idx_23 hp rfl, index_map v.p idx_23 hq rfl, tF, h1', h2', hwj]
                      refine nxt (j + 1) (by omega) ⟨by omega, eN (by unfold keyT; simp [h2])⟩ ?_
                      simp -implicitDefEqProofs only [go_sem, simprocAttr]
                  · have h1' : (p.1 == q.1) = false := by simpa using h1
                    simp -implicitDefEqProofs only [go_sem, simprocAttr, r7, r8, hj', index_map v.p idx_23 hp rfl, index_map v.p idx_23 hq rfl, tF, h1', hwj]
                    refine nxt (j + 1) (by omega) ⟨by omega, eN (by unfold keyT; simp [h1])⟩ ?_
                    simp -implicitDefEqProofs only [go_sem, simprocAttr]
                · have hj' : ¬ (j : Int) < (k : Nat) := by omega
                  obtain rfl : j = k := by omega
                  simp -implicitDefEqProofs only [go_sem, simprocAttr, r7, r8, hj', hw]
                  refine nxt (j + 1) (by omega) ⟨by omega, dupK_step hp ej ed⟩ ?_
                  simp -implicitDefEqProofs only [go_sem, simprocAttr]
            · have hkq' : ¬ (k : Int) < (c.P.length : Nat) := by omega
              obtain rfl : k = c.P.length := by omega
              simp -implicitDefEqProofs only [go_sem, simprocAttr, r7, lenV_ls v.p, List.length_map, hkq']
              rw [List.drop_length, dupK] at ed
              exact ret_eq (by rw [e0 ed.symm])
end S04

