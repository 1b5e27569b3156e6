/- A part of the proof: X07a, X07b, X07c, X07d0. -/
import Derived.Test.YtmanbdacloeioaaP07c
set_option linter.unusedVariables false
set_option linter.unusedSimpArgs false
set_option maxRecDepth 20000
namespace S07
open Go Abs
def longF (H A : List (Int × Int)) (W : List (List Int)) : Bool := (W.any fun l => decide (12 < l.length)) || decide (12 < H.length) || decide (12 < A.length) || decide (10 < W.length)
theorem t13 {st : FV} {N : Int} {hs al : FV} {H A : List (Int × Int)} (v : SetV st N hs al H A) {sW : FV} {W : List (List Int)} (hW : Lists sW W) (hl : W.length ≤ 9223372036854775807) :
    Fn Q 13 [.fo st, .fo sW] (.one (.fx (.bool (longF H A W)))) := by
  obtain ⟨wl, w1, w2, w3⟩ := hW
  have la : wl.length = W.length := by rw [← w2]; simp
  obtain ⟨rfl, hH, hA, _, _⟩ := v
  have o1 := ls_one hH
  have o2 := ls_one hA
  refine w13 ?_
  dsimp only [c13, sop, gop, nop, qmv, qsg, qex, qld, qcl, qln, qix, qbo, qt, qi]
  simp -implicitDefEqProofs only [go_sem, simprocAttr, o1, o2]
  refine lpL (β := Unit) 6 [5] 6 [] W hl (fun r _ _ => (W.any fun l => decide (12 < l.length)) = r.any fun l => decide (12 < l.length)) (fun i _ ρ h => ρ 5 = .fv (.int i)) () rfl (by simp -implicitDefEqProofs only [go_sem, simprocAttr]) ?_ ?_
  · rintro _ ρ h' e r5
    rw [List.any_nil] at e
    by_cases hh : 12 < H.length
    · have hh' : (12 : Int) < (H.length : Nat) := by omega
      simp -implicitDefEqProofs only [go_sem, simprocAttr, r5, lenV_ls w1, la, lenV_ls hH, List.length_map, hh']
      exact ret_eq (by simp [longF, hh])
    · have hh' : ¬ (12 : Int) < (H.length : Nat) := by omega
      by_cases ha : 12 < A.length
      · have ha' : (12 : Int) < (A.length : Nat) := by omega
        simp -implicitDefEqProofs only [go_sem, simprocAttr, r5, lenV_ls w1, la, lenV_ls hH, lenV_ls hA, List.length_map, hh', ha']
        exact ret_eq (by simp [longF, ha])
      · have ha' : ¬ (12 : Int) < (A.length : Nat) := by omega
        simp -implicitDefEqProofs only [go_sem, simprocAttr, r5, lenV_ls w1, la, lenV_ls hH, lenV_ls hA, List.length_map, hh', ha']
        exact ret_eq (by
          unfold longF
          rw [e]
          simp only [hh, ha, decide_false, Bool.false_or]
          refine congrArg FV.bool ?_
          rw [Bool.eq_iff_iff]; simp; omega)
  · rintro y ys i _ ρ h' hy hi hm hi' hw e r5
    obtain ⟨x, hx⟩ : ∃ x, wl[i]? = some x := ⟨_, List.getElem?_eq_getElem (by omega)⟩
    obtain ⟨l, hl1, hl2, hl3⟩ := lists_get (s := sW) w2 w3 hx
    obtain rfl : l = y := by rw [hl2] at hy; simpa using hy
    by_cases c : 12 < l.length
    · have c' : (12 : Int) < (l.length : Nat) := by omega
      simp -implicitDefEqProofs only [go_sem, simprocAttr, r5, lenV_ls w1, la, hi', index_ls w1 idx_25 hx (by rw [hl3]; rfl), hl3, lenV_ls hl1, ints_len, c']
      exact ret_eq (by unfold longF; rw [e]; simp [c])
    · have c' : ¬ (12 : Int) < (l.length : Nat) := by omega
      simp -implicitDefEqProofs only [go_sem, simprocAttr, r5, lenV_ls w1, la, hi', index_ls w1 idx_25 hx (by rw [hl3]; rfl), hl3, lenV_ls hl1, ints_len, c', hw]
      refine nxtL () (by rw [e]; simp [c]) ?_
      simp -implicitDefEqProofs only [go_sem, simprocAttr]
theorem t15 {st : FV} {N : Int} {hs al : FV} {H A : List (Int × Int)} (v : SetV st N hs al H A) (lH : H.length ≤ 1000000) (lA : A.length ≤ 1000000) :
    Fn Q 15 [.fo st] (.one (.fx (setC N H A))) := by
  obtain ⟨rfl, hH, hA, _, _⟩ := v
  rcases ls_cases hH with ⟨f, rfl⟩ | ⟨rfl, e1⟩ <;> rcases ls_cases hA with ⟨f', rfl⟩ | ⟨rfl, e2⟩
  · refine w15 ?_
    dsimp only [c15, sop, gop, nop, qmv, qsg, qex, qld, qcl, qln, qix, qbo, qt, qi]
    simp -implicitDefEqProofs only [go_sem, simprocAttr]
    refine W_opsD _ _ _ (Vs [[3],[],[],[3,6],[7],[],[],[7,10],[],[1],[],[1]]) ?_ ?_
    · decide
    simp -implicitDefEqProofs only [go_sem, simprocAttr]
    refine app_gl (ys := H.map pF) (by simp -implicitDefEqProofs only [go_sem, simprocAttr]; rfl) idx_22 (by simp -implicitDefEqProofs only [go_sem, simprocAttr]) (fun x hx => pF_len _ x hx) (by simp -implicitDefEqProofs only [go_sem, simprocAttr]) (by simp [byt_115]; omega) (by simp [maxLen]; omega) (by simp) ?_
    simp -implicitDefEqProofs only [go_sem, simprocAttr]
    refine app_gl (ys := A.map pF) (by simp -implicitDefEqProofs only [go_sem, simprocAttr]; rfl) idx_22 (by simp -implicitDefEqProofs only [go_sem, simprocAttr]) (fun x hx => pF_len _ x hx) (by simp -implicitDefEqProofs only [go_sem, simprocAttr]) (by simp [byt_115]; omega) (by simp [maxLen]; omega) (by simp) ?_
    simp -implicitDefEqProofs only [go_sem, simprocAttr]
    exact ret_fx (fun _ => true) (by simp -implicitDefEqProofs only [go_sem, simprocAttr, setC])
  · rw [List.map_eq_nil_iff] at e2
    subst e2
    refine w15 ?_
    dsimp only [c15, sop, gop, nop, qmv, qsg, qex, qld, qcl, qln, qix, qbo, qt, qi]
    simp -implicitDefEqProofs only [go_sem, simprocAttr]
    refine W_opsD _ _ _ (Vs [[3],[],[],[3,6],[7],[],[],[7,10],[],[1],[],[1]]) ?_ ?_
    · decide
    simp -implicitDefEqProofs only [go_sem, simprocAttr]
    refine app_gl (ys := H.map pF) (by simp -implicitDefEqProofs only [go_sem, simprocAttr]; rfl) idx_22 (by simp -implicitDefEqProofs only [go_sem, simprocAttr]) (fun x hx => pF_len _ x hx) (by simp -implicitDefEqProofs only [go_sem, simprocAttr]) (by simp [byt_115]; omega) (by simp [maxLen]; omega) (by simp) ?_
    simp -implicitDefEqProofs only [go_sem, simprocAttr]
    refine app_none (by simp -implicitDefEqProofs only [go_sem, simprocAttr]; rfl) idx_22 ?_
    simp -implicitDefEqProofs only [go_sem, simprocAttr]
    exact ret_fx (fun _ => true) (by simp -implicitDefEqProofs only [go_sem, simprocAttr, setC])
  · rw [List.map_eq_nil_iff] at e1
    subst e1
    refine w15 ?_
    dsimp only [c15, sop, gop, nop, qmv, qsg, qex, qld, qcl, qln, qix, qbo, qt, qi]
    simp -implicitDefEqProofs only [go_sem, simprocAttr]
    refine W_opsD _ _ _ (Vs [[3],[],[],[3,6],[7],[],[],[7,10],[],[1],[],[1]]) ?_ ?_
    · decide
    simp -implicitDefEqProofs only [go_sem, simprocAttr]
    refine app_none (by simp -implicitDefEqProofs only [go_sem, simprocAttr]; rfl) idx_22 ?_
    simp -implicitDefEqProofs only [go_sem, simprocAttr]
    refine app_gl (ys := A.map pF) (by simp -implicitDefEqProofs only [go_sem, simprocAttr]; rfl) idx_22 (by simp -implicitDefEqProofs only [go_sem, simprocAttr]) (fun x hx => pF_len _ x hx) (by simp -implicitDefEqProofs only [go_sem, simprocAttr]) (by simp [byt_115]; omega) (by simp [maxLen]; omega) (by simp) ?_
    simp -implicitDefEqProofs only [go_sem, simprocAttr]
    exact ret_fx (fun _ => true) (by simp -implicitDefEqProofs only [go_sem, simprocAttr, setC])
  · rw [List.map_eq_nil_iff] at e1 e2
    subst e1
    subst e2
    refine w15 ?_
    dsimp only [c15, sop, gop, nop, qmv, qsg, qex, qld, qcl, qln, qix, qbo, qt, qi]
    simp -implicitDefEqProofs only [go_sem, simprocAttr]
    refine W_opsD _ _ _ (Vs [[3],[],[],[3,6],[7],[],[],[7,10],[],[1],[],[1]]) ?_ ?_
    · decide
    simp -implicitDefEqProofs only [go_sem, simprocAttr]
    refine app_none (by simp -implicitDefEqProofs only [go_sem, simprocAttr]; rfl) idx_22 ?_
    simp -implicitDefEqProofs only [go_sem, simprocAttr]
    refine app_none (by simp -implicitDefEqProofs only [go_sem, simprocAttr]; rfl) idx_22 ?_
    simp -implicitDefEqProofs only [go_sem, simprocAttr]
    exact ret_fx (fun _ => true) (by simp -implicitDefEqProofs only [go_sem, simprocAttr, setC])
theorem t16 {s : FV} {W : List (List Int)} (h : Lists s W) (l1 : W.length ≤ 1000000) (lW : ∀ l ∈ W, l.length ≤ 1000000) : Fn Q 16 [.fo s] (.one (.fx (lsV W))) := by
  obtain ⟨wl, h1, h2, h3⟩ := h
  have la : wl.length = W.length := by rw [← h2]; simp
  refine w16 ?_
  dsimp only [c16, sop, gop, nop, qmv, qsg, qex, qld, qcl, qln, qix, qbo, qt, qi]
  simp -implicitDefEqProofs only [go_sem, simprocAttr]
  refine lpH 6 [3, 4] 6 [5] (fun k : Nat => W.length - k) (fun k => k ≤ W.length) (fun k ρ h => ρ 4 = .fv (.int k) ∧ ρ 3 = .gl 5 (h.gen 5) ∧ h.obj 5 = some (.list 26 1 false false (lsF (W.take k)))) 0 (Nat.zero_le _) ?_ ?_
  · simp -implicitDefEqProofs only [go_sem, simprocAttr, List.take_zero, lsF]
  · rintro k ρ h' hk ⟨r4, r3, o5⟩
    by_cases q1 : k < W.length
    · have q1' : (k : Int) < (W.length : Nat) := by omega
      have kb : k < wl.length := by omega
      obtain ⟨y, hy⟩ : ∃ y, wl[k]? = some y := ⟨_, List.getElem?_eq_getElem kb⟩
      obtain ⟨l, hl1, hl2, hl3⟩ := lists_get (s := s) h2 h3 hy
      have ll := lW l (List.mem_of_getElem? hl2)
      have hw : IntKind.i64.wrap ((k : Int) + 1) = ((k + 1 : Nat) : Int) := wr _ (by omega) (by omega)
      have et : W.take (k + 1) = W.take k ++ [l] := by rw [List.take_add_one, hl2]; rfl
      rcases ls_cases hl1 with ⟨f, rfl⟩ | ⟨rfl, e⟩
      · simp -implicitDefEqProofs only [go_sem, simprocAttr, r4, r3, lenV_ls h1, la, q1', index_ls h1 idx_25 hy (by rw [hl3]; rfl), hl3]
        refine app_gl (ys := ints l) (by simp -implicitDefEqProofs only [go_sem, simprocAttr]; rfl) idx_26 (by simp -implicitDefEqProofs only [go_sem, simprocAttr]) (fun x hx => (ints_elem l x hx).1) (by simp -implicitDefEqProofs only [go_sem, simprocAttr]) (by simp [byt_3, ints]; omega) (by simp [maxLen, ints]; omega) (by simp) ?_
        simp -implicitDefEqProofs only [go_sem, simprocAttr, r3]
        refine app_gl (by simp -implicitDefEqProofs only [go_sem, simprocAttr, o5]; rfl) idx_25 (by simp -implicitDefEqProofs only [go_sem, simprocAttr]; rfl) (by simp [FV.cells]) (by simp -implicitDefEqProofs only [go_sem, simprocAttr]) (by simp [byt_26, lsF]; omega) (by simp [maxLen, lsF]; omega) (by simp) ?_
        simp -implicitDefEqProofs only [go_sem, simprocAttr, r4, hw]
        refine nxt (k + 1) (by omega) (by omega) ?_
        simp -implicitDefEqProofs only [go_sem, simprocAttr, et, lsF, ints, List.map_append]
      · have el : l = [] := by simpa [ints] using e
        subst el
        simp -implicitDefEqProofs only [go_sem, simprocAttr, r4, r3, lenV_ls h1, la, q1', index_ls h1 idx_25 hy (by rw [hl3]; rfl), hl3]
        refine app_none (by simp -implicitDefEqProofs only [go_sem, simprocAttr]; rfl) idx_26 ?_
        simp -implicitDefEqProofs only [go_sem, simprocAttr, r3]
        refine app_gl (by simp -implicitDefEqProofs only [go_sem, simprocAttr, o5]; rfl) idx_25 (by simp -implicitDefEqProofs only [go_sem, simprocAttr]; rfl) (by simp [FV.cells]) (by simp -implicitDefEqProofs only [go_sem, simprocAttr]) (by simp [byt_26, lsF]; omega) (by simp [maxLen, lsF]; omega) (by simp) ?_
        simp -implicitDefEqProofs only [go_sem, simprocAttr, r4, hw]
        refine nxt (k + 1) (by omega) (by omega) ?_
        simp -implicitDefEqProofs only [go_sem, simprocAttr, et, lsF, ints, List.map_append]
    · have q1' : ¬ (k : Int) < (W.length : Nat) := by omega
      have et : W.take k = W := List.take_of_length_le (by omega)
      simp -implicitDefEqProofs only [go_sem, simprocAttr, r4, r3, lenV_ls h1, la, q1']
      exact ret_fx (fun _ => true) (by simp -implicitDefEqProofs only [go_sem, simprocAttr, o5, et, lsV])
theorem eqP (h : AH) (p : Int × Int) : eqV Q h 115 (.fv (.agg [.int p.1, .int p.2])) (.fv (.agg [.int p.1, .int p.2])) = some true := by
  simp [eqV, flat_115, eqCells]
theorem t20 {s1 s2 : FV} {N : Int} {h1 a1 h2 a2 : FV} {H A : List (Int × Int)} (v : SetV s1 N h1 a1 H A) (v' : SetV s2 N h2 a2 H A) : Fn Q 20 [.fo s1, .fo s2] (.one (.fx (.bool true))) := by
  obtain ⟨rfl, hH, hA, lH, lA⟩ := v
  obtain ⟨rfl, hH', hA', _, _⟩ := v'
  have o1 := ls_one hH
  have o2 := ls_one hA
  have o3 := ls_one hH'
  have o4 := ls_one hA'
  have n1 : (N != N) = false := by simp
  have n2 : ((H.length : Int) != (H.length : Nat)) = false := by simp
  have n3 : ((A.length : Int) != (A.length : Nat)) = false := by simp
  refine w20 ?_
  dsimp only [c20, sop, gop, nop, qmv, qsg, qex, qld, qcl, qln, qix, qbo, qt, qi]
  simp -implicitDefEqProofs only [go_sem, simprocAttr, o1, o2, o3, o4, n1, lenV_ls hH, lenV_ls hH', lenV_ls hA, lenV_ls hA', List.length_map, n2, n3]
  refine lpL (β := Unit) 30 [5] 30 [] H lH (fun _ _ _ => True) (fun i _ ρ h => ρ 5 = .fv (.int i)) () trivial (by simp -implicitDefEqProofs only [go_sem, simprocAttr]) ?_ ?_
  · rintro _ ρ h _ r5
    simp -implicitDefEqProofs only [go_sem, simprocAttr, r5, lenV_ls hH, List.length_map]
    refine lpL (β := Unit) 48 [6] 48 [] A lA (fun _ _ _ => True) (fun i _ ρ h => ρ 6 = .fv (.int i)) () trivial (by simp -implicitDefEqProofs only [go_sem, simprocAttr]) ?_ ?_
    · rintro _ ρ2 h2' _ r6
      simp -implicitDefEqProofs only [go_sem, simprocAttr, r6, lenV_ls hA, List.length_map]
      exact ret_fv
    · rintro p ps i _ ρ2 h2' hx hi hm hi' hw _ r6
      simp -implicitDefEqProofs only [go_sem, simprocAttr, r6, lenV_ls hA, List.length_map, hi', index_map hA idx_22 hx rfl, index_map hA' idx_22 hx rfl, pF, eqP, hw]
      refine nxtL () trivial ?_
      simp -implicitDefEqProofs only [go_sem, simprocAttr]
  · rintro p ps i _ ρ2 h2' hx hi hm hi' hw _ r5
    simp -implicitDefEqProofs only [go_sem, simprocAttr, r5, lenV_ls hH, List.length_map, hi', index_map hH idx_22 hx rfl, index_map hH' idx_22 hx rfl, pF, eqP, hw]
    refine nxtL () trivial ?_
    simp -implicitDefEqProofs only [go_sem, simprocAttr]
end S07

namespace S07
open Go Abs
set_option maxHeartbeats 2000000 in
theorem t23 {st : FV} {N : Int} {hs al : FV} {H A : List (Int × Int)} (v : SetV st N hs al H A) (hN : -9223372036854775808 ≤ N ∧ N ≤ 9223372036854775807) : Fn Q 23 [.fo st] (.one (.fx (.int (errA N H A)))) := by
  obtain ⟨rfl, hH, hA, lH, lA⟩ := v
  have o1 := ls_one hH
  have o2 := ls_one hA
  have cN := t26 N 1 8
  cases g1 : inB 1 8 N
  case false =>
    have e : errA N H A = 4 := by simp [errA, g1]
    rw [g1] at cN
    refine w23 ?_
    dsimp only [c23, sop, gop, nop, qmv, qsg, qex, qld, qcl, qln, qix, qbo, qt, qi]
    simp -implicitDefEqProofs only [go_sem, simprocAttr, o1, o2]
    refine call1 [] false (cN) ?_
    simp -implicitDefEqProofs only [go_sem, simprocAttr]
    exact ret_eq (by rw [e])
  case true =>
    rw [g1] at cN
    obtain ⟨n0, n1⟩ := inB_iff.1 g1
    have w1 : IntKind.i64.wrap (N - 1) = N - 1 := wr _ (by omega) (by omega)
    by_cases g2 : 8 < H.length
    · have e : errA N H A = 5 := by simp [errA, g1, g2]
      have g2' : (8 : Int) < (H.length : Nat) := by omega
      refine w23 ?_
      dsimp only [c23, sop, gop, nop, qmv, qsg, qex, qld, qcl, qln, qix, qbo, qt, qi]
      simp -implicitDefEqProofs only [go_sem, simprocAttr, o1, o2]
      refine call1 [] false (cN) ?_
      simp -implicitDefEqProofs only [go_sem, simprocAttr, lenV_ls hH, List.length_map, g2']
      exact ret_eq (by rw [e])
    · have g2' : ¬ (8 : Int) < (H.length : Nat) := by omega
      by_cases g3 : 8 < A.length
      · have e : errA N H A = 5 := by simp [errA, g1, g3]
        have g3' : (8 : Int) < (A.length : Nat) := by omega
        refine w23 ?_
        dsimp only [c23, sop, gop, nop, qmv, qsg, qex, qld, qcl, qln, qix, qbo, qt, qi]
        simp -implicitDefEqProofs only [go_sem, simprocAttr, o1, o2]
        refine call1 [] false (cN) ?_
        simp -implicitDefEqProofs only [go_sem, simprocAttr, lenV_ls hH, lenV_ls hA, List.length_map, g2', g3']
        exact ret_eq (by rw [e])
      · have g3' : ¬ (8 : Int) < (A.length : Nat) := by omega
        have e0 : errA N H A = if H.any (badP N) ∨ A.any (badQ N) then 2 else if headsF H arr0 = none then 6 else 0 := by simp [errA, g1, g2, g3]
        refine w23 ?_
        dsimp only [c23, sop, gop, nop, qmv, qsg, qex, qld, qcl, qln, qix, qbo, qt, qi]
        simp -implicitDefEqProofs only [go_sem, simprocAttr, o1, o2]
        refine call1 [] false (cN) ?_
        simp -implicitDefEqProofs only [go_sem, simprocAttr, lenV_ls hH, lenV_ls hA, List.length_map, g2', g3']
        refine lpL (β := Unit) 25 [3, 4] 4 [] H lH (fun r _ _ => H.any (badP N) = r.any (badP N)) (fun i _ ρ h => ρ 3 = .fv (.int i)) () rfl (by simp -implicitDefEqProofs only [go_sem, simprocAttr]) ?_ ?_
        · rintro _ ρ h e3 r3
          simp only [List.any_nil] at e3
          simp -implicitDefEqProofs only [go_sem, simprocAttr, r3, lenV_ls hH, List.length_map]
          refine lpL (β := Unit) 53 [5, 6] 6 [] A lA (fun r _ _ => A.any (badQ N) = r.any (badQ N)) (fun i _ ρ h => ρ 5 = .fv (.int i)) () rfl (by simp -implicitDefEqProofs only [go_sem, simprocAttr]) ?_ ?_
          · rintro _ ρ2 h2 e5 r5
            simp only [List.any_nil] at e5
            have et := tw_heads n1 e3
            rw [e3, e5] at e0
            simp only [Bool.false_eq_true, or_self, if_false] at e0
            simp -implicitDefEqProofs only [go_sem, simprocAttr, r5, lenV_ls hA, List.length_map]
            refine lpL (β := Unit) 88 [7, 8, 9, 10] 7 [] H lH (fun r i _ => twI H i = false) (fun i _ ρ h => ρ 7 = .fv (.int i)) () rfl (by simp -implicitDefEqProofs only [go_sem, simprocAttr]) ?_ ?_
            · rintro _ ρ3 h3 e7 r7
              simp -implicitDefEqProofs only [go_sem, simprocAttr, r7, lenV_ls hH, List.length_map]
              rw [e7] at et
              have : headsF H arr0 ≠ none := fun h => by simpa using et.1 h
              rw [if_neg this] at e0
              exact ret_eq (by rw [e0])
            · rintro p ps i _ ρ3 h3 hx hi hm hi' hw e7 r7
              have es : twI H (i + 1) = (twI H i || twP p (H.take i)) := by simp [twI, hx]
              simp -implicitDefEqProofs only [go_sem, simprocAttr, r7, lenV_ls hH, List.length_map, hi']
              refine lpH 95 [8, 9, 10] 8 [] (fun k : Nat => i - k) (fun k => k ≤ i ∧ twP p (H.take k) = false) (fun k ρ h => ρ 8 = .fv (.int k)) 0 ⟨by omega, by simp [twP]⟩ (by simp -implicitDefEqProofs only [go_sem, simprocAttr]) ?_
              rintro k ρ4 h4 ⟨hk, ek⟩ r8
              by_cases q : k < i
              · have q' : (k : Int) < (i : Nat) := by omega
                obtain ⟨y, hy⟩ : ∃ y, H[k]? = some y := ⟨_, List.getElem?_eq_getElem (by omega)⟩
                have kH : (k : Int) < (H.length : Nat) := by omega
                have hwk : IntKind.i64.wrap ((k : Int) + 1) = ((k + 1 : Nat) : Int) := wr _ (by omega) (by omega)
                have ec : twP p (H.take (k + 1)) = (twP p (H.take k) || clash p y) := by
                  rw [List.take_add_one, hy]; simp [twP]
                rw [ek, Bool.false_or] at ec
                have hin : clash p y = true → headsF H arr0 = none := by
                  intro hc
                  rw [et, twI_iff]
                  refine ⟨i, p, hi, hx, ?_⟩
                  simp only [twP, List.any_eq_true]
                  exact ⟨y, List.mem_of_getElem? (i := k) (by rw [List.getElem?_take_of_lt q]; exact hy), hc⟩
                have e6 : clash p y = true → errA N H A = 6 := fun hc => by rw [e0, if_pos (hin hc)]
                simp -implicitDefEqProofs only [go_sem, simprocAttr, r8, r7, q', lenV_ls hH, List.length_map]
                refine W_opsD _ _ _ (Vs [[], [], [], [], [], [], [], [], [], [], [9], [10], [9], [10]]) ?_ ?_
                · decide
                simp -implicitDefEqProofs only [go_sem, simprocAttr, o1, r7, r8, hi', kH, index_map hH idx_22 hx rfl, index_map hH idx_22 hy rfl, pF, ls_lcells hH]
                cases c1 : p.1 == y.1 <;> cases c2 : p.1 == y.2 <;> cases c3 : p.2 == y.1 <;> cases c4 : p.2 == y.2 <;> (
                  simp -implicitDefEqProofs only [go_sem, simprocAttr, c1, c2, c3, c4]
                  first
                  | (exact ret_eq (by rw [e6 (by unfold clash; rw [c1, c2, c3, c4]; rfl)]))
                  | (simp -implicitDefEqProofs only [go_sem, simprocAttr, r8, hwk]
                     refine nxt (k + 1) (by omega) ⟨by omega, by rw [ec]; unfold clash; rw [c1, c2, c3, c4]; rfl⟩ ?_
                     simp -implicitDefEqProofs only [go_sem, simprocAttr]))
              · obtain rfl : k = i := by omega
                have q' : ¬ (k : Int) < (k : Nat) := by omega
                simp -implicitDefEqProofs only [go_sem, simprocAttr, r8, r7, q', hw]
                refine nxtL () (by rw [es, e7, ek]; rfl) ?_
                simp -implicitDefEqProofs only [go_sem, simprocAttr]
          · rintro p ps i _ ρ2 h2 hx hi hm hi' hw e5 r5
            have ca := t26 p.1 0 (N - 1)
            have cb := t26 p.2 0 (N - 1)
            have eb : badQ N p = (!(inB 0 (N - 1) p.1 && inB 0 (N - 1) p.2) || decide (p.1 = p.2)) := rfl
            simp -implicitDefEqProofs only [go_sem, simprocAttr, r5, lenV_ls hA, List.length_map, hi', index_map hA idx_22 hx rfl, pF, w1]
            cases b1 : inB 0 (N - 1) p.1 with
            | false =>
              rw [b1] at ca eb
              refine call1 [] false (ca) ?_
              simp -implicitDefEqProofs only [go_sem, simprocAttr]
              have : A.any (badQ N) = true := by rw [e5]; simp [eb]
              exact ret_eq (by rw [e0, if_pos (.inr this)])
            | true =>
              rw [b1] at ca eb
              refine call1 [] false (ca) ?_
              simp -implicitDefEqProofs only [go_sem, simprocAttr, w1]
              cases b2 : inB 0 (N - 1) p.2 with
              | false =>
                rw [b2] at cb eb
                refine call1 [] false (cb) ?_
                simp -implicitDefEqProofs only [go_sem, simprocAttr]
                have : A.any (badQ N) = true := by rw [e5]; simp [eb]
                exact ret_eq (by rw [e0, if_pos (.inr this)])
              | true =>
                rw [b2] at cb eb
                refine call1 [] false (cb) ?_
                by_cases c : p.1 = p.2
                · have c' : (p.1 == p.2) = true := by simpa using c
                  simp -implicitDefEqProofs only [go_sem, simprocAttr, c']
                  have : A.any (badQ N) = true := by rw [e5]; simp [eb, c]
                  exact ret_eq (by rw [e0, if_pos (.inr this)])
                · have c' : (p.1 == p.2) = false := by simpa using c
                  simp -implicitDefEqProofs only [go_sem, simprocAttr, c', r5, hw]
                  refine nxtL () (by rw [e5]; simp [eb, c]) ?_
                  simp -implicitDefEqProofs only [go_sem, simprocAttr]
        · rintro p ps i _ ρ h hx hi hm hi' hw e3 r3
          have ca := t26 p.1 0 (N - 1)
          have cb := t26 p.2 0 (N - 1)
          have eb : badP N p = !(inB 0 (N - 1) p.1 && inB 0 (N - 1) p.2) := rfl
          simp -implicitDefEqProofs only [go_sem, simprocAttr, r3, lenV_ls hH, List.length_map, hi', index_map hH idx_22 hx rfl, pF, w1]
          cases b1 : inB 0 (N - 1) p.1 with
          | false =>
            rw [b1] at ca eb
            refine call1 [] false (ca) ?_
            simp -implicitDefEqProofs only [go_sem, simprocAttr]
            have : H.any (badP N) = true := by rw [e3]; simp [eb]
            exact ret_eq (by rw [e0, if_pos (.inl this)])
          | true =>
            rw [b1] at ca eb
            refine call1 [] false (ca) ?_
            simp -implicitDefEqProofs only [go_sem, simprocAttr, w1]
            cases b2 : inB 0 (N - 1) p.2 with
            | false =>
              rw [b2] at cb eb
              refine call1 [] false (cb) ?_
              simp -implicitDefEqProofs only [go_sem, simprocAttr]
              have : H.any (badP N) = true := by rw [e3]; simp [eb]
              exact ret_eq (by rw [e0, if_pos (.inl this)])
            | true =>
              rw [b2] at cb eb
              refine call1 [] false (cb) ?_
              simp -implicitDefEqProofs only [go_sem, simprocAttr, r3, hw]
              refine nxtL () (by rw [e3]; simp [eb]) ?_
              simp -implicitDefEqProofs only [go_sem, simprocAttr]
end S07

namespace S07
open Go Abs
def fewL (o : Option (List Int × Int)) : FV := match o with | none => .nil | some r => .list false (ints r.1)
end S07

namespace S07
open Go Abs
theorem eqI (x : Int) : (x == x) = true := by simp
end S07

