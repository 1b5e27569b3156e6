/- A part of the proof: X07t. -/
import Derived.Test.YtmanbdacloeioaaX07r
import Derived.Test.YtmanbdacloeioaaX07a
import Derived.Test.YtmanbdacloeioaaC07r0
set_option linter.unusedVariables false
set_option linter.unusedSimpArgs false
set_option maxRecDepth 20000
namespace S07
open Go Abs
theorem lists_lsF {s : FV} {R : List (List Int)} (h : lsOf s = some (lsF R)) (hl : ∀ l ∈ R, l.length ≤ 1000) : Lists s R := by
  obtain ⟨wl, h1, h2, h3⟩ := lsV_lists R (fun l hl' => by have := hl l hl'; omega)
  exact ⟨lsF R, h, by
    have : wl = lsF R := by
      simp only [lsV, lsOf, Option.some.injEq] at h1; exact h1.symm
    rw [← this]; exact h2, by
    have : wl = lsF R := by
      simp only [lsV, lsOf, Option.some.injEq] at h1; exact h1.symm
    rw [← this]; exact h3⟩
set_option maxHeartbeats 4000000 in
theorem t6 {st sc sW : FV} {N : Int} {hs al : FV} {H A : List (Int × Int)} {c : List Int} {W : List (List Int)} {lost : Int} (v : SetV st N hs al H A) (hN : -9223372036854775808 ≤ N ∧ N ≤ 9223372036854775807) (h1 : lsOf sc = some (ints c)) (l1 : c.length ≤ 9223372036854775807) (hc : ∀ n ∈ c, I64 n) (hW : Lists sW W) (hWl : W.length ≤ 9223372036854775807) (hWI : ∀ l ∈ W, ∀ n ∈ l, I64 n) :
    Fn Q 6 [.fo st, .fo sW, .fo (.agg [sc, .int lost])] (.one (.fx (.bool true))) := by
  have c13 := t13 v hW hWl
  have os := ls_one h1
  have ow := ls_fone h1
  have cs := ls_cells h1
  have c23 := t23 v hN
  have v0 := v
  have hW0 := hW
  obtain ⟨wl, w1, w2, w3⟩ := hW
  have la : wl.length = W.length := by rw [← w2]; simp
  obtain ⟨rfl, hH, hA, lH, lA⟩ := v
  have o1 := ls_one hH
  have o2 := ls_one hA
  by_cases q1 : (10 : Int) < (W.length : Nat)
  · refine S07.w6 ?_
    dsimp only [c6, sop, gop, nop, qmv, qsg, qex, qld, qcl, qln, qix, qbo, qt, qi]
    simp -implicitDefEqProofs only [go_sem, simprocAttr, o1, o2, os, cs, lenV_ls w1, la, q1]
    refine call1 [] false (t14) ?_
    simp -implicitDefEqProofs only [go_sem, simprocAttr]
    exact ret_fv
  · cases lg : longF H A W with
    | true =>
      rw [lg] at c13
      refine S07.w6 ?_
      dsimp only [c6, sop, gop, nop, qmv, qsg, qex, qld, qcl, qln, qix, qbo, qt, qi]
      simp -implicitDefEqProofs only [go_sem, simprocAttr, o1, o2, os, cs, lenV_ls w1, la, q1]
      refine call1 [] false (c13) ?_
      simp -implicitDefEqProofs only [go_sem, simprocAttr]
      refine call1 [] false (t14) ?_
      simp -implicitDefEqProofs only [go_sem, simprocAttr]
      exact ret_fv
    | false =>
      rw [lg] at c13
      by_cases q3 : (12 : Int) < (c.length : Nat)
      · refine S07.w6 ?_
        dsimp only [c6, sop, gop, nop, qmv, qsg, qex, qld, qcl, qln, qix, qbo, qt, qi]
        simp -implicitDefEqProofs only [go_sem, simprocAttr, o1, o2, os, cs, lenV_ls w1, la, q1]
        refine call1 [] false (c13) ?_
        simp -implicitDefEqProofs only [go_sem, simprocAttr, lenV_ls h1, ints_len, q3]
        refine call1 [] false (t14) ?_
        simp -implicitDefEqProofs only [go_sem, simprocAttr]
        exact ret_fv
      · have lens : (∀ l ∈ W, l.length ≤ 12) ∧ H.length ≤ 12 ∧ A.length ≤ 12 := by
          simp [longF] at lg
          exact ⟨fun l hl => lg.1.1.1 l hl, by omega, by omega⟩
        obtain ⟨lw, lh, la'⟩ := lens
        have vC := setC_v (N := N) (H := H) (A := A) (by omega) (by omega)
        have hWm : ∀ l ∈ W, l.length ≤ 1000000 := fun l hl => by have := lw l hl; omega
        have hWv := lsV_lists W (fun l hl => by have := lw l hl; omega)
        have c15 := t15 v0 (by omega) (by omega)
        have c16 := t16 hW0 (by omega) hWm
        have c17 := t17 h1 (by omega)
        have c37 := t37 vC (sc := .list false (ints c)) (c := c) (lost := lost) rfl (by omega) hWv (by omega)
        have c38 := t38 vC (sc := .list false (ints c)) (c := c) (lost := lost) rfl (by omega) hWv (by omega)
        have c20 := t20 vC v0
        have c21 := t21 hWv hW0 (by omega) (by omega) (fun l hl => ⟨hWm l hl, hWI l hl⟩) (fun l hl => ⟨hWm l hl, hWI l hl⟩)
        have c22 := t22 (sa := .list false (ints c)) (a := c) rfl h1 (by omega) (by omega) hc hc
        simp only [decide_true] at c21 c22
        by_cases eA : errA N H A = 0
        · obtain ⟨n0, n8, _⟩ := errA_ok eA
          rw [eA] at c23
          have c39 := t39 v0 n0 n8 hW0 (by omega) hWm h1 (by omega) lost
          have eH : errH N H A W c lost = if 4 < W.length then 5 else if (W.any fun l => !isCount N l 5) ∨ isCount N c 20 = false then 4 else if inB 0 20 lost = false then 3 else 0 := by
            unfold errH; rw [if_neg (by simpa using eA)]
          rw [← eH] at c39
          by_cases eK : errH N H A W c lost = 0
          · obtain ⟨_, W4, hWc0, hcc, lo0, lo1⟩ := errH_ok eK
            have hWc : ∀ w ∈ W, CountOk N w := fun w hw => count_ok (hWc0 w hw)
            have hcc' : (c.length : Nat) = N ∧ ∀ n ∈ c, 0 ≤ n ∧ n ≤ 20 := by
              simp only [isCount, Bool.and_eq_true, decide_eq_true_eq, List.all_eq_true, inB_iff] at hcc
              exact hcc
            have c40 := t40 v0 n0 n8 hW0 W4 hWc h1 hcc'.1 hcc'.2 lo0 lo1
            rw [eK] at c39
            generalize hR : whoseR N W c lost = R at *
            have Rll := own_LL (N := N) (hp := c) (lost := lost) W4
            rw [hR] at Rll
            have Rm : ∀ l ∈ R, (∀ n ∈ l, 0 ≤ n ∧ n < (W.length : Nat)) ∧ l.length ≤ W.length := by
              intro l hl
              have := loopG_mem c lost W [] (List.replicate N.toNat 0) 0 (by simp) (by simp) l (by rw [← hR] at hl; exact hl)
              simpa using this
            have Rl : R.length ≤ 16 := by
              have := loopG_len c lost W [] (List.replicate N.toNat 0) 0
              have h2 := Nat.pow_le_pow_right (show 0 < 2 by decide) W4
              have : R.length = (loopG c lost W [] (List.replicate N.toNat 0) 0).length := by rw [← hR]; rfl
              omega
            have lR : (lsF R).length = R.length := by simp [lsF]
            have eW : errW N H A W c lost = if R = [] then 7 else 0 := by
              unfold errW; rw [if_neg (by simpa using eK), hR]
            by_cases eR : R = []
            · rw [eW, if_pos eR, if_neg (by decide)] at c37 c38
              rw [if_neg (by decide)] at c38
              subst eR
              refine S07.w6 ?_
              dsimp only [c6, sop, gop, nop, qmv, qsg, qex, qld, qcl, qln, qix, qbo, qt, qi]
              simp -implicitDefEqProofs only [go_sem, simprocAttr, o1, o2, os, cs, lenV_ls w1, la, q1]
              refine call1 [] false (c13) ?_
              simp -implicitDefEqProofs only [go_sem, simprocAttr, lenV_ls h1, ints_len, q3, o1, o2, os, cs]
              refine W_opsD _ _ _ (Vs [[], [], [], [], [], [], [], [7], [7]]) ?_ ?_
              · decide
              simp -implicitDefEqProofs only [go_sem, simprocAttr, o1, o2, os, cs]
              refine callD [] false [.fo (.agg [.int N, hs, al])] [] c15 ⟨rfl, trivial⟩ rfl (.inl rfl) ?_
              simp -implicitDefEqProofs only [go_sem, simprocAttr, os, cs]
              refine callD [] false [.fo sW] [] c16 ⟨rfl, trivial⟩ rfl (.inl rfl) ?_
              simp -implicitDefEqProofs only [go_sem, simprocAttr, os, cs, ow]
              refine callD [] false [.fo sc] [] c17 ⟨rfl, trivial⟩ rfl (.inl rfl) ?_
              simp -implicitDefEqProofs only [go_sem, simprocAttr, setC]
              refine call1 [] false (c37) ?_
              simp -implicitDefEqProofs only [go_sem, simprocAttr, setC]
              refine call1 [] false (c38) ?_
              simp -implicitDefEqProofs only [go_sem, simprocAttr, setC, o1, o2]
              refine call1 [] false (c20) ?_
              simp -implicitDefEqProofs only [go_sem, simprocAttr]
              refine call1 [] false (c21) ?_
              simp -implicitDefEqProofs only [go_sem, simprocAttr]
              refine call1 [] false (c22) ?_
              simp -implicitDefEqProofs only [go_sem, simprocAttr, o1, o2]
              refine call1 [] false (c23) ?_
              simp -implicitDefEqProofs only [go_sem, simprocAttr, o1, o2, os, cs, ow]
              refine call1 [] false (c39) ?_
              simp -implicitDefEqProofs only [go_sem, simprocAttr, o1, o2, os, cs, ow]
              refine call1 [] false (c40) ?_
              simp -implicitDefEqProofs only [go_sem, simprocAttr, lsF, List.map, List.length, lenV_nl]
              refine call1 [] false (t14) ?_
              simp -implicitDefEqProofs only [go_sem, simprocAttr]
              exact ret_fv
            · rw [eW, if_neg eR, if_pos rfl] at c37 c38
              rw [if_pos rfl] at c38
              have Rp : 0 < R.length := List.length_pos_iff.2 eR
              have Rp' : (((R.length : Nat) : Int) == 0) = false := by simp; omega
              have c41 := t41 (L := R) (by omega) (fun l hl => by have := (Rm l hl).2; omega) (m := W.length) (by omega)
              rw [← mixS_sel Rll eR (fun l hl n hn => ((Rm l hl).1 n hn).2) W4, ← mixP_sel Rll (fun l hl n hn => ((Rm l hl).1 n hn).2)] at c41
              have ml := mix_len R
              have Rz : ∀ l ∈ R, l.length ≤ 1000 := fun l hl => by have := (Rm l hl).2; omega
              have RI : ∀ l ∈ R, l.length ≤ 1000000 ∧ ∀ n ∈ l, I64 n := fun l hl => ⟨by have := Rz l hl; omega, fun n hn => by have := (Rm l hl).1 n hn; unfold I64; omega⟩
              have c21' := t21 (lists_lsF (lsOf_lstN (lsF R)) Rz) (lists_lsF (s := .list false (lsF R)) rfl Rz) (by omega) (by omega) RI RI
              have bS : ∀ n ∈ mixS R, I64 n := fun n hn => by have := (sur_iff Rll n).1 hn; unfold I64; omega
              have bP : ∀ n ∈ mixP R, I64 n := fun n hn => by
                obtain ⟨l, hl, hx⟩ := (pos_iff Rll n).1 hn
                have := (Rm l hl).1 n hx; unfold I64; omega
              have c22s := t22 (lsOf_lstN (ints (mixS R))) (sb := .list false (ints (mixS R))) (b := mixS R) rfl (by omega) (by omega) bS bS
              have c22p := t22 (lsOf_lstN (ints (mixP R))) (sb := .list false (ints (mixP R))) (b := mixP R) rfl (by omega) (by omega) bP bP
              simp only [decide_true] at c21' c22s c22p
              have on1 := lstN_one (lsF R)
              generalize lstN (lsF R) = s1 at *
              generalize lstN (ints (mixS R)) = s2 at *
              generalize lstN (ints (mixP R)) = s3 at *
              refine S07.w6 ?_
              dsimp only [c6, sop, gop, nop, qmv, qsg, qex, qld, qcl, qln, qix, qbo, qt, qi]
              simp -implicitDefEqProofs only [go_sem, simprocAttr, o1, o2, os, cs, lenV_ls w1, la, q1]
              refine call1 [] false (c13) ?_
              simp -implicitDefEqProofs only [go_sem, simprocAttr, lenV_ls h1, ints_len, q3, o1, o2, os, cs]
              refine W_opsD _ _ _ (Vs [[], [], [], [], [], [], [], [7], [7]]) ?_ ?_
              · decide
              simp -implicitDefEqProofs only [go_sem, simprocAttr, o1, o2, os, cs]
              refine callD [] false [.fo (.agg [.int N, hs, al])] [] c15 ⟨rfl, trivial⟩ rfl (.inl rfl) ?_
              simp -implicitDefEqProofs only [go_sem, simprocAttr, os, cs]
              refine callD [] false [.fo sW] [] c16 ⟨rfl, trivial⟩ rfl (.inl rfl) ?_
              simp -implicitDefEqProofs only [go_sem, simprocAttr, os, cs, ow]
              refine callD [] false [.fo sc] [] c17 ⟨rfl, trivial⟩ rfl (.inl rfl) ?_
              simp -implicitDefEqProofs only [go_sem, simprocAttr, setC]
              refine call1 [] false (c37) ?_
              simp -implicitDefEqProofs only [go_sem, simprocAttr, setC]
              refine call1 [] false (c38) ?_
              simp -implicitDefEqProofs only [go_sem, simprocAttr, setC, o1, o2]
              refine call1 [] false (c20) ?_
              simp -implicitDefEqProofs only [go_sem, simprocAttr]
              refine call1 [] false (c21) ?_
              simp -implicitDefEqProofs only [go_sem, simprocAttr]
              refine call1 [] false (c22) ?_
              simp -implicitDefEqProofs only [go_sem, simprocAttr, o1, o2]
              refine call1 [] false (c23) ?_
              simp -implicitDefEqProofs only [go_sem, simprocAttr, o1, o2, os, cs, ow]
              refine call1 [] false (c39) ?_
              simp -implicitDefEqProofs only [go_sem, simprocAttr, o1, o2, os, cs, ow]
              refine call1 [] false (c40) ?_
              simp -implicitDefEqProofs only [go_sem, simprocAttr, lR, Rp', lenV_ls w1, la]
              refine call1 [] false (c41) ?_
              simp -implicitDefEqProofs only [go_sem, simprocAttr]
              refine call1 [] false (c21') ?_
              simp -implicitDefEqProofs only [go_sem, simprocAttr]
              refine call1 [] false (c22s) ?_
              simp -implicitDefEqProofs only [go_sem, simprocAttr]
              refine call1 [] false (c22p) ?_
              simp -implicitDefEqProofs only [go_sem, simprocAttr]
              refine call1 [] false (t14) ?_
              simp -implicitDefEqProofs only [go_sem, simprocAttr]
              exact ret_fv
          · have eL : errW N H A W c lost = errH N H A W c lost := by unfold errW; rw [if_pos eK]
            rw [eL, if_neg eK] at c37 c38
            rw [if_neg eK] at c38
            generalize errH N H A W c lost = k at *
            have nA : (k == 0) = false := by simpa using eK
            have nA' : (k != 0) = true := by simpa using eK
            refine S07.w6 ?_
            dsimp only [c6, sop, gop, nop, qmv, qsg, qex, qld, qcl, qln, qix, qbo, qt, qi]
            simp -implicitDefEqProofs only [go_sem, simprocAttr, o1, o2, os, cs, lenV_ls w1, la, q1]
            refine call1 [] false (c13) ?_
            simp -implicitDefEqProofs only [go_sem, simprocAttr, lenV_ls h1, ints_len, q3, o1, o2, os, cs]
            refine W_opsD _ _ _ (Vs [[], [], [], [], [], [], [], [7], [7]]) ?_ ?_
            · decide
            simp -implicitDefEqProofs only [go_sem, simprocAttr, o1, o2, os, cs]
            refine callD [] false [.fo (.agg [.int N, hs, al])] [] c15 ⟨rfl, trivial⟩ rfl (.inl rfl) ?_
            simp -implicitDefEqProofs only [go_sem, simprocAttr, os, cs]
            refine callD [] false [.fo sW] [] c16 ⟨rfl, trivial⟩ rfl (.inl rfl) ?_
            simp -implicitDefEqProofs only [go_sem, simprocAttr, os, cs, ow]
            refine callD [] false [.fo sc] [] c17 ⟨rfl, trivial⟩ rfl (.inl rfl) ?_
            simp -implicitDefEqProofs only [go_sem, simprocAttr, setC]
            refine call1 [] false (c37) ?_
            simp -implicitDefEqProofs only [go_sem, simprocAttr, setC]
            refine call1 [] false (c38) ?_
            simp -implicitDefEqProofs only [go_sem, simprocAttr, setC, o1, o2]
            refine call1 [] false (c20) ?_
            simp -implicitDefEqProofs only [go_sem, simprocAttr]
            refine call1 [] false (c21) ?_
            simp -implicitDefEqProofs only [go_sem, simprocAttr]
            refine call1 [] false (c22) ?_
            simp -implicitDefEqProofs only [go_sem, simprocAttr, o1, o2]
            refine call1 [] false (c23) ?_
            simp -implicitDefEqProofs only [go_sem, simprocAttr, o1, o2, os, cs, ow]
            refine call1 [] false (c39) ?_
            simp -implicitDefEqProofs only [go_sem, simprocAttr, nA, nA', eqI, lenV_nl]
            refine call1 [] false (t14) ?_
            simp -implicitDefEqProofs only [go_sem, simprocAttr]
            exact ret_fv
        · have eH : errH N H A W c lost = errA N H A := by unfold errH; rw [if_pos eA]
          have eL : errW N H A W c lost = errA N H A := by unfold errW; rw [if_pos (by rw [eH]; exact eA), eH]
          have nA : (errA N H A == 0) = false := by simpa using eA
          have nA' : (errA N H A != 0) = true := by simpa using eA
          rw [eL, if_neg eA] at c37 c38
          rw [if_neg eA] at c38
          refine S07.w6 ?_
          dsimp only [c6, sop, gop, nop, qmv, qsg, qex, qld, qcl, qln, qix, qbo, qt, qi]
          simp -implicitDefEqProofs only [go_sem, simprocAttr, o1, o2, os, cs, lenV_ls w1, la, q1]
          refine call1 [] false (c13) ?_
          simp -implicitDefEqProofs only [go_sem, simprocAttr, lenV_ls h1, ints_len, q3, o1, o2, os, cs]
          refine W_opsD _ _ _ (Vs [[], [], [], [], [], [], [], [7], [7]]) ?_ ?_
          · decide
          simp -implicitDefEqProofs only [go_sem, simprocAttr, o1, o2, os, cs]
          refine callD [] false [.fo (.agg [.int N, hs, al])] [] c15 ⟨rfl, trivial⟩ rfl (.inl rfl) ?_
          simp -implicitDefEqProofs only [go_sem, simprocAttr, os, cs]
          refine callD [] false [.fo sW] [] c16 ⟨rfl, trivial⟩ rfl (.inl rfl) ?_
          simp -implicitDefEqProofs only [go_sem, simprocAttr, os, cs, ow]
          refine callD [] false [.fo sc] [] c17 ⟨rfl, trivial⟩ rfl (.inl rfl) ?_
          simp -implicitDefEqProofs only [go_sem, simprocAttr, setC]
          refine call1 [] false (c37) ?_
          simp -implicitDefEqProofs only [go_sem, simprocAttr, setC]
          refine call1 [] false (c38) ?_
          simp -implicitDefEqProofs only [go_sem, simprocAttr, setC, o1, o2]
          refine call1 [] false (c20) ?_
          simp -implicitDefEqProofs only [go_sem, simprocAttr]
          refine call1 [] false (c21) ?_
          simp -implicitDefEqProofs only [go_sem, simprocAttr]
          refine call1 [] false (c22) ?_
          simp -implicitDefEqProofs only [go_sem, simprocAttr, o1, o2]
          refine call1 [] false (c23) ?_
          simp -implicitDefEqProofs only [go_sem, simprocAttr, nA, nA', eqI, lenV_nl]
          refine call1 [] false (t14) ?_
          simp -implicitDefEqProofs only [go_sem, simprocAttr]
          exact ret_fv
end S07

