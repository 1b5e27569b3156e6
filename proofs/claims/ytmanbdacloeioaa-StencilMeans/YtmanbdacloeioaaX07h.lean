/- Proved: whatever the input, the law returns true, and its arguments read behind the call as they read before. No condition. This text: X07h, R07m. -/
import Derived.Test.YtmanbdacloeioaaX07e
import Derived.Test.YtmanbdacloeioaaR07a0
set_option linter.unusedVariables false
set_option linter.unusedSimpArgs false
set_option maxRecDepth 20000
namespace S07
open Go Abs
set_option maxHeartbeats 4000000 in
theorem t3 {st sW ss : FV} {N most : Int} {hs al : FV} {H A : List (Int × Int)} {W : List (List Int)} {s : List Int} (v : SetV st N hs al H A) (hN : -9223372036854775808 ≤ N ∧ N ≤ 9223372036854775807) (hW : Lists sW W) (hWl : W.length ≤ 9223372036854775807) (hWI : ∀ l ∈ W, ∀ n ∈ l, I64 n)
    (h2 : lsOf ss = some (ints s)) (l2 : s.length ≤ 9223372036854775807) (hs' : ∀ n ∈ s, I64 n) : Fn Q 3 [.fo st, .fo sW, .fo (.agg [ss, .int most])] (.one (.fx (.bool true))) := by
  have c13 := t13 v hW hWl
  have os := ls_one h2
  have fs' := ls_lcells h2
  have c23 := t23 v hN
  have v0 := v
  have hW0 := hW
  obtain ⟨wl, w1, w2, w3⟩ := hW
  have la : wl.length = W.length := by rw [← w2]; simp
  have fw := ls_lcells w1
  have o7 : (LV.fv (FV.int most)).one = true := rfl
  obtain ⟨rfl, hH, hA, lH, lA⟩ := v
  have o1 := ls_one hH
  have o2 := ls_one hA
  by_cases q1 : (10 : Int) < (W.length : Nat)
  · refine S07.w3 ?_
    dsimp only [c3, sop, gop, nop, qmv, qsg, qex, qld, qcl, qln, qix, qbo, qt, qi]
    simp -implicitDefEqProofs only [go_sem, simprocAttr, o1, o2, os, lenV_ls w1, la, q1, o7]
    refine call1 [] false (t14) ?_
    simp -implicitDefEqProofs only [go_sem, simprocAttr]
    exact ret_fv
  · cases lg : longF H A W with
    | true =>
      rw [lg] at c13
      refine S07.w3 ?_
      dsimp only [c3, sop, gop, nop, qmv, qsg, qex, qld, qcl, qln, qix, qbo, qt, qi]
      simp -implicitDefEqProofs only [go_sem, simprocAttr, o1, o2, os, lenV_ls w1, la, q1, o7]
      refine call1 [] false (c13) ?_
      simp -implicitDefEqProofs only [go_sem, simprocAttr]
      refine call1 [] false (t14) ?_
      simp -implicitDefEqProofs only [go_sem, simprocAttr]
      exact ret_fv
    | false =>
      rw [lg] at c13
      by_cases q3 : (12 : Int) < (s.length : Nat)
      · refine S07.w3 ?_
        dsimp only [c3, sop, gop, nop, qmv, qsg, qex, qld, qcl, qln, qix, qbo, qt, qi]
        simp -implicitDefEqProofs only [go_sem, simprocAttr, o1, o2, os, lenV_ls w1, la, q1, o7]
        refine call1 [] false (c13) ?_
        simp -implicitDefEqProofs only [go_sem, simprocAttr, os, lenV_ls h2, ints_len, q3]
        refine call1 [] false (t14) ?_
        simp -implicitDefEqProofs only [go_sem, simprocAttr]
        exact ret_fv
      · have lens : (∀ l ∈ W, l.length ≤ 12) ∧ H.length ≤ 12 ∧ A.length ≤ 12 := by
          simp [longF] at lg
          exact ⟨fun l hl => lg.1.1.1 l hl, by omega, by omega⟩
        obtain ⟨lw, lh, la'⟩ := lens
        have vC := setC_v (N := N) (H := H) (A := A) (by omega) (by omega)
        have hWm : ∀ l ∈ W, l.length ≤ 1000000 := fun l hl => by have := lw l hl; omega
        have hWv := lsV_lists W (fun l hl => by have := lw l hl; omega)
        have c15 := t15 v0 (by omega) (by omega)
        have c16 := t16 hW0 (by omega) hWm
        have c17 := t17 h2 (by omega)
        have c18 := t18 (most := most) vC hWv (by omega) (ss := .list false (ints s)) (sg := s) rfl (by omega)
        have c19 := t19 (most := most) vC hWv (by omega) (ss := .list false (ints s)) (sg := s) rfl (by omega)
        have c20 := t20 vC v0
        have c21 := t21 hWv hW0 (by omega) (by omega) (fun l hl => ⟨hWm l hl, hWI l hl⟩) (fun l hl => ⟨hWm l hl, hWI l hl⟩)
        have c22 := t22 (sa := .list false (ints s)) (a := s) rfl h2 (by omega) (by omega) hs' hs'
        simp only [decide_true] at c21 c22
        by_cases eA : errA N H A = 0
        · obtain ⟨n0, n8, _⟩ := errA_ok eA
          have c24 := t24 v0 n0 n8 hW0 (by omega) hWm
          have c25 := t25 v0 n0 n8 h2 (by omega)
          have c26 := t26 most 0 12
          rw [eA] at c23
          have eM1 : errM N H A W s most = if 5 < W.length then 5 else if (W.all fun l => isWord N l []) = false ∨ isWord N s [-1] = false then 4 else if inB 0 12 most = false then 3 else if meantR N H A W s most = [] then 7 else 0 := by
            unfold errM; rw [if_neg (by simpa using eA)]
          by_cases eW : errWs N W = 0
          · have W5 : ¬ 5 < W.length := by
              intro h; unfold errWs at eW; rw [if_pos h] at eW; simp at eW
            have Wall : (W.all fun l => isWord N l []) = true := by
              unfold errWs at eW
              rw [if_neg W5] at eW
              cases e : (W.all fun l => isWord N l []) with
              | true => rfl
              | false => rw [e, if_pos rfl] at eW; simp at eW
            have hWw : ∀ w ∈ W, WordOk N w := fun w hw => word_ok (List.all_eq_true.1 Wall w hw)
            rw [eW] at c24
            rw [if_neg W5, Wall] at eM1
            cases b1 : isWord N s [-1] with
            | false =>
              have eM : errM N H A W s most = 4 := by rw [eM1, b1]; simp
              have eK : errK N H A W s most = 4 := by unfold errK; rw [eM, if_pos (by decide)]
              rw [b1] at c25
              rw [eM, if_neg (by decide)] at c18
              rw [eK, if_neg (by decide), if_neg (by decide)] at c19
              refine S07.w3 ?_
              dsimp only [c3, sop, gop, nop, qmv, qsg, qex, qld, qcl, qln, qix, qbo, qt, qi]
              simp -implicitDefEqProofs only [go_sem, simprocAttr, o1, o2, os, lenV_ls w1, la, q1, o7]
              refine call1 [] false (c13) ?_
              simp -implicitDefEqProofs only [go_sem, simprocAttr, o1, o2, os, lenV_ls h2, ints_len, q3]
              refine W_opsD _ _ _ (Vs [[], [], [], [], [], [], [], [7], [7]]) ?_ ?_
              · decide
              simp -implicitDefEqProofs only [go_sem, simprocAttr, o1, o2, os, fs', fw]
              refine callD [] false [.fo (.agg [.int N, hs, al])] [] c15 ⟨rfl, trivial⟩ rfl (.inl rfl) ?_
              simp -implicitDefEqProofs only [go_sem, simprocAttr, os, fw, Al.fv]
              refine callD [] false [.fo sW] [] c16 ⟨rfl, trivial⟩ rfl (.inl rfl) ?_
              simp -implicitDefEqProofs only [go_sem, simprocAttr, os, fs']
              refine callD [] false [.fo ss] [] c17 ⟨rfl, trivial⟩ rfl (.inl rfl) ?_
              simp -implicitDefEqProofs only [go_sem, simprocAttr, setC]
              refine call1 [] false (c18) ?_
              simp -implicitDefEqProofs only [go_sem, simprocAttr, setC]
              refine call1 [] false (c19) ?_
              simp -implicitDefEqProofs only [go_sem, simprocAttr, setC, o1, o2]
              refine call1 [] false (c20) ?_
              simp -implicitDefEqProofs only [go_sem, simprocAttr]
              refine call1 [] false (c21) ?_
              simp -implicitDefEqProofs only [go_sem, simprocAttr, os]
              refine call1 [] false (c22) ?_
              simp -implicitDefEqProofs only [go_sem, simprocAttr, o1, o2]
              refine call1 [] false (c23) ?_
              simp -implicitDefEqProofs only [go_sem, simprocAttr, o1, o2]
              refine call1 [] false (c24) ?_
              simp -implicitDefEqProofs only [go_sem, simprocAttr, o1, o2, os]
              refine call1 [] false (c25) ?_
              simp -implicitDefEqProofs only [go_sem, simprocAttr, lenV_nl]
              refine call1 [] false (t14) ?_
              simp -implicitDefEqProofs only [go_sem, simprocAttr]
              exact ret_fv
            | true =>
              rw [b1] at c25 eM1
              simp only [Bool.true_eq_false, or_self, if_false] at eM1
              cases b2 : inB 0 12 most with
              | false =>
                have eM : errM N H A W s most = 3 := by rw [eM1, b2]; simp
                have eK : errK N H A W s most = 3 := by unfold errK; rw [eM, if_pos (by decide)]
                rw [b2] at c26
                rw [eM, if_neg (by decide)] at c18
                rw [eK, if_neg (by decide), if_neg (by decide)] at c19
                refine S07.w3 ?_
                dsimp only [c3, sop, gop, nop, qmv, qsg, qex, qld, qcl, qln, qix, qbo, qt, qi]
                simp -implicitDefEqProofs only [go_sem, simprocAttr, o1, o2, os, lenV_ls w1, la, q1, o7]
                refine call1 [] false (c13) ?_
                simp -implicitDefEqProofs only [go_sem, simprocAttr, o1, o2, os, lenV_ls h2, ints_len, q3]
                refine W_opsD _ _ _ (Vs [[], [], [], [], [], [], [], [7], [7]]) ?_ ?_
                · decide
                simp -implicitDefEqProofs only [go_sem, simprocAttr, o1, o2, os, fs', fw]
                refine callD [] false [.fo (.agg [.int N, hs, al])] [] c15 ⟨rfl, trivial⟩ rfl (.inl rfl) ?_
                simp -implicitDefEqProofs only [go_sem, simprocAttr, os, fw, Al.fv]
                refine callD [] false [.fo sW] [] c16 ⟨rfl, trivial⟩ rfl (.inl rfl) ?_
                simp -implicitDefEqProofs only [go_sem, simprocAttr, os, fs']
                refine callD [] false [.fo ss] [] c17 ⟨rfl, trivial⟩ rfl (.inl rfl) ?_
                simp -implicitDefEqProofs only [go_sem, simprocAttr, setC]
                refine call1 [] false (c18) ?_
                simp -implicitDefEqProofs only [go_sem, simprocAttr, setC]
                refine call1 [] false (c19) ?_
                simp -implicitDefEqProofs only [go_sem, simprocAttr, setC, o1, o2]
                refine call1 [] false (c20) ?_
                simp -implicitDefEqProofs only [go_sem, simprocAttr]
                refine call1 [] false (c21) ?_
                simp -implicitDefEqProofs only [go_sem, simprocAttr, os]
                refine call1 [] false (c22) ?_
                simp -implicitDefEqProofs only [go_sem, simprocAttr, o1, o2]
                refine call1 [] false (c23) ?_
                simp -implicitDefEqProofs only [go_sem, simprocAttr, o1, o2]
                refine call1 [] false (c24) ?_
                simp -implicitDefEqProofs only [go_sem, simprocAttr, o1, o2, os]
                refine call1 [] false (c25) ?_
                simp -implicitDefEqProofs only [go_sem, simprocAttr]
                refine call1 [] false (c26) ?_
                simp -implicitDefEqProofs only [go_sem, simprocAttr, lenV_nl]
                refine call1 [] false (t14) ?_
                simp -implicitDefEqProofs only [go_sem, simprocAttr]
                exact ret_fv
              | true =>
                rw [b2] at c26 eM1
                simp only [Bool.true_eq_false, if_false] at eM1
                have c27 := t27 v0 eA hW0 h2 (by omega) hWw (by omega) most
                have c28 := fun p hp => t28 v0 eA hW0 h2 (by omega) hWw (by omega) most (p := p) hp
                have mlen := meantF_len (q := alOf N H A) (s := s) (most := most) W 0
                rw [show (alOf N H A).meantF s most W 0 = meantR N H A W s most from rfl] at mlen
                have mbd : ∀ n ∈ meantR N H A W s most, I64 n := fun n hn => by
                  have := meantF_mem (q := alOf N H A) (s := s) (most := most) W 0 n hn
                  unfold I64; omega
                by_cases eMT : meantR N H A W s most = []
                · have eM : errM N H A W s most = 7 := by rw [eM1, if_pos eMT]
                  have eK : errK N H A W s most = 7 := by unfold errK; rw [eM, if_pos (by decide)]
                  rw [eMT] at c27
                  rw [eM, if_neg (by decide)] at c18
                  rw [eK, if_neg (by decide), if_neg (by decide)] at c19
                  refine S07.w3 ?_
                  dsimp only [c3, sop, gop, nop, qmv, qsg, qex, qld, qcl, qln, qix, qbo, qt, qi]
                  simp -implicitDefEqProofs only [go_sem, simprocAttr, o1, o2, os, lenV_ls w1, la, q1, o7]
                  refine call1 [] false (c13) ?_
                  simp -implicitDefEqProofs only [go_sem, simprocAttr, o1, o2, os, lenV_ls h2, ints_len, q3]
                  refine W_opsD _ _ _ (Vs [[], [], [], [], [], [], [], [7], [7]]) ?_ ?_
                  · decide
                  simp -implicitDefEqProofs only [go_sem, simprocAttr, o1, o2, os, fs', fw]
                  refine callD [] false [.fo (.agg [.int N, hs, al])] [] c15 ⟨rfl, trivial⟩ rfl (.inl rfl) ?_
                  simp -implicitDefEqProofs only [go_sem, simprocAttr, os, fw, Al.fv]
                  refine callD [] false [.fo sW] [] c16 ⟨rfl, trivial⟩ rfl (.inl rfl) ?_
                  simp -implicitDefEqProofs only [go_sem, simprocAttr, os, fs']
                  refine callD [] false [.fo ss] [] c17 ⟨rfl, trivial⟩ rfl (.inl rfl) ?_
                  simp -implicitDefEqProofs only [go_sem, simprocAttr, setC]
                  refine call1 [] false (c18) ?_
                  simp -implicitDefEqProofs only [go_sem, simprocAttr, setC]
                  refine call1 [] false (c19) ?_
                  simp -implicitDefEqProofs only [go_sem, simprocAttr, setC, o1, o2]
                  refine call1 [] false (c20) ?_
                  simp -implicitDefEqProofs only [go_sem, simprocAttr]
                  refine call1 [] false (c21) ?_
                  simp -implicitDefEqProofs only [go_sem, simprocAttr, os]
                  refine call1 [] false (c22) ?_
                  simp -implicitDefEqProofs only [go_sem, simprocAttr, o1, o2]
                  refine call1 [] false (c23) ?_
                  simp -implicitDefEqProofs only [go_sem, simprocAttr, o1, o2]
                  refine call1 [] false (c24) ?_
                  simp -implicitDefEqProofs only [go_sem, simprocAttr, o1, o2, os]
                  refine call1 [] false (c25) ?_
                  simp -implicitDefEqProofs only [go_sem, simprocAttr]
                  refine call1 [] false (c26) ?_
                  simp -implicitDefEqProofs only [go_sem, simprocAttr, o1, o2, os]
                  refine call1 [] false (c27) ?_
                  simp -implicitDefEqProofs only [go_sem, simprocAttr, ints, lenV_nl]
                  refine call1 [] false (t14) ?_
                  simp -implicitDefEqProofs only [go_sem, simprocAttr]
                  exact ret_fv
                · have eM : errM N H A W s most = 0 := by rw [eM1, if_neg eMT]
                  have MTp := List.length_pos_iff.2 eMT
                  have mz : (((meantR N H A W s most).length : Int) == 0) = false := beq_eq_false_iff_ne.2 (by omega)
                  have eK : errK N H A W s most = if (askR N H A W s most).2 = ((meantR N H A W s most).length : Nat) then 6 else 0 := by simp [errK, eM]
                  have a2 := askF_two (fun p => (alOf N H A).leftR W s most p (meantR N H A W s most)) s.length 0 (-1) 0 ((meantR N H A W s most).length : Nat)
                  rw [show askF (fun p => (alOf N H A).leftR W s most p (meantR N H A W s most)) s.length 0 (0, ((meantR N H A W s most).length : Nat)) = askR N H A W s most from rfl] at a2
                  rw [eM, if_pos rfl] at c18
                  have c22m := t22 (lsOf_lstN (ints (meantR N H A W s most))) (sb := .list false (ints (meantR N H A W s most))) rfl (by omega) (by omega) mbd mbd
                  simp only [decide_true] at c22m
                  obtain ⟨R, hR⟩ : ∃ R, askF (fun p => (alOf N H A).leftR W s most p (meantR N H A W s most)) s.length 0 (-1, ((meantR N H A W s most).length : Nat)) = R := ⟨_, rfl⟩
                  rw [hR] at a2
                  obtain ⟨a21, a22⟩ := a2
                  by_cases ek : (askR N H A W s most).2 = ((meantR N H A W s most).length : Nat)
                  · rw [if_pos ek] at eK
                    rw [eK, if_neg (by decide), if_neg (by decide)] at c19
                    refine S07.w3 ?_
                    dsimp only [c3, sop, gop, nop, qmv, qsg, qex, qld, qcl, qln, qix, qbo, qt, qi]
                    simp -implicitDefEqProofs only [go_sem, simprocAttr, o1, o2, os, lenV_ls w1, la, q1, o7]
                    refine call1 [] false (c13) ?_
                    simp -implicitDefEqProofs only [go_sem, simprocAttr, o1, o2, os, lenV_ls h2, ints_len, q3]
                    refine W_opsD _ _ _ (Vs [[], [], [], [], [], [], [], [7], [7]]) ?_ ?_
                    · decide
                    simp -implicitDefEqProofs only [go_sem, simprocAttr, o1, o2, os, fs', fw]
                    refine callD [] false [.fo (.agg [.int N, hs, al])] [] c15 ⟨rfl, trivial⟩ rfl (.inl rfl) ?_
                    simp -implicitDefEqProofs only [go_sem, simprocAttr, os, fw, Al.fv]
                    refine callD [] false [.fo sW] [] c16 ⟨rfl, trivial⟩ rfl (.inl rfl) ?_
                    simp -implicitDefEqProofs only [go_sem, simprocAttr, os, fs']
                    refine callD [] false [.fo ss] [] c17 ⟨rfl, trivial⟩ rfl (.inl rfl) ?_
                    simp -implicitDefEqProofs only [go_sem, simprocAttr, setC]
                    refine call1 [] false (c18) ?_
                    simp -implicitDefEqProofs only [go_sem, simprocAttr, setC]
                    refine call1 [] false (c19) ?_
                    simp -implicitDefEqProofs only [go_sem, simprocAttr, setC, o1, o2]
                    refine call1 [] false (c20) ?_
                    simp -implicitDefEqProofs only [go_sem, simprocAttr]
                    refine call1 [] false (c21) ?_
                    simp -implicitDefEqProofs only [go_sem, simprocAttr, os]
                    refine call1 [] false (c22) ?_
                    simp -implicitDefEqProofs only [go_sem, simprocAttr, o1, o2]
                    refine call1 [] false (c23) ?_
                    simp -implicitDefEqProofs only [go_sem, simprocAttr, o1, o2]
                    refine call1 [] false (c24) ?_
                    simp -implicitDefEqProofs only [go_sem, simprocAttr, o1, o2, os]
                    refine call1 [] false (c25) ?_
                    simp -implicitDefEqProofs only [go_sem, simprocAttr]
                    refine call1 [] false (c26) ?_
                    simp -implicitDefEqProofs only [go_sem, simprocAttr, o1, o2, os]
                    refine call1 [] false (c27) ?_
                    simp -implicitDefEqProofs only [go_sem, simprocAttr, ints_len, mz]
                    refine call1 [] false (c22m) ?_
                    simp -implicitDefEqProofs only [go_sem, simprocAttr, ints_len]
                    refine lpL (β := Int × Int) 152 [17, 18, 19, 20] 152 [] s (by omega) (fun ys k r => askF (fun p => (alOf N H A).leftR W s most p (meantR N H A W s most)) ys.length k r = R) (fun k r ρ h => ρ 19 = .fv (.int k) ∧ ρ 17 = .fv (.int r.1) ∧ ρ 18 = .fv (.int r.2)) (-1, ((meantR N H A W s most).length : Nat)) hR (by simp -implicitDefEqProofs only [go_sem, simprocAttr]) ?_ ?_
                    rotate_left
                    · rintro y ys k r ρ h hx hk hm hk' hw' er ⟨r19, r17, r18⟩
                      rw [List.length_cons, askF] at er
                      by_cases hc : (alOf N H A).leftR W s most k (meantR N H A W s most) < r.2
                      · rw [if_pos hc] at er
                        simp -implicitDefEqProofs only [go_sem, simprocAttr, r19, os, lenV_ls h2, ints_len, hk', o1, o2]
                        refine call1 [] false (c28 k hk) ?_
                        simp -implicitDefEqProofs only [go_sem, simprocAttr, r18, hc, r19, hw']
                        refine nxtL ((k : Int), (alOf N H A).leftR W s most k (meantR N H A W s most)) er ?_
                        simp -implicitDefEqProofs only [go_sem, simprocAttr]
                      · rw [if_neg hc] at er
                        simp -implicitDefEqProofs only [go_sem, simprocAttr, r19, os, lenV_ls h2, ints_len, hk', o1, o2]
                        refine call1 [] false (c28 k hk) ?_
                        simp -implicitDefEqProofs only [go_sem, simprocAttr, r18, hc, r19, hw']
                        refine nxtL r er ?_
                        simp -implicitDefEqProofs only [go_sem, simprocAttr, r17, r18]
                    rintro r ρ h er ⟨r19, r17, r18⟩
                    simp only [List.length_nil, askF] at er
                    subst er
                    simp -implicitDefEqProofs only [go_sem, simprocAttr, r19, os, lenV_ls h2, ints_len, r17]
                    have r1 : r.1 = -1 := by rcases a22 with ⟨_, h⟩ | ⟨h, _⟩; exact h; omega
                    simp -implicitDefEqProofs only [go_sem, simprocAttr, r1]
                    refine call1 [] false (t14) ?_
                    simp -implicitDefEqProofs only [go_sem, simprocAttr]
                    exact ret_fv
                  · rw [if_neg ek] at eK
                    rw [eK, if_pos rfl, if_pos rfl] at c19
                    refine S07.w3 ?_
                    dsimp only [c3, sop, gop, nop, qmv, qsg, qex, qld, qcl, qln, qix, qbo, qt, qi]
                    simp -implicitDefEqProofs only [go_sem, simprocAttr, o1, o2, os, lenV_ls w1, la, q1, o7]
                    refine call1 [] false (c13) ?_
                    simp -implicitDefEqProofs only [go_sem, simprocAttr, o1, o2, os, lenV_ls h2, ints_len, q3]
                    refine W_opsD _ _ _ (Vs [[], [], [], [], [], [], [], [7], [7]]) ?_ ?_
                    · decide
                    simp -implicitDefEqProofs only [go_sem, simprocAttr, o1, o2, os, fs', fw]
                    refine callD [] false [.fo (.agg [.int N, hs, al])] [] c15 ⟨rfl, trivial⟩ rfl (.inl rfl) ?_
                    simp -implicitDefEqProofs only [go_sem, simprocAttr, os, fw, Al.fv]
                    refine callD [] false [.fo sW] [] c16 ⟨rfl, trivial⟩ rfl (.inl rfl) ?_
                    simp -implicitDefEqProofs only [go_sem, simprocAttr, os, fs']
                    refine callD [] false [.fo ss] [] c17 ⟨rfl, trivial⟩ rfl (.inl rfl) ?_
                    simp -implicitDefEqProofs only [go_sem, simprocAttr, setC]
                    refine call1 [] false (c18) ?_
                    simp -implicitDefEqProofs only [go_sem, simprocAttr, setC]
                    refine call1 [] false (c19) ?_
                    simp -implicitDefEqProofs only [go_sem, simprocAttr, setC, o1, o2]
                    refine call1 [] false (c20) ?_
                    simp -implicitDefEqProofs only [go_sem, simprocAttr]
                    refine call1 [] false (c21) ?_
                    simp -implicitDefEqProofs only [go_sem, simprocAttr, os]
                    refine call1 [] false (c22) ?_
                    simp -implicitDefEqProofs only [go_sem, simprocAttr, o1, o2]
                    refine call1 [] false (c23) ?_
                    simp -implicitDefEqProofs only [go_sem, simprocAttr, o1, o2]
                    refine call1 [] false (c24) ?_
                    simp -implicitDefEqProofs only [go_sem, simprocAttr, o1, o2, os]
                    refine call1 [] false (c25) ?_
                    simp -implicitDefEqProofs only [go_sem, simprocAttr]
                    refine call1 [] false (c26) ?_
                    simp -implicitDefEqProofs only [go_sem, simprocAttr, o1, o2, os]
                    refine call1 [] false (c27) ?_
                    simp -implicitDefEqProofs only [go_sem, simprocAttr, ints_len, mz]
                    refine call1 [] false (c22m) ?_
                    simp -implicitDefEqProofs only [go_sem, simprocAttr, ints_len]
                    refine lpL (β := Int × Int) 152 [17, 18, 19, 20] 152 [] s (by omega) (fun ys k r => askF (fun p => (alOf N H A).leftR W s most p (meantR N H A W s most)) ys.length k r = R) (fun k r ρ h => ρ 19 = .fv (.int k) ∧ ρ 17 = .fv (.int r.1) ∧ ρ 18 = .fv (.int r.2)) (-1, ((meantR N H A W s most).length : Nat)) hR (by simp -implicitDefEqProofs only [go_sem, simprocAttr]) ?_ ?_
                    rotate_left
                    · rintro y ys k r ρ h hx hk hm hk' hw' er ⟨r19, r17, r18⟩
                      rw [List.length_cons, askF] at er
                      by_cases hc : (alOf N H A).leftR W s most k (meantR N H A W s most) < r.2
                      · rw [if_pos hc] at er
                        simp -implicitDefEqProofs only [go_sem, simprocAttr, r19, os, lenV_ls h2, ints_len, hk', o1, o2]
                        refine call1 [] false (c28 k hk) ?_
                        simp -implicitDefEqProofs only [go_sem, simprocAttr, r18, hc, r19, hw']
                        refine nxtL ((k : Int), (alOf N H A).leftR W s most k (meantR N H A W s most)) er ?_
                        simp -implicitDefEqProofs only [go_sem, simprocAttr]
                      · rw [if_neg hc] at er
                        simp -implicitDefEqProofs only [go_sem, simprocAttr, r19, os, lenV_ls h2, ints_len, hk', o1, o2]
                        refine call1 [] false (c28 k hk) ?_
                        simp -implicitDefEqProofs only [go_sem, simprocAttr, r18, hc, r19, hw']
                        refine nxtL r er ?_
                        simp -implicitDefEqProofs only [go_sem, simprocAttr, r17, r18]
                    rintro r ρ h er ⟨r19, r17, r18⟩
                    simp only [List.length_nil, askF] at er
                    subst er
                    simp -implicitDefEqProofs only [go_sem, simprocAttr, r19, os, lenV_ls h2, ints_len, r17]
                    have r1 : 0 ≤ r.1 := by rcases a22 with ⟨h, _⟩ | ⟨_, _, h⟩; omega; exact h
                    have r2 : (askR N H A W s most).1 = r.1 := by rcases a22 with ⟨h, _⟩ | ⟨_, h, _⟩; omega; exact h.symm
                    have r1' : ¬ r.1 < 0 := by omega
                    simp -implicitDefEqProofs only [go_sem, simprocAttr, r1', r2, ← a21, r17, r18, eqI]
                    refine call1 [] false (t14) ?_
                    simp -implicitDefEqProofs only [go_sem, simprocAttr]
                    exact ret_fv
          · have eM : errM N H A W s most = errWs N W := by
              rw [eM1]
              unfold errWs at eW ⊢
              by_cases h5 : 5 < W.length
              · rw [if_pos h5, if_pos h5]
              · rw [if_neg h5] at eW ⊢
                rw [if_neg h5]
                by_cases hh : (W.all fun l => isWord N l []) = false
                · rw [if_pos (.inl hh), if_pos hh]
                · rw [if_neg hh] at eW; exact absurd rfl eW
            have eK : errK N H A W s most = errWs N W := by unfold errK; rw [eM, if_pos eW]
            have nW : (errWs N W == 0) = false := by simpa using eW
            have nW' : (errWs N W != 0) = true := by simpa using eW
            rw [eM, if_neg eW] at c18
            rw [eK, if_neg eW, if_neg eW] at c19
            refine S07.w3 ?_
            dsimp only [c3, sop, gop, nop, qmv, qsg, qex, qld, qcl, qln, qix, qbo, qt, qi]
            simp -implicitDefEqProofs only [go_sem, simprocAttr, o1, o2, os, lenV_ls w1, la, q1, o7]
            refine call1 [] false (c13) ?_
            simp -implicitDefEqProofs only [go_sem, simprocAttr, o1, o2, os, lenV_ls h2, ints_len, q3]
            refine W_opsD _ _ _ (Vs [[], [], [], [], [], [], [], [7], [7]]) ?_ ?_
            · decide
            simp -implicitDefEqProofs only [go_sem, simprocAttr, o1, o2, os, fs', fw]
            refine callD [] false [.fo (.agg [.int N, hs, al])] [] c15 ⟨rfl, trivial⟩ rfl (.inl rfl) ?_
            simp -implicitDefEqProofs only [go_sem, simprocAttr, os, fw, Al.fv]
            refine callD [] false [.fo sW] [] c16 ⟨rfl, trivial⟩ rfl (.inl rfl) ?_
            simp -implicitDefEqProofs only [go_sem, simprocAttr, os, fs']
            refine callD [] false [.fo ss] [] c17 ⟨rfl, trivial⟩ rfl (.inl rfl) ?_
            simp -implicitDefEqProofs only [go_sem, simprocAttr, setC]
            refine call1 [] false (c18) ?_
            simp -implicitDefEqProofs only [go_sem, simprocAttr, setC]
            refine call1 [] false (c19) ?_
            simp -implicitDefEqProofs only [go_sem, simprocAttr, setC, o1, o2]
            refine call1 [] false (c20) ?_
            simp -implicitDefEqProofs only [go_sem, simprocAttr]
            refine call1 [] false (c21) ?_
            simp -implicitDefEqProofs only [go_sem, simprocAttr, os]
            refine call1 [] false (c22) ?_
            simp -implicitDefEqProofs only [go_sem, simprocAttr, o1, o2]
            refine call1 [] false (c23) ?_
            simp -implicitDefEqProofs only [go_sem, simprocAttr, o1, o2]
            refine call1 [] false (c24) ?_
            simp -implicitDefEqProofs only [go_sem, simprocAttr, nW, nW', eqI, lenV_nl]
            refine call1 [] false (t14) ?_
            simp -implicitDefEqProofs only [go_sem, simprocAttr]
            exact ret_fv
        · have eM : errM N H A W s most = errA N H A := by unfold errM; rw [if_pos eA]
          have eK : errK N H A W s most = errA N H A := by unfold errK; rw [eM, if_pos eA]
          rw [eM, if_neg eA] at c18
          rw [eK, if_neg eA, if_neg eA] at c19
          have nA : (errA N H A == 0) = false := by simpa using eA
          have nA' : (errA N H A != 0) = true := by simpa using eA
          refine S07.w3 ?_
          dsimp only [c3, sop, gop, nop, qmv, qsg, qex, qld, qcl, qln, qix, qbo, qt, qi]
          simp -implicitDefEqProofs only [go_sem, simprocAttr, o1, o2, os, lenV_ls w1, la, q1, o7]
          refine call1 [] false (c13) ?_
          simp -implicitDefEqProofs only [go_sem, simprocAttr, o1, o2, os, lenV_ls h2, ints_len, q3]
          refine W_opsD _ _ _ (Vs [[], [], [], [], [], [], [], [7], [7]]) ?_ ?_
          · decide
          simp -implicitDefEqProofs only [go_sem, simprocAttr, o1, o2, os, fs', fw]
          refine callD [] false [.fo (.agg [.int N, hs, al])] [] c15 ⟨rfl, trivial⟩ rfl (.inl rfl) ?_
          simp -implicitDefEqProofs only [go_sem, simprocAttr, os, fw, Al.fv]
          refine callD [] false [.fo sW] [] c16 ⟨rfl, trivial⟩ rfl (.inl rfl) ?_
          simp -implicitDefEqProofs only [go_sem, simprocAttr, os, fs']
          refine callD [] false [.fo ss] [] c17 ⟨rfl, trivial⟩ rfl (.inl rfl) ?_
          simp -implicitDefEqProofs only [go_sem, simprocAttr, setC]
          refine call1 [] false (c18) ?_
          simp -implicitDefEqProofs only [go_sem, simprocAttr, setC]
          refine call1 [] false (c19) ?_
          simp -implicitDefEqProofs only [go_sem, simprocAttr, setC, o1, o2]
          refine call1 [] false (c20) ?_
          simp -implicitDefEqProofs only [go_sem, simprocAttr]
          refine call1 [] false (c21) ?_
          simp -implicitDefEqProofs only [go_sem, simprocAttr, os]
          refine call1 [] false (c22) ?_
          simp -implicitDefEqProofs only [go_sem, simprocAttr, o1, o2]
          refine call1 [] false (c23) ?_
          simp -implicitDefEqProofs only [go_sem, simprocAttr, nA, nA', eqI, lenV_nl]
          refine call1 [] false (t14) ?_
          simp -implicitDefEqProofs only [go_sem, simprocAttr]
          exact ret_fv
end S07

namespace R07M
open R07
open Go Go.ChangeShapes Go.WideShapes Go.ChangeAt Go.RowKit Go.Proofs Go.Proofs.Ytmanbdacloeioaa
theorem ty0 : Abs.plainT Try.prog 5 24 = true := by kernel_rfl
theorem ty1 : Abs.plainT Try.prog 5 25 = true := by kernel_rfl
theorem ty2 : Abs.plainT Try.prog 5 28 = true := by kernel_rfl

set_option maxRecDepth 100000 in
theorem lifted (os : Os) (started : os.Started) (H : Type) (enc : TypeId × Value → H) :
    ReturnsInHanded {} Try.checked os 3 .any (Rows.stencilMeansSpec.pre6 enc Try.prog Try.f3 Rows.stencilMeansRow.domain false) (Rows.stencilMeansSpec.post enc Try.prog Try.f3 false true false false) := by
  refine returnsInHanded_of_change_sized (C := Try.checked) own started (by kernel_rfl) Try.func3
    (ChangeSpec.witness6 (enc := enc) (C := Try.checked) false ⟨#[], #[.agg #[.int .i64 1, .slice none 0 0, .slice none 0 0], .slice none 0 0, .agg #[.slice none 0 0, .int .i64 0]], []⟩ 8 (by kernel_rfl) (by kernel_rfl) (by kernel_rfl) (by kernel_rfl)) ?_
  intro W base args ds gs before hval0 hW hcnd hsz0 _
  have hval : ∀ (j : Nat) t v, Try.f3.params[j]? = some t → args[j]? = some v → Value.okWide Try.prog W .any base t v := hval0
  have hW' := hW
  obtain ⟨p, q, hA0, hV, rfl, hfz, hnd⟩ := hW
  have hA : DataW.TrodAll enc Try.prog W 0 (fun _ => true) true Try.f3.params.toList args.toList ds p := hA0
  rw [Try.params3] at hA hval
  obtain ⟨v0, vs0, d0, ds0, p0, q0, hargs, rfl, rfl, h0, r0⟩ := trodAll_cons hA
  obtain ⟨v1, vs1, d1, ds1, p1, q1, rfl, rfl, rfl, h1, r1⟩ := trodAll_cons r0
  obtain ⟨v2, vs2, d2, ds2, p2, q2, rfl, rfl, rfl, h2, r2⟩ := trodAll_cons r1
  obtain ⟨rfl, rfl, rfl⟩ := trodAll_nil r2
  obtain rfl : args = #[v0, v1, v2] := by cases args; simp_all
  obtain ⟨rfl, rfl⟩ := trodVars_none hV
  have lt0 : ∀ x ∈ p0, x.block < W.heap.size := by obtain ⟨m, hm⟩ := h0; exact DataW.trod_lt m _ _ _ hm
  have lt1 : ∀ x ∈ p1, x.block < W.heap.size := by obtain ⟨m, hm⟩ := h1; exact DataW.trod_lt m _ _ _ hm
  have lt2 : ∀ x ∈ p2, x.block < W.heap.size := by obtain ⟨m, hm⟩ := h2; exact DataW.trod_lt m _ _ _ hm
  obtain ⟨cs0, rfl⟩ := wide_agg (by kernel_rfl) (hval 0 24 v0 rfl rfl)
  obtain ⟨ad1, len1, cap1, rfl⟩ := okWide_slice Try.underlying25 (hval 1 25 v1 rfl rfl)
  obtain ⟨cs2, rfl⟩ := wide_agg (by kernel_rfl) (hval 2 28 v2 rfl rfl)
  obtain ⟨fs0, rep0, sh0⟩ := Abs.open_agg ty0 h0
  obtain ⟨y1, rep1, sh1⟩ := Abs.open_one ty1 (by kernel_rfl) rfl h1
  obtain ⟨fs2, rep2, sh2⟩ := Abs.open_agg ty2 h2
  obtain ⟨N, hs, al, H, A, rfl, v, hN⟩ := sh_set sh0 Try.underlying24 rfl Try.underlying3 Try.underlying22 Try.underlying115 rfl
  obtain ⟨s, WL, es, hW, hWI, hWl⟩ := sh_lists sh1 Try.underlying25 Try.underlying26 Try.underlying3
  obtain rfl : y1 = s := by simpa using es
  obtain ⟨fa, fb, rfl, ha, hb⟩ := sh_two sh2 Try.underlying28 rfl
  obtain ⟨s2, sg, rfl, e4, hsg, l4⟩ := sh_ints ha Try.underlying26 Try.underlying3
  obtain ⟨most, rfl, _⟩ := sh_int hb Try.underlying3
  have hF := S07.t3 (most := most) v hN hW hWl hWI e4 l4 hsg
  have hrun := hF.2 W (fun b => b < W.heap.size) #[.agg cs0, .slice ad1 len1 cap1, .agg cs2] (fun _ h => h) ?_
  · clear hA0 hval0 hsz0
    refine hrun.mono fun e W' ⟨v, F, he, bel, _, hr⟩ => ?_
    subst he
    have hv : v = .bool true := by cases hr; rfl
    subst hv
    exact ⟨_, rfl, _, _, _, [], _, [], hW', trodAll_mk1 (shut_bool Try.underlying4 _), (trodAll_cons_mk (Below.trod laidOut (by kernel_rfl) (of_decide_eq_true (by kernel_rfl)) h0 bel lt0) (trodAll_cons_mk (Below.trod laidOut (by kernel_rfl) (of_decide_eq_true (by kernel_rfl)) h1 bel lt1) (trodAll_cons_mk (Below.trod laidOut (by kernel_rfl) (of_decide_eq_true (by kernel_rfl)) h2 bel lt2) trodAll_mk0))), rfl, bel.frame _, fun h => by cases h⟩
  · refine ⟨rfl, fun j y v hy hv => ?_⟩
    match j with
    | 0 => simp at hy hv; subst hy; subst hv; exact rep0
    | 1 => simp at hy hv; subst hy; subst hv; exact rep1
    | 2 => simp at hy hv; subst hy; subst hv; exact rep2
    | j + 3 => simp at hy
theorem over : Rows.stencilMeansRow.holds Try.pinned (OpenSpec.ofChange Rows.stencilMeansSpec) :=
  OpenClaim.holds_of_wide 3 Try.f3 rfl rfl rfl rfl rfl rfl rfl ⟨rfl, rfl, rfl, rfl, rfl⟩ rfl rfl rfl rfl rfl (by kernel_rfl) Try.func3 (by kernel_rfl)
    (of_decide_eq_true (by kernel_rfl)) (by unfold Func.isWrapper; first | (rw [if_pos (by decide +kernel)]; kernel_rfl) | (rw [if_neg (by decide +kernel)]; exact ⟨rfl, rfl⟩))
    (fun os started H enc _ => lifted os started H enc)
theorem proved : Rows.StencilMeansSaid := over
end R07M

namespace Go.Proofs.Ytmanbdacloeioaa
theorem stencilMeans_holds : Rows.StencilMeansSaid := R07M.proved
#print axioms stencilMeans_holds
end Go.Proofs.Ytmanbdacloeioaa
