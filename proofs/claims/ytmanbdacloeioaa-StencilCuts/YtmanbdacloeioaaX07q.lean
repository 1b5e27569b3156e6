/- Proved: whatever the input, the law returns true, and its arguments read behind the call as they read before. No condition. This text: X07q, R07p. -/
import Derived.Test.YtmanbdacloeioaaX07p
import Derived.Test.YtmanbdacloeioaaX07a
import Derived.Test.YtmanbdacloeioaaC07t0
import Derived.Test.YtmanbdacloeioaaR07a0
set_option linter.unusedVariables false
set_option linter.unusedSimpArgs false
set_option maxRecDepth 20000
namespace S07
open Go Abs
set_option maxHeartbeats 4000000 in
theorem t5 {st sc sW : FV} {N : Int} {hs al : FV} {H A : List (Int × Int)} {c : List Int} {W : List (List Int)} (v : SetV st N hs al H A) (hN : -9223372036854775808 ≤ N ∧ N ≤ 9223372036854775807) (h1 : lsOf sc = some (ints c)) (l1 : c.length ≤ 9223372036854775807) (hc : ∀ n ∈ c, I64 n) (hW : Lists sW W) (hWl : W.length ≤ 9223372036854775807) (hWI : ∀ l ∈ W, ∀ n ∈ l, I64 n) :
    Fn Q 5 [.fo st, .fo sc, .fo sW] (.one (.fx (.bool true))) := by
  have c13 := t13 v hW hWl
  have os := ls_one h1
  have c23 := t23 v hN
  have v0 := v
  have hW0 := hW
  obtain ⟨wl, w1, w2, w3⟩ := hW
  have la : wl.length = W.length := by rw [← w2]; simp
  obtain ⟨rfl, hH, hA, lH, lA⟩ := v
  have o1 := ls_one hH
  have o2 := ls_one hA
  by_cases q1 : (10 : Int) < (W.length : Nat)
  · refine S07.w5 ?_
    dsimp only [c5, sop, gop, nop, qmv, qsg, qex, qld, qcl, qln, qix, qbo, qt, qi]
    simp -implicitDefEqProofs only [go_sem, simprocAttr, o1, o2, lenV_ls w1, la, q1]
    refine call1 [] false (t14) ?_
    simp -implicitDefEqProofs only [go_sem, simprocAttr]
    exact ret_fv
  · cases lg : longF H A W with
    | true =>
      rw [lg] at c13
      refine S07.w5 ?_
      dsimp only [c5, sop, gop, nop, qmv, qsg, qex, qld, qcl, qln, qix, qbo, qt, qi]
      simp -implicitDefEqProofs only [go_sem, simprocAttr, o1, o2, lenV_ls w1, la, q1]
      refine call1 [] false (c13) ?_
      simp -implicitDefEqProofs only [go_sem, simprocAttr]
      refine call1 [] false (t14) ?_
      simp -implicitDefEqProofs only [go_sem, simprocAttr]
      exact ret_fv
    | false =>
      rw [lg] at c13
      by_cases q3 : (12 : Int) < (c.length : Nat)
      · refine S07.w5 ?_
        dsimp only [c5, sop, gop, nop, qmv, qsg, qex, qld, qcl, qln, qix, qbo, qt, qi]
        simp -implicitDefEqProofs only [go_sem, simprocAttr, o1, o2, lenV_ls w1, la, q1]
        refine call1 [] false (c13) ?_
        simp -implicitDefEqProofs only [go_sem, simprocAttr, lenV_ls h1, ints_len, q3]
        refine call1 [] false (t14) ?_
        simp -implicitDefEqProofs only [go_sem, simprocAttr]
        exact ret_fv
      · have lens : (∀ l ∈ W, l.length ≤ 12) ∧ H.length ≤ 12 ∧ A.length ≤ 12 := by
          simp [longF] at lg
          exact ⟨fun l hl => lg.1.1.1 l hl, by omega, by omega⟩
        obtain ⟨lw, lh, la'⟩ := lens
        have vC := setC_v (N := N) (H := H) (A := A) (by omega) (by omega)
        have hWm : ∀ l ∈ W, l.length ≤ 1000000 := fun l hl => by have := lw l hl; omega
        have hWv := lsV_lists W (fun l hl => by have := lw l hl; omega)
        have c15 := t15 v0 (by omega) (by omega)
        have c16 := t16 hW0 (by omega) hWm
        have c17 := t17 h1 (by omega)
        have c35 := t35 vC (sc := .list false (ints c)) (c := c) rfl (by omega) hWv (by omega)
        have c20 := t20 vC v0
        have c21 := t21 hWv hW0 (by omega) (by omega) (fun l hl => ⟨hWm l hl, hWI l hl⟩) (fun l hl => ⟨hWm l hl, hWI l hl⟩)
        have c22 := t22 (sa := .list false (ints c)) (a := c) rfl h1 (by omega) (by omega) hc hc
        simp only [decide_true] at c21 c22
        by_cases eA : errA N H A = 0
        · obtain ⟨n0, n8, _⟩ := errA_ok eA
          have c24 := t24 v0 n0 n8 hW0 (by omega) hWm
          have c32 := t32 v0 n0 n8 h1 (by omega) 5
          rw [eA] at c23
          have eL1 : errL N H A c W = if 5 < W.length then 5 else if isCount N c 5 = false ∨ (W.all fun l => isWord N l []) = false then 4 else 0 := by
            unfold errL; rw [if_neg (by simpa using eA)]
          by_cases eW : errWs N W = 0
          · have W5 : ¬ 5 < W.length := by
              intro h; unfold errWs at eW; rw [if_pos h] at eW; simp at eW
            have Wall : (W.all fun l => isWord N l []) = true := by
              unfold errWs at eW
              rw [if_neg W5] at eW
              cases e : (W.all fun l => isWord N l []) with
              | true => rfl
              | false => rw [e, if_pos rfl] at eW; simp at eW
            have hWw : ∀ w ∈ W, WordOk N w := fun w hw => word_ok (List.all_eq_true.1 Wall w hw)
            rw [eW] at c24
            rw [if_neg W5, Wall] at eL1
            cases b1 : isCount N c 5 with
            | false =>
              have eL : errL N H A c W = 4 := by rw [eL1, b1]; simp
              rw [b1] at c32
              rw [eL, if_neg (by decide)] at c35
              refine S07.w5 ?_
              dsimp only [c5, sop, gop, nop, qmv, qsg, qex, qld, qcl, qln, qix, qbo, qt, qi]
              simp -implicitDefEqProofs only [go_sem, simprocAttr, o1, o2, lenV_ls w1, la, q1]
              refine call1 [] false (c13) ?_
              simp -implicitDefEqProofs only [go_sem, simprocAttr, lenV_ls h1, ints_len, q3, o1, o2]
              refine call1 [] false (c15) ?_
              simp -implicitDefEqProofs only [go_sem, simprocAttr]
              refine call1 [] false (c17) ?_
              simp -implicitDefEqProofs only [go_sem, simprocAttr]
              refine call1 [] false (c16) ?_
              simp -implicitDefEqProofs only [go_sem, simprocAttr, setC]
              refine call1 [] false (c35) ?_
              simp -implicitDefEqProofs only [go_sem, simprocAttr, setC, o1, o2]
              refine call1 [] false (c20) ?_
              simp -implicitDefEqProofs only [go_sem, simprocAttr]
              refine call1 [] false (c22) ?_
              simp -implicitDefEqProofs only [go_sem, simprocAttr]
              refine call1 [] false (c21) ?_
              simp -implicitDefEqProofs only [go_sem, simprocAttr, o1, o2]
              refine call1 [] false (c23) ?_
              simp -implicitDefEqProofs only [go_sem, simprocAttr, o1, o2]
              refine call1 [] false (c24) ?_
              simp -implicitDefEqProofs only [go_sem, simprocAttr, o1, o2]
              refine call1 [] false (c32) ?_
              simp -implicitDefEqProofs only [go_sem, simprocAttr, lenV_nl]
              refine call1 [] false (t14) ?_
              simp -implicitDefEqProofs only [go_sem, simprocAttr]
              exact ret_fv
            | true =>
              have eL : errL N H A c W = 0 := by rw [eL1, b1]; simp
              have co := count_ok b1
              rw [b1] at c32
              rw [eL, if_pos rfl] at c35
              have c36 := t36 v0 eA h1 hW0 (by omega) hWw co
              have cul := cut_len eA co hWw
              have cb : ∀ n ∈ cutR N H A c W, I64 n := by
                intro n hn
                obtain ⟨i, hi, rfl⟩ := mem_gI hn
                obtain ⟨g1, g2, _⟩ := cut_at eA co hWw (t := (i : Int)) (by omega) (by omega)
                unfold I64; omega
              have c22l := t22 (sa := .list false (ints (cutR N H A c W))) (sb := .list false (ints (cutR N H A c W))) (a := cutR N H A c W) (b := cutR N H A c W) rfl rfl (by omega) (by omega) cb cb
              simp only [decide_true] at c22l
              refine S07.w5 ?_
              dsimp only [c5, sop, gop, nop, qmv, qsg, qex, qld, qcl, qln, qix, qbo, qt, qi]
              simp -implicitDefEqProofs only [go_sem, simprocAttr, o1, o2, lenV_ls w1, la, q1]
              refine call1 [] false (c13) ?_
              simp -implicitDefEqProofs only [go_sem, simprocAttr, lenV_ls h1, ints_len, q3, o1, o2]
              refine call1 [] false (c15) ?_
              simp -implicitDefEqProofs only [go_sem, simprocAttr]
              refine call1 [] false (c17) ?_
              simp -implicitDefEqProofs only [go_sem, simprocAttr]
              refine call1 [] false (c16) ?_
              simp -implicitDefEqProofs only [go_sem, simprocAttr, setC]
              refine call1 [] false (c35) ?_
              simp -implicitDefEqProofs only [go_sem, simprocAttr, setC, o1, o2]
              refine call1 [] false (c20) ?_
              simp -implicitDefEqProofs only [go_sem, simprocAttr]
              refine call1 [] false (c22) ?_
              simp -implicitDefEqProofs only [go_sem, simprocAttr]
              refine call1 [] false (c21) ?_
              simp -implicitDefEqProofs only [go_sem, simprocAttr, o1, o2]
              refine call1 [] false (c23) ?_
              simp -implicitDefEqProofs only [go_sem, simprocAttr, o1, o2]
              refine call1 [] false (c24) ?_
              simp -implicitDefEqProofs only [go_sem, simprocAttr, o1, o2]
              refine call1 [] false (c32) ?_
              simp -implicitDefEqProofs only [go_sem, simprocAttr, o1, o2]
              refine call1 [] false (c36) ?_
              simp -implicitDefEqProofs only [go_sem, simprocAttr]
              refine call1 [] false (c22l) ?_
              simp -implicitDefEqProofs only [go_sem, simprocAttr]
              refine call1 [] false (t14) ?_
              simp -implicitDefEqProofs only [go_sem, simprocAttr]
              exact ret_fv
          · have eL : errL N H A c W = errWs N W := by
              rw [eL1]
              unfold errWs at eW ⊢
              by_cases h5 : 5 < W.length
              · rw [if_pos h5, if_pos h5]
              · rw [if_neg h5] at eW ⊢
                rw [if_neg h5]
                by_cases hh : (W.all fun l => isWord N l []) = false
                · rw [if_pos (.inr hh), if_pos hh]
                · rw [if_neg hh] at eW; exact absurd rfl eW
            have nW : (errWs N W == 0) = false := by simpa using eW
            have nW' : (errWs N W != 0) = true := by simpa using eW
            rw [eL, if_neg eW] at c35
            refine S07.w5 ?_
            dsimp only [c5, sop, gop, nop, qmv, qsg, qex, qld, qcl, qln, qix, qbo, qt, qi]
            simp -implicitDefEqProofs only [go_sem, simprocAttr, o1, o2, lenV_ls w1, la, q1]
            refine call1 [] false (c13) ?_
            simp -implicitDefEqProofs only [go_sem, simprocAttr, lenV_ls h1, ints_len, q3, o1, o2]
            refine call1 [] false (c15) ?_
            simp -implicitDefEqProofs only [go_sem, simprocAttr]
            refine call1 [] false (c17) ?_
            simp -implicitDefEqProofs only [go_sem, simprocAttr]
            refine call1 [] false (c16) ?_
            simp -implicitDefEqProofs only [go_sem, simprocAttr, setC]
            refine call1 [] false (c35) ?_
            simp -implicitDefEqProofs only [go_sem, simprocAttr, setC, o1, o2]
            refine call1 [] false (c20) ?_
            simp -implicitDefEqProofs only [go_sem, simprocAttr]
            refine call1 [] false (c22) ?_
            simp -implicitDefEqProofs only [go_sem, simprocAttr]
            refine call1 [] false (c21) ?_
            simp -implicitDefEqProofs only [go_sem, simprocAttr, o1, o2]
            refine call1 [] false (c23) ?_
            simp -implicitDefEqProofs only [go_sem, simprocAttr, o1, o2]
            refine call1 [] false (c24) ?_
            simp -implicitDefEqProofs only [go_sem, simprocAttr, nW, nW', eqI, lenV_nl]
            refine call1 [] false (t14) ?_
            simp -implicitDefEqProofs only [go_sem, simprocAttr]
            exact ret_fv
        · have eL : errL N H A c W = errA N H A := by unfold errL; rw [if_pos eA]
          have nA : (errA N H A == 0) = false := by simpa using eA
          have nA' : (errA N H A != 0) = true := by simpa using eA
          rw [eL, if_neg eA] at c35
          refine S07.w5 ?_
          dsimp only [c5, sop, gop, nop, qmv, qsg, qex, qld, qcl, qln, qix, qbo, qt, qi]
          simp -implicitDefEqProofs only [go_sem, simprocAttr, o1, o2, lenV_ls w1, la, q1]
          refine call1 [] false (c13) ?_
          simp -implicitDefEqProofs only [go_sem, simprocAttr, lenV_ls h1, ints_len, q3, o1, o2]
          refine call1 [] false (c15) ?_
          simp -implicitDefEqProofs only [go_sem, simprocAttr]
          refine call1 [] false (c17) ?_
          simp -implicitDefEqProofs only [go_sem, simprocAttr]
          refine call1 [] false (c16) ?_
          simp -implicitDefEqProofs only [go_sem, simprocAttr, setC]
          refine call1 [] false (c35) ?_
          simp -implicitDefEqProofs only [go_sem, simprocAttr, setC, o1, o2]
          refine call1 [] false (c20) ?_
          simp -implicitDefEqProofs only [go_sem, simprocAttr]
          refine call1 [] false (c22) ?_
          simp -implicitDefEqProofs only [go_sem, simprocAttr]
          refine call1 [] false (c21) ?_
          simp -implicitDefEqProofs only [go_sem, simprocAttr, o1, o2]
          refine call1 [] false (c23) ?_
          simp -implicitDefEqProofs only [go_sem, simprocAttr, nA, nA', eqI, lenV_nl]
          refine call1 [] false (t14) ?_
          simp -implicitDefEqProofs only [go_sem, simprocAttr]
          exact ret_fv
end S07

namespace R07P
open R07
open Go Go.ChangeShapes Go.WideShapes Go.ChangeAt Go.RowKit Go.Proofs Go.Proofs.Ytmanbdacloeioaa
theorem ty0 : Abs.plainT Try.prog 5 24 = true := by kernel_rfl
theorem ty1 : Abs.plainT Try.prog 5 26 = true := by kernel_rfl
theorem ty2 : Abs.plainT Try.prog 5 25 = true := by kernel_rfl
set_option maxRecDepth 100000 in
theorem lifted (os : Os) (started : os.Started) (H : Type) (enc : TypeId × Value → H) :
    ReturnsInHanded {} Try.checked os 5 .any (Rows.stencilCutsSpec.pre6 enc Try.prog Try.f5 Rows.stencilCutsRow.domain false) (Rows.stencilCutsSpec.post enc Try.prog Try.f5 false true false false) := by
  refine returnsInHanded_of_change_sized (C := Try.checked) own started (by kernel_rfl) Try.func5
    (ChangeSpec.witness6 (enc := enc) (C := Try.checked) false ⟨#[], #[.agg #[.int .i64 1, .slice none 0 0, .slice none 0 0], .slice none 0 0, .slice none 0 0], []⟩ 8 (by kernel_rfl) (by kernel_rfl) (by kernel_rfl) (by kernel_rfl)) ?_
  intro W base args ds gs before hval0 hW hcnd hsz0 _
  have hval : ∀ (j : Nat) t v, Try.f5.params[j]? = some t → args[j]? = some v → Value.okWide Try.prog W .any base t v := hval0
  have hW' := hW
  obtain ⟨p, q, hA0, hV, rfl, hfz, hnd⟩ := hW
  have hA : DataW.TrodAll enc Try.prog W 0 (fun _ => true) true Try.f5.params.toList args.toList ds p := hA0
  rw [Try.params5] at hA hval
  obtain ⟨v0, vs0, d0, ds0, p0, q0, hargs, rfl, rfl, h0, r0⟩ := trodAll_cons hA
  obtain ⟨v1, vs1, d1, ds1, p1, q1, rfl, rfl, rfl, h1, r1⟩ := trodAll_cons r0
  obtain ⟨v2, vs2, d2, ds2, p2, q2, rfl, rfl, rfl, h2, r2⟩ := trodAll_cons r1
  obtain ⟨rfl, rfl, rfl⟩ := trodAll_nil r2
  obtain rfl : args = #[v0, v1, v2] := by cases args; simp_all
  obtain ⟨rfl, rfl⟩ := trodVars_none hV
  have lt0 : ∀ x ∈ p0, x.block < W.heap.size := by obtain ⟨m, hm⟩ := h0; exact DataW.trod_lt m _ _ _ hm
  have lt1 : ∀ x ∈ p1, x.block < W.heap.size := by obtain ⟨m, hm⟩ := h1; exact DataW.trod_lt m _ _ _ hm
  have lt2 : ∀ x ∈ p2, x.block < W.heap.size := by obtain ⟨m, hm⟩ := h2; exact DataW.trod_lt m _ _ _ hm
  obtain ⟨cs0, rfl⟩ := wide_agg (by kernel_rfl) (hval 0 24 v0 rfl rfl)
  obtain ⟨ad1, len1, cap1, rfl⟩ := okWide_slice Try.underlying26 (hval 1 26 v1 rfl rfl)
  obtain ⟨ad2, len2, cap2, rfl⟩ := okWide_slice Try.underlying25 (hval 2 25 v2 rfl rfl)
  obtain ⟨fs0, rep0, sh0⟩ := Abs.open_agg ty0 h0
  obtain ⟨y1, rep1, sh1⟩ := Abs.open_one ty1 (by kernel_rfl) rfl h1
  obtain ⟨y2, rep2, sh2⟩ := Abs.open_one ty2 (by kernel_rfl) rfl h2
  obtain ⟨N, hs, al, H, A, rfl, v, hN⟩ := sh_set sh0 Try.underlying24 rfl Try.underlying3 Try.underlying22 Try.underlying115 rfl
  obtain ⟨s, c, es, e3, hc, l3⟩ := sh_ints sh1 Try.underlying26 Try.underlying3
  obtain rfl : y1 = s := by simpa using es
  obtain ⟨s2, WL, es2, hW, hWI, hWl⟩ := sh_lists sh2 Try.underlying25 Try.underlying26 Try.underlying3
  obtain rfl : y2 = s2 := by simpa using es2
  have hF := S07.t5 v hN e3 l3 hc hW hWl hWI
  have hrun := hF.2 W (fun b => b < W.heap.size) #[.agg cs0, .slice ad1 len1 cap1, .slice ad2 len2 cap2] (fun _ h => h) ?_
  · clear hA0 hval0 hsz0
    refine hrun.mono fun e W' ⟨v, F, he, bel, _, hr⟩ => ?_
    subst he
    have hv : v = .bool true := by cases hr; rfl
    subst hv
    exact ⟨_, rfl, _, _, _, [], _, [], hW', trodAll_mk1 (shut_bool Try.underlying4 _), (trodAll_cons_mk (Below.trod laidOut (by kernel_rfl) (of_decide_eq_true (by kernel_rfl)) h0 bel lt0) (trodAll_cons_mk (Below.trod laidOut (by kernel_rfl) (of_decide_eq_true (by kernel_rfl)) h1 bel lt1) (trodAll_cons_mk (Below.trod laidOut (by kernel_rfl) (of_decide_eq_true (by kernel_rfl)) h2 bel lt2) trodAll_mk0))), rfl, bel.frame _, fun h => by cases h⟩
  · refine ⟨rfl, fun j y v hy hv => ?_⟩
    match j with
    | 0 => simp at hy hv; subst hy; subst hv; exact rep0
    | 1 => simp at hy hv; subst hy; subst hv; exact rep1
    | 2 => simp at hy hv; subst hy; subst hv; exact rep2
    | j + 3 => simp at hy
theorem over : Rows.stencilCutsRow.holds Try.pinned (OpenSpec.ofChange Rows.stencilCutsSpec) :=
  OpenClaim.holds_of_wide 5 Try.f5 rfl rfl rfl rfl rfl rfl rfl ⟨rfl, rfl, rfl, rfl, rfl⟩ rfl rfl rfl rfl rfl (by kernel_rfl) Try.func5 (by kernel_rfl)
    (of_decide_eq_true (by kernel_rfl)) (by unfold Func.isWrapper; first | (rw [if_pos (by decide +kernel)]; kernel_rfl) | (rw [if_neg (by decide +kernel)]; exact ⟨rfl, rfl⟩))
    (fun os started H enc _ => lifted os started H enc)
theorem proved : Rows.StencilCutsSaid := over
end R07P

namespace Go.Proofs.Ytmanbdacloeioaa
theorem stencilCuts_holds : Rows.StencilCutsSaid := R07P.proved
#print axioms stencilCuts_holds
end Go.Proofs.Ytmanbdacloeioaa
