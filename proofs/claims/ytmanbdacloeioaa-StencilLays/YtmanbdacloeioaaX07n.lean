/- Proved: whatever the input, the law returns true, and its arguments read behind the call as they read before. No condition. This text: X07n, R07l. -/
import Derived.Test.YtmanbdacloeioaaX07l
import Derived.Test.YtmanbdacloeioaaX07a
import Derived.Test.YtmanbdacloeioaaC07t0
import Derived.Test.YtmanbdacloeioaaR07a0
set_option linter.unusedVariables false
set_option linter.unusedSimpArgs false
set_option maxRecDepth 20000
namespace S07
open Go Abs
theorem layF_bd {q : Al} (hq : HdOk q.N q.arr) (h8 : q.N ≤ 8) : ∀ (w c : List Int), (∀ l ∈ w, 0 ≤ l ∧ l < q.N) → ∀ n ∈ q.layF w c, I64 n
  | [], _, _, n, h => by simp [Al.layF] at h
  | l :: ls, c, hw, n, h => by
    have lb := hw l (by simp)
    have sb := stc_bd hq h8 (left := c) lb.1 lb.2
    simp only [Al.layF, List.mem_cons] at h
    rcases h with rfl | h
    · unfold I64; omega
    · exact layF_bd hq h8 ls _ (fun x hx => hw x (by simp [hx])) n h
theorem layF_ln {q : Al} : ∀ (w left : List Int), (q.layF w left).length = w.length
  | [], _ => rfl
  | l :: ls, left => by simp [Al.layF, layF_ln ls]
theorem I64_i {n : Int} (h : 0 ≤ n ∧ n < 100) : I64 n := by unfold I64; omega
set_option maxHeartbeats 4000000 in
theorem t4 {st sc sw : FV} {N : Int} {hs al : FV} {H A : List (Int × Int)} {c w : List Int} (v : SetV st N hs al H A) (hN : -9223372036854775808 ≤ N ∧ N ≤ 9223372036854775807) (h1 : lsOf sc = some (ints c)) (h2 : lsOf sw = some (ints w)) (l1 : c.length ≤ 9223372036854775807) (l2 : w.length ≤ 9223372036854775807)
    (hc : ∀ n ∈ c, I64 n) (hw : ∀ n ∈ w, I64 n) : Fn Q 4 [.fo st, .fo sc, .fo sw] (.one (.fx (.bool true))) := by
  have c13 := t13 v (lists_two h1 h2 l1 l2) (by simp)
  have ow := ls_fone h1
  have os := ls_fone h2
  have cw := ls_cells h1
  have cs := ls_cells h2
  have c23 := t23 v hN
  have v0 := v
  obtain ⟨rfl, hH, hA, lH, lA⟩ := v
  have o1 := ls_one hH
  have o2 := ls_one hA
  cases lg : longF H A [c, w] with
  | true =>
    rw [lg] at c13
    refine S07.w4 ?_
    dsimp only [c4, sop, gop, nop, qmv, qsg, qex, qld, qcl, qln, qix, qbo, qt, qi]
    simp -implicitDefEqProofs only [go_sem, simprocAttr, o1, o2, ow, os, cw, cs]
    refine call0 [20] false c13 (by simp -implicitDefEqProofs only [go_sem, simprocAttr]) (.inl rfl) ?_
    simp -implicitDefEqProofs only [go_sem, simprocAttr]
    refine call1 [] false (t14) ?_
    simp -implicitDefEqProofs only [go_sem, simprocAttr]
    exact ret_fv
  | false =>
    rw [lg] at c13
    have lens : c.length ≤ 12 ∧ w.length ≤ 12 ∧ H.length ≤ 12 ∧ A.length ≤ 12 := by
      simp [longF] at lg
      omega
    obtain ⟨lc, lw, lh, la⟩ := lens
    have vC := setC_v (N := N) (H := H) (A := A) (by omega) (by omega)
    have c15 := t15 v0 (by omega) (by omega)
    have c17c := t17 h1 (by omega)
    have c17w := t17 h2 (by omega)
    have c29 := t29 vC (sc := .list false (ints c)) (c := c) rfl (by omega) (sw := .list false (ints w)) (w := w) rfl (by omega)
    have c30 := t30 vC (sc := .list false (ints c)) (c := c) rfl (by omega) (sw := .list false (ints w)) (w := w) rfl (by omega)
    have c20 := t20 vC v0
    have c22c := t22 (sa := .list false (ints c)) (a := c) rfl h1 (by omega) (by omega) hc hc
    have c22w := t22 (sa := .list false (ints w)) (a := w) rfl h2 (by omega) (by omega) hw hw
    simp only [decide_true] at c22c c22w
    by_cases eA : errA N H A = 0
    · obtain ⟨n0, n8, _⟩ := errA_ok eA
      have c31 := t31 v0 n0 n8 h2 (by omega)
      have c32 := t32 v0 n0 n8 h1 (by omega) 5
      rw [eA] at c23
      have eL : errL N H A c [w] = if isCount N c 5 = false ∨ isWord N w [] = false then 4 else 0 := by
        unfold errL
        rw [if_neg (by simpa using eA), if_neg (by simp)]
        simp only [List.all_cons, List.all_nil, Bool.and_true]
      cases b1 : isWord N w [] with
      | false =>
        rw [b1] at c31 eL
        have eL4 : errL N H A c [w] = 4 := by rw [eL]; simp
        have e1 : errLay N H A c w = 4 := by unfold errLay; rw [eL4]; simp
        have e2 : errLack N H A c w = 4 := by unfold errLack; rw [eL4]; simp
        rw [e1, if_neg (by decide)] at c29
        rw [e2, if_neg (by decide)] at c30
        refine S07.w4 ?_
        dsimp only [c4, sop, gop, nop, qmv, qsg, qex, qld, qcl, qln, qix, qbo, qt, qi]
        simp -implicitDefEqProofs only [go_sem, simprocAttr, o1, o2, ow, os, cw, cs]
        refine call0 [20] false c13 (by simp -implicitDefEqProofs only [go_sem, simprocAttr]) (.inl rfl) ?_
        simp -implicitDefEqProofs only [go_sem, simprocAttr, o1, o2]
        refine call1 [] false (c15) ?_
        simp -implicitDefEqProofs only [go_sem, simprocAttr]
        refine call1 [] false (c17c) ?_
        simp -implicitDefEqProofs only [go_sem, simprocAttr]
        refine call1 [] false (c17w) ?_
        simp -implicitDefEqProofs only [go_sem, simprocAttr, setC]
        refine call1 [] false (c29) ?_
        simp -implicitDefEqProofs only [go_sem, simprocAttr, setC]
        refine call1 [] false (c30) ?_
        simp -implicitDefEqProofs only [go_sem, simprocAttr, setC, o1, o2]
        refine call1 [] false (c20) ?_
        simp -implicitDefEqProofs only [go_sem, simprocAttr]
        refine call1 [] false (c22c) ?_
        simp -implicitDefEqProofs only [go_sem, simprocAttr]
        refine call1 [] false (c22w) ?_
        simp -implicitDefEqProofs only [go_sem, simprocAttr, o1, o2]
        refine call1 [] false (c23) ?_
        simp -implicitDefEqProofs only [go_sem, simprocAttr, o1, o2]
        refine call1 [] false (c31) ?_
        simp -implicitDefEqProofs only [go_sem, simprocAttr, lenV_nl]
        refine call1 [] false (t14) ?_
        simp -implicitDefEqProofs only [go_sem, simprocAttr]
        exact ret_fv
      | true =>
        rw [b1] at c31 eL
        cases b2 : isCount N c 5 with
        | false =>
          rw [b2] at c32 eL
          have eL4 : errL N H A c [w] = 4 := by rw [eL]; simp
          have e1 : errLay N H A c w = 4 := by unfold errLay; rw [eL4]; simp
          have e2 : errLack N H A c w = 4 := by unfold errLack; rw [eL4]; simp
          rw [e1, if_neg (by decide)] at c29
          rw [e2, if_neg (by decide)] at c30
          refine S07.w4 ?_
          dsimp only [c4, sop, gop, nop, qmv, qsg, qex, qld, qcl, qln, qix, qbo, qt, qi]
          simp -implicitDefEqProofs only [go_sem, simprocAttr, o1, o2, ow, os, cw, cs]
          refine call0 [20] false c13 (by simp -implicitDefEqProofs only [go_sem, simprocAttr]) (.inl rfl) ?_
          simp -implicitDefEqProofs only [go_sem, simprocAttr, o1, o2]
          refine call1 [] false (c15) ?_
          simp -implicitDefEqProofs only [go_sem, simprocAttr]
          refine call1 [] false (c17c) ?_
          simp -implicitDefEqProofs only [go_sem, simprocAttr]
          refine call1 [] false (c17w) ?_
          simp -implicitDefEqProofs only [go_sem, simprocAttr, setC]
          refine call1 [] false (c29) ?_
          simp -implicitDefEqProofs only [go_sem, simprocAttr, setC]
          refine call1 [] false (c30) ?_
          simp -implicitDefEqProofs only [go_sem, simprocAttr, setC, o1, o2]
          refine call1 [] false (c20) ?_
          simp -implicitDefEqProofs only [go_sem, simprocAttr]
          refine call1 [] false (c22c) ?_
          simp -implicitDefEqProofs only [go_sem, simprocAttr]
          refine call1 [] false (c22w) ?_
          simp -implicitDefEqProofs only [go_sem, simprocAttr, o1, o2]
          refine call1 [] false (c23) ?_
          simp -implicitDefEqProofs only [go_sem, simprocAttr, o1, o2]
          refine call1 [] false (c31) ?_
          simp -implicitDefEqProofs only [go_sem, simprocAttr, o1, o2]
          refine call1 [] false (c32) ?_
          simp -implicitDefEqProofs only [go_sem, simprocAttr, lenV_nl]
          refine call1 [] false (t14) ?_
          simp -implicitDefEqProofs only [go_sem, simprocAttr]
          exact ret_fv
        | true =>
          rw [b2] at c32 eL
          have eL0 : errL N H A c [w] = 0 := by rw [eL]; simp
          have co := count_ok b2
          have wo := word_ok b1
          have c33 := t33 v0 n0 n8 h2 (by omega) w.length 0 sc c (by omega) (by omega) h1 co.len co.bd
          rw [List.drop_zero] at c33
          have hr := layR_is eA w c co.len co.bd wo.bd
          have hiff := lay_iff eA co wo.bd
          have wl6 := wo.l6
          by_cases en : lackR N H A c w = []
          · have hy := hr.1 (hiff.1 en)
            rw [hy] at c33
            have e1 : errLay N H A c w = 0 := by unfold errLay; rw [eL0]; simp [en]
            have e2 : errLack N H A c w = 6 := by unfold errLack; rw [eL0]; simp [en]
            have lb := layF_bd (q := alOf N H A) (hdOk eA) n8 w c wo.bd
            have ll := layF_ln (q := alOf N H A) w c
            rw [e1, if_pos rfl] at c29
            rw [e2, if_neg (by decide)] at c30
            have hLs := lsOf_lstN (ints ((alOf N H A).layF w c))
            have c22l := t22 (sa := .list false (ints ((alOf N H A).layF w c))) (a := (alOf N H A).layF w c) rfl hLs (by omega) (by omega) lb lb
            simp only [decide_true] at c22l
            refine S07.w4 ?_
            dsimp only [c4, sop, gop, nop, qmv, qsg, qex, qld, qcl, qln, qix, qbo, qt, qi]
            simp -implicitDefEqProofs only [go_sem, simprocAttr, o1, o2, ow, os, cw, cs]
            refine call0 [20] false c13 (by simp -implicitDefEqProofs only [go_sem, simprocAttr]) (.inl rfl) ?_
            simp -implicitDefEqProofs only [go_sem, simprocAttr, o1, o2]
            refine call1 [] false (c15) ?_
            simp -implicitDefEqProofs only [go_sem, simprocAttr]
            refine call1 [] false (c17c) ?_
            simp -implicitDefEqProofs only [go_sem, simprocAttr]
            refine call1 [] false (c17w) ?_
            simp -implicitDefEqProofs only [go_sem, simprocAttr, setC]
            refine call1 [] false (c29) ?_
            simp -implicitDefEqProofs only [go_sem, simprocAttr, setC]
            refine call1 [] false (c30) ?_
            simp -implicitDefEqProofs only [go_sem, simprocAttr, setC, o1, o2]
            refine call1 [] false (c20) ?_
            simp -implicitDefEqProofs only [go_sem, simprocAttr]
            refine call1 [] false (c22c) ?_
            simp -implicitDefEqProofs only [go_sem, simprocAttr]
            refine call1 [] false (c22w) ?_
            simp -implicitDefEqProofs only [go_sem, simprocAttr, o1, o2]
            refine call1 [] false (c23) ?_
            simp -implicitDefEqProofs only [go_sem, simprocAttr, o1, o2]
            refine call1 [] false (c31) ?_
            simp -implicitDefEqProofs only [go_sem, simprocAttr, o1, o2]
            refine call1 [] false (c32) ?_
            simp -implicitDefEqProofs only [go_sem, simprocAttr, o1, o2]
            refine call1 [] false (c33) ?_
            simp -implicitDefEqProofs only [go_sem, simprocAttr, Option.getD_some, Option.isSome]
            refine call1 [] false (c22l) ?_
            simp -implicitDefEqProofs only [go_sem, simprocAttr, lenV_nl]
            refine call1 [] false (t14) ?_
            simp -implicitDefEqProofs only [go_sem, simprocAttr]
            exact ret_fv
          · have hn := hr.2 fun h => en (hiff.2 h)
            rw [hn] at c33
            have e1 : errLay N H A c w = 7 := by unfold errLay; rw [eL0]; simp [en]
            have e2 : errLack N H A c w = 0 := by unfold errLack; rw [eL0]; simp [en]
            have c34 := t34 v0 eA h1 h2 co wo.l6 wo.bd
            have ls6 := idxT_small (bs := fl0 (alOf N H A) c w) (m := w.length) (by rw [fl0_len]; exact Nat.le_refl _)
            rw [← lackR_is eA co wo.bd] at ls6
            have ll : (lackR N H A c w).length ≤ 6 := by
              rw [lackR_is eA co wo.bd, idxT_len]
              have := List.length_filter_le id (fl0 (alOf N H A) c w)
              rw [fl0_len] at this; omega
            rw [e1, if_neg (by decide)] at c29
            rw [e2, if_pos rfl] at c30
            have hLs := lsOf_lstN (ints (lackR N H A c w))
            have lb : ∀ n ∈ lackR N H A c w, I64 n := fun n hn => by have := ls6 n hn; unfold I64; omega
            have c22l := t22 (sb := .list false (ints (lackR N H A c w))) (b := lackR N H A c w) hLs rfl (by omega) (by omega) lb lb
            simp only [decide_true] at c22l
            refine S07.w4 ?_
            dsimp only [c4, sop, gop, nop, qmv, qsg, qex, qld, qcl, qln, qix, qbo, qt, qi]
            simp -implicitDefEqProofs only [go_sem, simprocAttr, o1, o2, ow, os, cw, cs]
            refine call0 [20] false c13 (by simp -implicitDefEqProofs only [go_sem, simprocAttr]) (.inl rfl) ?_
            simp -implicitDefEqProofs only [go_sem, simprocAttr, o1, o2]
            refine call1 [] false (c15) ?_
            simp -implicitDefEqProofs only [go_sem, simprocAttr]
            refine call1 [] false (c17c) ?_
            simp -implicitDefEqProofs only [go_sem, simprocAttr]
            refine call1 [] false (c17w) ?_
            simp -implicitDefEqProofs only [go_sem, simprocAttr, setC]
            refine call1 [] false (c29) ?_
            simp -implicitDefEqProofs only [go_sem, simprocAttr, setC]
            refine call1 [] false (c30) ?_
            simp -implicitDefEqProofs only [go_sem, simprocAttr, setC, o1, o2]
            refine call1 [] false (c20) ?_
            simp -implicitDefEqProofs only [go_sem, simprocAttr]
            refine call1 [] false (c22c) ?_
            simp -implicitDefEqProofs only [go_sem, simprocAttr]
            refine call1 [] false (c22w) ?_
            simp -implicitDefEqProofs only [go_sem, simprocAttr, o1, o2]
            refine call1 [] false (c23) ?_
            simp -implicitDefEqProofs only [go_sem, simprocAttr, o1, o2]
            refine call1 [] false (c31) ?_
            simp -implicitDefEqProofs only [go_sem, simprocAttr, o1, o2]
            refine call1 [] false (c32) ?_
            simp -implicitDefEqProofs only [go_sem, simprocAttr, o1, o2]
            refine call1 [] false (c33) ?_
            simp -implicitDefEqProofs only [go_sem, simprocAttr, Option.getD_none, Option.isSome, lenV_nl, o1, o2]
            refine call1 [] false (c34) ?_
            simp -implicitDefEqProofs only [go_sem, simprocAttr]
            refine call1 [] false (c22l) ?_
            simp -implicitDefEqProofs only [go_sem, simprocAttr]
            refine call1 [] false (t14) ?_
            simp -implicitDefEqProofs only [go_sem, simprocAttr]
            exact ret_fv
    · have eL : errL N H A c [w] = errA N H A := by unfold errL; rw [if_pos eA]
      have e1 : errLay N H A c w = errA N H A := by unfold errLay; rw [eL, if_pos eA]
      have e2 : errLack N H A c w = errA N H A := by unfold errLack; rw [eL, if_pos eA]
      have nA : (errA N H A == 0) = false := by simpa using eA
      have nA' : (errA N H A != 0) = true := by simpa using eA
      rw [e1, if_neg eA] at c29
      rw [e2, if_neg eA] at c30
      refine S07.w4 ?_
      dsimp only [c4, sop, gop, nop, qmv, qsg, qex, qld, qcl, qln, qix, qbo, qt, qi]
      simp -implicitDefEqProofs only [go_sem, simprocAttr, o1, o2, ow, os, cw, cs]
      refine call0 [20] false c13 (by simp -implicitDefEqProofs only [go_sem, simprocAttr]) (.inl rfl) ?_
      simp -implicitDefEqProofs only [go_sem, simprocAttr, o1, o2]
      refine call1 [] false (c15) ?_
      simp -implicitDefEqProofs only [go_sem, simprocAttr]
      refine call1 [] false (c17c) ?_
      simp -implicitDefEqProofs only [go_sem, simprocAttr]
      refine call1 [] false (c17w) ?_
      simp -implicitDefEqProofs only [go_sem, simprocAttr, setC]
      refine call1 [] false (c29) ?_
      simp -implicitDefEqProofs only [go_sem, simprocAttr, setC]
      refine call1 [] false (c30) ?_
      simp -implicitDefEqProofs only [go_sem, simprocAttr, setC, o1, o2]
      refine call1 [] false (c20) ?_
      simp -implicitDefEqProofs only [go_sem, simprocAttr]
      refine call1 [] false (c22c) ?_
      simp -implicitDefEqProofs only [go_sem, simprocAttr]
      refine call1 [] false (c22w) ?_
      simp -implicitDefEqProofs only [go_sem, simprocAttr, o1, o2]
      refine call1 [] false (c23) ?_
      simp -implicitDefEqProofs only [go_sem, simprocAttr, nA, nA', eqI, lenV_nl]
      refine call1 [] false (t14) ?_
      simp -implicitDefEqProofs only [go_sem, simprocAttr]
      exact ret_fv
end S07

namespace R07L
open R07
open Go Go.ChangeShapes Go.WideShapes Go.ChangeAt Go.RowKit Go.Proofs Go.Proofs.Ytmanbdacloeioaa
theorem ty0 : Abs.plainT Try.prog 5 24 = true := by kernel_rfl
theorem ty1 : Abs.plainT Try.prog 5 26 = true := by kernel_rfl
theorem ty2 : Abs.plainT Try.prog 5 26 = true := by kernel_rfl

set_option maxRecDepth 100000 in
theorem lifted (os : Os) (started : os.Started) (H : Type) (enc : TypeId × Value → H) :
    ReturnsInHanded {} Try.checked os 4 .any (Rows.stencilLaysSpec.pre6 enc Try.prog Try.f4 Rows.stencilLaysRow.domain false) (Rows.stencilLaysSpec.post enc Try.prog Try.f4 false true false false) := by
  refine returnsInHanded_of_change_sized (C := Try.checked) own started (by kernel_rfl) Try.func4
    (ChangeSpec.witness6 (enc := enc) (C := Try.checked) false ⟨#[], #[.agg #[.int .i64 1, .slice none 0 0, .slice none 0 0], .slice none 0 0, .slice none 0 0], []⟩ 8 (by kernel_rfl) (by kernel_rfl) (by kernel_rfl) (by kernel_rfl)) ?_
  intro W base args ds gs before hval0 hW hcnd hsz0 _
  have hval : ∀ (j : Nat) t v, Try.f4.params[j]? = some t → args[j]? = some v → Value.okWide Try.prog W .any base t v := hval0
  have hW' := hW
  obtain ⟨p, q, hA0, hV, rfl, hfz, hnd⟩ := hW
  have hA : DataW.TrodAll enc Try.prog W 0 (fun _ => true) true Try.f4.params.toList args.toList ds p := hA0
  rw [Try.params4] at hA hval
  obtain ⟨v0, vs0, d0, ds0, p0, q0, hargs, rfl, rfl, h0, r0⟩ := trodAll_cons hA
  obtain ⟨v1, vs1, d1, ds1, p1, q1, rfl, rfl, rfl, h1, r1⟩ := trodAll_cons r0
  obtain ⟨v2, vs2, d2, ds2, p2, q2, rfl, rfl, rfl, h2, r2⟩ := trodAll_cons r1
  obtain ⟨rfl, rfl, rfl⟩ := trodAll_nil r2
  obtain rfl : args = #[v0, v1, v2] := by cases args; simp_all
  obtain ⟨rfl, rfl⟩ := trodVars_none hV
  have lt0 : ∀ x ∈ p0, x.block < W.heap.size := by obtain ⟨m, hm⟩ := h0; exact DataW.trod_lt m _ _ _ hm
  have lt1 : ∀ x ∈ p1, x.block < W.heap.size := by obtain ⟨m, hm⟩ := h1; exact DataW.trod_lt m _ _ _ hm
  have lt2 : ∀ x ∈ p2, x.block < W.heap.size := by obtain ⟨m, hm⟩ := h2; exact DataW.trod_lt m _ _ _ hm
  obtain ⟨cs0, rfl⟩ := wide_agg (by kernel_rfl) (hval 0 24 v0 rfl rfl)
  obtain ⟨ad1, len1, cap1, rfl⟩ := okWide_slice Try.underlying26 (hval 1 26 v1 rfl rfl)
  obtain ⟨ad2, len2, cap2, rfl⟩ := okWide_slice Try.underlying26 (hval 2 26 v2 rfl rfl)
  obtain ⟨fs0, rep0, sh0⟩ := Abs.open_agg ty0 h0
  obtain ⟨y1, rep1, sh1⟩ := Abs.open_one ty1 (by kernel_rfl) rfl h1
  obtain ⟨y2, rep2, sh2⟩ := Abs.open_one ty2 (by kernel_rfl) rfl h2
  obtain ⟨N, hs, al, H, A, rfl, v, hN⟩ := sh_set sh0 Try.underlying24 rfl Try.underlying3 Try.underlying22 Try.underlying115 rfl
  obtain ⟨s, w, es, e3, hw, l3⟩ := sh_ints sh1 Try.underlying26 Try.underlying3
  obtain rfl : y1 = s := by simpa using es
  obtain ⟨s2, sg, es2, e4, hsg, l4⟩ := sh_ints sh2 Try.underlying26 Try.underlying3
  obtain rfl : y2 = s2 := by simpa using es2
  have hF := S07.t4 v hN e3 e4 l3 l4 hw hsg
  have hrun := hF.2 W (fun b => b < W.heap.size) #[.agg cs0, .slice ad1 len1 cap1, .slice ad2 len2 cap2] (fun _ h => h) ?_
  · clear hA0 hval0 hsz0
    refine hrun.mono fun e W' ⟨v, F, he, bel, _, hr⟩ => ?_
    subst he
    have hv : v = .bool true := by cases hr; rfl
    subst hv
    exact ⟨_, rfl, _, _, _, [], _, [], hW', trodAll_mk1 (shut_bool Try.underlying4 _), (trodAll_cons_mk (Below.trod laidOut (by kernel_rfl) (of_decide_eq_true (by kernel_rfl)) h0 bel lt0) (trodAll_cons_mk (Below.trod laidOut (by kernel_rfl) (of_decide_eq_true (by kernel_rfl)) h1 bel lt1) (trodAll_cons_mk (Below.trod laidOut (by kernel_rfl) (of_decide_eq_true (by kernel_rfl)) h2 bel lt2) trodAll_mk0))), rfl, bel.frame _, fun h => by cases h⟩
  · refine ⟨rfl, fun j y v hy hv => ?_⟩
    match j with
    | 0 => simp at hy hv; subst hy; subst hv; exact rep0
    | 1 => simp at hy hv; subst hy; subst hv; exact rep1
    | 2 => simp at hy hv; subst hy; subst hv; exact rep2
    | j + 3 => simp at hy
theorem over : Rows.stencilLaysRow.holds Try.pinned (OpenSpec.ofChange Rows.stencilLaysSpec) :=
  OpenClaim.holds_of_wide 4 Try.f4 rfl rfl rfl rfl rfl rfl rfl ⟨rfl, rfl, rfl, rfl, rfl⟩ rfl rfl rfl rfl rfl (by kernel_rfl) Try.func4 (by kernel_rfl)
    (of_decide_eq_true (by kernel_rfl)) (by unfold Func.isWrapper; first | (rw [if_pos (by decide +kernel)]; kernel_rfl) | (rw [if_neg (by decide +kernel)]; exact ⟨rfl, rfl⟩))
    (fun os started H enc _ => lifted os started H enc)
theorem proved : Rows.StencilLaysSaid := over
end R07L

namespace Go.Proofs.Ytmanbdacloeioaa
theorem stencilLays_holds : Rows.StencilLaysSaid := R07L.proved
#print axioms stencilLays_holds
end Go.Proofs.Ytmanbdacloeioaa
