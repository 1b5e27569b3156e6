/- Proved: whatever the input, the law returns true, and its arguments read behind the call as they read before. No condition. This text: R07h. -/
import Derived.Test.YtmanbdacloeioaaR07a0
import Derived.Test.YtmanbdacloeioaaX07t
set_option linter.unusedVariables false
namespace R07H
open R07
open Go Go.ChangeShapes Go.WideShapes Go.ChangeAt Go.RowKit Go.Proofs Go.Proofs.Ytmanbdacloeioaa
theorem ty0 : Abs.plainT Try.prog 5 24 = true := by kernel_rfl
theorem ty1 : Abs.plainT Try.prog 5 25 = true := by kernel_rfl
theorem ty2 : Abs.plainT Try.prog 5 59 = true := by kernel_rfl
set_option maxRecDepth 100000 in
theorem lifted (os : Os) (started : os.Started) (H : Type) (enc : TypeId × Value → H) :
    ReturnsInHanded {} Try.checked os 6 .any (Rows.stencilHeapsSpec.pre6 enc Try.prog Try.f6 Rows.stencilHeapsRow.domain false) (Rows.stencilHeapsSpec.post enc Try.prog Try.f6 false true false false) := by
  refine returnsInHanded_of_change_sized (C := Try.checked) own started (by kernel_rfl) Try.func6
    (ChangeSpec.witness6 (enc := enc) (C := Try.checked) false ⟨#[], #[.agg #[.int .i64 1, .slice none 0 0, .slice none 0 0], .slice none 0 0, .agg #[.slice none 0 0, .int .i64 0]], []⟩ 8 (by kernel_rfl) (by kernel_rfl) (by kernel_rfl) (by kernel_rfl)) ?_
  intro W base args ds gs before hval0 hW hcnd hsz0 _
  have hval : ∀ (j : Nat) t v, Try.f6.params[j]? = some t → args[j]? = some v → Value.okWide Try.prog W .any base t v := hval0
  have hW' := hW
  obtain ⟨p, q, hA0, hV, rfl, hfz, hnd⟩ := hW
  have hA : DataW.TrodAll enc Try.prog W 0 (fun _ => true) true Try.f6.params.toList args.toList ds p := hA0
  rw [Try.params6] at hA hval
  obtain ⟨v0, vs0, d0, ds0, p0, q0, hargs, rfl, rfl, h0, r0⟩ := trodAll_cons hA
  obtain ⟨v1, vs1, d1, ds1, p1, q1, rfl, rfl, rfl, h1, r1⟩ := trodAll_cons r0
  obtain ⟨v2, vs2, d2, ds2, p2, q2, rfl, rfl, rfl, h2, r2⟩ := trodAll_cons r1
  obtain ⟨rfl, rfl, rfl⟩ := trodAll_nil r2
  obtain rfl : args = #[v0, v1, v2] := by cases args; simp_all
  obtain ⟨rfl, rfl⟩ := trodVars_none hV
  have lt0 : ∀ x ∈ p0, x.block < W.heap.size := by obtain ⟨m, hm⟩ := h0; exact DataW.trod_lt m _ _ _ hm
  have lt1 : ∀ x ∈ p1, x.block < W.heap.size := by obtain ⟨m, hm⟩ := h1; exact DataW.trod_lt m _ _ _ hm
  have lt2 : ∀ x ∈ p2, x.block < W.heap.size := by obtain ⟨m, hm⟩ := h2; exact DataW.trod_lt m _ _ _ hm
  obtain ⟨cs0, rfl⟩ := wide_agg (by kernel_rfl) (hval 0 24 v0 rfl rfl)
  obtain ⟨ad1, len1, cap1, rfl⟩ := okWide_slice Try.underlying25 (hval 1 25 v1 rfl rfl)
  obtain ⟨cs2, rfl⟩ := wide_agg (by kernel_rfl) (hval 2 59 v2 rfl rfl)
  obtain ⟨fs0, rep0, sh0⟩ := Abs.open_agg ty0 h0
  obtain ⟨y1, rep1, sh1⟩ := Abs.open_one ty1 (by kernel_rfl) rfl h1
  obtain ⟨fs2, rep2, sh2⟩ := Abs.open_agg ty2 h2
  obtain ⟨N, hs, al, H, A, rfl, v, hN⟩ := sh_set sh0 Try.underlying24 rfl Try.underlying3 Try.underlying22 Try.underlying115 rfl
  obtain ⟨s, WL, es, hW, hWI, hWl⟩ := sh_lists sh1 Try.underlying25 Try.underlying26 Try.underlying3
  obtain rfl : y1 = s := by simpa using es
  obtain ⟨fa, fb, rfl, ha, hb⟩ := sh_two sh2 Try.underlying59 rfl
  obtain ⟨s2, sg, rfl, e4, hsg, l4⟩ := sh_ints ha Try.underlying26 Try.underlying3
  obtain ⟨most, rfl, _⟩ := sh_int hb Try.underlying3
  have hF := S07.t6 (lost := most) v hN e4 l4 hsg hW hWl hWI
  have hrun := hF.2 W (fun b => b < W.heap.size) #[.agg cs0, .slice ad1 len1 cap1, .agg cs2] (fun _ h => h) ?_
  · clear hA0 hval0 hsz0
    refine hrun.mono fun e W' ⟨v, F, he, bel, _, hr⟩ => ?_
    subst he
    have hv : v = .bool true := by cases hr; rfl
    subst hv
    exact ⟨_, rfl, _, _, _, [], _, [], hW', trodAll_mk1 (shut_bool Try.underlying4 _), (trodAll_cons_mk (Below.trod laidOut (by kernel_rfl) (of_decide_eq_true (by kernel_rfl)) h0 bel lt0) (trodAll_cons_mk (Below.trod laidOut (by kernel_rfl) (of_decide_eq_true (by kernel_rfl)) h1 bel lt1) (trodAll_cons_mk (Below.trod laidOut (by kernel_rfl) (of_decide_eq_true (by kernel_rfl)) h2 bel lt2) trodAll_mk0))), rfl, bel.frame _, fun h => by cases h⟩
  · refine ⟨rfl, fun j y v hy hv => ?_⟩
    match j with
    | 0 => simp at hy hv; subst hy; subst hv; exact rep0
    | 1 => simp at hy hv; subst hy; subst hv; exact rep1
    | 2 => simp at hy hv; subst hy; subst hv; exact rep2
    | j + 3 => simp at hy
theorem over : Rows.stencilHeapsRow.holds Try.pinned (OpenSpec.ofChange Rows.stencilHeapsSpec) :=
  OpenClaim.holds_of_wide 6 Try.f6 rfl rfl rfl rfl rfl rfl rfl ⟨rfl, rfl, rfl, rfl, rfl⟩ rfl rfl rfl rfl rfl (by kernel_rfl) Try.func6 (by kernel_rfl)
    (of_decide_eq_true (by kernel_rfl)) (by unfold Func.isWrapper; first | (rw [if_pos (by decide +kernel)]; kernel_rfl) | (rw [if_neg (by decide +kernel)]; exact ⟨rfl, rfl⟩))
    (fun os started H enc _ => lifted os started H enc)
theorem proved : Rows.StencilHeapsSaid := over
end R07H

namespace Go.Proofs.Ytmanbdacloeioaa
theorem stencilHeaps_holds : Rows.StencilHeapsSaid := R07H.proved
#print axioms stencilHeaps_holds
end Go.Proofs.Ytmanbdacloeioaa
