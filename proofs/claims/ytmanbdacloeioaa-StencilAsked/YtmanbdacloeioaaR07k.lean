/- Proved: whatever the input, the law returns true, and its arguments read behind the call as they read before. No condition. This text: R07k. -/
import Derived.Test.YtmanbdacloeioaaR07a
import Derived.Test.YtmanbdacloeioaaH07i
set_option linter.unusedVariables false
namespace R07K
open R07
open Go Go.ChangeShapes Go.WideShapes Go.ChangeAt Go.RowKit Go.Proofs Go.Proofs.Ytmanbdacloeioaa
theorem ty0 : Abs.plainT Try.prog 5 71 = true := by kernel_rfl
theorem ty1 : Abs.plainT Try.prog 5 91 = true := by kernel_rfl
theorem ty2 : Abs.plainT Try.prog 5 92 = true := by kernel_rfl

set_option maxRecDepth 100000 in
theorem lifted (os : Os) (started : os.Started) (H : Type) (enc : TypeId × Value → H) :
    ReturnsInHanded {} Try.checked os 8 .any (Rows.stencilAskedSpec.pre6 enc Try.prog Try.f8 Rows.stencilAskedRow.domain false) (Rows.stencilAskedSpec.post enc Try.prog Try.f8 false true false false) := by
  refine returnsInHanded_of_change_sized (C := Try.checked) own started (by kernel_rfl) Try.func8
    (ChangeSpec.witness6 (enc := enc) (C := Try.checked) false ⟨#[], #[.agg #[.int .u8 0, .slice none 0 0, .slice none 0 0], .agg #[.int .u8 0, .int .u8 0, .int .u8 0, .int .u8 0, .int .u8 0, .int .u8 0, .int .u8 0, .int .u8 0, .int .u8 0, .int .u8 0, .int .u8 0, .int .u8 0, .int .u8 0, .int .u8 0, .int .u8 0], .agg #[.int .u8 0, .int .u8 0, .int .u8 0, .int .u8 0]], []⟩ 8 (by kernel_rfl) (by kernel_rfl) (by kernel_rfl) (by kernel_rfl)) ?_
  intro W base args ds gs before hval0 hW hcnd hsz0 _
  have hval : ∀ (j : Nat) t v, Try.f8.params[j]? = some t → args[j]? = some v → Value.okWide Try.prog W .any base t v := hval0
  have hW' := hW
  obtain ⟨p, q, hA0, hV, rfl, hfz, hnd⟩ := hW
  have hA : DataW.TrodAll enc Try.prog W 0 (fun _ => true) true Try.f8.params.toList args.toList ds p := hA0
  rw [Try.params8] at hA hval
  obtain ⟨v0, vs0, d0, ds0, p0, q0, hargs, rfl, rfl, h0, r0⟩ := trodAll_cons hA
  obtain ⟨v1, vs1, d1, ds1, p1, q1, rfl, rfl, rfl, h1, r1⟩ := trodAll_cons r0
  obtain ⟨v2, vs2, d2, ds2, p2, q2, rfl, rfl, rfl, h2, r2⟩ := trodAll_cons r1
  obtain ⟨rfl, rfl, rfl⟩ := trodAll_nil r2
  obtain rfl : args = #[v0, v1, v2] := by cases args; simp_all
  obtain ⟨rfl, rfl⟩ := trodVars_none hV
  have lt0 : ∀ x ∈ p0, x.block < W.heap.size := by obtain ⟨m, hm⟩ := h0; exact DataW.trod_lt m _ _ _ hm
  have lt1 : ∀ x ∈ p1, x.block < W.heap.size := by obtain ⟨m, hm⟩ := h1; exact DataW.trod_lt m _ _ _ hm
  have lt2 : ∀ x ∈ p2, x.block < W.heap.size := by obtain ⟨m, hm⟩ := h2; exact DataW.trod_lt m _ _ _ hm
  obtain ⟨cs0, rfl⟩ := wide_agg (by kernel_rfl) (hval 0 71 v0 rfl rfl)
  obtain ⟨cs1, rfl⟩ := wide_agg (by kernel_rfl) (hval 1 91 v1 rfl rfl)
  obtain ⟨cs2, rfl⟩ := wide_agg (by kernel_rfl) (hval 2 92 v2 rfl rfl)
  obtain ⟨fs0, rep0, sh0⟩ := Abs.open_agg ty0 h0
  obtain ⟨fs1, rep1, sh1⟩ := Abs.open_agg ty1 h1
  obtain ⟨fs2, rep2, sh2⟩ := Abs.open_agg ty2 h2
  obtain ⟨b, hs, as_, hl, al, rfl, b0, b1, e1, e2, hb, ab, l1, l2⟩ := sh_type sh0 Try.underlying71 rfl Try.underlying5 Try.underlying69 Try.underlying135
  obtain ⟨Bs, rfl, w2, w3, w4⟩ := sh_arr2 sh1 Try.underlying91 Try.underlying90 Try.underlying5
  obtain ⟨zs, rfl, l4, hb4⟩ := sh_arr sh2 Try.underlying92 Try.underlying5
  have hF := S07.t8 b0 b1 e1 e2 hb ab l1 l2 w2 w3 w4 l4 hb4
  have hrun := hF.2 W (fun b => b < W.heap.size) #[.agg cs0, .agg cs1, .agg cs2] (fun _ h => h) ?_
  · clear hA0 hval0 hsz0
    refine hrun.mono fun e W' ⟨v, F, he, bel, _, hr⟩ => ?_
    subst he
    have hv : v = .bool true := by cases hr; rfl
    subst hv
    exact ⟨_, rfl, _, _, _, [], _, [], hW', trodAll_mk1 (shut_bool Try.underlying4 _), (trodAll_cons_mk (Below.trod laidOut (by kernel_rfl) (of_decide_eq_true (by kernel_rfl)) h0 bel lt0) (trodAll_cons_mk (Below.trod laidOut (by kernel_rfl) (of_decide_eq_true (by kernel_rfl)) h1 bel lt1) (trodAll_cons_mk (Below.trod laidOut (by kernel_rfl) (of_decide_eq_true (by kernel_rfl)) h2 bel lt2) trodAll_mk0))), rfl, bel.frame _, fun h => by cases h⟩
  · refine ⟨rfl, fun j y v hy hv => ?_⟩
    match j with
    | 0 => simp at hy hv; subst hy; subst hv; exact rep0
    | 1 => simp at hy hv; subst hy; subst hv; exact rep1
    | 2 => simp at hy hv; subst hy; subst hv; exact rep2
    | j + 3 => simp at hy
theorem over : Rows.stencilAskedRow.holds Try.pinned (OpenSpec.ofChange Rows.stencilAskedSpec) :=
  OpenClaim.holds_of_wide 8 Try.f8 rfl rfl rfl rfl rfl rfl rfl ⟨rfl, rfl, rfl, rfl, rfl⟩ rfl rfl rfl rfl rfl (by kernel_rfl) Try.func8 (by kernel_rfl)
    (of_decide_eq_true (by kernel_rfl)) (by unfold Func.isWrapper; first | (rw [if_pos (by decide +kernel)]; kernel_rfl) | (rw [if_neg (by decide +kernel)]; exact ⟨rfl, rfl⟩))
    (fun os started H enc _ => lifted os started H enc)
theorem proved : Rows.StencilAskedSaid := over
end R07K

namespace Go.Proofs.Ytmanbdacloeioaa
theorem stencilAsked_holds : Rows.StencilAskedSaid := R07K.proved
#print axioms stencilAsked_holds
end Go.Proofs.Ytmanbdacloeioaa
