/- Proved: whatever the input, the law returns true, and its arguments read behind the call as they read before. No condition. This text: R12c. -/
import Derived.Test.YtjelfogbefnmaaaR12a
import Derived.Test.YtjelfogbefnmaaaG12u
set_option linter.unusedVariables false
namespace R12T
open R12
open Go Go.ChangeShapes Go.WideShapes Go.ChangeAt Go.RowKit Go.Proofs Go.Proofs.Ytjelfogbefnmaaa
section
variable {H : Type} {enc : TypeId × Value → H} {W : World}
/-- An array of two words, opened. -/
theorem open_two16 {P : Program} {t e : Nat} {r : Reach} {base : Nat} {v : Value} {d : DataW H} {ps : List MemPlace} (ht : P.underlying t = some (.array 2 e)) (he : P.underlying e = some (.int .u16)) (hc : P.cellsOf e = 1) (ht2 : P.cellsOf t = 2)
    (hv : Value.okWide P W r base t v) (h : DataW.Trod enc P W 0 (fun _ => true) true t v d ps) :
    ∃ a b, v = .agg #[.int .u16 a, .int .u16 b] ∧ 0 ≤ a ∧ a < 65536 ∧ 0 ≤ b ∧ b < 65536 := by
  unfold Value.okWide at hv
  rw [ht] at hv
  obtain ⟨cs, rfl, hs, _⟩ := hv
  obtain ⟨fuel, hf⟩ := h
  obtain ⟨xs, m, _, _, hl, hx, hi⟩ := DataW.trod_array ht hf
  have h0 := hi 0 (by omega)
  have h1 := hi 1 (by omega)
  rw [hc] at h0 h1
  have e0 : xs[0]? = some xs[0] := by simp
  have e1 : xs[1]? = some xs[1] := by simp
  rw [e0] at h0
  rw [e1] at h1
  obtain ⟨a, ha, _, wa⟩ := DataW.trod_int he h0
  obtain ⟨b, hb, _, wb⟩ := DataW.trod_int he h1
  obtain ⟨l⟩ := cs
  have hl2 : l.length = 2 := by simpa [ht2] using hs
  obtain ⟨u, v, rfl⟩ : ∃ u v, l = [u, v] := by
    match l, hl2 with
    | [u, v], _ => exact ⟨u, v, rfl⟩
  simp [Value.cells] at ha hb
  subst ha; subst hb
  simp [Lit.wf, IntKind.min, IntKind.max, IntKind.signed, IntKind.bits] at wa wb
  exact ⟨a, b, rfl, by omega, by omega, by omega, by omega⟩
end
set_option maxRecDepth 100000 in
theorem lifted (os : Os) (started : os.Started) (H : Type) (enc : TypeId × Value → H) :
    ReturnsInHanded {} Try.checked os 4 .any (Rows.topToldToldSpec.pre6 enc Try.prog Try.f4 Rows.topToldToldRow.domain false) (Rows.topToldToldSpec.post enc Try.prog Try.f4 false true false false) := by
  refine returnsInHanded_of_change_sized (C := Try.checked) own started (by kernel_rfl) Try.func4
    (ChangeSpec.witness6 (enc := enc) (C := Try.checked) false ⟨#[], #[.agg #[.int .u8 0, .int .u8 0], .slice none 0 0, .agg #[.int .u16 0, .int .u16 0]], []⟩ 8 (by kernel_rfl) (by kernel_rfl) (by kernel_rfl) (by kernel_rfl)) ?_
  intro W base args ds gs before hval0 hW hcnd hsz0 _
  have hval : ∀ (j : Nat) t v, Try.f4.params[j]? = some t → args[j]? = some v → Value.okWide Try.prog W .any base t v := hval0
  have hW' := hW
  obtain ⟨p, q, hA0, hV, rfl, hfz, hnd⟩ := hW
  have hA : DataW.TrodAll enc Try.prog W 0 (fun _ => true) true Try.f4.params.toList args.toList ds p := hA0
  rw [Try.params4] at hA hval
  obtain ⟨v0, vs0, d0, ds0, p0, q0, hargs, rfl, rfl, h0, r0⟩ := trodAll_cons hA
  obtain ⟨v1, vs1, d1, ds1, p1, q1, rfl, rfl, rfl, h1, r1⟩ := trodAll_cons r0
  obtain ⟨v2, vs2, d2, ds2, p2, q2, rfl, rfl, rfl, h2, r2⟩ := trodAll_cons r1
  obtain ⟨rfl, rfl, rfl⟩ := trodAll_nil r2
  obtain rfl : args = #[v0, v1, v2] := by cases args; simp_all
  obtain ⟨rfl, rfl⟩ := trodVars_none hV
  obtain ⟨a, b, rfl, a0, a1, b0, b1⟩ := open_two Try.underlying22 Try.underlying5 (by kernel_rfl) (by kernel_rfl) (hval 0 22 v0 rfl rfl) h0
  obtain ⟨ad, len, cap, rfl⟩ := okWide_slice Try.underlying23 (hval 1 23 v1 rfl rfl)
  obtain ⟨x, fl, hrep, hls, hfl, hlen⟩ := open_bytes Try.underlying23 Try.underlying5 (by kernel_rfl) h1
  obtain ⟨c, d, rfl, c0, c1, d0, d1⟩ := open_two16 Try.underlying52 Try.underlying24 (by kernel_rfl) (by kernel_rfl) (hval 2 52 v2 rfl rfl) h2
  have lt0 : ∀ x ∈ p0, x.block < W.heap.size := by obtain ⟨m, hm⟩ := h0; exact DataW.trod_lt m _ _ _ hm
  have lt1 : ∀ x ∈ p1, x.block < W.heap.size := by obtain ⟨m, hm⟩ := h1; exact DataW.trod_lt m _ _ _ hm
  have lt2 : ∀ x ∈ p2, x.block < W.heap.size := by obtain ⟨m, hm⟩ := h2; exact DataW.trod_lt m _ _ _ hm
  have hF := S12.t4 hls hfl hlen a0 a1 b0 b1 c0 c1 d0 d1
  have hrun := hF.2 W (fun b => b < W.heap.size) #[.agg #[.int .u8 a, .int .u8 b], .slice ad len cap, .agg #[.int .u16 c, .int .u16 d]] (fun _ h => h) ?_
  · clear hA0 hval0 hsz0
    refine hrun.mono fun e W' ⟨v, F, he, bel, _, hr⟩ => ?_
    subst he
    have hv : v = .bool true := by cases hr; rfl
    subst hv
    exact ⟨_, rfl, _, _, _, [], _, [], hW', trodAll_mk1 (shut_bool Try.underlying4 _), (trodAll_cons_mk (Below.trod laidOut (by kernel_rfl) (of_decide_eq_true (by kernel_rfl)) h0 bel lt0) (trodAll_cons_mk (Below.trod laidOut (by kernel_rfl) (of_decide_eq_true (by kernel_rfl)) h1 bel lt1) (trodAll_cons_mk (Below.trod laidOut (by kernel_rfl) (of_decide_eq_true (by kernel_rfl)) h2 bel lt2) trodAll_mk0))), rfl, bel.frame _, fun h => by cases h⟩
  · refine ⟨rfl, fun j y v hy hv => ?_⟩
    match j with
    | 0 =>
      simp at hy hv; subst hy; subst hv
      refine .agg _ _ rfl rfl fun k z u hz hu => ?_
      match k with
      | 0 => simp at hz hu; subst hz; subst hu; exact .val _
      | 1 => simp at hz hu; subst hz; subst hu; exact .val _
      | k + 2 => simp at hz
    | 1 => simp at hy hv; subst hy; subst hv; exact hrep
    | 2 =>
      simp at hy hv; subst hy; subst hv
      refine .agg _ _ rfl rfl fun k z u hz hu => ?_
      match k with
      | 0 => simp at hz hu; subst hz; subst hu; exact .val _
      | 1 => simp at hz hu; subst hz; subst hu; exact .val _
      | k + 2 => simp at hz
    | j + 3 => simp at hy
theorem over : Rows.topToldToldRow.holds Try.pinned (OpenSpec.ofChange Rows.topToldToldSpec) :=
  OpenClaim.holds_of_wide 4 Try.f4 rfl rfl rfl rfl rfl rfl rfl ⟨rfl, rfl, rfl, rfl, rfl⟩ rfl rfl rfl rfl rfl (by kernel_rfl) Try.func4 (by kernel_rfl)
    (of_decide_eq_true (by kernel_rfl)) (by unfold Func.isWrapper; first | (rw [if_pos (by decide +kernel)]; kernel_rfl) | (rw [if_neg (by decide +kernel)]; exact ⟨rfl, rfl⟩))
    (fun os started H enc _ => lifted os started H enc)
theorem proved : Rows.TopToldToldSaid := over
end R12T

namespace Go.Proofs.Ytjelfogbefnmaaa
theorem topToldTold_holds : Rows.TopToldToldSaid := R12T.proved
#print axioms topToldTold_holds
end Go.Proofs.Ytjelfogbefnmaaa
