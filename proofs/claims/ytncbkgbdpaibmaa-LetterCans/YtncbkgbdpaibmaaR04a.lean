/- Proved: whatever the input, the law returns true, and its arguments read behind the call as they read before. No condition. This text: R04a, R04r. -/
import Derived.Test.YtncbkgbdpaibmaaAbsR
import Derived.Test.YtncbkgbdpaibmaaH04h
import Derived.Test.YtncbkgbdpaibmaaRows
import Derived.Test.YtncbkgbdpaibmaaX04q
set_option linter.unusedVariables false
set_option linter.unusedSimpArgs false
namespace R04
open Go Go.ChangeShapes Go.WideShapes Go.ChangeAt Go.RowKit Go.Proofs Go.Proofs.Ytncbkgbdpaibmaa
open Abs (FV Sh ShA ShF lsOf aggB ints)
open S04 (Cs CV tF)
theorem own : ownKnob Try.prog.godebug = none := by kernel_rfl
theorem laidOut : laidOutB Try.prog = true := by kernel_rfl
section
variable {P : Program}
theorem list_map {α : Type} {G : FV → α → Prop} (f : α → FV) : ∀ (xs : List FV), (∀ y ∈ xs, ∃ a, G y a ∧ y = f a) → ∃ as_ : List α, xs = as_.map f ∧ ∀ a ∈ as_, ∃ y, G y a
  | [], _ => ⟨[], rfl, by simp⟩
  | x :: xs, h => by
    obtain ⟨as_, h1, h2⟩ := list_map f xs fun y hy => h y (by simp [hy])
    obtain ⟨a, h3, h4⟩ := h x (by simp)
    refine ⟨a :: as_, by rw [List.map_cons, ← h1, ← h4], ?_⟩
    intro b hb
    rcases List.mem_cons.1 hb with rfl | hb
    · exact ⟨x, h3⟩
    · exact h2 b hb
theorem sh_int {n t : Nat} {fs : List FV} (h : Sh P (n + 1) t fs) (ht : P.underlying t = some (.int .i64)) : ∃ z : Int, fs = [.int z] := by
  unfold Sh at h
  rw [ht] at h
  obtain ⟨z, h1, h2⟩ := h
  exact ⟨z, h1⟩
theorem sh_ints {n t e : Nat} {fs : List FV} (h : Sh P (n + 2) t fs) (ht : P.underlying t = some (.slice e)) (he : P.underlying e = some (.int .i64)) : ∃ (s : FV) (zs : List Int), fs = [s] ∧ lsOf s = some (ints zs) ∧ zs.length ≤ 9223372036854775807 := by
  unfold Sh at h
  rw [ht] at h
  obtain ⟨s, xs, rfl, h1, h2, h3⟩ := h
  obtain ⟨zs, rfl, h4⟩ := list_map (G := fun _ (z : Int) => True) FV.int xs (by
    intro y hy
    obtain ⟨cs, rfl, h5⟩ := h3 y hy
    obtain ⟨z, rfl⟩ := sh_int h5 he
    refine ⟨z, trivial, ?_⟩
    have : aggB P e = false := by unfold aggB; rw [he]
    rw [this]; rfl)
  exact ⟨s, zs, rfl, h1, by simpa using h2⟩
theorem sh_three {n t t0 t1 t2 : Nat} {fl : Array Field} {fs : List FV} (h : Sh P (n + 1) t fs) (ht : P.underlying t = some (.struct fl)) (hf : fl.toList.map (·.type) = [t0, t1, t2]) : ∃ a b c, fs = a ++ (b ++ c) ∧ Sh P n t0 a ∧ Sh P n t1 b ∧ Sh P n t2 c := by
  unfold Sh at h
  rw [ht] at h
  obtain ⟨f0, f1, f2, hl, g0, g1, g2⟩ : ∃ f0 f1 f2, fl.toList = [f0, f1, f2] ∧ f0.type = t0 ∧ f1.type = t1 ∧ f2.type = t2 := by
    match h : fl.toList, hf with
    | [f0, f1, f2], hf => simp at hf; exact ⟨f0, f1, f2, rfl, hf.1, hf.2.1, hf.2.2⟩
  dsimp only at h
  rw [hl] at h
  obtain ⟨a, b, rfl, h1, c, d, rfl, h2, e, f, rfl, h3, rfl⟩ := h
  rw [g0] at h1; rw [g1] at h2; rw [g2] at h3
  exact ⟨a, c, e, by simp, h1, h2, h3⟩
theorem sh_two {n t t0 t1 : Nat} {fl : Array Field} {fs : List FV} (h : Sh P (n + 1) t fs) (ht : P.underlying t = some (.struct fl)) (hf : fl.toList.map (·.type) = [t0, t1]) : ∃ a b, fs = a ++ b ∧ Sh P n t0 a ∧ Sh P n t1 b := by
  unfold Sh at h
  rw [ht] at h
  obtain ⟨f0, f1, hl, g0, g1⟩ : ∃ f0 f1, fl.toList = [f0, f1] ∧ f0.type = t0 ∧ f1.type = t1 := by
    match h : fl.toList, hf with
    | [f0, f1], hf => simp at hf; exact ⟨f0, f1, rfl, hf.1, hf.2⟩
  dsimp only at h
  rw [hl] at h
  obtain ⟨a, b, rfl, h1, c, d, rfl, h2, rfl⟩ := h
  rw [g0] at h1; rw [g1] at h2
  exact ⟨a, c, by simp, h1, h2⟩
theorem sh_five {n t t0 t1 t2 t3 t4 : Nat} {fl : Array Field} {fs : List FV} (h : Sh P (n + 1) t fs) (ht : P.underlying t = some (.struct fl)) (hf : fl.toList.map (·.type) = [t0, t1, t2, t3, t4]) :
    ∃ a b c d e, fs = a ++ (b ++ (c ++ (d ++ e))) ∧ Sh P n t0 a ∧ Sh P n t1 b ∧ Sh P n t2 c ∧ Sh P n t3 d ∧ Sh P n t4 e := by
  unfold Sh at h
  rw [ht] at h
  obtain ⟨f0, f1, f2, f3, f4, hl, g0, g1, g2, g3, g4⟩ : ∃ f0 f1 f2 f3 f4, fl.toList = [f0, f1, f2, f3, f4] ∧ f0.type = t0 ∧ f1.type = t1 ∧ f2.type = t2 ∧ f3.type = t3 ∧ f4.type = t4 := by
    match h : fl.toList, hf with
    | [f0, f1, f2, f3, f4], hf => simp at hf; exact ⟨f0, f1, f2, f3, f4, rfl, hf.1, hf.2.1, hf.2.2.1, hf.2.2.2.1, hf.2.2.2.2⟩
  dsimp only at h
  rw [hl] at h
  obtain ⟨a, _, rfl, h1, b, _, rfl, h2, c, _, rfl, h3, d, _, rfl, h4, e, _, rfl, h5, rfl⟩ := h
  rw [g0] at h1; rw [g1] at h2; rw [g2] at h3; rw [g3] at h4; rw [g4] at h5
  exact ⟨a, b, c, d, e, by simp, h1, h2, h3, h4, h5⟩
theorem sh_triples {n t e e' : Nat} {fl : Array Field} {fs : List FV} (h : Sh P (n + 3) t fs) (ht : P.underlying t = some (.slice e)) (he : P.underlying e = some (.struct fl)) (hf : fl.toList.map (·.type) = [e', e', e']) (he' : P.underlying e' = some (.int .i64)) :
    ∃ (s : FV) (ps : List (Int × Int × Int)), fs = [s] ∧ lsOf s = some (ps.map tF) ∧ ps.length ≤ 9223372036854775807 := by
  unfold Sh at h
  rw [ht] at h
  obtain ⟨s, xs, rfl, h1, h2, h3⟩ := h
  obtain ⟨ps, rfl, h4⟩ := list_map (G := fun _ (p : Int × Int × Int) => True) tF xs (by
    intro y hy
    obtain ⟨cs, rfl, h5⟩ := h3 y hy
    obtain ⟨a, b, c, rfl, ha, hb, hc⟩ := sh_three h5 he hf
    obtain ⟨x, rfl⟩ := sh_int ha he'
    obtain ⟨z, rfl⟩ := sh_int hb he'
    obtain ⟨q, rfl⟩ := sh_int hc he'
    refine ⟨(x, z, q), trivial, ?_⟩
    have : aggB P e = true := by unfold aggB; rw [he]
    rw [this]; rfl)
  exact ⟨s, ps, rfl, h1, by simpa using h2⟩
theorem sh_case {t t0 t1 t2 e1 : Nat} {fl fl1 : Array Field} {fs : List FV} (h : Sh P 5 t fs) (ht : P.underlying t = some (.struct fl)) (hf : fl.toList.map (·.type) = [t0, t1, t2, t2, t2]) (u0 : P.underlying t0 = some (.slice t2)) (u1 : P.underlying t1 = some (.slice e1)) (u2 : P.underlying e1 = some (.struct fl1)) (hf1 : fl1.toList.map (·.type) = [t2, t2, t2]) (ui : P.underlying t2 = some (.int .i64)) :
    ∃ (c : Cs) (sw sp : FV), fs = c.cells sw sp ∧ CV c sw sp := by
  obtain ⟨a, b, c, d, e, rfl, h1, h2, h3, h4, h5⟩ := sh_five h ht hf
  obtain ⟨sw, W, rfl, w1, w2⟩ := sh_ints h1 u0 ui
  obtain ⟨sp, Ps, rfl, p1, p2⟩ := sh_triples h2 u1 u2 hf1 ui
  obtain ⟨R, rfl⟩ := sh_int h3 ui
  obtain ⟨L, rfl⟩ := sh_int h4 ui
  obtain ⟨B, rfl⟩ := sh_int h5 ui
  exact ⟨⟨W, Ps, R, L, B⟩, sw, sp, rfl, ⟨w1, p1, w2, p2⟩⟩
theorem sh_arr2l {n t e e' : Nat} {fs : List FV} (h : Sh P (n + 3) t fs) (ht : P.underlying t = some (.array 2 e)) (he : P.underlying e = some (.slice e')) (he' : P.underlying e' = some (.int .i64)) :
    ∃ (s s' : FV) (a b : List Int), fs = [s, s'] ∧ lsOf s = some (ints a) ∧ a.length ≤ 9223372036854775807 ∧ lsOf s' = some (ints b) ∧ b.length ≤ 9223372036854775807 := by
  unfold Sh at h
  rw [ht] at h
  obtain ⟨x, b, rfl, h1, y, d, rfl, h2, h3⟩ := h
  obtain ⟨s, a, rfl, a1, a2⟩ := sh_ints h1 he he'
  obtain ⟨s', b', rfl, b1, b2⟩ := sh_ints h2 he he'
  have : d = [] := by simpa [ShA] using h3
  subst this
  exact ⟨s, s', a, b', rfl, a1, a2, b1, b2⟩
end
section
variable {H : Type} {enc : TypeId × Value → H} {W : World}
theorem wide_agg {P : Program} {t : Nat} {r : Reach} {base : Nat} {v : Value} (ht : Abs.aggB P t = true) (hv : Value.okWide P W r base t v) : ∃ cs, v = .agg cs := by
  unfold Value.okWide at hv
  unfold Abs.aggB at ht
  split at ht
  · rename_i fl e; rw [e] at hv; obtain ⟨cs, rfl, _⟩ := hv; exact ⟨cs, rfl⟩
  · rename_i m e' e; rw [e] at hv; obtain ⟨cs, rfl, _⟩ := hv; exact ⟨cs, rfl⟩
  · simp at ht
end
end R04

namespace R04R
open R04
open Go Go.ChangeShapes Go.WideShapes Go.ChangeAt Go.RowKit Go.Proofs Go.Proofs.Ytncbkgbdpaibmaa
theorem ty0 : Abs.plainT Try.prog 5 25 = true := by kernel_rfl
theorem ty1 : Abs.plainT Try.prog 5 66 = true := by kernel_rfl
theorem ty2 : Abs.plainT Try.prog 5 71 = true := by kernel_rfl
set_option maxRecDepth 100000 in
theorem lifted (os : Os) (started : os.Started) (H : Type) (enc : TypeId × Value → H) :
    ReturnsInHanded {} Try.checked os 9 .any (Rows.letterCansSpec.pre6 enc Try.prog Try.f9 Rows.letterCansRow.domain false) (Rows.letterCansSpec.post enc Try.prog Try.f9 false true false false) := by
  refine returnsInHanded_of_change_sized (C := Try.checked) own started (by kernel_rfl) Try.func9
    (ChangeSpec.witness6 (enc := enc) (C := Try.checked) false ⟨#[], #[.agg #[.slice none 0 0, .slice none 0 0, .int .i64 0, .int .i64 0, .int .i64 0], .agg #[.slice none 0 0, .slice none 0 0], .agg #[.int .i64 0, .int .i64 0]], []⟩ 8 (by kernel_rfl) (by kernel_rfl) (by kernel_rfl) (by kernel_rfl)) ?_
  intro W base args ds gs before hval0 hW hcnd hsz0 _
  have hval : ∀ (j : Nat) t v, Try.f9.params[j]? = some t → args[j]? = some v → Value.okWide Try.prog W .any base t v := hval0
  have hW' := hW
  obtain ⟨p, q, hA0, hV, rfl, hfz, hnd⟩ := hW
  have hA : DataW.TrodAll enc Try.prog W 0 (fun _ => true) true Try.f9.params.toList args.toList ds p := hA0
  rw [Try.params9] at hA hval
  obtain ⟨v0, vs0, d0, ds0, p0, q0, hargs, rfl, rfl, h0, r0⟩ := trodAll_cons hA
  obtain ⟨v1, vs1, d1, ds1, p1, q1, rfl, rfl, rfl, h1, r1⟩ := trodAll_cons r0
  obtain ⟨v2, vs2, d2, ds2, p2, q2, rfl, rfl, rfl, h2, r2⟩ := trodAll_cons r1
  obtain ⟨rfl, rfl, rfl⟩ := trodAll_nil r2
  obtain rfl : args = #[v0, v1, v2] := by cases args; simp_all
  obtain ⟨rfl, rfl⟩ := trodVars_none hV
  have lt0 : ∀ x ∈ p0, x.block < W.heap.size := by obtain ⟨m, hm⟩ := h0; exact DataW.trod_lt m _ _ _ hm
  have lt1 : ∀ x ∈ p1, x.block < W.heap.size := by obtain ⟨m, hm⟩ := h1; exact DataW.trod_lt m _ _ _ hm
  have lt2 : ∀ x ∈ p2, x.block < W.heap.size := by obtain ⟨m, hm⟩ := h2; exact DataW.trod_lt m _ _ _ hm
  obtain ⟨cs0, rfl⟩ := wide_agg (by kernel_rfl) (hval 0 25 v0 rfl rfl)
  obtain ⟨cs1, rfl⟩ := wide_agg (by kernel_rfl) (hval 1 66 v1 rfl rfl)
  obtain ⟨cs2, rfl⟩ := wide_agg (by kernel_rfl) (hval 2 71 v2 rfl rfl)
  obtain ⟨fs0, rep0, sh0⟩ := Abs.open_agg ty0 h0
  obtain ⟨fs1, rep1, sh1⟩ := Abs.open_agg ty1 h1
  obtain ⟨fs2, rep2, sh2⟩ := Abs.open_agg ty2 h2
  obtain ⟨c, sw, sp, rfl, cv⟩ := sh_case sh0 Try.underlying25 rfl Try.underlying22 Try.underlying23 Try.underlying108 rfl Try.underlying3
  obtain ⟨s, sg, w, g, rfl, w1, w2, g1, g2⟩ := sh_arr2l sh1 Try.underlying66 Try.underlying22 Try.underlying3
  obtain ⟨fa, fb, rfl, ha, hb⟩ := sh_two sh2 Try.underlying71 rfl
  obtain ⟨lo, rfl⟩ := sh_int ha Try.underlying3
  obtain ⟨hi, rfl⟩ := sh_int hb Try.underlying3
  have hF := S04.t9 (lo := lo) (hi := hi) cv w1 w2 g1 g2
  have hrun := hF.2 W (fun b => b < W.heap.size) #[.agg cs0, .agg cs1, .agg cs2] (fun _ h => h) ?_
  · clear hA0 hval0 hsz0
    refine hrun.mono fun e W' ⟨v, F, he, bel, _, hr⟩ => ?_
    subst he
    have hv : v = .bool true := by cases hr; rfl
    subst hv
    exact ⟨_, rfl, _, _, _, [], _, [], hW', trodAll_mk1 (shut_bool Try.underlying4 _), (trodAll_cons_mk (Below.trod laidOut (by kernel_rfl) (of_decide_eq_true (by kernel_rfl)) h0 bel lt0) (trodAll_cons_mk (Below.trod laidOut (by kernel_rfl) (of_decide_eq_true (by kernel_rfl)) h1 bel lt1) (trodAll_cons_mk (Below.trod laidOut (by kernel_rfl) (of_decide_eq_true (by kernel_rfl)) h2 bel lt2) trodAll_mk0))), rfl, bel.frame _, fun h => by cases h⟩
  · refine ⟨rfl, fun j y v hy hv => ?_⟩
    match j with
    | 0 => simp at hy hv; subst hy; subst hv; exact rep0
    | 1 => simp at hy hv; subst hy; subst hv; exact rep1
    | 2 => simp at hy hv; subst hy; subst hv; exact rep2
    | j + 3 => simp at hy
theorem over : Rows.letterCansRow.holds Try.pinned (OpenSpec.ofChange Rows.letterCansSpec) :=
  OpenClaim.holds_of_wide 9 Try.f9 rfl rfl rfl rfl rfl rfl rfl ⟨rfl, rfl, rfl, rfl, rfl⟩ rfl rfl rfl rfl rfl (by kernel_rfl) Try.func9 (by kernel_rfl)
    (of_decide_eq_true (by kernel_rfl)) (by unfold Func.isWrapper; first | (rw [if_pos (by decide +kernel)]; kernel_rfl) | (rw [if_neg (by decide +kernel)]; exact ⟨rfl, rfl⟩))
    (fun os started H enc _ => lifted os started H enc)
theorem proved : Rows.LetterCansSaid := over
end R04R

namespace Go.Proofs.Ytncbkgbdpaibmaa
theorem letterCans_holds : Rows.LetterCansSaid := R04R.proved
#print axioms letterCans_holds
end Go.Proofs.Ytncbkgbdpaibmaa
