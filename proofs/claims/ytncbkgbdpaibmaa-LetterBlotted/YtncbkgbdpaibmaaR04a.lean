/- Proved: whatever the input, the law returns true, and its arguments read behind the call as they read before. No condition. This text: R04a, R04b, R04x. -/
import Derived.Test.YtncbkgbdpaibmaaAbsR
import Derived.Test.YtncbkgbdpaibmaaH04h
import Derived.Test.YtncbkgbdpaibmaaRows
import Derived.Test.YtncbkgbdpaibmaaP04j
import Derived.Test.YtncbkgbdpaibmaaX04zb
set_option linter.unusedVariables false
set_option linter.unusedSimpArgs false
namespace R04
open Go Go.ChangeShapes Go.WideShapes Go.ChangeAt Go.RowKit Go.Proofs Go.Proofs.Ytncbkgbdpaibmaa
open Abs (FV Sh ShA ShF lsOf aggB ints)
open S04 (Cs CV tF)
theorem own : ownKnob Try.prog.godebug = none := by kernel_rfl
theorem laidOut : laidOutB Try.prog = true := by kernel_rfl
section
variable {P : Program}
theorem list_map {α : Type} {G : FV → α → Prop} (f : α → FV) : ∀ (xs : List FV), (∀ y ∈ xs, ∃ a, G y a ∧ y = f a) → ∃ as_ : List α, xs = as_.map f ∧ ∀ a ∈ as_, ∃ y, G y a
  | [], _ => ⟨[], rfl, by simp⟩
  | x :: xs, h => by
    obtain ⟨as_, h1, h2⟩ := list_map f xs fun y hy => h y (by simp [hy])
    obtain ⟨a, h3, h4⟩ := h x (by simp)
    refine ⟨a :: as_, by rw [List.map_cons, ← h1, ← h4], ?_⟩
    intro b hb
    rcases List.mem_cons.1 hb with rfl | hb
    · exact ⟨x, h3⟩
    · exact h2 b hb
theorem sh_three {n t t0 t1 t2 : Nat} {fl : Array Field} {fs : List FV} (h : Sh P (n + 1) t fs) (ht : P.underlying t = some (.struct fl)) (hf : fl.toList.map (·.type) = [t0, t1, t2]) : ∃ a b c, fs = a ++ (b ++ c) ∧ Sh P n t0 a ∧ Sh P n t1 b ∧ Sh P n t2 c := by
  unfold Sh at h
  rw [ht] at h
  obtain ⟨f0, f1, f2, hl, g0, g1, g2⟩ : ∃ f0 f1 f2, fl.toList = [f0, f1, f2] ∧ f0.type = t0 ∧ f1.type = t1 ∧ f2.type = t2 := by
    match h : fl.toList, hf with
    | [f0, f1, f2], hf => simp at hf; exact ⟨f0, f1, f2, rfl, hf.1, hf.2.1, hf.2.2⟩
  dsimp only at h
  rw [hl] at h
  obtain ⟨a, b, rfl, h1, c, d, rfl, h2, e, f, rfl, h3, rfl⟩ := h
  rw [g0] at h1; rw [g1] at h2; rw [g2] at h3
  exact ⟨a, c, e, by simp, h1, h2, h3⟩
end
section
variable {H : Type} {enc : TypeId × Value → H} {W : World}
theorem wide_agg {P : Program} {t : Nat} {r : Reach} {base : Nat} {v : Value} (ht : Abs.aggB P t = true) (hv : Value.okWide P W r base t v) : ∃ cs, v = .agg cs := by
  unfold Value.okWide at hv
  unfold Abs.aggB at ht
  split at ht
  · rename_i fl e; rw [e] at hv; obtain ⟨cs, rfl, _⟩ := hv; exact ⟨cs, rfl⟩
  · rename_i m e' e; rw [e] at hv; obtain ⟨cs, rfl, _⟩ := hv; exact ⟨cs, rfl⟩
  · simp at ht
end
end R04

namespace R04
open Go Go.ChangeShapes Go.WideShapes Go.ChangeAt Go.RowKit Go.Proofs Go.Proofs.Ytncbkgbdpaibmaa
open Abs (FV Sh ShA ShF lsOf aggB)
open S04 (u8 pU TY tyA made_ty BB Cs)
section
variable {P : Program}
theorem sh_u8 {n t : Nat} {fs : List FV} (h : Sh P (n + 1) t fs) (ht : P.underlying t = some (.int .u8)) : ∃ z, fs = [u8 z] ∧ 0 ≤ z ∧ z < 256 := by
  unfold Sh at h
  rw [ht] at h
  obtain ⟨z, h1, h2⟩ := h
  simp [Lit.wf, IntKind.min, IntKind.max, IntKind.signed, IntKind.bits] at h2
  exact ⟨z, h1, by omega, by omega⟩
theorem sha_u8 {n e : Nat} (he : P.underlying e = some (.int .u8)) : ∀ (m : Nat) (fs : List FV), ShA (Sh P (n + 1) e) m fs → ∃ zs : List Int, fs = zs.map u8 ∧ zs.length = m ∧ ∀ z ∈ zs, 0 ≤ z ∧ z < 256
  | 0, fs, h => ⟨[], by simpa [ShA] using h, rfl, by simp⟩
  | m + 1, fs, h => by
    obtain ⟨a, b, rfl, h1, h2⟩ := h
    obtain ⟨z, rfl, z0, z1⟩ := sh_u8 h1 he
    obtain ⟨zs, rfl, h3, h4⟩ := sha_u8 he m b h2
    exact ⟨z :: zs, rfl, by simp [h3], by intro x hx; rcases List.mem_cons.1 hx with rfl | hx; exact ⟨z0, z1⟩; exact h4 x hx⟩
theorem sh_arr {n t e m : Nat} {fs : List FV} (h : Sh P (n + 2) t fs) (ht : P.underlying t = some (.array m e)) (he : P.underlying e = some (.int .u8)) : ∃ zs : List Int, fs = zs.map u8 ∧ zs.length = m ∧ ∀ z ∈ zs, 0 ≤ z ∧ z < 256 := by
  unfold Sh at h
  rw [ht] at h
  exact sha_u8 he m fs h
theorem sh_arr2 {n t e : Nat} {fs : List FV} (h : Sh P (n + 2) t fs) (ht : P.underlying t = some (.array 2 e)) (he : P.underlying e = some (.int .u8)) : ∃ a b : Int, fs = [u8 a, u8 b] ∧ (0 ≤ a ∧ a < 256) ∧ 0 ≤ b ∧ b < 256 := by
  obtain ⟨zs, rfl, hl, hb⟩ := sh_arr h ht he
  match zs, hl with
  | [a, b], _ => exact ⟨a, b, rfl, hb a (by simp), hb b (by simp)⟩
theorem sh_arr3 {n t e : Nat} {fs : List FV} (h : Sh P (n + 2) t fs) (ht : P.underlying t = some (.array 3 e)) (he : P.underlying e = some (.int .u8)) : ∃ a b c : Int, fs = [u8 a, u8 b, u8 c] ∧ (0 ≤ a ∧ a < 256) ∧ (0 ≤ b ∧ b < 256) ∧ 0 ≤ c ∧ c < 256 := by
  obtain ⟨zs, rfl, hl, hb⟩ := sh_arr h ht he
  match zs, hl with
  | [a, b, c], _ => exact ⟨a, b, c, rfl, hb a (by simp), hb b (by simp), hb c (by simp)⟩
theorem sh_arr6 {n t e : Nat} {fs : List FV} (h : Sh P (n + 2) t fs) (ht : P.underlying t = some (.array 6 e)) (he : P.underlying e = some (.int .u8)) : ∃ a0 a1 a2 a3 a4 a5 : Int, fs = [u8 a0, u8 a1, u8 a2, u8 a3, u8 a4, u8 a5] ∧ ∀ x ∈ [a0, a1, a2, a3, a4, a5], 0 ≤ x ∧ x < 256 := by
  obtain ⟨zs, rfl, hl, hb⟩ := sh_arr h ht he
  match zs, hl with
  | [a0, a1, a2, a3, a4, a5], _ => exact ⟨a0, a1, a2, a3, a4, a5, rfl, hb⟩
theorem sh_bytes {n t e : Nat} {fs : List FV} (h : Sh P (n + 2) t fs) (ht : P.underlying t = some (.slice e)) (he : P.underlying e = some (.int .u8)) : ∃ (s : FV) (zs : List Int), fs = [s] ∧ lsOf s = some (zs.map u8) ∧ (∀ z ∈ zs, 0 ≤ z ∧ z < 256) ∧ zs.length ≤ 9223372036854775807 := by
  unfold Sh at h
  rw [ht] at h
  obtain ⟨s, xs, rfl, h1, h2, h3⟩ := h
  obtain ⟨zs, rfl, h4⟩ := list_map (G := fun _ (z : Int) => 0 ≤ z ∧ z < 256) u8 xs (by
    intro y hy
    obtain ⟨cs, rfl, h5⟩ := h3 y hy
    obtain ⟨z, rfl, z0, z1⟩ := sh_u8 h5 he
    refine ⟨z, ⟨z0, z1⟩, ?_⟩
    have : aggB P e = false := by unfold aggB; rw [he]
    rw [this]; rfl)
  exact ⟨s, zs, rfl, h1, fun z hz => (h4 z hz).choose_spec, by simpa using h2⟩
theorem sh_pairs {n t e e' : Nat} {fs : List FV} (h : Sh P (n + 3) t fs) (ht : P.underlying t = some (.slice e)) (he : P.underlying e = some (.array 2 e')) (he' : P.underlying e' = some (.int .u8)) : ∃ (s : FV) (pl : List (Int × Int)), fs = [s] ∧ lsOf s = some (pl.map pU) ∧ BB pl ∧ pl.length ≤ 9223372036854775807 := by
  unfold Sh at h
  rw [ht] at h
  obtain ⟨s, xs, rfl, h1, h2, h3⟩ := h
  obtain ⟨pl, rfl, h4⟩ := list_map (G := fun _ (p : Int × Int) => 0 ≤ p.1 ∧ p.1 < 256 ∧ 0 ≤ p.2 ∧ p.2 < 256) pU xs (by
    intro y hy
    obtain ⟨cs, rfl, h5⟩ := h3 y hy
    obtain ⟨a, b, rfl, ha, hb⟩ := sh_arr2 h5 he he'
    refine ⟨(a, b), ⟨ha.1, ha.2, hb.1, hb.2⟩, ?_⟩
    have : aggB P e = true := by unfold aggB; rw [he]
    rw [this]; rfl)
  exact ⟨s, pl, rfl, h1, fun z hz => (h4 z hz).choose_spec, by simpa using h2⟩
theorem sh_ty {t : Nat} {t0 t1 t2 e1 e2 : Nat} {fl : Array Field} {fs : List FV} (h : Sh P 5 t fs) (ht : P.underlying t = some (.struct fl)) (hf : fl.toList.map (·.type) = [t0, t1, t2]) (u0 : P.underlying t0 = some (.array 6 e2)) (u1 : P.underlying t1 = some (.slice e1)) (u2 : P.underlying t2 = some (.array 3 e2)) (u3 : P.underlying e1 = some (.array 2 e2)) (u4 : P.underlying e2 = some (.int .u8)) :
    ∃ (a0 a1 a2 a3 a4 a5 : Int) (s : FV) (f0 f1 f2 : Int), fs = tyA a0 a1 a2 a3 a4 a5 s f0 f1 f2 ∧ ∃ (c : Cs) (sw sp : FV), TY (tyA a0 a1 a2 a3 a4 a5 s f0 f1 f2) s c sw sp := by
  obtain ⟨a, b, c, rfl, h1, h2, h3⟩ := sh_three h ht hf
  obtain ⟨a0, a1, a2, a3, a4, a5, rfl, wb⟩ := sh_arr6 h1 u0 u4
  obtain ⟨s, pl, rfl, p1, p2, p3⟩ := sh_pairs h2 u1 u3 u4
  obtain ⟨f0, f1, f2, rfl, g0, g1, g2⟩ := sh_arr3 h3 u2 u4
  exact ⟨a0, a1, a2, a3, a4, a5, s, f0, f1, f2, rfl, made_ty wb p1 p2 p3 g0 g1 g2⟩
end
end R04

namespace R04X
open R04
open Go Go.ChangeShapes Go.WideShapes Go.ChangeAt Go.RowKit Go.Proofs Go.Proofs.Ytncbkgbdpaibmaa
theorem ty0 : Abs.plainT Try.prog 5 81 = true := by kernel_rfl
theorem ty1 : Abs.plainT Try.prog 5 82 = true := by kernel_rfl
theorem ty2 : Abs.plainT Try.prog 5 77 = true := by kernel_rfl
set_option maxRecDepth 100000 in
theorem lifted (os : Os) (started : os.Started) (H : Type) (enc : TypeId × Value → H) :
    ReturnsInHanded {} Try.checked os 15 .any (Rows.letterBlottedSpec.pre6 enc Try.prog Try.f15 Rows.letterBlottedRow.domain false) (Rows.letterBlottedSpec.post enc Try.prog Try.f15 false true false false) := by
  refine returnsInHanded_of_change_sized (C := Try.checked) own started (by kernel_rfl) Try.func15
    (ChangeSpec.witness6 (enc := enc) (C := Try.checked) false ⟨#[], #[.agg #[.int .u8 0, .int .u8 0, .int .u8 0, .int .u8 0, .int .u8 0, .int .u8 0, .slice none 0 0, .int .u8 0, .int .u8 0, .int .u8 0], .slice none 0 0, .agg #[.int .u8 0, .int .u8 0, .int .u8 0, .int .u8 0, .int .u8 0, .int .u8 0]], []⟩ 8 (by kernel_rfl) (by kernel_rfl) (by kernel_rfl) (by kernel_rfl)) ?_
  intro W base args ds gs before hval0 hW hcnd hsz0 _
  have hval : ∀ (j : Nat) t v, Try.f15.params[j]? = some t → args[j]? = some v → Value.okWide Try.prog W .any base t v := hval0
  have hW' := hW
  obtain ⟨p, q, hA0, hV, rfl, hfz, hnd⟩ := hW
  have hA : DataW.TrodAll enc Try.prog W 0 (fun _ => true) true Try.f15.params.toList args.toList ds p := hA0
  rw [Try.params15] at hA hval
  obtain ⟨v0, vs0, d0, ds0, p0, q0, hargs, rfl, rfl, h0, r0⟩ := trodAll_cons hA
  obtain ⟨v1, vs1, d1, ds1, p1, q1, rfl, rfl, rfl, h1, r1⟩ := trodAll_cons r0
  obtain ⟨v2, vs2, d2, ds2, p2, q2, rfl, rfl, rfl, h2, r2⟩ := trodAll_cons r1
  obtain ⟨rfl, rfl, rfl⟩ := trodAll_nil r2
  obtain rfl : args = #[v0, v1, v2] := by cases args; simp_all
  obtain ⟨rfl, rfl⟩ := trodVars_none hV
  have lt0 : ∀ x ∈ p0, x.block < W.heap.size := by obtain ⟨m, hm⟩ := h0; exact DataW.trod_lt m _ _ _ hm
  have lt1 : ∀ x ∈ p1, x.block < W.heap.size := by obtain ⟨m, hm⟩ := h1; exact DataW.trod_lt m _ _ _ hm
  have lt2 : ∀ x ∈ p2, x.block < W.heap.size := by obtain ⟨m, hm⟩ := h2; exact DataW.trod_lt m _ _ _ hm
  obtain ⟨cs0, rfl⟩ := wide_agg (by kernel_rfl) (hval 0 81 v0 rfl rfl)
  obtain ⟨ad1, len1, cap1, rfl⟩ := okWide_slice Try.underlying82 (hval 1 82 v1 rfl rfl)
  obtain ⟨cs2, rfl⟩ := wide_agg (by kernel_rfl) (hval 2 77 v2 rfl rfl)
  obtain ⟨fs0, rep0, sh0⟩ := Abs.open_agg ty0 h0
  obtain ⟨y1, rep1, sh1⟩ := Abs.open_one ty1 (by kernel_rfl) rfl h1
  obtain ⟨fs2, rep2, sh2⟩ := Abs.open_agg ty2 h2
  obtain ⟨a0, a1, a2, a3, a4, a5, s, f0, f1, f2, rfl, c, sw, sp, T⟩ := sh_ty sh0 Try.underlying81 rfl Try.underlying77 Try.underlying78 Try.underlying79 Try.underlying96 Try.underlying5
  obtain ⟨s1, bs, e1, w1, w2, w3⟩ := sh_bytes sh1 Try.underlying82 Try.underlying5
  obtain rfl : y1 = s1 := by simpa using e1
  obtain ⟨g0, g1, g2, g3, g4, g5, rfl, vb⟩ := sh_arr6 sh2 Try.underlying77 Try.underlying5
  have hF := S04.t15 T w1 w2 w3 vb
  have hrun := hF.2 W (fun b => b < W.heap.size) #[.agg cs0, .slice ad1 len1 cap1, .agg cs2] (fun _ h => h) ?_
  · clear hA0 hval0 hsz0
    refine hrun.mono fun e W' ⟨v, F, he, bel, _, hr⟩ => ?_
    subst he
    have hv : v = .bool true := by cases hr; rfl
    subst hv
    exact ⟨_, rfl, _, _, _, [], _, [], hW', trodAll_mk1 (shut_bool Try.underlying4 _), (trodAll_cons_mk (Below.trod laidOut (by kernel_rfl) (of_decide_eq_true (by kernel_rfl)) h0 bel lt0) (trodAll_cons_mk (Below.trod laidOut (by kernel_rfl) (of_decide_eq_true (by kernel_rfl)) h1 bel lt1) (trodAll_cons_mk (Below.trod laidOut (by kernel_rfl) (of_decide_eq_true (by kernel_rfl)) h2 bel lt2) trodAll_mk0))), rfl, bel.frame _, fun h => by cases h⟩
  · refine ⟨rfl, fun j y v hy hv => ?_⟩
    match j with
    | 0 => simp at hy hv; subst hy; subst hv; exact rep0
    | 1 => simp at hy hv; subst hy; subst hv; exact rep1
    | 2 => simp at hy hv; subst hy; subst hv; exact rep2
    | j + 3 => simp at hy
theorem over : Rows.letterBlottedRow.holds Try.pinned (OpenSpec.ofChange Rows.letterBlottedSpec) :=
  OpenClaim.holds_of_wide 15 Try.f15 rfl rfl rfl rfl rfl rfl rfl ⟨rfl, rfl, rfl, rfl, rfl⟩ rfl rfl rfl rfl rfl (by kernel_rfl) Try.func15 (by kernel_rfl)
    (of_decide_eq_true (by kernel_rfl)) (by unfold Func.isWrapper; first | (rw [if_pos (by decide +kernel)]; kernel_rfl) | (rw [if_neg (by decide +kernel)]; exact ⟨rfl, rfl⟩))
    (fun os started H enc _ => lifted os started H enc)
theorem proved : Rows.LetterBlottedSaid := over
end R04X

namespace Go.Proofs.Ytncbkgbdpaibmaa
theorem letterBlotted_holds : Rows.LetterBlottedSaid := R04X.proved
#print axioms letterBlotted_holds
end Go.Proofs.Ytncbkgbdpaibmaa
