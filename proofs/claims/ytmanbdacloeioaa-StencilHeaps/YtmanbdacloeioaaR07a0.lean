/- A part of the proof: R07a0, R07b, R07d. -/
import Derived.Test.YtmanbdacloeioaaAbsK
import Derived.Test.YtmanbdacloeioaaH07a
import Derived.Test.YtmanbdacloeioaaRows
import Derived.Test.YtmanbdacloeioaaG07v
set_option linter.unusedVariables false
set_option linter.unusedSimpArgs false
namespace R07
open Go Go.ChangeShapes Go.WideShapes Go.ChangeAt Go.RowKit Go.Proofs Go.Proofs.Ytmanbdacloeioaa
open Abs (FV Sh ShA ShF lsOf aggB)
open S07 (u8)
theorem own : ownKnob Try.prog.godebug = none := by kernel_rfl
theorem laidOut : laidOutB Try.prog = true := by kernel_rfl
section
variable {P : Program}
theorem list_map {α : Type} {G : FV → α → Prop} (f : α → FV) : ∀ (xs : List FV), (∀ y ∈ xs, ∃ a, G y a ∧ y = f a) → ∃ as_ : List α, xs = as_.map f ∧ ∀ a ∈ as_, ∃ y, G y a
  | [], _ => ⟨[], rfl, by simp⟩
  | x :: xs, h => by
    obtain ⟨as_, h1, h2⟩ := list_map f xs fun y hy => h y (by simp [hy])
    obtain ⟨a, h3, h4⟩ := h x (by simp)
    refine ⟨a :: as_, by rw [List.map_cons, ← h1, ← h4], ?_⟩
    intro b hb
    rcases List.mem_cons.1 hb with rfl | hb
    · exact ⟨x, h3⟩
    · exact h2 b hb
end
section
variable {H : Type} {enc : TypeId × Value → H} {W : World}
theorem wide_agg {P : Program} {t : Nat} {r : Reach} {base : Nat} {v : Value} (ht : Abs.aggB P t = true) (hv : Value.okWide P W r base t v) : ∃ cs, v = .agg cs := by
  unfold Value.okWide at hv
  unfold Abs.aggB at ht
  split at ht
  · rename_i fl e; rw [e] at hv; obtain ⟨cs, rfl, _⟩ := hv; exact ⟨cs, rfl⟩
  · rename_i m e' e; rw [e] at hv; obtain ⟨cs, rfl, _⟩ := hv; exact ⟨cs, rfl⟩
  · simp at ht
end
end R07

namespace R07
open Go
open Abs (FV Sh ShA ShF lsOf aggB)
open S07 (u8)
section
variable {P : Program}
end
end R07

namespace R07
open Go
open Abs (FV Sh ShA ShF lsOf aggB ints pF)
open S07 (I64 SetV)
section
variable {P : Program}
theorem sh_int {n t : Nat} {fs : List FV} (h : Sh P (n + 1) t fs) (ht : P.underlying t = some (.int .i64)) : ∃ z, fs = [.int z] ∧ I64 z := by
  unfold Sh at h
  rw [ht] at h
  obtain ⟨z, h1, h2⟩ := h
  simp [Lit.wf, IntKind.min, IntKind.max, IntKind.signed, IntKind.bits] at h2
  exact ⟨z, h1, by unfold I64; omega⟩
theorem sh_ints {n t e : Nat} {fs : List FV} (h : Sh P (n + 2) t fs) (ht : P.underlying t = some (.slice e)) (he : P.underlying e = some (.int .i64)) : ∃ (s : FV) (zs : List Int), fs = [s] ∧ lsOf s = some (ints zs) ∧ (∀ z ∈ zs, I64 z) ∧ zs.length ≤ 9223372036854775807 := by
  unfold Sh at h
  rw [ht] at h
  obtain ⟨s, xs, rfl, h1, h2, h3⟩ := h
  obtain ⟨zs, rfl, h4⟩ := list_map (G := fun _ (z : Int) => I64 z) FV.int xs (by
    intro y hy
    obtain ⟨cs, rfl, h5⟩ := h3 y hy
    obtain ⟨z, rfl, z0⟩ := sh_int h5 he
    refine ⟨z, z0, ?_⟩
    have : aggB P e = false := by unfold aggB; rw [he]
    rw [this]; rfl)
  exact ⟨s, zs, rfl, h1, fun z hz => (h4 z hz).choose_spec, by simpa using h2⟩
theorem fl2 {fl : Array Field} {t0 t1 : Nat} (hf : fl.toList.map (·.type) = [t0, t1]) : ∃ f0 f1, fl.toList = [f0, f1] ∧ f0.type = t0 ∧ f1.type = t1 := by
  match h : fl.toList, hf with
  | [f0, f1], hf => simp at hf; exact ⟨f0, f1, rfl, hf.1, hf.2⟩
theorem sh_two {n t t0 t1 : Nat} {fl : Array Field} {fs : List FV} (h : Sh P (n + 1) t fs) (ht : P.underlying t = some (.struct fl)) (hf : fl.toList.map (·.type) = [t0, t1]) : ∃ a b, fs = a ++ b ∧ Sh P n t0 a ∧ Sh P n t1 b := by
  unfold Sh at h
  rw [ht] at h
  obtain ⟨f0, f1, hl, g0, g1⟩ := fl2 hf
  dsimp only at h
  rw [hl] at h
  obtain ⟨a, b, rfl, h1, c, d, rfl, h2, rfl⟩ := h
  rw [g0] at h1; rw [g1] at h2
  exact ⟨a, c, by simp, h1, h2⟩
theorem sh_three {n t t0 t1 t2 : Nat} {fl : Array Field} {fs : List FV} (h : Sh P (n + 1) t fs) (ht : P.underlying t = some (.struct fl)) (hf : fl.toList.map (·.type) = [t0, t1, t2]) : ∃ a b c, fs = a ++ (b ++ c) ∧ Sh P n t0 a ∧ Sh P n t1 b ∧ Sh P n t2 c := by
  unfold Sh at h
  rw [ht] at h
  obtain ⟨f0, f1, f2, hl, g0, g1, g2⟩ : ∃ f0 f1 f2, fl.toList = [f0, f1, f2] ∧ f0.type = t0 ∧ f1.type = t1 ∧ f2.type = t2 := by
    match h : fl.toList, hf with
    | [f0, f1, f2], hf => simp at hf; exact ⟨f0, f1, f2, rfl, hf.1, hf.2.1, hf.2.2⟩
  dsimp only at h
  rw [hl] at h
  obtain ⟨a, b, rfl, h1, c, d, rfl, h2, e, f, rfl, h3, rfl⟩ := h
  rw [g0] at h1; rw [g1] at h2; rw [g2] at h3
  exact ⟨a, c, e, by simp, h1, h2, h3⟩
theorem sh_prs {n t e e' : Nat} {fl : Array Field} {fs : List FV} (h : Sh P (n + 3) t fs) (ht : P.underlying t = some (.slice e)) (he : P.underlying e = some (.struct fl)) (hf : fl.toList.map (·.type) = [e', e']) (he' : P.underlying e' = some (.int .i64)) : ∃ (s : FV) (ps : List (Int × Int)), fs = [s] ∧ lsOf s = some (ps.map pF) ∧ (∀ p ∈ ps, I64 p.1 ∧ I64 p.2) ∧ ps.length ≤ 9223372036854775807 := by
  unfold Sh at h
  rw [ht] at h
  obtain ⟨s, xs, rfl, h1, h2, h3⟩ := h
  obtain ⟨ps, rfl, h4⟩ := list_map (G := fun _ (p : Int × Int) => I64 p.1 ∧ I64 p.2) pF xs (by
    intro y hy
    obtain ⟨cs, rfl, h5⟩ := h3 y hy
    obtain ⟨a, b, rfl, ha, hb⟩ := sh_two h5 he hf
    obtain ⟨x, rfl, hx⟩ := sh_int ha he'
    obtain ⟨z, rfl, hz⟩ := sh_int hb he'
    refine ⟨(x, z), ⟨hx, hz⟩, ?_⟩
    have : aggB P e = true := by unfold aggB; rw [he]
    rw [this]; rfl)
  exact ⟨s, ps, rfl, h1, fun p hp => (h4 p hp).choose_spec, by simpa using h2⟩
theorem sh_set {t t0 t1 e1 : Nat} {fl fl1 : Array Field} {fs : List FV} (h : Sh P 5 t fs) (ht : P.underlying t = some (.struct fl)) (hf : fl.toList.map (·.type) = [t0, t1, t1]) (u0 : P.underlying t0 = some (.int .i64)) (u1 : P.underlying t1 = some (.slice e1)) (u2 : P.underlying e1 = some (.struct fl1)) (hf1 : fl1.toList.map (·.type) = [t0, t0]) :
    ∃ (N : Int) (hs al : FV) (H A : List (Int × Int)), fs = [.int N, hs, al] ∧ SetV (.agg [.int N, hs, al]) N hs al H A ∧ I64 N := by
  obtain ⟨a, b, c, rfl, h1, h2, h3⟩ := sh_three h ht hf
  obtain ⟨N, rfl, hN⟩ := sh_int h1 u0
  obtain ⟨hs, H, rfl, q1, _, q2⟩ := sh_prs h2 u1 u2 hf1 u0
  obtain ⟨al, A, rfl, q3, _, q4⟩ := sh_prs h3 u1 u2 hf1 u0
  exact ⟨N, hs, al, H, A, rfl, ⟨rfl, q1, q3, q2, q4⟩, hN⟩
theorem sh_lists {n t e e' : Nat} {fs : List FV} (h : Sh P (n + 3) t fs) (ht : P.underlying t = some (.slice e)) (he : P.underlying e = some (.slice e')) (he' : P.underlying e' = some (.int .i64)) :
    ∃ (s : FV) (W : List (List Int)), fs = [s] ∧ Abs.Lists s W ∧ (∀ l ∈ W, ∀ n ∈ l, I64 n) ∧ W.length ≤ 9223372036854775807 := by
  unfold Sh at h
  rw [ht] at h
  obtain ⟨s, xs, rfl, h1, h2, h3⟩ := h
  have key : ∀ y ∈ xs, ∃ l : List Int, lsOf y = some (ints l) ∧ (∀ n ∈ l, I64 n) ∧ l.length ≤ 9223372036854775807 := by
    intro y hy
    obtain ⟨cs, rfl, h5⟩ := h3 y hy
    obtain ⟨s', zs, rfl, g1, g2, g3⟩ := sh_ints h5 he he'
    have : aggB P e = false := by unfold aggB; rw [he]
    rw [this]
    exact ⟨zs, g1, g2, g3⟩
  refine ⟨s, xs.map FV.toL, rfl, ⟨xs, h1, rfl, fun y hy => by obtain ⟨l, g1, _, g3⟩ := key y hy; exact ⟨l, g1, g3⟩⟩, ?_, by simpa using h2⟩
  intro l hl
  obtain ⟨y, hy, rfl⟩ := List.mem_map.1 hl
  obtain ⟨l', g1, g2, _⟩ := key y hy
  rw [Abs.toL_ls g1]; exact g2
end
end R07

