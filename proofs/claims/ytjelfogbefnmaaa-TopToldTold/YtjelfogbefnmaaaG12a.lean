/- A part of the proof: G12a. -/
import Derived.Test.YtjelfogbefnmaaaAbsY
import Derived.Test.YtjelfogbefnmaaaC12x0
import Derived.Test.YtjelfogbefnmaaaC12x2
import Derived.Test.YtjelfogbefnmaaaC12x3
set_option linter.unusedVariables false
set_option linter.unusedSimpArgs false
namespace S12
open Go Abs
theorem t57 (s : FV) (xs : List FV) (g : List FV → Option FV) (p : FV → Bool) (hs : lsOf s = some xs) (hx : ∀ x ∈ xs, Elem true 2 x) (hp : ∀ x ∈ xs, g [x] = some (.bool (p x))) (hl : xs.length ≤ 9223372036854775807) :
    Fn Q 57 [.fo s, .fn g] (.one (.fx (.int (idxI p xs 0)))) := by
  refine fn_intro Go.Proofs.Try.func57 rfl (by kernel_rfl) mix (k57 0) (Nat.le_of_ble_eq_true (by kernel_rfl)) ?_
  refine Abs.walk ?_
  unfold c57
  simp -implicitDefEqProofs only [go_sem, simprocAttr, lenV_ls hs]
  refine lpInd (α := List FV × Nat) (m := fun a => a.1.length) (I := fun a σ => xs.drop a.2 = a.1 ∧ a.2 ≤ xs.length ∧ idxI p xs 0 = idxI p a.1 a.2 ∧ σ.ρ 0 = .fv s ∧ σ.ρ 1 = .fn g ∧ σ.ρ 7 = .fv (.int xs.length) ∧ σ.ρ 8 = .fv (.int a.2) ∧ σ.h = h0) (xs, 0) ?_ ?_
  · simp -implicitDefEqProofs only [go_sem, simprocAttr]
    simp
  · rintro ⟨ys, k⟩ ⟨ρ, h⟩ ⟨e1, e2, e3, r0, r1, r7, r8, rfl⟩
    dsimp only at e1 e2 e3 r0 r1 r7 r8
    simp -implicitDefEqProofs only [go_sem, simprocAttr, r0, r1, r7, r8]
    cases ys with
    | nil =>
      have hk : ¬ ((k : Int) < xs.length) := by have := drop_end e1; omega
      simp -implicitDefEqProofs only [go_sem, simprocAttr, r0, r1, r7, r8, hk, e3, idxI]
      exact ret_fv
    | cons x ys =>
      obtain ⟨d1, d2, d3, d4⟩ := drop_tail e1
      have hk : ((k : Int) < xs.length) := by omega
      simp -implicitDefEqProofs only [go_sem, simprocAttr, r0, r1, r7, r8, hk, index_ls hs idx_28 d2 (hx x d4).1, (hx x d4).2]
      refine callG false [x] (by rfl) (hp x d4) (.inl rfl) ?_
      simp -implicitDefEqProofs only [go_sem, simprocAttr, r0, r1, r7, r8]
      refine brW (fun hb => ?_) (fun hb => ?_)
      · simp -implicitDefEqProofs only [go_sem, simprocAttr, r0, r1, r7, r8, e3, idxI, hb]
        exact ret_fv
      · simp -implicitDefEqProofs only [go_sem, simprocAttr, r0, r1, r7, r8]
        refine ⟨(ys, k + 1), Nat.lt_succ_self _, d1, by simp; omega, ?_, ?_, ?_, ?_, ?_, ?_⟩
        · simp [e3, idxI, hb]
        · simp -implicitDefEqProofs only [go_sem, simprocAttr, r0]
        · simp -implicitDefEqProofs only [go_sem, simprocAttr, r1]
        · simp -implicitDefEqProofs only [go_sem, simprocAttr, r7]
        · simp -implicitDefEqProofs only [go_sem, simprocAttr, wr (k + 1) (by omega) (by omega)]; rfl
        · rfl
theorem t58 (s : FV) (xs : List FV) (g : List FV → Option FV) (p : FV → Bool) (hs : lsOf s = some xs) (hx : ∀ x ∈ xs, Elem false 1 x) (hp : ∀ x ∈ xs, g [x] = some (.bool (p x))) (hl : xs.length ≤ 9223372036854775807) :
    Fn Q 58 [.fo s, .fn g] (.one (.fx (.int (idxI p xs 0)))) := by
  refine fn_intro Go.Proofs.Try.func58 rfl (by kernel_rfl) mix (k58 0) (Nat.le_of_ble_eq_true (by kernel_rfl)) ?_
  refine Abs.walk ?_
  unfold c58
  simp -implicitDefEqProofs only [go_sem, simprocAttr, lenV_ls hs]
  refine lpInd (α := List FV × Nat) (m := fun a => a.1.length) (I := fun a σ => xs.drop a.2 = a.1 ∧ a.2 ≤ xs.length ∧ idxI p xs 0 = idxI p a.1 a.2 ∧ σ.ρ 0 = .fv s ∧ σ.ρ 1 = .fn g ∧ σ.ρ 7 = .fv (.int xs.length) ∧ σ.ρ 8 = .fv (.int a.2) ∧ σ.h = h0) (xs, 0) ?_ ?_
  · simp -implicitDefEqProofs only [go_sem, simprocAttr]
    simp
  · rintro ⟨ys, k⟩ ⟨ρ, h⟩ ⟨e1, e2, e3, r0, r1, r7, r8, rfl⟩
    dsimp only at e1 e2 e3 r0 r1 r7 r8
    simp -implicitDefEqProofs only [go_sem, simprocAttr, r0, r1, r7, r8]
    cases ys with
    | nil =>
      have hk : ¬ ((k : Int) < xs.length) := by have := drop_end e1; omega
      simp -implicitDefEqProofs only [go_sem, simprocAttr, r0, r1, r7, r8, hk, e3, idxI]
      exact ret_fv
    | cons x ys =>
      obtain ⟨d1, d2, d3, d4⟩ := drop_tail e1
      have hk : ((k : Int) < xs.length) := by omega
      simp -implicitDefEqProofs only [go_sem, simprocAttr, r0, r1, r7, r8, hk, index_ls hs idx_29 d2 (hx x d4).1, (hx x d4).2]
      refine callG false [x] (by rfl) (hp x d4) (.inl rfl) ?_
      simp -implicitDefEqProofs only [go_sem, simprocAttr, r0, r1, r7, r8]
      refine brW (fun hb => ?_) (fun hb => ?_)
      · simp -implicitDefEqProofs only [go_sem, simprocAttr, r0, r1, r7, r8, e3, idxI, hb]
        exact ret_fv
      · simp -implicitDefEqProofs only [go_sem, simprocAttr, r0, r1, r7, r8]
        refine ⟨(ys, k + 1), Nat.lt_succ_self _, d1, by simp; omega, ?_, ?_, ?_, ?_, ?_, ?_⟩
        · simp [e3, idxI, hb]
        · simp -implicitDefEqProofs only [go_sem, simprocAttr, r0]
        · simp -implicitDefEqProofs only [go_sem, simprocAttr, r1]
        · simp -implicitDefEqProofs only [go_sem, simprocAttr, r7]
        · simp -implicitDefEqProofs only [go_sem, simprocAttr, wr (k + 1) (by omega) (by omega)]; rfl
        · rfl
theorem t66 (s : FV) (xs : List FV) (g : List FV → Option FV) (p : FV → Bool) (hs : lsOf s = some xs) (hx : ∀ x ∈ xs, Elem true 2 x) (hp : ∀ x ∈ xs, g [x] = some (.bool (p x))) (hl : xs.length ≤ 9223372036854775807) :
    Fn Q 66 [.fo s, .fn g] (.one (.fx (.int (idxI p xs 0)))) := by
  refine fn_intro Go.Proofs.Try.func66 rfl (by kernel_rfl) mix (k66 0) (Nat.le_of_ble_eq_true (by kernel_rfl)) ?_
  refine Abs.walk ?_
  unfold c66
  simp -implicitDefEqProofs only [go_sem, simprocAttr, lenV_ls hs]
  refine lpInd (α := List FV × Nat) (m := fun a => a.1.length) (I := fun a σ => xs.drop a.2 = a.1 ∧ a.2 ≤ xs.length ∧ idxI p xs 0 = idxI p a.1 a.2 ∧ σ.ρ 0 = .fv s ∧ σ.ρ 1 = .fn g ∧ σ.ρ 7 = .fv (.int xs.length) ∧ σ.ρ 8 = .fv (.int a.2) ∧ σ.h = h0) (xs, 0) ?_ ?_
  · simp -implicitDefEqProofs only [go_sem, simprocAttr]
    simp
  · rintro ⟨ys, k⟩ ⟨ρ, h⟩ ⟨e1, e2, e3, r0, r1, r7, r8, rfl⟩
    dsimp only at e1 e2 e3 r0 r1 r7 r8
    simp -implicitDefEqProofs only [go_sem, simprocAttr, r0, r1, r7, r8]
    cases ys with
    | nil =>
      have hk : ¬ ((k : Int) < xs.length) := by have := drop_end e1; omega
      simp -implicitDefEqProofs only [go_sem, simprocAttr, r0, r1, r7, r8, hk, e3, idxI]
      exact ret_fv
    | cons x ys =>
      obtain ⟨d1, d2, d3, d4⟩ := drop_tail e1
      have hk : ((k : Int) < xs.length) := by omega
      simp -implicitDefEqProofs only [go_sem, simprocAttr, r0, r1, r7, r8, hk, index_ls hs idx_40 d2 (hx x d4).1, (hx x d4).2]
      refine callG false [x] (by rfl) (hp x d4) (.inl rfl) ?_
      simp -implicitDefEqProofs only [go_sem, simprocAttr, r0, r1, r7, r8]
      refine brW (fun hb => ?_) (fun hb => ?_)
      · simp -implicitDefEqProofs only [go_sem, simprocAttr, r0, r1, r7, r8, e3, idxI, hb]
        exact ret_fv
      · simp -implicitDefEqProofs only [go_sem, simprocAttr, r0, r1, r7, r8]
        refine ⟨(ys, k + 1), Nat.lt_succ_self _, d1, by simp; omega, ?_, ?_, ?_, ?_, ?_, ?_⟩
        · simp [e3, idxI, hb]
        · simp -implicitDefEqProofs only [go_sem, simprocAttr, r0]
        · simp -implicitDefEqProofs only [go_sem, simprocAttr, r1]
        · simp -implicitDefEqProofs only [go_sem, simprocAttr, r7]
        · simp -implicitDefEqProofs only [go_sem, simprocAttr, wr (k + 1) (by omega) (by omega)]; rfl
        · rfl
theorem t69 (s : FV) (xs : List FV) (g : List FV → Option FV) (p : FV → Bool) (hs : lsOf s = some xs) (hx : ∀ x ∈ xs, Elem true 4 x) (hp : ∀ x ∈ xs, g [x] = some (.bool (p x))) (hl : xs.length ≤ 9223372036854775807) :
    Fn Q 69 [.fo s, .fn g] (.one (.fx (.int (idxI p xs 0)))) := by
  refine fn_intro Go.Proofs.Try.func69 rfl (by kernel_rfl) mix (k69 0) (Nat.le_of_ble_eq_true (by kernel_rfl)) ?_
  refine Abs.walk ?_
  unfold c69
  simp -implicitDefEqProofs only [go_sem, simprocAttr, lenV_ls hs]
  refine lpInd (α := List FV × Nat) (m := fun a => a.1.length) (I := fun a σ => xs.drop a.2 = a.1 ∧ a.2 ≤ xs.length ∧ idxI p xs 0 = idxI p a.1 a.2 ∧ σ.ρ 0 = .fv s ∧ σ.ρ 1 = .fn g ∧ σ.ρ 7 = .fv (.int xs.length) ∧ σ.ρ 8 = .fv (.int a.2) ∧ σ.h = h0) (xs, 0) ?_ ?_
  · simp -implicitDefEqProofs only [go_sem, simprocAttr]
    simp
  · rintro ⟨ys, k⟩ ⟨ρ, h⟩ ⟨e1, e2, e3, r0, r1, r7, r8, rfl⟩
    dsimp only at e1 e2 e3 r0 r1 r7 r8
    simp -implicitDefEqProofs only [go_sem, simprocAttr, r0, r1, r7, r8]
    cases ys with
    | nil =>
      have hk : ¬ ((k : Int) < xs.length) := by have := drop_end e1; omega
      simp -implicitDefEqProofs only [go_sem, simprocAttr, r0, r1, r7, r8, hk, e3, idxI]
      exact ret_fv
    | cons x ys =>
      obtain ⟨d1, d2, d3, d4⟩ := drop_tail e1
      have hk : ((k : Int) < xs.length) := by omega
      simp -implicitDefEqProofs only [go_sem, simprocAttr, r0, r1, r7, r8, hk, index_ls hs idx_58 d2 (hx x d4).1, (hx x d4).2]
      refine callG false [x] (by rfl) (hp x d4) (.inl rfl) ?_
      simp -implicitDefEqProofs only [go_sem, simprocAttr, r0, r1, r7, r8]
      refine brW (fun hb => ?_) (fun hb => ?_)
      · simp -implicitDefEqProofs only [go_sem, simprocAttr, r0, r1, r7, r8, e3, idxI, hb]
        exact ret_fv
      · simp -implicitDefEqProofs only [go_sem, simprocAttr, r0, r1, r7, r8]
        refine ⟨(ys, k + 1), Nat.lt_succ_self _, d1, by simp; omega, ?_, ?_, ?_, ?_, ?_, ?_⟩
        · simp [e3, idxI, hb]
        · simp -implicitDefEqProofs only [go_sem, simprocAttr, r0]
        · simp -implicitDefEqProofs only [go_sem, simprocAttr, r1]
        · simp -implicitDefEqProofs only [go_sem, simprocAttr, r7]
        · simp -implicitDefEqProofs only [go_sem, simprocAttr, wr (k + 1) (by omega) (by omega)]; rfl
        · rfl
theorem t73 (s : FV) (xs : List FV) (g : List FV → Option FV) (p : FV → Bool) (hs : lsOf s = some xs) (hx : ∀ x ∈ xs, Elem true 3 x) (hp : ∀ x ∈ xs, g [x] = some (.bool (p x))) (hl : xs.length ≤ 9223372036854775807) :
    Fn Q 73 [.fo s, .fn g] (.one (.fx (.int (idxI p xs 0)))) := by
  refine fn_intro Go.Proofs.Try.func73 rfl (by kernel_rfl) mix (k73 0) (Nat.le_of_ble_eq_true (by kernel_rfl)) ?_
  refine Abs.walk ?_
  unfold c73
  simp -implicitDefEqProofs only [go_sem, simprocAttr, lenV_ls hs]
  refine lpInd (α := List FV × Nat) (m := fun a => a.1.length) (I := fun a σ => xs.drop a.2 = a.1 ∧ a.2 ≤ xs.length ∧ idxI p xs 0 = idxI p a.1 a.2 ∧ σ.ρ 0 = .fv s ∧ σ.ρ 1 = .fn g ∧ σ.ρ 7 = .fv (.int xs.length) ∧ σ.ρ 8 = .fv (.int a.2) ∧ σ.h = h0) (xs, 0) ?_ ?_
  · simp -implicitDefEqProofs only [go_sem, simprocAttr]
    simp
  · rintro ⟨ys, k⟩ ⟨ρ, h⟩ ⟨e1, e2, e3, r0, r1, r7, r8, rfl⟩
    dsimp only at e1 e2 e3 r0 r1 r7 r8
    simp -implicitDefEqProofs only [go_sem, simprocAttr, r0, r1, r7, r8]
    cases ys with
    | nil =>
      have hk : ¬ ((k : Int) < xs.length) := by have := drop_end e1; omega
      simp -implicitDefEqProofs only [go_sem, simprocAttr, r0, r1, r7, r8, hk, e3, idxI]
      exact ret_fv
    | cons x ys =>
      obtain ⟨d1, d2, d3, d4⟩ := drop_tail e1
      have hk : ((k : Int) < xs.length) := by omega
      simp -implicitDefEqProofs only [go_sem, simprocAttr, r0, r1, r7, r8, hk, index_ls hs idx_30 d2 (hx x d4).1, (hx x d4).2]
      refine callG false [x] (by rfl) (hp x d4) (.inl rfl) ?_
      simp -implicitDefEqProofs only [go_sem, simprocAttr, r0, r1, r7, r8]
      refine brW (fun hb => ?_) (fun hb => ?_)
      · simp -implicitDefEqProofs only [go_sem, simprocAttr, r0, r1, r7, r8, e3, idxI, hb]
        exact ret_fv
      · simp -implicitDefEqProofs only [go_sem, simprocAttr, r0, r1, r7, r8]
        refine ⟨(ys, k + 1), Nat.lt_succ_self _, d1, by simp; omega, ?_, ?_, ?_, ?_, ?_, ?_⟩
        · simp [e3, idxI, hb]
        · simp -implicitDefEqProofs only [go_sem, simprocAttr, r0]
        · simp -implicitDefEqProofs only [go_sem, simprocAttr, r1]
        · simp -implicitDefEqProofs only [go_sem, simprocAttr, r7]
        · simp -implicitDefEqProofs only [go_sem, simprocAttr, wr (k + 1) (by omega) (by omega)]; rfl
        · rfl
theorem t74 (s : FV) (xs : List FV) (g : List FV → Option FV) (p : FV → Bool) (hs : lsOf s = some xs) (hx : ∀ x ∈ xs, Elem true 1 x) (hp : ∀ x ∈ xs, g [x] = some (.bool (p x))) (hl : xs.length ≤ 9223372036854775807) :
    Fn Q 74 [.fo s, .fn g] (.one (.fx (.int (idxI p xs 0)))) := by
  refine fn_intro Go.Proofs.Try.func74 rfl (by kernel_rfl) mix (k74 0) (Nat.le_of_ble_eq_true (by kernel_rfl)) ?_
  refine Abs.walk ?_
  unfold c74
  simp -implicitDefEqProofs only [go_sem, simprocAttr, lenV_ls hs]
  refine lpInd (α := List FV × Nat) (m := fun a => a.1.length) (I := fun a σ => xs.drop a.2 = a.1 ∧ a.2 ≤ xs.length ∧ idxI p xs 0 = idxI p a.1 a.2 ∧ σ.ρ 0 = .fv s ∧ σ.ρ 1 = .fn g ∧ σ.ρ 7 = .fv (.int xs.length) ∧ σ.ρ 8 = .fv (.int a.2) ∧ σ.h = h0) (xs, 0) ?_ ?_
  · simp -implicitDefEqProofs only [go_sem, simprocAttr]
    simp
  · rintro ⟨ys, k⟩ ⟨ρ, h⟩ ⟨e1, e2, e3, r0, r1, r7, r8, rfl⟩
    dsimp only at e1 e2 e3 r0 r1 r7 r8
    simp -implicitDefEqProofs only [go_sem, simprocAttr, r0, r1, r7, r8]
    cases ys with
    | nil =>
      have hk : ¬ ((k : Int) < xs.length) := by have := drop_end e1; omega
      simp -implicitDefEqProofs only [go_sem, simprocAttr, r0, r1, r7, r8, hk, e3, idxI]
      exact ret_fv
    | cons x ys =>
      obtain ⟨d1, d2, d3, d4⟩ := drop_tail e1
      have hk : ((k : Int) < xs.length) := by omega
      simp -implicitDefEqProofs only [go_sem, simprocAttr, r0, r1, r7, r8, hk, index_ls hs idx_31 d2 (hx x d4).1, (hx x d4).2]
      refine callG false [x] (by rfl) (hp x d4) (.inl rfl) ?_
      simp -implicitDefEqProofs only [go_sem, simprocAttr, r0, r1, r7, r8]
      refine brW (fun hb => ?_) (fun hb => ?_)
      · simp -implicitDefEqProofs only [go_sem, simprocAttr, r0, r1, r7, r8, e3, idxI, hb]
        exact ret_fv
      · simp -implicitDefEqProofs only [go_sem, simprocAttr, r0, r1, r7, r8]
        refine ⟨(ys, k + 1), Nat.lt_succ_self _, d1, by simp; omega, ?_, ?_, ?_, ?_, ?_, ?_⟩
        · simp [e3, idxI, hb]
        · simp -implicitDefEqProofs only [go_sem, simprocAttr, r0]
        · simp -implicitDefEqProofs only [go_sem, simprocAttr, r1]
        · simp -implicitDefEqProofs only [go_sem, simprocAttr, r7]
        · simp -implicitDefEqProofs only [go_sem, simprocAttr, wr (k + 1) (by omega) (by omega)]; rfl
        · rfl
theorem t75 (s : FV) (xs : List FV) (g : List FV → Option FV) (p : FV → Bool) (hs : lsOf s = some xs) (hx : ∀ x ∈ xs, Elem true 3 x) (hp : ∀ x ∈ xs, g [x] = some (.bool (p x))) (hl : xs.length ≤ 9223372036854775807) :
    Fn Q 75 [.fo s, .fn g] (.one (.fx (.int (idxI p xs 0)))) := by
  refine fn_intro Go.Proofs.Try.func75 rfl (by kernel_rfl) mix (k75 0) (Nat.le_of_ble_eq_true (by kernel_rfl)) ?_
  refine Abs.walk ?_
  unfold c75
  simp -implicitDefEqProofs only [go_sem, simprocAttr, lenV_ls hs]
  refine lpInd (α := List FV × Nat) (m := fun a => a.1.length) (I := fun a σ => xs.drop a.2 = a.1 ∧ a.2 ≤ xs.length ∧ idxI p xs 0 = idxI p a.1 a.2 ∧ σ.ρ 0 = .fv s ∧ σ.ρ 1 = .fn g ∧ σ.ρ 7 = .fv (.int xs.length) ∧ σ.ρ 8 = .fv (.int a.2) ∧ σ.h = h0) (xs, 0) ?_ ?_
  · simp -implicitDefEqProofs only [go_sem, simprocAttr]
    simp
  · rintro ⟨ys, k⟩ ⟨ρ, h⟩ ⟨e1, e2, e3, r0, r1, r7, r8, rfl⟩
    dsimp only at e1 e2 e3 r0 r1 r7 r8
    simp -implicitDefEqProofs only [go_sem, simprocAttr, r0, r1, r7, r8]
    cases ys with
    | nil =>
      have hk : ¬ ((k : Int) < xs.length) := by have := drop_end e1; omega
      simp -implicitDefEqProofs only [go_sem, simprocAttr, r0, r1, r7, r8, hk, e3, idxI]
      exact ret_fv
    | cons x ys =>
      obtain ⟨d1, d2, d3, d4⟩ := drop_tail e1
      have hk : ((k : Int) < xs.length) := by omega
      simp -implicitDefEqProofs only [go_sem, simprocAttr, r0, r1, r7, r8, hk, index_ls hs idx_32 d2 (hx x d4).1, (hx x d4).2]
      refine callG false [x] (by rfl) (hp x d4) (.inl rfl) ?_
      simp -implicitDefEqProofs only [go_sem, simprocAttr, r0, r1, r7, r8]
      refine brW (fun hb => ?_) (fun hb => ?_)
      · simp -implicitDefEqProofs only [go_sem, simprocAttr, r0, r1, r7, r8, e3, idxI, hb]
        exact ret_fv
      · simp -implicitDefEqProofs only [go_sem, simprocAttr, r0, r1, r7, r8]
        refine ⟨(ys, k + 1), Nat.lt_succ_self _, d1, by simp; omega, ?_, ?_, ?_, ?_, ?_, ?_⟩
        · simp [e3, idxI, hb]
        · simp -implicitDefEqProofs only [go_sem, simprocAttr, r0]
        · simp -implicitDefEqProofs only [go_sem, simprocAttr, r1]
        · simp -implicitDefEqProofs only [go_sem, simprocAttr, r7]
        · simp -implicitDefEqProofs only [go_sem, simprocAttr, wr (k + 1) (by omega) (by omega)]; rfl
        · rfl
theorem t78 (s : FV) (xs : List FV) (g : List FV → Option FV) (p : FV → Bool) (hs : lsOf s = some xs) (hx : ∀ x ∈ xs, Elem true 5 x) (hp : ∀ x ∈ xs, g [x] = some (.bool (p x))) (hl : xs.length ≤ 9223372036854775807) :
    Fn Q 78 [.fo s, .fn g] (.one (.fx (.int (idxI p xs 0)))) := by
  refine fn_intro Go.Proofs.Try.func78 rfl (by kernel_rfl) mix (k78 0) (Nat.le_of_ble_eq_true (by kernel_rfl)) ?_
  refine Abs.walk ?_
  unfold c78
  simp -implicitDefEqProofs only [go_sem, simprocAttr, lenV_ls hs]
  refine lpInd (α := List FV × Nat) (m := fun a => a.1.length) (I := fun a σ => xs.drop a.2 = a.1 ∧ a.2 ≤ xs.length ∧ idxI p xs 0 = idxI p a.1 a.2 ∧ σ.ρ 0 = .fv s ∧ σ.ρ 1 = .fn g ∧ σ.ρ 7 = .fv (.int xs.length) ∧ σ.ρ 8 = .fv (.int a.2) ∧ σ.h = h0) (xs, 0) ?_ ?_
  · simp -implicitDefEqProofs only [go_sem, simprocAttr]
    simp
  · rintro ⟨ys, k⟩ ⟨ρ, h⟩ ⟨e1, e2, e3, r0, r1, r7, r8, rfl⟩
    dsimp only at e1 e2 e3 r0 r1 r7 r8
    simp -implicitDefEqProofs only [go_sem, simprocAttr, r0, r1, r7, r8]
    cases ys with
    | nil =>
      have hk : ¬ ((k : Int) < xs.length) := by have := drop_end e1; omega
      simp -implicitDefEqProofs only [go_sem, simprocAttr, r0, r1, r7, r8, hk, e3, idxI]
      exact ret_fv
    | cons x ys =>
      obtain ⟨d1, d2, d3, d4⟩ := drop_tail e1
      have hk : ((k : Int) < xs.length) := by omega
      simp -implicitDefEqProofs only [go_sem, simprocAttr, r0, r1, r7, r8, hk, index_ls hs idx_25 d2 (hx x d4).1, (hx x d4).2]
      refine callG false [x] (by rfl) (hp x d4) (.inl rfl) ?_
      simp -implicitDefEqProofs only [go_sem, simprocAttr, r0, r1, r7, r8]
      refine brW (fun hb => ?_) (fun hb => ?_)
      · simp -implicitDefEqProofs only [go_sem, simprocAttr, r0, r1, r7, r8, e3, idxI, hb]
        exact ret_fv
      · simp -implicitDefEqProofs only [go_sem, simprocAttr, r0, r1, r7, r8]
        refine ⟨(ys, k + 1), Nat.lt_succ_self _, d1, by simp; omega, ?_, ?_, ?_, ?_, ?_, ?_⟩
        · simp [e3, idxI, hb]
        · simp -implicitDefEqProofs only [go_sem, simprocAttr, r0]
        · simp -implicitDefEqProofs only [go_sem, simprocAttr, r1]
        · simp -implicitDefEqProofs only [go_sem, simprocAttr, r7]
        · simp -implicitDefEqProofs only [go_sem, simprocAttr, wr (k + 1) (by omega) (by omega)]; rfl
        · rfl
theorem t38 (s : FV) (xs : List FV) (g : List FV → Option FV) (p : FV → Bool) (hs : lsOf s = some xs) (hx : ∀ x ∈ xs, Elem true 2 x) (hp : ∀ x ∈ xs, g [x] = some (.bool (p x))) (hl : xs.length ≤ 9223372036854775807) :
    Fn Q 38 [.fo s, .fn g] (.one (.fx (.bool (xs.any p)))) := by
  refine fn_intro Go.Proofs.Try.func38 rfl (by kernel_rfl) mix (k38 0) (Nat.le_of_ble_eq_true (by kernel_rfl)) ?_
  refine Abs.walk ?_
  unfold c38
  simp -implicitDefEqProofs only [go_sem, simprocAttr]
  refine callF [] false [.fo s, .fn g] [] (t57 s xs g p hs hx hp hl) ⟨rfl, .inl rfl, trivial⟩ rfl (.inl rfl) ?_
  simp -implicitDefEqProofs only [go_sem, simprocAttr, idxI_any p xs 0 (Int.le_refl 0)]
  exact ret_fv
theorem t40 (s : FV) (xs : List FV) (g : List FV → Option FV) (p : FV → Bool) (hs : lsOf s = some xs) (hx : ∀ x ∈ xs, Elem false 1 x) (hp : ∀ x ∈ xs, g [x] = some (.bool (p x))) (hl : xs.length ≤ 9223372036854775807) :
    Fn Q 40 [.fo s, .fn g] (.one (.fx (.bool (xs.any p)))) := by
  refine fn_intro Go.Proofs.Try.func40 rfl (by kernel_rfl) mix (k40 0) (Nat.le_of_ble_eq_true (by kernel_rfl)) ?_
  refine Abs.walk ?_
  unfold c40
  simp -implicitDefEqProofs only [go_sem, simprocAttr]
  refine callF [] false [.fo s, .fn g] [] (t58 s xs g p hs hx hp hl) ⟨rfl, .inl rfl, trivial⟩ rfl (.inl rfl) ?_
  simp -implicitDefEqProofs only [go_sem, simprocAttr, idxI_any p xs 0 (Int.le_refl 0)]
  exact ret_fv
theorem t43 (s : FV) (xs : List FV) (g : List FV → Option FV) (p : FV → Bool) (hs : lsOf s = some xs) (hx : ∀ x ∈ xs, Elem true 2 x) (hp : ∀ x ∈ xs, g [x] = some (.bool (p x))) (hl : xs.length ≤ 9223372036854775807) :
    Fn Q 43 [.fo s, .fn g] (.one (.fx (.bool (xs.any p)))) := by
  refine fn_intro Go.Proofs.Try.func43 rfl (by kernel_rfl) mix (k43 0) (Nat.le_of_ble_eq_true (by kernel_rfl)) ?_
  refine Abs.walk ?_
  unfold c43
  simp -implicitDefEqProofs only [go_sem, simprocAttr]
  refine callF [] false [.fo s, .fn g] [] (t66 s xs g p hs hx hp hl) ⟨rfl, .inl rfl, trivial⟩ rfl (.inl rfl) ?_
  simp -implicitDefEqProofs only [go_sem, simprocAttr, idxI_any p xs 0 (Int.le_refl 0)]
  exact ret_fv
theorem t54 (s : FV) (xs : List FV) (g : List FV → Option FV) (p : FV → Bool) (hs : lsOf s = some xs) (hx : ∀ x ∈ xs, Elem true 4 x) (hp : ∀ x ∈ xs, g [x] = some (.bool (p x))) (hl : xs.length ≤ 9223372036854775807) :
    Fn Q 54 [.fo s, .fn g] (.one (.fx (.bool (xs.any p)))) := by
  refine fn_intro Go.Proofs.Try.func54 rfl (by kernel_rfl) mix (k54 0) (Nat.le_of_ble_eq_true (by kernel_rfl)) ?_
  refine Abs.walk ?_
  unfold c54
  simp -implicitDefEqProofs only [go_sem, simprocAttr]
  refine callF [] false [.fo s, .fn g] [] (t69 s xs g p hs hx hp hl) ⟨rfl, .inl rfl, trivial⟩ rfl (.inl rfl) ?_
  simp -implicitDefEqProofs only [go_sem, simprocAttr, idxI_any p xs 0 (Int.le_refl 0)]
  exact ret_fv
theorem t63 (s : FV) (xs : List FV) (g : List FV → Option FV) (p : FV → Bool) (hs : lsOf s = some xs) (hx : ∀ x ∈ xs, Elem true 3 x) (hp : ∀ x ∈ xs, g [x] = some (.bool (p x))) (hl : xs.length ≤ 9223372036854775807) :
    Fn Q 63 [.fo s, .fn g] (.one (.fx (.bool (xs.any p)))) := by
  refine fn_intro Go.Proofs.Try.func63 rfl (by kernel_rfl) mix (k63 0) (Nat.le_of_ble_eq_true (by kernel_rfl)) ?_
  refine Abs.walk ?_
  unfold c63
  simp -implicitDefEqProofs only [go_sem, simprocAttr]
  refine callF [] false [.fo s, .fn g] [] (t73 s xs g p hs hx hp hl) ⟨rfl, .inl rfl, trivial⟩ rfl (.inl rfl) ?_
  simp -implicitDefEqProofs only [go_sem, simprocAttr, idxI_any p xs 0 (Int.le_refl 0)]
  exact ret_fv
theorem t64 (s : FV) (xs : List FV) (g : List FV → Option FV) (p : FV → Bool) (hs : lsOf s = some xs) (hx : ∀ x ∈ xs, Elem true 1 x) (hp : ∀ x ∈ xs, g [x] = some (.bool (p x))) (hl : xs.length ≤ 9223372036854775807) :
    Fn Q 64 [.fo s, .fn g] (.one (.fx (.bool (xs.any p)))) := by
  refine fn_intro Go.Proofs.Try.func64 rfl (by kernel_rfl) mix (k64 0) (Nat.le_of_ble_eq_true (by kernel_rfl)) ?_
  refine Abs.walk ?_
  unfold c64
  simp -implicitDefEqProofs only [go_sem, simprocAttr]
  refine callF [] false [.fo s, .fn g] [] (t74 s xs g p hs hx hp hl) ⟨rfl, .inl rfl, trivial⟩ rfl (.inl rfl) ?_
  simp -implicitDefEqProofs only [go_sem, simprocAttr, idxI_any p xs 0 (Int.le_refl 0)]
  exact ret_fv
theorem t65 (s : FV) (xs : List FV) (g : List FV → Option FV) (p : FV → Bool) (hs : lsOf s = some xs) (hx : ∀ x ∈ xs, Elem true 3 x) (hp : ∀ x ∈ xs, g [x] = some (.bool (p x))) (hl : xs.length ≤ 9223372036854775807) :
    Fn Q 65 [.fo s, .fn g] (.one (.fx (.bool (xs.any p)))) := by
  refine fn_intro Go.Proofs.Try.func65 rfl (by kernel_rfl) mix (k65 0) (Nat.le_of_ble_eq_true (by kernel_rfl)) ?_
  refine Abs.walk ?_
  unfold c65
  simp -implicitDefEqProofs only [go_sem, simprocAttr]
  refine callF [] false [.fo s, .fn g] [] (t75 s xs g p hs hx hp hl) ⟨rfl, .inl rfl, trivial⟩ rfl (.inl rfl) ?_
  simp -implicitDefEqProofs only [go_sem, simprocAttr, idxI_any p xs 0 (Int.le_refl 0)]
  exact ret_fv
theorem t72 (s : FV) (xs : List FV) (g : List FV → Option FV) (p : FV → Bool) (hs : lsOf s = some xs) (hx : ∀ x ∈ xs, Elem true 5 x) (hp : ∀ x ∈ xs, g [x] = some (.bool (p x))) (hl : xs.length ≤ 9223372036854775807) :
    Fn Q 72 [.fo s, .fn g] (.one (.fx (.bool (xs.any p)))) := by
  refine fn_intro Go.Proofs.Try.func72 rfl (by kernel_rfl) mix (k72 0) (Nat.le_of_ble_eq_true (by kernel_rfl)) ?_
  refine Abs.walk ?_
  unfold c72
  simp -implicitDefEqProofs only [go_sem, simprocAttr]
  refine callF [] false [.fo s, .fn g] [] (t78 s xs g p hs hx hp hl) ⟨rfl, .inl rfl, trivial⟩ rfl (.inl rfl) ?_
  simp -implicitDefEqProofs only [go_sem, simprocAttr, idxI_any p xs 0 (Int.le_refl 0)]
  exact ret_fv

end S12

