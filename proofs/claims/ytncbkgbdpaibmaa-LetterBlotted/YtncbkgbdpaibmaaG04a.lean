/- A part of the proof: G04a, G04b, G04c, G04d. -/
import Derived.Test.YtncbkgbdpaibmaaAbsI
import Derived.Test.YtncbkgbdpaibmaaC04r0
set_option linter.unusedVariables false
set_option linter.unusedSimpArgs false
set_option maxRecDepth 20000
namespace S04
open Go Abs
theorem t109 (s : FV) (xs : List FV) (g : List FV → Option FV) (p : FV → Bool) (hs : lsOf s = some xs) (hx : ∀ x ∈ xs, Elem true 3 x) (hp : ∀ x ∈ xs, g [x] = some (.bool (p x))) (hl : xs.length ≤ 9223372036854775807) :
    Fn Q 109 [.fo s, .fn g] (.one (.fx (.int (idxI p xs 0)))) := by
  refine w109 ?_
  dsimp only [c109, sop, gop, nop, qmv, qsg, qex, qld, qcl, qln, qix, qbo, qt, qi]
  simp -implicitDefEqProofs only [go_sem, simprocAttr, lenV_ls hs]
  refine lpInd (α := List FV × Nat) (m := fun a => a.1.length) (I := fun a σ => xs.drop a.2 = a.1 ∧ a.2 ≤ xs.length ∧ idxI p xs 0 = idxI p a.1 a.2 ∧ σ.ρ 0 = .fv s ∧ σ.ρ 1 = .fn g ∧ σ.ρ 7 = .fv (.int xs.length) ∧ σ.ρ 8 = .fv (.int a.2) ∧ σ.h = h0) (xs, 0) ?_ ?_
  · simp -implicitDefEqProofs only [go_sem, simprocAttr]
    simp
  · rintro ⟨ys, k⟩ ⟨ρ, h⟩ ⟨e1, e2, e3, r0, r1, r7, r8, rfl⟩
    dsimp only at e1 e2 e3 r0 r1 r7 r8
    simp -implicitDefEqProofs only [go_sem, simprocAttr, r0, r1, r7, r8]
    cases ys with
    | nil =>
      have hk : ¬ ((k : Int) < xs.length) := by have := drop_end e1; omega
      simp -implicitDefEqProofs only [go_sem, simprocAttr, r0, r1, r7, r8, hk, e3, idxI]
      exact ret_fv
    | cons x ys =>
      obtain ⟨d1, d2, d3, d4⟩ := drop_tail e1
      have hk : ((k : Int) < xs.length) := by omega
      simp -implicitDefEqProofs only [go_sem, simprocAttr, r0, r1, r7, r8, hk, index_ls hs idx_23 d2 (hx x d4).1, (hx x d4).2]
      refine callG false [x] (by rfl) (hp x d4) (.inl rfl) ?_
      simp -implicitDefEqProofs only [go_sem, simprocAttr, r0, r1, r7, r8]
      refine brW (fun hb => ?_) (fun hb => ?_)
      · simp -implicitDefEqProofs only [go_sem, simprocAttr, r0, r1, r7, r8, e3, idxI, hb]
        exact ret_fv
      · simp -implicitDefEqProofs only [go_sem, simprocAttr, r0, r1, r7, r8]
        refine ⟨(ys, k + 1), Nat.lt_succ_self _, d1, by simp; omega, ?_, ?_, ?_, ?_, ?_, ?_⟩
        · simp [e3, idxI, hb]
        · simp -implicitDefEqProofs only [go_sem, simprocAttr, r0]
        · simp -implicitDefEqProofs only [go_sem, simprocAttr, r1]
        · simp -implicitDefEqProofs only [go_sem, simprocAttr, r7]
        · simp -implicitDefEqProofs only [go_sem, simprocAttr, wr (k + 1) (by omega) (by omega)]; rfl
        · rfl
theorem t120 (s : FV) (xs : List FV) (g : List FV → Option FV) (p : FV → Bool) (hs : lsOf s = some xs) (hx : ∀ x ∈ xs, Elem false 1 x) (hp : ∀ x ∈ xs, g [x] = some (.bool (p x))) (hl : xs.length ≤ 9223372036854775807) :
    Fn Q 120 [.fo s, .fn g] (.one (.fx (.int (idxI p xs 0)))) := by
  refine w120 ?_
  dsimp only [c120, sop, gop, nop, qmv, qsg, qex, qld, qcl, qln, qix, qbo, qt, qi]
  simp -implicitDefEqProofs only [go_sem, simprocAttr, lenV_ls hs]
  refine lpInd (α := List FV × Nat) (m := fun a => a.1.length) (I := fun a σ => xs.drop a.2 = a.1 ∧ a.2 ≤ xs.length ∧ idxI p xs 0 = idxI p a.1 a.2 ∧ σ.ρ 0 = .fv s ∧ σ.ρ 1 = .fn g ∧ σ.ρ 7 = .fv (.int xs.length) ∧ σ.ρ 8 = .fv (.int a.2) ∧ σ.h = h0) (xs, 0) ?_ ?_
  · simp -implicitDefEqProofs only [go_sem, simprocAttr]
    simp
  · rintro ⟨ys, k⟩ ⟨ρ, h⟩ ⟨e1, e2, e3, r0, r1, r7, r8, rfl⟩
    dsimp only at e1 e2 e3 r0 r1 r7 r8
    simp -implicitDefEqProofs only [go_sem, simprocAttr, r0, r1, r7, r8]
    cases ys with
    | nil =>
      have hk : ¬ ((k : Int) < xs.length) := by have := drop_end e1; omega
      simp -implicitDefEqProofs only [go_sem, simprocAttr, r0, r1, r7, r8, hk, e3, idxI]
      exact ret_fv
    | cons x ys =>
      obtain ⟨d1, d2, d3, d4⟩ := drop_tail e1
      have hk : ((k : Int) < xs.length) := by omega
      simp -implicitDefEqProofs only [go_sem, simprocAttr, r0, r1, r7, r8, hk, index_ls hs idx_56 d2 (hx x d4).1, (hx x d4).2]
      refine callG false [x] (by rfl) (hp x d4) (.inl rfl) ?_
      simp -implicitDefEqProofs only [go_sem, simprocAttr, r0, r1, r7, r8]
      refine brW (fun hb => ?_) (fun hb => ?_)
      · simp -implicitDefEqProofs only [go_sem, simprocAttr, r0, r1, r7, r8, e3, idxI, hb]
        exact ret_fv
      · simp -implicitDefEqProofs only [go_sem, simprocAttr, r0, r1, r7, r8]
        refine ⟨(ys, k + 1), Nat.lt_succ_self _, d1, by simp; omega, ?_, ?_, ?_, ?_, ?_, ?_⟩
        · simp [e3, idxI, hb]
        · simp -implicitDefEqProofs only [go_sem, simprocAttr, r0]
        · simp -implicitDefEqProofs only [go_sem, simprocAttr, r1]
        · simp -implicitDefEqProofs only [go_sem, simprocAttr, r7]
        · simp -implicitDefEqProofs only [go_sem, simprocAttr, wr (k + 1) (by omega) (by omega)]; rfl
        · rfl
theorem t126 (s : FV) (xs : List FV) (g : List FV → Option FV) (p : FV → Bool) (hs : lsOf s = some xs) (hx : ∀ x ∈ xs, Elem false 1 x) (hp : ∀ x ∈ xs, g [x] = some (.bool (p x))) (hl : xs.length ≤ 9223372036854775807) :
    Fn Q 126 [.fo s, .fn g] (.one (.fx (.int (idxI p xs 0)))) := by
  refine w126 ?_
  dsimp only [c126, sop, gop, nop, qmv, qsg, qex, qld, qcl, qln, qix, qbo, qt, qi]
  simp -implicitDefEqProofs only [go_sem, simprocAttr, lenV_ls hs]
  refine lpInd (α := List FV × Nat) (m := fun a => a.1.length) (I := fun a σ => xs.drop a.2 = a.1 ∧ a.2 ≤ xs.length ∧ idxI p xs 0 = idxI p a.1 a.2 ∧ σ.ρ 0 = .fv s ∧ σ.ρ 1 = .fn g ∧ σ.ρ 7 = .fv (.int xs.length) ∧ σ.ρ 8 = .fv (.int a.2) ∧ σ.h = h0) (xs, 0) ?_ ?_
  · simp -implicitDefEqProofs only [go_sem, simprocAttr]
    simp
  · rintro ⟨ys, k⟩ ⟨ρ, h⟩ ⟨e1, e2, e3, r0, r1, r7, r8, rfl⟩
    dsimp only at e1 e2 e3 r0 r1 r7 r8
    simp -implicitDefEqProofs only [go_sem, simprocAttr, r0, r1, r7, r8]
    cases ys with
    | nil =>
      have hk : ¬ ((k : Int) < xs.length) := by have := drop_end e1; omega
      simp -implicitDefEqProofs only [go_sem, simprocAttr, r0, r1, r7, r8, hk, e3, idxI]
      exact ret_fv
    | cons x ys =>
      obtain ⟨d1, d2, d3, d4⟩ := drop_tail e1
      have hk : ((k : Int) < xs.length) := by omega
      simp -implicitDefEqProofs only [go_sem, simprocAttr, r0, r1, r7, r8, hk, index_ls hs idx_22 d2 (hx x d4).1, (hx x d4).2]
      refine callG false [x] (by rfl) (hp x d4) (.inl rfl) ?_
      simp -implicitDefEqProofs only [go_sem, simprocAttr, r0, r1, r7, r8]
      refine brW (fun hb => ?_) (fun hb => ?_)
      · simp -implicitDefEqProofs only [go_sem, simprocAttr, r0, r1, r7, r8, e3, idxI, hb]
        exact ret_fv
      · simp -implicitDefEqProofs only [go_sem, simprocAttr, r0, r1, r7, r8]
        refine ⟨(ys, k + 1), Nat.lt_succ_self _, d1, by simp; omega, ?_, ?_, ?_, ?_, ?_, ?_⟩
        · simp [e3, idxI, hb]
        · simp -implicitDefEqProofs only [go_sem, simprocAttr, r0]
        · simp -implicitDefEqProofs only [go_sem, simprocAttr, r1]
        · simp -implicitDefEqProofs only [go_sem, simprocAttr, r7]
        · simp -implicitDefEqProofs only [go_sem, simprocAttr, wr (k + 1) (by omega) (by omega)]; rfl
        · rfl
theorem t71 (s : FV) (xs : List FV) (g : List FV → Option FV) (p : FV → Bool) (hs : lsOf s = some xs) (hx : ∀ x ∈ xs, Elem true 3 x) (hp : ∀ x ∈ xs, g [x] = some (.bool (p x))) (hl : xs.length ≤ 9223372036854775807) :
    Fn Q 71 [.fo s, .fn g] (.one (.fx (.bool (xs.any p)))) := by
  refine w71 ?_
  dsimp only [c71, sop, gop, nop, qmv, qsg, qex, qld, qcl, qln, qix, qbo, qt, qi]
  simp -implicitDefEqProofs only [go_sem, simprocAttr]
  refine callF [] false [.fo s, .fn g] [] (t109 s xs g p hs hx hp hl) ⟨rfl, .inl rfl, trivial⟩ rfl (.inl rfl) ?_
  simp -implicitDefEqProofs only [go_sem, simprocAttr, idxI_any p xs 0 (Int.le_refl 0)]
  exact ret_fv
theorem t94 (s : FV) (xs : List FV) (g : List FV → Option FV) (p : FV → Bool) (hs : lsOf s = some xs) (hx : ∀ x ∈ xs, Elem false 1 x) (hp : ∀ x ∈ xs, g [x] = some (.bool (p x))) (hl : xs.length ≤ 9223372036854775807) :
    Fn Q 94 [.fo s, .fn g] (.one (.fx (.bool (xs.any p)))) := by
  refine w94 ?_
  dsimp only [c94, sop, gop, nop, qmv, qsg, qex, qld, qcl, qln, qix, qbo, qt, qi]
  simp -implicitDefEqProofs only [go_sem, simprocAttr]
  refine callF [] false [.fo s, .fn g] [] (t120 s xs g p hs hx hp hl) ⟨rfl, .inl rfl, trivial⟩ rfl (.inl rfl) ?_
  simp -implicitDefEqProofs only [go_sem, simprocAttr, idxI_any p xs 0 (Int.le_refl 0)]
  exact ret_fv
theorem t107 (s : FV) (xs : List FV) (g : List FV → Option FV) (p : FV → Bool) (hs : lsOf s = some xs) (hx : ∀ x ∈ xs, Elem false 1 x) (hp : ∀ x ∈ xs, g [x] = some (.bool (p x))) (hl : xs.length ≤ 9223372036854775807) :
    Fn Q 107 [.fo s, .fn g] (.one (.fx (.bool (xs.any p)))) := by
  refine w107 ?_
  dsimp only [c107, sop, gop, nop, qmv, qsg, qex, qld, qcl, qln, qix, qbo, qt, qi]
  simp -implicitDefEqProofs only [go_sem, simprocAttr]
  refine callF [] false [.fo s, .fn g] [] (t126 s xs g p hs hx hp hl) ⟨rfl, .inl rfl, trivial⟩ rfl (.inl rfl) ?_
  simp -implicitDefEqProofs only [go_sem, simprocAttr, idxI_any p xs 0 (Int.le_refl 0)]
  exact ret_fv
end S04

namespace S04
open Go Abs
theorem t108 (a b n : Int) : Fn Q 108 [.fo (.int n), .fo (.ptr [.int a]), .fo (.ptr [.int b])] (.one (.fx (.bool (!inB a b n)))) := by
  refine w108 ?_
  dsimp only [c108, sop, gop, nop, qmv, qsg, qex, qld, qcl, qln, qix, qbo, qt, qi]
  simp -implicitDefEqProofs only [go_sem, simprocAttr]
  refine brL (fun h1 => ?_) (fun h1 => ?_)
  · simp -implicitDefEqProofs only [go_sem, simprocAttr, h1]
    exact ret_eq (by simp_all [inB] <;> omega)
  · simp -implicitDefEqProofs only [go_sem, simprocAttr, h1]
    exact ret_eq (by simp_all [inB] <;> omega)
theorem t70 (a b : Int) (s : FV) (l : List Int) (hs : lsOf s = some (ints l)) (hl : l.length ≤ 9223372036854775807) : Fn Q 70 [.fo (.int a), .fo (.int b), .fo s] (.one (.fx (.bool (l.all (inB a b))))) := by
  refine w70 ?_
  dsimp only [c70, sop, gop, nop, qmv, qsg, qex, qld, qcl, qln, qix, qbo, qt, qi]
  simp -implicitDefEqProofs only [go_sem, simprocAttr]
  refine callC t107 true (fun x => !inB a b x.toI) (by rfl) hs (ints_elem l) (by rw [ints_length]; exact hl) en108 (by rfl) ?_ ?_
  · intro x hx
    obtain ⟨n, _, rfl⟩ := List.mem_map.1 hx
    exact t108 a b n
  · simp -implicitDefEqProofs only [go_sem, simprocAttr, ints_any l (fun n => !inB a b n)]
    exact ret_eq (by simp [List.all_eq_not_any_not])
theorem u1 (a b n : Int) : Fn Q 70 [.fo (.int a), .fo (.int b), .fo (.list false [.int n])] (.one (.fx (.bool (inB a b n)))) := by
  simpa using t70 a b (.list false [.int n]) [n] rfl (by simp)
theorem u2 (a b n m : Int) : Fn Q 70 [.fo (.int a), .fo (.int b), .fo (.list false [.int n, .int m])] (.one (.fx (.bool (inB a b n && inB a b m)))) := by
  simpa using t70 a b (.list false [.int n, .int m]) [n, m] rfl (by simp)
def idxV (v : Int) : List Int → Nat → Int
  | [], _ => -1
  | x :: xs, k => if v = x then k else idxV v xs (k + 1)
theorem idxV_ge (v : Int) : ∀ (l : List Int) (k : Nat), decide (0 ≤ idxV v l k) = l.contains v
  | [], _ => by simp [idxV]
  | x :: xs, k => by
    have ih := idxV_ge v xs (k + 1)
    by_cases h : v = x
    · subst h; simp [idxV]
    · have h' : (v == x) = false := by simpa using h
      simp only [idxV, h, if_false, ih, List.contains_cons, h', Bool.false_or]
theorem t128 (s : FV) (l : List Int) (v : Int) (hs : lsOf s = some (ints l)) (hl : l.length ≤ 9223372036854775807) : Fn Q 128 [.fo s, .fo (.int v)] (.one (.fx (.int (idxV v l 0)))) := by
  refine w128 ?_
  dsimp only [c128, sop, gop, nop, qmv, qsg, qex, qld, qcl, qln, qix, qbo, qt, qi]
  simp -implicitDefEqProofs only [go_sem, simprocAttr, lenV_ls hs]
  refine lpL (β := Unit) 8 [5] 8 [5] l hl (fun ys k _ => idxV v ys k = idxV v l 0) (fun k _ ρ h => ρ 8 = .fv (.int k)) () rfl (by simp -implicitDefEqProofs only [go_sem, simprocAttr]) ?_ ?_
  · rintro _ ρ h e r8
    simp -implicitDefEqProofs only [go_sem, simprocAttr, r8]
    rw [← e]
    exact ret_fv
  · rintro x ys k _ ρ h hx hk hm hk' hw e r8
    by_cases hv : v = x
    · subst hv
      simp -implicitDefEqProofs only [go_sem, simprocAttr, r8, hk', index_map hs idx_22 hx rfl]
      rw [← e]
      exact ret_eq (by simp [idxV])
    · have hv' : (v == x) = false := by simpa using hv
      simp -implicitDefEqProofs only [go_sem, simprocAttr, r8, hk', index_map hs idx_22 hx rfl, hv', hw]
      refine nxtL () ?_ ?_
      · rw [← e]; simp [idxV, hv]
      · simp -implicitDefEqProofs only [go_sem, simprocAttr]
theorem t116 (s : FV) (l : List Int) (v : Int) (hs : lsOf s = some (ints l)) (hl : l.length ≤ 9223372036854775807) : Fn Q 116 [.fo s, .fo (.int v)] (.one (.fx (.bool (l.contains v)))) := by
  refine w116 ?_
  dsimp only [c116, sop, gop, nop, qmv, qsg, qex, qld, qcl, qln, qix, qbo, qt, qi]
  simp -implicitDefEqProofs only [go_sem, simprocAttr]
  refine call1 [] false (t128 s l v hs hl) ?_
  simp -implicitDefEqProofs only [go_sem, simprocAttr, idxV_ge]
  exact ret_fv
theorem t82 (s : FV) (l : List Int) (hs : lsOf s = some (ints l)) (hl : l.length ≤ 9223372036854775807) : Fn Q 82 [.fo s] (.one (.fx (.bool (l.all (inB 1 400))))) := by
  refine w82 ?_
  dsimp only [c82, sop, gop, nop, qmv, qsg, qex, qld, qcl, qln, qix, qbo, qt, qi]
  simp -implicitDefEqProofs only [go_sem, simprocAttr]
  refine call1 [] false (t70 1 400 s l hs hl) ?_
  simp -implicitDefEqProofs only [go_sem, simprocAttr]
  exact ret_fv
theorem u82 (n : Int) : Fn Q 82 [.fo (.list false [.int n])] (.one (.fx (.bool (inB 1 400 n)))) := by
  simpa using t82 (.list false [.int n]) [n] rfl (by simp)
def gapsB (n : Nat) (g : List Int) : Bool := decide ((g.length : Int) = (n : Int) - 1) && g.all (inB 0 400)
theorem t75 (s s' : FV) (l g : List Int) (hs : lsOf s = some (ints l)) (hg : lsOf s' = some (ints g)) (hl : l.length ≤ 9223372036854775807) (hl' : g.length ≤ 9223372036854775807) :
    Fn Q 75 [.fo s, .fo s'] (.one (.fx (.bool (gapsB l.length g)))) := by
  have w : IntKind.i64.wrap ((l.length : Int) - 1) = (l.length : Int) - 1 := wr _ (by omega) (by omega)
  by_cases e : (g.length : Int) = (l.length : Int) - 1
  · have e' : ((g.length : Int) == (l.length : Int) - 1) = true := by simpa using e
    refine w75 ?_
    dsimp only [c75, sop, gop, nop, qmv, qsg, qex, qld, qcl, qln, qix, qbo, qt, qi]
    simp -implicitDefEqProofs only [go_sem, simprocAttr, lenV_ls hs, lenV_ls hg, w, e']
    refine call1 [] false (t70 0 400 s' g hg hl') ?_
    simp -implicitDefEqProofs only [go_sem, simprocAttr]
    exact ret_eq (by simp [gapsB, e])
  · have e' : ((g.length : Int) == (l.length : Int) - 1) = false := by simpa using e
    refine w75 ?_
    dsimp only [c75, sop, gop, nop, qmv, qsg, qex, qld, qcl, qln, qix, qbo, qt, qi]
    simp -implicitDefEqProofs only [go_sem, simprocAttr, lenV_ls hs, lenV_ls hg, w, e']
    exact ret_eq (by simp [gapsB, e])
end S04

namespace S04
open Go Abs
def tF (p : Int × Int × Int) : FV := .agg [.int p.1, .int p.2.1, .int p.2.2]
def toT : FV → Int × Int × Int
  | .agg [.val (.int _ a), .val (.int _ b), .val (.int _ c)] => (a, b, c)
  | _ => (0, 0, 0)
theorem toT_tF (p : Int × Int × Int) : toT (tF p) = p := rfl
theorem tF_elem (l : List (Int × Int × Int)) : ∀ x ∈ l.map tF, Elem true 3 x := map_elem _ fun _ => ⟨rfl, rfl⟩
theorem tF_any (l : List (Int × Int × Int)) (p : Int × Int × Int → Bool) : (l.map tF).any (fun x => p (toT x)) = l.any p := by
  induction l with
  | nil => rfl
  | cons x l ih => simp only [List.map_cons, List.any_cons, toT_tF, ih]
structure Cs where
  W : List Int
  P : List (Int × Int × Int)
  R : Int
  L : Int
  B : Int
@[reducible] def Cs.cells (c : Cs) (sw sp : FV) : List FV := [sw, sp, .int c.R, .int c.L, .int c.B]
@[reducible] def Cs.fv (c : Cs) (sw sp : FV) : FV := .agg (c.cells sw sp)
structure CV (c : Cs) (sw sp : FV) : Prop where
  w : lsOf sw = some (ints c.W)
  p : lsOf sp = some (c.P.map tF)
  wl : c.W.length ≤ 9223372036854775807
  pl : c.P.length ≤ 9223372036854775807
def moresF : List (Int × Int × Int) → List ((Int × Int) × Int) → List ((Int × Int) × Int)
  | [], M => M
  | p :: ps, M => moresF ps (kUp M (p.1, p.2.1) 0 p.2.2)
def Cs.M (c : Cs) : List ((Int × Int) × Int) := moresF c.P []
def badT (n : Nat) (p : Int × Int × Int) : Bool := !(inB 0 ((n : Int) - 1) p.1 && inB 0 ((n : Int) - 1) p.2.1) || !inB (-5) 5 p.2.2
def errC (c : Cs) : Int :=
  if (inB 1 8 (c.W.length : Nat) && c.W.all (inB 1 30)) = false then 4 else if (inB 0 20 c.R && inB 0 10 c.L && inB 0 30 c.B) = false then 4 else if 10 < c.P.length then 5
  else if c.P.any (badT c.W.length) then 2 else if c.M.length < c.P.length then 6 else 0
theorem kp {a b : Int} (h1 : 0 ≤ a) (h2 : a < 8) (h3 : 0 ≤ b) (h4 : b < 8) : KeyOk Q 47 (pF (a, b)) := by
  have key : ∀ x : Fin 8, ∀ y : Fin 8, (keyOf Q 47 (.agg #[.int .i64 (x.val : Int), .int .i64 (y.val : Int)])).isSome = true := by
    intro x y
    revert x y
    exact of_decide_eq_true (by kernel_rfl)
  have := key ⟨a.toNat, by omega⟩ ⟨b.toNat, by omega⟩
  simp only [show ((a.toNat : Nat) : Int) = a by omega, show ((b.toNat : Nat) : Int) = b by omega] at this
  obtain ⟨l, hl⟩ := Option.isSome_iff_exists.1 this
  exact ⟨_, l, rfl, hl⟩
def mapV (M : List ((Int × Int) × Int)) : FV := .map (esF pF .int M)
theorem t72 {c : Cs} {sw sp : FV} (v : CV c sw sp) (hb : ∀ p ∈ c.P, 0 ≤ p.1 ∧ p.1 < 8 ∧ 0 ≤ p.2.1 ∧ p.2.1 < 8) : Fn Q 72 [.fo (c.fv sw sp)] (.one (.fx (mapV c.M))) := by
  obtain ⟨hw, hp, wl, pl⟩ := v
  have o1 := ls_one hw
  have o2 := ls_one hp
  refine w72 ?_
  dsimp only [c72, sop, gop, nop, qmv, qsg, qex, qld, qcl, qln, qix, qbo, qt, qi]
  simp -implicitDefEqProofs only [go_sem, simprocAttr, o1, o2]
  refine mpMake ?_
  simp -implicitDefEqProofs only [go_sem, simprocAttr, o1, o2, lenV_ls hp]
  refine lpL (β := List ((Int × Int) × Int)) 10 [5] 10 [5, 6] c.P pl (fun ps k M => moresF ps M = c.M ∧ (M.map Prod.fst).Nodup ∧ ∀ e ∈ M, KeyOk Q 47 (pF e.1)) (fun k M ρ h => ρ 10 = .fv (.int k) ∧ h.gen 6 = 1 ∧ h.obj 6 = some (.map false (esF pF .int M))) [] ⟨rfl, by simp, by simp⟩ ?_ ?_ ?_
  · simp -implicitDefEqProofs only [go_sem, simprocAttr]; rfl
  · rintro M ρ h ⟨hM, nd, hk⟩ ⟨r10, g6, o6⟩
    simp -implicitDefEqProofs only [go_sem, simprocAttr, r10, g6, o6]
    simp only [moresF] at hM
    subst hM
    exact ret_fx (fun _ => true) (by simp -implicitDefEqProofs only [go_sem, simprocAttr, g6, o6, mapV])
  · rintro p ps k M ρ h hx hk hm hk' hwr ⟨hM, nd, hK⟩ ⟨r10, g6, o6⟩
    obtain ⟨b1, b2, b3, b4⟩ := hb p hm
    have k1 := kp b1 b2 b3 b4
    simp -implicitDefEqProofs only [go_sem, simprocAttr, r10, hk', index_map hp idx_23 hx rfl, tF]
    refine mpUpd (kF := pF) (vF := .int) (M := M) (k := (p.1, p.2.1)) (v' := p.2.2) mty_112 (by simp -implicitDefEqProofs only [go_sem, simprocAttr]; rfl) (by simp -implicitDefEqProofs only [go_sem, simprocAttr, g6, o6]) (by simp -implicitDefEqProofs only [go_sem, simprocAttr]; rfl) (by simp -implicitDefEqProofs only [go_sem, simprocAttr]) pF_inj key_47 hK k1 nd 0 ?_
    simp -implicitDefEqProofs only [go_sem, simprocAttr, r10, hwr]
    refine nxtL (kUp M (p.1, p.2.1) 0 p.2.2) ⟨hM, kUp_nodup _ _ _ nd, ?_⟩ ?_
    · intro e he
      rcases kUp_mem he with he | rfl
      · exact hK e he
      · exact k1
    · simp -implicitDefEqProofs only [go_sem, simprocAttr, g6]
end S04

namespace S04
open Go Abs
theorem t69 {c : Cs} {sw sp : FV} (v : CV c sw sp) (p : Int × Int × Int) : Fn Q 69 [.fo (tF p), .fo (.ptr (c.cells sw sp))] (.one (.fx (.bool (badT c.W.length p)))) := by
  have wl := v.wl
  have w : IntKind.i64.wrap ((c.W.length : Int) - 1) = (c.W.length : Int) - 1 := wr _ (by omega) (by omega)
  by_cases e : (inB 0 ((c.W.length : Int) - 1) p.1 && inB 0 ((c.W.length : Int) - 1) p.2.1) = true
  · refine w69 ?_
    dsimp only [c69, sop, gop, nop, qmv, qsg, qex, qld, qcl, qln, qix, qbo, qt, qi]
    simp -implicitDefEqProofs only [go_sem, simprocAttr, tF, lenV_ls v.w, w]
    refine call1 [] true (u2 0 ((c.W.length : Int) - 1) p.1 p.2.1) ?_
    simp -implicitDefEqProofs only [go_sem, simprocAttr, e]
    refine call1 [] true (u1 (-5) 5 p.2.2) ?_
    simp -implicitDefEqProofs only [go_sem, simprocAttr]
    exact ret_eq (by simp [badT, e])
  · have e' : (inB 0 ((c.W.length : Int) - 1) p.1 && inB 0 ((c.W.length : Int) - 1) p.2.1) = false := by simpa using e
    refine w69 ?_
    dsimp only [c69, sop, gop, nop, qmv, qsg, qex, qld, qcl, qln, qix, qbo, qt, qi]
    simp -implicitDefEqProofs only [go_sem, simprocAttr, tF, lenV_ls v.w, w]
    refine call1 [] true (u2 0 ((c.W.length : Int) - 1) p.1 p.2.1) ?_
    simp -implicitDefEqProofs only [go_sem, simprocAttr, e']
    exact ret_eq (by simp [badT, e'])
theorem not_badT {n : Nat} {p : Int × Int × Int} (h : badT n p = false) : 0 ≤ p.1 ∧ p.1 < n ∧ 0 ≤ p.2.1 ∧ p.2.1 < n ∧ -5 ≤ p.2.2 ∧ p.2.2 ≤ 5 := by
  simp only [badT, Bool.or_eq_false_iff, Bool.not_eq_false', Bool.and_eq_true, inB_iff] at h
  omega
theorem esF_len (M : List ((Int × Int) × Int)) : (esF pF FV.int M).length = M.length := by simp [esF]
theorem t19 {c : Cs} {sw sp : FV} (v : CV c sw sp) : Fn Q 19 [.fo (c.fv sw sp)] (.one (.fx (.int (errC c)))) := by
  have o1 := ls_one v.w
  have o2 := ls_one v.p
  have wl := v.wl
  have pl := v.pl
  by_cases g1 : inB 1 8 (c.W.length : Nat) = false
  · have e : errC c = 4 := by simp [errC, g1]
    refine w19 ?_
    dsimp only [c19, sop, gop, nop, qmv, qsg, qex, qld, qcl, qln, qix, qbo, qt, qi]
    simp -implicitDefEqProofs only [go_sem, simprocAttr, o1, o2, lenV_ls v.w]
    refine call1 [] true (u1 1 8 (c.W.length : Nat)) ?_
    simp -implicitDefEqProofs only [go_sem, simprocAttr, g1]
    exact ret_eq (by rw [e])
  have g1' : inB 1 8 (c.W.length : Nat) = true := by simpa using g1
  have c2 := t70 1 30 sw c.W v.w wl
  by_cases g2 : c.W.all (inB 1 30) = false
  · have e : errC c = 4 := by simp only [errC, g2]; simp
    refine w19 ?_
    dsimp only [c19, sop, gop, nop, qmv, qsg, qex, qld, qcl, qln, qix, qbo, qt, qi]
    simp -implicitDefEqProofs only [go_sem, simprocAttr, o1, o2, lenV_ls v.w]
    refine call1 [] true (u1 1 8 (c.W.length : Nat)) ?_
    simp -implicitDefEqProofs only [go_sem, simprocAttr, g1']
    refine call1 [] false (c2) ?_
    simp -implicitDefEqProofs only [go_sem, simprocAttr, g2]
    exact ret_eq (by rw [e])
  have g2' : c.W.all (inB 1 30) = true := by simpa using g2
  by_cases g3 : inB 0 20 c.R = false
  · have e : errC c = 4 := by simp only [errC, g1', g2', g3]; simp
    refine w19 ?_
    dsimp only [c19, sop, gop, nop, qmv, qsg, qex, qld, qcl, qln, qix, qbo, qt, qi]
    simp -implicitDefEqProofs only [go_sem, simprocAttr, o1, o2, lenV_ls v.w]
    refine call1 [] true (u1 1 8 (c.W.length : Nat)) ?_
    simp -implicitDefEqProofs only [go_sem, simprocAttr, g1']
    refine call1 [] false (c2) ?_
    simp -implicitDefEqProofs only [go_sem, simprocAttr, g2']
    refine call1 [] true (u1 0 20 c.R) ?_
    simp -implicitDefEqProofs only [go_sem, simprocAttr, g3]
    exact ret_eq (by rw [e])
  have g3' : inB 0 20 c.R = true := by simpa using g3
  by_cases g4 : inB 0 10 c.L = false
  · have e : errC c = 4 := by simp only [errC, g1', g2', g3', g4]; simp
    refine w19 ?_
    dsimp only [c19, sop, gop, nop, qmv, qsg, qex, qld, qcl, qln, qix, qbo, qt, qi]
    simp -implicitDefEqProofs only [go_sem, simprocAttr, o1, o2, lenV_ls v.w]
    refine call1 [] true (u1 1 8 (c.W.length : Nat)) ?_
    simp -implicitDefEqProofs only [go_sem, simprocAttr, g1']
    refine call1 [] false (c2) ?_
    simp -implicitDefEqProofs only [go_sem, simprocAttr, g2']
    refine call1 [] true (u1 0 20 c.R) ?_
    simp -implicitDefEqProofs only [go_sem, simprocAttr, g3']
    refine call1 [] true (u1 0 10 c.L) ?_
    simp -implicitDefEqProofs only [go_sem, simprocAttr, g4]
    exact ret_eq (by rw [e])
  have g4' : inB 0 10 c.L = true := by simpa using g4
  by_cases g5 : inB 0 30 c.B = false
  · have e : errC c = 4 := by simp only [errC, g1', g2', g3', g4', g5]; simp
    refine w19 ?_
    dsimp only [c19, sop, gop, nop, qmv, qsg, qex, qld, qcl, qln, qix, qbo, qt, qi]
    simp -implicitDefEqProofs only [go_sem, simprocAttr, o1, o2, lenV_ls v.w]
    refine call1 [] true (u1 1 8 (c.W.length : Nat)) ?_
    simp -implicitDefEqProofs only [go_sem, simprocAttr, g1']
    refine call1 [] false (c2) ?_
    simp -implicitDefEqProofs only [go_sem, simprocAttr, g2']
    refine call1 [] true (u1 0 20 c.R) ?_
    simp -implicitDefEqProofs only [go_sem, simprocAttr, g3']
    refine call1 [] true (u1 0 10 c.L) ?_
    simp -implicitDefEqProofs only [go_sem, simprocAttr, g4']
    refine call1 [] true (u1 0 30 c.B) ?_
    simp -implicitDefEqProofs only [go_sem, simprocAttr, g5]
    exact ret_eq (by rw [e])
  have g5' : inB 0 30 c.B = true := by simpa using g5
  by_cases g6 : 10 < c.P.length
  · have e : errC c = 5 := by simp only [errC, g1', g2', g3', g4', g5']; simp [g6]
    have g6' : (10 : Int) < (c.P.length : Nat) := by omega
    refine w19 ?_
    dsimp only [c19, sop, gop, nop, qmv, qsg, qex, qld, qcl, qln, qix, qbo, qt, qi]
    simp -implicitDefEqProofs only [go_sem, simprocAttr, o1, o2, lenV_ls v.w]
    refine call1 [] true (u1 1 8 (c.W.length : Nat)) ?_
    simp -implicitDefEqProofs only [go_sem, simprocAttr, g1']
    refine call1 [] false (c2) ?_
    simp -implicitDefEqProofs only [go_sem, simprocAttr, g2']
    refine call1 [] true (u1 0 20 c.R) ?_
    simp -implicitDefEqProofs only [go_sem, simprocAttr, g3']
    refine call1 [] true (u1 0 10 c.L) ?_
    simp -implicitDefEqProofs only [go_sem, simprocAttr, g4']
    refine call1 [] true (u1 0 30 c.B) ?_
    simp -implicitDefEqProofs only [go_sem, simprocAttr, g5', lenV_ls v.p, g6']
    exact ret_eq (by rw [e])
  have g6' : ¬ (10 : Int) < (c.P.length : Nat) := by omega
  cases g7 : c.P.any (badT c.W.length)
  case true =>
    have e : errC c = 2 := by simp only [errC, g1', g2', g3', g4', g5', g7]; simp [g6]
    refine w19 ?_
    dsimp only [c19, sop, gop, nop, qmv, qsg, qex, qld, qcl, qln, qix, qbo, qt, qi]
    simp -implicitDefEqProofs only [go_sem, simprocAttr, o1, o2, lenV_ls v.w]
    refine call1 [] true (u1 1 8 (c.W.length : Nat)) ?_
    simp -implicitDefEqProofs only [go_sem, simprocAttr, g1']
    refine call1 [] false (c2) ?_
    simp -implicitDefEqProofs only [go_sem, simprocAttr, g2']
    refine call1 [] true (u1 0 20 c.R) ?_
    simp -implicitDefEqProofs only [go_sem, simprocAttr, g3']
    refine call1 [] true (u1 0 10 c.L) ?_
    simp -implicitDefEqProofs only [go_sem, simprocAttr, g4']
    refine call1 [] true (u1 0 30 c.B) ?_
    simp -implicitDefEqProofs only [go_sem, simprocAttr, g5', lenV_ls v.p, g6']
    refine callC t71 true (fun x => badT c.W.length (toT x)) (by rfl) v.p (tF_elem c.P) (by simpa using pl) en69 (by rfl) ?_ ?_
    · intro x hx
      obtain ⟨p, hp, rfl⟩ := List.mem_map.1 hx
      exact t69 v p
    simp -implicitDefEqProofs only [go_sem, simprocAttr, tF_any c.P (badT c.W.length), g7]
    exact ret_eq (by rw [e])
  have hn : c.W.length ≤ 8 := by have := (inB_iff.1 g1').2; omega
  have c72 := t72 v fun p hp => by have := not_badT (not_any g7 hp); omega
  by_cases g8 : c.M.length < c.P.length
  · have e : errC c = 6 := by simp only [errC, g1', g2', g3', g4', g5', g7]; simp [g6, g8]
    have g8' : ((c.M.length : Nat) : Int) < (c.P.length : Nat) := by omega
    refine w19 ?_
    dsimp only [c19, sop, gop, nop, qmv, qsg, qex, qld, qcl, qln, qix, qbo, qt, qi]
    simp -implicitDefEqProofs only [go_sem, simprocAttr, o1, o2, lenV_ls v.w]
    refine call1 [] true (u1 1 8 (c.W.length : Nat)) ?_
    simp -implicitDefEqProofs only [go_sem, simprocAttr, g1']
    refine call1 [] false (c2) ?_
    simp -implicitDefEqProofs only [go_sem, simprocAttr, g2']
    refine call1 [] true (u1 0 20 c.R) ?_
    simp -implicitDefEqProofs only [go_sem, simprocAttr, g3']
    refine call1 [] true (u1 0 10 c.L) ?_
    simp -implicitDefEqProofs only [go_sem, simprocAttr, g4']
    refine call1 [] true (u1 0 30 c.B) ?_
    simp -implicitDefEqProofs only [go_sem, simprocAttr, g5', lenV_ls v.p, g6']
    refine callC t71 true (fun x => badT c.W.length (toT x)) (by rfl) v.p (tF_elem c.P) (by simpa using pl) en69 (by rfl) ?_ ?_
    · intro x hx
      obtain ⟨p, hp, rfl⟩ := List.mem_map.1 hx
      exact t69 v p
    simp -implicitDefEqProofs only [go_sem, simprocAttr, tF_any c.P (badT c.W.length), g7]
    refine call1 [] false (c72) ?_
    simp -implicitDefEqProofs only [go_sem, simprocAttr, mapV, lenM, esF_len, g8', lenV_ls v.p]
    exact ret_eq (by rw [e])
  · have e : errC c = 0 := by simp only [errC, g1', g2', g3', g4', g5', g7]; simp [g6, g8]
    have g8' : ¬ ((c.M.length : Nat) : Int) < (c.P.length : Nat) := by omega
    refine w19 ?_
    dsimp only [c19, sop, gop, nop, qmv, qsg, qex, qld, qcl, qln, qix, qbo, qt, qi]
    simp -implicitDefEqProofs only [go_sem, simprocAttr, o1, o2, lenV_ls v.w]
    refine call1 [] true (u1 1 8 (c.W.length : Nat)) ?_
    simp -implicitDefEqProofs only [go_sem, simprocAttr, g1']
    refine call1 [] false (c2) ?_
    simp -implicitDefEqProofs only [go_sem, simprocAttr, g2']
    refine call1 [] true (u1 0 20 c.R) ?_
    simp -implicitDefEqProofs only [go_sem, simprocAttr, g3']
    refine call1 [] true (u1 0 10 c.L) ?_
    simp -implicitDefEqProofs only [go_sem, simprocAttr, g4']
    refine call1 [] true (u1 0 30 c.B) ?_
    simp -implicitDefEqProofs only [go_sem, simprocAttr, g5', lenV_ls v.p, g6']
    refine callC t71 true (fun x => badT c.W.length (toT x)) (by rfl) v.p (tF_elem c.P) (by simpa using pl) en69 (by rfl) ?_ ?_
    · intro x hx
      obtain ⟨p, hp, rfl⟩ := List.mem_map.1 hx
      exact t69 v p
    simp -implicitDefEqProofs only [go_sem, simprocAttr, tF_any c.P (badT c.W.length), g7]
    refine call1 [] false (c72) ?_
    simp -implicitDefEqProofs only [go_sem, simprocAttr, mapV, lenM, esF_len, g8', lenV_ls v.p]
    exact ret_eq (by rw [e])
end S04

