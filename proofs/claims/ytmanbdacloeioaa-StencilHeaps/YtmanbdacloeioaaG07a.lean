/- A part of the proof: G07a, G07b, G07c, G07d. -/
import Derived.Test.YtmanbdacloeioaaAbsI
import Derived.Test.YtmanbdacloeioaaC07h0
set_option linter.unusedVariables false
set_option linter.unusedSimpArgs false
set_option maxRecDepth 20000
namespace S07
open Go Abs
theorem t109 (s : FV) (xs : List FV) (g : List FV → Option FV) (p : FV → Bool) (hs : lsOf s = some xs) (hx : ∀ x ∈ xs, Elem false 1 x) (hp : ∀ x ∈ xs, g [x] = some (.bool (p x))) (hl : xs.length ≤ 9223372036854775807) :
    Fn Q 109 [.fo s, .fn g] (.one (.fx (.int (idxI p xs 0)))) := by
  refine w109 ?_
  dsimp only [c109, sop, gop, nop, qmv, qsg, qex, qld, qcl, qln, qix, qbo, qt, qi]
  simp -implicitDefEqProofs only [go_sem, simprocAttr, lenV_ls hs]
  refine lpInd (α := List FV × Nat) (m := fun a => a.1.length) (I := fun a σ => xs.drop a.2 = a.1 ∧ a.2 ≤ xs.length ∧ idxI p xs 0 = idxI p a.1 a.2 ∧ σ.ρ 0 = .fv s ∧ σ.ρ 1 = .fn g ∧ σ.ρ 7 = .fv (.int xs.length) ∧ σ.ρ 8 = .fv (.int a.2) ∧ σ.h = h0) (xs, 0) ?_ ?_
  · simp -implicitDefEqProofs only [go_sem, simprocAttr]
    simp
  · rintro ⟨ys, k⟩ ⟨ρ, h⟩ ⟨e1, e2, e3, r0, r1, r7, r8, rfl⟩
    dsimp only at e1 e2 e3 r0 r1 r7 r8
    simp -implicitDefEqProofs only [go_sem, simprocAttr, r0, r1, r7, r8]
    cases ys with
    | nil =>
      have hk : ¬ ((k : Int) < xs.length) := by have := drop_end e1; omega
      simp -implicitDefEqProofs only [go_sem, simprocAttr, r0, r1, r7, r8, hk, e3, idxI]
      exact ret_fv
    | cons x ys =>
      obtain ⟨d1, d2, d3, d4⟩ := drop_tail e1
      have hk : ((k : Int) < xs.length) := by omega
      simp -implicitDefEqProofs only [go_sem, simprocAttr, r0, r1, r7, r8, hk, index_ls hs idx_25 d2 (hx x d4).1, (hx x d4).2]
      refine callG false [x] (by rfl) (hp x d4) (.inl rfl) ?_
      simp -implicitDefEqProofs only [go_sem, simprocAttr, r0, r1, r7, r8]
      refine brW (fun hb => ?_) (fun hb => ?_)
      · simp -implicitDefEqProofs only [go_sem, simprocAttr, r0, r1, r7, r8, e3, idxI, hb]
        exact ret_fv
      · simp -implicitDefEqProofs only [go_sem, simprocAttr, r0, r1, r7, r8]
        refine ⟨(ys, k + 1), Nat.lt_succ_self _, d1, by simp; omega, ?_, ?_, ?_, ?_, ?_, ?_⟩
        · simp [e3, idxI, hb]
        · simp -implicitDefEqProofs only [go_sem, simprocAttr, r0]
        · simp -implicitDefEqProofs only [go_sem, simprocAttr, r1]
        · simp -implicitDefEqProofs only [go_sem, simprocAttr, r7]
        · simp -implicitDefEqProofs only [go_sem, simprocAttr, wr (k + 1) (by omega) (by omega)]; rfl
        · rfl
theorem t111 (s : FV) (xs : List FV) (g : List FV → Option FV) (p : FV → Bool) (hs : lsOf s = some xs) (hx : ∀ x ∈ xs, Elem true 2 x) (hp : ∀ x ∈ xs, g [x] = some (.bool (p x))) (hl : xs.length ≤ 9223372036854775807) :
    Fn Q 111 [.fo s, .fn g] (.one (.fx (.int (idxI p xs 0)))) := by
  refine w111 ?_
  dsimp only [c111, sop, gop, nop, qmv, qsg, qex, qld, qcl, qln, qix, qbo, qt, qi]
  simp -implicitDefEqProofs only [go_sem, simprocAttr, lenV_ls hs]
  refine lpInd (α := List FV × Nat) (m := fun a => a.1.length) (I := fun a σ => xs.drop a.2 = a.1 ∧ a.2 ≤ xs.length ∧ idxI p xs 0 = idxI p a.1 a.2 ∧ σ.ρ 0 = .fv s ∧ σ.ρ 1 = .fn g ∧ σ.ρ 7 = .fv (.int xs.length) ∧ σ.ρ 8 = .fv (.int a.2) ∧ σ.h = h0) (xs, 0) ?_ ?_
  · simp -implicitDefEqProofs only [go_sem, simprocAttr]
    simp
  · rintro ⟨ys, k⟩ ⟨ρ, h⟩ ⟨e1, e2, e3, r0, r1, r7, r8, rfl⟩
    dsimp only at e1 e2 e3 r0 r1 r7 r8
    simp -implicitDefEqProofs only [go_sem, simprocAttr, r0, r1, r7, r8]
    cases ys with
    | nil =>
      have hk : ¬ ((k : Int) < xs.length) := by have := drop_end e1; omega
      simp -implicitDefEqProofs only [go_sem, simprocAttr, r0, r1, r7, r8, hk, e3, idxI]
      exact ret_fv
    | cons x ys =>
      obtain ⟨d1, d2, d3, d4⟩ := drop_tail e1
      have hk : ((k : Int) < xs.length) := by omega
      simp -implicitDefEqProofs only [go_sem, simprocAttr, r0, r1, r7, r8, hk, index_ls hs idx_22 d2 (hx x d4).1, (hx x d4).2]
      refine callG false [x] (by rfl) (hp x d4) (.inl rfl) ?_
      simp -implicitDefEqProofs only [go_sem, simprocAttr, r0, r1, r7, r8]
      refine brW (fun hb => ?_) (fun hb => ?_)
      · simp -implicitDefEqProofs only [go_sem, simprocAttr, r0, r1, r7, r8, e3, idxI, hb]
        exact ret_fv
      · simp -implicitDefEqProofs only [go_sem, simprocAttr, r0, r1, r7, r8]
        refine ⟨(ys, k + 1), Nat.lt_succ_self _, d1, by simp; omega, ?_, ?_, ?_, ?_, ?_, ?_⟩
        · simp [e3, idxI, hb]
        · simp -implicitDefEqProofs only [go_sem, simprocAttr, r0]
        · simp -implicitDefEqProofs only [go_sem, simprocAttr, r1]
        · simp -implicitDefEqProofs only [go_sem, simprocAttr, r7]
        · simp -implicitDefEqProofs only [go_sem, simprocAttr, wr (k + 1) (by omega) (by omega)]; rfl
        · rfl
theorem t112 (s : FV) (xs : List FV) (g : List FV → Option FV) (p : FV → Bool) (hs : lsOf s = some xs) (hx : ∀ x ∈ xs, Elem false 1 x) (hp : ∀ x ∈ xs, g [x] = some (.bool (p x))) (hl : xs.length ≤ 9223372036854775807) :
    Fn Q 112 [.fo s, .fn g] (.one (.fx (.int (idxI p xs 0)))) := by
  refine w112 ?_
  dsimp only [c112, sop, gop, nop, qmv, qsg, qex, qld, qcl, qln, qix, qbo, qt, qi]
  simp -implicitDefEqProofs only [go_sem, simprocAttr, lenV_ls hs]
  refine lpInd (α := List FV × Nat) (m := fun a => a.1.length) (I := fun a σ => xs.drop a.2 = a.1 ∧ a.2 ≤ xs.length ∧ idxI p xs 0 = idxI p a.1 a.2 ∧ σ.ρ 0 = .fv s ∧ σ.ρ 1 = .fn g ∧ σ.ρ 7 = .fv (.int xs.length) ∧ σ.ρ 8 = .fv (.int a.2) ∧ σ.h = h0) (xs, 0) ?_ ?_
  · simp -implicitDefEqProofs only [go_sem, simprocAttr]
    simp
  · rintro ⟨ys, k⟩ ⟨ρ, h⟩ ⟨e1, e2, e3, r0, r1, r7, r8, rfl⟩
    dsimp only at e1 e2 e3 r0 r1 r7 r8
    simp -implicitDefEqProofs only [go_sem, simprocAttr, r0, r1, r7, r8]
    cases ys with
    | nil =>
      have hk : ¬ ((k : Int) < xs.length) := by have := drop_end e1; omega
      simp -implicitDefEqProofs only [go_sem, simprocAttr, r0, r1, r7, r8, hk, e3, idxI]
      exact ret_fv
    | cons x ys =>
      obtain ⟨d1, d2, d3, d4⟩ := drop_tail e1
      have hk : ((k : Int) < xs.length) := by omega
      simp -implicitDefEqProofs only [go_sem, simprocAttr, r0, r1, r7, r8, hk, index_ls hs idx_26 d2 (hx x d4).1, (hx x d4).2]
      refine callG false [x] (by rfl) (hp x d4) (.inl rfl) ?_
      simp -implicitDefEqProofs only [go_sem, simprocAttr, r0, r1, r7, r8]
      refine brW (fun hb => ?_) (fun hb => ?_)
      · simp -implicitDefEqProofs only [go_sem, simprocAttr, r0, r1, r7, r8, e3, idxI, hb]
        exact ret_fv
      · simp -implicitDefEqProofs only [go_sem, simprocAttr, r0, r1, r7, r8]
        refine ⟨(ys, k + 1), Nat.lt_succ_self _, d1, by simp; omega, ?_, ?_, ?_, ?_, ?_, ?_⟩
        · simp [e3, idxI, hb]
        · simp -implicitDefEqProofs only [go_sem, simprocAttr, r0]
        · simp -implicitDefEqProofs only [go_sem, simprocAttr, r1]
        · simp -implicitDefEqProofs only [go_sem, simprocAttr, r7]
        · simp -implicitDefEqProofs only [go_sem, simprocAttr, wr (k + 1) (by omega) (by omega)]; rfl
        · rfl
theorem t90 (s : FV) (xs : List FV) (g : List FV → Option FV) (p : FV → Bool) (hs : lsOf s = some xs) (hx : ∀ x ∈ xs, Elem false 1 x) (hp : ∀ x ∈ xs, g [x] = some (.bool (p x))) (hl : xs.length ≤ 9223372036854775807) :
    Fn Q 90 [.fo s, .fn g] (.one (.fx (.bool (xs.any p)))) := by
  refine w90 ?_
  dsimp only [c90, sop, gop, nop, qmv, qsg, qex, qld, qcl, qln, qix, qbo, qt, qi]
  simp -implicitDefEqProofs only [go_sem, simprocAttr]
  refine callF [] false [.fo s, .fn g] [] (t109 s xs g p hs hx hp hl) ⟨rfl, .inl rfl, trivial⟩ rfl (.inl rfl) ?_
  simp -implicitDefEqProofs only [go_sem, simprocAttr, idxI_any p xs 0 (Int.le_refl 0)]
  exact ret_fv
theorem t102 (s : FV) (xs : List FV) (g : List FV → Option FV) (p : FV → Bool) (hs : lsOf s = some xs) (hx : ∀ x ∈ xs, Elem true 2 x) (hp : ∀ x ∈ xs, g [x] = some (.bool (p x))) (hl : xs.length ≤ 9223372036854775807) :
    Fn Q 102 [.fo s, .fn g] (.one (.fx (.bool (xs.any p)))) := by
  refine w102 ?_
  dsimp only [c102, sop, gop, nop, qmv, qsg, qex, qld, qcl, qln, qix, qbo, qt, qi]
  simp -implicitDefEqProofs only [go_sem, simprocAttr]
  refine callF [] false [.fo s, .fn g] [] (t111 s xs g p hs hx hp hl) ⟨rfl, .inl rfl, trivial⟩ rfl (.inl rfl) ?_
  simp -implicitDefEqProofs only [go_sem, simprocAttr, idxI_any p xs 0 (Int.le_refl 0)]
  exact ret_fv
theorem t105 (s : FV) (xs : List FV) (g : List FV → Option FV) (p : FV → Bool) (hs : lsOf s = some xs) (hx : ∀ x ∈ xs, Elem false 1 x) (hp : ∀ x ∈ xs, g [x] = some (.bool (p x))) (hl : xs.length ≤ 9223372036854775807) :
    Fn Q 105 [.fo s, .fn g] (.one (.fx (.bool (xs.any p)))) := by
  refine w105 ?_
  dsimp only [c105, sop, gop, nop, qmv, qsg, qex, qld, qcl, qln, qix, qbo, qt, qi]
  simp -implicitDefEqProofs only [go_sem, simprocAttr]
  refine callF [] false [.fo s, .fn g] [] (t112 s xs g p hs hx hp hl) ⟨rfl, .inl rfl, trivial⟩ rfl (.inl rfl) ?_
  simp -implicitDefEqProofs only [go_sem, simprocAttr, idxI_any p xs 0 (Int.le_refl 0)]
  exact ret_fv
end S07

namespace S07
open Go Abs
theorem t108 (a b n : Int) : Fn Q 108 [.fo (.int n), .fo (.ptr [.int a]), .fo (.ptr [.int b])] (.one (.fx (.bool (!inB a b n)))) := by
  refine w108 ?_
  dsimp only [c108, sop, gop, nop, qmv, qsg, qex, qld, qcl, qln, qix, qbo, qt, qi]
  simp -implicitDefEqProofs only [go_sem, simprocAttr]
  refine brL (fun h1 => ?_) (fun h1 => ?_)
  · simp -implicitDefEqProofs only [go_sem, simprocAttr, h1]
    exact ret_eq (by simp_all [inB] <;> omega)
  · simp -implicitDefEqProofs only [go_sem, simprocAttr, h1]
    exact ret_eq (by simp_all [inB] <;> omega)
theorem t87 (a b : Int) (s : FV) (l : List Int) (hs : lsOf s = some (ints l)) (hl : l.length ≤ 9223372036854775807) : Fn Q 87 [.fo (.int a), .fo (.int b), .fo s] (.one (.fx (.bool (l.all (inB a b))))) := by
  refine w87 ?_
  dsimp only [c87, sop, gop, nop, qmv, qsg, qex, qld, qcl, qln, qix, qbo, qt, qi]
  simp -implicitDefEqProofs only [go_sem, simprocAttr]
  refine callC t105 true (fun x => !inB a b x.toI) (by rfl) hs (ints_elem l) (by rw [ints_length]; exact hl) en108 (by rfl) ?_ ?_
  · intro x hx
    obtain ⟨n, _, rfl⟩ := List.mem_map.1 hx
    exact t108 a b n
  · simp -implicitDefEqProofs only [go_sem, simprocAttr, ints_any l (fun n => !inB a b n)]
    exact ret_eq (by simp [List.all_eq_not_any_not])
theorem w1 (a b n : Int) : Fn Q 87 [.fo (.int a), .fo (.int b), .fo (.list false [.int n])] (.one (.fx (.bool (inB a b n)))) := by
  simpa using t87 a b (.list false [.int n]) [n] rfl (by simp)
theorem w2 (a b n m : Int) : Fn Q 87 [.fo (.int a), .fo (.int b), .fo (.list false [.int n, .int m])] (.one (.fx (.bool (inB a b n && inB a b m)))) := by
  simpa using t87 a b (.list false [.int n, .int m]) [n, m] rfl (by simp)
def idxV (v : Int) : List Int → Nat → Int
  | [], _ => -1
  | x :: xs, k => if v = x then k else idxV v xs (k + 1)
theorem idxV_ge (v : Int) : ∀ (l : List Int) (k : Nat), decide (0 ≤ idxV v l k) = l.contains v
  | [], _ => by simp [idxV]
  | x :: xs, k => by
    have ih := idxV_ge v xs (k + 1)
    by_cases h : v = x
    · subst h; simp [idxV]
    · have h' : (v == x) = false := by simpa using h
      simp only [idxV, h, if_false, ih, List.contains_cons, h', Bool.false_or]
theorem t113 (s : FV) (l : List Int) (v : Int) (hs : lsOf s = some (ints l)) (hl : l.length ≤ 9223372036854775807) : Fn Q 113 [.fo s, .fo (.int v)] (.one (.fx (.int (idxV v l 0)))) := by
  refine w113 ?_
  dsimp only [c113, sop, gop, nop, qmv, qsg, qex, qld, qcl, qln, qix, qbo, qt, qi]
  simp -implicitDefEqProofs only [go_sem, simprocAttr, lenV_ls hs]
  refine lpL (β := Unit) 8 [5] 8 [5] l hl (fun ys k _ => idxV v ys k = idxV v l 0) (fun k _ ρ h => ρ 8 = .fv (.int k)) () rfl (by simp -implicitDefEqProofs only [go_sem, simprocAttr]) ?_ ?_
  · rintro _ ρ h e r8
    simp -implicitDefEqProofs only [go_sem, simprocAttr, r8]
    rw [← e]
    exact ret_fv
  · rintro x ys k _ ρ h hx hk hm hk' hw e r8
    by_cases hv : v = x
    · subst hv
      simp -implicitDefEqProofs only [go_sem, simprocAttr, r8, hk', index_map hs idx_26 hx rfl]
      rw [← e]
      exact ret_eq (by simp [idxV])
    · have hv' : (v == x) = false := by simpa using hv
      simp -implicitDefEqProofs only [go_sem, simprocAttr, r8, hk', index_map hs idx_26 hx rfl, hv', hw]
      refine nxtL () ?_ ?_
      · rw [← e]; simp [idxV, hv]
      · simp -implicitDefEqProofs only [go_sem, simprocAttr]
theorem t107 (s : FV) (l : List Int) (v : Int) (hs : lsOf s = some (ints l)) (hl : l.length ≤ 9223372036854775807) : Fn Q 107 [.fo s, .fo (.int v)] (.one (.fx (.bool (l.contains v)))) := by
  refine w107 ?_
  dsimp only [c107, sop, gop, nop, qmv, qsg, qex, qld, qcl, qln, qix, qbo, qt, qi]
  simp -implicitDefEqProofs only [go_sem, simprocAttr]
  refine call1 [] false (t113 s l v hs hl) ?_
  simp -implicitDefEqProofs only [go_sem, simprocAttr, idxV_ge]
  exact ret_fv
def badP (N : Int) (p : Int × Int) : Bool := !(inB 0 (N - 1) p.1 && inB 0 (N - 1) p.2)
def badQ (N : Int) (p : Int × Int) : Bool := badP N p || decide (p.1 = p.2)
theorem t100 {N : Int} {hs al : FV} (n0 : 1 ≤ N) (n1 : N ≤ 8) (p : Int × Int) : Fn Q 100 [.fo (pF p), .fo (.ptr [.int N, hs, al])] (.one (.fx (.bool (badP N p)))) := by
  have w : IntKind.i64.wrap (N - 1) = N - 1 := wr _ (by omega) (by omega)
  refine w100 ?_
  dsimp only [c100, sop, gop, nop, qmv, qsg, qex, qld, qcl, qln, qix, qbo, qt, qi]
  simp -implicitDefEqProofs only [go_sem, simprocAttr, pF, w]
  refine call1 [] true (w2 0 (N - 1) p.1 p.2) ?_
  simp -implicitDefEqProofs only [go_sem, simprocAttr]
  exact ret_fv
theorem t101 {N : Int} {hs al : FV} (n0 : 1 ≤ N) (n1 : N ≤ 8) (p : Int × Int) : Fn Q 101 [.fo (pF p), .fo (.ptr [.clos 100 [.ptr [.int N, hs, al]]])] (.one (.fx (.bool (badQ N p)))) := by
  refine w101 ?_
  dsimp only [c101, sop, gop, nop, qmv, qsg, qex, qld, qcl, qln, qix, qbo, qt, qi]
  simp -implicitDefEqProofs only [go_sem, simprocAttr, pF]
  refine callV [] false [.fo (pF p)] (t100 n0 n1 p) ⟨rfl, trivial⟩ (.inl rfl) ?_
  cases hb : badP N p
  · simp -implicitDefEqProofs only [go_sem, simprocAttr, hb, badQ]
    exact ret_eq (by congr 2)
  · simp -implicitDefEqProofs only [go_sem, simprocAttr, hb, badQ]
    exact ret_fv
end S07

namespace S07
open Go Abs
def headsF : List (Int × Int) → List Int → Option (List Int)
  | [], arr => some arr
  | p :: ps, arr => if gI arr p.1 = -1 ∧ gI arr p.2 = -1 then headsF ps ((arr.set p.1.toNat p.2).set p.2.toNat p.1) else none
def alikeF : List (Int × Int) → List ((Int × Int) × Bool) → List ((Int × Int) × Bool)
  | [], M => M
  | p :: ps, M => alikeF ps (kUp (kUp M p false true) (p.2, p.1) false true)
def arr0 : List Int := [-1, -1, -1, -1, -1, -1, -1, -1]
def errA (N : Int) (H A : List (Int × Int)) : Int :=
  if inB 1 8 N = false then 4 else if 8 < H.length ∨ 8 < A.length then 5 else if H.any (badP N) ∨ A.any (badQ N) then 2 else if headsF H arr0 = none then 6 else 0
def alphaV (N : Int) (hs al : FV) (arr : List Int) (M : List ((Int × Int) × Bool)) : FV := .ptr (.int N :: hs :: al :: (arr.map .int ++ [.map (esF pF .bool M)]))
structure SetV (s : FV) (N : Int) (hs al : FV) (H A : List (Int × Int)) : Prop where
  eq : s = .agg [.int N, hs, al]
  h : lsOf hs = some (H.map pF)
  a : lsOf al = some (A.map pF)
  hl : H.length ≤ 9223372036854775807
  al : A.length ≤ 9223372036854775807
def alphaR (N : Int) (hs al : FV) (H A : List (Int × Int)) : FV := if errA N H A = 0 then alphaV N hs al ((headsF H arr0).getD []) (alikeF A []) else .val (.pointer none)
theorem not_bad {N : Int} {p : Int × Int} (h : badP N p = false) : 0 ≤ p.1 ∧ p.1 < N ∧ 0 ≤ p.2 ∧ p.2 < N := by
  simp only [badP, Bool.not_eq_false', Bool.and_eq_true, inB_iff] at h
  omega
theorem kp {a b : Int} (h1 : 0 ≤ a) (h2 : a < 8) (h3 : 0 ≤ b) (h4 : b < 8) : KeyOk Q 115 (pF (a, b)) := by
  have key : ∀ x : Fin 8, ∀ y : Fin 8, (keyOf Q 115 (.agg #[.int .i64 (x.val : Int), .int .i64 (y.val : Int)])).isSome = true := by
    intro x y
    revert x y
    exact of_decide_eq_true (by kernel_rfl)
  have := key ⟨a.toNat, by omega⟩ ⟨b.toNat, by omega⟩
  simp only [show ((a.toNat : Nat) : Int) = a by omega, show ((b.toNat : Nat) : Int) = b by omega] at this
  obtain ⟨l, hl⟩ := Option.isSome_iff_exists.1 this
  exact ⟨_, l, rfl, hl⟩
end S07

namespace S07
open Go Abs
theorem headsF_len : ∀ (H : List (Int × Int)) (arr r : List Int), headsF H arr = some r → r.length = arr.length
  | [], arr, r, h => by simp [headsF] at h; rw [← h]
  | p :: ps, arr, r, h => by
    simp only [headsF] at h
    split at h
    · have := headsF_len ps _ r h
      simpa using this
    · simp at h
theorem t82 {s : FV} {N : Int} {hs al : FV} {H A : List (Int × Int)} (v : SetV s N hs al H A) : Fn Q 82 [.fo s] (.tup [.fx (alphaR N hs al H A), .fx (.int (errA N H A))]) := by
  obtain ⟨rfl, hH, hA, lH, lA⟩ := v
  have o1 := ls_one hH
  have o2 := ls_one hA
  have f1 := ls_cells hH
  have f2 := ls_cells hA
  by_cases g1 : inB 1 8 N = false
  · have e : errA N H A = 4 := by simp [errA, g1]
    refine w82 ?_
    dsimp only [c82, sop, gop, nop, qmv, qsg, qex, qld, qcl, qln, qix, qbo, qt, qi]
    simp -implicitDefEqProofs only [go_sem, simprocAttr, o1, o2]
    refine call1 [] true (w1 1 8 N) ?_
    simp -implicitDefEqProofs only [go_sem, simprocAttr, g1, o1, o2]
    refine ret_tup (fun _ => true) ?_ (by simp [ownNames])
    simp -implicitDefEqProofs only [go_sem, simprocAttr, alphaR, e]
  have g1' : inB 1 8 N = true := by simpa using g1
  obtain ⟨n0, n1⟩ := inB_iff.1 g1'
  by_cases g2 : 8 < H.length
  · have e : errA N H A = 5 := by simp [errA, g1', g2]
    have g2' : (8 : Int) < (H.length : Nat) := by omega
    refine w82 ?_
    dsimp only [c82, sop, gop, nop, qmv, qsg, qex, qld, qcl, qln, qix, qbo, qt, qi]
    simp -implicitDefEqProofs only [go_sem, simprocAttr, o1, o2]
    refine call1 [] true (w1 1 8 N) ?_
    simp -implicitDefEqProofs only [go_sem, simprocAttr, g1', o1, o2, lenV_ls hH, g2']
    refine ret_tup (fun _ => true) ?_ (by simp [ownNames])
    simp -implicitDefEqProofs only [go_sem, simprocAttr, alphaR, e]
  have g2' : ¬ (8 : Int) < (H.length : Nat) := by omega
  by_cases g3 : 8 < A.length
  · have e : errA N H A = 5 := by simp [errA, g1', g3]
    have g3' : (8 : Int) < (A.length : Nat) := by omega
    refine w82 ?_
    dsimp only [c82, sop, gop, nop, qmv, qsg, qex, qld, qcl, qln, qix, qbo, qt, qi]
    simp -implicitDefEqProofs only [go_sem, simprocAttr, o1, o2]
    refine call1 [] true (w1 1 8 N) ?_
    simp -implicitDefEqProofs only [go_sem, simprocAttr, g1', o1, o2, lenV_ls hH, lenV_ls hA, g2', g3']
    refine ret_tup (fun _ => true) ?_ (by simp [ownNames])
    simp -implicitDefEqProofs only [go_sem, simprocAttr, alphaR, e]
  have g3' : ¬ (8 : Int) < (A.length : Nat) := by omega
  cases g4 : H.any (badP N)
  case true =>
    have e : errA N H A = 2 := by simp [errA, g1', g2, g3, g4]
    refine w82 ?_
    dsimp only [c82, sop, gop, nop, qmv, qsg, qex, qld, qcl, qln, qix, qbo, qt, qi]
    simp -implicitDefEqProofs only [go_sem, simprocAttr, o1, o2]
    refine call1 [] true (w1 1 8 N) ?_
    simp -implicitDefEqProofs only [go_sem, simprocAttr, g1', o1, o2, lenV_ls hH, lenV_ls hA, g2', g3']
    refine callC t102 true (fun x => badP N x.toP) (by rfl) hH (pF_elem H) (by simpa using lH) en100 (by rfl) ?_ ?_
    · intro x hx
      obtain ⟨p, hp, rfl⟩ := List.mem_map.1 hx
      exact t100 n0 n1 p
    simp -implicitDefEqProofs only [go_sem, simprocAttr, pF_any H (badP N), g4]
    refine ret_tup (fun _ => true) ?_ (by simp [ownNames])
    simp -implicitDefEqProofs only [go_sem, simprocAttr, alphaR, e]
  cases g5 : A.any (badQ N)
  case true =>
    have e : errA N H A = 2 := by simp [errA, g1', g2, g3, g5]
    refine w82 ?_
    dsimp only [c82, sop, gop, nop, qmv, qsg, qex, qld, qcl, qln, qix, qbo, qt, qi]
    simp -implicitDefEqProofs only [go_sem, simprocAttr, o1, o2]
    refine call1 [] true (w1 1 8 N) ?_
    simp -implicitDefEqProofs only [go_sem, simprocAttr, g1', o1, o2, lenV_ls hH, lenV_ls hA, g2', g3']
    refine callC t102 true (fun x => badP N x.toP) (by rfl) hH (pF_elem H) (by simpa using lH) en100 (by rfl) ?_ ?_
    · intro x hx
      obtain ⟨p, hp, rfl⟩ := List.mem_map.1 hx
      exact t100 n0 n1 p
    simp -implicitDefEqProofs only [go_sem, simprocAttr, pF_any H (badP N), g4]
    refine callC t102 true (fun x => badQ N x.toP) (by rfl) hA (pF_elem A) (by simpa using lA) en101 (by rfl) ?_ ?_
    · intro x hx
      obtain ⟨p, hp, rfl⟩ := List.mem_map.1 hx
      exact t101 n0 n1 p
    simp -implicitDefEqProofs only [go_sem, simprocAttr, pF_any A (badQ N), g5]
    refine ret_tup (fun _ => true) ?_ (by simp [ownNames])
    simp -implicitDefEqProofs only [go_sem, simprocAttr, alphaR, e]
  have bH : ∀ p ∈ H, 0 ≤ p.1 ∧ p.1 < N ∧ 0 ≤ p.2 ∧ p.2 < N := fun p hp => not_bad (not_any g4 hp)
  have bA : ∀ p ∈ A, 0 ≤ p.1 ∧ p.1 < N ∧ 0 ≤ p.2 ∧ p.2 < N := fun p hp => not_bad (by have := not_any g5 hp; simp [badQ] at this; exact this.1)
  refine w82 ?_
  dsimp only [c82, sop, gop, nop, qmv, qsg, qex, qld, qcl, qln, qix, qbo, qt, qi]
  simp -implicitDefEqProofs only [go_sem, simprocAttr, o1, o2]
  refine call1 [] true (w1 1 8 N) ?_
  simp -implicitDefEqProofs only [go_sem, simprocAttr, g1', o1, o2, lenV_ls hH, lenV_ls hA, g2', g3']
  refine callC t102 true (fun x => badP N x.toP) (by rfl) hH (pF_elem H) (by simpa using lH) en100 (by rfl) ?_ ?_
  · intro x hx
    obtain ⟨p, hp, rfl⟩ := List.mem_map.1 hx
    exact t100 n0 n1 p
  simp -implicitDefEqProofs only [go_sem, simprocAttr, pF_any H (badP N), g4]
  refine callC t102 true (fun x => badQ N x.toP) (by rfl) hA (pF_elem A) (by simpa using lA) en101 (by rfl) ?_ ?_
  · intro x hx
    obtain ⟨p, hp, rfl⟩ := List.mem_map.1 hx
    exact t101 n0 n1 p
  simp -implicitDefEqProofs only [go_sem, simprocAttr, pF_any A (badQ N), g5]
  refine mpMake ?_
  simp -implicitDefEqProofs only [go_sem, simprocAttr, o1, o2]
  refine lp (n := 9) ?_
  iterate 8
    refine lpStep ?_
    simp -implicitDefEqProofs only [go_sem, simprocAttr]
  refine lpStep ?_
  simp -implicitDefEqProofs only [go_sem, simprocAttr, lenV_ls hH]
  refine lpL (β := List Int) 53 [8] 53 [8, 40] H lH (fun ps k arr => arr.length = 8 ∧ headsF ps arr = headsF H arr0) (fun k arr ρ h => ρ 53 = .fv (.int k) ∧ h.gen 40 = 1 ∧ h.obj 40 = some (.box (.fv (.int N) :: .fv hs :: .fv al :: (arr.map (fun n => LV.fv (.int n)) ++ [.mp 38 1])))) arr0 ⟨rfl, rfl⟩ ?_ ?_ ?_
  · simp -implicitDefEqProofs only [go_sem, simprocAttr, arr0]
  · rintro arr ρ h ⟨hl, hh⟩ ⟨r53, g40, o40⟩
    have e : errA N H A = 0 := by simp [errA, g1', g2, g3, g4, g5, ← hh, headsF]
    simp -implicitDefEqProofs only [go_sem, simprocAttr, r53, lenV_ls hA]
    refine lpL (β := List ((Int × Int) × Bool)) 95 [10] 95 [10, 38] A lA (fun ps k M => alikeF ps M = alikeF A [] ∧ (M.map Prod.fst).Nodup ∧ ∀ e ∈ M, KeyOk Q 115 (pF e.1)) (fun k M ρ h => ρ 95 = .fv (.int k) ∧ h.gen 38 = 1 ∧ h.obj 38 = some (.map false (esF pF .bool M))) [] ⟨rfl, by simp, by simp⟩ ?_ ?_ ?_
    · simp -implicitDefEqProofs only [go_sem, simprocAttr]; rfl
    · rintro M ρ h ⟨hM, nd, hk⟩ ⟨r95, g38, o38⟩
      simp -implicitDefEqProofs only [go_sem, simprocAttr, r95]
      refine ret_tup (fun _ => true) ?_ (by simp [ownNames])
      simp only [alikeF, headsF] at hM hh
      have e2 : alphaR N hs al H A = alphaV N hs al arr M := by simp [alphaR, e, ← hh, ← hM]
      simp -implicitDefEqProofs only [go_sem, simprocAttr, e, e2, g40, o40, g38, o38, mapO_append, mapO_ints, alphaV]
    · rintro p ps k M ρ h hx hk hm hk' hw ⟨hM, nd, hK⟩ ⟨r95, g38, o38⟩
      obtain ⟨b1, b2, b3, b4⟩ := bA p hm
      have k1 := kp b1 (show p.1 < 8 by omega) b3 (show p.2 < 8 by omega)
      have k2 := kp b3 (show p.2 < 8 by omega) b1 (show p.1 < 8 by omega)
      have hK1 : ∀ e ∈ kUp M p false true, KeyOk Q 115 (pF e.1) := by
        intro e he
        rcases kUp_mem he with he | rfl
        · exact hK e he
        · exact k1
      have nd1 := kUp_nodup p false true nd
      simp -implicitDefEqProofs only [go_sem, simprocAttr, r95, hk', index_map hA idx_22 hx rfl, pF, g40, o40, arr_last' hl]
      refine mpEntry (kF := pF) (vF := .bool) (M := M) (k := p) (z := false) mty_121 (by simp -implicitDefEqProofs only [go_sem, simprocAttr]; rfl) (by simp -implicitDefEqProofs only [go_sem, simprocAttr, g38, o38]) (by simp -implicitDefEqProofs only [go_sem, simprocAttr]; rfl) pF_inj key_115 hK k1 zrf_4 nd ?_
      simp -implicitDefEqProofs only [go_sem, simprocAttr]
      refine mpStore (kF := pF) (vF := .bool) (M := M) (k := p) (z := false) (v' := true) (by simp -implicitDefEqProofs only [go_sem, simprocAttr]; rfl) (by simp -implicitDefEqProofs only [go_sem, simprocAttr, g38]) (by simp -implicitDefEqProofs only [go_sem, simprocAttr]) nd (by simp -implicitDefEqProofs only [go_sem, simprocAttr]) ?_
      simp -implicitDefEqProofs only [go_sem, simprocAttr]
      refine mpEntry (kF := pF) (vF := .bool) (M := kUp M p false true) (k := (p.2, p.1)) (z := false) mty_121 (by simp -implicitDefEqProofs only [go_sem, simprocAttr]; rfl) (by simp -implicitDefEqProofs only [go_sem, simprocAttr, g38]) (by simp -implicitDefEqProofs only [go_sem, simprocAttr]; rfl) pF_inj key_115 hK1 k2 zrf_4 nd1 ?_
      simp -implicitDefEqProofs only [go_sem, simprocAttr]
      refine mpStore (kF := pF) (vF := .bool) (M := kUp M p false true) (k := (p.2, p.1)) (z := false) (v' := true) (by simp -implicitDefEqProofs only [go_sem, simprocAttr]; rfl) (by simp -implicitDefEqProofs only [go_sem, simprocAttr, g38]) (by simp -implicitDefEqProofs only [go_sem, simprocAttr]) nd1 (by simp -implicitDefEqProofs only [go_sem, simprocAttr]) ?_
      simp -implicitDefEqProofs only [go_sem, simprocAttr, r95, hw]
      refine nxtL (kUp (kUp M p false true) (p.2, p.1) false true) ⟨hM, kUp_nodup _ _ _ nd1, ?_⟩ ?_
      · intro e he
        rcases kUp_mem he with he | rfl
        · exact hK1 e he
        · exact k2
      · simp -implicitDefEqProofs only [go_sem, simprocAttr, g38]
  · rintro p ps k arr ρ h hx hk hm hk' hw ⟨hl, hh⟩ ⟨r53, g40, o40⟩
    obtain ⟨b1, b2, b3, b4⟩ := bH p hm
    have l1 : p.1.toNat < arr.length := by omega
    have l2 : p.2.toNat < arr.length := by omega
    have c1 : p.1 < 8 := by omega
    have c2 : p.2 < 8 := by omega
    have q1 : arr.getD p.1.toNat 0 = gI arr p.1 := rfl
    have q2 : arr.getD p.2.toNat 0 = gI arr p.2 := rfl
    have len1 : 3 + p.1.toNat + 1 ≤ arr.length + 1 + 1 + 1 + 1 := by omega
    have len2 : 3 + p.2.toNat + 1 ≤ arr.length + 1 + 1 + 1 + 1 := by omega
    by_cases u1 : gI arr p.1 = -1
    · by_cases u2 : gI arr p.2 = -1
      · simp -implicitDefEqProofs only [go_sem, simprocAttr, r53, hk', index_map hH idx_22 hx rfl, pF, g40, o40, b1, b3, c1, c2, arr_get l1, arr_get l2, q1, q2, u1, u2]
        refine W_opsD _ _ _ (Vs [[], [], [], [], [], [], [], [], [], [], [], [], [], [40]]) ?_ ?_
        · decide
        have l3 : p.2.toNat < (arr.set p.1.toNat p.2).length := by simpa using l2
        simp -implicitDefEqProofs only [go_sem, simprocAttr, g40, o40, b1, b3, c1, c2, arr_set l1, arr_set l3, r53, hw]
        refine ⟨by simp; omega, by simp; omega, ?_⟩
        refine nxtL ((arr.set p.1.toNat p.2).set p.2.toNat p.1) ⟨by simpa using hl, ?_⟩ ?_
        · rw [← hh]; simp [headsF, u1, u2]
        · simp -implicitDefEqProofs only [go_sem, simprocAttr, g40]
      · have u2' : (gI arr p.2 != -1) = true := by simpa using u2
        simp -implicitDefEqProofs only [go_sem, simprocAttr, r53, hk', index_map hH idx_22 hx rfl, pF, g40, o40, b1, b3, c1, c2, arr_get l1, arr_get l2, q1, q2, u1, u2']
        refine ret_tup (fun _ => true) ?_ (by simp [ownNames])
        have e3 : headsF H arr0 = none := by rw [← hh]; simp [headsF, u2]
        have e : errA N H A = 6 := by simp [errA, g1', g2, g3, g4, g5, e3]
        simp -implicitDefEqProofs only [go_sem, simprocAttr, alphaR, e]
    · have u1' : (gI arr p.1 != -1) = true := by simpa using u1
      simp -implicitDefEqProofs only [go_sem, simprocAttr, r53, hk', index_map hH idx_22 hx rfl, pF, g40, o40, b1, b3, c1, c2, arr_get l1, arr_get l2, q1, q2, u1']
      refine ret_tup (fun _ => true) ?_ (by simp [ownNames])
      have e3 : headsF H arr0 = none := by rw [← hh]; simp [headsF, u1]
      have e : errA N H A = 6 := by simp [errA, g1', g2, g3, g4, g5, e3]
      simp -implicitDefEqProofs only [go_sem, simprocAttr, alphaR, e]
end S07

