/- A part of the proof: G12s, G12t. -/
import Derived.Test.YtjelfogbefnmaaaG12r
set_option linter.unusedVariables false
set_option linter.unusedSimpArgs false
set_option maxRecDepth 20000
namespace S12
open Go Abs
theorem t14 {lo hi n a b : Int} {f : Bool} (v : VS lo hi) (w : VW n a b) : Fn Q 14 [.fo (works lo hi), .fo (.list f [wg n a b])] (.tup [.fx (ozR lo hi n a b), .fx (.int (if ozO lo hi n a b then 0 else 9))]) := by
  have c := t31 (f := f) v w
  have c2 := t32 (f := f) v w
  have o : (LV.fv (ozR lo hi n a b)).one = true := by unfold ozR; split <;> rfl
  cases e : ozO lo hi n a b
  all_goals
    rw [e] at c2
    refine fn_intro Go.Proofs.Try.func14 rfl (by kernel_rfl) mix (k14 0) (Nat.le_of_ble_eq_true (by kernel_rfl)) ?_
    refine Abs.walk ?_
    unfold c14
    simp -implicitDefEqProofs only [go_sem, simprocAttr, works]
    refine call0 [] false (c) (by first | exact trivial | exact ⟨rfl, trivial⟩ | exact ⟨rfl, rfl, trivial⟩ | exact ⟨rfl, rfl, rfl, trivial⟩ | exact ⟨rfl, rfl, rfl, rfl, trivial⟩ | exact ⟨rfl, rfl, rfl, rfl, rfl, trivial⟩ | exact ⟨rfl, rfl, rfl, rfl, rfl, rfl, trivial⟩ | exact ⟨rfl, rfl, rfl, rfl, rfl, rfl, rfl, trivial⟩ | exact ⟨rfl, rfl, rfl, rfl, rfl, rfl, rfl, rfl, trivial⟩ | (simp -implicitDefEqProofs only [go_sem, simprocAttr] <;> first | rfl | exact ⟨rfl, rfl⟩ | exact ⟨rfl, rfl, rfl⟩ | exact ⟨rfl, rfl, rfl, rfl⟩)) (.inl rfl) ?_
    simp -implicitDefEqProofs only [go_sem, simprocAttr, wgs]
    refine call0 [] false (c2) (by first | exact trivial | exact ⟨rfl, trivial⟩ | exact ⟨rfl, rfl, trivial⟩ | exact ⟨rfl, rfl, rfl, trivial⟩ | exact ⟨rfl, rfl, rfl, rfl, trivial⟩ | exact ⟨rfl, rfl, rfl, rfl, rfl, trivial⟩ | exact ⟨rfl, rfl, rfl, rfl, rfl, rfl, trivial⟩ | exact ⟨rfl, rfl, rfl, rfl, rfl, rfl, rfl, trivial⟩ | exact ⟨rfl, rfl, rfl, rfl, rfl, rfl, rfl, rfl, trivial⟩ | (simp -implicitDefEqProofs only [go_sem, simprocAttr] <;> first | rfl | exact ⟨rfl, rfl⟩ | exact ⟨rfl, rfl, rfl⟩ | exact ⟨rfl, rfl, rfl, rfl⟩)) (.inl rfl) ?_
    simp -implicitDefEqProofs only [go_sem, simprocAttr]
    refine ret_tup (fun _ => true) ?_ (by simp [ownNames])
    simp -implicitDefEqProofs only [go_sem, simprocAttr, ozR, e]
theorem t44 (a b : Int) (h : okSpan 0 100000 a b = true) : Fn Q 44 [.fo (span a b)] (.one (.fx (.bool false))) := by
  refine fn_intro Go.Proofs.Try.func44 rfl (by kernel_rfl) mix (k44 0) (Nat.le_of_ble_eq_true (by kernel_rfl)) ?_
  refine Abs.walk ?_
  unfold c44
  simp -implicitDefEqProofs only [go_sem, simprocAttr, span]
  refine call0 [] false (t45 0 100000 a b) (by first | exact trivial | exact ⟨rfl, trivial⟩ | exact ⟨rfl, rfl, trivial⟩ | exact ⟨rfl, rfl, rfl, trivial⟩ | exact ⟨rfl, rfl, rfl, rfl, trivial⟩ | exact ⟨rfl, rfl, rfl, rfl, rfl, trivial⟩ | exact ⟨rfl, rfl, rfl, rfl, rfl, rfl, trivial⟩ | exact ⟨rfl, rfl, rfl, rfl, rfl, rfl, rfl, trivial⟩ | exact ⟨rfl, rfl, rfl, rfl, rfl, rfl, rfl, rfl, trivial⟩ | (simp -implicitDefEqProofs only [go_sem, simprocAttr] <;> first | rfl | exact ⟨rfl, rfl⟩ | exact ⟨rfl, rfl, rfl⟩ | exact ⟨rfl, rfl, rfl, rfl⟩)) (.inl rfl) ?_
  simp -implicitDefEqProofs only [go_sem, simprocAttr, h]
  exact ret_fv
theorem t23c {b : FV} {st lo hi : Int} {es ms : List (Int × Int)} (v : VB b st lo hi es ms) {f1 f2 : Bool} {x y : Int} (h : okSpan 0 100000 x y = true) : Fn Q 23 [.fo b, .fo (.list f1 [.list f2 [span x y]])] (.tup [.fx b, .fx (.int 0)]) := by
  have c := t42 v
  obtain ⟨⟨_, _, f1, f2, f3, se, sm, rfl, he, hm⟩, s0, s1, el, ml, lo0, lh, hi1, w, es1, ms1⟩ := v
  have o1 : (LV.fv se).one = true := by rcases ls_cases he with ⟨f4, rfl⟩ | ⟨rfl, he0⟩ <;> rfl
  have o2 : (LV.fv sm).one = true := by rcases ls_cases hm with ⟨f4, rfl⟩ | ⟨rfl, he0⟩ <;> rfl
  refine fn_intro Go.Proofs.Try.func23 rfl (by kernel_rfl) mix (k23 0) (Nat.le_of_ble_eq_true (by kernel_rfl)) ?_
  refine Abs.walk ?_
  unfold c23
  simp -implicitDefEqProofs only [go_sem, simprocAttr, o1, o2]
  refine call0 [] false (c) (by first | exact trivial | exact ⟨rfl, trivial⟩ | exact ⟨rfl, rfl, trivial⟩ | exact ⟨rfl, rfl, rfl, trivial⟩ | exact ⟨rfl, rfl, rfl, rfl, trivial⟩ | exact ⟨rfl, rfl, rfl, rfl, rfl, trivial⟩ | exact ⟨rfl, rfl, rfl, rfl, rfl, rfl, trivial⟩ | exact ⟨rfl, rfl, rfl, rfl, rfl, rfl, rfl, trivial⟩ | exact ⟨rfl, rfl, rfl, rfl, rfl, rfl, rfl, rfl, trivial⟩ | (simp -implicitDefEqProofs only [go_sem, simprocAttr] <;> first | rfl | exact ⟨rfl, rfl⟩ | exact ⟨rfl, rfl, rfl⟩ | exact ⟨rfl, rfl, rfl, rfl⟩)) (.inl rfl) ?_
  simp -implicitDefEqProofs only [go_sem, simprocAttr, o1, o2]
  refine lp (n := 2) (lpStep ?_)
  simp -implicitDefEqProofs only [go_sem, simprocAttr, o1, o2]
  refine callC t43 true (fun _ => false) (by rfl) (xs := [span x y]) rfl (by simp [Elem, span, FV.cells, partF]) (by simp) en44 (by rfl) ?_ ?_
  · intro z hz
    simp at hz; subst hz
    exact t44 x y h
  simp -implicitDefEqProofs only [go_sem, simprocAttr, any_false, o1, o2]
  refine lpStep ?_
  simp -implicitDefEqProofs only [go_sem, simprocAttr, o1, o2]
  refine ret_tup (fun _ => true) ?_ (by simp [ownNames])
  simp -implicitDefEqProofs only [go_sem, simprocAttr]
/-- What truths yields: what a sign takes, and what is left. -/
def thr (s n : Int) : Int → Nat → List (List FV)
  | _, 0 => []
  | k, m + 1 => [.agg [.int k, .int 0, .int 0], .int (s - k * n)] :: thr s n (k + 1) m
structure P70 (s n lo hi : Int) (h : AH) : Prop where
  g2 : h.gen 2 = 1
  g3 : h.gen 3 = 1
  g4 : h.gen 4 = 1
  gy : h.gen 1000000000 = 0
  o2 : h.obj 2 = some (.box [.fv (.int s), .fv (.int n), .fv (.int 0), .fv (.int 0), .fv (.int lo), .fv (.int hi), .fv (.int 0), .fv (.int 0), .fv (.int 0), .fv (.int 0), .fv (.int 1)])
  o3 : h.obj 3 = some (.box [.it 1000000000 0])
  o4 : h.obj 4 = some (.box [.clos 70 [.ptr 2 1 0, .ptr 3 1 0, .ptr 4 1 0]])
def YR (rest : List (List FV)) (lv : LV) (h' : AH) : Prop := h'.gen 1000000000 = 0 ∧ ((lv = .fv (.bool true) ∧ h'.y = some rest) ∨ (lv = .fv (.bool false) ∧ h'.y = none))
theorem ex_YR {n : Nat} {l : List Nat} {h : AH} (gy : h.gen 1000000000 = 0) (rest : List (List FV)) : ∃ lv h', OffH n l h h' ∧ YR rest lv h' :=
  ⟨.fv (.bool true), ⟨h.gen, h.obj, some rest⟩, fun _ _ => ⟨rfl, rfl⟩, gy, .inl ⟨rfl, rfl⟩⟩
theorem a70l {s n lo hi x l : Int} {rest : List (List FV)} {h : AH} (p : P70 s n lo hi h) (hy : h.y = some ([.agg [.int x, .int 0, .int 0], .int l] :: rest)) :
    AC Q 70 [.fv (.agg [.int x, .int 0, .int 0]), .fv (.int 1), .fv (.int l), .ptr 2 1 0, .ptr 3 1 0, .ptr 4 1 0] h fun lv h' => OffH 2000 [] h h' ∧ YR rest lv h' := by
  obtain ⟨g2, g3, g4, gy, o2, o3, o4⟩ := p
  refine ac_intro (nb := 2000) Go.Proofs.Try.func70 rfl (by kernel_rfl) mix (k70 2000) (Nat.le_of_ble_eq_true (by kernel_rfl)) ?_
  refine Abs.walk ?_
  unfold c70
  simp -implicitDefEqProofs only [go_sem, simprocAttr, g2, g3, g4, o2, o3, o4]
  refine callY [.agg [.int x, .int 0, .int 0], .int l] rest (by simp -implicitDefEqProofs only [go_sem, simprocAttr, yN, gy]) (by rfl) (by simp -implicitDefEqProofs only [go_sem, simprocAttr, hy]) ?_ ?_
  · simp -implicitDefEqProofs only [go_sem, simprocAttr, resLV, YR, gy]
  · simp -implicitDefEqProofs only [go_sem, simprocAttr, resLV, YR, gy]
theorem a70 {s n lo hi : Int} {m : Nat} {h : AH} (p : P70 s n lo hi h) (hm : lo + m = hi + 1) (hy : h.y = some (thr s n lo m)) (s0 : 0 ≤ s) (s1 : s ≤ 100000) (n0 : 0 ≤ n) (n1 : n ≤ 1000) (lo0 : 0 ≤ lo) (hi1 : hi ≤ 50) :
    AC Q 70 [.fv (.agg [.int 0, .int 0, .int 0]), .fv (.int 0), .fv (.int s), .ptr 2 1 0, .ptr 3 1 0, .ptr 4 1 0] h fun lv h' => OffH 1000 [] h h' ∧ YR [] lv h' := by
  have p0 := p
  obtain ⟨g2, g3, g4, gy, o2, o3, o4⟩ := p
  refine ac_intro (nb := 1000) Go.Proofs.Try.func70 rfl (by kernel_rfl) mix (k70 1000) (Nat.le_of_ble_eq_true (by kernel_rfl)) ?_
  refine Abs.walk ?_
  unfold c70
  simp -implicitDefEqProofs only [go_sem, simprocAttr, g2, g3, g4, o2, o3, o4]
  refine lpH 9 [] 2000 [1006] (fun k : Nat => m - k) (fun k => k ≤ m) (fun k ρ h' => ρ 10 = .fv (.int (lo + k)) ∧ h'.gen 1006 = h.gen 1006 + 1 ∧ (∃ c, h'.obj 1006 = some (.box [.fv (.int c), .fv (.int 0), .fv (.int 0)])) ∧ h'.y = some (thr s n (lo + k) (m - k)) ∧ h'.gen 1000000000 = 0) 0 (Nat.zero_le _) ?_ ?_
  · refine ⟨by simp -implicitDefEqProofs only [go_sem, simprocAttr], by simp -implicitDefEqProofs only [go_sem, simprocAttr], ⟨0, by simp -implicitDefEqProofs only [go_sem, simprocAttr]⟩, by simp -implicitDefEqProofs only [go_sem, simprocAttr, hy], by simp -implicitDefEqProofs only [go_sem, simprocAttr, gy]⟩
  · rintro k ρ k' hk ⟨r10, g6, ⟨c, o6⟩, hy', gy'⟩
    by_cases hl : k < m
    · have e1 : lo + (k : Int) ≤ hi := by omega
      have p2 : 0 ≤ (lo + k) * n := Int.mul_nonneg (by omega) n0
      have p3 : (lo + k) * n ≤ 50 * 1000 := Int.mul_le_mul (by omega) n1 n0 (by omega)
      have w1 : IntKind.i64.wrap ((lo + k) * n) = (lo + k) * n := wr _ (by omega) (by omega)
      have w2 : IntKind.i64.wrap (s - (lo + k) * n) = s - (lo + k) * n := wr _ (by omega) (by omega)
      have w3 : IntKind.i64.wrap (lo + k + 1) = lo + k + 1 := wr _ (by omega) (by omega)
      obtain ⟨j, hj⟩ : ∃ j, m - k = j + 1 := ⟨m - k - 1, by omega⟩
      have hj' : m - (k + 1) = j := by omega
      rw [hj] at hy'
      simp -implicitDefEqProofs only [go_sem, simprocAttr, r10, g6, o6, g2, g3, g4, o2, o3, o4, e1, w1, w2, w3]
      refine callIH 2000 [] (a70l (s := s) (n := n) (lo := lo) (hi := hi) ⟨by simp -implicitDefEqProofs only [go_sem, simprocAttr, g2], by simp -implicitDefEqProofs only [go_sem, simprocAttr, g3], by simp -implicitDefEqProofs only [go_sem, simprocAttr, g4], by simp -implicitDefEqProofs only [go_sem, simprocAttr, gy'], by simp -implicitDefEqProofs only [go_sem, simprocAttr, o2], by simp -implicitDefEqProofs only [go_sem, simprocAttr, o3], by simp -implicitDefEqProofs only [go_sem, simprocAttr, o4]⟩ (rest := thr s n (lo + k + 1) j) (by simp -implicitDefEqProofs only [go_sem, simprocAttr, hy', thr])) (ex_YR (by simp -implicitDefEqProofs only [go_sem, simprocAttr, gy']) _) ?_
      · rintro lv h3 ⟨gy3, ⟨rfl, hy3⟩ | ⟨rfl, hy3⟩⟩
        · simp -implicitDefEqProofs only [go_sem, simprocAttr, Kl_eq, r10, w3]
          refine nxt (k + 1) (by omega) (by omega) ?_
          simp -implicitDefEqProofs only [go_sem, simprocAttr, g6, hy3, hj', gy3]
          refine ⟨?_, ⟨_, rfl⟩, ?_⟩
          · push_cast; rw [Int.add_assoc]
          · push_cast; rw [Int.add_assoc]
        · simp -implicitDefEqProofs only [go_sem, simprocAttr, Kl_eq]
          simp -implicitDefEqProofs only [go_sem, simprocAttr, resLV, YR, gy3, hy3]
    · have e1 : ¬ lo + (k : Int) ≤ hi := by omega
      have e2 : m - k = 0 := by omega
      rw [e2] at hy'
      simp -implicitDefEqProofs only [go_sem, simprocAttr, r10, g2, o2, e1]
      simp -implicitDefEqProofs only [go_sem, simprocAttr, resLV, YR, gy', hy', thr]
theorem t55 {s n lo hi : Int} {m : Nat} (hm : lo + m = hi + 1) (s0 : 0 ≤ s) (s1 : s ≤ 100000) (n0 : 0 ≤ n) (n1 : n ≤ 1000) (lo0 : 0 ≤ lo) (hi1 : hi ≤ 50) : SeqFn Q 55 [acc s n lo hi] [] (thr s n lo m) := by
  refine seq_intro Go.Proofs.Try.func55 rfl (by kernel_rfl) mix (k55 0) (Nat.le_of_ble_eq_true (by kernel_rfl)) ?_
  refine Abs.walk ?_
  unfold c55
  simp -implicitDefEqProofs only [go_sem, simprocAttr, acc]
  refine callIH 1000 [] (a70 (m := m) (s := s) (n := n) (lo := lo) (hi := hi) ⟨by simp -implicitDefEqProofs only [go_sem, simprocAttr], by simp -implicitDefEqProofs only [go_sem, simprocAttr], by simp -implicitDefEqProofs only [go_sem, simprocAttr], by simp -implicitDefEqProofs only [go_sem, simprocAttr], by simp -implicitDefEqProofs only [go_sem, simprocAttr], by simp -implicitDefEqProofs only [go_sem, simprocAttr]; rfl, by simp -implicitDefEqProofs only [go_sem, simprocAttr]⟩ hm (by simp -implicitDefEqProofs only [go_sem, simprocAttr]) s0 s1 n0 n1 lo0 hi1) (ex_YR (by simp -implicitDefEqProofs only [go_sem, simprocAttr]) _) ?_
  · rintro lv h3 ⟨gy3, ⟨rfl, hy3⟩ | ⟨rfl, hy3⟩⟩
    · simp -implicitDefEqProofs only [go_sem, simprocAttr, Kl_eq, retY, hy3]
    · simp -implicitDefEqProofs only [go_sem, simprocAttr, Kl_eq, retY, hy3]
end S12

namespace S12
open Go Abs
/-- What signs take in truths that agree: whether there is one, the least, the greatest. -/
def sc1 (r : Bool × Int × Int) (k : Int) : Bool × Int × Int := if r.1 then (true, (if k < r.2.1 then k else r.2.1), (if k > r.2.2 then k else r.2.2)) else (true, k, k)
def scan (cl ch s n : Int) : Int → Nat → Bool × Int × Int → Bool × Int × Int
  | _, 0, r => r
  | k, m + 1, r => scan cl ch s n (k + 1) m (if inB cl ch (s - k * n) then sc1 r k else r)
def outF (r : Bool × Int × Int) : FV := .agg [.int r.2.1, .int r.2.2, .int 0, .int 0, .int 0, .int 0]
theorem t33 {b : FV} {st lo hi : Int} {es ms : List (Int × Int)} (v : VB b st lo hi es ms) {m : Nat} (hm : lo + m = hi + 1) (s0 : 0 ≤ st + upto 365 es) (cl ch : Int) :
    Fn Q 33 [.fo b, .fo (.int 0), .fo (span cl ch)] (.tup [.fx (outF (scan cl ch (st + upto 365 es) (upto 365 ms) lo m (false, 0, 0))), .fx (.bool (scan cl ch (st + upto 365 es) (upto 365 ms) lo m (false, 0, 0)).1)]) := by
  have c := t24 v
  obtain ⟨⟨_, _, f1, f2, f3, se, sm, rfl, he, hm'⟩, st0, s1, el, ml, lo0, lh, hi1, w, es1, ms1⟩ := v
  have b1 := upto_bd (d := 365) (show (0 : Int) ≤ 1000 by omega) es fun e he => ⟨(es1 e he).2.2.1, (es1 e he).2.2.2.1⟩
  have b2 := upto_bd (d := 365) (show (0 : Int) ≤ 100 by omega) ms fun e he => ⟨by have := ms1 e he; omega, (ms1 e he).2.2.2⟩
  have b3 : 0 ≤ upto 365 ms := upto_nn ms fun e he => by have := ms1 e he; omega
  have c5 := t55 (s := st + upto 365 es) (n := upto 365 ms) (m := m) hm s0 (by omega) b3 (by omega) lo0 hi1
  have o1 : (LV.fv se).one = true := by rcases ls_cases he with ⟨f4, rfl⟩ | ⟨rfl, he0⟩ <;> rfl
  have o2 : (LV.fv sm).one = true := by rcases ls_cases hm' with ⟨f4, rfl⟩ | ⟨rfl, he0⟩ <;> rfl
  generalize st + upto 365 es = s at *
  generalize upto 365 ms = n at *
  generalize hR : scan cl ch s n lo m (false, 0, 0) = R
  refine fn_intro Go.Proofs.Try.func33 rfl (by kernel_rfl) mix (k33 0) (Nat.le_of_ble_eq_true (by kernel_rfl)) ?_
  refine Abs.walk ?_
  unfold c33
  simp -implicitDefEqProofs only [go_sem, simprocAttr, o1, o2, span]
  refine call0 [] false (c) (by first | exact trivial | exact ⟨rfl, trivial⟩ | exact ⟨rfl, rfl, trivial⟩ | exact ⟨rfl, rfl, rfl, trivial⟩ | exact ⟨rfl, rfl, rfl, rfl, trivial⟩ | exact ⟨rfl, rfl, rfl, rfl, rfl, trivial⟩ | exact ⟨rfl, rfl, rfl, rfl, rfl, rfl, trivial⟩ | exact ⟨rfl, rfl, rfl, rfl, rfl, rfl, rfl, trivial⟩ | exact ⟨rfl, rfl, rfl, rfl, rfl, rfl, rfl, rfl, trivial⟩ | (simp -implicitDefEqProofs only [go_sem, simprocAttr] <;> first | rfl | exact ⟨rfl, rfl⟩ | exact ⟨rfl, rfl, rfl⟩ | exact ⟨rfl, rfl, rfl, rfl⟩)) (.inl rfl) ?_
  simp -implicitDefEqProofs only [go_sem, simprocAttr]
  refine rgH 8 [6, 7] [] (thr s n lo m) (argSqB (by rfl) c5) (β := Int × Nat × Bool × Int × Int) (fun xs a => xs = thr s n a.1 a.2.1 ∧ scan cl ch s n a.1 a.2.1 a.2.2 = R)
    (fun xs a h => h.gen 6 = 1 ∧ h.gen 7 = 1 ∧ h.obj 6 = some (.box [.fv (.int a.2.2.2.1), .fv (.int a.2.2.2.2), .fv (.int 0), .fv (.int 0), .fv (.int 0), .fv (.int 0)]) ∧ h.obj 7 = some (.box [.fv (.bool a.2.2.1)]))
    (lo, m, false, 0, 0) ⟨rfl, hR⟩ (by refine ⟨?_, ?_, ?_, ?_⟩ <;> simp -implicitDefEqProofs only [go_sem, simprocAttr] <;> rfl) ?_ ?_
  · rintro ⟨k, m', ok, x, y⟩ h ⟨e1, e2⟩ ⟨g6, g7, o6, o7⟩
    dsimp only at e1 e2 g6 g7 o6 o7
    cases m' with
    | succ => simp [thr] at e1
    | zero =>
      simp only [scan] at e2
      simp -implicitDefEqProofs only [go_sem, simprocAttr]
      refine W_opsD _ _ _ (Vs [[], [], [6], [7]]) ?_ ?_
      · decide
      simp -implicitDefEqProofs only [go_sem, simprocAttr, g6, g7, o6, o7]
      refine ret_tup (fun _ => true) ?_ (by simp [ownNames])
      subst e2
      simp -implicitDefEqProofs only [go_sem, simprocAttr, outF]
  · rintro xa xs ⟨k, m', ok, x, y⟩ h ⟨e1, e2⟩ ⟨g6, g7, o6, o7⟩
    dsimp only at e1 e2 g6 g7 o6 o7
    cases m' with
    | zero => simp [thr] at e1
    | succ m' =>
      simp only [thr, List.cons.injEq] at e1
      obtain ⟨rfl, rfl⟩ := e1
      refine ⟨rfl, ?_⟩
      simp -implicitDefEqProofs only [go_sem, simprocAttr]
      refine call0 [] true (t27 cl ch (.list false [.int (s - k * n)]) [s - k * n] rfl (by simp)) (by first | exact trivial | exact ⟨rfl, trivial⟩ | exact ⟨rfl, rfl, trivial⟩ | exact ⟨rfl, rfl, rfl, trivial⟩ | exact ⟨rfl, rfl, rfl, rfl, trivial⟩ | exact ⟨rfl, rfl, rfl, rfl, rfl, trivial⟩ | exact ⟨rfl, rfl, rfl, rfl, rfl, rfl, trivial⟩ | exact ⟨rfl, rfl, rfl, rfl, rfl, rfl, rfl, trivial⟩ | exact ⟨rfl, rfl, rfl, rfl, rfl, rfl, rfl, rfl, trivial⟩ | (simp -implicitDefEqProofs only [go_sem, simprocAttr] <;> first | rfl | exact ⟨rfl, rfl⟩ | exact ⟨rfl, rfl, rfl⟩ | exact ⟨rfl, rfl, rfl, rfl⟩)) (.inr rfl) ?_
      cases hb : inB cl ch (s - k * n)
      · simp -implicitDefEqProofs only [go_sem, simprocAttr, hb]
        refine ⟨(k + 1, m', ok, x, y), ⟨rfl, by simpa [scan, hb] using e2⟩, ?_⟩
        simp -implicitDefEqProofs only [go_sem, simprocAttr, g6, g7, o6, o7]
      · simp -implicitDefEqProofs only [go_sem, simprocAttr, hb]
        refine lp (n := 4) (lpStep ?_)
        cases ok
        · simp -implicitDefEqProofs only [go_sem, simprocAttr, g6, g7, o6, o7, min2V, max2V, Int.lt_irrefl, gt_iff_lt]
          refine lpStep ?_
          simp -implicitDefEqProofs only [go_sem, simprocAttr, g6, g7, o6, o7, min2V, max2V, Int.lt_irrefl, gt_iff_lt]
          refine lpStep ?_
          simp -implicitDefEqProofs only [go_sem, simprocAttr, g6, g7, o6, o7, min2V, max2V, Int.lt_irrefl, gt_iff_lt]
          refine lpStep ?_
          simp -implicitDefEqProofs only [go_sem, simprocAttr, g7, o7]
          refine ⟨(k + 1, m', true, k, k), ⟨rfl, by simpa [scan, hb, sc1] using e2⟩, ?_⟩
          simp -implicitDefEqProofs only [go_sem, simprocAttr, g6, g7]
        · simp -implicitDefEqProofs only [go_sem, simprocAttr, g6, g7, o6, o7, min2V, max2V, Int.lt_irrefl, gt_iff_lt]
          refine lpStep ?_
          simp -implicitDefEqProofs only [go_sem, simprocAttr, g6, g7, o6, o7, min2V, max2V, Int.lt_irrefl, gt_iff_lt]
          refine lpStep ?_
          simp -implicitDefEqProofs only [go_sem, simprocAttr, g6, g7, o6, o7, min2V, max2V, Int.lt_irrefl, gt_iff_lt]
          refine lpStep ?_
          simp -implicitDefEqProofs only [go_sem, simprocAttr, g7, o7]
          refine ⟨(k + 1, m', sc1 (true, x, y) k), ⟨rfl, by simpa [scan, hb] using e2⟩, ?_⟩
          simp -implicitDefEqProofs only [go_sem, simprocAttr, g6, g7, sc1, gt_iff_lt]
def oddR (ok : Bool) : FV := if ok then .nil else .list false [.int 0]
theorem t34 {b : FV} {st lo hi : Int} {es ms : List (Int × Int)} (v : VB b st lo hi es ms) {m : Nat} (hm : lo + m = hi + 1) (s0 : 0 ≤ st + upto 365 es) {f : Bool} (cl ch : Int) :
    Fn Q 34 [.fo b, .fo (.list f [span cl ch])] (.one (.fx (oddR (scan cl ch (st + upto 365 es) (upto 365 ms) lo m (false, 0, 0)).1))) := by
  have c := t33 v hm s0 cl ch
  obtain ⟨⟨_, _, f1, f2, f3, se, sm, rfl, he, hm'⟩, st0, s1, el, ml, lo0, lh, hi1, w, es1, ms1⟩ := v
  have o1 : (LV.fv se).one = true := by rcases ls_cases he with ⟨f4, rfl⟩ | ⟨rfl, he0⟩ <;> rfl
  have o2 : (LV.fv sm).one = true := by rcases ls_cases hm' with ⟨f4, rfl⟩ | ⟨rfl, he0⟩ <;> rfl
  generalize scan cl ch (st + upto 365 es) (upto 365 ms) lo m (false, 0, 0) = r at *
  obtain ⟨ok, x, y⟩ := r
  cases ok
  all_goals
    refine fn_intro Go.Proofs.Try.func34 rfl (by kernel_rfl) mix (k34 0) (Nat.le_of_ble_eq_true (by kernel_rfl)) ?_
    refine Abs.walk ?_
    unfold c34
    simp -implicitDefEqProofs only [go_sem, simprocAttr, o1, o2]
    refine lp (n := 2) (lpStep ?_)
    simp -implicitDefEqProofs only [go_sem, simprocAttr, o1, o2, span]
    refine call0 [] false (c) (by first | exact trivial | exact ⟨rfl, trivial⟩ | exact ⟨rfl, rfl, trivial⟩ | exact ⟨rfl, rfl, rfl, trivial⟩ | exact ⟨rfl, rfl, rfl, rfl, trivial⟩ | exact ⟨rfl, rfl, rfl, rfl, rfl, trivial⟩ | exact ⟨rfl, rfl, rfl, rfl, rfl, rfl, trivial⟩ | exact ⟨rfl, rfl, rfl, rfl, rfl, rfl, rfl, trivial⟩ | exact ⟨rfl, rfl, rfl, rfl, rfl, rfl, rfl, rfl, trivial⟩ | (simp -implicitDefEqProofs only [go_sem, simprocAttr] <;> first | rfl | exact ⟨rfl, rfl⟩ | exact ⟨rfl, rfl, rfl⟩ | exact ⟨rfl, rfl, rfl, rfl⟩)) (.inl rfl) ?_
    simp -implicitDefEqProofs only [go_sem, simprocAttr, outF]
    first
    | refine app_gl (by simp -implicitDefEqProofs only [go_sem, simprocAttr]; rfl) idx_29 (by simp -implicitDefEqProofs only [go_sem, simprocAttr]; rfl) (by simp [FV.cells]) (by simp -implicitDefEqProofs only [go_sem, simprocAttr]) (by simp -implicitDefEqProofs only [go_sem, simprocAttr]) (by simp [maxLen]) (by simp) ?_
    | skip
    try simp -implicitDefEqProofs only [go_sem, simprocAttr]
    refine lpStep ?_
    simp -implicitDefEqProofs only [go_sem, simprocAttr]
    exact ret_fx (fun _ => true) (by simp -implicitDefEqProofs only [go_sem, simprocAttr, oddR, List.isEmpty])
theorem t16 {b : FV} {st lo hi : Int} {es ms : List (Int × Int)} (v : VB b st lo hi es ms) {m : Nat} (hm : lo + m = hi + 1) (s0 : 0 ≤ st + upto 365 es) {f : Bool} (cl ch : Int) (h : okSpan 0 100000 cl ch = true) :
    Fn Q 16 [.fo b, .fo (.list f [span cl ch])] (.tup [.fx (oddR (scan cl ch (st + upto 365 es) (upto 365 ms) lo m (false, 0, 0)).1), .fx (.int 0)]) := by
  have c := t34 v hm s0 (f := f) cl ch
  have c2 := t23c v (f1 := false) (f2 := f) h
  obtain ⟨⟨_, _, f1, f2, f3, se, sm, rfl, he, hm'⟩, st0, s1, el, ml, lo0, lh, hi1, w, es1, ms1⟩ := v
  have o1 : (LV.fv se).one = true := by rcases ls_cases he with ⟨f4, rfl⟩ | ⟨rfl, he0⟩ <;> rfl
  have o2 : (LV.fv sm).one = true := by rcases ls_cases hm' with ⟨f4, rfl⟩ | ⟨rfl, he0⟩ <;> rfl
  generalize scan cl ch (st + upto 365 es) (upto 365 ms) lo m (false, 0, 0) = r at *
  obtain ⟨ok, x, y⟩ := r
  refine fn_intro Go.Proofs.Try.func16 rfl (by kernel_rfl) mix (k16 0) (Nat.le_of_ble_eq_true (by kernel_rfl)) ?_
  refine Abs.walk ?_
  unfold c16
  simp -implicitDefEqProofs only [go_sem, simprocAttr, o1, o2]
  refine call0 [11] false (c2) (by first | exact trivial | exact ⟨rfl, trivial⟩ | exact ⟨rfl, rfl, trivial⟩ | exact ⟨rfl, rfl, rfl, trivial⟩ | exact ⟨rfl, rfl, rfl, rfl, trivial⟩ | exact ⟨rfl, rfl, rfl, rfl, rfl, trivial⟩ | exact ⟨rfl, rfl, rfl, rfl, rfl, rfl, trivial⟩ | exact ⟨rfl, rfl, rfl, rfl, rfl, rfl, rfl, trivial⟩ | exact ⟨rfl, rfl, rfl, rfl, rfl, rfl, rfl, rfl, trivial⟩ | (simp -implicitDefEqProofs only [go_sem, simprocAttr] <;> first | rfl | exact ⟨rfl, rfl⟩ | exact ⟨rfl, rfl, rfl⟩ | exact ⟨rfl, rfl, rfl, rfl⟩)) (.inl rfl) ?_
  simp -implicitDefEqProofs only [go_sem, simprocAttr, o1, o2]
  refine call0 [] false (c) (by first | exact trivial | exact ⟨rfl, trivial⟩ | exact ⟨rfl, rfl, trivial⟩ | exact ⟨rfl, rfl, rfl, trivial⟩ | exact ⟨rfl, rfl, rfl, rfl, trivial⟩ | exact ⟨rfl, rfl, rfl, rfl, rfl, trivial⟩ | exact ⟨rfl, rfl, rfl, rfl, rfl, rfl, trivial⟩ | exact ⟨rfl, rfl, rfl, rfl, rfl, rfl, rfl, trivial⟩ | exact ⟨rfl, rfl, rfl, rfl, rfl, rfl, rfl, rfl, trivial⟩ | (simp -implicitDefEqProofs only [go_sem, simprocAttr] <;> first | rfl | exact ⟨rfl, rfl⟩ | exact ⟨rfl, rfl, rfl⟩ | exact ⟨rfl, rfl, rfl, rfl⟩)) (.inl rfl) ?_
  cases ok <;> simp -implicitDefEqProofs only [go_sem, simprocAttr] <;> refine ret_tup (fun _ => true) ?_ (by simp [ownNames]) <;> simp -implicitDefEqProofs only [go_sem, simprocAttr, oddR]
theorem t15 {b : FV} {st lo hi : Int} {es ms : List (Int × Int)} (v : VB b st lo hi es ms) {m : Nat} (hm : lo + m = hi + 1) (s0 : 0 ≤ st + upto 365 es) {f : Bool} (cl ch : Int) (h : okSpan 0 100000 cl ch = true) {r : Bool × Int × Int} (hr : scan cl ch (st + upto 365 es) (upto 365 ms) lo m (false, 0, 0) = r) :
    Fn Q 15 [.fo b, .fo (.list f [span cl ch])] (.tup [.fx (if r.1 then .list false [.list false [span r.2.1 r.2.2]] else .nil), .fx (.int (if r.1 then 0 else 9))]) := by
  have c := t33 v hm s0 cl ch
  have c2 := t23c v (f1 := false) (f2 := f) h
  obtain ⟨⟨_, _, f1, f2, f3, se, sm, rfl, he, hm'⟩, st0, s1, el, ml, lo0, lh, hi1, w, es1, ms1⟩ := v
  have o1 : (LV.fv se).one = true := by rcases ls_cases he with ⟨f4, rfl⟩ | ⟨rfl, he0⟩ <;> rfl
  have o2 : (LV.fv sm).one = true := by rcases ls_cases hm' with ⟨f4, rfl⟩ | ⟨rfl, he0⟩ <;> rfl
  rw [hr] at c
  obtain ⟨ok, x, y⟩ := r
  cases ok
  · refine fn_intro Go.Proofs.Try.func15 rfl (by kernel_rfl) mix (k15 0) (Nat.le_of_ble_eq_true (by kernel_rfl)) ?_
    refine Abs.walk ?_
    unfold c15
    simp -implicitDefEqProofs only [go_sem, simprocAttr, o1, o2]
    refine call0 [17] false (c2) (by first | exact trivial | exact ⟨rfl, trivial⟩ | exact ⟨rfl, rfl, trivial⟩ | exact ⟨rfl, rfl, rfl, trivial⟩ | exact ⟨rfl, rfl, rfl, rfl, trivial⟩ | exact ⟨rfl, rfl, rfl, rfl, rfl, trivial⟩ | exact ⟨rfl, rfl, rfl, rfl, rfl, rfl, trivial⟩ | exact ⟨rfl, rfl, rfl, rfl, rfl, rfl, rfl, trivial⟩ | exact ⟨rfl, rfl, rfl, rfl, rfl, rfl, rfl, rfl, trivial⟩ | (simp -implicitDefEqProofs only [go_sem, simprocAttr] <;> first | rfl | exact ⟨rfl, rfl⟩ | exact ⟨rfl, rfl, rfl⟩ | exact ⟨rfl, rfl, rfl, rfl⟩)) (.inl rfl) ?_
    simp -implicitDefEqProofs only [go_sem, simprocAttr, o1, o2, recF, List.replicate, FV.ofCells]
    refine lp (n := 2) (lpStep ?_)
    simp -implicitDefEqProofs only [go_sem, simprocAttr, span, o1, o2]
    refine call0 [] false (c) (by first | exact trivial | exact ⟨rfl, trivial⟩ | exact ⟨rfl, rfl, trivial⟩ | exact ⟨rfl, rfl, rfl, trivial⟩ | exact ⟨rfl, rfl, rfl, rfl, trivial⟩ | exact ⟨rfl, rfl, rfl, rfl, rfl, trivial⟩ | exact ⟨rfl, rfl, rfl, rfl, rfl, rfl, trivial⟩ | exact ⟨rfl, rfl, rfl, rfl, rfl, rfl, rfl, trivial⟩ | exact ⟨rfl, rfl, rfl, rfl, rfl, rfl, rfl, rfl, trivial⟩ | (simp -implicitDefEqProofs only [go_sem, simprocAttr] <;> first | rfl | exact ⟨rfl, rfl⟩ | exact ⟨rfl, rfl, rfl⟩ | exact ⟨rfl, rfl, rfl, rfl⟩)) (.inl rfl) ?_
    simp -implicitDefEqProofs only [go_sem, simprocAttr, outF]
    refine ret_tup (fun _ => true) ?_ (by simp [ownNames])
    simp -implicitDefEqProofs only [go_sem, simprocAttr]
  · refine fn_intro Go.Proofs.Try.func15 rfl (by kernel_rfl) mix (k15 0) (Nat.le_of_ble_eq_true (by kernel_rfl)) ?_
    refine Abs.walk ?_
    unfold c15
    simp -implicitDefEqProofs only [go_sem, simprocAttr, o1, o2]
    refine call0 [17] false (c2) (by first | exact trivial | exact ⟨rfl, trivial⟩ | exact ⟨rfl, rfl, trivial⟩ | exact ⟨rfl, rfl, rfl, trivial⟩ | exact ⟨rfl, rfl, rfl, rfl, trivial⟩ | exact ⟨rfl, rfl, rfl, rfl, rfl, trivial⟩ | exact ⟨rfl, rfl, rfl, rfl, rfl, rfl, trivial⟩ | exact ⟨rfl, rfl, rfl, rfl, rfl, rfl, rfl, trivial⟩ | exact ⟨rfl, rfl, rfl, rfl, rfl, rfl, rfl, rfl, trivial⟩ | (simp -implicitDefEqProofs only [go_sem, simprocAttr] <;> first | rfl | exact ⟨rfl, rfl⟩ | exact ⟨rfl, rfl, rfl⟩ | exact ⟨rfl, rfl, rfl, rfl⟩)) (.inl rfl) ?_
    simp -implicitDefEqProofs only [go_sem, simprocAttr, o1, o2, recF, List.replicate, FV.ofCells]
    refine lp (n := 2) (lpStep ?_)
    simp -implicitDefEqProofs only [go_sem, simprocAttr, span, o1, o2]
    refine call0 [] false (c) (by first | exact trivial | exact ⟨rfl, trivial⟩ | exact ⟨rfl, rfl, trivial⟩ | exact ⟨rfl, rfl, rfl, trivial⟩ | exact ⟨rfl, rfl, rfl, rfl, trivial⟩ | exact ⟨rfl, rfl, rfl, rfl, rfl, trivial⟩ | exact ⟨rfl, rfl, rfl, rfl, rfl, rfl, trivial⟩ | exact ⟨rfl, rfl, rfl, rfl, rfl, rfl, rfl, trivial⟩ | exact ⟨rfl, rfl, rfl, rfl, rfl, rfl, rfl, rfl, trivial⟩ | (simp -implicitDefEqProofs only [go_sem, simprocAttr] <;> first | rfl | exact ⟨rfl, rfl⟩ | exact ⟨rfl, rfl, rfl⟩ | exact ⟨rfl, rfl, rfl, rfl⟩)) (.inl rfl) ?_
    simp -implicitDefEqProofs only [go_sem, simprocAttr, outF]
    refine lp (n := 2) (lpStep ?_)
    simp -implicitDefEqProofs only [go_sem, simprocAttr]
    refine W_opsD _ _ _ (Vs [[], [], [], [], [], [], [], [], [], [59], [60], [], [28]]) ?_ ?_
    · decide
    simp -implicitDefEqProofs only [go_sem, simprocAttr]
    refine app_nil idx_40 (by decide) (by simp -implicitDefEqProofs only [go_sem, simprocAttr]; rfl) (by simp [FV.cells]) (by simp -implicitDefEqProofs only [go_sem, simprocAttr]) (by simp -implicitDefEqProofs only [go_sem, simprocAttr]) (by simp [maxLen]) ?_
    simp -implicitDefEqProofs only [go_sem, simprocAttr]
    refine sto_elem (by simp -implicitDefEqProofs only [go_sem, simprocAttr]; rfl) (by rfl) (by rfl) (by simp -implicitDefEqProofs only [go_sem, simprocAttr]; rfl) (by rfl) (by decide) ?_
    simp -implicitDefEqProofs only [go_sem, simprocAttr]
    refine lpStep ?_
    simp -implicitDefEqProofs only [go_sem, simprocAttr]
    refine lpStep ?_
    simp -implicitDefEqProofs only [go_sem, simprocAttr]
    refine ret_tup (fun _ => true) ?_ (by simp [ownNames])
    simp -implicitDefEqProofs only [go_sem, simprocAttr, FV.withCells, List.isEmpty]
end S12

