/- A part of the proof: G12g. -/
import Derived.Test.YtjelfogbefnmaaaG12e
set_option linter.unusedVariables false
set_option linter.unusedSimpArgs false
set_option maxRecDepth 20000
namespace S12
open Go Abs
/-- What came up to a day. -/
def upto (d : Int) : List (Int × Int) → Int
  | [] => 0
  | e :: es => (if e.1 ≤ d then e.2 else 0) + upto d es
theorem upto_bd {d c : Int} (hc : 0 ≤ c) : ∀ (l : List (Int × Int)), (∀ e ∈ l, -c ≤ e.2 ∧ e.2 ≤ c) → -(c * l.length) ≤ upto d l ∧ upto d l ≤ c * l.length
  | [], _ => by simp [upto]
  | e :: l, h => by
    have ih := upto_bd (d := d) hc l fun x hx => h x (by simp [hx])
    have h1 := h e (by simp)
    have e1 : c * ((e :: l).length : Nat) = c * l.length + c := by simp [Int.mul_add]
    rw [e1]
    simp only [upto]
    split <;> omega
def acc (s n lo hi : Int) : FV := .agg [.int s, .int n, .int 0, .int 0, .int lo, .int hi, .int 0, .int 0, .int 0, .int 0, .int 1]
structure I46 (f1 f2 f3 : Bool) (st : Int) (se sm : FV) (lo hi day s n c1 c2 : Int) (ρ : Nat → LV) (h : AH) : Prop where
  r1 : ρ 1 = .fv (.int 0)
  r2 : ρ 2 = .fv (.int day)
  r3 : ρ 3 = .ptr 3 1 0
  r6 : ρ 6 = .ptr 6 1 0
  r7 : ρ 7 = .ptr 7 1 0
  g3 : h.gen 3 = 1
  g6 : h.gen 6 = 1
  g7 : h.gen 7 = 1
  o3 : h.obj 3 = some (.box [.fv (.list f1 [.int st]), .fv se, .fv (.list f2 [recF f3 lo hi]), .fv sm])
  o6 : h.obj 6 = some (.box (List.replicate 11 (.fv (.int 0))))
  o7 : h.obj 7 = some (.box [.fv (.int s), .fv (.int n), .fv (.int 0), .fv (.int 0), .fv (.int c1), .fv (.int c2), .fv (.int 0), .fv (.int 0), .fv (.int 0), .fv (.int 0), .fv (.int 1)])
theorem t46 {b : FV} {st lo hi : Int} {es ms : List (Int × Int)} (v : VB b st lo hi es ms) (day : Int) : Fn Q 46 [.fo b, .fo (.int 0), .fo (.int day)] (.one (.fx (acc (st + upto day es) (upto day ms) lo hi))) := by
  obtain ⟨⟨_, _, f1, f2, f3, se, sm, rfl, he, hm⟩, s0, s1, el, ml, lo0, lh, hi1, w, es1, ms1⟩ := v
  have o1 : (LV.fv se).one = true := by rcases ls_cases he with ⟨f4, rfl⟩ | ⟨rfl, he0⟩ <;> rfl
  have o2 : (LV.fv sm).one = true := by rcases ls_cases hm with ⟨f4, rfl⟩ | ⟨rfl, he0⟩ <;> rfl
  refine fn_intro Go.Proofs.Try.func46 rfl (by kernel_rfl) mix (k46 0) (Nat.le_of_ble_eq_true (by kernel_rfl)) ?_
  refine Abs.walk ?_
  unfold c46
  simp -implicitDefEqProofs only [go_sem, simprocAttr, o1, o2]
  refine W_opsD _ _ _ (Vs [[], [], [], [], [], [], [], [], [], [], [], [7], []]) ?_ ?_
  · decide
  simp -implicitDefEqProofs only [go_sem, simprocAttr, o1, o2, lenV_ls he]
  refine lpInd (α := List (Int × Int) × Nat × Int) (m := fun a => a.1.length) (I := fun a σ => es.drop a.2.1 = a.1 ∧ a.2.2 + upto day a.1 = st + upto day es ∧ a.2.1 ≤ 12 ∧ -1000 * (a.2.1 : Int) ≤ a.2.2 ∧ a.2.2 ≤ 10000 + 1000 * (a.2.1 : Int) ∧
    σ.ρ 27 = .fv se ∧ σ.ρ 28 = .fv (.int (es.map entF).length) ∧ σ.ρ 29 = .fv (.int a.2.1) ∧ I46 f1 f2 f3 st se sm lo hi day a.2.2 0 0 0 σ.ρ σ.h) (es, 0, st) ?_ ?_
  · refine ⟨rfl, rfl, by simp, by simp; omega, by simp; omega, ?_, ?_, ?_, ?_⟩
    · rfl
    · rfl
    · rfl
    · constructor <;> rfl
  · rintro ⟨ys, k, s⟩ ⟨ρ, h⟩ ⟨ed, et, kb, sb1, sb2, r27, r28, r29, r1, r2, r3, r6, r7, g3, g6, g7, o3, o6, o7⟩
    dsimp only at ed et kb sb1 sb2 r27 r28 r29 r1 r2 r3 r6 r7 g3 g6 g7 o3 o6 o7
    cases ys with
    | nil =>
      have hk : ¬ ((k : Int) < ((es.map entF).length : Nat)) := by have := drop_end ed; simp; omega
      have es2 : s = st + upto day es := by simpa [upto] using et
      simp -implicitDefEqProofs only [go_sem, simprocAttr, r28, r29, hk, r3, g3, o3, recF]
      refine lp (n := 2) (lpStep ?_)
      simp -implicitDefEqProofs only [go_sem, simprocAttr, r1, r7, g7, o7, span]
      refine lpStep ?_
      simp -implicitDefEqProofs only [go_sem, simprocAttr, r1, r3, g3, o3, lenV_ls hm]
      refine lpInd (α := List (Int × Int) × Nat × Int) (m := fun a => a.1.length) (I := fun a σ => ms.drop a.2.1 = a.1 ∧ a.2.2 + upto day a.1 = upto day ms ∧ a.2.1 ≤ 8 ∧ 0 ≤ a.2.2 ∧ a.2.2 ≤ 100 * (a.2.1 : Int) ∧
        σ.ρ 70 = .fv sm ∧ σ.ρ 71 = .fv (.int (ms.map entF).length) ∧ σ.ρ 72 = .fv (.int a.2.1) ∧ I46 f1 f2 f3 st se sm lo hi day s a.2.2 lo hi σ.ρ σ.h) (ms, 0, 0) ?_ ?_
      · refine ⟨rfl, by simp, by simp, by simp, by simp, ?_, ?_, ?_, ?_⟩
        · simp -implicitDefEqProofs only [go_sem, simprocAttr]
        · simp -implicitDefEqProofs only [go_sem, simprocAttr]
        · simp -implicitDefEqProofs only [go_sem, simprocAttr]
        · exact { r1 := by simp -implicitDefEqProofs only [go_sem, simprocAttr, r1], r2 := by simp -implicitDefEqProofs only [go_sem, simprocAttr, r2], r3 := by simp -implicitDefEqProofs only [go_sem, simprocAttr, r3], r6 := by simp -implicitDefEqProofs only [go_sem, simprocAttr, r6], r7 := by simp -implicitDefEqProofs only [go_sem, simprocAttr, r7], g3 := by simp -implicitDefEqProofs only [go_sem, simprocAttr, g3], g6 := by simp -implicitDefEqProofs only [go_sem, simprocAttr, g6], g7 := by simp -implicitDefEqProofs only [go_sem, simprocAttr, g7], o3 := by simp -implicitDefEqProofs only [go_sem, simprocAttr, o3, recF, span], o6 := by simp -implicitDefEqProofs only [go_sem, simprocAttr, o6], o7 := by simp -implicitDefEqProofs only [go_sem, simprocAttr, o7] }
      · rintro ⟨zs, j, n⟩ ⟨ρ', h'⟩ ⟨ed', et', kb', sb1', sb2', r70, r71, r72, r1, r2, r3, r6, r7, g3, g6, g7, o3, o6, o7⟩
        dsimp only at ed' et' kb' sb1' sb2' r70 r71 r72 r1 r2 r3 r6 r7 g3 g6 g7 o3 o6 o7
        cases zs with
        | nil =>
          have hj : ¬ ((j : Int) < ((ms.map entF).length : Nat)) := by have := drop_end ed'; simp; omega
          have ms2 : n = upto day ms := by simpa [upto] using et'
          simp -implicitDefEqProofs only [go_sem, simprocAttr, r71, r72, hj, r7, g7, o7, r6, g6, o6, List.replicate]
          refine ret_fx (fun _ => true) ?_
          simp -implicitDefEqProofs only [go_sem, simprocAttr, acc, es2, ms2]
        | cons e zs =>
          obtain ⟨d1, d2, d3, d4⟩ := drop_tail ed'
          obtain ⟨q1, q2, q3, q4⟩ := ms1 e d4
          have hj : ((j : Int) < ((ms.map entF).length : Nat)) := by simp; omega
          have d7 : (ms.map entF)[j]? = some (entF e) := by simp [d2]
          have b3 : IntKind.i64.wrap ((j : Int) + 1) = ((j + 1 : Nat) : Int) := wr _ (by omega) (by omega)
          have b4 : IntKind.i64.wrap (n + e.2) = n + e.2 := wr _ (by omega) (by omega)
          by_cases hd : e.1 ≤ day
          · simp -implicitDefEqProofs only [go_sem, simprocAttr, r70, r71, r72, hj, index_ls hm idx_32 d7 rfl, entF, r1, r2, hd, r7, g7, o7, b3, b4]
            refine ⟨(zs, j + 1, n + e.2), Nat.lt_succ_self _, d1, ?_, ?_, ?_, ?_, ?_, ?_, ?_, ?_⟩
            · simp only [upto, hd, if_true] at et'; dsimp only; omega
            · dsimp only; omega
            · dsimp only; omega
            · dsimp only; omega
            · simp -implicitDefEqProofs only [go_sem, simprocAttr, r70]
            · simp -implicitDefEqProofs only [go_sem, simprocAttr, r71]
            · simp -implicitDefEqProofs only [go_sem, simprocAttr]
            · exact { r1 := by simp -implicitDefEqProofs only [go_sem, simprocAttr, r1], r2 := by simp -implicitDefEqProofs only [go_sem, simprocAttr, r2], r3 := by simp -implicitDefEqProofs only [go_sem, simprocAttr, r3], r6 := by simp -implicitDefEqProofs only [go_sem, simprocAttr, r6], r7 := by simp -implicitDefEqProofs only [go_sem, simprocAttr, r7], g3 := by simp -implicitDefEqProofs only [go_sem, simprocAttr, g3], g6 := by simp -implicitDefEqProofs only [go_sem, simprocAttr, g6], g7 := by simp -implicitDefEqProofs only [go_sem, simprocAttr, g7], o3 := by simp -implicitDefEqProofs only [go_sem, simprocAttr, o3], o6 := by simp -implicitDefEqProofs only [go_sem, simprocAttr, o6], o7 := by simp -implicitDefEqProofs only [go_sem, simprocAttr, o7] }
          · simp -implicitDefEqProofs only [go_sem, simprocAttr, r70, r71, r72, hj, index_ls hm idx_32 d7 rfl, entF, r1, r2, hd, r7, g7, o7, b3, b4]
            refine ⟨(zs, j + 1, n), Nat.lt_succ_self _, d1, ?_, ?_, ?_, ?_, ?_, ?_, ?_, ?_⟩
            · simp only [upto, hd, if_false] at et'; dsimp only; omega
            · dsimp only; omega
            · dsimp only; omega
            · dsimp only; omega
            · simp -implicitDefEqProofs only [go_sem, simprocAttr, r70]
            · simp -implicitDefEqProofs only [go_sem, simprocAttr, r71]
            · simp -implicitDefEqProofs only [go_sem, simprocAttr]
            · exact { r1 := by simp -implicitDefEqProofs only [go_sem, simprocAttr, r1], r2 := by simp -implicitDefEqProofs only [go_sem, simprocAttr, r2], r3 := by simp -implicitDefEqProofs only [go_sem, simprocAttr, r3], r6 := by simp -implicitDefEqProofs only [go_sem, simprocAttr, r6], r7 := by simp -implicitDefEqProofs only [go_sem, simprocAttr, r7], g3 := by simp -implicitDefEqProofs only [go_sem, simprocAttr, g3], g6 := by simp -implicitDefEqProofs only [go_sem, simprocAttr, g6], g7 := by simp -implicitDefEqProofs only [go_sem, simprocAttr, g7], o3 := by simp -implicitDefEqProofs only [go_sem, simprocAttr, o3], o6 := by simp -implicitDefEqProofs only [go_sem, simprocAttr, o6], o7 := by simp -implicitDefEqProofs only [go_sem, simprocAttr, o7] }
    | cons e ys =>
      obtain ⟨d1, d2, d3, d4⟩ := drop_tail ed
      obtain ⟨q1, q2, q3, q4, q5⟩ := es1 e d4
      have hk : ((k : Int) < ((es.map entF).length : Nat)) := by simp; omega
      have d7 : (es.map entF)[k]? = some (entF e) := by simp [d2]
      have b3 : IntKind.i64.wrap ((k : Int) + 1) = ((k + 1 : Nat) : Int) := wr _ (by omega) (by omega)
      have b4 : IntKind.i64.wrap (s + e.2) = s + e.2 := wr _ (by omega) (by omega)
      by_cases hd : e.1 ≤ day
      · simp -implicitDefEqProofs only [go_sem, simprocAttr, r27, r28, r29, hk, index_ls he idx_30 d7 rfl, entF, r1, r2, hd, r7, g7, o7, b3, b4]
        refine ⟨(ys, k + 1, s + e.2), Nat.lt_succ_self _, d1, ?_, ?_, ?_, ?_, ?_, ?_, ?_, ?_⟩
        · simp only [upto, hd, if_true] at et; dsimp only; omega
        · dsimp only; omega
        · dsimp only; omega
        · dsimp only; omega
        · simp -implicitDefEqProofs only [go_sem, simprocAttr, r27]
        · simp -implicitDefEqProofs only [go_sem, simprocAttr, r28]
        · simp -implicitDefEqProofs only [go_sem, simprocAttr]
        · exact { r1 := by simp -implicitDefEqProofs only [go_sem, simprocAttr, r1], r2 := by simp -implicitDefEqProofs only [go_sem, simprocAttr, r2], r3 := by simp -implicitDefEqProofs only [go_sem, simprocAttr, r3], r6 := by simp -implicitDefEqProofs only [go_sem, simprocAttr, r6], r7 := by simp -implicitDefEqProofs only [go_sem, simprocAttr, r7], g3 := by simp -implicitDefEqProofs only [go_sem, simprocAttr, g3], g6 := by simp -implicitDefEqProofs only [go_sem, simprocAttr, g6], g7 := by simp -implicitDefEqProofs only [go_sem, simprocAttr, g7], o3 := by simp -implicitDefEqProofs only [go_sem, simprocAttr, o3], o6 := by simp -implicitDefEqProofs only [go_sem, simprocAttr, o6], o7 := by simp -implicitDefEqProofs only [go_sem, simprocAttr, o7] }
      · simp -implicitDefEqProofs only [go_sem, simprocAttr, r27, r28, r29, hk, index_ls he idx_30 d7 rfl, entF, r1, r2, hd, r7, g7, o7, b3, b4]
        refine ⟨(ys, k + 1, s), Nat.lt_succ_self _, d1, ?_, ?_, ?_, ?_, ?_, ?_, ?_, ?_⟩
        · simp only [upto, hd, if_false] at et; dsimp only; omega
        · dsimp only; omega
        · dsimp only; omega
        · dsimp only; omega
        · simp -implicitDefEqProofs only [go_sem, simprocAttr, r27]
        · simp -implicitDefEqProofs only [go_sem, simprocAttr, r28]
        · simp -implicitDefEqProofs only [go_sem, simprocAttr]
        · exact { r1 := by simp -implicitDefEqProofs only [go_sem, simprocAttr, r1], r2 := by simp -implicitDefEqProofs only [go_sem, simprocAttr, r2], r3 := by simp -implicitDefEqProofs only [go_sem, simprocAttr, r3], r6 := by simp -implicitDefEqProofs only [go_sem, simprocAttr, r6], r7 := by simp -implicitDefEqProofs only [go_sem, simprocAttr, r7], g3 := by simp -implicitDefEqProofs only [go_sem, simprocAttr, g3], g6 := by simp -implicitDefEqProofs only [go_sem, simprocAttr, g6], g7 := by simp -implicitDefEqProofs only [go_sem, simprocAttr, g7], o3 := by simp -implicitDefEqProofs only [go_sem, simprocAttr, o3], o6 := by simp -implicitDefEqProofs only [go_sem, simprocAttr, o6], o7 := by simp -implicitDefEqProofs only [go_sem, simprocAttr, o7] }
end S12

