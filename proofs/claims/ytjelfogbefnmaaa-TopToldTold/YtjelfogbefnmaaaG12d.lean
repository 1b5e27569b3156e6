/- A part of the proof: G12d. -/
import Derived.Test.YtjelfogbefnmaaaG12b
set_option linter.unusedVariables false
set_option linter.unusedSimpArgs false
set_option maxRecDepth 20000
namespace S12
open Go Abs
theorem t30 : Fn Q 30 [.fo (.list false [.int 1, .int 3, .int 6]), .fo (.list false [.int 1, .int 3, .int 6])] (.one (.fx (.bool true))) := by
  refine fn_intro Go.Proofs.Try.func30 rfl (by kernel_rfl) mix (k30 0) (Nat.le_of_ble_eq_true (by kernel_rfl)) ?_
  refine Abs.walk ?_
  unfold c30
  simp -implicitDefEqProofs only [go_sem, simprocAttr]
  refine lp (n := 4) (lpStep ?_)
  simp -implicitDefEqProofs only [go_sem, simprocAttr]
  refine lpStep ?_
  simp -implicitDefEqProofs only [go_sem, simprocAttr]
  refine lpStep ?_
  simp -implicitDefEqProofs only [go_sem, simprocAttr]
  refine lpStep ?_
  simp -implicitDefEqProofs only [go_sem, simprocAttr]
  exact ret_fv
def nf (x : Int) : Int := 1 + x.tmod 100
theorem nf_bd {x : Int} (h : 0 ≤ x) : 1 ≤ nf x ∧ nf x ≤ 100 := by
  unfold nf
  have h1 := Int.tmod_nonneg 100 h
  have h2 := Int.tmod_lt_of_pos x (show (0 : Int) < 100 by decide)
  omega
def u8 (x : Int) : FV := .val (.int .u8 x)
def jobF (x : Int) : FV := .agg [.int (nf x), .list false [.int 0]]
def mkM : List Int → Int → List (Int × Int)
  | [], _ => []
  | x :: xs, i => (2 * i, nf x) :: mkM xs (i + 1)
/-- nil, or a list. -/
def lstN (xs : List FV) : FV := if xs.isEmpty then .nil else .list false xs
structure I5 (lo hi st : Int) (s : FV) (fl : List Int) (full fullM : List FV) (ys : List Int) (k : Nat) (J M : List FV) (g : Nat) (Mv : LV) (ρ : Nat → LV) (h : AH) : Prop where
  ej : J ++ ys.map jobF = full
  em : M ++ (mkM ys k).map entF = fullM
  ed : (fl.take 6).drop k = ys
  lj : J.length = k
  lm : M.length = k
  lk : k ≤ 6
  r2 : ρ 2 = .fv s
  r6 : ρ 6 = .ptr 6 1 0
  r8 : ρ 8 = .ptr 8 1 0
  r9 : ρ 9 = .ptr 9 1 0
  r10 : ρ 10 = .ptr 10 1 0
  r11 : ρ 11 = .gl 25 g
  r12 : ρ 12 = .fv (.int k)
  g6 : h.gen 6 = 1
  g8 : h.gen 8 = 1
  g9 : h.gen 9 = 1
  g10 : h.gen 10 = 1
  g19 : h.gen 19 = 1
  g23 : h.gen 23 = 1
  g25 : h.gen 25 = g
  o6 : h.obj 6 = some (.box [.fv .nil, .fv (.int 0), .fv (.int 0)])
  o8 : h.obj 8 = some (.box [.fv .nil, .fv .nil, .fv .nil, .fv .nil])
  o9 : h.obj 9 = some (.box [.fv (.list false [slip lo hi]), .fv (.int 3), .fv (.int 4)])
  o10 : h.obj 10 = some (.box [.gl 19 1, .fv .nil, .gl 23 1, Mv])
  o19 : h.obj 19 = some (.list 3 1 false false [.int st])
  o23 : h.obj 23 = some (.list 67 1 false false [recF false lo hi])
  o25 : h.obj 25 = some (.list 54 2 false false J)
  om : (M = [] ∧ Mv = .fv .nil) ∨ (∃ g', Mv = .gl 56 g' ∧ h.gen 56 = g' ∧ h.obj 56 = some (.list 69 3 false false M) ∧ M ≠ [])
theorem t5 (lo hi st : Int) (s : FV) (fl : List Int) (hs : lsOf s = some (fl.map u8)) (hf : ∀ x ∈ fl, 0 ≤ x ∧ x < 256) (hl : fl.length ≤ 9223372036854775807) :
    Fn Q 5 [.fo (span lo hi), .fo (.int st), .fo s] (.tup [.fx (works lo hi), .fx (.list false ((fl.take 6).map jobF)), .fx (.agg [.list false [.int st], .nil, .list false [recF false lo hi], lstN ((mkM (fl.take 6) 0).map entF)])]) := by
  refine fn_intro Go.Proofs.Try.func5 rfl (by kernel_rfl) mix (k5 0) (Nat.le_of_ble_eq_true (by kernel_rfl)) ?_
  refine Abs.walk ?_
  unfold c5
  simp -implicitDefEqProofs only [go_sem, simprocAttr, span]
  refine W_opsD _ _ _ (Vs [[], [], [16], [16], [9], []]) ?_ ?_
  · decide
  simp -implicitDefEqProofs only [go_sem, simprocAttr]
  refine callD [] false [.fo (.int 3), .fo (.int 4)] [] (t6 3 4) ⟨rfl, rfl, trivial⟩ rfl (.inl rfl) ?_
  simp -implicitDefEqProofs only [go_sem, simprocAttr, span]
  refine callD [16] false [.fo (.int 3), .fo (.int 4), .fo (span lo hi), .fo (.list false [span 3 4])] [] (t17 lo hi) ⟨rfl, rfl, rfl, rfl, trivial⟩ rfl (.inl rfl) ?_
  simp -implicitDefEqProofs only [go_sem, simprocAttr, works, slip, recF]
  refine lpInd (α := List Int × Nat) (m := fun a => a.1.length) (I := fun a σ => ∃ J M g Mv, I5 lo hi st s fl ((fl.take 6).map jobF) ((mkM (fl.take 6) 0).map entF) a.1 a.2 J M g Mv σ.ρ σ.h) (fl.take 6, 0) ⟨[], [], 1, .fv .nil, ?_⟩ ?_
  · constructor
    all_goals first | rfl | (simp; done)
  · rintro ⟨ys, k⟩ ⟨ρ, h⟩ ⟨J, M, g, Mv, ej, em, ed, lj, lm, lk, r2, r6, r8, r9, r10, r11, r12, g6, g8, g9, g10, g19, g23, g25, o6, o8, o9, o10, o19, o23, o25, om⟩
    dsimp only at ej em ed lj lm lk r2 r6 r8 r9 r10 r11 r12 g6 g8 g9 g10 g19 g23 g25 o6 o8 o9 o10 o19 o23 o25 om
    simp -implicitDefEqProofs only [go_sem, simprocAttr, r2, r12, lenV_ls hs]
    cases ys with
    | nil =>
      have hk : 6 ≤ k ∨ fl.length ≤ k := by have := drop_end ed; simp at this; omega
      simp only [List.map_nil, List.append_nil, mkM] at ej em
      refine brL (fun h1 => ?_) (fun h1 => ?_)
      all_goals
        have h6 : h1 = h1 := rfl
        first
        | have hk6 : ¬ ((k : Int) < 6) := by simp at h1; omega
          simp -implicitDefEqProofs only [go_sem, simprocAttr, r2, r12, h1, hk6]
        | simp -implicitDefEqProofs only [go_sem, simprocAttr, r2, r12, h1]
        refine W_opsD _ _ _ (Vs [[], [], [], [6], [], [8]]) ?_ ?_
        · decide
        rcases om with ⟨om1, om2⟩ | ⟨g', om1, om2, om3, om4⟩
        · subst om1; subst om2
          simp -implicitDefEqProofs only [go_sem, simprocAttr, r9, r10, r11, r6, r8, g9, o9, g10, o10, g6, o6, g8, o8]
          refine ret_tup (fun _ => true) ?_ (by simp [ownNames])
          simp -implicitDefEqProofs only [go_sem, simprocAttr, g19, o19, g23, o23, g25, o25, slip, recF, span, ← ej, ← em, lstN, List.isEmpty]
        · subst om1
          simp -implicitDefEqProofs only [go_sem, simprocAttr, r9, r10, r11, r6, r8, g9, o9, g10, o10, g6, o6, g8, o8]
          refine ret_tup (fun _ => true) ?_ (by simp [ownNames])
          have hne : M.isEmpty = false := by cases M with
            | nil => exact absurd rfl om4
            | cons => rfl
          simp -implicitDefEqProofs only [go_sem, simprocAttr, g19, o19, g23, o23, g25, o25, om2, om3, slip, recF, span, ← ej, ← em, lstN, hne]
    | cons x ys =>
      obtain ⟨d1, d2, d3, d4⟩ := drop_tail ed
      have d5 : k < fl.length ∧ k < 6 := by simp at d3; omega
      have d6 : fl[k]? = some x := by rw [List.getElem?_take] at d2; simpa [d5.2] using d2
      have hx := hf x (List.mem_of_getElem? d6)
      have hn := nf_bd hx.1
      have k1 : ((k : Int) < ((fl.map u8).length : Nat)) := by simp; exact_mod_cast d5.1
      have k2 : ((k : Int) < 6) := by omega
      have d7 : (fl.map u8)[k]? = some (u8 x) := by simp [d6]
      have b0 : IntKind.i64.wrap x = x := wr x (by omega) (by omega)
      have b1 : IntKind.i64.wrap (1 + x.tmod 100) = nf x := wr (1 + x.tmod 100) (by unfold nf at hn; omega) (by unfold nf at hn; omega)
      have b2 : IntKind.i64.wrap (2 * (k : Int)) = 2 * k := wr _ (by omega) (by omega)
      have b3 : IntKind.i64.wrap ((k : Int) + 1) = ((k + 1 : Nat) : Int) := wr _ (by omega) (by omega)
      simp -implicitDefEqProofs only [go_sem, simprocAttr, k1]
      simp -implicitDefEqProofs only [go_sem, simprocAttr, r2, r12, k1, k2, index_ls hs idx_23 d7 rfl, u8, b0, b1, r11]
      refine app_gl (by simp -implicitDefEqProofs only [go_sem, simprocAttr, g25, o25]; rfl) idx_28 (by simp -implicitDefEqProofs only [go_sem, simprocAttr]; rfl) (by simp [FV.cells]) (by simp -implicitDefEqProofs only [go_sem, simprocAttr]) (by simp [byt_54]; omega) (by simp [maxLen]; omega) (by simp) ?_
      rcases om with ⟨om1, om2⟩ | ⟨g', om1, om2, om3, om4⟩
      · subst om1; subst om2
        simp -implicitDefEqProofs only [go_sem, simprocAttr, r10, r12, g10, o10, g25, o25, b2]
        refine app_nil idx_32 (by decide) (by simp -implicitDefEqProofs only [go_sem, simprocAttr]; rfl) (by simp [FV.cells]) (by simp -implicitDefEqProofs only [go_sem, simprocAttr]) (by simp [byt_69]) (by simp [maxLen]) ?_
        simp -implicitDefEqProofs only [go_sem, simprocAttr, r10, r12, g10, o10, b3]
        refine ⟨(ys, k + 1), Nat.lt_succ_self _, J ++ [jobF x], [entF (2 * k, nf x)], g + 1, .gl 56 (h.gen 56 + 1), ?_⟩
        exact {
          ej := by simpa using ej
          em := by simpa [mkM] using em
          ed := d1
          lj := by simp [lj]
          lm := by simp at lm; simp; omega
          lk := d5.2
          r2 := by simp -implicitDefEqProofs only [go_sem, simprocAttr, r2]
          r6 := by simp -implicitDefEqProofs only [go_sem, simprocAttr, r6]
          r8 := by simp -implicitDefEqProofs only [go_sem, simprocAttr, r8]
          r9 := by simp -implicitDefEqProofs only [go_sem, simprocAttr, r9]
          r10 := by simp -implicitDefEqProofs only [go_sem, simprocAttr, r10]
          r11 := by simp -implicitDefEqProofs only [go_sem, simprocAttr]
          r12 := by simp -implicitDefEqProofs only [go_sem, simprocAttr]
          g6 := by simp -implicitDefEqProofs only [go_sem, simprocAttr, g6]
          g8 := by simp -implicitDefEqProofs only [go_sem, simprocAttr, g8]
          g9 := by simp -implicitDefEqProofs only [go_sem, simprocAttr, g9]
          g10 := by simp -implicitDefEqProofs only [go_sem, simprocAttr, g10]
          g19 := by simp -implicitDefEqProofs only [go_sem, simprocAttr, g19]
          g23 := by simp -implicitDefEqProofs only [go_sem, simprocAttr, g23]
          g25 := by simp -implicitDefEqProofs only [go_sem, simprocAttr]
          o6 := by simp -implicitDefEqProofs only [go_sem, simprocAttr, o6]
          o8 := by simp -implicitDefEqProofs only [go_sem, simprocAttr, o8]
          o9 := by simp -implicitDefEqProofs only [go_sem, simprocAttr, o9]
          o10 := by simp -implicitDefEqProofs only [go_sem, simprocAttr]
          o19 := by simp -implicitDefEqProofs only [go_sem, simprocAttr, o19]
          o23 := by simp -implicitDefEqProofs only [go_sem, simprocAttr, o23]
          o25 := by simp -implicitDefEqProofs only [go_sem, simprocAttr]; rfl
          om := by refine .inr ⟨_, rfl, ?_, ?_, by simp⟩ <;> simp -implicitDefEqProofs only [go_sem, simprocAttr] <;> rfl }
      · subst om1
        simp -implicitDefEqProofs only [go_sem, simprocAttr, r10, r12, g10, o10, g25, o25, b2]
        refine app_gl (by simp -implicitDefEqProofs only [go_sem, simprocAttr, om2, om3]; rfl) idx_32 (by simp -implicitDefEqProofs only [go_sem, simprocAttr]; rfl) (by simp [FV.cells]) (by simp -implicitDefEqProofs only [go_sem, simprocAttr]) (by simp [byt_69]; omega) (by simp [maxLen]; omega) (by simp) ?_
        simp -implicitDefEqProofs only [go_sem, simprocAttr, r10, r12, g10, o10, b3]
        refine ⟨(ys, k + 1), Nat.lt_succ_self _, J ++ [jobF x], M ++ [entF (2 * k, nf x)], g + 1, .gl 56 (g' + 1), ?_⟩
        exact {
          ej := by simpa using ej
          em := by simpa [mkM] using em
          ed := d1
          lj := by simp [lj]
          lm := by simp [lm]
          lk := d5.2
          r2 := by simp -implicitDefEqProofs only [go_sem, simprocAttr, r2]
          r6 := by simp -implicitDefEqProofs only [go_sem, simprocAttr, r6]
          r8 := by simp -implicitDefEqProofs only [go_sem, simprocAttr, r8]
          r9 := by simp -implicitDefEqProofs only [go_sem, simprocAttr, r9]
          r10 := by simp -implicitDefEqProofs only [go_sem, simprocAttr, r10]
          r11 := by simp -implicitDefEqProofs only [go_sem, simprocAttr]
          r12 := by simp -implicitDefEqProofs only [go_sem, simprocAttr]
          g6 := by simp -implicitDefEqProofs only [go_sem, simprocAttr, g6]
          g8 := by simp -implicitDefEqProofs only [go_sem, simprocAttr, g8]
          g9 := by simp -implicitDefEqProofs only [go_sem, simprocAttr, g9]
          g10 := by simp -implicitDefEqProofs only [go_sem, simprocAttr, g10]
          g19 := by simp -implicitDefEqProofs only [go_sem, simprocAttr, g19]
          g23 := by simp -implicitDefEqProofs only [go_sem, simprocAttr, g23]
          g25 := by simp -implicitDefEqProofs only [go_sem, simprocAttr]
          o6 := by simp -implicitDefEqProofs only [go_sem, simprocAttr, o6]
          o8 := by simp -implicitDefEqProofs only [go_sem, simprocAttr, o8]
          o9 := by simp -implicitDefEqProofs only [go_sem, simprocAttr, o9]
          o10 := by simp -implicitDefEqProofs only [go_sem, simprocAttr]
          o19 := by simp -implicitDefEqProofs only [go_sem, simprocAttr, o19]
          o23 := by simp -implicitDefEqProofs only [go_sem, simprocAttr, o23]
          o25 := by simp -implicitDefEqProofs only [go_sem, simprocAttr]; rfl
          om := by refine .inr ⟨_, rfl, ?_, ?_, by simp⟩ <;> simp -implicitDefEqProofs only [go_sem, simprocAttr] <;> rfl }
end S12

