/- A part of the proof: X04l, X04m. -/
import Derived.Test.YtncbkgbdpaibmaaP04b
import Derived.Test.YtncbkgbdpaibmaaX04i
import Derived.Test.YtncbkgbdpaibmaaX04b
import Derived.Test.YtncbkgbdpaibmaaC04c0
set_option linter.unusedVariables false
set_option linter.unusedSimpArgs false
set_option maxRecDepth 20000
namespace S04
open Go Abs
theorem t124 {c : Cs} {sw sp : FV} {f : Bool} {X : List FV} (v : CV c sw sp) (ok : c.Ok) (hX : ∀ x ∈ X, WV c x x.toL) (lX : X.length ≤ 5) (hne : X ≠ []) : Fn Q 124 [.fo (c.fv sw sp), .fo (.list f X)] (.one (.fx (.int (2 * c.R - c.B + c.ln (X.map FV.toL))))) := by
  have o1 := ls_one v.w
  have o2 := ls_one v.p
  have r0 := ok.r0
  have r1 := ok.r1
  have b0 := ok.b0
  have b1 := ok.b1
  have w1 : IntKind.i64.wrap (2 * c.R) = 2 * c.R := wr _ (by omega) (by omega)
  have pos : 0 < X.length := List.length_pos_iff.2 hne
  refine w124 ?_
  dsimp only [c124, sop, gop, nop, qmv, qsg, qex, qld, qcl, qln, qix, qbo, qt, qi]
  simp -implicitDefEqProofs only [go_sem, simprocAttr, o1, o2, w1]
  refine lpL (β := Int) 10 [5, 6] 10 [] X (by omega) (fun xs k m => (k = 0 ∧ m = 2 * c.R ∧ xs = X ∨ 0 < k ∧ m + c.ln (xs.map FV.toL) = 2 * c.R - c.B + c.ln (X.map FV.toL)) ∧ -(1000 * (k : Int)) ≤ m ∧ m ≤ 2000 * (k : Int) + 40) (fun k m ρ h => ρ 6 = .fv (.int (k : Nat)) ∧ ρ 5 = .fv (.int m)) (2 * c.R) ⟨.inl ⟨rfl, rfl, rfl⟩, by omega, by omega⟩ ?_ ?_ ?_
  · simp -implicitDefEqProofs only [go_sem, simprocAttr]
  · rintro m ρ h ⟨e, _, _⟩ ⟨r6, r5⟩
    simp -implicitDefEqProofs only [go_sem, simprocAttr, r6, r5]
    refine ret_eq ?_
    rcases e with ⟨e, _⟩ | ⟨_, e⟩
    · omega
    · rw [← e]; simp [Cs.ln]
  · rintro x xs k m ρ h hx hk hm hk' hwr ⟨e, m0, m1⟩ ⟨r6, r5⟩
    have hxw := hX x hm
    have c26 := t26 v ok hxw
    have nb := ok.nd_bd hxw.b
    have xl := hxw.l
    have w4 : IntKind.i64.wrap (c.nd x.toL - 2 * c.R) = c.nd x.toL - 2 * c.R := wr _ (by omega) (by omega)
    have w5 : IntKind.i64.wrap (m + (c.nd x.toL - 2 * c.R)) = m + (c.nd x.toL - 2 * c.R) := wr _ (by omega) (by omega)
    have w6 : IntKind.i64.wrap (m + (c.nd x.toL - 2 * c.R) + c.B) = m + (c.nd x.toL - 2 * c.R) + c.B := wr _ (by omega) (by omega)
    have hx1 : x.cells.length = 1 := by rw [ls_cells hxw.s]; rfl
    simp -implicitDefEqProofs only [go_sem, simprocAttr, r6, hk']
    refine W_opsD _ _ _ (Vs []) ?_ ?_
    · decide
    simp -implicitDefEqProofs only [go_sem, simprocAttr, r5, r6, o1, o2, hx, ls_cells hxw.s]
    refine callD [] false [.fo (c.fv sw sp), .fo x] [] c26 ⟨rfl, rfl, trivial⟩ rfl (.inl rfl) ?_
    by_cases hk0 : 0 < k
    · have hk0' : (0 : Int) < (k : Nat) := by omega
      simp -implicitDefEqProofs only [go_sem, simprocAttr, w1, w4, w5, r6, hk0', w6, hwr]
      refine nxtL (m + (c.nd x.toL - 2 * c.R) + c.B) ⟨.inr ⟨by omega, ?_⟩, by push_cast; omega, by push_cast; omega⟩ ?_
      · rcases e with ⟨e, _⟩ | ⟨_, e⟩
        · omega
        · rw [← e]; simp only [List.map_cons, Cs.ln]; omega
      · simp -implicitDefEqProofs only [go_sem, simprocAttr]
    · have hk0' : ¬ (0 : Int) < (k : Nat) := by omega
      simp -implicitDefEqProofs only [go_sem, simprocAttr, w1, w4, w5, r6, hk0', hwr]
      refine nxtL (m + (c.nd x.toL - 2 * c.R)) ⟨.inr ⟨by omega, ?_⟩, by push_cast; omega, by push_cast; omega⟩ ?_
      · rcases e with ⟨_, e1, e2⟩ | ⟨e, _⟩
        · rw [e1, ← e2]; simp only [List.map_cons, Cs.ln]; omega
        · omega
      · simp -implicitDefEqProofs only [go_sem, simprocAttr]
def rsV (m : Int) (o : Option Int) : Int := match o with | none => -1 | some r => max m r
def rsA (c : Cs) (n : Int) (W : List (List Int)) (l : List Int) (m : Int) : Int := match l with | [] => m | a :: t => rsV m (c.rsO n W a.toNat t)
theorem t97 {c : Cs} {sw sp sW sb : FV} {wl : List FV} {l : List Int} {n : Int} (v : CV c sw sp) (ok : c.Ok) (W : WsV c sW wl) (hb : lsOf sb = some (ints l)) (hl : l.length ≤ 5) (hr : ∀ x ∈ l, 0 ≤ x ∧ x < wl.length) (hp : l.Pairwise (· < ·)) (n0 : 0 ≤ n) (n1 : n ≤ 1000) (hw0 : wl ≠ []) :
    Fn Q 97 [.fo (c.fv sw sp), .fo sW, .fo sb, .fo (.int n)] (.one (.fx (.int (rsA c n (wl.map FV.toL) l 0)))) := by
  have o1 := ls_one v.w
  have o2 := ls_one v.p
  have wl5 := W.l
  have hws := W.s
  have r0 := ok.r0
  have r1 := ok.r1
  have b0 := ok.b0
  have b1 := ok.b1
  rcases ls_cases hws with ⟨f, rfl⟩ | ⟨rfl, e⟩
  · have e3 : ∀ x ∈ wl, x.cells.length = 1 := fun x hx => by rw [ls_cells (W.w x hx).s]; rfl
    refine w97 ?_
    dsimp only [c97, sop, gop, nop, qmv, qsg, qex, qld, qcl, qln, qix, qbo, qt, qi]
    simp -implicitDefEqProofs only [go_sem, simprocAttr, o1, o2]
    generalize hZ : rsA c n (wl.map FV.toL) l 0 = Z
    refine lpL (β := Int) 13 [9, 10, 11, 12] 13 [] l (by omega) (fun xs k m => l.drop k = xs ∧ rsA c n (wl.map FV.toL) xs m = Z ∧ 0 ≤ m ∧ m ≤ 5000) (fun k m ρ h => ρ 10 = .fv (.int (k : Nat)) ∧ ρ 9 = .fv (.int m)) 0 ⟨rfl, hZ, by omega, by omega⟩ ?_ ?_ ?_
    · simp -implicitDefEqProofs only [go_sem, simprocAttr]
    · rintro m ρ h ⟨_, e, _, _⟩ ⟨r10, r9⟩
      simp -implicitDefEqProofs only [go_sem, simprocAttr, r10, r9, lenV_ls hb, ints_length]
      exact ret_eq (by rw [← e]; rfl)
    · rintro a xs k m ρ h hx hk hm hk' hwr ⟨ed, e, m0, m1⟩ ⟨r10, r9⟩
      have ha := hr a hm
      have aN : ((a.toNat : Nat) : Int) = a := Int.toNat_of_nonneg ha.1
      have key : ∀ (e' : Nat), a.toNat < e' → e' ≤ wl.length → Fn Q 124 [.fo (c.fv sw sp), .fo (.list (f && decide ((e' : Int) = (wl.length : Nat))) ((wl.take e').drop a.toNat))] (.one (.fx (.int (2 * c.R - c.B + c.ln (((wl.map FV.toL).take e').drop a.toNat))))) := fun e' h1 h2 => by
        have e4 : ((wl.map FV.toL).take e').drop a.toNat = ((wl.take e').drop a.toNat).map FV.toL := by simp [List.map_take, List.map_drop]
        rw [e4]
        exact t124 v ok (fun x hx => W.w x (List.mem_of_mem_take (List.mem_of_mem_drop hx))) (by simp; omega) (by rw [ne_eq, ← List.length_eq_zero_iff, List.length_drop, List.length_take]; omega)
      have lnb : ∀ (e' : Nat), -(100 * (5 : Int)) ≤ c.ln (((wl.map FV.toL).take e').drop a.toNat) ∧ c.ln (((wl.map FV.toL).take e').drop a.toNat) ≤ 2000 * 5 := fun e' => by
        have e4 : ((wl.map FV.toL).take e').drop a.toNat = ((wl.take e').drop a.toNat).map FV.toL := by simp [List.map_take, List.map_drop]
        rw [e4]
        have := ok.ln_bd ((wl.take e').drop a.toNat) fun x hx => W.w x (List.mem_of_mem_take (List.mem_of_mem_drop hx))
        have hl' : ((wl.take e').drop a.toNat).length ≤ 5 := by simp; omega
        omega
      have hs : ∀ z, lsOf z = lsOf z := fun _ => rfl
      cases xs with
      | nil =>
        have hk1 : ¬ ((k + 1 : Nat) : Int) < (l.length : Nat) := by have := congrArg List.length ed; simp at this; omega
        have c124 := key wl.length (by omega) (Nat.le_refl _)
        have lb := lnb wl.length
        have i1 : a ≤ (wl.length : Nat) := by omega
        have wR : IntKind.i64.wrap (n - (2 * c.R - c.B + c.ln (((wl.map FV.toL).take wl.length).drop a.toNat))) = c.rest n (((wl.map FV.toL).take wl.length).drop a.toNat) := by rw [wr _ (by omega) (by omega)]; unfold Cs.rest; omega
        have rb : c.rest n (((wl.map FV.toL).take wl.length).drop a.toNat) ≤ 5000 := by unfold Cs.rest; omega
        have eL : ((wl.map FV.toL).take (wl.map FV.toL).length) = ((wl.map FV.toL).take wl.length) := by simp
        simp only [rsA, Cs.rsO, eL] at e
        generalize c.rest n (((wl.map FV.toL).take wl.length).drop a.toNat) = r at *
        by_cases hr0 : r < 0
        · rw [if_neg (by omega)] at e
          simp -implicitDefEqProofs only [go_sem, simprocAttr, r10, lenV_ls hb, ints_length, hk', hwr, hk1, index_map hb idx_22 hx rfl, Option.elim, i1, ha.1, Int.le_refl, eq_true e3, implies_true, Int.toNat_natCast, o1, o2]
          refine call0 [] false c124 (by simp -implicitDefEqProofs only [go_sem, simprocAttr]) (.inl rfl) ?_
          simp -implicitDefEqProofs only [go_sem, simprocAttr, wR, hr0]
          exact ret_eq (by simpa [rsV] using e)
        · rw [if_pos (by omega)] at e
          simp -implicitDefEqProofs only [go_sem, simprocAttr, r10, lenV_ls hb, ints_length, hk', hwr, hk1, index_map hb idx_22 hx rfl, Option.elim, i1, ha.1, Int.le_refl, eq_true e3, implies_true, Int.toNat_natCast, o1, o2]
          refine call0 [] false c124 (by simp -implicitDefEqProofs only [go_sem, simprocAttr]) (.inl rfl) ?_
          simp -implicitDefEqProofs only [go_sem, simprocAttr, wR, hr0, r9, r10, hwr]
          refine nxtL (max m r) ⟨by have := congrArg List.tail ed; simpa using this, by rw [← e]; rfl, by omega, by omega⟩ ?_
          simp -implicitDefEqProofs only [go_sem, simprocAttr]
      | cons b xs =>
        have hk1 : ((k + 1 : Nat) : Int) < (l.length : Nat) := by have := congrArg List.length ed; simp at this; omega
        have d1 : l.drop (k + 1) = b :: xs := by have := congrArg List.tail ed; simpa using this
        have hx2 : l[k + 1]? = some b := (drop_tail d1).2.1
        have hbm := hr b (List.mem_of_getElem? hx2)
        have bN : ((b.toNat : Nat) : Int) = b := Int.toNat_of_nonneg hbm.1
        have hab : a < b := by
          have := List.pairwise_iff_getElem.1 hp k (k + 1) (by omega) (by omega) (by omega)
          rw [List.getElem?_eq_getElem (by omega)] at hx hx2
          simp only [Option.some.injEq] at hx hx2
          rw [hx, hx2] at this
          exact this
        have c124 := key b.toNat (by omega) (by omega)
        rw [bN] at c124
        have lb := lnb b.toNat
        have i1 : a ≤ b := by omega
        have i2 : b ≤ (wl.length : Nat) := by omega
        have wR : IntKind.i64.wrap (n - (2 * c.R - c.B + c.ln (((wl.map FV.toL).take b.toNat).drop a.toNat))) = c.rest n (((wl.map FV.toL).take b.toNat).drop a.toNat) := by rw [wr _ (by omega) (by omega)]; unfold Cs.rest; omega
        have rb : c.rest n (((wl.map FV.toL).take b.toNat).drop a.toNat) ≤ 5000 := by unfold Cs.rest; omega
        simp only [rsA, Cs.rsO] at e
        generalize c.rest n (((wl.map FV.toL).take b.toNat).drop a.toNat) = r at *
        by_cases hr0 : r < 0
        · rw [if_pos hr0] at e
          simp -implicitDefEqProofs only [go_sem, simprocAttr, r10, lenV_ls hb, ints_length, hk', hwr, hk1, index_map hb idx_22 hx2 rfl, index_map hb idx_22 hx rfl, Option.elim, i1, i2, ha.1, Int.le_refl, eq_true e3, implies_true, o1, o2]
          refine call0 [] false c124 (by simp -implicitDefEqProofs only [go_sem, simprocAttr]) (.inl rfl) ?_
          simp -implicitDefEqProofs only [go_sem, simprocAttr, wR, hr0]
          exact ret_eq (by simpa [rsV] using e)
        · rw [if_neg hr0] at e
          simp -implicitDefEqProofs only [go_sem, simprocAttr, r10, lenV_ls hb, ints_length, hk', hwr, hk1, index_map hb idx_22 hx2 rfl, index_map hb idx_22 hx rfl, Option.elim, i1, i2, ha.1, Int.le_refl, eq_true e3, implies_true, o1, o2]
          refine call0 [] false c124 (by simp -implicitDefEqProofs only [go_sem, simprocAttr]) (.inl rfl) ?_
          simp -implicitDefEqProofs only [go_sem, simprocAttr, wR, hr0, r9, r10, hwr]
          refine nxtL (max m r) ⟨d1, ?_, by omega, by omega⟩ ?_
          · rw [← e]
            simp only [rsA]
            cases c.rsO n (wl.map FV.toL) b.toNat xs with
            | none => rfl
            | some q => simp only [rsV, Option.map_some]; omega
          · simp -implicitDefEqProofs only [go_sem, simprocAttr]
  · exact absurd e hw0
end S04

namespace S04
open Go Abs
theorem rsO_nn {c : Cs} {n : Int} {W : List (List Int)} : ∀ (t : List Int) (a : Nat) (r : Int), c.rsO n W a t = some r → 0 ≤ r
  | [], a, r, h => by
    simp only [Cs.rsO] at h
    split at h
    · simp only [Option.some.injEq] at h; omega
    · simp at h
  | b :: t, a, r, h => by
    simp only [Cs.rsO] at h
    split at h
    · simp at h
    · rw [Option.map_eq_some_iff] at h
      obtain ⟨q, h1, h2⟩ := h
      omega
theorem mem_numFrom {i n : Nat} {x : Int} (h : x ∈ numFrom i n) : (i : Int) ≤ x ∧ x < i + n := by
  unfold numFrom at h
  rw [List.mem_map] at h
  obtain ⟨k, h1, rfl⟩ := h
  rw [List.mem_range'_1] at h1
  omega
theorem setM_z {N S : Nat} : (∀ x ∈ (0 : Int) :: setM N S, 0 ≤ x ∧ x < ((N + 1 : Nat) : Int)) ∧ ((0 : Int) :: setM N S).Pairwise (· < ·) ∧ ((0 : Int) :: setM N S).length ≤ N + 1 := by
  have hs := setM_sub N S
  refine ⟨fun x hx => ?_, ?_, ?_⟩
  · rcases List.mem_cons.1 hx with rfl | hx
    · omega
    · have := mem_numFrom (hs.subset hx)
      omega
  · rw [List.pairwise_cons]
    refine ⟨fun x hx => ?_, (numFrom_pw _ _).sublist hs⟩
    have := mem_numFrom (hs.subset hx)
    omega
  · have := set_len N S
    simp only [setM, List.length_cons, List.length_map]
    omega
def bkL (b : Option (List Int × Int)) : List Int := match b with | none => [] | some x => x.1
def bkR (b : Option (List Int × Int)) : Int := match b with | none => -1 | some x => x.2
set_option maxHeartbeats 2000000 in
theorem t42 {c : Cs} {sw sp sW : FV} {wl : List FV} {n : Int} {r : List Int × Int} (v : CV c sw sp) (ok : c.Ok) (W : WsV c sW wl) (n0 : 0 ≤ n) (n1 : n ≤ 1000) (hw0 : wl ≠ []) (hr : rfS (c.rsO n (wl.map FV.toL) 0) (wl.length - 1) (2 ^ (wl.length - 1)) 0 none = some r) :
    Fn Q 42 [.fo (c.fv sw sp), .fo sW, .fo (.int n)] (.tup [.fx (.list false (ints r.1)), .fx (.int r.2)]) := by
  have o1 := ls_one v.w
  have o2 := ls_one v.p
  have wl5 := W.l
  have hws := W.s
  obtain ⟨N, hN⟩ : ∃ N, wl.length = N + 1 := ⟨wl.length - 1, by have := List.length_pos_iff.2 hw0; omega⟩
  have hN' : wl.length - 1 = N := by omega
  rw [hN'] at hr
  have pw : (2 : Nat) ^ N ≤ 16 := by
    have := Nat.pow_le_pow_right (show 0 < 2 by decide) (show N ≤ 4 by omega)
    simpa using this
  have pp : 0 < (2 : Nat) ^ N := Nat.pow_pos (by decide)
  have pwi : (2 : Int) ^ N = ((2 ^ N : Nat) : Int) := by push_cast; rfl
  have hsh : IntKind.i64.wrap (1 * 2 ^ min N 64) = ((2 ^ N : Nat) : Int) := by
    rw [show min N 64 = N by omega, pwi, wr _ (by omega) (by omega)]; omega
  have hw1 : IntKind.i64.wrap ((wl.length : Nat) - 1) = (N : Nat) := by rw [wr _ (by omega) (by omega)]; omega
  have wn0 : ¬ ((N : Int) < 0) := by omega
  have wuN := wu (show N ≤ 1000 by omega)
  have c97 := fun {l : List Int} (hl : l.length ≤ 5) (hr : ∀ x ∈ l, 0 ≤ x ∧ x < wl.length) (hp : l.Pairwise (· < ·)) => t97 (sb := .list false (ints l)) (l := l) v ok W rfl hl hr hp n0 n1 hw0
  have c87 := fun {a b : List Int} (e : a.length = b.length) (l1 : a.length ≤ 1000000) => t87 (sa := .list false (ints a)) (sb := .list false (ints b)) (a := a) (b := b) rfl rfl e l1
  refine w42 ?_
  dsimp only [c42, sop, gop, nop, qmv, qsg, qex, qld, qcl, qln, qix, qbo, qt, qi]
  simp -implicitDefEqProofs only [go_sem, simprocAttr, o1, o2]
  refine lpHV 13 [8, 9, 10, 11, 12] 13 [] (fun a : Nat × Option (List Int × Int) => 2 ^ N - a.1) (fun a => a.1 ≤ 2 ^ N ∧ rfS (c.rsO n (wl.map FV.toL) 0) N (2 ^ N - a.1) a.1 a.2 = some r ∧ ∀ x, a.2 = some x → x.1.length ≤ 5 ∧ 0 ≤ x.2)
    (fun a ρ h => ρ 10 = .fv (.int (a.1 : Nat)) ∧ ρ 9 = .fv (.int (bkR a.2)) ∧ LsAt 3 1 [14, 24] (ρ 8) h (ints (bkL a.2)))
    (fun a ρ h => ρ 10 = .fv (.int (a.1 : Nat)) ∧ ρ 9 = .fv (.int (bkR a.2)) ∧ ρ 8 = .fv (.list false (ints (bkL a.2))))
    (0, none) ⟨Nat.zero_le _, by simpa using hr, by simp⟩ ?_ ?_ ?_
  · refine ⟨by simp -implicitDefEqProofs only [go_sem, simprocAttr], by simp -implicitDefEqProofs only [go_sem, simprocAttr, bkR], .inr ⟨14, by simp, by simp -implicitDefEqProofs only [go_sem, simprocAttr], false, by simp -implicitDefEqProofs only [go_sem, simprocAttr, bkL, ints]⟩⟩
  · rintro a ⟨ρ, h⟩ _ f1 f2 ⟨r10, r9, l8⟩
    refine ⟨_, view1 (i := 8) l8, ?_, ?_, ?_⟩
    · simp -implicitDefEqProofs only [go_sem, simprocAttr]
      exact f1
    · exact offH_frz f2 (by decide)
    · simp -implicitDefEqProofs only [go_sem, simprocAttr]
      exact ⟨r10, r9⟩
  · rintro ⟨S, b⟩ ρ h ⟨i0, i1, i2⟩ ⟨r10, r9, r8⟩
    dsimp only at i0 i1 i2 r10 r8 r9
    by_cases hS : S < 2 ^ N
    · have hS' : (S : Int) < ((2 ^ N : Nat) : Int) := by omega
      have hwS : IntKind.i64.wrap ((S : Int) + 1) = ((S + 1 : Nat) : Int) := wr _ (by omega) (by omega)
      obtain ⟨d, hd⟩ : ∃ d, 2 ^ N - S = d + 1 := ⟨2 ^ N - S - 1, by omega⟩
      have hd' : 2 ^ N - (S + 1) = d := by omega
      rw [hd, rfS] at i1
      obtain ⟨z1, z2, z3⟩ := setM_z (N := N) (S := S)
      simp -implicitDefEqProofs only [go_sem, simprocAttr, r10, lenV_ls hws, hw1, wuN, wn0, hsh, hS']
      clear pwi hsh
      refine lpH 25 [11, 12] 24 [] (fun k : Nat => N - k) (fun k => k ≤ N) (fun k ρ h => ρ 12 = .fv (.int ((k + 1 : Nat) : Int)) ∧ ρ 11 = .gl 24 (h.gen 24) ∧ h.obj 24 = some (.list 3 1 false false (ints (0 :: (idxT 0 (maskF S k)).map (· + 1))))) 0 (Nat.zero_le _) ?_ ?_
      · simp -implicitDefEqProofs only [go_sem, simprocAttr]
        rfl
      · rintro k ρ2 h2 hk ⟨r12, r11, o24⟩
        have k0 : ¬ ((k : Int) < 0) := by omega
        have e6 : min k 64 = k := by omega
        have hb := bit_int S k
        have hwk1 : IntKind.i64.wrap (((k + 1 : Nat) : Int) - 1) = (k : Nat) := by rw [wr _ (by omega) (by omega)]; omega
        have hwk : IntKind.i64.wrap (((k + 1 : Nat) : Int) + 1) = ((k + 1 + 1 : Nat) : Int) := by rw [wr _ (by omega) (by omega)]; omega
        have il := set_len k S
        unfold setL at il
        by_cases hkN : k < N
        · have q : ((k + 1 : Nat) : Int) < (wl.length : Nat) := by omega
          have es : (idxT 0 (maskF S (k + 1))).map (· + 1) = (idxT 0 (maskF S k)).map (· + 1) ++ if Nat.testBit S k then [((k + 1 : Nat) : Int)] else [] := by
            rw [mask_succ, idxT_app, mask_len, Nat.zero_add, List.map_append]
            cases Nat.testBit S k <;> simp
          cases bt : Nat.testBit S k with
          | true =>
            rw [bt] at hb es
            simp only [if_true] at hb es
            simp -implicitDefEqProofs only [go_sem, simprocAttr, r10, r12, lenV_ls hws, q, hwk1, wu (show k ≤ 1000 by omega), k0, e6, hb, r11]
            refine app_gl (by simp -implicitDefEqProofs only [go_sem, simprocAttr, o24]; rfl) idx_22 (by simp -implicitDefEqProofs only [go_sem, simprocAttr]; rfl) (by simp [FV.cells]) (by simp -implicitDefEqProofs only [go_sem, simprocAttr]) (by simp [byt_3, ints]; omega) (by simp [maxLen, ints]; omega) (by simp) ?_
            simp -implicitDefEqProofs only [go_sem, simprocAttr, r12, hwk]
            refine nxt (k + 1) (by omega) (by omega) ?_
            simp -implicitDefEqProofs only [go_sem, simprocAttr, es, ints, List.map_append, List.map_cons, List.cons_append]
          | false =>
            rw [bt] at hb es
            simp only [Bool.false_eq_true, if_false, List.append_nil] at hb es
            simp -implicitDefEqProofs only [go_sem, simprocAttr, r10, r12, lenV_ls hws, q, hwk1, wu (show k ≤ 1000 by omega), k0, e6, hb, hwk]
            refine nxt (k + 1) (by omega) (by omega) ?_
            simp -implicitDefEqProofs only [go_sem, simprocAttr, es, r11, o24]
        · obtain rfl : k = N := by omega
          have q : ¬ ((k + 1 : Nat) : Int) < (wl.length : Nat) := by omega
          have eM : 0 :: (idxT 0 (maskF S k)).map (· + 1) = 0 :: setM k S := rfl
          rw [eM] at o24
          have c97' := c97 (l := 0 :: setM k S) (by omega) (by rw [hN]; exact z1) z2
          have em : rsA c n (wl.map FV.toL) (0 :: setM k S) 0 = rsV 0 (c.rsO n (wl.map FV.toL) 0 (setM k S)) := rfl
          rw [em] at c97'
          generalize ho : c.rsO n (wl.map FV.toL) 0 (setM k S) = o at *
          generalize 0 :: setM k S = L at *
          cases o with
          | none =>
            have i1' : rfS (c.rsO n (wl.map FV.toL) 0) k d (S + 1) b = some r := i1
            have q2 : ¬ ((0 : Int) ≤ -1) := by decide
            simp -implicitDefEqProofs only [go_sem, simprocAttr, r10, r12, lenV_ls hws, q, r11, r9, r8]
            refine call0 [24] false c97' (by simp -implicitDefEqProofs only [go_sem, simprocAttr, o24, lstN, ints]) (.inl rfl) ?_
            simp -implicitDefEqProofs only [go_sem, simprocAttr, rsV, q2, r10, r9, r8, hwS, o24]
            refine nxt (S + 1, b) (by simp only; omega) ⟨by simp only; omega, by rw [hd']; exact i1', i2⟩ ?_
            simp -implicitDefEqProofs only [go_sem, simprocAttr, r9, r8]
            exact .inl rfl
          | some p =>
            have p0 := rsO_nn _ _ _ ho
            have pm : max 0 p = p := by omega
            simp only [rsV, pm] at c97'
            cases b with
            | none =>
              have i1' : rfS (c.rsO n (wl.map FV.toL) 0) k d (S + 1) (some (L, p)) = some r := i1
              simp only [bkL, bkR] at r8 r9
              have q2 : (-1 : Int) < 0 := by decide
              simp -implicitDefEqProofs only [go_sem, simprocAttr, r10, r12, lenV_ls hws, q, r11, r9, r8]
              refine call0 [24] false c97' (by simp -implicitDefEqProofs only [go_sem, simprocAttr, o24, lstN, ints]) (.inl rfl) ?_
              simp -implicitDefEqProofs only [go_sem, simprocAttr, p0, r10, r9, r8, r11, o24, ints_length, hwS, q2]
              refine nxt (S + 1, some (L, p)) (by simp only; omega) ⟨by simp only; omega, by rw [hd']; exact i1', fun x hx => by simp at hx; subst hx; exact ⟨by dsimp only; omega, p0⟩⟩ ?_
              simp -implicitDefEqProofs only [go_sem, simprocAttr, bkL, bkR]
              exact .inr ⟨24, by simp, by simp -implicitDefEqProofs only [go_sem, simprocAttr], true, by simp -implicitDefEqProofs only [go_sem, simprocAttr, o24]⟩
            | some y =>
              obtain ⟨y, t⟩ := y
              obtain ⟨y5, t0⟩ := i2 _ rfl
              dsimp only at y5 t0
              simp only [bkL, bkR] at r8 r9
              have q2 : ¬ (t < 0) := by omega
              simp only [upL] at i1
              by_cases q3 : L.length < y.length
              · have hbt : betL L p (some (y, t)) = true := by simp [betL, q3]
                rw [hbt, if_pos rfl] at i1
                have i1' := i1
                have q3' : ((L.length : Nat) : Int) < (y.length : Nat) := by omega
                simp -implicitDefEqProofs only [go_sem, simprocAttr, r10, r12, lenV_ls hws, q, r11, r9, r8]
                refine call0 [24] false c97' (by simp -implicitDefEqProofs only [go_sem, simprocAttr, o24, lstN, ints]) (.inl rfl) ?_
                simp -implicitDefEqProofs only [go_sem, simprocAttr, p0, r10, r9, r8, r11, o24, ints_length, hwS, q2, q3']
                refine nxt (S + 1, some (L, p)) (by simp only; omega) ⟨by simp only; omega, by rw [hd']; exact i1', fun x hx => by simp at hx; subst hx; exact ⟨by dsimp only; omega, p0⟩⟩ ?_
                simp -implicitDefEqProofs only [go_sem, simprocAttr, bkL, bkR]
                exact .inr ⟨24, by simp, by simp -implicitDefEqProofs only [go_sem, simprocAttr], true, by simp -implicitDefEqProofs only [go_sem, simprocAttr, o24]⟩
              · have q3' : ¬ ((L.length : Nat) : Int) < (y.length : Nat) := by omega
                by_cases q4 : L.length = y.length
                · have q4' : ((L.length : Nat) : Int) = (y.length : Nat) := by omega
                  have q4b : (((L.length : Nat) : Int) == (y.length : Nat)) = true := by simpa using q4'
                  by_cases q5 : p < t
                  · have hbt : betL L p (some (y, t)) = true := by simp [betL, q4, q5]
                    rw [hbt, if_pos rfl] at i1
                    have i1' := i1
                    simp -implicitDefEqProofs only [go_sem, simprocAttr, r10, r12, lenV_ls hws, q, r11, r9, r8]
                    refine call0 [24] false c97' (by simp -implicitDefEqProofs only [go_sem, simprocAttr, o24, lstN, ints]) (.inl rfl) ?_
                    simp -implicitDefEqProofs only [go_sem, simprocAttr, p0, r10, r9, r8, r11, o24, ints_length, hwS, q2, q3', q4b, q5]
                    refine nxt (S + 1, some (L, p)) (by simp only; omega) ⟨by simp only; omega, by rw [hd']; exact i1', fun x hx => by simp at hx; subst hx; exact ⟨by dsimp only; omega, p0⟩⟩ ?_
                    simp -implicitDefEqProofs only [go_sem, simprocAttr, bkL, bkR]
                    exact .inr ⟨24, by simp, by simp -implicitDefEqProofs only [go_sem, simprocAttr], true, by simp -implicitDefEqProofs only [go_sem, simprocAttr, o24]⟩
                  · by_cases q6 : p = t
                    · have q6b : (p == t) = true := by simpa using q6
                      have c87' := c87 (a := L) (b := y) q4 (by omega)
                      by_cases q7 : cmpL L y < 0
                      · have hbt : betL L p (some (y, t)) = true := by simp [betL, q4, q6, q7]
                        rw [hbt, if_pos rfl] at i1
                        have i1' := i1
                        rw [decide_eq_true q7] at c87'
                        simp -implicitDefEqProofs only [go_sem, simprocAttr, r10, r12, lenV_ls hws, q, r11, r9, r8]
                        refine call0 [24] false c97' (by simp -implicitDefEqProofs only [go_sem, simprocAttr, o24, lstN, ints]) (.inl rfl) ?_
                        simp -implicitDefEqProofs only [go_sem, simprocAttr, p0, r10, r9, r8, r11, o24, ints_length, hwS, q2, q3', q4b, q5, q6b]
                        refine call0 [24] false c87' (by simp -implicitDefEqProofs only [go_sem, simprocAttr, o24, lstN, ints]) (.inl rfl) ?_
                        simp -implicitDefEqProofs only [go_sem, simprocAttr, p0, r10, r9, r8, r11, o24, ints_length, hwS, q2, q3', q4b, q5, q6b]
                        refine nxt (S + 1, some (L, p)) (by simp only; omega) ⟨by simp only; omega, by rw [hd']; exact i1', fun x hx => by simp at hx; subst hx; exact ⟨by dsimp only; omega, p0⟩⟩ ?_
                        simp -implicitDefEqProofs only [go_sem, simprocAttr, bkL, bkR]
                        exact .inr ⟨24, by simp, by simp -implicitDefEqProofs only [go_sem, simprocAttr], true, by simp -implicitDefEqProofs only [go_sem, simprocAttr, o24]⟩
                      · have hbt : betL L p (some (y, t)) = false := by simp [betL, q4, q6]; omega
                        rw [hbt, if_neg (by decide)] at i1
                        have i1' := i1
                        rw [decide_eq_false q7] at c87'
                        simp -implicitDefEqProofs only [go_sem, simprocAttr, r10, r12, lenV_ls hws, q, r11, r9, r8]
                        refine call0 [24] false c97' (by simp -implicitDefEqProofs only [go_sem, simprocAttr, o24, lstN, ints]) (.inl rfl) ?_
                        simp -implicitDefEqProofs only [go_sem, simprocAttr, p0, r10, r9, r8, r11, o24, ints_length, hwS, q2, q3', q4b, q5, q6b]
                        refine call0 [24] false c87' (by simp -implicitDefEqProofs only [go_sem, simprocAttr, o24, lstN, ints]) (.inl rfl) ?_
                        simp -implicitDefEqProofs only [go_sem, simprocAttr, p0, r10, r9, r8, r11, o24, ints_length, hwS, q2, q3', q4b, q5, q6b]
                        refine nxt (S + 1, some (y, t)) (by simp only; omega) ⟨by simp only; omega, by rw [hd']; exact i1', i2⟩ ?_
                        simp -implicitDefEqProofs only [go_sem, simprocAttr, bkL, bkR, r9, r8]
                        exact .inl rfl
                    · have q6b : (p == t) = false := by simpa using q6
                      have hbt : betL L p (some (y, t)) = false := by simp [betL, q4, q5, q6]
                      rw [hbt, if_neg (by decide)] at i1
                      have i1' := i1
                      simp -implicitDefEqProofs only [go_sem, simprocAttr, r10, r12, lenV_ls hws, q, r11, r9, r8]
                      refine call0 [24] false c97' (by simp -implicitDefEqProofs only [go_sem, simprocAttr, o24, lstN, ints]) (.inl rfl) ?_
                      simp -implicitDefEqProofs only [go_sem, simprocAttr, p0, r10, r9, r8, r11, o24, ints_length, hwS, q2, q3', q4b, q5, q6b]
                      refine nxt (S + 1, some (y, t)) (by simp only; omega) ⟨by simp only; omega, by rw [hd']; exact i1', i2⟩ ?_
                      simp -implicitDefEqProofs only [go_sem, simprocAttr, bkL, bkR, r9, r8]
                      exact .inl rfl
                · have q4b : (((L.length : Nat) : Int) == (y.length : Nat)) = false := by simp; omega
                  have hbt : betL L p (some (y, t)) = false := by simp [betL, q3, q4]
                  rw [hbt, if_neg (by decide)] at i1
                  have i1' := i1
                  simp -implicitDefEqProofs only [go_sem, simprocAttr, r10, r12, lenV_ls hws, q, r11, r9, r8]
                  refine call0 [24] false c97' (by simp -implicitDefEqProofs only [go_sem, simprocAttr, o24, lstN, ints]) (.inl rfl) ?_
                  simp -implicitDefEqProofs only [go_sem, simprocAttr, p0, r10, r9, r8, r11, o24, ints_length, hwS, q2, q3', q4b]
                  refine nxt (S + 1, some (y, t)) (by simp only; omega) ⟨by simp only; omega, by rw [hd']; exact i1', i2⟩ ?_
                  simp -implicitDefEqProofs only [go_sem, simprocAttr, bkL, bkR, r9, r8]
                  exact .inl rfl
    · have hS' : ¬ (S : Int) < ((2 ^ N : Nat) : Int) := by omega
      have : 2 ^ N - S = 0 := by omega
      rw [this, rfS] at i1
      subst i1
      simp -implicitDefEqProofs only [go_sem, simprocAttr, r10, lenV_ls hws, hw1, wuN, wn0, hsh, hS', r8, r9]
      refine ret_tup (fun _ => true) ?_ (by simp [ownNames])
      simp -implicitDefEqProofs only [go_sem, simprocAttr, bkL, bkR]
end S04

