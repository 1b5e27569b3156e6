/- A part of the proof: H04h, H04i, H04j. -/
import Derived.Test.YtncbkgbdpaibmaaH04f
set_option linter.unusedVariables false
set_option linter.unusedSimpArgs false
set_option maxRecDepth 20000
namespace S04
open Go Abs
theorem inB_not {n : Nat} {x : Int} (h1 : inB 0 ((n : Int) - 1) x = false) (h2 : x ≠ -1) : inB (-1) ((n : Int) - 1) x = false := by
  rw [Bool.eq_false_iff] at *
  intro e
  have := inB_iff.1 e
  exact h1 (inB_iff.2 (by omega))
theorem t25 {c : Cs} {sw sp s : FV} {w : List Int} (v : CV c sw sp) (hs : lsOf s = some (ints w)) (hl : w.length ≤ 1000000) (b : Bool) : Fn Q 25 [.fo (c.fv sw sp), .fo s, .fo (.bool b)] (.one (.fx (.bool (isW c.W.length (if b then -1 else 0) w)))) := by
  have o1 := ls_one v.w
  have o2 := ls_one v.p
  have wl := v.wl
  have w1 : IntKind.i64.wrap ((c.W.length : Int) - 1) = (c.W.length : Int) - 1 := wr _ (by omega) (by omega)
  cases b
  · refine w25 ?_
    dsimp only [c25, sop, gop, nop, qmv, qsg, qex, qld, qcl, qln, qix, qbo, qt, qi]
    simp -implicitDefEqProofs only [go_sem, simprocAttr, o1, o2]
    refine lpH 8 [7] 8 [] (fun k : Nat => w.length - k) (fun k => k ≤ w.length ∧ (w.take k).all (inB (0) ((c.W.length : Int) - 1)) = true) (fun k ρ h => ρ 7 = .fv (.int (k : Nat))) 0 ⟨Nat.zero_le _, by simp⟩ ?_ ?_
    · simp -implicitDefEqProofs only [go_sem, simprocAttr]
    · rintro k ρ h ⟨k1, ea⟩ r7
      by_cases hk : k < w.length
      · have hk' : (k : Int) < (w.length : Nat) := by omega
        have hw : IntKind.i64.wrap ((k : Int) + 1) = ((k + 1 : Nat) : Int) := wr _ (by omega) (by omega)
        obtain ⟨x, hx⟩ : ∃ x, w[k]? = some x := ⟨_, List.getElem?_eq_getElem hk⟩
        have et : w.take (k + 1) = w.take k ++ [x] := by rw [List.take_add_one, hx]; rfl
        cases gx : inB 0 ((c.W.length : Int) - 1) x
        · simp -implicitDefEqProofs only [go_sem, simprocAttr, r7, lenV_ls hs, ints_length, hk', index_map hs idx_22 hx rfl, lenV_ls v.w, w1]
          refine call1 [] false (t36 x 0 ((c.W.length : Int) - 1)) ?_
          simp -implicitDefEqProofs only [go_sem, simprocAttr, gx]
          exact ret_eq (by simp [isW, all_take hx gx])
        · simp -implicitDefEqProofs only [go_sem, simprocAttr, r7, lenV_ls hs, ints_length, hk', index_map hs idx_22 hx rfl, lenV_ls v.w, w1]
          refine call1 [] false (t36 x 0 ((c.W.length : Int) - 1)) ?_
          simp -implicitDefEqProofs only [go_sem, simprocAttr, gx, r7, hw]
          refine nxt (k + 1) (by omega) ⟨by omega, by rw [et, List.all_append, ea]; simp [gx]⟩ ?_
          simp -implicitDefEqProofs only [go_sem, simprocAttr]
      · have hk' : ¬ (k : Int) < (w.length : Nat) := by omega
        obtain rfl : k = w.length := by omega
        rw [List.take_length] at ea
        simp -implicitDefEqProofs only [go_sem, simprocAttr, r7, lenV_ls hs, ints_length, hk']
        refine call1 [] false (t36 (w.length : Nat) 1 7) ?_
        simp -implicitDefEqProofs only [go_sem, simprocAttr]
        exact ret_eq (by simp [isW, ea])
  · refine w25 ?_
    dsimp only [c25, sop, gop, nop, qmv, qsg, qex, qld, qcl, qln, qix, qbo, qt, qi]
    simp -implicitDefEqProofs only [go_sem, simprocAttr, o1, o2]
    refine lpH 8 [7] 8 [] (fun k : Nat => w.length - k) (fun k => k ≤ w.length ∧ (w.take k).all (inB (-1) ((c.W.length : Int) - 1)) = true) (fun k ρ h => ρ 7 = .fv (.int (k : Nat))) 0 ⟨Nat.zero_le _, by simp⟩ ?_ ?_
    · simp -implicitDefEqProofs only [go_sem, simprocAttr]
    · rintro k ρ h ⟨k1, ea⟩ r7
      by_cases hk : k < w.length
      · have hk' : (k : Int) < (w.length : Nat) := by omega
        have hw : IntKind.i64.wrap ((k : Int) + 1) = ((k + 1 : Nat) : Int) := wr _ (by omega) (by omega)
        obtain ⟨x, hx⟩ : ∃ x, w[k]? = some x := ⟨_, List.getElem?_eq_getElem hk⟩
        have et : w.take (k + 1) = w.take k ++ [x] := by rw [List.take_add_one, hx]; rfl
        cases gx : inB 0 ((c.W.length : Int) - 1) x
        · by_cases gm : x = -1
          · have gm' : (x == -1) = true := by simpa using gm
            have gy : inB (-1) ((c.W.length : Int) - 1) x = true := inB_iff.2 (by omega)
            simp -implicitDefEqProofs only [go_sem, simprocAttr, r7, lenV_ls hs, ints_length, hk', index_map hs idx_22 hx rfl, lenV_ls v.w, w1]
            refine call1 [] false (t36 x 0 ((c.W.length : Int) - 1)) ?_
            simp -implicitDefEqProofs only [go_sem, simprocAttr, gx, r7, index_map hs idx_22 hx rfl, gm', hw]
            refine nxt (k + 1) (by omega) ⟨by omega, by rw [et, List.all_append, ea]; simp [gy]⟩ ?_
            simp -implicitDefEqProofs only [go_sem, simprocAttr]
          · have gm' : (x == -1) = false := by simpa using gm
            simp -implicitDefEqProofs only [go_sem, simprocAttr, r7, lenV_ls hs, ints_length, hk', index_map hs idx_22 hx rfl, lenV_ls v.w, w1]
            refine call1 [] false (t36 x 0 ((c.W.length : Int) - 1)) ?_
            simp -implicitDefEqProofs only [go_sem, simprocAttr, gx, r7, index_map hs idx_22 hx rfl, gm']
            exact ret_eq (by simp [isW, all_take hx (inB_not gx gm)])
        · have gy : inB (-1) ((c.W.length : Int) - 1) x = true := by have := inB_iff.1 gx; exact inB_iff.2 (by omega)
          simp -implicitDefEqProofs only [go_sem, simprocAttr, r7, lenV_ls hs, ints_length, hk', index_map hs idx_22 hx rfl, lenV_ls v.w, w1]
          refine call1 [] false (t36 x 0 ((c.W.length : Int) - 1)) ?_
          simp -implicitDefEqProofs only [go_sem, simprocAttr, gx, r7, hw]
          refine nxt (k + 1) (by omega) ⟨by omega, by rw [et, List.all_append, ea]; simp [gy]⟩ ?_
          simp -implicitDefEqProofs only [go_sem, simprocAttr]
      · have hk' : ¬ (k : Int) < (w.length : Nat) := by omega
        obtain rfl : k = w.length := by omega
        rw [List.take_length] at ea
        simp -implicitDefEqProofs only [go_sem, simprocAttr, r7, lenV_ls hs, ints_length, hk']
        refine call1 [] false (t36 (w.length : Nat) 1 7) ?_
        simp -implicitDefEqProofs only [go_sem, simprocAttr]
        exact ret_eq (by simp [isW, ea])
theorem t27 {s t : FV} {w g : List Int} (hs : lsOf s = some (ints w)) (ht : lsOf t = some (ints g)) (hl : w.length ≤ 1000000) (hl' : g.length ≤ 1000000) : Fn Q 27 [.fo s, .fo t] (.one (.fx (.bool (gapsB w.length g)))) := by
  have w1 : IntKind.i64.wrap ((w.length : Int) - 1) = (w.length : Int) - 1 := wr _ (by omega) (by omega)
  refine w27 ?_
  dsimp only [c27, sop, gop, nop, qmv, qsg, qex, qld, qcl, qln, qix, qbo, qt, qi]
  simp -implicitDefEqProofs only [go_sem, simprocAttr]
  refine lpH 6 [5] 6 [] (fun k : Nat => g.length - k) (fun k => k ≤ g.length ∧ (g.take k).all (inB 0 400) = true) (fun k ρ h => ρ 5 = .fv (.int (k : Nat))) 0 ⟨Nat.zero_le _, by simp⟩ ?_ ?_
  · simp -implicitDefEqProofs only [go_sem, simprocAttr]
  · rintro k ρ h ⟨k1, ea⟩ r5
    by_cases hk : k < g.length
    · have hk' : (k : Int) < (g.length : Nat) := by omega
      have hw : IntKind.i64.wrap ((k : Int) + 1) = ((k + 1 : Nat) : Int) := wr _ (by omega) (by omega)
      obtain ⟨x, hx⟩ : ∃ x, g[k]? = some x := ⟨_, List.getElem?_eq_getElem hk⟩
      have et : g.take (k + 1) = g.take k ++ [x] := by rw [List.take_add_one, hx]; rfl
      cases gx : inB 0 400 x
      · simp -implicitDefEqProofs only [go_sem, simprocAttr, r5, lenV_ls ht, ints_length, hk', index_map ht idx_22 hx rfl]
        refine call1 [] false (t36 x 0 400) ?_
        simp -implicitDefEqProofs only [go_sem, simprocAttr, gx]
        exact ret_eq (by simp [gapsB, all_take hx gx])
      · simp -implicitDefEqProofs only [go_sem, simprocAttr, r5, lenV_ls ht, ints_length, hk', index_map ht idx_22 hx rfl]
        refine call1 [] false (t36 x 0 400) ?_
        simp -implicitDefEqProofs only [go_sem, simprocAttr, gx, r5, hw]
        refine nxt (k + 1) (by omega) ⟨by omega, by rw [et, List.all_append, ea]; simp [gx]⟩ ?_
        simp -implicitDefEqProofs only [go_sem, simprocAttr]
    · have hk' : ¬ (k : Int) < (g.length : Nat) := by omega
      obtain rfl : k = g.length := by omega
      rw [List.take_length] at ea
      by_cases e : (g.length : Int) = (w.length : Int) - 1
      · have e' : ((g.length : Int) == (w.length : Int) - 1) = true := by simpa using e
        simp -implicitDefEqProofs only [go_sem, simprocAttr, r5, lenV_ls ht, lenV_ls hs, ints_length, hk', w1, e']
        exact ret_eq (by simp [gapsB, ea, e])
      · have e' : ((g.length : Int) == (w.length : Int) - 1) = false := by simpa using e
        simp -implicitDefEqProofs only [go_sem, simprocAttr, r5, lenV_ls ht, lenV_ls hs, ints_length, hk', w1, e']
        exact ret_eq (by simp [gapsB, ea, e])
theorem errO1 (c : Cs) (w : List Int) : errO c [w] = if errC c ≠ 0 then errC c else if isW c.W.length 0 w = false then 4 else 0 := by
  unfold errO
  cases h : isW c.W.length 0 w <;> simp [h]
end S04

namespace S04
open Go Abs
theorem t81 {c : Cs} {sw sp : FV} {a b : Int} (v : CV c sw sp) : Fn Q 81 [.fo (c.fv sw sp), .fo (.int a), .fo (.int b)] (.one (.fx (.int (moR c.P a b)))) := by
  have o1 := ls_one v.w
  have o2 := ls_one v.p
  have pl := v.pl
  refine w81 ?_
  dsimp only [c81, sop, gop, nop, qmv, qsg, qex, qld, qcl, qln, qix, qbo, qt, qi]
  simp -implicitDefEqProofs only [go_sem, simprocAttr, o1, o2]
  refine lpH 8 [7] 8 [] (fun k : Nat => c.P.length - k) (fun k => k ≤ c.P.length ∧ moR (c.P.drop k) a b = moR c.P a b) (fun k ρ h => ρ 7 = .fv (.int (k : Nat))) 0 ⟨Nat.zero_le _, by simp⟩ ?_ ?_
  · simp -implicitDefEqProofs only [go_sem, simprocAttr]
  · rintro k ρ h ⟨k1, ea⟩ r7
    by_cases hk : k < c.P.length
    · have hk' : (k : Int) < (c.P.length : Nat) := by omega
      have hw : IntKind.i64.wrap ((k : Int) + 1) = ((k + 1 : Nat) : Int) := wr _ (by omega) (by omega)
      obtain ⟨p, hp⟩ : ∃ p, c.P[k]? = some p := ⟨_, List.getElem?_eq_getElem hk⟩
      rw [drop_get hp, moR] at ea
      by_cases h1 : p.1 = a
      · have h1' : (p.1 == a) = true := by simpa using h1
        by_cases h2 : p.2.1 = b
        · have h2' : (p.2.1 == b) = true := by simpa using h2
          simp -implicitDefEqProofs only [go_sem, simprocAttr, r7, lenV_ls v.p, List.length_map, hk', index_map v.p idx_23 hp rfl, tF, h1', h2']
          exact ret_eq (by rw [← ea, if_pos ⟨h1, h2⟩])
        · have h2' : (p.2.1 == b) = false := by simpa using h2
          simp -implicitDefEqProofs only [go_sem, simprocAttr, r7, lenV_ls v.p, List.length_map, hk', index_map v.p idx_23 hp rfl, tF, h1', h2', hw]
          refine nxt (k + 1) (by omega) ⟨by omega, by rw [← ea, if_neg (by simp [h2])]⟩ ?_
          simp -implicitDefEqProofs only [go_sem, simprocAttr]
      · have h1' : (p.1 == a) = false := by simpa using h1
        simp -implicitDefEqProofs only [go_sem, simprocAttr, r7, lenV_ls v.p, List.length_map, hk', index_map v.p idx_23 hp rfl, tF, h1', hw]
        refine nxt (k + 1) (by omega) ⟨by omega, by rw [← ea, if_neg (by simp [h1])]⟩ ?_
        simp -implicitDefEqProofs only [go_sem, simprocAttr]
    · have hk' : ¬ (k : Int) < (c.P.length : Nat) := by omega
      rw [List.drop_of_length_le (by omega), moR] at ea
      simp -implicitDefEqProofs only [go_sem, simprocAttr, r7, lenV_ls v.p, List.length_map, hk']
      exact ret_eq (by rw [← ea])
structure Rk (c : Cs) : Prop where
  w : ∀ x ∈ c.W, 1 ≤ x ∧ x ≤ 30
  r0 : 0 ≤ c.R
  r1 : c.R ≤ 20
  l0 : 0 ≤ c.L
  l1 : c.L ≤ 10
  moR : ∀ a b, moR c.P a b = c.mo a b
  mo : ∀ a b, -5 ≤ c.mo a b ∧ c.mo a b ≤ 5
theorem Cs.Ok.rk {c : Cs} (ok : c.Ok) : Rk c := ⟨ok.w, ok.r0, ok.r1, ok.l0, ok.l1, ok.moR, ok.mo⟩
theorem Rk.gw {c : Cs} (ok : Rk c) {x : Int} (h0 : 0 ≤ x) (h1 : x < c.W.length) : c.W[x.toNat]? = some (gI c.W x) ∧ 1 ≤ gI c.W x ∧ gI c.W x ≤ 30 := by
  have := gI_get h0 h1
  exact ⟨this, ok.w _ (List.mem_of_getElem? this)⟩
theorem Rk.ws {c : Cs} (ok : Rk c) : ∀ w : List Int, (∀ x ∈ w, 0 ≤ x ∧ x < c.W.length) → 0 ≤ c.ws w ∧ c.ws w ≤ 30 * w.length
  | [], _ => by simp [Cs.ws]
  | x :: xs, h => by
    have h1 := h x (by simp)
    have := (ok.gw h1.1 h1.2).2
    have := ok.ws xs fun y hy => h y (by simp [hy])
    simp only [Cs.ws, List.length_cons]
    omega
theorem Rk.loo {c : Cs} (ok : Rk c) : ∀ w : List Int, ∀ m ∈ c.loo w, -5 ≤ m ∧ m ≤ 5
  | [], m, h => by simp [Cs.loo] at h
  | [_], m, h => by simp [Cs.loo] at h
  | a :: b :: w, m, h => by
    simp only [Cs.loo, List.mem_cons] at h
    rcases h with rfl | h
    · exact ok.mo a b
    · exact ok.loo (b :: w) m h
theorem t113r {c : Cs} {sw sp : FV} {a b : Int} (v : CV c sw sp) (ok : Rk c) : Fn Q 113 [.fo (c.fv sw sp), .fo (.int a), .fo (.int b)] (.one (.fx (.int (max 0 (c.L - c.mo a b))))) := by
  have o1 := ls_one v.w
  have o2 := ls_one v.p
  have c81 := t81 (a := a) (b := b) v
  rw [ok.moR a b] at c81
  have hm := ok.mo a b
  have l0 := ok.l0
  have l1 := ok.l1
  generalize c.mo a b = m at *
  refine w113 ?_
  dsimp only [c113, sop, gop, nop, qmv, qsg, qex, qld, qcl, qln, qix, qbo, qt, qi]
  simp -implicitDefEqProofs only [go_sem, simprocAttr, o1, o2]
  refine lpH 8 [7] 8 [] (fun n : Nat => (c.L - m - n).toNat) (fun n => (n : Int) ≤ max 0 (c.L - m)) (fun n ρ h => ρ 7 = .fv (.int (n : Nat))) 0 (by omega) ?_ ?_
  · simp -implicitDefEqProofs only [go_sem, simprocAttr]
  · rintro n ρ h hn r7
    have w1 : IntKind.i64.wrap ((n : Int) + m) = (n : Int) + m := wr _ (by omega) (by omega)
    have hw : IntKind.i64.wrap ((n : Int) + 1) = ((n + 1 : Nat) : Int) := wr _ (by omega) (by omega)
    simp -implicitDefEqProofs only [go_sem, simprocAttr, r7]
    refine W_opsD _ _ _ (Vs []) ?_ ?_
    · decide
    simp -implicitDefEqProofs only [go_sem, simprocAttr, r7, o1, o2]
    refine callD [] false [.fo (c.fv sw sp), .fo (.int a), .fo (.int b)] [] c81 ⟨rfl, rfl, rfl, trivial⟩ rfl (.inl rfl) ?_
    by_cases hl : (n : Int) + m < c.L
    · simp -implicitDefEqProofs only [go_sem, simprocAttr, w1, hl, r7, hw]
      refine nxt (n + 1) (by omega) (by omega) ?_
      simp -implicitDefEqProofs only [go_sem, simprocAttr]
    · simp -implicitDefEqProofs only [go_sem, simprocAttr, w1, hl, r7]
      exact ret_eq (by congr 2; omega)
theorem t78r {c : Cs} {sw sp s : FV} {w : List Int} (v : CV c sw sp) (ok : Rk c) (ws : WV c s w) : Fn Q 78 [.fo (c.fv sw sp), .fo s] (.one (.fx (.int (c.ws w)))) := by
  have o1 := ls_one v.w
  have o2 := ls_one v.p
  obtain ⟨hs, hl, hb⟩ := ws
  refine w78 ?_
  dsimp only [c78, sop, gop, nop, qmv, qsg, qex, qld, qcl, qln, qix, qbo, qt, qi]
  simp -implicitDefEqProofs only [go_sem, simprocAttr, o1, o2]
  refine lpL (β := Int) 7 [5, 6] 7 [] w (by omega) (fun xs k n => n + c.ws xs = c.ws w ∧ 0 ≤ n ∧ n ≤ 30 * (k : Int)) (fun k n ρ h => ρ 6 = .fv (.int (k : Nat)) ∧ ρ 5 = .fv (.int n)) 0 ⟨by simp, by simp, by simp⟩ ?_ ?_ ?_
  · simp -implicitDefEqProofs only [go_sem, simprocAttr]
  · rintro n ρ h ⟨e, _, _⟩ ⟨r6, r5⟩
    simp -implicitDefEqProofs only [go_sem, simprocAttr, r6, r5, lenV_ls hs, ints_length]
    exact ret_eq (by rw [← e]; simp [Cs.ws])
  · rintro x xs k n ρ h hx hk hm hk' hw ⟨e, n0, n1⟩ ⟨r6, r5⟩
    have bx := hb x hm
    obtain ⟨g1, g2, g3⟩ := ok.gw bx.1 bx.2
    have ix := fun H => index_map (H := H) v.w idx_22 g1 rfl
    rw [Int.toNat_of_nonneg bx.1] at ix
    have w2 : IntKind.i64.wrap (n + gI c.W x) = n + gI c.W x := wr _ (by omega) (by omega)
    simp -implicitDefEqProofs only [go_sem, simprocAttr, r6, r5, lenV_ls hs, ints_length, hk', index_map hs idx_22 hx rfl, ix, w2, hw]
    refine nxtL (n + gI c.W x) ⟨by rw [← e]; simp [Cs.ws, Int.add_assoc], by omega, by push_cast; omega⟩ ?_
    simp -implicitDefEqProofs only [go_sem, simprocAttr]
theorem t78 {c : Cs} {sw sp s : FV} {w : List Int} (v : CV c sw sp) (ok : c.Ok) (ws : WV c s w) : Fn Q 78 [.fo (c.fv sw sp), .fo s] (.one (.fx (.int (c.ws w)))) := t78r v ok.rk ws
theorem t79 {s : FV} {l : List Int} (hs : lsOf s = some (ints l)) (hl : l.length ≤ 1000) (hb : bdd 100000 l) : Fn Q 79 [.fo s] (.one (.fx (.int (sumI l)))) := by
  refine w79 ?_
  dsimp only [c79, sop, gop, nop, qmv, qsg, qex, qld, qcl, qln, qix, qbo, qt, qi]
  simp -implicitDefEqProofs only [go_sem, simprocAttr]
  refine lpL (β := Int) 5 [3, 4] 5 [] l (by omega) (fun xs k n => n + sumI xs = sumI l ∧ -(100000 * (k : Int)) ≤ n ∧ n ≤ 100000 * (k : Int)) (fun k n ρ h => ρ 4 = .fv (.int (k : Nat)) ∧ ρ 3 = .fv (.int n)) 0 ⟨by simp, by simp, by simp⟩ ?_ ?_ ?_
  · simp -implicitDefEqProofs only [go_sem, simprocAttr]
  · rintro n ρ h ⟨e, _, _⟩ ⟨r4, r3⟩
    simp -implicitDefEqProofs only [go_sem, simprocAttr, r4, r3, lenV_ls hs, ints_length]
    exact ret_eq (by rw [← e]; simp [sumI])
  · rintro x xs k n ρ h hx hk hm hk' hw ⟨e, n0, n1⟩ ⟨r4, r3⟩
    have bx := hb x hm
    have w2 : IntKind.i64.wrap (n + x) = n + x := wr _ (by omega) (by omega)
    simp -implicitDefEqProofs only [go_sem, simprocAttr, r4, r3, lenV_ls hs, ints_length, hk', index_map hs idx_22 hx rfl, w2, hw]
    refine nxtL (n + x) ⟨by rw [← e]; simp [sumI, Int.add_assoc], by push_cast; omega, by push_cast; omega⟩ ?_
    simp -implicitDefEqProofs only [go_sem, simprocAttr]
theorem t80r {c : Cs} {sw sp s : FV} {w : List Int} (v : CV c sw sp) (ok : Rk c) (ws : WV c s w) : Fn Q 80 [.fo (c.fv sw sp), .fo s] (.one (.fx (.list false (ints (gl c.L (c.loo w)))))) := by
  have o1 := ls_one v.w
  have o2 := ls_one v.p
  obtain ⟨hs, hl, hb⟩ := ws
  refine w80 ?_
  dsimp only [c80, sop, gop, nop, qmv, qsg, qex, qld, qcl, qln, qix, qbo, qt, qi]
  simp -implicitDefEqProofs only [go_sem, simprocAttr, o1, o2]
  refine lpH 8 [5, 6] 8 [7] (fun a : Nat × List Int => w.length + 1 - a.1) (fun a => 1 ≤ a.1 ∧ a.1 ≤ w.length + 1 ∧ a.2 ++ gl c.L (c.loo (w.drop (a.1 - 1))) = gl c.L (c.loo w)) (fun a ρ h => ρ 6 = .fv (.int (a.1 : Nat)) ∧ ρ 5 = .gl 7 (h.gen 7) ∧ h.obj 7 = some (.list 3 1 false false (ints a.2))) (1, []) ⟨by simp, by simp, by simp⟩ ?_ ?_
  · simp -implicitDefEqProofs only [go_sem, simprocAttr, ints]
  · rintro ⟨k, acc⟩ ρ h ⟨k0, k1, ea⟩ ⟨r6, r5, o7⟩
    dsimp only at k0 k1 ea r6 o7
    obtain ⟨j, rfl⟩ : ∃ j, k = j + 1 := ⟨k - 1, by omega⟩
    rw [Nat.add_sub_cancel] at ea
    by_cases hk : j + 1 < w.length
    · obtain ⟨a, b, g1, g2, g3, g4⟩ := drop2 (l := w) (k := j) hk
      have hk' : ((j + 1 : Nat) : Int) < (w.length : Nat) := by omega
      have hw : IntKind.i64.wrap (((j + 1 : Nat) : Int) + 1) = ((j + 1 + 1 : Nat) : Int) := wr _ (by omega) (by omega)
      have hw2 : IntKind.i64.wrap (((j + 1 : Nat) : Int) - 1) = (j : Int) := by rw [wr _ (by omega) (by omega)]; omega
      have c113 := t113r (a := a) (b := b) v ok
      have acl : acc.length ≤ 20 := by
        have := congrArg List.length ea
        simp only [gl, List.length_append, List.length_map, Cs.loo_len, List.length_drop] at this
        omega
      simp -implicitDefEqProofs only [go_sem, simprocAttr, r6, r5, lenV_ls hs, ints_length, hk', hw2, index_map hs idx_22 g1 rfl, index_map hs idx_22 g2 rfl, o1, o2]
      refine call1 [] false (c113) ?_
      simp -implicitDefEqProofs only [go_sem, simprocAttr]
      refine app_gl (by simp -implicitDefEqProofs only [go_sem, simprocAttr, o7]; rfl) idx_22 (by simp -implicitDefEqProofs only [go_sem, simprocAttr]; rfl) (by simp [FV.cells]) (by simp -implicitDefEqProofs only [go_sem, simprocAttr]) (by simp [byt_3, ints]; omega) (by simp [maxLen, ints]; omega) (by simp) ?_
      simp -implicitDefEqProofs only [go_sem, simprocAttr, r6, hw]
      refine nxt (j + 1 + 1, acc ++ [max 0 (c.L - c.mo a b)]) (by simp only; omega) ⟨by simp only; omega, by simp only; omega, ?_⟩ ?_
      · simp only [Nat.add_sub_cancel]
        rw [← ea, g3, g4, Cs.loo]
        simp [gl]
      · simp -implicitDefEqProofs only [go_sem, simprocAttr, ints, List.map_append]
    · have hk' : ¬ ((j + 1 : Nat) : Int) < (w.length : Nat) := by omega
      have e1 : c.loo (w.drop j) = [] := List.eq_nil_of_length_eq_zero (by rw [Cs.loo_len]; simp; omega)
      rw [e1] at ea
      simp only [gl, List.map_nil, List.append_nil] at ea
      simp -implicitDefEqProofs only [go_sem, simprocAttr, r6, r5, lenV_ls hs, ints_length, hk']
      refine ret_fx (fun _ => true) ?_
      simp -implicitDefEqProofs only [go_sem, simprocAttr, o7, ea, gl]
theorem clo_sum (L : Int) : ∀ ms : List Int, sumI (gl L ms) = clo L ms
  | [] => rfl
  | m :: ms => by
    have := clo_sum L ms
    simp only [gl, List.map_cons, sumI, clo] at this ⊢
    omega
theorem t26r {c : Cs} {sw sp s : FV} {w : List Int} (v : CV c sw sp) (ok : Rk c) (ws : WV c s w) : Fn Q 26 [.fo (c.fv sw sp), .fo s] (.one (.fx (.int (c.nd w)))) := by
  have o1 := ls_one v.w
  have o2 := ls_one v.p
  have o3 := ls_one ws.s
  have c78 := t78r v ok ws
  have c80 := t80r v ok ws
  have l0 := ok.l0
  have l1 := ok.l1
  have gb := gl_bd (lo := c.L) l0 (by omega) (ok.loo w)
  have wl := ws.l
  have ll := c.loo_len w
  have c79 := t79 (s := .list false (ints (gl c.L (c.loo w)))) rfl (by simp [gl]; omega) (fun x hx => by have := gb x hx; omega)
  have hc := clo_bd l0 l1 _ (ok.loo w)
  rw [clo_sum] at c79
  have wb := ok.ws w ws.b
  have r0 := ok.r0
  have r1 := ok.r1
  have w1 : IntKind.i64.wrap (2 * c.R) = 2 * c.R := wr _ (by omega) (by omega)
  have w2 : IntKind.i64.wrap (2 * c.R + c.ws w) = 2 * c.R + c.ws w := wr _ (by omega) (by omega)
  have w3 : IntKind.i64.wrap (2 * c.R + c.ws w + clo c.L (c.loo w)) = 2 * c.R + c.ws w + clo c.L (c.loo w) := wr _ (by omega) (by omega)
  refine w26 ?_
  dsimp only [c26, sop, gop, nop, qmv, qsg, qex, qld, qcl, qln, qix, qbo, qt, qi]
  simp -implicitDefEqProofs only [go_sem, simprocAttr, o1, o2]
  refine W_opsD _ _ _ (Vs []) ?_ ?_
  · decide
  simp -implicitDefEqProofs only [go_sem, simprocAttr, o1, o2, o3, w1]
  refine callD [] false [.fo (c.fv sw sp), .fo s] [] c78 ⟨rfl, rfl, trivial⟩ rfl (.inl rfl) ?_
  simp -implicitDefEqProofs only [go_sem, simprocAttr, w2, o1, o2]
  refine callD [] false [.fo (c.fv sw sp), .fo s] [] c80 ⟨rfl, rfl, trivial⟩ rfl (.inl rfl) ?_
  simp -implicitDefEqProofs only [go_sem, simprocAttr]
  refine callD [] false [.fo (.list false (ints (gl c.L (c.loo w))))] [] c79 ⟨rfl, trivial⟩ rfl (.inl rfl) ?_
  simp -implicitDefEqProofs only [go_sem, simprocAttr, w3]
  exact ret_eq rfl
theorem t26 {c : Cs} {sw sp s : FV} {w : List Int} (v : CV c sw sp) (ok : c.Ok) (ws : WV c s w) : Fn Q 26 [.fo (c.fv sw sp), .fo s] (.one (.fx (.int (c.nd w)))) := t26r v ok.rk ws
theorem t28 {c : Cs} {sw sp s sg : FV} {w g : List Int} (v : CV c sw sp) (ok : c.Ok) (ws : WV c s w) (hg : lsOf sg = some (ints g)) (hgl : (g.length : Int) = (w.length : Int) - 1) (hgb : ∀ x ∈ g, 0 ≤ x ∧ x ≤ 400) :
    Fn Q 28 [.fo (c.fv sw sp), .fo s, .fo sg] (.one (.fx (.list false (ints (c.lk w g))))) := by
  have o1 := ls_one v.w
  have o2 := ls_one v.p
  obtain ⟨hs, hl, hb⟩ := ws
  refine w28 ?_
  dsimp only [c28, sop, gop, nop, qmv, qsg, qex, qld, qcl, qln, qix, qbo, qt, qi]
  simp -implicitDefEqProofs only [go_sem, simprocAttr, o1, o2]
  refine lpL (β := List Int) 10 [7, 8] 10 [9] g (by omega) (fun xs k acc => acc ++ lks (c.loo (w.drop k)) xs = c.lk w g ∧ acc.length = k) (fun k acc ρ h => ρ 8 = .fv (.int (k : Nat)) ∧ ρ 7 = .gl 9 (h.gen 9) ∧ h.obj 9 = some (.list 3 1 false false (ints acc))) [] ⟨rfl, rfl⟩ ?_ ?_ ?_
  · simp -implicitDefEqProofs only [go_sem, simprocAttr, ints]
  · rintro acc ρ h ⟨e, _⟩ ⟨r8, r7, o9⟩
    have : lks (c.loo (w.drop g.length)) [] = [] := by cases c.loo (w.drop g.length) <;> rfl
    rw [this, List.append_nil] at e
    simp -implicitDefEqProofs only [go_sem, simprocAttr, r8, r7, lenV_ls hg, ints_length]
    refine ret_fx (fun _ => true) ?_
    simp -implicitDefEqProofs only [go_sem, simprocAttr, o9, e]
  · rintro x xs k acc ρ h hx hk hm hk' hw ⟨e, la⟩ ⟨r8, r7, o9⟩
    obtain ⟨a, b, g1, g2, g3, g4⟩ := drop2 (l := w) (k := k) (by omega)
    have c81 := t81 (a := a) (b := b) v
    rw [ok.moR a b] at c81
    have hmo := ok.mo a b
    have hx4 := hgb x hm
    have w1 : IntKind.i64.wrap (x + c.mo a b) = x + c.mo a b := wr _ (by omega) (by omega)
    simp -implicitDefEqProofs only [go_sem, simprocAttr, r8, r7, lenV_ls hg, ints_length, hk']
    refine W_opsD _ _ _ (Vs [[], [], [], [], [], [], [], [], [], [], [], [], [], [], [], [], [], [33], [9], []]) ?_ ?_
    · decide
    simp -implicitDefEqProofs only [go_sem, simprocAttr, r8, r7, index_map hg idx_22 hx rfl, index_map hs idx_22 g1 rfl, hw, index_map hs idx_22 g2 rfl, o1, o2]
    refine callD [] false [.fo (c.fv sw sp), .fo (.int a), .fo (.int b)] [] c81 ⟨rfl, rfl, rfl, trivial⟩ rfl (.inl rfl) ?_
    simp -implicitDefEqProofs only [go_sem, simprocAttr, w1]
    refine app_gl (by simp -implicitDefEqProofs only [go_sem, simprocAttr, o9]; rfl) idx_22 (by simp -implicitDefEqProofs only [go_sem, simprocAttr]; rfl) (by simp [FV.cells]) (by simp -implicitDefEqProofs only [go_sem, simprocAttr]) (by simp [byt_3, ints]; omega) (by simp [maxLen, ints]; omega) (by simp) ?_
    simp -implicitDefEqProofs only [go_sem, simprocAttr, r8, hw]
    refine nxtL (acc ++ [x + c.mo a b]) ⟨?_, by simp [la]⟩ ?_
    · rw [← e, g3, g4, Cs.loo, lks]; simp
    · simp -implicitDefEqProofs only [go_sem, simprocAttr, ints, List.map_append]
theorem t29 {s : FV} {l : List Int} (hs : lsOf s = some (ints l)) (hl : l.length ≤ 1000) (hb : bdd 1000000 l) : Fn Q 29 [.fo s] (.one (.fx (.int (sprF l)))) := by
  have hn := spr_nn l
  refine w29 ?_
  dsimp only [c29, sop, gop, nop, qmv, qsg, qex, qld, qcl, qln, qix, qbo, qt, qi]
  simp -implicitDefEqProofs only [go_sem, simprocAttr]
  refine lpL (β := Int) 6 [3, 4, 5] 6 [] l (by omega) (fun xs k m => 0 ≤ m ∧ m ≤ sprF l ∧ ∀ x ∈ l.take k, ∀ y ∈ l, x - y ≤ m) (fun k m ρ h => ρ 4 = .fv (.int (k : Nat)) ∧ ρ 3 = .fv (.int m)) 0 ⟨by omega, hn, by simp⟩ ?_ ?_ ?_
  · simp -implicitDefEqProofs only [go_sem, simprocAttr]
  · rintro m ρ h ⟨m0, m1, e⟩ ⟨r4, r3⟩
    rw [List.take_length] at e
    simp -implicitDefEqProofs only [go_sem, simprocAttr, r4, r3, lenV_ls hs, ints_length]
    exact ret_eq (by have := spr_is l m0 e; congr 2; omega)
  · rintro x xs k m ρ h hx hk hm hk' hw ⟨m0, m1, e⟩ ⟨r4, r3⟩
    have bx := hb x hm
    have hsb := maxL_bd (by omega) hb
    have hsb2 := minL_bd (by omega) hb
    have hsp : sprF l ≤ 2000000 := by unfold sprF; omega
    simp -implicitDefEqProofs only [go_sem, simprocAttr, r4, lenV_ls hs, ints_length, hk']
    refine lpL (β := Int) 12 [3, 5] 12 [] l (by omega) (fun ys j m' => m ≤ m' ∧ m' ≤ sprF l ∧ ∀ y ∈ l.take j, x - y ≤ m') (fun j m' ρ h => ρ 5 = .fv (.int (j : Nat)) ∧ ρ 3 = .fv (.int m')) m ⟨by omega, m1, by simp⟩ ?_ ?_ ?_
    · simp -implicitDefEqProofs only [go_sem, simprocAttr, r3]
    · rintro m' ρ2 h2 ⟨q0, q1, q2⟩ ⟨r5, r3'⟩
      rw [List.take_length] at q2
      simp -implicitDefEqProofs only [go_sem, simprocAttr, r5, r3', lenV_ls hs, ints_length, r4, hw]
      refine nxtL m' ⟨by omega, q1, ?_⟩ ?_
      · intro z hz y hy
        rw [List.take_add_one, hx] at hz
        rcases List.mem_append.1 hz with hz | hz
        · have := e z hz y hy; omega
        · simp at hz; subst hz; exact q2 y hy
      · simp -implicitDefEqProofs only [go_sem, simprocAttr, r3']
    · rintro y ys j m' ρ2 h2 hy hj hmy hj' hjw ⟨q0, q1, q2⟩ ⟨r5, r3'⟩
      have by' := hb y hmy
      have w1 : IntKind.i64.wrap (x - y) = x - y := wr _ (by omega) (by omega)
      simp -implicitDefEqProofs only [go_sem, simprocAttr, r5, r3', r4, lenV_ls hs, ints_length, hj', index_map hs idx_22 hx rfl, index_map hs idx_22 hy rfl, w1, hjw]
      refine nxtL (max m' (x - y)) ⟨by omega, by have := spr_ge hm hmy; omega, ?_⟩ ?_
      · intro z hz
        rw [List.take_add_one, hy] at hz
        rcases List.mem_append.1 hz with hz | hz
        · have := q2 z hz; omega
        · simp at hz; subst hz; omega
      · simp -implicitDefEqProofs only [go_sem, simprocAttr]
end S04

namespace S04
open Go Abs
section
variable {P : Program} {fs : List Fr} {Q : Exit → St → Prop} {d nm : Option Nat} {r : List SO}
theorem app_cp {t e es o g : Nat} {agg : Bool} {s : FV} {ys : List FV} {h : AH} {ρ : Nat → LV} (h1 : h.lst o g = some (e, es, false, false, [])) (h2 : idx P t = some (none, e, agg, es)) (hs : lsOf s = some ys) (h4 : ∀ x ∈ ys, x.cells.length = es)
    (h5 : (zeros P e).isSome = true) (h6 : ys.length * P.bytesOf e ≤ 140737488355328) (h7 : ys.length ≤ maxLen)
    (hk : ∀ g', L P r fs (St.put ⟨ρ, h.renew o g' (.list e es false false ys)⟩ d (.gl o g') (h.renew o g' (.list e es false false ys))) Q) : App P t (.gl o g) (.fv s) h nm d r fs ρ Q := by
  rcases ls_cases hs with ⟨f, rfl⟩ | ⟨rfl, rfl⟩
  · exact app_gl h1 h2 (elemsOf_ls hs _) h4 h5 (by simpa using h6) (by simpa using h7) (by simp) (hk (g + 1))
  · have hg : h.gen o = g ∧ h.obj o = some (.list e es false false []) := by
      unfold AH.lst at h1
      split at h1
      · rename_i hg
        refine ⟨hg, ?_⟩
        split at h1
        · rename_i ho
          simp only [Option.some.injEq, Prod.mk.injEq] at h1
          obtain ⟨rfl, rfl, rfl, rfl, rfl⟩ := h1
          exact ho
        · simp at h1
      · simp at h1
    have e : h.renew o g (.list e es false false []) = h := by
      unfold AH.renew
      obtain ⟨gn, ob, y⟩ := h
      simp only [AH.mk.injEq, and_true]
      refine ⟨?_, ?_⟩
      · funext i
        by_cases hi : i = o
        · subst hi; simp [upd]; exact hg.1.symm
        · simp [upd, hi]
      · funext i
        by_cases hi : i = o
        · subst hi; simp [upd]; exact hg.2.symm
        · simp [upd, hi]
    have := hk g
    rw [e] at this
    exact app_none h1 h2 this
end
end S04

