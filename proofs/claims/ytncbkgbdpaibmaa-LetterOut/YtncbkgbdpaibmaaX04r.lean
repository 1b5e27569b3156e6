/- A part of the proof: X04r. -/
import Derived.Test.YtncbkgbdpaibmaaP04d
import Derived.Test.YtncbkgbdpaibmaaH04h
import Derived.Test.YtncbkgbdpaibmaaC04h0
set_option linter.unusedVariables false
set_option linter.unusedSimpArgs false
set_option maxRecDepth 20000
namespace S04
open Go Abs
def u8 (x : Int) : FV := .val (.int .u8 x)
theorem t53 {s : FV} {l : List Int} (hs : lsOf s = some (ints l)) (hl : l.length ≤ 1000000) : Fn Q 53 [.fo s] (.one (.fx (.list false (ints l)))) := by
  refine w53 ?_
  dsimp only [c53, sop, gop, nop, qmv, qsg, qex, qld, qcl, qln, qix, qbo, qt, qi]
  simp -implicitDefEqProofs only [go_sem, simprocAttr]
  refine app_cp (by simp -implicitDefEqProofs only [go_sem, simprocAttr] <;> rfl) idx_22 hs (fun x hx => (ints_elem l x hx).1) (by simp -implicitDefEqProofs only [go_sem, simprocAttr]) (by simp [byt_3, ints]; omega) (by simp [maxLen, ints]; omega) ?_
  intro g1
  simp -implicitDefEqProofs only [go_sem, simprocAttr]
  exact ret_fx (fun _ => true) (by simp -implicitDefEqProofs only [go_sem, simprocAttr])
theorem t53o {s : FV} {l : List Int} (hs : lsOf s = some (ints l)) (hl : l.length ≤ 1000000) (hne : l ≠ []) : Fn Q 53 [.fo s] (.one (.own 3 1 false (ints l))) := by
  have e2 : ∀ x ∈ ints l, x.cells.length = 1 := fun x hx => (ints_elem l x hx).1
  rcases ls_cases hs with ⟨f, rfl⟩ | ⟨rfl, e⟩
  · refine w53 ?_
    dsimp only [c53, sop, gop, nop, qmv, qsg, qex, qld, qcl, qln, qix, qbo, qt, qi]
    simp -implicitDefEqProofs only [go_sem, simprocAttr]
    refine app_gl (by simp -implicitDefEqProofs only [go_sem, simprocAttr]; rfl) idx_22 (by simp -implicitDefEqProofs only [go_sem, simprocAttr]) e2 (by simp -implicitDefEqProofs only [go_sem, simprocAttr]) (by simp [byt_3, ints]; omega) (by simp [maxLen, ints]; omega) (by simp) ?_
    simp -implicitDefEqProofs only [go_sem, simprocAttr]
    exact ret_own (by simp -implicitDefEqProofs only [go_sem, simprocAttr]) (by simp -implicitDefEqProofs only [go_sem, simprocAttr, List.nil_append])
  · exact absurd (by simpa [ints] using e) hne
theorem t61 {s : FV} {l : List Int} {n : Int} (hs : lsOf s = some (ints l)) (hl : l.length ≤ 1000000) : Fn Q 61 [.fo s, .fo (.int n)] (.one (.fx (.bool (l.contains n)))) := by
  refine w61 ?_
  dsimp only [c61, sop, gop, nop, qmv, qsg, qex, qld, qcl, qln, qix, qbo, qt, qi]
  simp -implicitDefEqProofs only [go_sem, simprocAttr]
  refine lpH 6 [5] 6 [] (fun k : Nat => l.length - k) (fun k => k ≤ l.length ∧ (l.take k).contains n = false) (fun k ρ h => ρ 5 = .fv (.int (k : Nat))) 0 ⟨Nat.zero_le _, by simp⟩ ?_ ?_
  · simp -implicitDefEqProofs only [go_sem, simprocAttr]
  · rintro k ρ h ⟨k1, ea⟩ r5
    by_cases hk : k < l.length
    · have hk' : (k : Int) < (l.length : Nat) := by omega
      have hw : IntKind.i64.wrap ((k : Int) + 1) = ((k + 1 : Nat) : Int) := wr _ (by omega) (by omega)
      obtain ⟨x, hx⟩ : ∃ x, l[k]? = some x := ⟨_, List.getElem?_eq_getElem hk⟩
      have et : l.take (k + 1) = l.take k ++ [x] := by rw [List.take_add_one, hx]; rfl
      by_cases e : x = n
      · have e' : (x == n) = true := by simpa using e
        have hm : l.contains n = true := by have := List.mem_of_getElem? hx; rw [e] at this; simpa using this
        simp -implicitDefEqProofs only [go_sem, simprocAttr, r5, lenV_ls hs, ints_length, hk', index_map hs idx_22 hx rfl, e']
        exact ret_eq (by rw [hm])
      · have e' : (x == n) = false := by simpa using e
        simp -implicitDefEqProofs only [go_sem, simprocAttr, r5, lenV_ls hs, ints_length, hk', index_map hs idx_22 hx rfl, e', hw]
        refine nxt (k + 1) (by omega) ⟨by omega, ?_⟩ ?_
        · rw [et, List.contains_append, ea]
          simpa using fun h => e h.symm
        · simp -implicitDefEqProofs only [go_sem, simprocAttr]
    · have hk' : ¬ (k : Int) < (l.length : Nat) := by omega
      rw [List.take_of_length_le (by omega)] at ea
      simp -implicitDefEqProofs only [go_sem, simprocAttr, r5, lenV_ls hs, ints_length, hk']
      exact ret_eq (by rw [ea])
theorem loo_at (c : Cs) : ∀ (w : List Int) (i : Nat), i + 1 < w.length → (c.loo w)[i]? = some (c.mo (gI w (i : Nat)) (gI w ((i + 1 : Nat) : Int)))
  | [], i, h => by simp at h
  | [_], i, h => by simp at h
  | a :: b :: w, 0, h => rfl
  | a :: b :: w, i + 1, h => by
    have := loo_at c (b :: w) i (by simpa using h)
    rw [Cs.loo, List.getElem?_cons_succ, this]
    simp only [gI, Int.toNat_natCast, List.getD_cons_succ]
theorem t58 {c : Cs} {sw sp s : FV} {w : List Int} {i : Nat} {g : Int} (v : CV c sw sp) (ok : Rk c) (ws : WV c s w) (hi : i + 1 < w.length) (g0 : -100000 ≤ g) (g1 : g ≤ 100000) : Fn Q 58 [.fo (c.fv sw sp), .fo s, .fo (.int (i : Nat)), .fo (.int g)] (.one (.fx (.int (g + gI (c.loo w) (i : Nat))))) := by
  have o1 := ls_one v.w
  have o2 := ls_one v.p
  have pl := v.pl
  have hs := ws.s
  have hl := ws.l
  have e1 : gI (c.loo w) (i : Nat) = moR c.P (gI w (i : Nat)) (gI w ((i + 1 : Nat) : Int)) := by
    rw [ok.moR]
    simp [gI, List.getD_eq_getElem?_getD, loo_at c w i hi]
  have mb := ok.mo (gI w (i : Nat)) (gI w ((i + 1 : Nat) : Int))
  rw [← ok.moR] at mb
  rw [e1]
  have ga := gI_get (p := w) (i := (i : Int)) (by omega) (by omega)
  have gb := gI_get (p := w) (i := ((i + 1 : Nat) : Int)) (by omega) (by omega)
  rw [Int.toNat_natCast] at ga gb
  generalize gI w (i : Nat) = a at *
  generalize gI w ((i + 1 : Nat) : Int) = b at *
  have hwi : IntKind.i64.wrap ((i : Int) + 1) = ((i + 1 : Nat) : Int) := wr _ (by omega) (by omega)
  refine w58 ?_
  dsimp only [c58, sop, gop, nop, qmv, qsg, qex, qld, qcl, qln, qix, qbo, qt, qi]
  simp -implicitDefEqProofs only [go_sem, simprocAttr, o1, o2]
  refine lpH 10 [9] 10 [] (fun k : Nat => c.P.length - k) (fun k => k ≤ c.P.length ∧ moR (c.P.drop k) a b = moR c.P a b) (fun k ρ h => ρ 9 = .fv (.int (k : Nat))) 0 ⟨Nat.zero_le _, by simp⟩ ?_ ?_
  · simp -implicitDefEqProofs only [go_sem, simprocAttr]
  · rintro k ρ h ⟨k1, ea⟩ r9
    by_cases hk : k < c.P.length
    · have hk' : (k : Int) < (c.P.length : Nat) := by omega
      have hw : IntKind.i64.wrap ((k : Int) + 1) = ((k + 1 : Nat) : Int) := wr _ (by omega) (by omega)
      obtain ⟨p, hp⟩ : ∃ p, c.P[k]? = some p := ⟨_, List.getElem?_eq_getElem hk⟩
      rw [drop_get hp, moR] at ea
      by_cases h1 : p.1 = a
      · have h1' : (p.1 == a) = true := by simpa using h1
        by_cases h2 : p.2.1 = b
        · have h2' : (p.2.1 == b) = true := by simpa using h2
          rw [if_pos ⟨h1, h2⟩] at ea
          have hwg : IntKind.i64.wrap (g + p.2.2) = g + p.2.2 := wr _ (by omega) (by omega)
          simp -implicitDefEqProofs only [go_sem, simprocAttr, r9, lenV_ls v.p, List.length_map, hk', index_map v.p idx_23 hp rfl, index_map hs idx_22 ga rfl, hwi, index_map hs idx_22 gb rfl, tF, h1', h2', hwg]
          exact ret_eq (by rw [← ea])
        · have h2' : (p.2.1 == b) = false := by simpa using h2
          simp -implicitDefEqProofs only [go_sem, simprocAttr, r9, lenV_ls v.p, List.length_map, hk', index_map v.p idx_23 hp rfl, index_map hs idx_22 ga rfl, hwi, index_map hs idx_22 gb rfl, tF, h1', h2', hw]
          refine nxt (k + 1) (by omega) ⟨by omega, by rw [← ea, if_neg (by simp [h2])]⟩ ?_
          simp -implicitDefEqProofs only [go_sem, simprocAttr]
      · have h1' : (p.1 == a) = false := by simpa using h1
        simp -implicitDefEqProofs only [go_sem, simprocAttr, r9, lenV_ls v.p, List.length_map, hk', index_map v.p idx_23 hp rfl, index_map hs idx_22 ga rfl, tF, h1', hw]
        refine nxt (k + 1) (by omega) ⟨by omega, by rw [← ea, if_neg (by simp [h1])]⟩ ?_
        simp -implicitDefEqProofs only [go_sem, simprocAttr]
    · have hk' : ¬ (k : Int) < (c.P.length : Nat) := by omega
      rw [List.drop_of_length_le (by omega), moR] at ea
      simp -implicitDefEqProofs only [go_sem, simprocAttr, r9, lenV_ls v.p, List.length_map, hk']
      exact ret_eq (by rw [← ea, Int.add_zero])
theorem loo_gI {c : Cs} (ok : Rk c) (w : List Int) (i : Nat) : -5 ≤ gI (c.loo w) (i : Nat) ∧ gI (c.loo w) (i : Nat) ≤ 5 := by
  by_cases h : i < (c.loo w).length
  · have := gI_get (p := c.loo w) (i := (i : Int)) (by omega) (by omega)
    exact ok.loo w _ (List.mem_of_getElem? this)
  · have : gI (c.loo w) (i : Nat) = 0 := by simp [gI, List.getD_eq_getElem?_getD, List.getElem?_eq_none (show (c.loo w).length ≤ i by omega)]
    omega
theorem t56 {c : Cs} {sw sp s : FV} {w : List Int} {i : Nat} (v : CV c sw sp) (ok : Rk c) (ws : WV c s w) (hi : i + 1 < w.length) : Fn Q 56 [.fo (c.fv sw sp), .fo s, .fo (.int (i : Nat))] (.one (.fx (.int (max 0 (c.L - gI (c.loo w) (i : Nat)))))) := by
  have o1 := ls_one v.w
  have o2 := ls_one v.p
  have c58 := t58 (g := 0) v ok ws hi (by omega) (by omega)
  rw [Int.zero_add] at c58
  have mb := loo_gI ok w i
  have l0 := ok.l0
  have l1 := ok.l1
  have w1 : IntKind.i64.wrap (c.L - gI (c.loo w) (i : Nat)) = c.L - gI (c.loo w) (i : Nat) := wr _ (by omega) (by omega)
  refine w56 ?_
  dsimp only [c56, sop, gop, nop, qmv, qsg, qex, qld, qcl, qln, qix, qbo, qt, qi]
  simp -implicitDefEqProofs only [go_sem, simprocAttr, o1, o2]
  refine W_opsD _ _ _ (Vs []) ?_ ?_
  · decide
  simp -implicitDefEqProofs only [go_sem, simprocAttr, o1, o2]
  refine callD [] false [.fo (c.fv sw sp), .fo s, .fo (.int (i : Nat)), .fo (.int 0)] [] c58 ⟨rfl, rfl, rfl, rfl, trivial⟩ rfl (.inl rfl) ?_
  simp -implicitDefEqProofs only [go_sem, simprocAttr, w1]
  exact ret_eq rfl
theorem t54 {c : Cs} {sw sp s : FV} {w : List Int} (v : CV c sw sp) (ok : Rk c) (ws : WV c s w) : Fn Q 54 [.fo (c.fv sw sp), .fo s] (.one (.fx (.int (c.nd w)))) := by
  have o1 := ls_one v.w
  have o2 := ls_one v.p
  have o3 := ls_one ws.s
  have c56 := fun {i : Nat} (h : i + 1 < w.length) => t56 v ok ws h
  obtain ⟨hs, hl, hb⟩ := ws
  have r0 := ok.r0
  have r1 := ok.r1
  have l0 := ok.l0
  have l1 := ok.l1
  have w1 : IntKind.i64.wrap (2 * c.R) = 2 * c.R := wr _ (by omega) (by omega)
  refine w54 ?_
  dsimp only [c54, sop, gop, nop, qmv, qsg, qex, qld, qcl, qln, qix, qbo, qt, qi]
  simp -implicitDefEqProofs only [go_sem, simprocAttr, o1, o2]
  refine lpL (β := Int) 7 [5, 6] 7 [] w (by omega) (fun xs k n => w.drop k = xs ∧ n + c.ws xs + clo c.L (c.loo xs) = c.nd w ∧ 0 ≤ n ∧ n ≤ 40 + 100 * (k : Int)) (fun k n ρ h => ρ 6 = .fv (.int (k : Nat)) ∧ ρ 5 = .fv (.int n)) (2 * c.R) ⟨rfl, rfl, by omega, by omega⟩ ?_ ?_ ?_
  · simp -implicitDefEqProofs only [go_sem, simprocAttr, w1]
  · rintro n ρ h ⟨_, e, _, _⟩ ⟨r6, r5⟩
    simp -implicitDefEqProofs only [go_sem, simprocAttr, r6, r5, lenV_ls hs, ints_length]
    exact ret_eq (by rw [← e]; simp [Cs.ws, Cs.loo, clo])
  · rintro x xs k n ρ h hx hk hm hk' hw ⟨hd, e, n0, n1⟩ ⟨r6, r5⟩
    have bx := hb x hm
    obtain ⟨g1, g2, g3⟩ := ok.gw bx.1 bx.2
    have ix := fun H => index_map (H := H) v.w idx_22 g1 rfl
    rw [Int.toNat_of_nonneg bx.1] at ix
    have w2 : IntKind.i64.wrap (n + gI c.W x) = n + gI c.W x := wr _ (by omega) (by omega)
    cases xs with
    | nil =>
      have hk2 : ¬ ((k + 1 : Nat) : Int) < (w.length : Nat) := by have := congrArg List.length hd; simp at this; omega
      simp -implicitDefEqProofs only [go_sem, simprocAttr, r6, r5, lenV_ls hs, ints_length, hk', index_map hs idx_22 hx rfl, ix, w2, hw, hk2]
      refine nxtL (n + gI c.W x) ⟨by have := congrArg List.tail hd; simpa using this, by rw [← e]; simp [Cs.ws, Cs.loo, clo], by omega, by push_cast; omega⟩ ?_
      simp -implicitDefEqProofs only [go_sem, simprocAttr]
    | cons y xs =>
      have hk2 : ((k + 1 : Nat) : Int) < (w.length : Nat) := by have := congrArg List.length hd; simp at this; omega
      have d1 : w.drop (k + 1) = y :: xs := by have := congrArg List.tail hd; simpa using this
      have hy : w[k + 1]? = some y := (drop_tail d1).2.1
      have ma := ok.mo x y
      have el : gI (c.loo w) (k : Nat) = c.mo x y := by
        have := loo_at c w k (by omega)
        have ex : gI w (k : Nat) = x := by simp [gI, List.getD_eq_getElem?_getD, hx]
        have ey : gI w ((k + 1 : Nat) : Int) = y := by simp only [gI, Int.toNat_natCast, List.getD_eq_getElem?_getD, hy, Option.getD_some]
        rw [ex, ey] at this
        simp [gI, List.getD_eq_getElem?_getD, this]
      have c56' := c56 (i := k) (by omega)
      rw [el] at c56'
      have w3 : IntKind.i64.wrap (n + gI c.W x + max 0 (c.L - c.mo x y)) = n + gI c.W x + max 0 (c.L - c.mo x y) := wr _ (by omega) (by omega)
      simp -implicitDefEqProofs only [go_sem, simprocAttr, r6, r5, lenV_ls hs, ints_length, hk', index_map hs idx_22 hx rfl, ix, w2, hw, hk2, o1, o2, o3]
      refine call1 [] false (c56') ?_
      simp -implicitDefEqProofs only [go_sem, simprocAttr, w3, r6, hw]
      refine nxtL (n + gI c.W x + max 0 (c.L - c.mo x y)) ⟨d1, by rw [← e]; simp only [Cs.ws, Cs.loo, clo]; omega, by omega, by push_cast; omega⟩ ?_
      simp -implicitDefEqProofs only [go_sem, simprocAttr]
def ownW (c : Cs) : FV := .list false (ints c.W)
theorem t52 {c : Cs} {sw sp : FV} (v : CV c sw sp) (lW : c.W.length ≤ 1000000) (lP : c.P.length ≤ 1000000) : Fn Q 52 [.fo (c.fv sw sp)] (.one (.fx (c.fv (swC c) (spC c)))) := by
  have o1 := ls_one v.w
  have o2 := ls_one v.p
  have c53 := t53 v.w lW
  obtain ⟨hw, hp, _, _⟩ := v
  rcases ls_cases hp with ⟨f', rfl⟩ | ⟨rfl, e2⟩
  · refine w52 ?_
    dsimp only [c52, sop, gop, nop, qmv, qsg, qex, qld, qcl, qln, qix, qbo, qt, qi]
    simp -implicitDefEqProofs only [go_sem, simprocAttr, o1, o2]
    refine W_opsD _ _ _ (Vs [[], [], [], [6], [], [], [6, 9], [], [1], [], [1]]) ?_ ?_
    · decide
    simp -implicitDefEqProofs only [go_sem, simprocAttr, o1, o2]
    refine callD [] false [.fo sw] [] c53 ⟨rfl, trivial⟩ rfl (.inl rfl) ?_
    simp -implicitDefEqProofs only [go_sem, simprocAttr]
    refine app_gl (ys := c.P.map tF) (by simp -implicitDefEqProofs only [go_sem, simprocAttr]; rfl) idx_23 (by simp -implicitDefEqProofs only [go_sem, simprocAttr]) (fun x hx => (tF_elem c.P x hx).1) (by simp -implicitDefEqProofs only [go_sem, simprocAttr]) (by simp [byt_108]; omega) (by simp [maxLen]; omega) (by simp) ?_
    simp -implicitDefEqProofs only [go_sem, simprocAttr]
    exact ret_fx (fun _ => true) (by simp -implicitDefEqProofs only [go_sem, simprocAttr, swC, spC] <;> rfl)
  · have eP : c.P = [] := by simpa using e2
    refine w52 ?_
    dsimp only [c52, sop, gop, nop, qmv, qsg, qex, qld, qcl, qln, qix, qbo, qt, qi]
    simp -implicitDefEqProofs only [go_sem, simprocAttr, o1, o2]
    refine W_opsD _ _ _ (Vs [[], [], [], [6], [], [], [6, 9], [], [1], [], [1]]) ?_ ?_
    · decide
    simp -implicitDefEqProofs only [go_sem, simprocAttr, o1, o2]
    refine callD [] false [.fo sw] [] c53 ⟨rfl, trivial⟩ rfl (.inl rfl) ?_
    simp -implicitDefEqProofs only [go_sem, simprocAttr]
    refine app_none (by simp -implicitDefEqProofs only [go_sem, simprocAttr]; rfl) idx_23 ?_
    simp -implicitDefEqProofs only [go_sem, simprocAttr]
    exact ret_fx (fun _ => true) (by simp -implicitDefEqProofs only [go_sem, simprocAttr, swC, spC, eP] <;> rfl)
def wordF (bs : List Int) : List Int := if bs = [] then [0] else (bs.take 7).map (·.tmod 6)
theorem t51 {s : FV} {bs : List Int} (h : lsOf s = some (bs.map u8)) (hb : ∀ x ∈ bs, 0 ≤ x ∧ x < 256) (hl : bs.length ≤ 9223372036854775807) :
    Fn Q 51 [.fo s] (.one (.fx (.list false (ints (wordF bs))))) := by
  refine w51 ?_
  dsimp only [c51, sop, gop, nop, qmv, qsg, qex, qld, qcl, qln, qix, qbo, qt, qi]
  simp -implicitDefEqProofs only [go_sem, simprocAttr]
  refine lpH 6 [3, 4] 6 [5] (fun k : Nat => 7 - k) (fun k => k ≤ 7 ∧ k ≤ bs.length) (fun k ρ h => ρ 4 = .fv (.int (k : Nat)) ∧ ρ 3 = .gl 5 (h.gen 5) ∧ h.obj 5 = some (.list 3 1 false false (ints ((bs.take k).map (·.tmod 6))))) 0 ⟨by omega, by omega⟩ ?_ ?_
  · simp -implicitDefEqProofs only [go_sem, simprocAttr, List.take_zero, ints]
  · rintro k ρ h' ⟨hk, hk2⟩ ⟨r4, r3, o5⟩
    by_cases q1 : k < bs.length
    · have q1' : (k : Int) < (bs.length : Nat) := by omega
      by_cases q2 : k < 7
      · have q2' : (k : Int) < 7 := by omega
        obtain ⟨x, hx⟩ : ∃ x, bs[k]? = some x := ⟨_, List.getElem?_eq_getElem q1⟩
        have hxb := hb x (List.mem_of_getElem? hx)
        have hw : IntKind.i64.wrap ((k : Int) + 1) = ((k + 1 : Nat) : Int) := wr _ (by omega) (by omega)
        have hwx : IntKind.i64.wrap x = x := wr _ (by omega) (by omega)
        have et : bs.take (k + 1) = bs.take k ++ [x] := by rw [List.take_add_one, hx]; rfl
        simp -implicitDefEqProofs only [go_sem, simprocAttr, r4, r3, lenV_ls h, q1', q2', index_map h idx_82 hx rfl, u8, hwx]
        refine app_gl (by simp -implicitDefEqProofs only [go_sem, simprocAttr, o5]; rfl) idx_22 (by simp -implicitDefEqProofs only [go_sem, simprocAttr]; rfl) (by simp [FV.cells]) (by simp -implicitDefEqProofs only [go_sem, simprocAttr]) (by simp [byt_3, ints]; omega) (by simp [maxLen, ints]; omega) (by simp) ?_
        simp -implicitDefEqProofs only [go_sem, simprocAttr, r4, hw]
        refine nxt (k + 1) (by omega) ⟨by omega, by omega⟩ ?_
        simp -implicitDefEqProofs only [go_sem, simprocAttr, et, ints, List.map_append]
      · have q2' : ¬ (k : Int) < 7 := by omega
        have e6 : k = 7 := by omega
        subst e6
        have q3 : (7 : Int) < (bs.length : Nat) := by omega
        have hne : ¬ (bs = []) := by rintro rfl; simp at hk2
        have z : ((((List.take 7 bs).length : Nat) : Int) == 0) = false := by simp; omega
        simp -implicitDefEqProofs only [go_sem, simprocAttr, r4, r3, lenV_ls h, q3, o5, z]
        exact ret_fx (fun _ => true) (by simp -implicitDefEqProofs only [go_sem, simprocAttr, o5, wordF, hne])
    · have q1' : ¬ (k : Int) < (bs.length : Nat) := by omega
      have e6 : k = bs.length := by omega
      by_cases hne : bs = []
      · have l0 : bs.length = 0 := by simp [hne]
        have e0 : k = 0 := by omega
        subst e0
        have hh := lenV_ls h
        simp -implicitDefEqProofs only [go_sem, simprocAttr, r4, r3, hh, l0, o5]
        exact ret_fx (fun _ => true) (by simp -implicitDefEqProofs only [go_sem, simprocAttr, o5, wordF, hne, ints])
      · have z : ((((List.take k bs).length : Nat) : Int) == 0) = false := by
          have h3 := List.length_pos_iff.2 hne
          simp only [List.length_take, beq_eq_false_iff_ne, ne_eq]; omega
        have e7 : bs.take 7 = bs.take k := by rw [List.take_of_length_le (by omega), List.take_of_length_le (by omega)]
        simp -implicitDefEqProofs only [go_sem, simprocAttr, r4, r3, lenV_ls h, q1', o5, z]
        exact ret_fx (fun _ => true) (by simp -implicitDefEqProofs only [go_sem, simprocAttr, o5, wordF, hne, e7])
end S04

