/- A part of the proof: X04u. -/
import Derived.Test.YtncbkgbdpaibmaaP04j
import Derived.Test.YtncbkgbdpaibmaaX04d
import Derived.Test.YtncbkgbdpaibmaaC04h0
set_option linter.unusedVariables false
set_option linter.unusedSimpArgs false
set_option maxRecDepth 20000
namespace S04
open Go Abs
theorem ints_getJ {l : List Int} {i : Nat} (h2 : i < l.length) : (ints l)[i]? = some (.int (gI l (i : Nat))) := by have := gI_get (p := l) (i := (i : Int)) (by omega) (by omega); rw [Int.toNat_natCast] at this; simp [ints, this]
set_option maxHeartbeats 4000000 in
theorem t10 {a0 a1 a2 a3 a4 a5 f0 f1 f2 : Int} {sp0 sl sa sb : FV} {c : Cs} {sw sp : FV} {bs A B : List Int} (T : TY (tyA a0 a1 a2 a3 a4 a5 sp0 f0 f1 f2) sp0 c sw sp) (hl : lsOf sl = some (bs.map u8)) (hb : ∀ x ∈ bs, 0 ≤ x ∧ x < 256) (ll : bs.length ≤ 9223372036854775807) (hA : lsOf sa = some (A.map u8)) (bA : ∀ x ∈ A, 0 ≤ x ∧ x < 256) (lA : A.length ≤ 9223372036854775807) (hB : lsOf sb = some (B.map u8)) (bB : ∀ x ∈ B, 0 ≤ x ∧ x < 256) (lB : B.length ≤ 9223372036854775807) :
    Fn Q 10 [.fo (.agg (tyA a0 a1 a2 a3 a4 a5 sp0 f0 f1 f2)), .fo sl, .fo (.agg [sa, sb])] (.one (.fx (.bool true))) := by
  have c50 := T.fn
  have v := T.v
  have ok := errC_ok T.e
  have n6 := T.n6
  have op := T.o
  have o1 := ls_one v.w
  have o2 := ls_one v.p
  have oA := ls_one hA
  have oB := ls_one hB
  have lcA := ls_lcells hA
  have lcB := ls_lcells hB
  have pl10 := ok.p1
  have v' : CV c (swC c) (spC c) := ⟨rfl, rfl, v.wl, v.pl⟩
  have c52 := t52 v (by omega) (by omega)
  have c51 := t51 hl hb ll
  obtain ⟨q1, q2, q3⟩ := wordF_ok hb
  generalize wordF bs = w at *
  have hs : lsOf (.list false (ints w)) = some (ints w) := rfl
  have c53 := t53 hs (by omega)
  have hwI : isW c.W.length 0 w = true := errO_word T.e n6 q1 q2 q3
  have eO : errO c [w] = 0 := errO_0 T.e (by simpa using hwI)
  have wb : ∀ x ∈ w, 0 ≤ x ∧ x < c.W.length := fun x hx => by have := q3 x hx; omega
  have wv : WV c (.list false (ints w)) w := ⟨hs, by omega, wb⟩
  obtain ⟨nd1, nd2, nd3, nd4, nd5⟩ := T.nd wb q1 q2
  have c20 := t20 v' hs (by omega)
  rw [if_pos eO, eO] at c20
  have c54 := t54 v ok.rk wv
  obtain ⟨M, hM⟩ : ∃ M : Int, M = if 0 < A.length then (gI A 0).tmod 40 else 0 := ⟨_, rfl⟩
  have M0 : 0 ≤ M ∧ M < 40 := by
    rw [hM]
    split
    · rename_i h
      have g := gI_get (p := A) (i := 0) (by omega) (by omega)
      exact tm_bd (bA _ (List.mem_of_getElem? g)).1 (by decide)
    · omega
  have eY : ∀ n : Int, c.nd w ≤ n → n ≤ 400 → errY c w n = 0 := fun n h1 h2 => by
    have e0 : errG c w n = 0 := by unfold errG; rw [if_neg (by simp [eO]), inB_ok (by omega) h2]; rfl
    unfold errY
    rw [if_neg (by simp [e0]), if_neg (by omega)]
  have w1 : IntKind.i64.wrap (c.nd w + M) = c.nd w + M := wr _ (by omega) (by omega)
  have w2 : IntKind.i64.wrap (c.nd w + M + 1) = c.nd w + M + 1 := wr _ (by omega) (by omega)
  have w3 : IntKind.i64.wrap (c.nd w - 1) = c.nd w - 1 := wr _ (by omega) (by omega)
  have w4 : IntKind.i64.wrap (c.nd w + M - c.nd w) = M := by rw [wr _ (by omega) (by omega)]; omega
  have lay := fun (n : Int) (h1 : c.nd w ≤ n) (h2 : n ≤ 400) => show ∃ r : List Int × Int, Fn Q 30 [.fo (c.fv (swC c) (spC c)), .fo (.list false (ints w)), .fo (.int n)] (.tup [.fx (lstN (ints r.1)), .fx (.int r.2), .fx (.int 0)]) ∧ ((w.length = 1 ∧ r = ([], 0)) ∨ (w.length ≠ 1 ∧ LayG (c.loo w) c.L (n - c.wd w) r.1 r.2)) by
    by_cases h : w.length = 1
    · exact ⟨([], 0), t30 v' hs (eY n h1 h2) (by rw [LayIs, if_pos h]), .inl ⟨h, rfl⟩⟩
    · obtain ⟨l, W, k1, k2, k3, k4, k5⟩ := lay_is (eY n h1 h2) h
      exact ⟨(l, W), t30 v' hs (eY n h1 h2) k1, .inr ⟨h, layG (ok.loo w) (fun e => by have := c.loo_len w; rw [e] at this; simp at this; omega) ok.l0 k2 k3 k5⟩⟩
  obtain ⟨r, c30, hr⟩ := lay (c.nd w + M) (by omega) (by omega)
  obtain ⟨r', c30', _⟩ := lay (c.nd w + M + 1) (by omega) (by omega)
  have c30n : 1 < c.nd w → Fn Q 30 [.fo (c.fv (swC c) (spC c)), .fo (.list false (ints w)), .fo (.int (c.nd w - 1))] (.tup [.fx .nil, .fx (.int 0), .fx (.int 8)]) := fun h => by
    have e8 : errY c w (c.nd w - 1) = 8 := by
      have e0 : errG c w (c.nd w - 1) = 0 := by unfold errG; rw [if_neg (by simp [eO]), inB_ok (by omega) (by omega)]; rfl
      unfold errY
      rw [if_neg (by simp [e0]), if_pos (by omega)]
    have := t30e (n := c.nd w - 1) v' hs (by omega) (by omega)
    rw [e8] at this
    exact this
  clear lay eY
  have hrl := lsOf_lstN (ints r.1)
  have rl0 : (r.1.length : Int) = (w.length : Int) - 1 := by
    rcases hr with ⟨h, e⟩ | ⟨h, g⟩
    · rw [e]; simp; omega
    · have := g.len; have := c.loo_len w; omega
  have rl1 : IntKind.i64.wrap ((w.length : Int) - 1) = (w.length : Int) - 1 := wr _ (by omega) (by omega)
  have rl2 : ((r.1.length : Int) != (w.length : Int) - 1) = false := by simp [rl0]
  have rb : ∀ x ∈ r.1, 0 ≤ x ∧ x ≤ 400 := by
    intro x hx
    rcases hr with ⟨h, e⟩ | ⟨h, g⟩
    · rw [e] at hx; simp at hx
    · have := g.nn x hx
      have := (sum_ge g.nn).2 x hx
      rw [g.sum] at this
      omega
  have r2 : sprF (c.lk w r.1) = r.2 := by
    rcases hr with ⟨h, e⟩ | ⟨h, g⟩
    · rw [e]
      have : c.loo w = [] := List.eq_nil_of_length_eq_zero (by rw [c.loo_len]; omega)
      rw [Cs.lk, this]; rfl
    · exact g.spr
  have c55 := t55 v ok.rk wv hrl rl0 (fun x hx => by have := rb x hx; omega)
  rw [r2] at c55
  have r2b : (r.2 != r.2) = false := by simp
  have neq : (c.nd w != c.nd w) = false := by simp
  refine w10 ?_
  dsimp only [c10, sop, gop, nop, qmv, qsg, qex, qld, qcl, qln, qix, qbo, qt, qi]
  simp -implicitDefEqProofs only [go_sem, simprocAttr, op, u8, oA, oB, lcA, lcB]
  refine call1 [] false (c50) ?_
  simp -implicitDefEqProofs only [go_sem, simprocAttr]
  refine call1 [] false (c51) ?_
  simp -implicitDefEqProofs only [go_sem, simprocAttr, o1, o2]
  refine call1 [] false (c52) ?_
  simp -implicitDefEqProofs only [go_sem, simprocAttr]
  refine call1 [] false (c53) ?_
  simp -implicitDefEqProofs only [go_sem, simprocAttr]
  refine call1 [] false (c20) ?_
  simp -implicitDefEqProofs only [go_sem, simprocAttr, o1, o2]
  refine call1 [] false (c54) ?_
  simp -implicitDefEqProofs only [go_sem, simprocAttr, neq]
  by_cases hA0 : 0 < A.length
  · have hA0' : (0 : Int) < (A.length : Nat) := by omega
    have g0 := gI_get (p := A) (i := 0) (by omega) (by omega)
    have wA : IntKind.i64.wrap (gI A 0) = gI A 0 := by have := bA _ (List.mem_of_getElem? g0); exact wr _ (by omega) (by omega)
    have ix := fun H => index_map (H := H) hA idx_82 g0 rfl
    rw [show (((0 : Int).toNat : Nat) : Int) = 0 from rfl] at ix
    rw [if_pos hA0] at hM
    simp -implicitDefEqProofs only [go_sem, simprocAttr, lenV_ls hA, List.length_map, hA0', ix, u8, wA, ← hM, w1]
    refine call1 [] false (c52) ?_
    simp -implicitDefEqProofs only [go_sem, simprocAttr]
    refine call1 [] false (c53) ?_
    simp -implicitDefEqProofs only [go_sem, simprocAttr]
    refine call1 [] false (c30) ?_
    simp -implicitDefEqProofs only [go_sem, simprocAttr, o1, o2]
    refine call1 [] false (c52) ?_
    simp -implicitDefEqProofs only [go_sem, simprocAttr]
    refine call1 [] false (c53) ?_
    simp -implicitDefEqProofs only [go_sem, simprocAttr, w2]
    refine call1 [] false (c30') ?_
    simp -implicitDefEqProofs only [go_sem, simprocAttr, lenV_ls (lsOf_lstN (ints r.1)), ints_length, rl1, rl2, o1, o2]
    refine call1 [] false (c55) ?_
    simp -implicitDefEqProofs only [go_sem, simprocAttr, r2b]
    by_cases hn1 : 1 < c.nd w
    · simp -implicitDefEqProofs only [go_sem, simprocAttr, hn1]
      refine call1 [] false (c52) ?_
      simp -implicitDefEqProofs only [go_sem, simprocAttr]
      refine call1 [] false (c53) ?_
      simp -implicitDefEqProofs only [go_sem, simprocAttr, w3]
      refine call1 [] false (c30n hn1) ?_
      simp -implicitDefEqProofs only [go_sem, simprocAttr, o1, o2]
      refine call1 [] false (c54) ?_
      simp -implicitDefEqProofs only [go_sem, simprocAttr, w4]
      refine lpL (β := Int) 140 [22, 23] 140 [] r.1 (by omega) (fun xs i m => r.1.drop i = xs ∧ (w.length ≠ 1 → m = sumI xs - clo c.L ((c.loo w).drop i))) (fun i m ρ h => ρ 23 = .fv (.int (i : Nat)) ∧ ρ 22 = .fv (.int m)) M ⟨rfl, fun h => by rcases hr with ⟨h1, _⟩ | ⟨_, g⟩; exact absurd h1 h; rw [g.sum, List.drop_zero]; omega⟩ ?_ ?_ ?_
      · simp -implicitDefEqProofs only [go_sem, simprocAttr]
      · rintro m ρ h ⟨_, em⟩ ⟨r23, r22⟩
        have nl : ¬ ((r.1.length : Int) < (r.1.length : Nat)) := by omega
        rcases hr with ⟨h1, e⟩ | ⟨h1, g⟩
        · have z : (((r.1.length : Nat) : Int) == 0) = true := by rw [e]; rfl
          simp -implicitDefEqProofs only [go_sem, simprocAttr, r23, lenV_ls hrl, ints_length, nl, z]
          refine call1 [] false (t17) ?_
          simp -implicitDefEqProofs only [go_sem, simprocAttr]
          exact ret_fv
        · have rl9 : r.1.length ≠ 0 := by omega
          have z : (((r.1.length : Nat) : Int) == 0) = false := by simpa using rl9
          have m0 : m = 0 := by rw [em h1, List.drop_of_length_le (by rw [g.len]; omega)]; rfl
          have z2 : (m != 0) = false := by simp [m0]
          simp -implicitDefEqProofs only [go_sem, simprocAttr, r23, r22, lenV_ls hrl, ints_length, nl, z, z2]
          have hall : c.nd w + M - c.wd w = clo c.L (c.loo w) + M := by omega
          have lml := c.loo_len w
          have glen : (gl c.L (c.loo w)).length = r.1.length := by rw [g.len]; simp [gl]
          have rne : 0 < r.1.length := by omega
          refine lpH 172 [24, 25, 26, 27, 28, 29] 172 [] (fun k : Nat => 2 - k) (fun k => k ≤ 2) (fun k ρ h => ρ 24 = .fv (.int (k : Nat))) 0 (by omega) ?_ ?_
          · simp -implicitDefEqProofs only [go_sem, simprocAttr]
          · rintro k ρ2 h2 hk r24
            by_cases k2 : k < 2
            · have k2' : (k : Int) < 2 := by omega
              have hwk : IntKind.i64.wrap ((k : Int) + 1) = ((k + 1 : Nat) : Int) := wr _ (by omega) (by omega)
              simp -implicitDefEqProofs only [go_sem, simprocAttr, r24, k2']
              refine lpH 177 [25, 26] 176 [] (fun i : Nat => r.1.length - i) (fun i => i ≤ r.1.length) (fun i ρ h => ρ 26 = .fv (.int (i : Nat)) ∧ ρ 25 = .gl 176 (h.gen 176) ∧ h.obj 176 = some (.list 3 1 false false (ints ((gl c.L (c.loo w)).take i)))) 0 (Nat.zero_le _) ?_ ?_
              · simp -implicitDefEqProofs only [go_sem, simprocAttr, List.take_zero, ints]
              · rintro i ρ3 h3 hi ⟨r26, r25, o176⟩
                by_cases hil : i < r.1.length
                · have hil' : (i : Int) < (r.1.length : Nat) := by omega
                  have hwi : IntKind.i64.wrap ((i : Int) + 1) = ((i + 1 : Nat) : Int) := wr _ (by omega) (by omega)
                  have c56 := t56 (i := i) v ok.rk wv (by omega)
                  have et : (gl c.L (c.loo w)).take (i + 1) = (gl c.L (c.loo w)).take i ++ [max 0 (c.L - gI (c.loo w) (i : Nat))] := by
                    have := gI_get (p := c.loo w) (i := (i : Int)) (by omega) (by omega)
                    rw [Int.toNat_natCast] at this
                    rw [List.take_add_one]
                    congr 1
                    simp [gl, this]
                  simp -implicitDefEqProofs only [go_sem, simprocAttr, r26, lenV_ls hrl, ints_length, hil', o1, o2]
                  refine call1 [] false (c56) ?_
                  simp -implicitDefEqProofs only [go_sem, simprocAttr, r25]
                  refine app_gl (by simp -implicitDefEqProofs only [go_sem, simprocAttr, o176]; rfl) idx_22 (by simp -implicitDefEqProofs only [go_sem, simprocAttr]; rfl) (by simp [FV.cells]) (by simp -implicitDefEqProofs only [go_sem, simprocAttr]) (by simp [byt_3, ints]; omega) (by simp [maxLen, ints]; omega) (by simp) ?_
                  simp -implicitDefEqProofs only [go_sem, simprocAttr, r26, hwi]
                  refine nxt (i + 1) (by omega) (by omega) ?_
                  simp -implicitDefEqProofs only [go_sem, simprocAttr, et, ints, List.map_append]
                · have hil' : ¬ (i : Int) < (r.1.length : Nat) := by omega
                  rw [List.take_of_length_le (by omega)] at o176
                  simp -implicitDefEqProofs only [go_sem, simprocAttr, r26, lenV_ls hrl, ints_length, hil']
                  refine lpH 190 [27, 28] 176 [] (fun a : Nat × List Int => (M - (a.1 : Int)).toNat) (fun a => (a.1 : Int) ≤ M ∧ Gp (c.loo w) c.L (a.1 : Int) a.2) (fun a ρ h => ρ 27 = .fv (.int (a.1 : Nat)) ∧ h.gen 176 = h3.gen 176 ∧ h.obj 176 = some (.list 3 1 false false (ints a.2))) (0, gl c.L (c.loo w)) ⟨by simp only; omega, gl_Gp _ _⟩ ?_ ?_
                  · simp -implicitDefEqProofs only [go_sem, simprocAttr, o176]
                  · rintro ⟨n, x⟩ ρ4 h4 ⟨hn, hx⟩ ⟨r27, g176, o176'⟩
                    dsimp only at hn hx r27 o176'
                    by_cases hnM : (n : Int) < M
                    · have hnM' : (n : Int) < M := by omega
                      have hwn : IntKind.i64.wrap ((n : Int) + 1) = ((n + 1 : Nat) : Int) := wr _ (by omega) (by omega)
                      have xl : x.length = r.1.length := by rw [hx.len, g.len]
                      have xlz : ¬ ((x.length : Int) = 0) := by omega
                      by_cases hk1 : k = 1
                      · by_cases hB0 : 0 < B.length
                        · have hB0' : (0 : Int) < (B.length : Nat) := by omega
                          have hk1' : ((k : Int) == 1) = true := by simp [hk1]
                          have hBz : ¬ ((B.length : Int) = 0) := by omega
                          obtain ⟨t0, t1⟩ := tm_bd (show (0 : Int) ≤ (n : Nat) by omega) hB0'
                          obtain ⟨u, hu⟩ : ∃ u : Nat, (n : Int).tmod (B.length : Nat) = (u : Nat) := ⟨((n : Int).tmod (B.length : Nat)).toNat, by omega⟩
                          rw [hu] at t0 t1
                          obtain ⟨y, hy⟩ : ∃ y, B[u]? = some y := ⟨_, List.getElem?_eq_getElem (by omega)⟩
                          have by_ := bB y (List.mem_of_getElem? hy)
                          have wy : IntKind.i64.wrap y = y := wr _ (by omega) (by omega)
                          simp -implicitDefEqProofs only [go_sem, simprocAttr, r27, hnM', r24, hk1', lenV_ls hB, List.length_map, hB0', hBz, hu, index_map hB idx_82 hy rfl, u8, wy]
                          have z0 := by_.1
                          obtain ⟨t2, t3⟩ := tm_bd z0 (show (0 : Int) < (x.length : Nat) by omega)
                          obtain ⟨j, hj⟩ : ∃ j : Nat, Int.tmod y (x.length : Nat) = (j : Nat) := ⟨(Int.tmod y (x.length : Nat)).toNat, by omega⟩
                          rw [hj] at t2 t3
                          have gz := ints_getJ (l := x) (i := j) (by omega)
                          have gx2 := (sum_ge hx.looks.2).2 (gI x (j : Nat)) (by have := gI_get (p := x) (i := (j : Int)) (by omega) (by omega); exact List.mem_of_getElem? this)
                          have gx3 := hx.looks.2 (gI x (j : Nat)) (by have := gI_get (p := x) (i := (j : Int)) (by omega) (by omega); exact List.mem_of_getElem? this)
                          rw [hx.sum] at gx2
                          have wgz : IntKind.i64.wrap (gI x (j : Nat) + 1) = gI x (j : Nat) + 1 := wr _ (by omega) (by omega)
                          simp -implicitDefEqProofs only [go_sem, simprocAttr, r25, g176, o176', ints_length, xlz, hj, t2, t3, gz, wgz, Int.toNat_natCast]
                          refine sto_elem (by rfl) (by rfl) (by rfl) (by simp -implicitDefEqProofs only [go_sem, simprocAttr, g176, o176']; rfl) gz (by decide) ?_
                          simp -implicitDefEqProofs only [go_sem, simprocAttr, FV.withCells, ints_set, r27, hwn]
                          refine nxt (n + 1, x.set j (gI x (j : Nat) + 1)) (by simp only; omega) ⟨by simp only; omega, by have := hx.inc (i := j) (by rw [← hx.len]; omega); simpa using this⟩ ?_
                          simp -implicitDefEqProofs only [go_sem, simprocAttr, g176]
                        · have hB0' : ¬ (0 : Int) < (B.length : Nat) := by omega
                          have hk1' : ((k : Int) == 1) = true := by simp [hk1]
                          simp -implicitDefEqProofs only [go_sem, simprocAttr, r27, hnM', r24, hk1', lenV_ls hB, List.length_map, hB0']
                          have z0 : (0 : Int) ≤ (n : Nat) := by omega
                          obtain ⟨t2, t3⟩ := tm_bd z0 (show (0 : Int) < (x.length : Nat) by omega)
                          obtain ⟨j, hj⟩ : ∃ j : Nat, Int.tmod (n : Int) (x.length : Nat) = (j : Nat) := ⟨(Int.tmod (n : Int) (x.length : Nat)).toNat, by omega⟩
                          rw [hj] at t2 t3
                          have gz := ints_getJ (l := x) (i := j) (by omega)
                          have gx2 := (sum_ge hx.looks.2).2 (gI x (j : Nat)) (by have := gI_get (p := x) (i := (j : Int)) (by omega) (by omega); exact List.mem_of_getElem? this)
                          have gx3 := hx.looks.2 (gI x (j : Nat)) (by have := gI_get (p := x) (i := (j : Int)) (by omega) (by omega); exact List.mem_of_getElem? this)
                          rw [hx.sum] at gx2
                          have wgz : IntKind.i64.wrap (gI x (j : Nat) + 1) = gI x (j : Nat) + 1 := wr _ (by omega) (by omega)
                          simp -implicitDefEqProofs only [go_sem, simprocAttr, r25, g176, o176', ints_length, xlz, hj, t2, t3, gz, wgz, Int.toNat_natCast]
                          refine sto_elem (by rfl) (by rfl) (by rfl) (by simp -implicitDefEqProofs only [go_sem, simprocAttr, g176, o176']; rfl) gz (by decide) ?_
                          simp -implicitDefEqProofs only [go_sem, simprocAttr, FV.withCells, ints_set, r27, hwn]
                          refine nxt (n + 1, x.set j (gI x (j : Nat) + 1)) (by simp only; omega) ⟨by simp only; omega, by have := hx.inc (i := j) (by rw [← hx.len]; omega); simpa using this⟩ ?_
                          simp -implicitDefEqProofs only [go_sem, simprocAttr, g176]
                      · have hk1' : ((k : Int) == 1) = false := by simp; omega
                        simp -implicitDefEqProofs only [go_sem, simprocAttr, r27, hnM', r24, hk1']
                        have z0 : (0 : Int) ≤ (n : Nat) := by omega
                        obtain ⟨t2, t3⟩ := tm_bd z0 (show (0 : Int) < (x.length : Nat) by omega)
                        obtain ⟨j, hj⟩ : ∃ j : Nat, Int.tmod (n : Int) (x.length : Nat) = (j : Nat) := ⟨(Int.tmod (n : Int) (x.length : Nat)).toNat, by omega⟩
                        rw [hj] at t2 t3
                        have gz := ints_getJ (l := x) (i := j) (by omega)
                        have gx2 := (sum_ge hx.looks.2).2 (gI x (j : Nat)) (by have := gI_get (p := x) (i := (j : Int)) (by omega) (by omega); exact List.mem_of_getElem? this)
                        have gx3 := hx.looks.2 (gI x (j : Nat)) (by have := gI_get (p := x) (i := (j : Int)) (by omega) (by omega); exact List.mem_of_getElem? this)
                        rw [hx.sum] at gx2
                        have wgz : IntKind.i64.wrap (gI x (j : Nat) + 1) = gI x (j : Nat) + 1 := wr _ (by omega) (by omega)
                        simp -implicitDefEqProofs only [go_sem, simprocAttr, r25, g176, o176', ints_length, xlz, hj, t2, t3, gz, wgz, Int.toNat_natCast]
                        refine sto_elem (by rfl) (by rfl) (by rfl) (by simp -implicitDefEqProofs only [go_sem, simprocAttr, g176, o176']; rfl) gz (by decide) ?_
                        simp -implicitDefEqProofs only [go_sem, simprocAttr, FV.withCells, ints_set, r27, hwn]
                        refine nxt (n + 1, x.set j (gI x (j : Nat) + 1)) (by simp only; omega) ⟨by simp only; omega, by have := hx.inc (i := j) (by rw [← hx.len]; omega); simpa using this⟩ ?_
                        simp -implicitDefEqProofs only [go_sem, simprocAttr, g176]
                    · have hnM' : ¬ (n : Int) < M := by omega
                      have hnM2 : (n : Int) = M := by omega
                      rw [hnM2] at hx
                      have xl : x.length = r.1.length := by rw [hx.len, g.len]
                      have xb : ∀ y ∈ x, 0 ≤ y ∧ y ≤ 400 := fun y hy => by
                        have h1 := hx.looks.2 y hy
                        have h2 := (sum_ge hx.looks.2).2 y hy
                        rw [hx.sum] at h2
                        omega
                      have c55x := t55 (sg := .list false (ints x)) v ok.rk wv rfl (by omega) (fun y hy => by have := xb y hy; omega)
                      obtain ⟨bst1, bst2⟩ := g.best x hx.len hx.looks.1 hx.looks.2 (by rw [hx.sum, hall])
                      rw [← Cs.lk] at bst1 bst2
                      generalize hS : sprF (c.lk w x) = S at *
                      have nlt : ¬ S < r.2 := by omega
                      by_cases hSe : S = r.2
                      · have hSe' : (S == r.2) = true := by simpa using hSe
                        have c57 := t57 (sa := .list false (ints x)) (sb := lstN (ints r.1)) (a := x) (b := r.1) rfl hrl xl (by omega)
                        rw [decide_eq_false (bst2 hSe)] at c57
                        simp -implicitDefEqProofs only [go_sem, simprocAttr, r27, hnM', r25, g176, o176', o1, o2]
                        refine call0 [176] false c55x (by simp -implicitDefEqProofs only [go_sem, simprocAttr, lstN, ints, g176, o176']) (.inl rfl) ?_
                        simp -implicitDefEqProofs only [go_sem, simprocAttr, nlt, hSe', g176, o176', r25]
                        refine call0 [176] false c57 (by simp -implicitDefEqProofs only [go_sem, simprocAttr, lstN, ints, g176, o176']) (.inl rfl) ?_
                        simp -implicitDefEqProofs only [go_sem, simprocAttr, r24, hwk]
                        refine nxt (k + 1) (by omega) (by omega) ?_
                        simp -implicitDefEqProofs only [go_sem, simprocAttr]
                      · have hSe' : (S == r.2) = false := by simpa using hSe
                        simp -implicitDefEqProofs only [go_sem, simprocAttr, r27, hnM', r25, g176, o176', o1, o2]
                        refine call0 [176] false c55x (by simp -implicitDefEqProofs only [go_sem, simprocAttr, lstN, ints, g176, o176']) (.inl rfl) ?_
                        simp -implicitDefEqProofs only [go_sem, simprocAttr, nlt, hSe', g176, o176', r25, r24, hwk]
                        refine nxt (k + 1) (by omega) (by omega) ?_
                        simp -implicitDefEqProofs only [go_sem, simprocAttr]
            · have k2' : ¬ (k : Int) < 2 := by omega
              simp -implicitDefEqProofs only [go_sem, simprocAttr, r24, k2']
              have eL : errL c w r.1 = 0 := by
                unfold errL
                rw [if_neg (by simp [eO]), if_neg]
                rw [Bool.not_eq_false]
                unfold gapsB
                rw [Bool.and_eq_true]
                exact ⟨by simpa using rl0, List.all_eq_true.2 fun y hy => inB_ok (rb y hy).1 (rb y hy).2⟩
              have c53r := t53 hrl (by omega)
              have c21 := t21 (sg := .list false (ints r.1)) (g := r.1) v' hs (by omega) rfl (by omega)
              rw [eL, if_pos rfl, if_pos rfl, r2] at c21
              have lkl : (c.lk w r.1).length = r.1.length := lks_len _ _ g.len
              have lkz : (((c.lk w r.1).length : Int) != (r.1.length : Nat)) = false := by simp [lkl]
              have hlk := lsOf_lstN (ints (c.lk w r.1))
              refine call1 [] false (c52) ?_
              simp -implicitDefEqProofs only [go_sem, simprocAttr]
              refine call1 [] false (c53) ?_
              simp -implicitDefEqProofs only [go_sem, simprocAttr]
              refine call1 [] false (c53r) ?_
              simp -implicitDefEqProofs only [go_sem, simprocAttr]
              refine call1 [] false (c21) ?_
              simp -implicitDefEqProofs only [go_sem, simprocAttr, lenV_ls hlk, lenV_ls hrl, ints_length, lkz, r2b]
              refine lpH 265 [33] 265 [] (fun k : Nat => r.1.length - k) (fun k => k ≤ r.1.length) (fun k ρ h => ρ 33 = .fv (.int (k : Nat))) 0 (Nat.zero_le _) ?_ ?_
              · simp -implicitDefEqProofs only [go_sem, simprocAttr]
              · rintro j ρ3 h3 hj r33
                by_cases hjl : j < r.1.length
                · have hjl' : (j : Int) < ((c.lk w r.1).length : Nat) := by omega
                  have hwj : IntKind.i64.wrap ((j : Int) + 1) = ((j + 1 : Nat) : Int) := wr _ (by omega) (by omega)
                  obtain ⟨x, hx⟩ : ∃ x, r.1[j]? = some x := ⟨_, List.getElem?_eq_getElem hjl⟩
                  have hlx := lks_at (c.loo w) r.1 j g.len x hx
                  rw [← Cs.lk] at hlx
                  have hLx := g.ge _ (List.mem_of_getElem? hlx)
                  have hnL : ¬ x + gI (c.loo w) (j : Nat) < c.L := by omega
                  have xb := rb x (List.mem_of_getElem? hx)
                  have c58 := t58 (i := j) (g := x) v ok.rk wv (by omega) (by omega) (by omega)
                  have zz : (x + gI (c.loo w) (j : Nat) != x + gI (c.loo w) (j : Nat)) = false := by simp
                  simp -implicitDefEqProofs only [go_sem, simprocAttr, r33, lenV_ls hlk, ints_length, hjl']
                  refine W_opsD _ _ _ (Vs []) ?_ ?_
                  · decide
                  simp -implicitDefEqProofs only [go_sem, simprocAttr, r33, index_map hlk idx_22 hlx rfl, index_map hrl idx_22 hx rfl, o1, o2]
                  refine callD [] false [.fo (c.fv sw sp), .fo (.list false (ints w)), .fo (.int (j : Nat)), .fo (.int x)] [] c58 ⟨rfl, rfl, rfl, rfl, trivial⟩ rfl (.inl rfl) ?_
                  simp -implicitDefEqProofs only [go_sem, simprocAttr, zz, r33, index_map hlk idx_22 hlx rfl, hnL, hwj]
                  refine nxt (j + 1) (by omega) (by omega) ?_
                  simp -implicitDefEqProofs only [go_sem, simprocAttr]
                · have hjl' : ¬ (j : Int) < ((c.lk w r.1).length : Nat) := by omega
                  simp -implicitDefEqProofs only [go_sem, simprocAttr, r33, lenV_ls hlk, ints_length, hjl']
                  refine call1 [] false (t17) ?_
                  simp -implicitDefEqProofs only [go_sem, simprocAttr]
                  exact ret_fv
      · rintro x xs i m ρ h hx hi hm hi' hwi ⟨hd, em⟩ ⟨r23, r22⟩
        rcases hr with ⟨h1, e⟩ | ⟨h1, g⟩
        · rw [e] at hi; simp at hi
        · have lg := loo_gI ok.rk w i
          have ilm : i < (c.loo w).length := by rw [← g.len]; exact hi
          have l0 := ok.l0
          have hxl := rb x hm
          have hge : ¬ x < max 0 (c.L - gI (c.loo w) (i : Nat)) := by
            have := g.ge _ (List.mem_of_getElem? (lks_at (c.loo w) r.1 i g.len x hx))
            omega
          have c56 := t56 (i := i) v ok.rk wv (by have := c.loo_len w; omega)
          have em1 := em h1
          have hdl : (c.loo w).drop i = gI (c.loo w) (i : Nat) :: (c.loo w).drop (i + 1) := by
            have := gI_get (p := c.loo w) (i := (i : Int)) (by omega) (by omega)
            rw [Int.toNat_natCast] at this
            exact drop_get this
          have sx := sum_ge (x := xs) fun y hy => by have := rb y (List.mem_of_mem_drop (hd ▸ (List.mem_cons_of_mem _ hy))); omega
          have sx2 := (sum_ge g.nn).1
          have clb := clo_5 ok.l0 T.l ((c.loo w).drop (i + 1)) (fun z hz => ok.loo w z (List.mem_of_mem_drop hz))
          rw [List.length_drop, c.loo_len] at clb
          have sxb : sumI xs ≤ 400 * xs.length := by
            have hxs : ∀ y ∈ xs, y ≤ 400 := fun y hy => (rb y (List.mem_of_mem_drop (hd ▸ (List.mem_cons_of_mem _ hy)))).2
            clear em1 em sx hd
            induction xs with
            | nil => simp [sumI]
            | cons y ys ih =>
              have := ih fun z hz => hxs z (by simp [hz])
              have := hxs y (by simp)
              simp only [sumI, List.length_cons]; omega
          have lxs : xs.length ≤ 7 := by have := congrArg List.length hd; simp at this; omega
          rw [hdl] at em1
          simp only [sumI, clo] at em1
          have u1 : IntKind.i64.wrap (x - max 0 (c.L - gI (c.loo w) (i : Nat))) = x - max 0 (c.L - gI (c.loo w) (i : Nat)) := wr _ (by omega) (by omega)
          have u2 : IntKind.i64.wrap (m - (x - max 0 (c.L - gI (c.loo w) (i : Nat)))) = m - (x - max 0 (c.L - gI (c.loo w) (i : Nat))) := wr _ (by omega) (by omega)
          simp -implicitDefEqProofs only [go_sem, simprocAttr, r23, lenV_ls hrl, ints_length, hi']
          refine W_opsD _ _ _ (Vs []) ?_ ?_
          · decide
          simp -implicitDefEqProofs only [go_sem, simprocAttr, r23, index_map hrl idx_22 hx rfl, o1, o2]
          refine callD [] false [.fo (c.fv sw sp), .fo (.list false (ints w)), .fo (.int (i : Nat))] [] c56 ⟨rfl, rfl, rfl, trivial⟩ rfl (.inl rfl) ?_
          simp -implicitDefEqProofs only [go_sem, simprocAttr, hge]
          refine W_opsD _ _ _ (Vs []) ?_ ?_
          · decide
          simp -implicitDefEqProofs only [go_sem, simprocAttr, r23, r22, index_map hrl idx_22 hx rfl, o1, o2]
          refine callD [] false [.fo (c.fv sw sp), .fo (.list false (ints w)), .fo (.int (i : Nat))] [] c56 ⟨rfl, rfl, rfl, trivial⟩ rfl (.inl rfl) ?_
          simp -implicitDefEqProofs only [go_sem, simprocAttr, u1, u2, r23, hwi]
          refine nxtL (m - (x - max 0 (c.L - gI (c.loo w) (i : Nat)))) ⟨(drop_tail hd).1, fun _ => by rw [em1]; omega⟩ ?_
          simp -implicitDefEqProofs only [go_sem, simprocAttr]
    · simp -implicitDefEqProofs only [go_sem, simprocAttr, hn1, o1, o2]
      refine call1 [] false (c54) ?_
      simp -implicitDefEqProofs only [go_sem, simprocAttr, w4]
      refine lpL (β := Int) 140 [22, 23] 140 [] r.1 (by omega) (fun xs i m => r.1.drop i = xs ∧ (w.length ≠ 1 → m = sumI xs - clo c.L ((c.loo w).drop i))) (fun i m ρ h => ρ 23 = .fv (.int (i : Nat)) ∧ ρ 22 = .fv (.int m)) M ⟨rfl, fun h => by rcases hr with ⟨h1, _⟩ | ⟨_, g⟩; exact absurd h1 h; rw [g.sum, List.drop_zero]; omega⟩ ?_ ?_ ?_
      · simp -implicitDefEqProofs only [go_sem, simprocAttr]
      · rintro m ρ h ⟨_, em⟩ ⟨r23, r22⟩
        have nl : ¬ ((r.1.length : Int) < (r.1.length : Nat)) := by omega
        rcases hr with ⟨h1, e⟩ | ⟨h1, g⟩
        · have z : (((r.1.length : Nat) : Int) == 0) = true := by rw [e]; rfl
          simp -implicitDefEqProofs only [go_sem, simprocAttr, r23, lenV_ls hrl, ints_length, nl, z]
          refine call1 [] false (t17) ?_
          simp -implicitDefEqProofs only [go_sem, simprocAttr]
          exact ret_fv
        · have rl9 : r.1.length ≠ 0 := by omega
          have z : (((r.1.length : Nat) : Int) == 0) = false := by simpa using rl9
          have m0 : m = 0 := by rw [em h1, List.drop_of_length_le (by rw [g.len]; omega)]; rfl
          have z2 : (m != 0) = false := by simp [m0]
          simp -implicitDefEqProofs only [go_sem, simprocAttr, r23, r22, lenV_ls hrl, ints_length, nl, z, z2]
          have hall : c.nd w + M - c.wd w = clo c.L (c.loo w) + M := by omega
          have lml := c.loo_len w
          have glen : (gl c.L (c.loo w)).length = r.1.length := by rw [g.len]; simp [gl]
          have rne : 0 < r.1.length := by omega
          refine lpH 172 [24, 25, 26, 27, 28, 29] 172 [] (fun k : Nat => 2 - k) (fun k => k ≤ 2) (fun k ρ h => ρ 24 = .fv (.int (k : Nat))) 0 (by omega) ?_ ?_
          · simp -implicitDefEqProofs only [go_sem, simprocAttr]
          · rintro k ρ2 h2 hk r24
            by_cases k2 : k < 2
            · have k2' : (k : Int) < 2 := by omega
              have hwk : IntKind.i64.wrap ((k : Int) + 1) = ((k + 1 : Nat) : Int) := wr _ (by omega) (by omega)
              simp -implicitDefEqProofs only [go_sem, simprocAttr, r24, k2']
              refine lpH 177 [25, 26] 176 [] (fun i : Nat => r.1.length - i) (fun i => i ≤ r.1.length) (fun i ρ h => ρ 26 = .fv (.int (i : Nat)) ∧ ρ 25 = .gl 176 (h.gen 176) ∧ h.obj 176 = some (.list 3 1 false false (ints ((gl c.L (c.loo w)).take i)))) 0 (Nat.zero_le _) ?_ ?_
              · simp -implicitDefEqProofs only [go_sem, simprocAttr, List.take_zero, ints]
              · rintro i ρ3 h3 hi ⟨r26, r25, o176⟩
                by_cases hil : i < r.1.length
                · have hil' : (i : Int) < (r.1.length : Nat) := by omega
                  have hwi : IntKind.i64.wrap ((i : Int) + 1) = ((i + 1 : Nat) : Int) := wr _ (by omega) (by omega)
                  have c56 := t56 (i := i) v ok.rk wv (by omega)
                  have et : (gl c.L (c.loo w)).take (i + 1) = (gl c.L (c.loo w)).take i ++ [max 0 (c.L - gI (c.loo w) (i : Nat))] := by
                    have := gI_get (p := c.loo w) (i := (i : Int)) (by omega) (by omega)
                    rw [Int.toNat_natCast] at this
                    rw [List.take_add_one]
                    congr 1
                    simp [gl, this]
                  simp -implicitDefEqProofs only [go_sem, simprocAttr, r26, lenV_ls hrl, ints_length, hil', o1, o2]
                  refine call1 [] false (c56) ?_
                  simp -implicitDefEqProofs only [go_sem, simprocAttr, r25]
                  refine app_gl (by simp -implicitDefEqProofs only [go_sem, simprocAttr, o176]; rfl) idx_22 (by simp -implicitDefEqProofs only [go_sem, simprocAttr]; rfl) (by simp [FV.cells]) (by simp -implicitDefEqProofs only [go_sem, simprocAttr]) (by simp [byt_3, ints]; omega) (by simp [maxLen, ints]; omega) (by simp) ?_
                  simp -implicitDefEqProofs only [go_sem, simprocAttr, r26, hwi]
                  refine nxt (i + 1) (by omega) (by omega) ?_
                  simp -implicitDefEqProofs only [go_sem, simprocAttr, et, ints, List.map_append]
                · have hil' : ¬ (i : Int) < (r.1.length : Nat) := by omega
                  rw [List.take_of_length_le (by omega)] at o176
                  simp -implicitDefEqProofs only [go_sem, simprocAttr, r26, lenV_ls hrl, ints_length, hil']
                  refine lpH 190 [27, 28] 176 [] (fun a : Nat × List Int => (M - (a.1 : Int)).toNat) (fun a => (a.1 : Int) ≤ M ∧ Gp (c.loo w) c.L (a.1 : Int) a.2) (fun a ρ h => ρ 27 = .fv (.int (a.1 : Nat)) ∧ h.gen 176 = h3.gen 176 ∧ h.obj 176 = some (.list 3 1 false false (ints a.2))) (0, gl c.L (c.loo w)) ⟨by simp only; omega, gl_Gp _ _⟩ ?_ ?_
                  · simp -implicitDefEqProofs only [go_sem, simprocAttr, o176]
                  · rintro ⟨n, x⟩ ρ4 h4 ⟨hn, hx⟩ ⟨r27, g176, o176'⟩
                    dsimp only at hn hx r27 o176'
                    by_cases hnM : (n : Int) < M
                    · have hnM' : (n : Int) < M := by omega
                      have hwn : IntKind.i64.wrap ((n : Int) + 1) = ((n + 1 : Nat) : Int) := wr _ (by omega) (by omega)
                      have xl : x.length = r.1.length := by rw [hx.len, g.len]
                      have xlz : ¬ ((x.length : Int) = 0) := by omega
                      by_cases hk1 : k = 1
                      · by_cases hB0 : 0 < B.length
                        · have hB0' : (0 : Int) < (B.length : Nat) := by omega
                          have hk1' : ((k : Int) == 1) = true := by simp [hk1]
                          have hBz : ¬ ((B.length : Int) = 0) := by omega
                          obtain ⟨t0, t1⟩ := tm_bd (show (0 : Int) ≤ (n : Nat) by omega) hB0'
                          obtain ⟨u, hu⟩ : ∃ u : Nat, (n : Int).tmod (B.length : Nat) = (u : Nat) := ⟨((n : Int).tmod (B.length : Nat)).toNat, by omega⟩
                          rw [hu] at t0 t1
                          obtain ⟨y, hy⟩ : ∃ y, B[u]? = some y := ⟨_, List.getElem?_eq_getElem (by omega)⟩
                          have by_ := bB y (List.mem_of_getElem? hy)
                          have wy : IntKind.i64.wrap y = y := wr _ (by omega) (by omega)
                          simp -implicitDefEqProofs only [go_sem, simprocAttr, r27, hnM', r24, hk1', lenV_ls hB, List.length_map, hB0', hBz, hu, index_map hB idx_82 hy rfl, u8, wy]
                          have z0 := by_.1
                          obtain ⟨t2, t3⟩ := tm_bd z0 (show (0 : Int) < (x.length : Nat) by omega)
                          obtain ⟨j, hj⟩ : ∃ j : Nat, Int.tmod y (x.length : Nat) = (j : Nat) := ⟨(Int.tmod y (x.length : Nat)).toNat, by omega⟩
                          rw [hj] at t2 t3
                          have gz := ints_getJ (l := x) (i := j) (by omega)
                          have gx2 := (sum_ge hx.looks.2).2 (gI x (j : Nat)) (by have := gI_get (p := x) (i := (j : Int)) (by omega) (by omega); exact List.mem_of_getElem? this)
                          have gx3 := hx.looks.2 (gI x (j : Nat)) (by have := gI_get (p := x) (i := (j : Int)) (by omega) (by omega); exact List.mem_of_getElem? this)
                          rw [hx.sum] at gx2
                          have wgz : IntKind.i64.wrap (gI x (j : Nat) + 1) = gI x (j : Nat) + 1 := wr _ (by omega) (by omega)
                          simp -implicitDefEqProofs only [go_sem, simprocAttr, r25, g176, o176', ints_length, xlz, hj, t2, t3, gz, wgz, Int.toNat_natCast]
                          refine sto_elem (by rfl) (by rfl) (by rfl) (by simp -implicitDefEqProofs only [go_sem, simprocAttr, g176, o176']; rfl) gz (by decide) ?_
                          simp -implicitDefEqProofs only [go_sem, simprocAttr, FV.withCells, ints_set, r27, hwn]
                          refine nxt (n + 1, x.set j (gI x (j : Nat) + 1)) (by simp only; omega) ⟨by simp only; omega, by have := hx.inc (i := j) (by rw [← hx.len]; omega); simpa using this⟩ ?_
                          simp -implicitDefEqProofs only [go_sem, simprocAttr, g176]
                        · have hB0' : ¬ (0 : Int) < (B.length : Nat) := by omega
                          have hk1' : ((k : Int) == 1) = true := by simp [hk1]
                          simp -implicitDefEqProofs only [go_sem, simprocAttr, r27, hnM', r24, hk1', lenV_ls hB, List.length_map, hB0']
                          have z0 : (0 : Int) ≤ (n : Nat) := by omega
                          obtain ⟨t2, t3⟩ := tm_bd z0 (show (0 : Int) < (x.length : Nat) by omega)
                          obtain ⟨j, hj⟩ : ∃ j : Nat, Int.tmod (n : Int) (x.length : Nat) = (j : Nat) := ⟨(Int.tmod (n : Int) (x.length : Nat)).toNat, by omega⟩
                          rw [hj] at t2 t3
                          have gz := ints_getJ (l := x) (i := j) (by omega)
                          have gx2 := (sum_ge hx.looks.2).2 (gI x (j : Nat)) (by have := gI_get (p := x) (i := (j : Int)) (by omega) (by omega); exact List.mem_of_getElem? this)
                          have gx3 := hx.looks.2 (gI x (j : Nat)) (by have := gI_get (p := x) (i := (j : Int)) (by omega) (by omega); exact List.mem_of_getElem? this)
                          rw [hx.sum] at gx2
                          have wgz : IntKind.i64.wrap (gI x (j : Nat) + 1) = gI x (j : Nat) + 1 := wr _ (by omega) (by omega)
                          simp -implicitDefEqProofs only [go_sem, simprocAttr, r25, g176, o176', ints_length, xlz, hj, t2, t3, gz, wgz, Int.toNat_natCast]
                          refine sto_elem (by rfl) (by rfl) (by rfl) (by simp -implicitDefEqProofs only [go_sem, simprocAttr, g176, o176']; rfl) gz (by decide) ?_
                          simp -implicitDefEqProofs only [go_sem, simprocAttr, FV.withCells, ints_set, r27, hwn]
                          refine nxt (n + 1, x.set j (gI x (j : Nat) + 1)) (by simp only; omega) ⟨by simp only; omega, by have := hx.inc (i := j) (by rw [← hx.len]; omega); simpa using this⟩ ?_
                          simp -implicitDefEqProofs only [go_sem, simprocAttr, g176]
                      · have hk1' : ((k : Int) == 1) = false := by simp; omega
                        simp -implicitDefEqProofs only [go_sem, simprocAttr, r27, hnM', r24, hk1']
                        have z0 : (0 : Int) ≤ (n : Nat) := by omega
                        obtain ⟨t2, t3⟩ := tm_bd z0 (show (0 : Int) < (x.length : Nat) by omega)
                        obtain ⟨j, hj⟩ : ∃ j : Nat, Int.tmod (n : Int) (x.length : Nat) = (j : Nat) := ⟨(Int.tmod (n : Int) (x.length : Nat)).toNat, by omega⟩
                        rw [hj] at t2 t3
                        have gz := ints_getJ (l := x) (i := j) (by omega)
                        have gx2 := (sum_ge hx.looks.2).2 (gI x (j : Nat)) (by have := gI_get (p := x) (i := (j : Int)) (by omega) (by omega); exact List.mem_of_getElem? this)
                        have gx3 := hx.looks.2 (gI x (j : Nat)) (by have := gI_get (p := x) (i := (j : Int)) (by omega) (by omega); exact List.mem_of_getElem? this)
                        rw [hx.sum] at gx2
                        have wgz : IntKind.i64.wrap (gI x (j : Nat) + 1) = gI x (j : Nat) + 1 := wr _ (by omega) (by omega)
                        simp -implicitDefEqProofs only [go_sem, simprocAttr, r25, g176, o176', ints_length, xlz, hj, t2, t3, gz, wgz, Int.toNat_natCast]
                        refine sto_elem (by rfl) (by rfl) (by rfl) (by simp -implicitDefEqProofs only [go_sem, simprocAttr, g176, o176']; rfl) gz (by decide) ?_
                        simp -implicitDefEqProofs only [go_sem, simprocAttr, FV.withCells, ints_set, r27, hwn]
                        refine nxt (n + 1, x.set j (gI x (j : Nat) + 1)) (by simp only; omega) ⟨by simp only; omega, by have := hx.inc (i := j) (by rw [← hx.len]; omega); simpa using this⟩ ?_
                        simp -implicitDefEqProofs only [go_sem, simprocAttr, g176]
                    · have hnM' : ¬ (n : Int) < M := by omega
                      have hnM2 : (n : Int) = M := by omega
                      rw [hnM2] at hx
                      have xl : x.length = r.1.length := by rw [hx.len, g.len]
                      have xb : ∀ y ∈ x, 0 ≤ y ∧ y ≤ 400 := fun y hy => by
                        have h1 := hx.looks.2 y hy
                        have h2 := (sum_ge hx.looks.2).2 y hy
                        rw [hx.sum] at h2
                        omega
                      have c55x := t55 (sg := .list false (ints x)) v ok.rk wv rfl (by omega) (fun y hy => by have := xb y hy; omega)
                      obtain ⟨bst1, bst2⟩ := g.best x hx.len hx.looks.1 hx.looks.2 (by rw [hx.sum, hall])
                      rw [← Cs.lk] at bst1 bst2
                      generalize hS : sprF (c.lk w x) = S at *
                      have nlt : ¬ S < r.2 := by omega
                      by_cases hSe : S = r.2
                      · have hSe' : (S == r.2) = true := by simpa using hSe
                        have c57 := t57 (sa := .list false (ints x)) (sb := lstN (ints r.1)) (a := x) (b := r.1) rfl hrl xl (by omega)
                        rw [decide_eq_false (bst2 hSe)] at c57
                        simp -implicitDefEqProofs only [go_sem, simprocAttr, r27, hnM', r25, g176, o176', o1, o2]
                        refine call0 [176] false c55x (by simp -implicitDefEqProofs only [go_sem, simprocAttr, lstN, ints, g176, o176']) (.inl rfl) ?_
                        simp -implicitDefEqProofs only [go_sem, simprocAttr, nlt, hSe', g176, o176', r25]
                        refine call0 [176] false c57 (by simp -implicitDefEqProofs only [go_sem, simprocAttr, lstN, ints, g176, o176']) (.inl rfl) ?_
                        simp -implicitDefEqProofs only [go_sem, simprocAttr, r24, hwk]
                        refine nxt (k + 1) (by omega) (by omega) ?_
                        simp -implicitDefEqProofs only [go_sem, simprocAttr]
                      · have hSe' : (S == r.2) = false := by simpa using hSe
                        simp -implicitDefEqProofs only [go_sem, simprocAttr, r27, hnM', r25, g176, o176', o1, o2]
                        refine call0 [176] false c55x (by simp -implicitDefEqProofs only [go_sem, simprocAttr, lstN, ints, g176, o176']) (.inl rfl) ?_
                        simp -implicitDefEqProofs only [go_sem, simprocAttr, nlt, hSe', g176, o176', r25, r24, hwk]
                        refine nxt (k + 1) (by omega) (by omega) ?_
                        simp -implicitDefEqProofs only [go_sem, simprocAttr]
            · have k2' : ¬ (k : Int) < 2 := by omega
              simp -implicitDefEqProofs only [go_sem, simprocAttr, r24, k2']
              have eL : errL c w r.1 = 0 := by
                unfold errL
                rw [if_neg (by simp [eO]), if_neg]
                rw [Bool.not_eq_false]
                unfold gapsB
                rw [Bool.and_eq_true]
                exact ⟨by simpa using rl0, List.all_eq_true.2 fun y hy => inB_ok (rb y hy).1 (rb y hy).2⟩
              have c53r := t53 hrl (by omega)
              have c21 := t21 (sg := .list false (ints r.1)) (g := r.1) v' hs (by omega) rfl (by omega)
              rw [eL, if_pos rfl, if_pos rfl, r2] at c21
              have lkl : (c.lk w r.1).length = r.1.length := lks_len _ _ g.len
              have lkz : (((c.lk w r.1).length : Int) != (r.1.length : Nat)) = false := by simp [lkl]
              have hlk := lsOf_lstN (ints (c.lk w r.1))
              refine call1 [] false (c52) ?_
              simp -implicitDefEqProofs only [go_sem, simprocAttr]
              refine call1 [] false (c53) ?_
              simp -implicitDefEqProofs only [go_sem, simprocAttr]
              refine call1 [] false (c53r) ?_
              simp -implicitDefEqProofs only [go_sem, simprocAttr]
              refine call1 [] false (c21) ?_
              simp -implicitDefEqProofs only [go_sem, simprocAttr, lenV_ls hlk, lenV_ls hrl, ints_length, lkz, r2b]
              refine lpH 265 [33] 265 [] (fun k : Nat => r.1.length - k) (fun k => k ≤ r.1.length) (fun k ρ h => ρ 33 = .fv (.int (k : Nat))) 0 (Nat.zero_le _) ?_ ?_
              · simp -implicitDefEqProofs only [go_sem, simprocAttr]
              · rintro j ρ3 h3 hj r33
                by_cases hjl : j < r.1.length
                · have hjl' : (j : Int) < ((c.lk w r.1).length : Nat) := by omega
                  have hwj : IntKind.i64.wrap ((j : Int) + 1) = ((j + 1 : Nat) : Int) := wr _ (by omega) (by omega)
                  obtain ⟨x, hx⟩ : ∃ x, r.1[j]? = some x := ⟨_, List.getElem?_eq_getElem hjl⟩
                  have hlx := lks_at (c.loo w) r.1 j g.len x hx
                  rw [← Cs.lk] at hlx
                  have hLx := g.ge _ (List.mem_of_getElem? hlx)
                  have hnL : ¬ x + gI (c.loo w) (j : Nat) < c.L := by omega
                  have xb := rb x (List.mem_of_getElem? hx)
                  have c58 := t58 (i := j) (g := x) v ok.rk wv (by omega) (by omega) (by omega)
                  have zz : (x + gI (c.loo w) (j : Nat) != x + gI (c.loo w) (j : Nat)) = false := by simp
                  simp -implicitDefEqProofs only [go_sem, simprocAttr, r33, lenV_ls hlk, ints_length, hjl']
                  refine W_opsD _ _ _ (Vs []) ?_ ?_
                  · decide
                  simp -implicitDefEqProofs only [go_sem, simprocAttr, r33, index_map hlk idx_22 hlx rfl, index_map hrl idx_22 hx rfl, o1, o2]
                  refine callD [] false [.fo (c.fv sw sp), .fo (.list false (ints w)), .fo (.int (j : Nat)), .fo (.int x)] [] c58 ⟨rfl, rfl, rfl, rfl, trivial⟩ rfl (.inl rfl) ?_
                  simp -implicitDefEqProofs only [go_sem, simprocAttr, zz, r33, index_map hlk idx_22 hlx rfl, hnL, hwj]
                  refine nxt (j + 1) (by omega) (by omega) ?_
                  simp -implicitDefEqProofs only [go_sem, simprocAttr]
                · have hjl' : ¬ (j : Int) < ((c.lk w r.1).length : Nat) := by omega
                  simp -implicitDefEqProofs only [go_sem, simprocAttr, r33, lenV_ls hlk, ints_length, hjl']
                  refine call1 [] false (t17) ?_
                  simp -implicitDefEqProofs only [go_sem, simprocAttr]
                  exact ret_fv
      · rintro x xs i m ρ h hx hi hm hi' hwi ⟨hd, em⟩ ⟨r23, r22⟩
        rcases hr with ⟨h1, e⟩ | ⟨h1, g⟩
        · rw [e] at hi; simp at hi
        · have lg := loo_gI ok.rk w i
          have ilm : i < (c.loo w).length := by rw [← g.len]; exact hi
          have l0 := ok.l0
          have hxl := rb x hm
          have hge : ¬ x < max 0 (c.L - gI (c.loo w) (i : Nat)) := by
            have := g.ge _ (List.mem_of_getElem? (lks_at (c.loo w) r.1 i g.len x hx))
            omega
          have c56 := t56 (i := i) v ok.rk wv (by have := c.loo_len w; omega)
          have em1 := em h1
          have hdl : (c.loo w).drop i = gI (c.loo w) (i : Nat) :: (c.loo w).drop (i + 1) := by
            have := gI_get (p := c.loo w) (i := (i : Int)) (by omega) (by omega)
            rw [Int.toNat_natCast] at this
            exact drop_get this
          have sx := sum_ge (x := xs) fun y hy => by have := rb y (List.mem_of_mem_drop (hd ▸ (List.mem_cons_of_mem _ hy))); omega
          have sx2 := (sum_ge g.nn).1
          have clb := clo_5 ok.l0 T.l ((c.loo w).drop (i + 1)) (fun z hz => ok.loo w z (List.mem_of_mem_drop hz))
          rw [List.length_drop, c.loo_len] at clb
          have sxb : sumI xs ≤ 400 * xs.length := by
            have hxs : ∀ y ∈ xs, y ≤ 400 := fun y hy => (rb y (List.mem_of_mem_drop (hd ▸ (List.mem_cons_of_mem _ hy)))).2
            clear em1 em sx hd
            induction xs with
            | nil => simp [sumI]
            | cons y ys ih =>
              have := ih fun z hz => hxs z (by simp [hz])
              have := hxs y (by simp)
              simp only [sumI, List.length_cons]; omega
          have lxs : xs.length ≤ 7 := by have := congrArg List.length hd; simp at this; omega
          rw [hdl] at em1
          simp only [sumI, clo] at em1
          have u1 : IntKind.i64.wrap (x - max 0 (c.L - gI (c.loo w) (i : Nat))) = x - max 0 (c.L - gI (c.loo w) (i : Nat)) := wr _ (by omega) (by omega)
          have u2 : IntKind.i64.wrap (m - (x - max 0 (c.L - gI (c.loo w) (i : Nat)))) = m - (x - max 0 (c.L - gI (c.loo w) (i : Nat))) := wr _ (by omega) (by omega)
          simp -implicitDefEqProofs only [go_sem, simprocAttr, r23, lenV_ls hrl, ints_length, hi']
          refine W_opsD _ _ _ (Vs []) ?_ ?_
          · decide
          simp -implicitDefEqProofs only [go_sem, simprocAttr, r23, index_map hrl idx_22 hx rfl, o1, o2]
          refine callD [] false [.fo (c.fv sw sp), .fo (.list false (ints w)), .fo (.int (i : Nat))] [] c56 ⟨rfl, rfl, rfl, trivial⟩ rfl (.inl rfl) ?_
          simp -implicitDefEqProofs only [go_sem, simprocAttr, hge]
          refine W_opsD _ _ _ (Vs []) ?_ ?_
          · decide
          simp -implicitDefEqProofs only [go_sem, simprocAttr, r23, r22, index_map hrl idx_22 hx rfl, o1, o2]
          refine callD [] false [.fo (c.fv sw sp), .fo (.list false (ints w)), .fo (.int (i : Nat))] [] c56 ⟨rfl, rfl, rfl, trivial⟩ rfl (.inl rfl) ?_
          simp -implicitDefEqProofs only [go_sem, simprocAttr, u1, u2, r23, hwi]
          refine nxtL (m - (x - max 0 (c.L - gI (c.loo w) (i : Nat)))) ⟨(drop_tail hd).1, fun _ => by rw [em1]; omega⟩ ?_
          simp -implicitDefEqProofs only [go_sem, simprocAttr]
  · have hA0' : ¬ (0 : Int) < (A.length : Nat) := by omega
    rw [if_neg hA0] at hM
    have w1' : IntKind.i64.wrap (c.nd w + 0) = c.nd w + M := by rw [wr _ (by omega) (by omega)]; omega
    have w1'' : IntKind.i64.wrap (c.nd w) = c.nd w + M := by rw [wr _ (by omega) (by omega)]; omega
    simp -implicitDefEqProofs only [go_sem, simprocAttr, lenV_ls hA, List.length_map, hA0', w1', w1'']
    refine call1 [] false (c52) ?_
    simp -implicitDefEqProofs only [go_sem, simprocAttr]
    refine call1 [] false (c53) ?_
    simp -implicitDefEqProofs only [go_sem, simprocAttr]
    refine call1 [] false (c30) ?_
    simp -implicitDefEqProofs only [go_sem, simprocAttr, o1, o2]
    refine call1 [] false (c52) ?_
    simp -implicitDefEqProofs only [go_sem, simprocAttr]
    refine call1 [] false (c53) ?_
    simp -implicitDefEqProofs only [go_sem, simprocAttr, w2]
    refine call1 [] false (c30') ?_
    simp -implicitDefEqProofs only [go_sem, simprocAttr, lenV_ls (lsOf_lstN (ints r.1)), ints_length, rl1, rl2, o1, o2]
    refine call1 [] false (c55) ?_
    simp -implicitDefEqProofs only [go_sem, simprocAttr, r2b]
    by_cases hn1 : 1 < c.nd w
    · simp -implicitDefEqProofs only [go_sem, simprocAttr, hn1]
      refine call1 [] false (c52) ?_
      simp -implicitDefEqProofs only [go_sem, simprocAttr]
      refine call1 [] false (c53) ?_
      simp -implicitDefEqProofs only [go_sem, simprocAttr, w3]
      refine call1 [] false (c30n hn1) ?_
      simp -implicitDefEqProofs only [go_sem, simprocAttr, o1, o2]
      refine call1 [] false (c54) ?_
      simp -implicitDefEqProofs only [go_sem, simprocAttr, w4]
      refine lpL (β := Int) 140 [22, 23] 140 [] r.1 (by omega) (fun xs i m => r.1.drop i = xs ∧ (w.length ≠ 1 → m = sumI xs - clo c.L ((c.loo w).drop i))) (fun i m ρ h => ρ 23 = .fv (.int (i : Nat)) ∧ ρ 22 = .fv (.int m)) M ⟨rfl, fun h => by rcases hr with ⟨h1, _⟩ | ⟨_, g⟩; exact absurd h1 h; rw [g.sum, List.drop_zero]; omega⟩ ?_ ?_ ?_
      · simp -implicitDefEqProofs only [go_sem, simprocAttr]
      · rintro m ρ h ⟨_, em⟩ ⟨r23, r22⟩
        have nl : ¬ ((r.1.length : Int) < (r.1.length : Nat)) := by omega
        rcases hr with ⟨h1, e⟩ | ⟨h1, g⟩
        · have z : (((r.1.length : Nat) : Int) == 0) = true := by rw [e]; rfl
          simp -implicitDefEqProofs only [go_sem, simprocAttr, r23, lenV_ls hrl, ints_length, nl, z]
          refine call1 [] false (t17) ?_
          simp -implicitDefEqProofs only [go_sem, simprocAttr]
          exact ret_fv
        · have rl9 : r.1.length ≠ 0 := by omega
          have z : (((r.1.length : Nat) : Int) == 0) = false := by simpa using rl9
          have m0 : m = 0 := by rw [em h1, List.drop_of_length_le (by rw [g.len]; omega)]; rfl
          have z2 : (m != 0) = false := by simp [m0]
          simp -implicitDefEqProofs only [go_sem, simprocAttr, r23, r22, lenV_ls hrl, ints_length, nl, z, z2]
          have hall : c.nd w + M - c.wd w = clo c.L (c.loo w) + M := by omega
          have lml := c.loo_len w
          have glen : (gl c.L (c.loo w)).length = r.1.length := by rw [g.len]; simp [gl]
          have rne : 0 < r.1.length := by omega
          refine lpH 172 [24, 25, 26, 27, 28, 29] 172 [] (fun k : Nat => 2 - k) (fun k => k ≤ 2) (fun k ρ h => ρ 24 = .fv (.int (k : Nat))) 0 (by omega) ?_ ?_
          · simp -implicitDefEqProofs only [go_sem, simprocAttr]
          · rintro k ρ2 h2 hk r24
            by_cases k2 : k < 2
            · have k2' : (k : Int) < 2 := by omega
              have hwk : IntKind.i64.wrap ((k : Int) + 1) = ((k + 1 : Nat) : Int) := wr _ (by omega) (by omega)
              simp -implicitDefEqProofs only [go_sem, simprocAttr, r24, k2']
              refine lpH 177 [25, 26] 176 [] (fun i : Nat => r.1.length - i) (fun i => i ≤ r.1.length) (fun i ρ h => ρ 26 = .fv (.int (i : Nat)) ∧ ρ 25 = .gl 176 (h.gen 176) ∧ h.obj 176 = some (.list 3 1 false false (ints ((gl c.L (c.loo w)).take i)))) 0 (Nat.zero_le _) ?_ ?_
              · simp -implicitDefEqProofs only [go_sem, simprocAttr, List.take_zero, ints]
              · rintro i ρ3 h3 hi ⟨r26, r25, o176⟩
                by_cases hil : i < r.1.length
                · have hil' : (i : Int) < (r.1.length : Nat) := by omega
                  have hwi : IntKind.i64.wrap ((i : Int) + 1) = ((i + 1 : Nat) : Int) := wr _ (by omega) (by omega)
                  have c56 := t56 (i := i) v ok.rk wv (by omega)
                  have et : (gl c.L (c.loo w)).take (i + 1) = (gl c.L (c.loo w)).take i ++ [max 0 (c.L - gI (c.loo w) (i : Nat))] := by
                    have := gI_get (p := c.loo w) (i := (i : Int)) (by omega) (by omega)
                    rw [Int.toNat_natCast] at this
                    rw [List.take_add_one]
                    congr 1
                    simp [gl, this]
                  simp -implicitDefEqProofs only [go_sem, simprocAttr, r26, lenV_ls hrl, ints_length, hil', o1, o2]
                  refine call1 [] false (c56) ?_
                  simp -implicitDefEqProofs only [go_sem, simprocAttr, r25]
                  refine app_gl (by simp -implicitDefEqProofs only [go_sem, simprocAttr, o176]; rfl) idx_22 (by simp -implicitDefEqProofs only [go_sem, simprocAttr]; rfl) (by simp [FV.cells]) (by simp -implicitDefEqProofs only [go_sem, simprocAttr]) (by simp [byt_3, ints]; omega) (by simp [maxLen, ints]; omega) (by simp) ?_
                  simp -implicitDefEqProofs only [go_sem, simprocAttr, r26, hwi]
                  refine nxt (i + 1) (by omega) (by omega) ?_
                  simp -implicitDefEqProofs only [go_sem, simprocAttr, et, ints, List.map_append]
                · have hil' : ¬ (i : Int) < (r.1.length : Nat) := by omega
                  rw [List.take_of_length_le (by omega)] at o176
                  simp -implicitDefEqProofs only [go_sem, simprocAttr, r26, lenV_ls hrl, ints_length, hil']
                  refine lpH 190 [27, 28] 176 [] (fun a : Nat × List Int => (M - (a.1 : Int)).toNat) (fun a => (a.1 : Int) ≤ M ∧ Gp (c.loo w) c.L (a.1 : Int) a.2) (fun a ρ h => ρ 27 = .fv (.int (a.1 : Nat)) ∧ h.gen 176 = h3.gen 176 ∧ h.obj 176 = some (.list 3 1 false false (ints a.2))) (0, gl c.L (c.loo w)) ⟨by simp only; omega, gl_Gp _ _⟩ ?_ ?_
                  · simp -implicitDefEqProofs only [go_sem, simprocAttr, o176]
                  · rintro ⟨n, x⟩ ρ4 h4 ⟨hn, hx⟩ ⟨r27, g176, o176'⟩
                    dsimp only at hn hx r27 o176'
                    by_cases hnM : (n : Int) < M
                    · have hnM' : (n : Int) < 0 := by omega
                      have hwn : IntKind.i64.wrap ((n : Int) + 1) = ((n + 1 : Nat) : Int) := wr _ (by omega) (by omega)
                      have xl : x.length = r.1.length := by rw [hx.len, g.len]
                      have xlz : ¬ ((x.length : Int) = 0) := by omega
                      by_cases hk1 : k = 1
                      · by_cases hB0 : 0 < B.length
                        · have hB0' : (0 : Int) < (B.length : Nat) := by omega
                          have hk1' : ((k : Int) == 1) = true := by simp [hk1]
                          have hBz : ¬ ((B.length : Int) = 0) := by omega
                          obtain ⟨t0, t1⟩ := tm_bd (show (0 : Int) ≤ (n : Nat) by omega) hB0'
                          obtain ⟨u, hu⟩ : ∃ u : Nat, (n : Int).tmod (B.length : Nat) = (u : Nat) := ⟨((n : Int).tmod (B.length : Nat)).toNat, by omega⟩
                          rw [hu] at t0 t1
                          obtain ⟨y, hy⟩ : ∃ y, B[u]? = some y := ⟨_, List.getElem?_eq_getElem (by omega)⟩
                          have by_ := bB y (List.mem_of_getElem? hy)
                          have wy : IntKind.i64.wrap y = y := wr _ (by omega) (by omega)
                          simp -implicitDefEqProofs only [go_sem, simprocAttr, r27, hnM', r24, hk1', lenV_ls hB, List.length_map, hB0', hBz, hu, index_map hB idx_82 hy rfl, u8, wy]
                          have z0 := by_.1
                          obtain ⟨t2, t3⟩ := tm_bd z0 (show (0 : Int) < (x.length : Nat) by omega)
                          obtain ⟨j, hj⟩ : ∃ j : Nat, Int.tmod y (x.length : Nat) = (j : Nat) := ⟨(Int.tmod y (x.length : Nat)).toNat, by omega⟩
                          rw [hj] at t2 t3
                          have gz := ints_getJ (l := x) (i := j) (by omega)
                          have gx2 := (sum_ge hx.looks.2).2 (gI x (j : Nat)) (by have := gI_get (p := x) (i := (j : Int)) (by omega) (by omega); exact List.mem_of_getElem? this)
                          have gx3 := hx.looks.2 (gI x (j : Nat)) (by have := gI_get (p := x) (i := (j : Int)) (by omega) (by omega); exact List.mem_of_getElem? this)
                          rw [hx.sum] at gx2
                          have wgz : IntKind.i64.wrap (gI x (j : Nat) + 1) = gI x (j : Nat) + 1 := wr _ (by omega) (by omega)
                          simp -implicitDefEqProofs only [go_sem, simprocAttr, r25, g176, o176', ints_length, xlz, hj, t2, t3, gz, wgz, Int.toNat_natCast]
                          refine sto_elem (by rfl) (by rfl) (by rfl) (by simp -implicitDefEqProofs only [go_sem, simprocAttr, g176, o176']; rfl) gz (by decide) ?_
                          simp -implicitDefEqProofs only [go_sem, simprocAttr, FV.withCells, ints_set, r27, hwn]
                          refine nxt (n + 1, x.set j (gI x (j : Nat) + 1)) (by simp only; omega) ⟨by simp only; omega, by have := hx.inc (i := j) (by rw [← hx.len]; omega); simpa using this⟩ ?_
                          simp -implicitDefEqProofs only [go_sem, simprocAttr, g176]
                        · have hB0' : ¬ (0 : Int) < (B.length : Nat) := by omega
                          have hk1' : ((k : Int) == 1) = true := by simp [hk1]
                          simp -implicitDefEqProofs only [go_sem, simprocAttr, r27, hnM', r24, hk1', lenV_ls hB, List.length_map, hB0']
                          have z0 : (0 : Int) ≤ (n : Nat) := by omega
                          obtain ⟨t2, t3⟩ := tm_bd z0 (show (0 : Int) < (x.length : Nat) by omega)
                          obtain ⟨j, hj⟩ : ∃ j : Nat, Int.tmod (n : Int) (x.length : Nat) = (j : Nat) := ⟨(Int.tmod (n : Int) (x.length : Nat)).toNat, by omega⟩
                          rw [hj] at t2 t3
                          have gz := ints_getJ (l := x) (i := j) (by omega)
                          have gx2 := (sum_ge hx.looks.2).2 (gI x (j : Nat)) (by have := gI_get (p := x) (i := (j : Int)) (by omega) (by omega); exact List.mem_of_getElem? this)
                          have gx3 := hx.looks.2 (gI x (j : Nat)) (by have := gI_get (p := x) (i := (j : Int)) (by omega) (by omega); exact List.mem_of_getElem? this)
                          rw [hx.sum] at gx2
                          have wgz : IntKind.i64.wrap (gI x (j : Nat) + 1) = gI x (j : Nat) + 1 := wr _ (by omega) (by omega)
                          simp -implicitDefEqProofs only [go_sem, simprocAttr, r25, g176, o176', ints_length, xlz, hj, t2, t3, gz, wgz, Int.toNat_natCast]
                          refine sto_elem (by rfl) (by rfl) (by rfl) (by simp -implicitDefEqProofs only [go_sem, simprocAttr, g176, o176']; rfl) gz (by decide) ?_
                          simp -implicitDefEqProofs only [go_sem, simprocAttr, FV.withCells, ints_set, r27, hwn]
                          refine nxt (n + 1, x.set j (gI x (j : Nat) + 1)) (by simp only; omega) ⟨by simp only; omega, by have := hx.inc (i := j) (by rw [← hx.len]; omega); simpa using this⟩ ?_
                          simp -implicitDefEqProofs only [go_sem, simprocAttr, g176]
                      · have hk1' : ((k : Int) == 1) = false := by simp; omega
                        simp -implicitDefEqProofs only [go_sem, simprocAttr, r27, hnM', r24, hk1']
                        have z0 : (0 : Int) ≤ (n : Nat) := by omega
                        obtain ⟨t2, t3⟩ := tm_bd z0 (show (0 : Int) < (x.length : Nat) by omega)
                        obtain ⟨j, hj⟩ : ∃ j : Nat, Int.tmod (n : Int) (x.length : Nat) = (j : Nat) := ⟨(Int.tmod (n : Int) (x.length : Nat)).toNat, by omega⟩
                        rw [hj] at t2 t3
                        have gz := ints_getJ (l := x) (i := j) (by omega)
                        have gx2 := (sum_ge hx.looks.2).2 (gI x (j : Nat)) (by have := gI_get (p := x) (i := (j : Int)) (by omega) (by omega); exact List.mem_of_getElem? this)
                        have gx3 := hx.looks.2 (gI x (j : Nat)) (by have := gI_get (p := x) (i := (j : Int)) (by omega) (by omega); exact List.mem_of_getElem? this)
                        rw [hx.sum] at gx2
                        have wgz : IntKind.i64.wrap (gI x (j : Nat) + 1) = gI x (j : Nat) + 1 := wr _ (by omega) (by omega)
                        simp -implicitDefEqProofs only [go_sem, simprocAttr, r25, g176, o176', ints_length, xlz, hj, t2, t3, gz, wgz, Int.toNat_natCast]
                        refine sto_elem (by rfl) (by rfl) (by rfl) (by simp -implicitDefEqProofs only [go_sem, simprocAttr, g176, o176']; rfl) gz (by decide) ?_
                        simp -implicitDefEqProofs only [go_sem, simprocAttr, FV.withCells, ints_set, r27, hwn]
                        refine nxt (n + 1, x.set j (gI x (j : Nat) + 1)) (by simp only; omega) ⟨by simp only; omega, by have := hx.inc (i := j) (by rw [← hx.len]; omega); simpa using this⟩ ?_
                        simp -implicitDefEqProofs only [go_sem, simprocAttr, g176]
                    · have hnM' : ¬ (n : Int) < 0 := by omega
                      have hnM2 : (n : Int) = M := by omega
                      rw [hnM2] at hx
                      have xl : x.length = r.1.length := by rw [hx.len, g.len]
                      have xb : ∀ y ∈ x, 0 ≤ y ∧ y ≤ 400 := fun y hy => by
                        have h1 := hx.looks.2 y hy
                        have h2 := (sum_ge hx.looks.2).2 y hy
                        rw [hx.sum] at h2
                        omega
                      have c55x := t55 (sg := .list false (ints x)) v ok.rk wv rfl (by omega) (fun y hy => by have := xb y hy; omega)
                      obtain ⟨bst1, bst2⟩ := g.best x hx.len hx.looks.1 hx.looks.2 (by rw [hx.sum, hall])
                      rw [← Cs.lk] at bst1 bst2
                      generalize hS : sprF (c.lk w x) = S at *
                      have nlt : ¬ S < r.2 := by omega
                      by_cases hSe : S = r.2
                      · have hSe' : (S == r.2) = true := by simpa using hSe
                        have c57 := t57 (sa := .list false (ints x)) (sb := lstN (ints r.1)) (a := x) (b := r.1) rfl hrl xl (by omega)
                        rw [decide_eq_false (bst2 hSe)] at c57
                        simp -implicitDefEqProofs only [go_sem, simprocAttr, r27, hnM', r25, g176, o176', o1, o2]
                        refine call0 [176] false c55x (by simp -implicitDefEqProofs only [go_sem, simprocAttr, lstN, ints, g176, o176']) (.inl rfl) ?_
                        simp -implicitDefEqProofs only [go_sem, simprocAttr, nlt, hSe', g176, o176', r25]
                        refine call0 [176] false c57 (by simp -implicitDefEqProofs only [go_sem, simprocAttr, lstN, ints, g176, o176']) (.inl rfl) ?_
                        simp -implicitDefEqProofs only [go_sem, simprocAttr, r24, hwk]
                        refine nxt (k + 1) (by omega) (by omega) ?_
                        simp -implicitDefEqProofs only [go_sem, simprocAttr]
                      · have hSe' : (S == r.2) = false := by simpa using hSe
                        simp -implicitDefEqProofs only [go_sem, simprocAttr, r27, hnM', r25, g176, o176', o1, o2]
                        refine call0 [176] false c55x (by simp -implicitDefEqProofs only [go_sem, simprocAttr, lstN, ints, g176, o176']) (.inl rfl) ?_
                        simp -implicitDefEqProofs only [go_sem, simprocAttr, nlt, hSe', g176, o176', r25, r24, hwk]
                        refine nxt (k + 1) (by omega) (by omega) ?_
                        simp -implicitDefEqProofs only [go_sem, simprocAttr]
            · have k2' : ¬ (k : Int) < 2 := by omega
              simp -implicitDefEqProofs only [go_sem, simprocAttr, r24, k2']
              have eL : errL c w r.1 = 0 := by
                unfold errL
                rw [if_neg (by simp [eO]), if_neg]
                rw [Bool.not_eq_false]
                unfold gapsB
                rw [Bool.and_eq_true]
                exact ⟨by simpa using rl0, List.all_eq_true.2 fun y hy => inB_ok (rb y hy).1 (rb y hy).2⟩
              have c53r := t53 hrl (by omega)
              have c21 := t21 (sg := .list false (ints r.1)) (g := r.1) v' hs (by omega) rfl (by omega)
              rw [eL, if_pos rfl, if_pos rfl, r2] at c21
              have lkl : (c.lk w r.1).length = r.1.length := lks_len _ _ g.len
              have lkz : (((c.lk w r.1).length : Int) != (r.1.length : Nat)) = false := by simp [lkl]
              have hlk := lsOf_lstN (ints (c.lk w r.1))
              refine call1 [] false (c52) ?_
              simp -implicitDefEqProofs only [go_sem, simprocAttr]
              refine call1 [] false (c53) ?_
              simp -implicitDefEqProofs only [go_sem, simprocAttr]
              refine call1 [] false (c53r) ?_
              simp -implicitDefEqProofs only [go_sem, simprocAttr]
              refine call1 [] false (c21) ?_
              simp -implicitDefEqProofs only [go_sem, simprocAttr, lenV_ls hlk, lenV_ls hrl, ints_length, lkz, r2b]
              refine lpH 265 [33] 265 [] (fun k : Nat => r.1.length - k) (fun k => k ≤ r.1.length) (fun k ρ h => ρ 33 = .fv (.int (k : Nat))) 0 (Nat.zero_le _) ?_ ?_
              · simp -implicitDefEqProofs only [go_sem, simprocAttr]
              · rintro j ρ3 h3 hj r33
                by_cases hjl : j < r.1.length
                · have hjl' : (j : Int) < ((c.lk w r.1).length : Nat) := by omega
                  have hwj : IntKind.i64.wrap ((j : Int) + 1) = ((j + 1 : Nat) : Int) := wr _ (by omega) (by omega)
                  obtain ⟨x, hx⟩ : ∃ x, r.1[j]? = some x := ⟨_, List.getElem?_eq_getElem hjl⟩
                  have hlx := lks_at (c.loo w) r.1 j g.len x hx
                  rw [← Cs.lk] at hlx
                  have hLx := g.ge _ (List.mem_of_getElem? hlx)
                  have hnL : ¬ x + gI (c.loo w) (j : Nat) < c.L := by omega
                  have xb := rb x (List.mem_of_getElem? hx)
                  have c58 := t58 (i := j) (g := x) v ok.rk wv (by omega) (by omega) (by omega)
                  have zz : (x + gI (c.loo w) (j : Nat) != x + gI (c.loo w) (j : Nat)) = false := by simp
                  simp -implicitDefEqProofs only [go_sem, simprocAttr, r33, lenV_ls hlk, ints_length, hjl']
                  refine W_opsD _ _ _ (Vs []) ?_ ?_
                  · decide
                  simp -implicitDefEqProofs only [go_sem, simprocAttr, r33, index_map hlk idx_22 hlx rfl, index_map hrl idx_22 hx rfl, o1, o2]
                  refine callD [] false [.fo (c.fv sw sp), .fo (.list false (ints w)), .fo (.int (j : Nat)), .fo (.int x)] [] c58 ⟨rfl, rfl, rfl, rfl, trivial⟩ rfl (.inl rfl) ?_
                  simp -implicitDefEqProofs only [go_sem, simprocAttr, zz, r33, index_map hlk idx_22 hlx rfl, hnL, hwj]
                  refine nxt (j + 1) (by omega) (by omega) ?_
                  simp -implicitDefEqProofs only [go_sem, simprocAttr]
                · have hjl' : ¬ (j : Int) < ((c.lk w r.1).length : Nat) := by omega
                  simp -implicitDefEqProofs only [go_sem, simprocAttr, r33, lenV_ls hlk, ints_length, hjl']
                  refine call1 [] false (t17) ?_
                  simp -implicitDefEqProofs only [go_sem, simprocAttr]
                  exact ret_fv
      · rintro x xs i m ρ h hx hi hm hi' hwi ⟨hd, em⟩ ⟨r23, r22⟩
        rcases hr with ⟨h1, e⟩ | ⟨h1, g⟩
        · rw [e] at hi; simp at hi
        · have lg := loo_gI ok.rk w i
          have ilm : i < (c.loo w).length := by rw [← g.len]; exact hi
          have l0 := ok.l0
          have hxl := rb x hm
          have hge : ¬ x < max 0 (c.L - gI (c.loo w) (i : Nat)) := by
            have := g.ge _ (List.mem_of_getElem? (lks_at (c.loo w) r.1 i g.len x hx))
            omega
          have c56 := t56 (i := i) v ok.rk wv (by have := c.loo_len w; omega)
          have em1 := em h1
          have hdl : (c.loo w).drop i = gI (c.loo w) (i : Nat) :: (c.loo w).drop (i + 1) := by
            have := gI_get (p := c.loo w) (i := (i : Int)) (by omega) (by omega)
            rw [Int.toNat_natCast] at this
            exact drop_get this
          have sx := sum_ge (x := xs) fun y hy => by have := rb y (List.mem_of_mem_drop (hd ▸ (List.mem_cons_of_mem _ hy))); omega
          have sx2 := (sum_ge g.nn).1
          have clb := clo_5 ok.l0 T.l ((c.loo w).drop (i + 1)) (fun z hz => ok.loo w z (List.mem_of_mem_drop hz))
          rw [List.length_drop, c.loo_len] at clb
          have sxb : sumI xs ≤ 400 * xs.length := by
            have hxs : ∀ y ∈ xs, y ≤ 400 := fun y hy => (rb y (List.mem_of_mem_drop (hd ▸ (List.mem_cons_of_mem _ hy)))).2
            clear em1 em sx hd
            induction xs with
            | nil => simp [sumI]
            | cons y ys ih =>
              have := ih fun z hz => hxs z (by simp [hz])
              have := hxs y (by simp)
              simp only [sumI, List.length_cons]; omega
          have lxs : xs.length ≤ 7 := by have := congrArg List.length hd; simp at this; omega
          rw [hdl] at em1
          simp only [sumI, clo] at em1
          have u1 : IntKind.i64.wrap (x - max 0 (c.L - gI (c.loo w) (i : Nat))) = x - max 0 (c.L - gI (c.loo w) (i : Nat)) := wr _ (by omega) (by omega)
          have u2 : IntKind.i64.wrap (m - (x - max 0 (c.L - gI (c.loo w) (i : Nat)))) = m - (x - max 0 (c.L - gI (c.loo w) (i : Nat))) := wr _ (by omega) (by omega)
          simp -implicitDefEqProofs only [go_sem, simprocAttr, r23, lenV_ls hrl, ints_length, hi']
          refine W_opsD _ _ _ (Vs []) ?_ ?_
          · decide
          simp -implicitDefEqProofs only [go_sem, simprocAttr, r23, index_map hrl idx_22 hx rfl, o1, o2]
          refine callD [] false [.fo (c.fv sw sp), .fo (.list false (ints w)), .fo (.int (i : Nat))] [] c56 ⟨rfl, rfl, rfl, trivial⟩ rfl (.inl rfl) ?_
          simp -implicitDefEqProofs only [go_sem, simprocAttr, hge]
          refine W_opsD _ _ _ (Vs []) ?_ ?_
          · decide
          simp -implicitDefEqProofs only [go_sem, simprocAttr, r23, r22, index_map hrl idx_22 hx rfl, o1, o2]
          refine callD [] false [.fo (c.fv sw sp), .fo (.list false (ints w)), .fo (.int (i : Nat))] [] c56 ⟨rfl, rfl, rfl, trivial⟩ rfl (.inl rfl) ?_
          simp -implicitDefEqProofs only [go_sem, simprocAttr, u1, u2, r23, hwi]
          refine nxtL (m - (x - max 0 (c.L - gI (c.loo w) (i : Nat)))) ⟨(drop_tail hd).1, fun _ => by rw [em1]; omega⟩ ?_
          simp -implicitDefEqProofs only [go_sem, simprocAttr]
    · simp -implicitDefEqProofs only [go_sem, simprocAttr, hn1, o1, o2]
      refine call1 [] false (c54) ?_
      simp -implicitDefEqProofs only [go_sem, simprocAttr, w4]
      refine lpL (β := Int) 140 [22, 23] 140 [] r.1 (by omega) (fun xs i m => r.1.drop i = xs ∧ (w.length ≠ 1 → m = sumI xs - clo c.L ((c.loo w).drop i))) (fun i m ρ h => ρ 23 = .fv (.int (i : Nat)) ∧ ρ 22 = .fv (.int m)) M ⟨rfl, fun h => by rcases hr with ⟨h1, _⟩ | ⟨_, g⟩; exact absurd h1 h; rw [g.sum, List.drop_zero]; omega⟩ ?_ ?_ ?_
      · simp -implicitDefEqProofs only [go_sem, simprocAttr]
      · rintro m ρ h ⟨_, em⟩ ⟨r23, r22⟩
        have nl : ¬ ((r.1.length : Int) < (r.1.length : Nat)) := by omega
        rcases hr with ⟨h1, e⟩ | ⟨h1, g⟩
        · have z : (((r.1.length : Nat) : Int) == 0) = true := by rw [e]; rfl
          simp -implicitDefEqProofs only [go_sem, simprocAttr, r23, lenV_ls hrl, ints_length, nl, z]
          refine call1 [] false (t17) ?_
          simp -implicitDefEqProofs only [go_sem, simprocAttr]
          exact ret_fv
        · have rl9 : r.1.length ≠ 0 := by omega
          have z : (((r.1.length : Nat) : Int) == 0) = false := by simpa using rl9
          have m0 : m = 0 := by rw [em h1, List.drop_of_length_le (by rw [g.len]; omega)]; rfl
          have z2 : (m != 0) = false := by simp [m0]
          simp -implicitDefEqProofs only [go_sem, simprocAttr, r23, r22, lenV_ls hrl, ints_length, nl, z, z2]
          have hall : c.nd w + M - c.wd w = clo c.L (c.loo w) + M := by omega
          have lml := c.loo_len w
          have glen : (gl c.L (c.loo w)).length = r.1.length := by rw [g.len]; simp [gl]
          have rne : 0 < r.1.length := by omega
          refine lpH 172 [24, 25, 26, 27, 28, 29] 172 [] (fun k : Nat => 2 - k) (fun k => k ≤ 2) (fun k ρ h => ρ 24 = .fv (.int (k : Nat))) 0 (by omega) ?_ ?_
          · simp -implicitDefEqProofs only [go_sem, simprocAttr]
          · rintro k ρ2 h2 hk r24
            by_cases k2 : k < 2
            · have k2' : (k : Int) < 2 := by omega
              have hwk : IntKind.i64.wrap ((k : Int) + 1) = ((k + 1 : Nat) : Int) := wr _ (by omega) (by omega)
              simp -implicitDefEqProofs only [go_sem, simprocAttr, r24, k2']
              refine lpH 177 [25, 26] 176 [] (fun i : Nat => r.1.length - i) (fun i => i ≤ r.1.length) (fun i ρ h => ρ 26 = .fv (.int (i : Nat)) ∧ ρ 25 = .gl 176 (h.gen 176) ∧ h.obj 176 = some (.list 3 1 false false (ints ((gl c.L (c.loo w)).take i)))) 0 (Nat.zero_le _) ?_ ?_
              · simp -implicitDefEqProofs only [go_sem, simprocAttr, List.take_zero, ints]
              · rintro i ρ3 h3 hi ⟨r26, r25, o176⟩
                by_cases hil : i < r.1.length
                · have hil' : (i : Int) < (r.1.length : Nat) := by omega
                  have hwi : IntKind.i64.wrap ((i : Int) + 1) = ((i + 1 : Nat) : Int) := wr _ (by omega) (by omega)
                  have c56 := t56 (i := i) v ok.rk wv (by omega)
                  have et : (gl c.L (c.loo w)).take (i + 1) = (gl c.L (c.loo w)).take i ++ [max 0 (c.L - gI (c.loo w) (i : Nat))] := by
                    have := gI_get (p := c.loo w) (i := (i : Int)) (by omega) (by omega)
                    rw [Int.toNat_natCast] at this
                    rw [List.take_add_one]
                    congr 1
                    simp [gl, this]
                  simp -implicitDefEqProofs only [go_sem, simprocAttr, r26, lenV_ls hrl, ints_length, hil', o1, o2]
                  refine call1 [] false (c56) ?_
                  simp -implicitDefEqProofs only [go_sem, simprocAttr, r25]
                  refine app_gl (by simp -implicitDefEqProofs only [go_sem, simprocAttr, o176]; rfl) idx_22 (by simp -implicitDefEqProofs only [go_sem, simprocAttr]; rfl) (by simp [FV.cells]) (by simp -implicitDefEqProofs only [go_sem, simprocAttr]) (by simp [byt_3, ints]; omega) (by simp [maxLen, ints]; omega) (by simp) ?_
                  simp -implicitDefEqProofs only [go_sem, simprocAttr, r26, hwi]
                  refine nxt (i + 1) (by omega) (by omega) ?_
                  simp -implicitDefEqProofs only [go_sem, simprocAttr, et, ints, List.map_append]
                · have hil' : ¬ (i : Int) < (r.1.length : Nat) := by omega
                  rw [List.take_of_length_le (by omega)] at o176
                  simp -implicitDefEqProofs only [go_sem, simprocAttr, r26, lenV_ls hrl, ints_length, hil']
                  refine lpH 190 [27, 28] 176 [] (fun a : Nat × List Int => (M - (a.1 : Int)).toNat) (fun a => (a.1 : Int) ≤ M ∧ Gp (c.loo w) c.L (a.1 : Int) a.2) (fun a ρ h => ρ 27 = .fv (.int (a.1 : Nat)) ∧ h.gen 176 = h3.gen 176 ∧ h.obj 176 = some (.list 3 1 false false (ints a.2))) (0, gl c.L (c.loo w)) ⟨by simp only; omega, gl_Gp _ _⟩ ?_ ?_
                  · simp -implicitDefEqProofs only [go_sem, simprocAttr, o176]
                  · rintro ⟨n, x⟩ ρ4 h4 ⟨hn, hx⟩ ⟨r27, g176, o176'⟩
                    dsimp only at hn hx r27 o176'
                    by_cases hnM : (n : Int) < M
                    · have hnM' : (n : Int) < 0 := by omega
                      have hwn : IntKind.i64.wrap ((n : Int) + 1) = ((n + 1 : Nat) : Int) := wr _ (by omega) (by omega)
                      have xl : x.length = r.1.length := by rw [hx.len, g.len]
                      have xlz : ¬ ((x.length : Int) = 0) := by omega
                      by_cases hk1 : k = 1
                      · by_cases hB0 : 0 < B.length
                        · have hB0' : (0 : Int) < (B.length : Nat) := by omega
                          have hk1' : ((k : Int) == 1) = true := by simp [hk1]
                          have hBz : ¬ ((B.length : Int) = 0) := by omega
                          obtain ⟨t0, t1⟩ := tm_bd (show (0 : Int) ≤ (n : Nat) by omega) hB0'
                          obtain ⟨u, hu⟩ : ∃ u : Nat, (n : Int).tmod (B.length : Nat) = (u : Nat) := ⟨((n : Int).tmod (B.length : Nat)).toNat, by omega⟩
                          rw [hu] at t0 t1
                          obtain ⟨y, hy⟩ : ∃ y, B[u]? = some y := ⟨_, List.getElem?_eq_getElem (by omega)⟩
                          have by_ := bB y (List.mem_of_getElem? hy)
                          have wy : IntKind.i64.wrap y = y := wr _ (by omega) (by omega)
                          simp -implicitDefEqProofs only [go_sem, simprocAttr, r27, hnM', r24, hk1', lenV_ls hB, List.length_map, hB0', hBz, hu, index_map hB idx_82 hy rfl, u8, wy]
                          have z0 := by_.1
                          obtain ⟨t2, t3⟩ := tm_bd z0 (show (0 : Int) < (x.length : Nat) by omega)
                          obtain ⟨j, hj⟩ : ∃ j : Nat, Int.tmod y (x.length : Nat) = (j : Nat) := ⟨(Int.tmod y (x.length : Nat)).toNat, by omega⟩
                          rw [hj] at t2 t3
                          have gz := ints_getJ (l := x) (i := j) (by omega)
                          have gx2 := (sum_ge hx.looks.2).2 (gI x (j : Nat)) (by have := gI_get (p := x) (i := (j : Int)) (by omega) (by omega); exact List.mem_of_getElem? this)
                          have gx3 := hx.looks.2 (gI x (j : Nat)) (by have := gI_get (p := x) (i := (j : Int)) (by omega) (by omega); exact List.mem_of_getElem? this)
                          rw [hx.sum] at gx2
                          have wgz : IntKind.i64.wrap (gI x (j : Nat) + 1) = gI x (j : Nat) + 1 := wr _ (by omega) (by omega)
                          simp -implicitDefEqProofs only [go_sem, simprocAttr, r25, g176, o176', ints_length, xlz, hj, t2, t3, gz, wgz, Int.toNat_natCast]
                          refine sto_elem (by rfl) (by rfl) (by rfl) (by simp -implicitDefEqProofs only [go_sem, simprocAttr, g176, o176']; rfl) gz (by decide) ?_
                          simp -implicitDefEqProofs only [go_sem, simprocAttr, FV.withCells, ints_set, r27, hwn]
                          refine nxt (n + 1, x.set j (gI x (j : Nat) + 1)) (by simp only; omega) ⟨by simp only; omega, by have := hx.inc (i := j) (by rw [← hx.len]; omega); simpa using this⟩ ?_
                          simp -implicitDefEqProofs only [go_sem, simprocAttr, g176]
                        · have hB0' : ¬ (0 : Int) < (B.length : Nat) := by omega
                          have hk1' : ((k : Int) == 1) = true := by simp [hk1]
                          simp -implicitDefEqProofs only [go_sem, simprocAttr, r27, hnM', r24, hk1', lenV_ls hB, List.length_map, hB0']
                          have z0 : (0 : Int) ≤ (n : Nat) := by omega
                          obtain ⟨t2, t3⟩ := tm_bd z0 (show (0 : Int) < (x.length : Nat) by omega)
                          obtain ⟨j, hj⟩ : ∃ j : Nat, Int.tmod (n : Int) (x.length : Nat) = (j : Nat) := ⟨(Int.tmod (n : Int) (x.length : Nat)).toNat, by omega⟩
                          rw [hj] at t2 t3
                          have gz := ints_getJ (l := x) (i := j) (by omega)
                          have gx2 := (sum_ge hx.looks.2).2 (gI x (j : Nat)) (by have := gI_get (p := x) (i := (j : Int)) (by omega) (by omega); exact List.mem_of_getElem? this)
                          have gx3 := hx.looks.2 (gI x (j : Nat)) (by have := gI_get (p := x) (i := (j : Int)) (by omega) (by omega); exact List.mem_of_getElem? this)
                          rw [hx.sum] at gx2
                          have wgz : IntKind.i64.wrap (gI x (j : Nat) + 1) = gI x (j : Nat) + 1 := wr _ (by omega) (by omega)
                          simp -implicitDefEqProofs only [go_sem, simprocAttr, r25, g176, o176', ints_length, xlz, hj, t2, t3, gz, wgz, Int.toNat_natCast]
                          refine sto_elem (by rfl) (by rfl) (by rfl) (by simp -implicitDefEqProofs only [go_sem, simprocAttr, g176, o176']; rfl) gz (by decide) ?_
                          simp -implicitDefEqProofs only [go_sem, simprocAttr, FV.withCells, ints_set, r27, hwn]
                          refine nxt (n + 1, x.set j (gI x (j : Nat) + 1)) (by simp only; omega) ⟨by simp only; omega, by have := hx.inc (i := j) (by rw [← hx.len]; omega); simpa using this⟩ ?_
                          simp -implicitDefEqProofs only [go_sem, simprocAttr, g176]
                      · have hk1' : ((k : Int) == 1) = false := by simp; omega
                        simp -implicitDefEqProofs only [go_sem, simprocAttr, r27, hnM', r24, hk1']
                        have z0 : (0 : Int) ≤ (n : Nat) := by omega
                        obtain ⟨t2, t3⟩ := tm_bd z0 (show (0 : Int) < (x.length : Nat) by omega)
                        obtain ⟨j, hj⟩ : ∃ j : Nat, Int.tmod (n : Int) (x.length : Nat) = (j : Nat) := ⟨(Int.tmod (n : Int) (x.length : Nat)).toNat, by omega⟩
                        rw [hj] at t2 t3
                        have gz := ints_getJ (l := x) (i := j) (by omega)
                        have gx2 := (sum_ge hx.looks.2).2 (gI x (j : Nat)) (by have := gI_get (p := x) (i := (j : Int)) (by omega) (by omega); exact List.mem_of_getElem? this)
                        have gx3 := hx.looks.2 (gI x (j : Nat)) (by have := gI_get (p := x) (i := (j : Int)) (by omega) (by omega); exact List.mem_of_getElem? this)
                        rw [hx.sum] at gx2
                        have wgz : IntKind.i64.wrap (gI x (j : Nat) + 1) = gI x (j : Nat) + 1 := wr _ (by omega) (by omega)
                        simp -implicitDefEqProofs only [go_sem, simprocAttr, r25, g176, o176', ints_length, xlz, hj, t2, t3, gz, wgz, Int.toNat_natCast]
                        refine sto_elem (by rfl) (by rfl) (by rfl) (by simp -implicitDefEqProofs only [go_sem, simprocAttr, g176, o176']; rfl) gz (by decide) ?_
                        simp -implicitDefEqProofs only [go_sem, simprocAttr, FV.withCells, ints_set, r27, hwn]
                        refine nxt (n + 1, x.set j (gI x (j : Nat) + 1)) (by simp only; omega) ⟨by simp only; omega, by have := hx.inc (i := j) (by rw [← hx.len]; omega); simpa using this⟩ ?_
                        simp -implicitDefEqProofs only [go_sem, simprocAttr, g176]
                    · have hnM' : ¬ (n : Int) < 0 := by omega
                      have hnM2 : (n : Int) = M := by omega
                      rw [hnM2] at hx
                      have xl : x.length = r.1.length := by rw [hx.len, g.len]
                      have xb : ∀ y ∈ x, 0 ≤ y ∧ y ≤ 400 := fun y hy => by
                        have h1 := hx.looks.2 y hy
                        have h2 := (sum_ge hx.looks.2).2 y hy
                        rw [hx.sum] at h2
                        omega
                      have c55x := t55 (sg := .list false (ints x)) v ok.rk wv rfl (by omega) (fun y hy => by have := xb y hy; omega)
                      obtain ⟨bst1, bst2⟩ := g.best x hx.len hx.looks.1 hx.looks.2 (by rw [hx.sum, hall])
                      rw [← Cs.lk] at bst1 bst2
                      generalize hS : sprF (c.lk w x) = S at *
                      have nlt : ¬ S < r.2 := by omega
                      by_cases hSe : S = r.2
                      · have hSe' : (S == r.2) = true := by simpa using hSe
                        have c57 := t57 (sa := .list false (ints x)) (sb := lstN (ints r.1)) (a := x) (b := r.1) rfl hrl xl (by omega)
                        rw [decide_eq_false (bst2 hSe)] at c57
                        simp -implicitDefEqProofs only [go_sem, simprocAttr, r27, hnM', r25, g176, o176', o1, o2]
                        refine call0 [176] false c55x (by simp -implicitDefEqProofs only [go_sem, simprocAttr, lstN, ints, g176, o176']) (.inl rfl) ?_
                        simp -implicitDefEqProofs only [go_sem, simprocAttr, nlt, hSe', g176, o176', r25]
                        refine call0 [176] false c57 (by simp -implicitDefEqProofs only [go_sem, simprocAttr, lstN, ints, g176, o176']) (.inl rfl) ?_
                        simp -implicitDefEqProofs only [go_sem, simprocAttr, r24, hwk]
                        refine nxt (k + 1) (by omega) (by omega) ?_
                        simp -implicitDefEqProofs only [go_sem, simprocAttr]
                      · have hSe' : (S == r.2) = false := by simpa using hSe
                        simp -implicitDefEqProofs only [go_sem, simprocAttr, r27, hnM', r25, g176, o176', o1, o2]
                        refine call0 [176] false c55x (by simp -implicitDefEqProofs only [go_sem, simprocAttr, lstN, ints, g176, o176']) (.inl rfl) ?_
                        simp -implicitDefEqProofs only [go_sem, simprocAttr, nlt, hSe', g176, o176', r25, r24, hwk]
                        refine nxt (k + 1) (by omega) (by omega) ?_
                        simp -implicitDefEqProofs only [go_sem, simprocAttr]
            · have k2' : ¬ (k : Int) < 2 := by omega
              simp -implicitDefEqProofs only [go_sem, simprocAttr, r24, k2']
              have eL : errL c w r.1 = 0 := by
                unfold errL
                rw [if_neg (by simp [eO]), if_neg]
                rw [Bool.not_eq_false]
                unfold gapsB
                rw [Bool.and_eq_true]
                exact ⟨by simpa using rl0, List.all_eq_true.2 fun y hy => inB_ok (rb y hy).1 (rb y hy).2⟩
              have c53r := t53 hrl (by omega)
              have c21 := t21 (sg := .list false (ints r.1)) (g := r.1) v' hs (by omega) rfl (by omega)
              rw [eL, if_pos rfl, if_pos rfl, r2] at c21
              have lkl : (c.lk w r.1).length = r.1.length := lks_len _ _ g.len
              have lkz : (((c.lk w r.1).length : Int) != (r.1.length : Nat)) = false := by simp [lkl]
              have hlk := lsOf_lstN (ints (c.lk w r.1))
              refine call1 [] false (c52) ?_
              simp -implicitDefEqProofs only [go_sem, simprocAttr]
              refine call1 [] false (c53) ?_
              simp -implicitDefEqProofs only [go_sem, simprocAttr]
              refine call1 [] false (c53r) ?_
              simp -implicitDefEqProofs only [go_sem, simprocAttr]
              refine call1 [] false (c21) ?_
              simp -implicitDefEqProofs only [go_sem, simprocAttr, lenV_ls hlk, lenV_ls hrl, ints_length, lkz, r2b]
              refine lpH 265 [33] 265 [] (fun k : Nat => r.1.length - k) (fun k => k ≤ r.1.length) (fun k ρ h => ρ 33 = .fv (.int (k : Nat))) 0 (Nat.zero_le _) ?_ ?_
              · simp -implicitDefEqProofs only [go_sem, simprocAttr]
              · rintro j ρ3 h3 hj r33
                by_cases hjl : j < r.1.length
                · have hjl' : (j : Int) < ((c.lk w r.1).length : Nat) := by omega
                  have hwj : IntKind.i64.wrap ((j : Int) + 1) = ((j + 1 : Nat) : Int) := wr _ (by omega) (by omega)
                  obtain ⟨x, hx⟩ : ∃ x, r.1[j]? = some x := ⟨_, List.getElem?_eq_getElem hjl⟩
                  have hlx := lks_at (c.loo w) r.1 j g.len x hx
                  rw [← Cs.lk] at hlx
                  have hLx := g.ge _ (List.mem_of_getElem? hlx)
                  have hnL : ¬ x + gI (c.loo w) (j : Nat) < c.L := by omega
                  have xb := rb x (List.mem_of_getElem? hx)
                  have c58 := t58 (i := j) (g := x) v ok.rk wv (by omega) (by omega) (by omega)
                  have zz : (x + gI (c.loo w) (j : Nat) != x + gI (c.loo w) (j : Nat)) = false := by simp
                  simp -implicitDefEqProofs only [go_sem, simprocAttr, r33, lenV_ls hlk, ints_length, hjl']
                  refine W_opsD _ _ _ (Vs []) ?_ ?_
                  · decide
                  simp -implicitDefEqProofs only [go_sem, simprocAttr, r33, index_map hlk idx_22 hlx rfl, index_map hrl idx_22 hx rfl, o1, o2]
                  refine callD [] false [.fo (c.fv sw sp), .fo (.list false (ints w)), .fo (.int (j : Nat)), .fo (.int x)] [] c58 ⟨rfl, rfl, rfl, rfl, trivial⟩ rfl (.inl rfl) ?_
                  simp -implicitDefEqProofs only [go_sem, simprocAttr, zz, r33, index_map hlk idx_22 hlx rfl, hnL, hwj]
                  refine nxt (j + 1) (by omega) (by omega) ?_
                  simp -implicitDefEqProofs only [go_sem, simprocAttr]
                · have hjl' : ¬ (j : Int) < ((c.lk w r.1).length : Nat) := by omega
                  simp -implicitDefEqProofs only [go_sem, simprocAttr, r33, lenV_ls hlk, ints_length, hjl']
                  refine call1 [] false (t17) ?_
                  simp -implicitDefEqProofs only [go_sem, simprocAttr]
                  exact ret_fv
      · rintro x xs i m ρ h hx hi hm hi' hwi ⟨hd, em⟩ ⟨r23, r22⟩
        rcases hr with ⟨h1, e⟩ | ⟨h1, g⟩
        · rw [e] at hi; simp at hi
        · have lg := loo_gI ok.rk w i
          have ilm : i < (c.loo w).length := by rw [← g.len]; exact hi
          have l0 := ok.l0
          have hxl := rb x hm
          have hge : ¬ x < max 0 (c.L - gI (c.loo w) (i : Nat)) := by
            have := g.ge _ (List.mem_of_getElem? (lks_at (c.loo w) r.1 i g.len x hx))
            omega
          have c56 := t56 (i := i) v ok.rk wv (by have := c.loo_len w; omega)
          have em1 := em h1
          have hdl : (c.loo w).drop i = gI (c.loo w) (i : Nat) :: (c.loo w).drop (i + 1) := by
            have := gI_get (p := c.loo w) (i := (i : Int)) (by omega) (by omega)
            rw [Int.toNat_natCast] at this
            exact drop_get this
          have sx := sum_ge (x := xs) fun y hy => by have := rb y (List.mem_of_mem_drop (hd ▸ (List.mem_cons_of_mem _ hy))); omega
          have sx2 := (sum_ge g.nn).1
          have clb := clo_5 ok.l0 T.l ((c.loo w).drop (i + 1)) (fun z hz => ok.loo w z (List.mem_of_mem_drop hz))
          rw [List.length_drop, c.loo_len] at clb
          have sxb : sumI xs ≤ 400 * xs.length := by
            have hxs : ∀ y ∈ xs, y ≤ 400 := fun y hy => (rb y (List.mem_of_mem_drop (hd ▸ (List.mem_cons_of_mem _ hy)))).2
            clear em1 em sx hd
            induction xs with
            | nil => simp [sumI]
            | cons y ys ih =>
              have := ih fun z hz => hxs z (by simp [hz])
              have := hxs y (by simp)
              simp only [sumI, List.length_cons]; omega
          have lxs : xs.length ≤ 7 := by have := congrArg List.length hd; simp at this; omega
          rw [hdl] at em1
          simp only [sumI, clo] at em1
          have u1 : IntKind.i64.wrap (x - max 0 (c.L - gI (c.loo w) (i : Nat))) = x - max 0 (c.L - gI (c.loo w) (i : Nat)) := wr _ (by omega) (by omega)
          have u2 : IntKind.i64.wrap (m - (x - max 0 (c.L - gI (c.loo w) (i : Nat)))) = m - (x - max 0 (c.L - gI (c.loo w) (i : Nat))) := wr _ (by omega) (by omega)
          simp -implicitDefEqProofs only [go_sem, simprocAttr, r23, lenV_ls hrl, ints_length, hi']
          refine W_opsD _ _ _ (Vs []) ?_ ?_
          · decide
          simp -implicitDefEqProofs only [go_sem, simprocAttr, r23, index_map hrl idx_22 hx rfl, o1, o2]
          refine callD [] false [.fo (c.fv sw sp), .fo (.list false (ints w)), .fo (.int (i : Nat))] [] c56 ⟨rfl, rfl, rfl, trivial⟩ rfl (.inl rfl) ?_
          simp -implicitDefEqProofs only [go_sem, simprocAttr, hge]
          refine W_opsD _ _ _ (Vs []) ?_ ?_
          · decide
          simp -implicitDefEqProofs only [go_sem, simprocAttr, r23, r22, index_map hrl idx_22 hx rfl, o1, o2]
          refine callD [] false [.fo (c.fv sw sp), .fo (.list false (ints w)), .fo (.int (i : Nat))] [] c56 ⟨rfl, rfl, rfl, trivial⟩ rfl (.inl rfl) ?_
          simp -implicitDefEqProofs only [go_sem, simprocAttr, u1, u2, r23, hwi]
          refine nxtL (m - (x - max 0 (c.L - gI (c.loo w) (i : Nat)))) ⟨(drop_tail hd).1, fun _ => by rw [em1]; omega⟩ ?_
          simp -implicitDefEqProofs only [go_sem, simprocAttr]
end S04

