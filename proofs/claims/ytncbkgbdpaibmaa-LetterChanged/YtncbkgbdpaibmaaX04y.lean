/- A part of the proof: X04y. -/
import Derived.Test.YtncbkgbdpaibmaaP04d
import Derived.Test.YtncbkgbdpaibmaaX04u
import Derived.Test.YtncbkgbdpaibmaaC04h0
set_option linter.unusedVariables false
set_option linter.unusedSimpArgs false
set_option maxRecDepth 20000
namespace S04
open Go Abs
theorem eqB (h : AH) (a b : Bool) : eqV Q h 4 (.fv (.val (.bool a))) (.fv (.val (.bool b))) = some (a == b) := by
  have : boolTy Q 4 = true := by kernel_rfl
  simp [eqV, this]
set_option maxHeartbeats 4000000 in
theorem t14 {a0 a1 a2 a3 a4 a5 f0 f1 f2 : Int} {sp0 sl : FV} {c : Cs} {sw sp : FV} {bs : List Int} {p0 q0 p1 q1 p2 q2 : Int} (T : TY (tyA a0 a1 a2 a3 a4 a5 sp0 f0 f1 f2) sp0 c sw sp) (hl : lsOf sl = some (bs.map u8)) (hb : ∀ x ∈ bs, 0 ≤ x ∧ x < 256) (ll : bs.length ≤ 9223372036854775807)
    (vb : ∀ x ∈ [p0, q0, p1, q1, p2, q2], 0 ≤ x ∧ x < 256) :
    Fn Q 14 [.fo (.agg (tyA a0 a1 a2 a3 a4 a5 sp0 f0 f1 f2)), .fo sl, .fo (.agg [u8 p0, u8 q0, u8 p1, u8 q1, u8 p2, u8 q2])] (.one (.fx (.bool true))) := by
  have bp0 := vb p0 (by simp)
  have bq0 := vb q0 (by simp)
  have bp1 := vb p1 (by simp)
  have bq1 := vb q1 (by simp)
  have bp2 := vb p2 (by simp)
  have bq2 := vb q2 (by simp)
  have c50 := T.fn
  have v := T.v
  have ok := errC_ok T.e
  have n6 := T.n6
  have op := T.o
  have o1 := ls_one v.w
  have o2 := ls_one v.p
  have oL := ls_one hl
  have pl10 := ok.p1
  have v' : CV c (swC c) (spC c) := ⟨rfl, rfl, v.wl, v.pl⟩
  have c52 := t52 v (by omega) (by omega)
  have c51 := t51 hl hb ll
  obtain ⟨k1, k2, k3⟩ := wordF_ok hb
  generalize wordF bs = w at *
  have hs : lsOf (.list false (ints w)) = some (ints w) := rfl
  have c53 := t53 hs (by omega)
  have hwI : isW c.W.length 0 w = true := errO_word T.e n6 k1 k2 k3
  have eO : errO c [w] = 0 := errO_0 T.e (by simpa using hwI)
  have wb : ∀ x ∈ w, 0 ≤ x ∧ x < c.W.length := fun x hx => by have := k3 x hx; omega
  have wv : WV c (.list false (ints w)) w := ⟨hs, by omega, wb⟩
  obtain ⟨nd1, nd2, nd3, nd4, nd5⟩ := T.nd wb k1 k2
  have c54 := t54 v ok.rk wv
  have tp := tm_bd bp2.1 (show (0 : Int) < 30 by decide)
  obtain ⟨M, hM⟩ : ∃ M : Int, M = p2.tmod 30 := ⟨_, rfl⟩
  rw [← hM] at tp
  have eY : errY c w (c.nd w + M) = 0 := by
    have e0 : errG c w (c.nd w + M) = 0 := by unfold errG; rw [if_neg (by simp [eO]), inB_ok (by omega) (by omega)]; rfl
    unfold errY
    rw [if_neg (by simp [e0]), if_neg (by omega)]
  have v2 : IntKind.i64.wrap p2 = p2 := wr _ (by omega) (by omega)
  have u2 : IntKind.i64.wrap q2 = q2 := wr _ (by omega) (by omega)
  have wM : IntKind.i64.wrap (c.nd w + M) = c.nd w + M := wr _ (by omega) (by omega)
  have wl1 : IntKind.i64.wrap ((w.length : Int) - 1) = (w.length : Int) - 1 := wr _ (by omega) (by omega)
  by_cases h1 : w.length = 1
  · have c30 := t30 (r := ([], 0)) v' hs eY (by rw [LayIs, if_pos h1])
    have eX : errX c w [] q2 = 6 := by
      have eL : errL c w [] = 0 := by
        unfold errL
        rw [if_neg (by simp [eO]), if_neg]
        simp [gapsB, h1]
      have eW : wgL (c.wg w [] q2) = [] := by
        have := wg_is (c := c) (w := w) (g := []) bq2.1
        have l0 : (c.lk w []).length = 0 := by rw [Cs.lk, lks_len _ _ (by have := c.loo_len w; simp; omega)]; rfl
        have h2 := this.s
        rw [l0] at h2
        simpa [numF] using h2
      unfold errX
      rw [if_neg (by simp [eL]), if_neg (by rw [inB_ok (by omega) (by omega)]; simp), eW]
      rfl
    have c45 := t45 (s := .list false (ints w)) (sg := .nil) (w := w) (g := []) (most := q2) v' hs (by omega) rfl (by simp)
    rw [eX] at c45
    have z1 : ((0 : Int) != (w.length : Int) - 1) = false := by simp; omega
    refine w14 ?_
    dsimp only [c14, sop, gop, nop, qmv, qsg, qex, qld, qcl, qln, qix, qbo, qt, qi]
    simp -implicitDefEqProofs only [go_sem, simprocAttr, op, u8, oL]
    refine call1 [] false (c50) ?_
    simp -implicitDefEqProofs only [go_sem, simprocAttr]
    refine call1 [] false (c51) ?_
    simp -implicitDefEqProofs only [go_sem, simprocAttr, o1, o2]
    refine W_opsD _ _ _ (Vs []) ?_ ?_
    · decide
    simp -implicitDefEqProofs only [go_sem, simprocAttr, o1, o2]
    refine callD [] false [.fo (c.fv sw sp), .fo (.list false (ints w))] [] c54 ⟨rfl, rfl, trivial⟩ rfl (.inl rfl) ?_
    simp -implicitDefEqProofs only [go_sem, simprocAttr, u8, v2, ← hM, wM, o1, o2]
    refine call1 [] false (c52) ?_
    simp -implicitDefEqProofs only [go_sem, simprocAttr]
    refine call1 [] false (c53) ?_
    simp -implicitDefEqProofs only [go_sem, simprocAttr]
    refine call1 [] false (c30) ?_
    simp -implicitDefEqProofs only [go_sem, simprocAttr, wl1, lenV_ls (lsOf_lstN (ints [])), ints_length, List.length_nil, z1, o1, o2]
    refine W_opsD _ _ _ (Vs []) ?_ ?_
    · decide
    simp -implicitDefEqProofs only [go_sem, simprocAttr, o1, o2]
    refine callD [] false [.fo (c.fv sw sp)] [] c52 ⟨rfl, trivial⟩ rfl (.inl rfl) ?_
    simp -implicitDefEqProofs only [go_sem, simprocAttr]
    refine callD [] false [.fo (.list false (ints w))] [] c53 ⟨rfl, trivial⟩ rfl (.inl rfl) ?_
    simp -implicitDefEqProofs only [go_sem, simprocAttr, u8, u2]
    refine call1 [] false (c45) ?_
    simp -implicitDefEqProofs only [go_sem, simprocAttr]
    refine call1 [] false (t17) ?_
    simp -implicitDefEqProofs only [go_sem, simprocAttr]
    exact ret_fv
  · obtain ⟨gaps, most, e1, e2, e3, e4, e5⟩ := lay_is eY h1
    have c30 := t30 v' hs eY e1
    have lml := c.loo_len w
    have g := layG (ok.loo w) (fun e => by rw [e] at lml; simp at lml; omega) ok.l0 e2 e3 e5
    have gl := g.len
    have gb : ∀ x ∈ gaps, 0 ≤ x ∧ x ≤ 400 := by
      intro x hx
      have := g.nn x hx
      have := (sum_ge g.nn).2 x hx
      rw [g.sum] at this
      omega
    have mb : most ≤ 400 := by
      rw [← g.spr]
      refine spr_is _ (by omega) fun p hp q hq => ?_
      have := looks_le (ok.loo w) g.nn g.sum p hp
      have := g.ge q hq
      have := ok.l0
      omega
    have gs := g.spr
    clear e1 e2 e4 e5 g
    have gne : gaps ≠ [] := fun e => by rw [e] at gl; simp at gl; omega
    have hg0 : lsOf (lstN (ints gaps)) = some (ints gaps) := lsOf_lstN _
    have c53g := t53o hg0 (by omega) gne
    have z1 : ((gaps.length : Int) != (w.length : Int) - 1) = false := by simp; omega
    have z2 : ¬ most < 0 := by omega
    have z3 : ((gaps.length : Int) == 0) = false := beq_eq_false_iff_ne.2 (by omega)
    generalize lstN (ints gaps) = sgp at *
    refine w14 ?_
    dsimp only [c14, sop, gop, nop, qmv, qsg, qex, qld, qcl, qln, qix, qbo, qt, qi]
    simp -implicitDefEqProofs only [go_sem, simprocAttr, op, u8, oL]
    refine call1 [] false (c50) ?_
    simp -implicitDefEqProofs only [go_sem, simprocAttr]
    refine call1 [] false (c51) ?_
    simp -implicitDefEqProofs only [go_sem, simprocAttr, o1, o2]
    refine W_opsD _ _ _ (Vs []) ?_ ?_
    · decide
    simp -implicitDefEqProofs only [go_sem, simprocAttr, o1, o2]
    refine callD [] false [.fo (c.fv sw sp), .fo (.list false (ints w))] [] c54 ⟨rfl, rfl, trivial⟩ rfl (.inl rfl) ?_
    simp -implicitDefEqProofs only [go_sem, simprocAttr, u8, v2, ← hM, wM, o1, o2]
    refine call1 [] false (c52) ?_
    simp -implicitDefEqProofs only [go_sem, simprocAttr]
    refine call1 [] false (c53) ?_
    simp -implicitDefEqProofs only [go_sem, simprocAttr]
    refine call1 [] false (c30) ?_
    simp -implicitDefEqProofs only [go_sem, simprocAttr, wl1, lenV_ls hg0, ints_length, z1, z2, z3]
    refine call1 [] false (c53g) ?_
    simp -implicitDefEqProofs only [go_sem, simprocAttr]
    refine lpH 89 [15, 16, 17, 18] 300 [87, 88, 121] (fun a : Nat × List Int × List Int => 2 - a.1) (fun a => a.1 ≤ 2 ∧ a.2.1.length = gaps.length ∧ a.2.2.length ≤ a.1 ∧ (∀ y ∈ a.2.1, 0 ≤ y ∧ y ≤ 400) ∧ ∀ i : Nat, (i : Int) ∉ a.2.2 → a.2.1[i]? = gaps[i]?) (fun a ρ h => ρ 17 = .fv (.int (a.1 : Nat)) ∧ ρ 15 = .gl 87 (h.gen 87) ∧ h.obj 87 = some (.list 3 1 false false (ints a.2.1)) ∧ ρ 16 = .gl 88 (h.gen 88) ∧ h.obj 88 = some (.list 3 1 false false (ints a.2.2))) (0, gaps, []) ⟨by simp, rfl, by simp, gb, fun _ _ => rfl⟩ ?_ ?_
    · simp -implicitDefEqProofs only [go_sem, simprocAttr]
      rfl
    · rintro ⟨k, bad, ch⟩ ρ h ⟨k2, bl, cl, bb, bc⟩ ⟨r17, r15, o87, r16, o88⟩
      dsimp only at k2 bl cl bb bc r17 r15 o87 r16 o88
      by_cases hk : k < 2
      · have hk' : (k : Int) < 2 := by omega
        have blz : ¬ ((bad.length : Int) = 0) := by omega
        obtain rfl | rfl : k = 0 ∨ k = 1 := by omega
        · have vp : IntKind.i64.wrap p0 = p0 := wr _ (by omega) (by omega)
          have vq : IntKind.i64.wrap q0 = q0 := wr _ (by omega) (by omega)
          obtain ⟨t1, t2⟩ := tm_bd bp0.1 (show (0 : Int) < (bad.length : Nat) by omega)
          obtain ⟨j, hj⟩ : ∃ j : Nat, Int.tmod p0 (bad.length : Nat) = (j : Nat) := ⟨(Int.tmod p0 (bad.length : Nat)).toNat, by omega⟩
          rw [hj] at t1 t2
          have tq := tm_bd bq0.1 (show (0 : Int) < 60 by decide)
          obtain ⟨z, hz⟩ : ∃ z : Int, Int.tmod q0 60 = z := ⟨_, rfl⟩
          rw [hz] at tq
          by_cases h2 : p0 < 200
          · have gz := ints_getJ (l := bad) (i := j) (by omega)
            have c61 := t61 (s := .list false (ints ch)) (l := ch) (n := (j : Nat)) rfl (by omega)
            have bc' : ∀ m : List Int, (∀ y ∈ ch, y ∈ m) → (j : Int) ∈ m → ∀ i : Nat, (i : Int) ∉ m → (bad.set j z)[i]? = gaps[i]? := fun m h1 h2 i hi => by
              rw [List.getElem?_set_ne (by rintro rfl; exact hi h2)]
              exact bc i fun h => hi (h1 _ h)
            have bb' : ∀ y ∈ bad.set j z, 0 ≤ y ∧ y ≤ 400 := fun y hy => by
              rcases List.mem_or_eq_of_mem_set hy with h | h
              · exact bb y h
              · omega
            simp -implicitDefEqProofs only [go_sem, simprocAttr, r17, u8, vp, r15, o87, ints_length, blz, hj, h2, vq, hz, t1, t2, gz, Int.toNat_natCast]
            refine sto_elem (by rfl) (by rfl) (by rfl) (by simp -implicitDefEqProofs only [go_sem, simprocAttr, o87]; rfl) gz (by decide) ?_
            simp -implicitDefEqProofs only [go_sem, simprocAttr, FV.withCells, ints_set, r16, o88]
            refine call0 [] true c61 (by simp -implicitDefEqProofs only [go_sem, simprocAttr, r16, o88]) (.inr rfl) ?_
            by_cases hm : (j : Int) ∈ ch
            · have hm' : ch.contains (j : Int) = true := by simpa using hm
              simp -implicitDefEqProofs only [go_sem, simprocAttr, hm', r17]
              refine nxt (0 + 1, bad.set j z, ch) (by simp only; omega) ⟨by simp only; omega, by simp [bl], by simp only; omega, bb', bc' ch (fun _ h => h) hm⟩ ?_
              simp -implicitDefEqProofs only [go_sem, simprocAttr, r15, r16, o88]
            · have hm' : ch.contains (j : Int) = false := by simpa using hm
              simp -implicitDefEqProofs only [go_sem, simprocAttr, hm', r16]
              refine app_gl (by simp -implicitDefEqProofs only [go_sem, simprocAttr, o88]; rfl) idx_22 (by simp -implicitDefEqProofs only [go_sem, simprocAttr]; rfl) (by simp [FV.cells]) (by simp -implicitDefEqProofs only [go_sem, simprocAttr]) (by simp [byt_3, ints]; omega) (by simp [maxLen, ints]; omega) (by simp) ?_
              simp -implicitDefEqProofs only [go_sem, simprocAttr, r17]
              refine nxt (0 + 1, bad.set j z, ch ++ [(j : Int)]) (by simp only; omega) ⟨by simp only; omega, by simp [bl], by simp only [List.length_append, List.length_singleton]; omega, bb', bc' _ (fun y h => by simp [h]) (by simp)⟩ ?_
              simp -implicitDefEqProofs only [go_sem, simprocAttr, r15, ints, List.map_append, List.map_cons, List.map_nil]
          · simp -implicitDefEqProofs only [go_sem, simprocAttr, r17, u8, vp, r15, o87, ints_length, blz, hj, h2]
            refine nxt (0 + 1, bad, ch) (by simp only; omega) ⟨by simp only; omega, bl, by simp only; omega, bb, bc⟩ ?_
            simp -implicitDefEqProofs only [go_sem, simprocAttr, r15, o87, r16, o88]
        · have vp : IntKind.i64.wrap p1 = p1 := wr _ (by omega) (by omega)
          have vq : IntKind.i64.wrap q1 = q1 := wr _ (by omega) (by omega)
          obtain ⟨t1, t2⟩ := tm_bd bp1.1 (show (0 : Int) < (bad.length : Nat) by omega)
          obtain ⟨j, hj⟩ : ∃ j : Nat, Int.tmod p1 (bad.length : Nat) = (j : Nat) := ⟨(Int.tmod p1 (bad.length : Nat)).toNat, by omega⟩
          rw [hj] at t1 t2
          have tq := tm_bd bq1.1 (show (0 : Int) < 60 by decide)
          obtain ⟨z, hz⟩ : ∃ z : Int, Int.tmod q1 60 = z := ⟨_, rfl⟩
          rw [hz] at tq
          by_cases h2 : p1 < 200
          · have gz := ints_getJ (l := bad) (i := j) (by omega)
            have c61 := t61 (s := .list false (ints ch)) (l := ch) (n := (j : Nat)) rfl (by omega)
            have bc' : ∀ m : List Int, (∀ y ∈ ch, y ∈ m) → (j : Int) ∈ m → ∀ i : Nat, (i : Int) ∉ m → (bad.set j z)[i]? = gaps[i]? := fun m h1 h2 i hi => by
              rw [List.getElem?_set_ne (by rintro rfl; exact hi h2)]
              exact bc i fun h => hi (h1 _ h)
            have bb' : ∀ y ∈ bad.set j z, 0 ≤ y ∧ y ≤ 400 := fun y hy => by
              rcases List.mem_or_eq_of_mem_set hy with h | h
              · exact bb y h
              · omega
            simp -implicitDefEqProofs only [go_sem, simprocAttr, r17, u8, vp, r15, o87, ints_length, blz, hj, h2, vq, hz, t1, t2, gz, Int.toNat_natCast]
            refine sto_elem (by rfl) (by rfl) (by rfl) (by simp -implicitDefEqProofs only [go_sem, simprocAttr, o87]; rfl) gz (by decide) ?_
            simp -implicitDefEqProofs only [go_sem, simprocAttr, FV.withCells, ints_set, r16, o88]
            refine call0 [] true c61 (by simp -implicitDefEqProofs only [go_sem, simprocAttr, r16, o88]) (.inr rfl) ?_
            by_cases hm : (j : Int) ∈ ch
            · have hm' : ch.contains (j : Int) = true := by simpa using hm
              simp -implicitDefEqProofs only [go_sem, simprocAttr, hm', r17]
              refine nxt (1 + 1, bad.set j z, ch) (by simp only; omega) ⟨by simp only; omega, by simp [bl], by simp only; omega, bb', bc' ch (fun _ h => h) hm⟩ ?_
              simp -implicitDefEqProofs only [go_sem, simprocAttr, r15, r16, o88]
            · have hm' : ch.contains (j : Int) = false := by simpa using hm
              simp -implicitDefEqProofs only [go_sem, simprocAttr, hm', r16]
              refine app_gl (by simp -implicitDefEqProofs only [go_sem, simprocAttr, o88]; rfl) idx_22 (by simp -implicitDefEqProofs only [go_sem, simprocAttr]; rfl) (by simp [FV.cells]) (by simp -implicitDefEqProofs only [go_sem, simprocAttr]) (by simp [byt_3, ints]; omega) (by simp [maxLen, ints]; omega) (by simp) ?_
              simp -implicitDefEqProofs only [go_sem, simprocAttr, r17]
              refine nxt (1 + 1, bad.set j z, ch ++ [(j : Int)]) (by simp only; omega) ⟨by simp only; omega, by simp [bl], by simp only [List.length_append, List.length_singleton]; omega, bb', bc' _ (fun y h => by simp [h]) (by simp)⟩ ?_
              simp -implicitDefEqProofs only [go_sem, simprocAttr, r15, ints, List.map_append, List.map_cons, List.map_nil]
          · simp -implicitDefEqProofs only [go_sem, simprocAttr, r17, u8, vp, r15, o87, ints_length, blz, hj, h2]
            refine nxt (1 + 1, bad, ch) (by simp only; omega) ⟨by simp only; omega, bl, by simp only; omega, bb, bc⟩ ?_
            simp -implicitDefEqProofs only [go_sem, simprocAttr, r15, o87, r16, o88]
      · have hk' : ¬ (k : Int) < 2 := by omega
        have lbl : bad.length = (c.loo w).length := by omega
        have W1 := wg_is (c := c) (w := w) (g := bad) e3
        have few := wg_few (ms := c.loo w) (x := wgL (c.wg w bad most)) gl lbl (by rw [gs]; exact Int.le_refl _) e3 bc W1
        have lkl : (c.lk w bad).length = bad.length := lks_len _ _ lbl
        have at_ := fun i x => lks_at (c.loo w) bad i lbl x
        have eL : errL c w bad = 0 := by
          unfold errL
          rw [if_neg (by simp [eO]), if_neg]
          rw [Bool.not_eq_false]
          unfold gapsB
          rw [Bool.and_eq_true]
          exact ⟨by simp; omega, List.all_eq_true.2 fun y hy => inB_ok (bb y hy).1 (bb y hy).2⟩
        have c45 := t45 (s := .list false (ints w)) (sg := .list false (ints bad)) (w := w) (g := bad) (most := most) v' hs (by omega) rfl (by omega)
        have lgb := loo_gI ok.rk w
        have lkb : ∀ y ∈ c.lk w bad, -1000 ≤ y ∧ y ≤ 1000 := fun y hy => by
          obtain ⟨g, hg, m, hm, rfl⟩ := look_mem hy
          have := bb g hg
          have := ok.loo w m hm
          omega
        have hE : ∃ (E : Int) (f : FV), Fn Q 45 [.fo (c.fv (swC c) (spC c)), .fo (.list false (ints w)), .fo (.list false (ints bad)), .fo (.int most)] (.tup [.fx f, .fx (.int E)]) ∧ lsOf f = some (ints (wgL (c.wg w bad most))) ∧ ((E = 6 ∧ (wgL (c.wg w bad most)).length = 0) ∨ (E = 0 ∧ (wgL (c.wg w bad most)).length ≠ 0)) := by
          have eX : errX c w bad most = if (wgL (c.wg w bad most)).isEmpty then 6 else 0 := by
            unfold errX
            rw [if_neg (by simp [eL]), if_neg (by rw [inB_ok (by omega) (by omega)]; simp)]
          by_cases he : wgL (c.wg w bad most) = []
          · rw [he] at eX
            rw [eX, he] at c45
            exact ⟨6, .nil, c45, by rw [he]; rfl, .inl ⟨rfl, by rw [he]; rfl⟩⟩
          · rw [if_neg (by simpa using he)] at eX
            rw [eX, if_pos rfl] at c45
            exact ⟨0, _, c45, lsOf_lstN _, .inr ⟨rfl, by simpa using he⟩⟩
        obtain ⟨E, f, c45', hf, hE⟩ := hE
        have at2 : ∀ (i : Nat) (y : Int), bad[i]? = some y → (c.lk w bad)[i]? = some (y + gI (c.loo w) (i : Nat)) := at_
        clear at_
        generalize c.lk w bad = lk at *
        generalize wgL (c.wg w bad most) = x at *
        have xb : ∀ y ∈ x, 0 ≤ y ∧ y < bad.length := fun y hy => by have := numF_mem.1 (W1.s.subset hy); omega
        have xp : x.Pairwise (· < ·) := List.Pairwise.sublist W1.s (numF_pw _)
        have xl : x.length ≤ 1000 := by omega
        have c53b := t53 (s := .list false (ints bad)) (l := bad) rfl (by omega)
        simp -implicitDefEqProofs only [go_sem, simprocAttr, r17, hk']
        refine lpL (β := Unit) 123 [19] 300 [] bad (by omega) (fun _ _ _ => True) (fun k _ ρ h => ρ 19 = .fv (.int (k : Nat))) () trivial ?_ ?_ ?_
        · simp -implicitDefEqProofs only [go_sem, simprocAttr]
        · rintro _ ρ2 h2 _ r19
          have nl : ¬ ((bad.length : Int) < (bad.length : Nat)) := by omega
          simp -implicitDefEqProofs only [go_sem, simprocAttr, r19, r15, o87, ints_length, nl, o1, o2]
          refine call1 [] false (c52) ?_
          simp -implicitDefEqProofs only [go_sem, simprocAttr]
          refine call1 [] false (c53) ?_
          simp -implicitDefEqProofs only [go_sem, simprocAttr, r15]
          refine call0 [87] false c53b (by simp -implicitDefEqProofs only [go_sem, simprocAttr, r15, o87]) (.inl rfl) ?_
          simp -implicitDefEqProofs only [go_sem, simprocAttr, o87]
          refine call1 [] false (c45') ?_
          obtain ⟨rfl, hx0⟩ | ⟨rfl, hx0⟩ := hE
          all_goals
            have few' : ¬ ((ch.length : Int) < (x.length : Nat)) := by omega
            have hx1 : (((x.length : Nat) : Int) != 0) = decide (x.length ≠ 0) := by rw [Bool.eq_iff_iff]; simp
            have hx2 : (((x.length : Nat) : Int) == 0) = decide (x.length = 0) := by rw [Bool.eq_iff_iff]; simp
            have few0 : ¬ ((ch.length : Int) < 0) := by omega
            simp -implicitDefEqProofs only [go_sem, simprocAttr, lenV_ls hf, ints_length, hx1, hx2, hx0, r16, o88, few', few0]
            refine lpH 179 [22, 23, 24, 25, 26, 27] 300 [] (fun k : Nat => x.length + 1 - k) (fun k => k ≤ x.length + 1) (fun k ρ h => ρ 22 = .fv (.int ((k : Int) - 1))) 0 (Nat.zero_le _) ?_ ?_
            · simp -implicitDefEqProofs only [go_sem, simprocAttr, o87]
            · rintro k ρ3 h3 k1 r22
              by_cases hk : k < x.length + 1
              · have hk' : (k : Int) - 1 < (x.length : Nat) := by omega
                have hwk : IntKind.i64.wrap ((k : Int) - 1 + 1) = ((k + 1 : Nat) : Int) - 1 := by rw [wr _ (by omega) (by omega)]; omega
                obtain ⟨x', hx', hs'⟩ : ∃ x' : List Int, (∀ z : Int, x'.contains z = (x.contains z && (decide ((k : Int) - 1 < 0) || decide (∃ y, x[k - 1]? = some y ∧ y ≠ z)))) ∧ decide (sprF (woF x' lk 0) ≤ most) = decide ((k : Int) - 1 < 0) := by
                  by_cases k0 : k = 0
                  · subst k0
                    exact ⟨x, fun z => by simp, by simpa using W1.p⟩
                  · obtain ⟨y, hy⟩ : ∃ y, x[k - 1]? = some y := ⟨_, List.getElem?_eq_getElem (by omega)⟩
                    have k2 : ¬ ((k : Int) - 1 < 0) := by omega
                    have := wg_one W1 (s := k - 1) (by omega)
                    refine ⟨x.eraseIdx (k - 1), fun z => ?_, ?_⟩
                    · rw [erase_contains xp hy]
                      simp [k2, hy]
                    · rw [decide_eq_false (by omega), decide_eq_false k2]
                simp -implicitDefEqProofs only [go_sem, simprocAttr, r22, lenV_ls hf, ints_length, hk']
                refine lpH 185 [23, 24, 25, 26, 27] 300 [] (fun i : Nat => bad.length - i) (fun i => i ≤ bad.length) (fun i ρ h => ρ 26 = .fv (.int (i : Nat)) ∧ ρ 25 = .fv (.bool (!(woF x' (lk.take i) 0).isEmpty)) ∧ ρ 23 = .fv (.int (minL (woF x' (lk.take i) 0))) ∧ ρ 24 = .fv (.int (maxL (woF x' (lk.take i) 0)))) 0 (Nat.zero_le _) ?_ ?_
                · simp -implicitDefEqProofs only [go_sem, simprocAttr, List.take_zero, woF, minL, maxL]
                  simp
                · rintro i ρ4 h4 i1 ⟨r26, r25, r23, r24⟩
                  by_cases hi : i < bad.length
                  · have hi' : (i : Int) < (bad.length : Nat) := by omega
                    have hwi : IntKind.i64.wrap ((i : Int) + 1) = ((i + 1 : Nat) : Int) := wr _ (by omega) (by omega)
                    obtain ⟨y, hy⟩ : ∃ y, bad[i]? = some y := ⟨_, List.getElem?_eq_getElem hi⟩
                    have gy : (ints bad)[i]? = some (.int y) := by simp [ints, hy]
                    have yb := bb y (List.mem_of_getElem? hy)
                    have ly := at2 i y hy
                    have c58 := t58 (i := i) (g := y) v ok.rk wv (by omega) (by omega) (by omega)
                    generalize hn : y + gI (c.loo w) (i : Nat) = n at *
                    have et : lk.take (i + 1) = lk.take i ++ [n] := by rw [List.take_add_one, ly]; rfl
                    have es := woF_snoc x' n (lk.take i) 0
                    rw [← et, Nat.zero_add, show (lk.take i).length = i by simp; omega] at es
                    have c61 := t61 (n := (i : Nat)) hf (by omega)
                    generalize woF x' (lk.take i) 0 = r at *
                    have ex := hx' (i : Nat)
                    simp -implicitDefEqProofs only [go_sem, simprocAttr, r26, r15, o87, ints_length, hi']
                    refine call1 [] false (c61) ?_
                    cases hc : x.contains (i : Int) with
                    | false =>
                      rw [hc, Bool.false_and] at ex
                      rw [ex, if_neg (by simp)] at es
                      simp -implicitDefEqProofs only [go_sem, simprocAttr, r26, r15, o87, ints_length, hi', gy, o1, o2]
                      refine call1 [] false (c58) ?_
                      by_cases hr : r = []
                      · have hr' : r.isEmpty = true := by simp [hr]
                        rw [hr, List.nil_append] at es
                        simp -implicitDefEqProofs only [go_sem, simprocAttr, r25, hr', r26, hwi, Int.min_self, Int.max_self]
                        refine nxt (i + 1) (by omega) (by omega) ?_
                        rw [es]
                        simp -implicitDefEqProofs only [go_sem, simprocAttr, minL, maxL, List.foldl_nil]
                        rfl
                      · have hr' : r.isEmpty = false := by simpa using hr
                        have e1 := minL_snoc r n
                        have e2 := maxL_snoc r n
                        rw [if_neg hr] at e1 e2
                        simp -implicitDefEqProofs only [go_sem, simprocAttr, r25, hr', r23, r24, r26, hwi]
                        refine nxt (i + 1) (by omega) (by omega) ?_
                        rw [es, e1, e2]
                        simp -implicitDefEqProofs only [go_sem, simprocAttr, r25, hr']
                        simp
                    | true =>
                      by_cases k0 : (k : Int) - 1 < 0
                      · rw [hc, decide_eq_true k0] at ex
                        rw [ex, Bool.true_or, Bool.and_true, if_pos rfl, List.append_nil] at es
                        simp -implicitDefEqProofs only [go_sem, simprocAttr, r22, k0]
                        simp -implicitDefEqProofs only [go_sem, simprocAttr, r26, hwi]
                        refine nxt (i + 1) (by omega) (by omega) ?_
                        rw [es]
                        simp -implicitDefEqProofs only [go_sem, simprocAttr, r25, r23, r24]
                      · obtain ⟨m, em⟩ : ∃ m : Nat, k = m + 1 := ⟨k - 1, by omega⟩
                        have em' : (k : Int) - 1 = (m : Nat) := by omega
                        have k0' : ¬ ((m : Nat) : Int) < 0 := by omega
                        obtain ⟨z, hz⟩ : ∃ z, x[m]? = some z := ⟨_, List.getElem?_eq_getElem (by omega)⟩
                        rw [show k - 1 = m by omega, hz, hc, decide_eq_false k0] at ex
                        by_cases ez : z = (i : Int)
                        · have ez' : (z != (i : Int)) = false := by simp [ez]
                          rw [decide_eq_false (by rintro ⟨y, h1, h2⟩; simp at h1; exact h2 (h1 ▸ ez))] at ex
                          rw [ex, if_neg (by simp)] at es
                          simp -implicitDefEqProofs only [go_sem, simprocAttr, r22, em', k0', index_map hf idx_22 hz rfl, r26, ez', r15, o87, ints_length, hi', gy, o1, o2]
                          refine call1 [] false (c58) ?_
                          by_cases hr : r = []
                          · have hr' : r.isEmpty = true := by simp [hr]
                            rw [hr, List.nil_append] at es
                            simp -implicitDefEqProofs only [go_sem, simprocAttr, r25, hr', r26, hwi, Int.min_self, Int.max_self]
                            refine nxt (i + 1) (by omega) (by omega) ?_
                            rw [es]
                            simp -implicitDefEqProofs only [go_sem, simprocAttr, minL, maxL, List.foldl_nil]
                            rfl
                          · have hr' : r.isEmpty = false := by simpa using hr
                            have e1 := minL_snoc r n
                            have e2 := maxL_snoc r n
                            rw [if_neg hr] at e1 e2
                            simp -implicitDefEqProofs only [go_sem, simprocAttr, r25, hr', r23, r24, r26, hwi]
                            refine nxt (i + 1) (by omega) (by omega) ?_
                            rw [es, e1, e2]
                            simp -implicitDefEqProofs only [go_sem, simprocAttr, r25, hr']
                            simp
                        · have ez' : (z != (i : Int)) = true := by simpa using ez
                          rw [decide_eq_true ⟨z, rfl, ez⟩] at ex
                          rw [ex, Bool.or_true, Bool.and_true, if_pos rfl, List.append_nil] at es
                          simp -implicitDefEqProofs only [go_sem, simprocAttr, r22, em', k0', index_map hf idx_22 hz rfl, r26, ez']
                          simp -implicitDefEqProofs only [go_sem, simprocAttr, r26, hwi]
                          refine nxt (i + 1) (by omega) (by omega) ?_
                          rw [es]
                          simp -implicitDefEqProofs only [go_sem, simprocAttr, r25, r23, r24]
                  · have hi' : ¬ (i : Int) < (bad.length : Nat) := by omega
                    rw [List.take_of_length_le (by omega)] at r25 r23 r24
                    have rb : ∀ y ∈ woF x' lk 0, -1000 ≤ y ∧ y ≤ 1000 := fun y hy => lkb y ((woF_mem lk 0).1 y hy)
                    have s1 := spr_nn (woF x' lk 0)
                    have s2 := spr_is (woF x' lk 0) (m := 2000) (by omega) fun p hp q hq => by have := rb p hp; have := rb q hq; omega
                    unfold sprF at hs' s1 s2
                    have wS : IntKind.i64.wrap (maxL (woF x' lk 0) - minL (woF x' lk 0)) = maxL (woF x' lk 0) - minL (woF x' lk 0) := wr _ (by omega) (by omega)
                    simp -implicitDefEqProofs only [go_sem, simprocAttr, r26, r15, o87, ints_length, hi', r24, r23, wS, r22, eqB, hs', beq_self_eq_true, hwk]
                    refine nxt (k + 1) (by omega) (by omega) ?_
                    simp -implicitDefEqProofs only [go_sem, simprocAttr]
              · have hk' : ¬ ((k : Int) - 1 < (x.length : Nat)) := by omega
                simp -implicitDefEqProofs only [go_sem, simprocAttr, r22, lenV_ls hf, ints_length, hk']
                refine lpL (β := Unit) 232 [28] 300 [] x (by omega) (fun _ _ _ => True) (fun k _ ρ h => ρ 28 = .fv (.int (k : Nat))) () trivial ?_ ?_ ?_
                · simp -implicitDefEqProofs only [go_sem, simprocAttr]
                · rintro _ ρ4 h4 _ r28
                  have nl : ¬ ((x.length : Int) < (x.length : Nat)) := by omega
                  simp -implicitDefEqProofs only [go_sem, simprocAttr, r28, lenV_ls hf, ints_length, nl]
                  refine call1 [] false (t17) ?_
                  simp -implicitDefEqProofs only [go_sem, simprocAttr]
                  exact ret_fv
                · rintro y ys m _ ρ4 h4 hy hm hym hm' hwm _ r28
                  have yb := xb y hym
                  have n0 : ¬ y < 0 := by omega
                  have n1 : ¬ ((bad.length : Nat) : Int) ≤ y := by omega
                  by_cases m0 : m = 0
                  · have m0' : ¬ (0 : Int) < (m : Nat) := by omega
                    simp -implicitDefEqProofs only [go_sem, simprocAttr, r28, lenV_ls hf, ints_length, hm', index_map hf idx_22 hy rfl, n0, r15, o87, n1, m0', hwm]
                    refine nxtL (I := fun _ _ _ => True) () trivial ?_
                    simp -implicitDefEqProofs only [go_sem, simprocAttr]
                  · obtain ⟨m', em⟩ : ∃ m' : Nat, m = m' + 1 := ⟨m - 1, by omega⟩
                    have m0' : (0 : Int) < (m : Nat) := by omega
                    have wm : IntKind.i64.wrap ((m : Int) - 1) = ((m' : Nat) : Int) := by rw [wr _ (by omega) (by omega)]; omega
                    obtain ⟨y', hy'⟩ : ∃ y', x[m']? = some y' := ⟨_, List.getElem?_eq_getElem (by omega)⟩
                    have yx : ¬ y ≤ y' := by
                      have := List.pairwise_iff_getElem.1 xp m' m (by omega) (by omega) (by omega)
                      rw [List.getElem?_eq_getElem (by omega)] at hy hy'
                      simp only [Option.some.injEq] at hy hy'
                      omega
                    simp -implicitDefEqProofs only [go_sem, simprocAttr, r28, lenV_ls hf, ints_length, hm', index_map hf idx_22 hy rfl, n0, r15, o87, n1, m0', wm, index_map hf idx_22 hy' rfl, yx, hwm]
                    refine nxtL (I := fun _ _ _ => True) () trivial ?_
                    simp -implicitDefEqProofs only [go_sem, simprocAttr]
        · rintro y ys k _ ρ2 h2 hy hk hym hk' hwk _ r19
          have yb := bb y hym
          have gy : (ints bad)[k]? = some (.int y) := by simp [ints, hy]
          have n0 : ¬ y < 0 := by omega
          have n1 : ¬ 400 < y := by omega
          simp -implicitDefEqProofs only [go_sem, simprocAttr, r19, r15, o87, ints_length, hk', gy, n0, n1, hwk]
          refine nxtL (I := fun _ _ _ => True) () trivial ?_
          simp -implicitDefEqProofs only [go_sem, simprocAttr]
end S04

