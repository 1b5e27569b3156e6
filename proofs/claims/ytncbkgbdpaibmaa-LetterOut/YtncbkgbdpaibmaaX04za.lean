/- A part of the proof: X04za. -/
import Derived.Test.YtncbkgbdpaibmaaX04z
set_option linter.unusedVariables false
set_option linter.unusedSimpArgs false
set_option maxRecDepth 20000
namespace S04
open Go Abs
theorem eqBz (h : AH) (a b : Bool) : eqV Q h 4 (.fv (.val (.bool a))) (.fv (.val (.bool b))) = some (a == b) := by
  have : boolTy Q 4 = true := by kernel_rfl
  simp [eqV, this]
set_option maxHeartbeats 4000000 in
theorem t11 {a0 a1 a2 a3 a4 a5 f0 f1 f2 : Int} {sp0 sl : FV} {c : Cs} {sw sp : FV} {bs : List Int} {q0 q1 q2 q3 : Int} (T : TY (tyA a0 a1 a2 a3 a4 a5 sp0 f0 f1 f2) sp0 c sw sp) (hl : lsOf sl = some (bs.map u8)) (hb : ∀ x ∈ bs, 0 ≤ x ∧ x < 256) (ll : bs.length ≤ 9223372036854775807)
    (b0 : 0 ≤ q0 ∧ q0 < 256) (b1 : 0 ≤ q1 ∧ q1 < 256) (b2 : 0 ≤ q2 ∧ q2 < 256) (b3 : 0 ≤ q3 ∧ q3 < 256) :
    Fn Q 11 [.fo (.agg (tyA a0 a1 a2 a3 a4 a5 sp0 f0 f1 f2)), .fo sl, .fo (.agg [u8 q0, u8 q1, u8 q2, u8 q3])] (.one (.fx (.bool true))) := by
  have c50 := T.fn
  have v := T.v
  have ok := errC_ok T.e
  have n6 := T.n6
  have op := T.o
  have o1 := ls_one v.w
  have o2 := ls_one v.p
  have oL := ls_one hl
  have pl10 := ok.p1
  have v' : CV c (swC c) (spC c) := ⟨rfl, rfl, v.wl, v.pl⟩
  have c52 := t52 v (by omega) (by omega)
  have c51 := t51 hl hb ll
  obtain ⟨k1, k2, k3⟩ := wordF_ok hb
  generalize wordF bs = w at *
  have hs : lsOf (.list false (ints w)) = some (ints w) := rfl
  have c53 := t53 hs (by omega)
  have hwI : isW c.W.length 0 w = true := errO_word T.e n6 k1 k2 k3
  have eO : errO c [w] = 0 := errO_0 T.e (by simpa using hwI)
  have wb : ∀ x ∈ w, 0 ≤ x ∧ x < c.W.length := fun x hx => by have := k3 x hx; omega
  have wv : WV c (.list false (ints w)) w := ⟨hs, by omega, wb⟩
  obtain ⟨nd1, nd2, nd3, nd4, nd5⟩ := T.nd wb k1 k2
  have c54 := t54 v ok.rk wv
  have v0 : IntKind.i64.wrap q0 = q0 := wr _ (by omega) (by omega)
  have v1 : IntKind.i64.wrap q1 = q1 := wr _ (by omega) (by omega)
  have v2 : IntKind.i64.wrap q2 = q2 := wr _ (by omega) (by omega)
  have v3 : IntKind.i64.wrap q3 = q3 := wr _ (by omega) (by omega)
  have w01 : IntKind.i64.wrap (q0 + q1) = q0 + q1 := wr _ (by omega) (by omega)
  have w30 : IntKind.i64.wrap (c.nd w + 30) = c.nd w + 30 := wr _ (by omega) (by omega)
  have nz : ¬ (c.nd w + 30 = 0) := by omega
  have tm := tm_bd (show (0 : Int) ≤ q0 + q1 by omega) (show (0 : Int) < c.nd w + 30 by omega)
  obtain ⟨m, hm⟩ : ∃ m, (q0 + q1).tmod (c.nd w + 30) = m := ⟨_, rfl⟩
  rw [hm] at tm
  obtain ⟨n, hn⟩ : ∃ n, 1 + m = n := ⟨_, rfl⟩
  have w1m : IntKind.i64.wrap (1 + m) = n := by rw [wr _ (by omega) (by omega)]; exact hn
  have n1 : 1 ≤ n := by omega
  have n2 : n ≤ 290 := by omega
  have eG : errG c w n = 0 := by unfold errG; rw [if_neg (by simp [eO]), inB_ok (by omega) (by omega)]; rfl
  have c33 := t33 (n := n) v' hs (by omega)
  have n1' : ¬ n < 1 := by omega
  have emb : ∀ i : Nat, FV.int (i : Nat) ∈ ints (numF w.length) ↔ i < w.length := fun i => by
    unfold ints
    rw [List.mem_map]
    constructor
    · rintro ⟨z, hz, e⟩
      have := numF_mem.1 hz
      simp at e
      omega
    · intro h
      exact ⟨_, numF_mem.2 ⟨by omega, by omega⟩, rfl⟩
  have c59 := fun (y : List Int) (p : FV → Bool) (hp : ∀ i : Nat, i < w.length → p (.int (i : Nat)) = y.contains (i : Int)) => t59 (s := .list false (ints w)) (w := w) (y := y) (g := gOf (ints (numF w.length)) p) hs (by omega) (fun i hi => by rw [gOf_mem ((emb i).2 hi), hp i hi])
  have wz : ¬ ((w.length : Int) = 0) := by omega
  have tj := tm_bd b3.1 (show (0 : Int) < (w.length : Nat) by omega)
  obtain ⟨j, hj⟩ : ∃ j : Nat, q3.tmod (w.length : Nat) = (j : Nat) := ⟨(q3.tmod (w.length : Nat)).toNat, by omega⟩
  rw [hj] at tj
  have c34 := t34 (at' := (j : Int)) (n := n) v' hs (by omega)
  cases hL : c.lf w n with
  | none =>
    have eF : errF c w n = 9 := by simp [errF, eG, hL]
    rw [eF, if_neg (by decide)] at c33
    refine w11 ?_
    dsimp only [c11, sop, gop, nop, qmv, qsg, qex, qld, qcl, qln, qix, qbo, qt, qi]
    simp -implicitDefEqProofs only [go_sem, simprocAttr, op, u8, oL]
    refine call1 [] false (c50) ?_
    simp -implicitDefEqProofs only [go_sem, simprocAttr]
    refine call1 [] false (c51) ?_
    simp -implicitDefEqProofs only [go_sem, simprocAttr, o1, o2]
    refine W_opsD _ _ _ (Vs []) ?_ ?_
    · decide
    simp -implicitDefEqProofs only [go_sem, simprocAttr, u8, v0, v1, w01, o1, o2]
    refine callD [] false [.fo (c.fv sw sp), .fo (.list false (ints w))] [] c54 ⟨rfl, rfl, trivial⟩ rfl (.inl rfl) ?_
    simp -implicitDefEqProofs only [go_sem, simprocAttr, w30, nz, hm, w1m]
    refine W_opsD _ _ _ (Vs [[], [], [], [], [], [], [], [], [], [10], [10]]) ?_ ?_
    · decide
    simp -implicitDefEqProofs only [go_sem, simprocAttr, o1, o2]
    refine callD [] false [.fo (c.fv sw sp)] [] c52 ⟨rfl, trivial⟩ rfl (.inl rfl) ?_
    simp -implicitDefEqProofs only [go_sem, simprocAttr]
    refine callD [] false [.fo (.list false (ints w))] [] c53 ⟨rfl, trivial⟩ rfl (.inl rfl) ?_
    simp -implicitDefEqProofs only [go_sem, simprocAttr]
    refine callD [] false [.fo (c.fv (swC c) (spC c)), .fo (.list false (ints w)), .fo (.int n)] [] c33 ⟨rfl, rfl, rfl, trivial⟩ rfl (.inl rfl) ?_
    simp -implicitDefEqProofs only [go_sem, simprocAttr]
    refine lpL (β := Unit) 146 [16] 300 [] w (by omega) (fun _ _ _ => True) (fun k _ ρ h => ρ 16 = .fv (.int (k : Nat))) () trivial ?_ ?_ ?_
    · simp -implicitDefEqProofs only [go_sem, simprocAttr]
    · rintro _ ρ h _ r16
      have nl : ¬ ((w.length : Int) < (w.length : Nat)) := by omega
      simp -implicitDefEqProofs only [go_sem, simprocAttr, r16, ints_length, nl]
      simp -implicitDefEqProofs only [go_sem, simprocAttr, u8, v3, wz, hj]
      refine W_opsD _ _ _ (Vs []) ?_ ?_
      · decide
      simp -implicitDefEqProofs only [go_sem, simprocAttr, o1, o2]
      refine callD [] false [.fo (c.fv sw sp)] [] c52 ⟨rfl, trivial⟩ rfl (.inl rfl) ?_
      simp -implicitDefEqProofs only [go_sem, simprocAttr]
      refine call1 [] false (c53) ?_
      simp -implicitDefEqProofs only [go_sem, simprocAttr]
      refine call1 [] false (c34) ?_
      simp -implicitDefEqProofs only [go_sem, simprocAttr]
      have wne : w ≠ [] := fun e => by rw [e] at k1; simp at k1
      have c53o := t53o hs (by omega) wne
      have Wne : c.W ≠ [] := fun e => by rw [e] at n6; simp at n6
      have hnd := fun {z : Int} (z0 : 1 ≤ z) (z1 : z ≤ 30) => wid_nd ok wb (show (0 : Int) ≤ (j : Int) by omega) (by omega) z0 z1
      have hnd' := fun {z : Int} (z0 : 1 ≤ z) (z1 : z ≤ 30) => show (c.wid z).nd (w.set j (c.W.length : Nat)) = c.side w (j : Int) + z from hnd z0 z1
      have jlt : (j : Int) < (w.length : Nat) := tj.2
      by_cases hn3 : n ≤ c.side w (j : Int)
      · have eP : errP c w (j : Int) n = 8 := by
          unfold errP
          rw [if_neg (by simp [eO]), if_neg (by rw [inB_ok (by omega) (by omega)]; simp), if_neg (by rw [inB_ok (by omega) (by omega)]; simp), if_pos hn3]
        have eS : decide (c.side w (j : Int) + 1 ≤ n) = false := decide_eq_false (by omega)
        have bS : ((1 : Int) == 0) = false := by decide
        simp -implicitDefEqProofs only [go_sem, simprocAttr, eP]
        refine lp (n := 4) (lpStep ?_)
        simp -implicitDefEqProofs only [go_sem, simprocAttr]
        refine lpStep ?_
        simp -implicitDefEqProofs only [go_sem, simprocAttr, o1, o2]
        have c54m := t54 (c := c.more (1)) (sw := .list false (ints (c.W ++ [1]))) (sp := .list false (c.P.map tF)) (s := .list false (ints (w.set j (c.W.length : Nat)))) (w := w.set j (c.W.length : Nat)) ⟨rfl, rfl, by simp [Cs.more]; omega, by simp [Cs.more]; omega⟩ (more_rk ok (by decide) (by decide)) ⟨rfl, by simp; omega, fun x hx => by
          simp only [Cs.more, List.length_append, List.length_singleton]
          rcases List.mem_or_eq_of_mem_set hx with h | h
          · have := wb x h; omega
          · omega⟩
        rw [more_nd, hnd' (by decide) (by decide)] at c54m
        refine callIH 1000 [] (a52 v (by omega) (by omega) Wne) (ex_own c _) ?_
        rintro lv h3 ⟨rfl, p5, p6⟩
        simp -implicitDefEqProofs only [go_sem, simprocAttr, Kl_eq]
        refine app_gl (by simp -implicitDefEqProofs only [go_sem, simprocAttr, p5]; rfl) idx_22 (by simp -implicitDefEqProofs only [go_sem, simprocAttr]; rfl) (by simp [FV.cells]) (by simp -implicitDefEqProofs only [go_sem, simprocAttr]) (by simp [byt_3, ints]; omega) (by simp [maxLen, ints]; omega) (by simp) ?_
        simp -implicitDefEqProofs only [go_sem, simprocAttr]
        refine call1 [] false (c53o) ?_
        simp -implicitDefEqProofs only [go_sem, simprocAttr, ints_length, jlt, lenV_ls v.w]
        refine sto_elem (by rfl) (by rfl) (by rfl) (by simp -implicitDefEqProofs only [go_sem, simprocAttr]; rfl) (ints_getJ (l := w) (i := j) (by omega)) (by decide) ?_
        simp -implicitDefEqProofs only [go_sem, simprocAttr, FV.withCells, ints_set]
        refine call0 [1005, 1006, 221] false c54m (by simp -implicitDefEqProofs only [go_sem, simprocAttr, p5, p6, Cs.more, ints, List.map_append, List.map_cons, List.map_nil]) (.inl rfl) ?_
        simp -implicitDefEqProofs only [go_sem, simprocAttr, p5, p6, eqBz, eS, bS]
        refine lpStep ?_
        simp -implicitDefEqProofs only [go_sem, simprocAttr]
        refine call1 [] false (t17) ?_
        simp -implicitDefEqProofs only [go_sem, simprocAttr]
        exact ret_fv
      · have eP : errP c w (j : Int) n = 0 := by
          unfold errP
          rw [if_neg (by simp [eO]), if_neg (by rw [inB_ok (by omega) (by omega)]; simp), if_neg (by rw [inB_ok (by omega) (by omega)]; simp), if_neg hn3]
        obtain ⟨mo, hmo⟩ : ∃ mo, min 30 (n - c.side w (j : Int)) = mo := ⟨_, rfl⟩
        have m1 : 1 ≤ mo := by omega
        have m2 : mo ≤ 30 := by omega
        have m1' : ¬ mo < 1 := by omega
        have m2' : ¬ 30 < mo := by omega
        have eS : decide (c.side w (j : Int) + mo ≤ n) = true := decide_eq_true (by omega)
        have em1 : mo ≤ mo + 1 := by omega
        have em5 : mo + 1 ≤ mo + 1 := by omega
        have wm1 : IntKind.i64.wrap (mo + 1) = mo + 1 := wr _ (by omega) (by omega)
        have em2 : (mo + 1 == mo) = false := beq_eq_false_iff_ne.2 (by omega)
        have em3 : ¬ mo + 1 < 1 := by omega
        have em4 : ¬ mo + 1 + 1 ≤ mo + 1 := by omega
        have wm2 : IntKind.i64.wrap (mo + 1 + 1) = mo + 1 + 1 := wr _ (by omega) (by omega)
        have bS : (mo == mo) = true := by simp
        simp -implicitDefEqProofs only [go_sem, simprocAttr, eP, hmo, m1', m2']
        refine lp (n := 4) (lpStep ?_)
        simp -implicitDefEqProofs only [go_sem, simprocAttr, wm1, em1, m1', m2', o1, o2]
        have c54m := t54 (c := c.more (mo)) (sw := .list false (ints (c.W ++ [mo]))) (sp := .list false (c.P.map tF)) (s := .list false (ints (w.set j (c.W.length : Nat)))) (w := w.set j (c.W.length : Nat)) ⟨rfl, rfl, by simp [Cs.more]; omega, by simp [Cs.more]; omega⟩ (more_rk ok (by omega) (by omega)) ⟨rfl, by simp; omega, fun x hx => by
          simp only [Cs.more, List.length_append, List.length_singleton]
          rcases List.mem_or_eq_of_mem_set hx with h | h
          · have := wb x h; omega
          · omega⟩
        rw [more_nd, hnd' (by omega) (by omega)] at c54m
        refine callIH 1000 [] (a52 v (by omega) (by omega) Wne) (ex_own c _) ?_
        rintro lv h3 ⟨rfl, p5, p6⟩
        simp -implicitDefEqProofs only [go_sem, simprocAttr, Kl_eq]
        refine app_gl (by simp -implicitDefEqProofs only [go_sem, simprocAttr, p5]; rfl) idx_22 (by simp -implicitDefEqProofs only [go_sem, simprocAttr]; rfl) (by simp [FV.cells]) (by simp -implicitDefEqProofs only [go_sem, simprocAttr]) (by simp [byt_3, ints]; omega) (by simp [maxLen, ints]; omega) (by simp) ?_
        simp -implicitDefEqProofs only [go_sem, simprocAttr]
        refine call1 [] false (c53o) ?_
        simp -implicitDefEqProofs only [go_sem, simprocAttr, ints_length, jlt, lenV_ls v.w]
        refine sto_elem (by rfl) (by rfl) (by rfl) (by simp -implicitDefEqProofs only [go_sem, simprocAttr]; rfl) (ints_getJ (l := w) (i := j) (by omega)) (by decide) ?_
        simp -implicitDefEqProofs only [go_sem, simprocAttr, FV.withCells, ints_set]
        refine call0 [1005, 1006, 221] false c54m (by simp -implicitDefEqProofs only [go_sem, simprocAttr, p5, p6, Cs.more, ints, List.map_append, List.map_cons, List.map_nil]) (.inl rfl) ?_
        simp -implicitDefEqProofs only [go_sem, simprocAttr, p5, p6, eqBz, eS, bS]
        refine lpStep ?_
        by_cases h30 : 30 < mo + 1
        · simp -implicitDefEqProofs only [go_sem, simprocAttr, wm1, wm2, em5, em3, h30]
          refine lpStep ?_
          simp -implicitDefEqProofs only [go_sem, simprocAttr, wm1, wm2, em4]
          refine call1 [] false (t17) ?_
          simp -implicitDefEqProofs only [go_sem, simprocAttr]
          exact ret_fv
        · have eS2 : decide (c.side w (j : Int) + (mo + 1) ≤ n) = false := decide_eq_false (by omega)
          simp -implicitDefEqProofs only [go_sem, simprocAttr, wm1, wm2, em5, em3, h30, o1, o2]
          have c54m := t54 (c := c.more (mo + 1)) (sw := .list false (ints (c.W ++ [mo + 1]))) (sp := .list false (c.P.map tF)) (s := .list false (ints (w.set j (c.W.length : Nat)))) (w := w.set j (c.W.length : Nat)) ⟨rfl, rfl, by simp [Cs.more]; omega, by simp [Cs.more]; omega⟩ (more_rk ok (by omega) (by omega)) ⟨rfl, by simp; omega, fun x hx => by
            simp only [Cs.more, List.length_append, List.length_singleton]
            rcases List.mem_or_eq_of_mem_set hx with h | h
            · have := wb x h; omega
            · omega⟩
          rw [more_nd, hnd' (by omega) (by omega)] at c54m
          refine callIH 1000 [] (a52 v (by omega) (by omega) Wne) (ex_own c _) ?_
          rintro lv h3 ⟨rfl, p5, p6⟩
          simp -implicitDefEqProofs only [go_sem, simprocAttr, Kl_eq]
          refine app_gl (by simp -implicitDefEqProofs only [go_sem, simprocAttr, p5]; rfl) idx_22 (by simp -implicitDefEqProofs only [go_sem, simprocAttr]; rfl) (by simp [FV.cells]) (by simp -implicitDefEqProofs only [go_sem, simprocAttr]) (by simp [byt_3, ints]; omega) (by simp [maxLen, ints]; omega) (by simp) ?_
          simp -implicitDefEqProofs only [go_sem, simprocAttr]
          refine call1 [] false (c53o) ?_
          simp -implicitDefEqProofs only [go_sem, simprocAttr, ints_length, jlt, lenV_ls v.w]
          refine sto_elem (by rfl) (by rfl) (by rfl) (by simp -implicitDefEqProofs only [go_sem, simprocAttr]; rfl) (ints_getJ (l := w) (i := j) (by omega)) (by decide) ?_
          simp -implicitDefEqProofs only [go_sem, simprocAttr, FV.withCells, ints_set]
          refine call0 [1005, 1006, 221] false c54m (by simp -implicitDefEqProofs only [go_sem, simprocAttr, p5, p6, Cs.more, ints, List.map_append, List.map_cons, List.map_nil]) (.inl rfl) ?_
          simp -implicitDefEqProofs only [go_sem, simprocAttr, p5, p6, eqBz, eS2, em2]
          refine lpStep ?_
          simp -implicitDefEqProofs only [go_sem, simprocAttr, wm1, wm2, em4]
          refine call1 [] false (t17) ?_
          simp -implicitDefEqProofs only [go_sem, simprocAttr]
          exact ret_fv
    · rintro a xs k _ ρ h ha hk hm hk' hwk _ r16
      have := lf_none hL ha
      have na : ¬ c.nd [a] ≤ n := by omega
      have s1 : (k : Int) ≤ ((k + 1 : Nat) : Int) := by omega
      have s2 : ((k + 1 : Nat) : Int) ≤ (w.length : Nat) := by omega
      have s3 : (∀ x : FV, x ∈ ints w → x.cells.length = 1) = True := eq_true fun x hx => (ints_elem w x hx).1
      have s4 : List.drop k (List.take (k + 1) (ints w)) = ints [a] := by
        rw [show ints w = w.map .int from rfl, ← List.map_take, ← List.map_drop, List.take_add_one, ha, List.drop_append, List.drop_of_length_le (by simp; omega), show k - (w.take k).length = 0 by simp; omega]
        rfl
      have c54a := t54 (s := .list false (ints [a])) (w := [a]) v ok.rk ⟨rfl, by simp, fun x hx => by simp at hx; subst hx; exact wb _ hm⟩
      simp -implicitDefEqProofs only [go_sem, simprocAttr, r16, ints_length, hk', o1, o2, hwk, s1, s2, s3, s4]
      refine call1 [] false (c54a) ?_
      simp -implicitDefEqProofs only [go_sem, simprocAttr, na, r16, hwk]
      refine nxtL (I := fun _ _ _ => True) () trivial ?_
      simp -implicitDefEqProofs only [go_sem, simprocAttr]
  | some x =>
    have hS := lf_some hL
    by_cases x0 : x = []
    · have eF : errF c w n = 6 := by simp [errF, eG, hL, x0]
      rw [eF, if_neg (by decide)] at c33
      have nl : ¬ n < c.nd w := by
        have := hS.p
        rw [x0, woF_nil] at this
        omega
      refine w11 ?_
      dsimp only [c11, sop, gop, nop, qmv, qsg, qex, qld, qcl, qln, qix, qbo, qt, qi]
      simp -implicitDefEqProofs only [go_sem, simprocAttr, op, u8, oL]
      refine call1 [] false (c50) ?_
      simp -implicitDefEqProofs only [go_sem, simprocAttr]
      refine call1 [] false (c51) ?_
      simp -implicitDefEqProofs only [go_sem, simprocAttr, o1, o2]
      refine W_opsD _ _ _ (Vs []) ?_ ?_
      · decide
      simp -implicitDefEqProofs only [go_sem, simprocAttr, u8, v0, v1, w01, o1, o2]
      refine callD [] false [.fo (c.fv sw sp), .fo (.list false (ints w))] [] c54 ⟨rfl, rfl, trivial⟩ rfl (.inl rfl) ?_
      simp -implicitDefEqProofs only [go_sem, simprocAttr, w30, nz, hm, w1m]
      refine W_opsD _ _ _ (Vs [[], [], [], [], [], [], [], [], [], [10], [10]]) ?_ ?_
      · decide
      simp -implicitDefEqProofs only [go_sem, simprocAttr, o1, o2]
      refine callD [] false [.fo (c.fv sw sp)] [] c52 ⟨rfl, trivial⟩ rfl (.inl rfl) ?_
      simp -implicitDefEqProofs only [go_sem, simprocAttr]
      refine callD [] false [.fo (.list false (ints w))] [] c53 ⟨rfl, trivial⟩ rfl (.inl rfl) ?_
      simp -implicitDefEqProofs only [go_sem, simprocAttr]
      refine callD [] false [.fo (c.fv (swC c) (spC c)), .fo (.list false (ints w)), .fo (.int n)] [] c33 ⟨rfl, rfl, rfl, trivial⟩ rfl (.inl rfl) ?_
      simp -implicitDefEqProofs only [go_sem, simprocAttr]
      refine call1 [] false (c54) ?_
      simp -implicitDefEqProofs only [go_sem, simprocAttr, nl]
      simp -implicitDefEqProofs only [go_sem, simprocAttr, u8, v3, wz, hj]
      refine W_opsD _ _ _ (Vs []) ?_ ?_
      · decide
      simp -implicitDefEqProofs only [go_sem, simprocAttr, o1, o2]
      refine callD [] false [.fo (c.fv sw sp)] [] c52 ⟨rfl, trivial⟩ rfl (.inl rfl) ?_
      simp -implicitDefEqProofs only [go_sem, simprocAttr]
      refine call1 [] false (c53) ?_
      simp -implicitDefEqProofs only [go_sem, simprocAttr]
      refine call1 [] false (c34) ?_
      simp -implicitDefEqProofs only [go_sem, simprocAttr]
      have wne : w ≠ [] := fun e => by rw [e] at k1; simp at k1
      have c53o := t53o hs (by omega) wne
      have Wne : c.W ≠ [] := fun e => by rw [e] at n6; simp at n6
      have hnd := fun {z : Int} (z0 : 1 ≤ z) (z1 : z ≤ 30) => wid_nd ok wb (show (0 : Int) ≤ (j : Int) by omega) (by omega) z0 z1
      have hnd' := fun {z : Int} (z0 : 1 ≤ z) (z1 : z ≤ 30) => show (c.wid z).nd (w.set j (c.W.length : Nat)) = c.side w (j : Int) + z from hnd z0 z1
      have jlt : (j : Int) < (w.length : Nat) := tj.2
      by_cases hn3 : n ≤ c.side w (j : Int)
      · have eP : errP c w (j : Int) n = 8 := by
          unfold errP
          rw [if_neg (by simp [eO]), if_neg (by rw [inB_ok (by omega) (by omega)]; simp), if_neg (by rw [inB_ok (by omega) (by omega)]; simp), if_pos hn3]
        have eS : decide (c.side w (j : Int) + 1 ≤ n) = false := decide_eq_false (by omega)
        have bS : ((1 : Int) == 0) = false := by decide
        simp -implicitDefEqProofs only [go_sem, simprocAttr, eP]
        refine lp (n := 4) (lpStep ?_)
        simp -implicitDefEqProofs only [go_sem, simprocAttr]
        refine lpStep ?_
        simp -implicitDefEqProofs only [go_sem, simprocAttr, o1, o2]
        have c54m := t54 (c := c.more (1)) (sw := .list false (ints (c.W ++ [1]))) (sp := .list false (c.P.map tF)) (s := .list false (ints (w.set j (c.W.length : Nat)))) (w := w.set j (c.W.length : Nat)) ⟨rfl, rfl, by simp [Cs.more]; omega, by simp [Cs.more]; omega⟩ (more_rk ok (by decide) (by decide)) ⟨rfl, by simp; omega, fun x hx => by
          simp only [Cs.more, List.length_append, List.length_singleton]
          rcases List.mem_or_eq_of_mem_set hx with h | h
          · have := wb x h; omega
          · omega⟩
        rw [more_nd, hnd' (by decide) (by decide)] at c54m
        refine callIH 1000 [] (a52 v (by omega) (by omega) Wne) (ex_own c _) ?_
        rintro lv h3 ⟨rfl, p5, p6⟩
        simp -implicitDefEqProofs only [go_sem, simprocAttr, Kl_eq]
        refine app_gl (by simp -implicitDefEqProofs only [go_sem, simprocAttr, p5]; rfl) idx_22 (by simp -implicitDefEqProofs only [go_sem, simprocAttr]; rfl) (by simp [FV.cells]) (by simp -implicitDefEqProofs only [go_sem, simprocAttr]) (by simp [byt_3, ints]; omega) (by simp [maxLen, ints]; omega) (by simp) ?_
        simp -implicitDefEqProofs only [go_sem, simprocAttr]
        refine call1 [] false (c53o) ?_
        simp -implicitDefEqProofs only [go_sem, simprocAttr, ints_length, jlt, lenV_ls v.w]
        refine sto_elem (by rfl) (by rfl) (by rfl) (by simp -implicitDefEqProofs only [go_sem, simprocAttr]; rfl) (ints_getJ (l := w) (i := j) (by omega)) (by decide) ?_
        simp -implicitDefEqProofs only [go_sem, simprocAttr, FV.withCells, ints_set]
        refine call0 [1005, 1006, 221] false c54m (by simp -implicitDefEqProofs only [go_sem, simprocAttr, p5, p6, Cs.more, ints, List.map_append, List.map_cons, List.map_nil]) (.inl rfl) ?_
        simp -implicitDefEqProofs only [go_sem, simprocAttr, p5, p6, eqBz, eS, bS]
        refine lpStep ?_
        simp -implicitDefEqProofs only [go_sem, simprocAttr]
        refine call1 [] false (t17) ?_
        simp -implicitDefEqProofs only [go_sem, simprocAttr]
        exact ret_fv
      · have eP : errP c w (j : Int) n = 0 := by
          unfold errP
          rw [if_neg (by simp [eO]), if_neg (by rw [inB_ok (by omega) (by omega)]; simp), if_neg (by rw [inB_ok (by omega) (by omega)]; simp), if_neg hn3]
        obtain ⟨mo, hmo⟩ : ∃ mo, min 30 (n - c.side w (j : Int)) = mo := ⟨_, rfl⟩
        have m1 : 1 ≤ mo := by omega
        have m2 : mo ≤ 30 := by omega
        have m1' : ¬ mo < 1 := by omega
        have m2' : ¬ 30 < mo := by omega
        have eS : decide (c.side w (j : Int) + mo ≤ n) = true := decide_eq_true (by omega)
        have em1 : mo ≤ mo + 1 := by omega
        have em5 : mo + 1 ≤ mo + 1 := by omega
        have wm1 : IntKind.i64.wrap (mo + 1) = mo + 1 := wr _ (by omega) (by omega)
        have em2 : (mo + 1 == mo) = false := beq_eq_false_iff_ne.2 (by omega)
        have em3 : ¬ mo + 1 < 1 := by omega
        have em4 : ¬ mo + 1 + 1 ≤ mo + 1 := by omega
        have wm2 : IntKind.i64.wrap (mo + 1 + 1) = mo + 1 + 1 := wr _ (by omega) (by omega)
        have bS : (mo == mo) = true := by simp
        simp -implicitDefEqProofs only [go_sem, simprocAttr, eP, hmo, m1', m2']
        refine lp (n := 4) (lpStep ?_)
        simp -implicitDefEqProofs only [go_sem, simprocAttr, wm1, em1, m1', m2', o1, o2]
        have c54m := t54 (c := c.more (mo)) (sw := .list false (ints (c.W ++ [mo]))) (sp := .list false (c.P.map tF)) (s := .list false (ints (w.set j (c.W.length : Nat)))) (w := w.set j (c.W.length : Nat)) ⟨rfl, rfl, by simp [Cs.more]; omega, by simp [Cs.more]; omega⟩ (more_rk ok (by omega) (by omega)) ⟨rfl, by simp; omega, fun x hx => by
          simp only [Cs.more, List.length_append, List.length_singleton]
          rcases List.mem_or_eq_of_mem_set hx with h | h
          · have := wb x h; omega
          · omega⟩
        rw [more_nd, hnd' (by omega) (by omega)] at c54m
        refine callIH 1000 [] (a52 v (by omega) (by omega) Wne) (ex_own c _) ?_
        rintro lv h3 ⟨rfl, p5, p6⟩
        simp -implicitDefEqProofs only [go_sem, simprocAttr, Kl_eq]
        refine app_gl (by simp -implicitDefEqProofs only [go_sem, simprocAttr, p5]; rfl) idx_22 (by simp -implicitDefEqProofs only [go_sem, simprocAttr]; rfl) (by simp [FV.cells]) (by simp -implicitDefEqProofs only [go_sem, simprocAttr]) (by simp [byt_3, ints]; omega) (by simp [maxLen, ints]; omega) (by simp) ?_
        simp -implicitDefEqProofs only [go_sem, simprocAttr]
        refine call1 [] false (c53o) ?_
        simp -implicitDefEqProofs only [go_sem, simprocAttr, ints_length, jlt, lenV_ls v.w]
        refine sto_elem (by rfl) (by rfl) (by rfl) (by simp -implicitDefEqProofs only [go_sem, simprocAttr]; rfl) (ints_getJ (l := w) (i := j) (by omega)) (by decide) ?_
        simp -implicitDefEqProofs only [go_sem, simprocAttr, FV.withCells, ints_set]
        refine call0 [1005, 1006, 221] false c54m (by simp -implicitDefEqProofs only [go_sem, simprocAttr, p5, p6, Cs.more, ints, List.map_append, List.map_cons, List.map_nil]) (.inl rfl) ?_
        simp -implicitDefEqProofs only [go_sem, simprocAttr, p5, p6, eqBz, eS, bS]
        refine lpStep ?_
        by_cases h30 : 30 < mo + 1
        · simp -implicitDefEqProofs only [go_sem, simprocAttr, wm1, wm2, em5, em3, h30]
          refine lpStep ?_
          simp -implicitDefEqProofs only [go_sem, simprocAttr, wm1, wm2, em4]
          refine call1 [] false (t17) ?_
          simp -implicitDefEqProofs only [go_sem, simprocAttr]
          exact ret_fv
        · have eS2 : decide (c.side w (j : Int) + (mo + 1) ≤ n) = false := decide_eq_false (by omega)
          simp -implicitDefEqProofs only [go_sem, simprocAttr, wm1, wm2, em5, em3, h30, o1, o2]
          have c54m := t54 (c := c.more (mo + 1)) (sw := .list false (ints (c.W ++ [mo + 1]))) (sp := .list false (c.P.map tF)) (s := .list false (ints (w.set j (c.W.length : Nat)))) (w := w.set j (c.W.length : Nat)) ⟨rfl, rfl, by simp [Cs.more]; omega, by simp [Cs.more]; omega⟩ (more_rk ok (by omega) (by omega)) ⟨rfl, by simp; omega, fun x hx => by
            simp only [Cs.more, List.length_append, List.length_singleton]
            rcases List.mem_or_eq_of_mem_set hx with h | h
            · have := wb x h; omega
            · omega⟩
          rw [more_nd, hnd' (by omega) (by omega)] at c54m
          refine callIH 1000 [] (a52 v (by omega) (by omega) Wne) (ex_own c _) ?_
          rintro lv h3 ⟨rfl, p5, p6⟩
          simp -implicitDefEqProofs only [go_sem, simprocAttr, Kl_eq]
          refine app_gl (by simp -implicitDefEqProofs only [go_sem, simprocAttr, p5]; rfl) idx_22 (by simp -implicitDefEqProofs only [go_sem, simprocAttr]; rfl) (by simp [FV.cells]) (by simp -implicitDefEqProofs only [go_sem, simprocAttr]) (by simp [byt_3, ints]; omega) (by simp [maxLen, ints]; omega) (by simp) ?_
          simp -implicitDefEqProofs only [go_sem, simprocAttr]
          refine call1 [] false (c53o) ?_
          simp -implicitDefEqProofs only [go_sem, simprocAttr, ints_length, jlt, lenV_ls v.w]
          refine sto_elem (by rfl) (by rfl) (by rfl) (by simp -implicitDefEqProofs only [go_sem, simprocAttr]; rfl) (ints_getJ (l := w) (i := j) (by omega)) (by decide) ?_
          simp -implicitDefEqProofs only [go_sem, simprocAttr, FV.withCells, ints_set]
          refine call0 [1005, 1006, 221] false c54m (by simp -implicitDefEqProofs only [go_sem, simprocAttr, p5, p6, Cs.more, ints, List.map_append, List.map_cons, List.map_nil]) (.inl rfl) ?_
          simp -implicitDefEqProofs only [go_sem, simprocAttr, p5, p6, eqBz, eS2, em2]
          refine lpStep ?_
          simp -implicitDefEqProofs only [go_sem, simprocAttr, wm1, wm2, em4]
          refine call1 [] false (t17) ?_
          simp -implicitDefEqProofs only [go_sem, simprocAttr]
          exact ret_fv
    · have eF : errF c w n = 0 := by
        cases x with
        | nil => exact absurd rfl x0
        | cons a b => simp [errF, eG, hL]
      rw [eF, if_pos rfl, hL] at c33
      have hx0 : lsOf (optN (some x)) = some (ints x) := lsOf_lstN _
      generalize optN (some x) = sx at *
      have oX := ls_one hx0
      have lcX := ls_lcells hx0
      have xne : (((x.length : Nat) : Int) == 0) = false := beq_eq_false_iff_ne.2 (by have := List.length_pos_iff.2 x0; omega)
      have xl := hS.l
      have xge : ¬ ((w.length : Nat) : Int) ≤ (x.length : Nat) := by omega
      have c60 := fun (i : Int) => t60 (i := i) hx0 (by omega)
      have c54n := fun (y : List Int) => t54 (s := .list false (ints (woF y w 0))) (w := woF y w 0) v ok.rk ⟨rfl, by have := (woF_mem (pl := y) w 0).2; omega, fun x hx => wb x ((woF_mem w 0).1 x hx)⟩
      have nx : ¬ n < c.nd (woF x w 0) := by have := hS.p; omega
      have xL : x.length ≤ 7 := by omega
      refine w11 ?_
      dsimp only [c11, sop, gop, nop, qmv, qsg, qex, qld, qcl, qln, qix, qbo, qt, qi]
      simp -implicitDefEqProofs only [go_sem, simprocAttr, op, u8, oL]
      refine call1 [] false (c50) ?_
      simp -implicitDefEqProofs only [go_sem, simprocAttr]
      refine call1 [] false (c51) ?_
      simp -implicitDefEqProofs only [go_sem, simprocAttr, o1, o2]
      refine W_opsD _ _ _ (Vs []) ?_ ?_
      · decide
      simp -implicitDefEqProofs only [go_sem, simprocAttr, u8, v0, v1, w01, o1, o2]
      refine callD [] false [.fo (c.fv sw sp), .fo (.list false (ints w))] [] c54 ⟨rfl, rfl, trivial⟩ rfl (.inl rfl) ?_
      simp -implicitDefEqProofs only [go_sem, simprocAttr, w30, nz, hm, w1m]
      refine W_opsD _ _ _ (Vs [[], [], [], [], [], [], [], [], [], [10], [10]]) ?_ ?_
      · decide
      simp -implicitDefEqProofs only [go_sem, simprocAttr, o1, o2]
      refine callD [] false [.fo (c.fv sw sp)] [] c52 ⟨rfl, trivial⟩ rfl (.inl rfl) ?_
      simp -implicitDefEqProofs only [go_sem, simprocAttr]
      refine callD [] false [.fo (.list false (ints w))] [] c53 ⟨rfl, trivial⟩ rfl (.inl rfl) ?_
      simp -implicitDefEqProofs only [go_sem, simprocAttr]
      refine callD [] false [.fo (c.fv (swC c) (spC c)), .fo (.list false (ints w)), .fo (.int n)] [] c33 ⟨rfl, rfl, rfl, trivial⟩ rfl (.inl rfl) ?_
      simp -implicitDefEqProofs only [go_sem, simprocAttr]
      simp -implicitDefEqProofs only [go_sem, simprocAttr, oX, lcX]
      refine W_opsD _ _ _ (Vs [[], [], [], [], [], [], [], [], [], [], [], [], [], [], [67]]) ?_ ?_
      · decide
      simp -implicitDefEqProofs only [go_sem, simprocAttr, oX, lcX, lenV_ls hx0, ints_length, xne, xge, o1, o2]
      refine callD [] true [.fn (gOf (ints (numF w.length)) fun z => x.contains z.toI)] [.ptr [.list false (ints w)]] (c59 x _ fun i hi => rfl) ⟨argFn (f := 60) (caps := [.ptr [sx]]) (c60 0).1 (by simp -implicitDefEqProofs only [go_sem, simprocAttr]) fun z hz => ?_, trivial⟩ (by simp -implicitDefEqProofs only [go_sem, simprocAttr]) (.inr (sh_ints _)) ?_
      · obtain ⟨z, _, rfl⟩ := List.mem_map.1 hz
        exact c60 z
      simp -implicitDefEqProofs only [go_sem, simprocAttr]
      refine call0 [67] false (c54n x) (by simp -implicitDefEqProofs only [go_sem, simprocAttr]) (.inl rfl) ?_
      simp -implicitDefEqProofs only [go_sem, simprocAttr, nx]
      have xp : x.Pairwise (· < ·) := List.Pairwise.sublist hS.s (numF_pw _)
      have xb : ∀ y ∈ x, 0 ≤ y ∧ y < w.length := fun y hy => numF_mem.1 (hS.s.subset hy)
      refine lpL (β := Unit) 72 [13] 300 [13, 112] x (by omega) (fun _ _ _ => True) (fun k _ ρ h => ρ 13 = .ptr 13 (h.gen 13) 0 ∧ h.obj 13 = some (.box [.fv (.int (k : Nat))])) () trivial ?_ ?_ ?_
      · simp -implicitDefEqProofs only [go_sem, simprocAttr]
      · rintro _ ρ h _ ⟨r13, o13⟩
        have nl : ¬ ((x.length : Int) < (x.length : Nat)) := by omega
        obtain ⟨t1, t2⟩ := tm_bd b2.1 (show (0 : Int) < (w.length : Nat) by omega)
        obtain ⟨f, hf⟩ : ∃ f : Nat, q2.tmod (w.length : Nat) = (f : Nat) := ⟨(q2.tmod (w.length : Nat)).toNat, by omega⟩
        have c63 := fun {i : Nat} (h : i < w.length) => t63 (sw := .list false (ints w)) (so := sx) (w := w) (out := x) (f := f) (i := i) rfl hx0 (by omega) (by omega) (by have := List.length_pos_iff.2 x0; omega) (by omega) h
        have nr : ¬ c.nd (woF (rotF w.length f (x.length - 1)) w 0) ≤ n := by
          have h1 := rot_few w.length (by omega) f (by omega) (x.length - 1) (by omega)
          have := hS.m (rotF w.length f (x.length - 1)) List.filter_sublist (by have := List.length_pos_iff.2 x0; omega)
          omega
        simp -implicitDefEqProofs only [go_sem, simprocAttr, r13, o13, oX, lcX, lenV_ls hx0, ints_length, nl, u8, v2, wz, hf]
        refine callF [] true [.fn (gOf (ints (numF w.length)) fun z => (rotF w.length f (x.length - 1)).contains z.toI)] [.ptr [.list false (ints w)]] (c59 (rotF w.length f (x.length - 1)) _ fun i hi => rfl) ⟨argFn (f := 63) (caps := [.ptr [.int (f : Nat)], .ptr [.list false (ints w)], .ptr [sx]]) (c63 (i := 0) (by omega)).1 (by simp -implicitDefEqProofs only [go_sem, simprocAttr]) fun z hz => ?_, trivial⟩ (by simp -implicitDefEqProofs only [go_sem, simprocAttr]) (.inr (sh_ints _)) ?_
        · obtain ⟨z, hz2, rfl⟩ := List.mem_map.1 hz
          have zb := numF_mem.1 hz2
          have := c63 (i := z.toNat) (by omega)
          rw [show ((z.toNat : Nat) : Int) = z by omega] at this
          exact this
        simp -implicitDefEqProofs only [go_sem, simprocAttr, o1, o2]
        refine call0 [126] false (c54n (rotF w.length f (x.length - 1))) (by simp -implicitDefEqProofs only [go_sem, simprocAttr]) (.inl rfl) ?_
        simp -implicitDefEqProofs only [go_sem, simprocAttr, nr]
        simp -implicitDefEqProofs only [go_sem, simprocAttr, u8, v3, wz, hj]
        refine W_opsD _ _ _ (Vs []) ?_ ?_
        · decide
        simp -implicitDefEqProofs only [go_sem, simprocAttr, o1, o2]
        refine callD [] false [.fo (c.fv sw sp)] [] c52 ⟨rfl, trivial⟩ rfl (.inl rfl) ?_
        simp -implicitDefEqProofs only [go_sem, simprocAttr]
        refine call1 [] false (c53) ?_
        simp -implicitDefEqProofs only [go_sem, simprocAttr]
        refine call1 [] false (c34) ?_
        simp -implicitDefEqProofs only [go_sem, simprocAttr]
        have wne : w ≠ [] := fun e => by rw [e] at k1; simp at k1
        have c53o := t53o hs (by omega) wne
        have Wne : c.W ≠ [] := fun e => by rw [e] at n6; simp at n6
        have hnd := fun {z : Int} (z0 : 1 ≤ z) (z1 : z ≤ 30) => wid_nd ok wb (show (0 : Int) ≤ (j : Int) by omega) (by omega) z0 z1
        have hnd' := fun {z : Int} (z0 : 1 ≤ z) (z1 : z ≤ 30) => show (c.wid z).nd (w.set j (c.W.length : Nat)) = c.side w (j : Int) + z from hnd z0 z1
        have jlt : (j : Int) < (w.length : Nat) := tj.2
        by_cases hn3 : n ≤ c.side w (j : Int)
        · have eP : errP c w (j : Int) n = 8 := by
            unfold errP
            rw [if_neg (by simp [eO]), if_neg (by rw [inB_ok (by omega) (by omega)]; simp), if_neg (by rw [inB_ok (by omega) (by omega)]; simp), if_pos hn3]
          have eS : decide (c.side w (j : Int) + 1 ≤ n) = false := decide_eq_false (by omega)
          have bS : ((1 : Int) == 0) = false := by decide
          simp -implicitDefEqProofs only [go_sem, simprocAttr, eP]
          refine lp (n := 4) (lpStep ?_)
          simp -implicitDefEqProofs only [go_sem, simprocAttr]
          refine lpStep ?_
          simp -implicitDefEqProofs only [go_sem, simprocAttr, o1, o2]
          have c54m := t54 (c := c.more (1)) (sw := .list false (ints (c.W ++ [1]))) (sp := .list false (c.P.map tF)) (s := .list false (ints (w.set j (c.W.length : Nat)))) (w := w.set j (c.W.length : Nat)) ⟨rfl, rfl, by simp [Cs.more]; omega, by simp [Cs.more]; omega⟩ (more_rk ok (by decide) (by decide)) ⟨rfl, by simp; omega, fun x hx => by
            simp only [Cs.more, List.length_append, List.length_singleton]
            rcases List.mem_or_eq_of_mem_set hx with h | h
            · have := wb x h; omega
            · omega⟩
          rw [more_nd, hnd' (by decide) (by decide)] at c54m
          refine callIH 1000 [] (a52 v (by omega) (by omega) Wne) (ex_own c _) ?_
          rintro lv h3 ⟨rfl, p5, p6⟩
          simp -implicitDefEqProofs only [go_sem, simprocAttr, Kl_eq]
          refine app_gl (by simp -implicitDefEqProofs only [go_sem, simprocAttr, p5]; rfl) idx_22 (by simp -implicitDefEqProofs only [go_sem, simprocAttr]; rfl) (by simp [FV.cells]) (by simp -implicitDefEqProofs only [go_sem, simprocAttr]) (by simp [byt_3, ints]; omega) (by simp [maxLen, ints]; omega) (by simp) ?_
          simp -implicitDefEqProofs only [go_sem, simprocAttr]
          refine call1 [] false (c53o) ?_
          simp -implicitDefEqProofs only [go_sem, simprocAttr, ints_length, jlt, lenV_ls v.w]
          refine sto_elem (by rfl) (by rfl) (by rfl) (by simp -implicitDefEqProofs only [go_sem, simprocAttr]; rfl) (ints_getJ (l := w) (i := j) (by omega)) (by decide) ?_
          simp -implicitDefEqProofs only [go_sem, simprocAttr, FV.withCells, ints_set]
          refine call0 [1005, 1006, 221] false c54m (by simp -implicitDefEqProofs only [go_sem, simprocAttr, p5, p6, Cs.more, ints, List.map_append, List.map_cons, List.map_nil]) (.inl rfl) ?_
          simp -implicitDefEqProofs only [go_sem, simprocAttr, p5, p6, eqBz, eS, bS]
          refine lpStep ?_
          simp -implicitDefEqProofs only [go_sem, simprocAttr]
          refine call1 [] false (t17) ?_
          simp -implicitDefEqProofs only [go_sem, simprocAttr]
          exact ret_fv
        · have eP : errP c w (j : Int) n = 0 := by
            unfold errP
            rw [if_neg (by simp [eO]), if_neg (by rw [inB_ok (by omega) (by omega)]; simp), if_neg (by rw [inB_ok (by omega) (by omega)]; simp), if_neg hn3]
          obtain ⟨mo, hmo⟩ : ∃ mo, min 30 (n - c.side w (j : Int)) = mo := ⟨_, rfl⟩
          have m1 : 1 ≤ mo := by omega
          have m2 : mo ≤ 30 := by omega
          have m1' : ¬ mo < 1 := by omega
          have m2' : ¬ 30 < mo := by omega
          have eS : decide (c.side w (j : Int) + mo ≤ n) = true := decide_eq_true (by omega)
          have em1 : mo ≤ mo + 1 := by omega
          have em5 : mo + 1 ≤ mo + 1 := by omega
          have wm1 : IntKind.i64.wrap (mo + 1) = mo + 1 := wr _ (by omega) (by omega)
          have em2 : (mo + 1 == mo) = false := beq_eq_false_iff_ne.2 (by omega)
          have em3 : ¬ mo + 1 < 1 := by omega
          have em4 : ¬ mo + 1 + 1 ≤ mo + 1 := by omega
          have wm2 : IntKind.i64.wrap (mo + 1 + 1) = mo + 1 + 1 := wr _ (by omega) (by omega)
          have bS : (mo == mo) = true := by simp
          simp -implicitDefEqProofs only [go_sem, simprocAttr, eP, hmo, m1', m2']
          refine lp (n := 4) (lpStep ?_)
          simp -implicitDefEqProofs only [go_sem, simprocAttr, wm1, em1, m1', m2', o1, o2]
          have c54m := t54 (c := c.more (mo)) (sw := .list false (ints (c.W ++ [mo]))) (sp := .list false (c.P.map tF)) (s := .list false (ints (w.set j (c.W.length : Nat)))) (w := w.set j (c.W.length : Nat)) ⟨rfl, rfl, by simp [Cs.more]; omega, by simp [Cs.more]; omega⟩ (more_rk ok (by omega) (by omega)) ⟨rfl, by simp; omega, fun x hx => by
            simp only [Cs.more, List.length_append, List.length_singleton]
            rcases List.mem_or_eq_of_mem_set hx with h | h
            · have := wb x h; omega
            · omega⟩
          rw [more_nd, hnd' (by omega) (by omega)] at c54m
          refine callIH 1000 [] (a52 v (by omega) (by omega) Wne) (ex_own c _) ?_
          rintro lv h3 ⟨rfl, p5, p6⟩
          simp -implicitDefEqProofs only [go_sem, simprocAttr, Kl_eq]
          refine app_gl (by simp -implicitDefEqProofs only [go_sem, simprocAttr, p5]; rfl) idx_22 (by simp -implicitDefEqProofs only [go_sem, simprocAttr]; rfl) (by simp [FV.cells]) (by simp -implicitDefEqProofs only [go_sem, simprocAttr]) (by simp [byt_3, ints]; omega) (by simp [maxLen, ints]; omega) (by simp) ?_
          simp -implicitDefEqProofs only [go_sem, simprocAttr]
          refine call1 [] false (c53o) ?_
          simp -implicitDefEqProofs only [go_sem, simprocAttr, ints_length, jlt, lenV_ls v.w]
          refine sto_elem (by rfl) (by rfl) (by rfl) (by simp -implicitDefEqProofs only [go_sem, simprocAttr]; rfl) (ints_getJ (l := w) (i := j) (by omega)) (by decide) ?_
          simp -implicitDefEqProofs only [go_sem, simprocAttr, FV.withCells, ints_set]
          refine call0 [1005, 1006, 221] false c54m (by simp -implicitDefEqProofs only [go_sem, simprocAttr, p5, p6, Cs.more, ints, List.map_append, List.map_cons, List.map_nil]) (.inl rfl) ?_
          simp -implicitDefEqProofs only [go_sem, simprocAttr, p5, p6, eqBz, eS, bS]
          refine lpStep ?_
          by_cases h30 : 30 < mo + 1
          · simp -implicitDefEqProofs only [go_sem, simprocAttr, wm1, wm2, em5, em3, h30]
            refine lpStep ?_
            simp -implicitDefEqProofs only [go_sem, simprocAttr, wm1, wm2, em4]
            refine call1 [] false (t17) ?_
            simp -implicitDefEqProofs only [go_sem, simprocAttr]
            exact ret_fv
          · have eS2 : decide (c.side w (j : Int) + (mo + 1) ≤ n) = false := decide_eq_false (by omega)
            simp -implicitDefEqProofs only [go_sem, simprocAttr, wm1, wm2, em5, em3, h30, o1, o2]
            have c54m := t54 (c := c.more (mo + 1)) (sw := .list false (ints (c.W ++ [mo + 1]))) (sp := .list false (c.P.map tF)) (s := .list false (ints (w.set j (c.W.length : Nat)))) (w := w.set j (c.W.length : Nat)) ⟨rfl, rfl, by simp [Cs.more]; omega, by simp [Cs.more]; omega⟩ (more_rk ok (by omega) (by omega)) ⟨rfl, by simp; omega, fun x hx => by
              simp only [Cs.more, List.length_append, List.length_singleton]
              rcases List.mem_or_eq_of_mem_set hx with h | h
              · have := wb x h; omega
              · omega⟩
            rw [more_nd, hnd' (by omega) (by omega)] at c54m
            refine callIH 1000 [] (a52 v (by omega) (by omega) Wne) (ex_own c _) ?_
            rintro lv h3 ⟨rfl, p5, p6⟩
            simp -implicitDefEqProofs only [go_sem, simprocAttr, Kl_eq]
            refine app_gl (by simp -implicitDefEqProofs only [go_sem, simprocAttr, p5]; rfl) idx_22 (by simp -implicitDefEqProofs only [go_sem, simprocAttr]; rfl) (by simp [FV.cells]) (by simp -implicitDefEqProofs only [go_sem, simprocAttr]) (by simp [byt_3, ints]; omega) (by simp [maxLen, ints]; omega) (by simp) ?_
            simp -implicitDefEqProofs only [go_sem, simprocAttr]
            refine call1 [] false (c53o) ?_
            simp -implicitDefEqProofs only [go_sem, simprocAttr, ints_length, jlt, lenV_ls v.w]
            refine sto_elem (by rfl) (by rfl) (by rfl) (by simp -implicitDefEqProofs only [go_sem, simprocAttr]; rfl) (ints_getJ (l := w) (i := j) (by omega)) (by decide) ?_
            simp -implicitDefEqProofs only [go_sem, simprocAttr, FV.withCells, ints_set]
            refine call0 [1005, 1006, 221] false c54m (by simp -implicitDefEqProofs only [go_sem, simprocAttr, p5, p6, Cs.more, ints, List.map_append, List.map_cons, List.map_nil]) (.inl rfl) ?_
            simp -implicitDefEqProofs only [go_sem, simprocAttr, p5, p6, eqBz, eS2, em2]
            refine lpStep ?_
            simp -implicitDefEqProofs only [go_sem, simprocAttr, wm1, wm2, em4]
            refine call1 [] false (t17) ?_
            simp -implicitDefEqProofs only [go_sem, simprocAttr]
            exact ret_fv
      · rintro y ys k _ ρ h hy hk hym hk' hwk _ ⟨r13, o13⟩
        have yb := xb y hym
        have y0 : ¬ y < 0 := by omega
        have y1 : ¬ ((w.length : Nat) : Int) ≤ y := by omega
        have c62 := fun (i : Int) => t62 (i := i) hx0 (by omega) xp hy
        have nk : ¬ c.nd (woF (x.eraseIdx k) w 0) ≤ n := by
          have := hS.m (x.eraseIdx k) ((List.eraseIdx_sublist x k).trans hS.s) (by rw [List.length_eraseIdx_of_lt hk]; omega)
          omega
        obtain ⟨k', hkk⟩ : ∃ k' : Nat, (k = 0 ∧ ¬ (0 : Int) < (k : Nat)) ∨ ((0 : Int) < (k : Nat) ∧ k = k' + 1) := ⟨k - 1, by omega⟩
        simp -implicitDefEqProofs only [go_sem, simprocAttr, r13, o13, oX, lcX, lenV_ls hx0, ints_length, hk']
        refine W_opsD _ _ _ (Vs [[], [], [], [], [], [], [], [], [], [], [], [], [], [], [], [], [], [], [], [], [], [], [], [], [], [], [], [], [], [], [], [], [], [], [112]]) ?_ ?_
        · decide
        rcases hkk with ⟨_, k0⟩ | ⟨k0, ek⟩
        · simp -implicitDefEqProofs only [go_sem, simprocAttr, r13, o13, oX, lcX, index_map hx0 idx_22 hy rfl, y0, y1, k0, o1, o2]
          refine callD [] true [.fn (gOf (ints (numF w.length)) fun z => (x.eraseIdx k).contains z.toI)] [.ptr [.list false (ints w)]] (c59 (x.eraseIdx k) _ fun i hi => rfl) ⟨argFn (f := 62) (caps := [.ptr [sx], .ptr [.int (k : Nat)]]) (c62 0).1 (by simp -implicitDefEqProofs only [go_sem, simprocAttr, r13, o13]) fun z hz => ?_, trivial⟩ (by simp -implicitDefEqProofs only [go_sem, simprocAttr]) (.inr (sh_ints _)) ?_
          · obtain ⟨z, _, rfl⟩ := List.mem_map.1 hz
            exact c62 z
          simp -implicitDefEqProofs only [go_sem, simprocAttr]
          refine call0 [112] false (c54n (x.eraseIdx k)) (by simp -implicitDefEqProofs only [go_sem, simprocAttr]) (.inl rfl) ?_
          simp -implicitDefEqProofs only [go_sem, simprocAttr, nk, r13, o13, hwk]
          refine nxtL (I := fun _ _ _ => True) () trivial ?_
          simp -implicitDefEqProofs only [go_sem, simprocAttr]
        · have wk : IntKind.i64.wrap ((k : Int) - 1) = ((k' : Nat) : Int) := by rw [wr _ (by omega) (by omega)]; omega
          obtain ⟨z, hz⟩ : ∃ z, x[k']? = some z := ⟨_, List.getElem?_eq_getElem (by omega)⟩
          have yz : ¬ y ≤ z := by
            have := List.pairwise_iff_getElem.1 xp k' k (by omega) (by omega) (by omega)
            rw [List.getElem?_eq_getElem (by omega)] at hy hz
            simp only [Option.some.injEq] at hy hz
            omega
          simp -implicitDefEqProofs only [go_sem, simprocAttr, r13, o13, oX, lcX, index_map hx0 idx_22 hy rfl, y0, y1, k0, wk, index_map hx0 idx_22 hz rfl, yz, o1, o2]
          refine callD [] true [.fn (gOf (ints (numF w.length)) fun z => (x.eraseIdx k).contains z.toI)] [.ptr [.list false (ints w)]] (c59 (x.eraseIdx k) _ fun i hi => rfl) ⟨argFn (f := 62) (caps := [.ptr [sx], .ptr [.int (k : Nat)]]) (c62 0).1 (by simp -implicitDefEqProofs only [go_sem, simprocAttr, r13, o13]) fun z hz => ?_, trivial⟩ (by simp -implicitDefEqProofs only [go_sem, simprocAttr]) (.inr (sh_ints _)) ?_
          · obtain ⟨z, _, rfl⟩ := List.mem_map.1 hz
            exact c62 z
          simp -implicitDefEqProofs only [go_sem, simprocAttr]
          refine call0 [112] false (c54n (x.eraseIdx k)) (by simp -implicitDefEqProofs only [go_sem, simprocAttr]) (.inl rfl) ?_
          simp -implicitDefEqProofs only [go_sem, simprocAttr, nk, r13, o13, hwk]
          refine nxtL (I := fun _ _ _ => True) () trivial ?_
          simp -implicitDefEqProofs only [go_sem, simprocAttr]
end S04

