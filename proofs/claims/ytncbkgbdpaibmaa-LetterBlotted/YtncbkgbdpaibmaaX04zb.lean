/- A part of the proof: X04zb. -/
import Derived.Test.YtncbkgbdpaibmaaP04p
import Derived.Test.YtncbkgbdpaibmaaP04d
import Derived.Test.YtncbkgbdpaibmaaX04u
import Derived.Test.YtncbkgbdpaibmaaC04h0
set_option linter.unusedVariables false
set_option linter.unusedSimpArgs false
set_option maxRecDepth 20000
namespace S04
open Go Abs
theorem bl_any {w : List Int} {a b : Nat} (hw : ∀ x ∈ w, 0 ≤ x) (ha : a < w.length) (hb : b < w.length) : ∃ t0 t1 : Nat, min (a : Int) (b : Int) = (t0 : Nat) ∧ max (a : Int) (b : Int) = (t1 : Nat) ∧ t0 < w.length ∧ t1 < w.length ∧ ((a = b ∧ t0 = a ∧ blF ((w.set a (-1)).set b (-1)) 0 = [(t0 : Int)]) ∨ (a ≠ b ∧ blF ((w.set a (-1)).set b (-1)) 0 = [(t0 : Int), (t1 : Int)])) := by
  rcases Nat.lt_trichotomy a b with h | h | h
  · exact ⟨a, b, by omega, by omega, ha, hb, .inr ⟨by omega, bl_two hw ha hb h⟩⟩
  · subst h
    exact ⟨a, a, by omega, by omega, ha, ha, .inl ⟨rfl, rfl, by rw [List.set_set]; exact bl_one hw ha⟩⟩
  · exact ⟨b, a, by omega, by omega, hb, ha, .inr ⟨by omega, by rw [List.set_comm _ _ (by omega)]; exact bl_two hw hb ha h⟩⟩
theorem asc_len : ∀ (l : List Int) (a n : Int), a ≤ n → l.Pairwise (· < ·) → (∀ x ∈ l, a ≤ x ∧ x < n) → (l.length : Int) ≤ n - a
  | [], a, n, h, _, _ => by simp; omega
  | x :: l, a, n, h, hp, hb => by
    rw [List.pairwise_cons] at hp
    have hx := hb x (by simp)
    have := asc_len l (x + 1) n (by omega) hp.2 fun y hy => ⟨by have := hp.1 y hy; omega, (hb y (by simp [hy])).2⟩
    simp only [List.length_cons]; omega
theorem asc6 (l : List Int) (h1 : l.Pairwise (· < ·)) (h2 : ∀ x ∈ l, 0 ≤ x ∧ x < 6) : l.length ≤ 6 := by
  have := asc_len l 0 6 (by decide) h1 h2; omega
set_option maxHeartbeats 4000000 in
theorem t15 {a0 a1 a2 a3 a4 a5 f0 f1 f2 : Int} {sp0 sl : FV} {c : Cs} {sw sp : FV} {bs : List Int} {q0 q1 q2 q3 q4 q5 : Int} (T : TY (tyA a0 a1 a2 a3 a4 a5 sp0 f0 f1 f2) sp0 c sw sp) (hl : lsOf sl = some (bs.map u8)) (hb : ∀ x ∈ bs, 0 ≤ x ∧ x < 256) (ll : bs.length ≤ 9223372036854775807)
    (vb : ∀ x ∈ [q0, q1, q2, q3, q4, q5], 0 ≤ x ∧ x < 256) :
    Fn Q 15 [.fo (.agg (tyA a0 a1 a2 a3 a4 a5 sp0 f0 f1 f2)), .fo sl, .fo (.agg [u8 q0, u8 q1, u8 q2, u8 q3, u8 q4, u8 q5])] (.one (.fx (.bool true))) := by
  have b0 := vb q0 (by simp)
  have b1 := vb q1 (by simp)
  have b2 := vb q2 (by simp)
  have b3 := vb q3 (by simp)
  have b4 := vb q4 (by simp)
  have c50 := T.fn
  have v := T.v
  have ok := errC_ok T.e
  have n6 := T.n6
  have op := T.o
  have o1 := ls_one v.w
  have o2 := ls_one v.p
  have oL := ls_one hl
  have pl10 := ok.p1
  have v' : CV c (swC c) (spC c) := ⟨rfl, rfl, v.wl, v.pl⟩
  have c52 := t52 v (by omega) (by omega)
  have c51 := t51 hl hb ll
  obtain ⟨k1, k2, k3⟩ := wordF_ok hb
  generalize wordF bs = w at *
  have hs : lsOf (.list false (ints w)) = some (ints w) := rfl
  have wne : w ≠ [] := fun e => by rw [e] at k1; simp at k1
  have c53o := t53o hs (by omega) wne
  have wb : ∀ x ∈ w, 0 ≤ x ∧ x < c.W.length := fun x hx => by have := k3 x hx; omega
  have w0 : ∀ x ∈ w, 0 ≤ x := fun x hx => (wb x hx).1
  have r0 := ok.r0
  have r1 := T.r
  have v0 : IntKind.i64.wrap q0 = q0 := wr _ (by omega) (by omega)
  have v1 : IntKind.i64.wrap q1 = q1 := wr _ (by omega) (by omega)
  have v2 : IntKind.i64.wrap q2 = q2 := wr _ (by omega) (by omega)
  have v3 : IntKind.i64.wrap q3 = q3 := wr _ (by omega) (by omega)
  have v4 : IntKind.i64.wrap q4 = q4 := wr _ (by omega) (by omega)
  have w2R : IntKind.i64.wrap (2 * c.R) = 2 * c.R := wr _ (by omega) (by omega)
  have wsT : ∀ k, 0 ≤ c.ws (w.take k) ∧ c.ws (w.take k) ≤ 25 * k := fun k => by
    have := ws_25 T.w (w.take k) fun x hx => wb x (List.mem_of_mem_take hx)
    rw [List.length_take] at this
    omega
  refine w15 ?_
  dsimp only [c15, sop, gop, nop, qmv, qsg, qex, qld, qcl, qln, qix, qbo, qt, qi]
  simp -implicitDefEqProofs only [go_sem, simprocAttr, op, u8, oL]
  refine call1 [] false (c50) ?_
  simp -implicitDefEqProofs only [go_sem, simprocAttr]
  refine call1 [] false (c51) ?_
  simp -implicitDefEqProofs only [go_sem, simprocAttr, o1, o2, w2R]
  refine lpH 37 [9, 10, 11] 300 [36, 62] (fun k : Nat => w.length - k) (fun k => k ≤ w.length) (fun k ρ h => ρ 11 = .fv (.int (k : Nat)) ∧ ρ 9 = .fv (.int (2 * c.R + c.ws (w.take k) + sumI (gapF q0 (k - 1)))) ∧ ρ 10 = .gl 36 (h.gen 36) ∧ h.obj 36 = some (.list 3 1 false false (ints (gapF q0 (k - 1))))) 0 (Nat.zero_le _) ?_ ?_
  · simp -implicitDefEqProofs only [go_sem, simprocAttr, List.take_zero, Cs.ws, gapF, List.range_zero, List.map_nil, sumI, ints, Int.add_zero]
  · rintro k ρ h kl ⟨r11, r9, r10, o36⟩
    by_cases hk : k < w.length
    · have hk' : (k : Int) < (w.length : Nat) := by omega
      have hwk : IntKind.i64.wrap ((k : Int) + 1) = ((k + 1 : Nat) : Int) := wr _ (by omega) (by omega)
      obtain ⟨x, hx⟩ : ∃ x, w[k]? = some x := ⟨_, List.getElem?_eq_getElem hk⟩
      have gx : (ints w)[k]? = some (.int x) := by simp [ints, hx]
      have xb := wb x (List.mem_of_getElem? hx)
      obtain ⟨g1, g2, g3⟩ := ok.gw xb.1 xb.2
      have ix := fun H => index_map (H := H) v.w idx_22 g1 rfl
      rw [Int.toNat_of_nonneg xb.1] at ix
      have et : w.take (k + 1) = w.take k ++ [x] := by rw [List.take_add_one, hx]; rfl
      have ew : c.ws (w.take (k + 1)) = c.ws (w.take k) + gI c.W x := by rw [et, ws_app]; simp [Cs.ws]
      have wt := wsT k
      have gs := gapF_sum b0.1 (k - 1)
      have wA : IntKind.i64.wrap (2 * c.R + c.ws (w.take k) + sumI (gapF q0 (k - 1)) + gI c.W x) = 2 * c.R + c.ws (w.take k) + sumI (gapF q0 (k - 1)) + gI c.W x := wr _ (by omega) (by omega)
      simp -implicitDefEqProofs only [go_sem, simprocAttr, r11, ints_length, hk', r9, gx, ix, wA]
      by_cases k0 : k = 0
      · have k0' : ¬ (0 : Int) < (k : Nat) := by omega
        simp -implicitDefEqProofs only [go_sem, simprocAttr, r11, k0', hwk]
        refine nxt (k + 1) (by omega) (by omega) ?_
        have e0 : gapF q0 (k + 1 - 1) = gapF q0 (k - 1) := by rw [k0]
        have e1 : 2 * c.R + c.ws (w.take (k + 1)) + sumI (gapF q0 (k + 1 - 1)) = 2 * c.R + c.ws (w.take k) + sumI (gapF q0 (k - 1)) + gI c.W x := by rw [e0, ew]; omega
        rw [e1, e0]
        simp -implicitDefEqProofs only [go_sem, simprocAttr, r10, o36]
      · obtain ⟨j, ej⟩ : ∃ j : Nat, k = j + 1 := ⟨k - 1, by omega⟩
        have k0' : (0 : Int) < (k : Nat) := by omega
        have kz : ¬ ((k : Int) = 0) := by omega
        have d0 : 0 ≤ q0.tdiv (k : Int) := Int.tdiv_nonneg b0.1 (by omega)
        have d1 : q0.tdiv (k : Int) ≤ q0 := Int.tdiv_le_self _ b0.1
        have wd : IntKind.i64.wrap (q0.tdiv (k : Int)) = q0.tdiv (k : Int) := wr _ (by omega) (by omega)
        have eg : gapF q0 (k + 1 - 1) = gapF q0 (k - 1) ++ [(q0.tdiv (k : Int)).tmod 20] := by
          rw [ej]
          simp only [Nat.add_sub_cancel]
          exact gapF_succ q0 j
        have gl := gapF_len q0 (k - 1)
        have t20 := tm_bd d0 (show (0 : Int) < 20 by decide)
        obtain ⟨z, hz⟩ : ∃ z, (q0.tdiv (k : Int)).tmod 20 = z := ⟨_, rfl⟩
        rw [hz] at eg t20
        have e1 : 2 * c.R + c.ws (w.take (k + 1)) + sumI (gapF q0 (k + 1 - 1)) = 2 * c.R + c.ws (w.take k) + sumI (gapF q0 (k - 1)) + gI c.W x + z := by rw [eg, sumI_app, ew]; simp only [sumI]; omega
        have wj : IntKind.i64.wrap ((k : Int) - 1) = ((j : Nat) : Int) := by rw [wr _ (by omega) (by omega)]; omega
        have jl : (j : Int) < (((gapF q0 (k - 1)).length + 1 : Nat) : Int) := by omega
        have gz : (ints (gapF q0 (k - 1)) ++ [FV.int z])[j]? = some (.int z) := by
          rw [List.getElem?_append_right (by rw [ints_length]; omega), ints_length, show j - (gapF q0 (k - 1)).length = 0 by omega]; rfl
        have wz : IntKind.i64.wrap (2 * c.R + c.ws (w.take k) + sumI (gapF q0 (k - 1)) + gI c.W x + z) = 2 * c.R + c.ws (w.take k) + sumI (gapF q0 (k - 1)) + gI c.W x + z := wr _ (by omega) (by omega)
        simp -implicitDefEqProofs only [go_sem, simprocAttr, r11, k0', u8, v0, kz, r10, wd, hz]
        refine app_gl (by simp -implicitDefEqProofs only [go_sem, simprocAttr, o36]; rfl) idx_22 (by simp -implicitDefEqProofs only [go_sem, simprocAttr]; rfl) (by simp [FV.cells]) (by simp -implicitDefEqProofs only [go_sem, simprocAttr]) (by simp [byt_3, ints]; omega) (by simp [maxLen, ints]; omega) (by simp) ?_
        simp -implicitDefEqProofs only [go_sem, simprocAttr, r11, wj, List.length_append, ints_length, List.length_cons, List.length_nil, jl, gz, wz, hwk]
        refine nxt (k + 1) (by omega) (by omega) ?_
        rw [e1, eg]
        simp -implicitDefEqProofs only [go_sem, simprocAttr, ints, List.map_append, List.map_cons, List.map_nil]
    · have hk' : ¬ (k : Int) < (w.length : Nat) := by omega
      have ek : k = w.length := by omega
      subst ek
      have wt := wsT w.length
      have gs := gapF_sum b0.1 (w.length - 1)
      have gb := gapF_bd b0.1 (w.length - 1)
      have gl := gapF_len q0 (w.length - 1)
      rw [List.take_of_length_le (Nat.le_refl _)] at wt r9
      generalize gapF q0 (w.length - 1) = g at *
      have eL : 2 * c.R + c.ws w + sumI g = c.wd w + sumI g := rfl
      have ws1 := (ws_25 T.w w wb).1
      have L1 : 1 ≤ c.wd w + sumI g := by rw [← eL]; omega
      have L2 : c.wd w + sumI g ≤ 380 := by rw [← eL]; omega
      rw [eL] at r9
      obtain ⟨long, hlong⟩ : ∃ long, c.wd w + sumI g = long := ⟨_, rfl⟩
      rw [hlong] at L1 L2 r9
      have L2' : ¬ 380 < long := by omega
      have t1 := tm_bd b1.1 (show (0 : Int) < 10 by decide)
      have t2 := tm_bd b2.1 (show (0 : Int) < 10 by decide)
      obtain ⟨lo, hlo⟩ : ∃ lo, max 1 (long - q1.tmod 10) = lo := ⟨_, rfl⟩
      obtain ⟨hi, hhi⟩ : ∃ hi, long + q2.tmod 10 = hi := ⟨_, rfl⟩
      have wl : IntKind.i64.wrap (long - q1.tmod 10) = long - q1.tmod 10 := wr _ (by omega) (by omega)
      have wh : IntKind.i64.wrap (long + q2.tmod 10) = hi := by rw [← hhi]; exact wr _ (by omega) (by omega)
      have c67 := t67 lo hi
      have c67L := t67 long long
      have wz : ¬ ((w.length : Int) = 0) := by omega
      have ta := tm_bd b3.1 (show (0 : Int) < (w.length : Nat) by omega)
      have tb := tm_bd b4.1 (show (0 : Int) < (w.length : Nat) by omega)
      obtain ⟨a, ha⟩ : ∃ a : Nat, q3.tmod (w.length : Nat) = (a : Nat) := ⟨(q3.tmod (w.length : Nat)).toNat, by omega⟩
      obtain ⟨b, hb⟩ : ∃ b : Nat, q4.tmod (w.length : Nat) = (b : Nat) := ⟨(q4.tmod (w.length : Nat)).toNat, by omega⟩
      rw [ha] at ta
      rw [hb] at tb
      obtain ⟨t0, t1', hmin, hmax, l0, l1, hbl⟩ := bl_any w0 (show a < w.length by omega) (show b < w.length by omega)
      have hA1 := agr_set w w a (agr_self (n := c.W.length) w wb) wb
      have hA2 := agr_set (w.set a (-1)) w b hA1 wb
      have hone := bl_one w0 (show a < w.length by omega)
      have gB : ∀ m, m = w.length → gapsB m g = true := fun m e => by
        unfold gapsB
        rw [Bool.and_eq_true]
        exact ⟨by simp; omega, List.all_eq_true.2 fun y hy => by have := gb y hy; exact inB_ok (by omega) (by omega)⟩
      have iW : ∀ u : List Int, u.length = w.length → (∀ y ∈ u, -1 ≤ y ∧ y < c.W.length) → isW c.W.length (-1) u = true := fun u e h => by
        rw [isW_iff]; exact ⟨by omega, by omega, h⟩
      have wb1 : ∀ y ∈ w.set a (-1), -1 ≤ y ∧ y < c.W.length := fun y hy => by
        rcases List.mem_or_eq_of_mem_set hy with h | h
        · have := wb y h; omega
        · omega
      have wb2 : ∀ y ∈ (w.set a (-1)).set b (-1), -1 ≤ y ∧ y < c.W.length := fun y hy => by
        rcases List.mem_or_eq_of_mem_set hy with h | h
        · exact wb1 y h
        · omega
      have pq : c.bP g lo hi w = true := by unfold Cs.bP; rw [hlong]; exact inB_ok (by omega) (by omega)
      have pr : c.bP g long long w = true := by unfold Cs.bP; rw [hlong]; exact inB_ok (by omega) (by omega)
      have p1 := can_is T.e (iW _ (by simp) wb1) (gB _ (by simp)) (by rw [hone]; simp) (show 1 ≤ lo by omega) (by omega) (by omega) hA1 pq
      have p2 := can_is T.e (iW _ (by simp) wb2) (gB _ (by simp)) (by rcases hbl with ⟨_, _, h⟩ | ⟨_, h⟩ <;> rw [h] <;> simp) (show 1 ≤ lo by omega) (by omega) (by omega) hA2 pq
      have p3 := can_is T.e (iW _ (by simp) wb2) (gB _ (by simp)) (by rcases hbl with ⟨_, _, h⟩ | ⟨_, h⟩ <;> rw [h] <;> simp) L1 (Int.le_refl _) (by omega) hA2 pr
      have c47a := t47 (s := .list false (ints (w.set a (-1)))) (sg := .list false (ints g)) (lo := lo) (hi := hi) v' rfl (by simp; omega) rfl (by omega)
      have c47b := t47 (s := .list false (ints ((w.set a (-1)).set b (-1)))) (sg := .list false (ints g)) (lo := lo) (hi := hi) v' rfl (by simp; omega) rfl (by omega)
      have c47c := t47 (s := .list false (ints ((w.set a (-1)).set b (-1)))) (sg := .list false (ints g)) (lo := long) (hi := long) v' rfl (by simp; omega) rfl (by omega)
      rw [p1.1, p1.2, hone] at c47a
      rw [p2.1, p2.2] at c47b
      rw [p3.1, p3.2] at c47c
      have hq := lsOf_lstN (lnF ((blF ((w.set a (-1)).set b (-1)) 0).map (dueF c.W.length (c.bP g lo hi) ((w.set a (-1)).set b (-1)))))
      have hr := lsOf_lstN (lnF ((blF ((w.set a (-1)).set b (-1)) 0).map (dueF c.W.length (c.bP g long long) ((w.set a (-1)).set b (-1)))))
      have hp := lsOf_lstN (lnF ([(a : Int)].map (dueF c.W.length (c.bP g lo hi) (w.set a (-1)))))
      clear p1 p2 p3
      have bn : ∀ u : List Int, c.bP g long long u = true → c.bP g lo hi u = true := fun u h => by
        unfold Cs.bP at h ⊢
        unfold inB at h ⊢
        simp only [Bool.not_eq_true', Bool.or_eq_false_iff, decide_eq_false_iff_not] at h ⊢
        omega
      have due1 : ∀ x, x ∈ dueF c.W.length (c.bP g lo hi) (w.set a (-1)) (a : Int) → x ∈ dueF c.W.length (c.bP g lo hi) ((w.set a (-1)).set b (-1)) (a : Int) := fun x hx => by
        obtain ⟨h1, u, h2, h3, h4⟩ := mem_due.1 hx
        have hu : ∀ y ∈ u, 0 ≤ y ∧ y < c.W.length := rds_bd wb1 (mem_rds.2 h2)
        exact mem_due.2 ⟨h1, u, agr_set _ u b h2 hu, h3, h4⟩
      have due2 : ∀ (t : Int) x, x ∈ dueF c.W.length (c.bP g long long) ((w.set a (-1)).set b (-1)) t → x ∈ dueF c.W.length (c.bP g lo hi) ((w.set a (-1)).set b (-1)) t := fun t x hx => by
        obtain ⟨h1, u, h2, h3, h4⟩ := mem_due.1 hx
        exact mem_due.2 ⟨h1, u, h2, h3, bn u h4⟩
      have dueW : ∀ (t : Nat) x, w[t]? = some x → x ∈ dueF c.W.length (c.bP g lo hi) ((w.set a (-1)).set b (-1)) (t : Int) ∧ x ∈ dueF c.W.length (c.bP g long long) ((w.set a (-1)).set b (-1)) (t : Int) := fun t x hx => by
        have hg : gI w (t : Int) = x := by simp [gI, List.getD_eq_getElem?_getD, hx]
        have := wb x (List.mem_of_getElem? hx)
        exact ⟨mem_due.2 ⟨this, w, hA2, hg, pq⟩, mem_due.2 ⟨this, w, hA2, hg, pr⟩⟩
      have dueA : ∀ x, w[a]? = some x → x ∈ dueF c.W.length (c.bP g lo hi) (w.set a (-1)) (a : Int) := fun x hx => by
        have hg : gI w (a : Int) = x := by simp [gI, List.getD_eq_getElem?_getD, hx]
        exact mem_due.2 ⟨wb x (List.mem_of_getElem? hx), w, hA1, hg, pq⟩
      have dueB : ∀ (P : List Int → Bool) u (t : Int), (dueF c.W.length P u t).Pairwise (· < ·) ∧ ∀ x ∈ dueF c.W.length P u t, 0 ≤ x ∧ x < 6 := fun P u t => ⟨due_pw, fun x hx => by have := (mem_due.1 hx).1; omega⟩
      have Bq := dueB (c.bP g lo hi) ((w.set a (-1)).set b (-1))
      have Br := dueB (c.bP g long long) ((w.set a (-1)).set b (-1))
      have Bp := dueB (c.bP g lo hi) (w.set a (-1)) (a : Int)
      clear dueB
      rw [show lnF ([(a : Int)].map (dueF c.W.length (c.bP g lo hi) (w.set a (-1)))) = [lstN (ints (dueF c.W.length (c.bP g lo hi) (w.set a (-1)) (a : Int)))] from rfl] at hp c47a
      generalize dueF c.W.length (c.bP g lo hi) ((w.set a (-1)).set b (-1)) = Dq at *
      generalize dueF c.W.length (c.bP g long long) ((w.set a (-1)).set b (-1)) = Dr at *
      generalize dueF c.W.length (c.bP g lo hi) (w.set a (-1)) (a : Int) = dp at *
      generalize blF ((w.set a (-1)).set b (-1)) 0 = L at *
      generalize lstN (lnF (L.map Dq)) = fq at *
      generalize lstN (lnF (L.map Dr)) = fr at *
      generalize lstN [lstN (ints dp)] = fp at *
      simp -implicitDefEqProofs only [go_sem, simprocAttr, r11, ints_length, hk', r9, L2', u8, v1, v2, wl, hlo, wh]
      refine call1 [] false (c67) ?_
      simp -implicitDefEqProofs only [go_sem, simprocAttr]
      refine call1 [] false (c53o) ?_
      simp -implicitDefEqProofs only [go_sem, simprocAttr]
      refine call1 [] false (c53o) ?_
      simp -implicitDefEqProofs only [go_sem, simprocAttr]
      refine W_opsD _ _ _ (Vs []) ?_ ?_
      · decide
      have aL := ta.2
      have bL := tb.2
      have g1 := ints_getJ (l := w) (i := a) (by omega)
      have g2 := ints_getJ (l := w.set a (-1)) (i := b) (by simp; omega)
      simp -implicitDefEqProofs only [go_sem, simprocAttr, u8, v3, v4, ints_length, wz, ha, hb, aL, bL]
      refine sto_elem (by rfl) (by rfl) (by rfl) (by simp -implicitDefEqProofs only [go_sem, simprocAttr]; rfl) g1 (by decide) ?_
      simp -implicitDefEqProofs only [go_sem, simprocAttr, FV.withCells, ints_set, ints_length, aL, bL]
      refine sto_elem (by rfl) (by rfl) (by rfl) (by simp -implicitDefEqProofs only [go_sem, simprocAttr]; rfl) g1 (by decide) ?_
      simp -implicitDefEqProofs only [go_sem, simprocAttr, FV.withCells, ints_set, ints_length, List.length_set, aL, bL]
      refine sto_elem (by rfl) (by rfl) (by rfl) (by simp -implicitDefEqProofs only [go_sem, simprocAttr]; rfl) g2 (by decide) ?_
      simp -implicitDefEqProofs only [go_sem, simprocAttr, FV.withCells, ints_set]
      refine W_opsD _ _ _ (Vs [[], [], [], [89], [], [36]]) ?_ ?_
      · decide
      have c53a := t53 (s := .list false (ints (w.set a (-1)))) (l := w.set a (-1)) rfl (by simp; omega)
      have c53b := t53 (s := .list false (ints ((w.set a (-1)).set b (-1)))) (l := (w.set a (-1)).set b (-1)) rfl (by simp; omega)
      have c53g := t53 (s := .list false (ints g)) (l := g) rfl (by omega)
      simp -implicitDefEqProofs only [go_sem, simprocAttr, o1, o2]
      refine callD [] false [.fo (c.fv sw sp)] [] c52 ⟨rfl, trivial⟩ rfl (.inl rfl) ?_
      simp -implicitDefEqProofs only [go_sem, simprocAttr]
      refine callD [89] false [.fo (.list false (ints (w.set a (-1))))] [] c53a (by simp -implicitDefEqProofs only [go_sem, simprocAttr]) rfl (.inl rfl) ?_
      simp -implicitDefEqProofs only [go_sem, simprocAttr, r10]
      refine callD [36] false [.fo (.list false (ints g))] [] c53g (by simp -implicitDefEqProofs only [go_sem, simprocAttr, r10, o36]) rfl (.inl rfl) ?_
      simp -implicitDefEqProofs only [go_sem, simprocAttr, o36]
      refine call1 [] false (c47a) ?_
      simp -implicitDefEqProofs only [go_sem, simprocAttr]
      refine W_opsD _ _ _ (Vs [[], [], [], [91], [], [36]]) ?_ ?_
      · decide
      simp -implicitDefEqProofs only [go_sem, simprocAttr, o1, o2]
      refine callD [] false [.fo (c.fv sw sp)] [] c52 ⟨rfl, trivial⟩ rfl (.inl rfl) ?_
      simp -implicitDefEqProofs only [go_sem, simprocAttr]
      refine callD [91] false [.fo (.list false (ints ((w.set a (-1)).set b (-1))))] [] c53b (by simp -implicitDefEqProofs only [go_sem, simprocAttr]) rfl (.inl rfl) ?_
      simp -implicitDefEqProofs only [go_sem, simprocAttr, r10]
      refine callD [36] false [.fo (.list false (ints g))] [] c53g (by simp -implicitDefEqProofs only [go_sem, simprocAttr, r10, o36]) rfl (.inl rfl) ?_
      simp -implicitDefEqProofs only [go_sem, simprocAttr, o36]
      refine call1 [] false (c47b) ?_
      simp -implicitDefEqProofs only [go_sem, simprocAttr, o1, o2]
      refine call1 [] false (c52) ?_
      simp -implicitDefEqProofs only [go_sem, simprocAttr]
      refine call0 [91] false c53b (by simp -implicitDefEqProofs only [go_sem, simprocAttr]) (.inl rfl) ?_
      simp -implicitDefEqProofs only [go_sem, simprocAttr, r10]
      refine call0 [36] false c53g (by simp -implicitDefEqProofs only [go_sem, simprocAttr, r10, o36]) (.inl rfl) ?_
      simp -implicitDefEqProofs only [go_sem, simprocAttr, r9]
      refine call1 [] false (c67L) ?_
      simp -implicitDefEqProofs only [go_sem, simprocAttr]
      refine call1 [] false (c47c) ?_
      simp -implicitDefEqProofs only [go_sem, simprocAttr]
      have Ll : ∃ bl : Nat, (lnF (L.map Dq)).length = bl ∧ (lnF (L.map Dr)).length = bl ∧ L.length = bl := ⟨L.length, by simp [lnF], by simp [lnF], rfl⟩
      obtain ⟨bl, Lq, Lr, Ll⟩ := Ll
      have hbl2 : (((a : Int) == (b : Int)) = true ∧ bl = 1 ∧ (a : Int) = (t0 : Nat)) ∨ (((a : Int) == (b : Int)) = false ∧ bl = 2 ∧ True) := by
        rcases hbl with ⟨h1, h2, h3⟩ | ⟨h1, h2⟩
        · exact .inl ⟨beq_iff_eq.2 (by omega), by rw [← Ll, h3]; rfl, by omega⟩
        · exact .inr ⟨beq_eq_false_iff_ne.2 (by omega), by rw [← Ll, h2]; rfl, trivial⟩
      have Lk : ∀ k : Nat, k < bl → ∃ t : Nat, L[k]? = some (t : Int) ∧ t < w.length ∧ ((((k : Int) == 1) = false ∧ t = t0) ∨ (((k : Int) == 1) = true ∧ t = t1')) := fun k hk => by
        rcases hbl with ⟨h1, h2, h3⟩ | ⟨h1, h2⟩
        · rw [h3] at Ll
          simp at Ll
          exact ⟨t0, by rw [h3, show k = 0 by omega]; rfl, l0, .inl ⟨beq_eq_false_iff_ne.2 (by omega), rfl⟩⟩
        · rw [h2] at Ll
          simp at Ll
          by_cases e : k = 0
          · exact ⟨t0, by rw [h2, e]; rfl, l0, .inl ⟨beq_eq_false_iff_ne.2 (by omega), rfl⟩⟩
          · exact ⟨t1', by rw [h2, show k = 1 by omega]; rfl, l1, .inr ⟨beq_iff_eq.2 (by omega), rfl⟩⟩
      clear hbl
      obtain ⟨eab, ebl, _⟩ | ⟨eab, ebl, _⟩ := hbl2
      all_goals
        have z1 : (((bl : Nat) : Int) != 1) = decide (bl ≠ 1) := by rw [Bool.eq_iff_iff]; simp; omega
        have z2 : (((bl : Nat) : Int) != 2) = decide (bl ≠ 2) := by rw [Bool.eq_iff_iff]; simp; omega
        simp -implicitDefEqProofs only [go_sem, simprocAttr, eab, lenV_ls hp, lenV_ls hq, lenV_ls hr, List.length_cons, List.length_nil, Lq, Lr, z1, z2, ebl]
        have cc := fun l : List Int => ls_cells (lsOf_lstN (ints l))
        have p0 := fun H => index_ls (H := H) hp idx_56 (k := 0) rfl (by rw [cc]; rfl)
        rw [show ((0 : Nat) : Int) = 0 from rfl] at p0
        refine lpH 178 [24, 25, 26, 27, 28] 300 [] (fun k : Nat => bl - k) (fun k => k ≤ bl) (fun k ρ h => ρ 24 = .fv (.int (k : Nat))) 0 (Nat.zero_le _) ?_ ?_
        · simp -implicitDefEqProofs only [go_sem, simprocAttr]
        · rintro k ρ2 h2 hkb r24
          by_cases hkl : k < bl
          · have hkl' : (k : Int) < (bl : Nat) := by omega
            have hwk : IntKind.i64.wrap ((k : Int) + 1) = ((k + 1 : Nat) : Int) := wr _ (by omega) (by omega)
            simp only [ebl, Int.cast_ofNat_Int, Int.natCast_one] at hkl'
            obtain ⟨t, ht1, ht2, ht3⟩ := Lk k hkl
            obtain ⟨x, hx⟩ : ∃ x, w[t]? = some x := ⟨_, List.getElem?_eq_getElem ht2⟩
            have gx : (ints w)[t]? = some (.int x) := by simp [ints, hx]
            have htL : (t : Int) < (w.length : Nat) := by omega
            obtain ⟨xq, xr⟩ := dueW t x hx
            have gq : (lnF (L.map Dq))[k]? = some (lstN (ints (Dq (t : Int)))) := by simp [lnF, ht1]
            have gr : (lnF (L.map Dr))[k]? = some (lstN (ints (Dr (t : Int)))) := by simp [lnF, ht1]
            have iq := fun H => index_ls (H := H) hq idx_56 gq (by rw [cc]; rfl)
            have ir := fun H => index_ls (H := H) hr idx_56 gr (by rw [cc]; rfl)
            have sub2 := due2 (t : Int)
            obtain ⟨q1, q2⟩ := Bq (t : Int)
            obtain ⟨r1, r2⟩ := Br (t : Int)
            have sub1 : t = a → (∀ x ∈ dp, x ∈ Dq (t : Int)) ∧ x ∈ dp := fun e => by
              subst e; exact ⟨due1, dueA x hx⟩
            generalize Dq (t : Int) = dq at *
            generalize Dr (t : Int) = dr at *
            have l8 : ∀ l : List Int, l.Pairwise (· < ·) → (∀ x ∈ l, 0 ≤ x ∧ x < 6) → l.length ≤ 6 := fun l h1 h2 => by
              exact asc6 l h1 h2
            have lq := l8 dq q1 q2
            have lr := l8 dr r1 r2
            have lp' := l8 dp Bp.1 Bp.2
            have cq := fun y : Int => t61 (n := y) (lsOf_lstN (ints dq)) (by omega)
            have cr := fun y : Int => t61 (n := y) (lsOf_lstN (ints dr)) (by omega)
            have cp := fun y : Int => t61 (n := y) (lsOf_lstN (ints dp)) (by omega)
            have xq' : dq.contains x = true := by simpa using xq
            have xr' : dr.contains x = true := by simpa using xr
            obtain ⟨e1, e2⟩ | ⟨e1, e2⟩ := ht3
            all_goals
              subst e2
              simp -implicitDefEqProofs only [go_sem, simprocAttr, r24, hkl', hmin, hmax, e1, iq, cc, gx, htL, ints_length]
              refine call1 [] false (cq x) ?_
              simp -implicitDefEqProofs only [go_sem, simprocAttr, xq', r24, ir, cc, gx, htL, ints_length]
              refine call1 [] false (cr x) ?_
              by_cases eta : t = a
              · have eta' : ((t : Int) == (a : Int)) = true := by simp [eta]
                obtain ⟨s1, s2⟩ := sub1 eta
                have xp' : dp.contains x = true := by simpa using s2
                simp -implicitDefEqProofs only [go_sem, simprocAttr, xr', eta', p0, cc, gx, htL, ints_length]
                refine call1 [] false (cp x) ?_
                simp -implicitDefEqProofs only [go_sem, simprocAttr, xp']
                refine lpL (β := Unit) 229 [26] 300 [] dq (by omega) (fun _ _ _ => True) (fun m _ ρ h => ρ 26 = .fv (.int (m : Nat))) () trivial ?_ ?_ ?_
                · simp -implicitDefEqProofs only [go_sem, simprocAttr]
                rotate_left
                · rintro y ys m _ ρ3 h3 hy hm hym hm' hwm _ r26
                  have yb := q2 y hym
                  have y0 : ¬ y < 0 := by omega
                  have y5 : ¬ 5 < y := by omega
                  by_cases m0 : m = 0
                  · have m0' : ¬ (0 : Int) < (m : Nat) := by omega
                    simp -implicitDefEqProofs only [go_sem, simprocAttr, r26, r24, iq, cc, lenV_ls (lsOf_lstN (ints dq)), ints_length, hm', index_map (lsOf_lstN (ints dq)) idx_22 hy rfl, y0, y5, m0', hwm]
                    refine nxtL (I := fun _ _ _ => True) () trivial ?_
                    simp -implicitDefEqProofs only [go_sem, simprocAttr]
                  · obtain ⟨m', em⟩ : ∃ m' : Nat, m = m' + 1 := ⟨m - 1, by omega⟩
                    have m0' : (0 : Int) < (m : Nat) := by omega
                    have wm : IntKind.i64.wrap ((m : Int) - 1) = ((m' : Nat) : Int) := by rw [wr _ (by omega) (by omega)]; omega
                    obtain ⟨y', hy'⟩ : ∃ y', dq[m']? = some y' := ⟨_, List.getElem?_eq_getElem (by omega)⟩
                    have yx : ¬ y ≤ y' := by
                      have := List.pairwise_iff_getElem.1 q1 m' m (by omega) (by omega) (by omega)
                      rw [List.getElem?_eq_getElem (by omega)] at hy hy'
                      simp only [Option.some.injEq] at hy hy'
                      omega
                    simp -implicitDefEqProofs only [go_sem, simprocAttr, r26, r24, iq, cc, lenV_ls (lsOf_lstN (ints dq)), ints_length, hm', index_map (lsOf_lstN (ints dq)) idx_22 hy rfl, y0, y5, m0', wm, index_map (lsOf_lstN (ints dq)) idx_22 hy' rfl, yx, hwm]
                    refine nxtL (I := fun _ _ _ => True) () trivial ?_
                    simp -implicitDefEqProofs only [go_sem, simprocAttr]
                rintro _ ρ3 h3 _ r26
                have nlq : ¬ ((dq.length : Int) < (dq.length : Nat)) := by omega
                simp -implicitDefEqProofs only [go_sem, simprocAttr, r26, r24, iq, cc, lenV_ls (lsOf_lstN (ints dq)), ints_length, nlq]
                refine lpL (β := Unit) 278 [27] 300 [] dr (by omega) (fun _ _ _ => True) (fun m _ ρ h => ρ 27 = .fv (.int (m : Nat))) () trivial ?_ ?_ ?_
                · simp -implicitDefEqProofs only [go_sem, simprocAttr]
                rotate_left
                · rintro y ys m _ ρ4 h4 hy hm hym hm' hwm _ r27
                  have hyq : dq.contains y = true := by simpa using sub2 y hym
                  simp -implicitDefEqProofs only [go_sem, simprocAttr, r27, r24, ir, iq, cc, lenV_ls (lsOf_lstN (ints dr)), ints_length, hm', index_map (lsOf_lstN (ints dr)) idx_22 hy rfl]
                  refine call1 [] false (cq y) ?_
                  simp -implicitDefEqProofs only [go_sem, simprocAttr, hyq, r27, hwm]
                  refine nxtL (I := fun _ _ _ => True) () trivial ?_
                  simp -implicitDefEqProofs only [go_sem, simprocAttr]
                rintro _ ρ4 h4 _ r27
                have nlr : ¬ ((dr.length : Int) < (dr.length : Nat)) := by omega
                simp -implicitDefEqProofs only [go_sem, simprocAttr, r27, r24, ir, cc, lenV_ls (lsOf_lstN (ints dr)), ints_length, nlr]
                refine lpL (β := Unit) 300 [28] 400 [] dp (by omega) (fun _ _ _ => True) (fun m _ ρ h => ρ 28 = .fv (.int (m : Nat))) () trivial ?_ ?_ ?_
                · simp -implicitDefEqProofs only [go_sem, simprocAttr]
                · rintro _ ρ5 h5 _ r28
                  have nl : ¬ ((dp.length : Int) < (dp.length : Nat)) := by omega
                  simp -implicitDefEqProofs only [go_sem, simprocAttr, r28, p0, cc, lenV_ls (lsOf_lstN (ints dp)), ints_length, nl, r24, hwk]
                  refine nxt (k + 1) (by omega) (by omega) ?_
                  simp -implicitDefEqProofs only [go_sem, simprocAttr]
                · rintro y ys m _ ρ5 h5 hy hm hym hm' hwm _ r28
                  have hyq : dq.contains y = true := by simpa using s1 y hym
                  simp -implicitDefEqProofs only [go_sem, simprocAttr, r28, p0, cc, lenV_ls (lsOf_lstN (ints dp)), ints_length, hm', eta', r24, iq, index_map (lsOf_lstN (ints dp)) idx_22 hy rfl]
                  refine call1 [] false (cq y) ?_
                  simp -implicitDefEqProofs only [go_sem, simprocAttr, hyq, r28, hwm]
                  refine nxtL (I := fun _ _ _ => True) () trivial ?_
                  simp -implicitDefEqProofs only [go_sem, simprocAttr]
              · have eta' : ((t : Int) == (a : Int)) = false := beq_eq_false_iff_ne.2 (by omega)
                have dp0 : (0 : Int) < (dp.length : Nat) := by
                  have := dueA _ (List.getElem?_eq_getElem (show a < w.length by omega))
                  have := List.length_pos_of_mem this
                  omega
                simp -implicitDefEqProofs only [go_sem, simprocAttr, xr', eta']
                refine lpL (β := Unit) 229 [26] 300 [] dq (by omega) (fun _ _ _ => True) (fun m _ ρ h => ρ 26 = .fv (.int (m : Nat))) () trivial ?_ ?_ ?_
                · simp -implicitDefEqProofs only [go_sem, simprocAttr]
                rotate_left
                · rintro y ys m _ ρ3 h3 hy hm hym hm' hwm _ r26
                  have yb := q2 y hym
                  have y0 : ¬ y < 0 := by omega
                  have y5 : ¬ 5 < y := by omega
                  by_cases m0 : m = 0
                  · have m0' : ¬ (0 : Int) < (m : Nat) := by omega
                    simp -implicitDefEqProofs only [go_sem, simprocAttr, r26, r24, iq, cc, lenV_ls (lsOf_lstN (ints dq)), ints_length, hm', index_map (lsOf_lstN (ints dq)) idx_22 hy rfl, y0, y5, m0', hwm]
                    refine nxtL (I := fun _ _ _ => True) () trivial ?_
                    simp -implicitDefEqProofs only [go_sem, simprocAttr]
                  · obtain ⟨m', em⟩ : ∃ m' : Nat, m = m' + 1 := ⟨m - 1, by omega⟩
                    have m0' : (0 : Int) < (m : Nat) := by omega
                    have wm : IntKind.i64.wrap ((m : Int) - 1) = ((m' : Nat) : Int) := by rw [wr _ (by omega) (by omega)]; omega
                    obtain ⟨y', hy'⟩ : ∃ y', dq[m']? = some y' := ⟨_, List.getElem?_eq_getElem (by omega)⟩
                    have yx : ¬ y ≤ y' := by
                      have := List.pairwise_iff_getElem.1 q1 m' m (by omega) (by omega) (by omega)
                      rw [List.getElem?_eq_getElem (by omega)] at hy hy'
                      simp only [Option.some.injEq] at hy hy'
                      omega
                    simp -implicitDefEqProofs only [go_sem, simprocAttr, r26, r24, iq, cc, lenV_ls (lsOf_lstN (ints dq)), ints_length, hm', index_map (lsOf_lstN (ints dq)) idx_22 hy rfl, y0, y5, m0', wm, index_map (lsOf_lstN (ints dq)) idx_22 hy' rfl, yx, hwm]
                    refine nxtL (I := fun _ _ _ => True) () trivial ?_
                    simp -implicitDefEqProofs only [go_sem, simprocAttr]
                rintro _ ρ3 h3 _ r26
                have nlq : ¬ ((dq.length : Int) < (dq.length : Nat)) := by omega
                simp -implicitDefEqProofs only [go_sem, simprocAttr, r26, r24, iq, cc, lenV_ls (lsOf_lstN (ints dq)), ints_length, nlq]
                refine lpL (β := Unit) 278 [27] 300 [] dr (by omega) (fun _ _ _ => True) (fun m _ ρ h => ρ 27 = .fv (.int (m : Nat))) () trivial ?_ ?_ ?_
                · simp -implicitDefEqProofs only [go_sem, simprocAttr]
                rotate_left
                · rintro y ys m _ ρ4 h4 hy hm hym hm' hwm _ r27
                  have hyq : dq.contains y = true := by simpa using sub2 y hym
                  simp -implicitDefEqProofs only [go_sem, simprocAttr, r27, r24, ir, iq, cc, lenV_ls (lsOf_lstN (ints dr)), ints_length, hm', index_map (lsOf_lstN (ints dr)) idx_22 hy rfl]
                  refine call1 [] false (cq y) ?_
                  simp -implicitDefEqProofs only [go_sem, simprocAttr, hyq, r27, hwm]
                  refine nxtL (I := fun _ _ _ => True) () trivial ?_
                  simp -implicitDefEqProofs only [go_sem, simprocAttr]
                rintro _ ρ4 h4 _ r27
                have nlr : ¬ ((dr.length : Int) < (dr.length : Nat)) := by omega
                simp -implicitDefEqProofs only [go_sem, simprocAttr, r27, r24, ir, cc, lenV_ls (lsOf_lstN (ints dr)), ints_length, nlr]
                refine lp (n := 1) (lpStep ?_)
                simp -implicitDefEqProofs only [go_sem, simprocAttr, p0, cc, lenV_ls (lsOf_lstN (ints dp)), ints_length, dp0, eta', r24, hwk]
                refine nxt (k + 1) (by omega) (by omega) ?_
                simp -implicitDefEqProofs only [go_sem, simprocAttr]
          · have hkl' : ¬ (k : Int) < (bl : Nat) := by omega
            simp only [ebl, Int.cast_ofNat_Int, Int.natCast_one] at hkl'
            simp -implicitDefEqProofs only [go_sem, simprocAttr, r24, hkl']
            refine call1 [] false (t17) ?_
            simp -implicitDefEqProofs only [go_sem, simprocAttr]
            exact ret_fv
end S04

