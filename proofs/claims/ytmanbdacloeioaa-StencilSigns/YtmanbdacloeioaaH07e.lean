/- A part of the proof: H07e. -/
import Derived.Test.YtmanbdacloeioaaP07e
import Derived.Test.YtmanbdacloeioaaH07d
import Derived.Test.YtmanbdacloeioaaC07lb0
set_option linter.unusedVariables false
set_option linter.unusedSimpArgs false
set_option maxRecDepth 20000
namespace S07
open Go Abs
theorem sglV_lists {w : List Int} (h : w.length ≤ 1000) : Lists (.list false [.list false (ints w)]) [w] := by
  have := lsV_lists [w] (by intro l hl; simp at hl; subst hl; omega)
  exact this
set_option maxHeartbeats 1000000 in
theorem t7 {b : Int} {hs as_ sb : FV} {hl al : List (Int × Int)} {bs cs : List Int} (b0 : 0 ≤ b) (b1 : b < 256) (h1 : lsOf hs = some (hl.map pU)) (h2 : lsOf as_ = some (al.map pU)) (hb : BB hl) (ab : BB al) (l1 : hl.length ≤ 9223372036854775807) (l2 : al.length ≤ 9223372036854775807)
    (h3 : lsOf sb = some (bs.map u8)) (hb3 : ∀ x ∈ bs, 0 ≤ x ∧ x < 256) (l3 : bs.length ≤ 9223372036854775807) (hb4 : ∀ x ∈ cs, 0 ≤ x ∧ x < 256) (l4 : cs.length = 6) :
    Fn Q 7 [.fo (.agg [u8 b, hs, as_]), .fo sb, .fo (.agg (cs.map u8))] (.one (.fx (.bool true))) := by
  have c42 := t42 b0 b1 h1 h2 hb ab l1 l2
  have v := made_v (hl := hl) (al := al) b0
  have eA := made_ok b0 hb ab
  obtain ⟨n0, n8⟩ := madeN_bd b0
  have o1 := ls_one h1
  have o2 := ls_one h2
  have o3 := ls_one h3
  have o4 : ((cs.map u8).map LV.fv).all LV.one = true := by simp [u8, LV.one, FV.one]
  have o7 : (LV.fv (u8 b)).one = true := rfl
  generalize madeN b = N at *
  generalize (madeH N hl).1 = H at *
  generalize madeA N al = A at *
  obtain ⟨lH, lA⟩ := errA_len eA
  have o5 := lstN_one (H.map pF)
  have o6 := lstN_one (A.map pF)
  generalize lstN (H.map pF) = sH at *
  generalize lstN (A.map pF) = sA at *
  have eV := v.eq
  have vC := setC_v (N := N) (H := H) (A := A) (by omega) (by omega)
  have c46 := t46 v (by omega) (by omega)
  have c43 := t43 v n0 h3 hb3 l3
  have wo := wordF_ok n0 hb3
  have c44 := fun (l c : Int) (c0 : 0 ≤ c) (c1 : c < 256) => t44 v (by omega) l c0 c1
  rw [eV] at c42 c46 c43 c44
  generalize wordF N bs = w at *
  have w6 := wo.l6
  have w1 := wo.l1
  have cs0 : ∀ n ∈ cs, 0 ≤ n := fun n hn => (hb4 n hn).1
  have sgl : (sgF H A w cs).length = w.length := by simp [sgF, l4]; omega
  have wyl : (wyF H A w cs).length = w.length := by simp [wyF, l4]; omega
  have ftl : (ftF H A w cs).length = w.length := by simp [ftF, l4]; omega
  have sgw := sg_word (N := N) (by omega) (by omega) (sg_bd eA w cs wo.bd cs0)
  have ftb := ft_bd H A w cs w.length
  rw [List.take_of_length_le (by omega)] at ftb
  obtain ⟨ks, n, hF, f0, f1, f2⟩ := few_le eA w cs wo.bd cs0 (by omega)
  obtain ⟨kl, nc, kat⟩ := few_at w (sgF H A w cs) ks n (by omega) hF
  have c17w := t17 (s := .list false (ints w)) (l := w) rfl (by omega)
  have c17s := t17 (s := .list false (ints (sgF H A w cs))) (l := sgF H A w cs) rfl (by omega)
  have eR := errR_zero eA wo sgw (by omega)
  have c45 := t45 vC (sw := .list false (ints w)) (w := w) rfl (by omega) (ss := .list false (ints (sgF H A w cs))) (sg := sgF H A w cs) rfl (by omega)
  rw [if_pos eR, eR] at c45
  have eF : errF N H A w (sgF H A w cs) = 0 := by unfold errF fewR; rw [hF]; simp [eR]
  have c47 := t47 vC (sw := .list false (ints w)) (w := w) rfl (by omega) (ss := .list false (ints (sgF H A w cs))) (sg := sgF H A w cs) rfl (by omega)
  rw [if_pos eF, if_pos eF, eF] at c47
  unfold fewR at c47
  rw [hF] at c47
  have mW : ∀ m : Int, meantR N H A [w] (sgF H A w cs) m = if n ≤ m then [0] else [] := by
    intro m
    simp only [meantR, Al.meantF, Al.isMeant, hF]
    by_cases h : n ≤ m <;> simp [h, sgl]
  have wW : ∀ x ∈ [w], WordOk N x := by intro x hx; simp at hx; subst hx; exact wo
  have eM : ∀ m : Int, 0 ≤ m → m ≤ 12 → errM N H A [w] (sgF H A w cs) m = if n ≤ m then 0 else 7 := by
    intro m m0 m1
    rw [errM_is eA (by simp) wW sgw m0 m1, mW m]
    by_cases h : n ≤ m <;> simp [h]
  have c18 := fun m : Int => t18 vC (sglV_lists (w := w) (by omega)) (by simp) (ss := .list false (ints (sgF H A w cs))) (sg := sgF H A w cs) rfl (by omega) (most := m)
  have c18a := c18 (ftF H A w cs).sum
  rw [eM _ (by omega) (by omega), mW, if_pos f1, if_pos rfl, if_pos f1] at c18a
  simp only [fewK, fewN] at c47
  generalize hq : alOf N H A = q at *
  have wvl : (q.waysR w (sgF H A w cs)).length = w.length := waysR_len q w _ (by omega)
  refine fn_intro Go.Proofs.Try.func7 rfl (by kernel_rfl) mix (k7 0) (Nat.le_of_ble_eq_true (by kernel_rfl)) ?_
  refine Abs.walk ?_
  unfold c7 sop
  simp -implicitDefEqProofs only [go_sem, simprocAttr, o1, o2, o3, o4, l4, o7]
  refine call1 [] false (c42) ?_
  simp -implicitDefEqProofs only [go_sem, simprocAttr, o5, o6]
  refine call1 [] false (c43) ?_
  simp -implicitDefEqProofs only [go_sem, simprocAttr]
  refine lpL (β := Unit) 37 [9, 10, 11, 12, 13, 14, 15, 16] 37 [35, 36] w (by omega) (fun _ _ _ => True) (fun k _ ρ h => ρ 12 = .fv (.int k) ∧ ρ 9 = .gl 35 (h.gen 35) ∧ h.obj 35 = some (.list 3 1 false false (ints ((sgF H A w cs).take k))) ∧ ρ 10 = .gl 36 (h.gen 36) ∧ h.obj 36 = some (.list 3 1 false false (ints ((wyF H A w cs).take k))) ∧ ρ 11 = .fv (.int ((ftF H A w cs).take k).sum)) () trivial (by simp -implicitDefEqProofs only [go_sem, simprocAttr, List.take_zero, ints, List.sum_nil]) ?_ ?_
  · rintro _ ρ h _ ⟨r12, r9, o35, r10, o36, r11⟩
    rw [List.take_of_length_le (by omega)] at o35 o36 r11
    simp -implicitDefEqProofs only [go_sem, simprocAttr, r12, ints_len]
    refine call1 [] false (c46) ?_
    simp -implicitDefEqProofs only [go_sem, simprocAttr]
    refine call1 [] false (c17w) ?_
    simp -implicitDefEqProofs only [go_sem, simprocAttr, r9]
    refine call0 [35] false c17s (by simp -implicitDefEqProofs only [go_sem, simprocAttr, o35]) (.inl rfl) ?_
    simp -implicitDefEqProofs only [go_sem, simprocAttr, o35]
    refine call1 [] false (c45) ?_
    simp -implicitDefEqProofs only [go_sem, simprocAttr]
    refine call1 [] false (c46) ?_
    simp -implicitDefEqProofs only [go_sem, simprocAttr]
    refine call1 [] false (c17w) ?_
    simp -implicitDefEqProofs only [go_sem, simprocAttr, r9, o35]
    refine call0 [35] false c17s (by simp -implicitDefEqProofs only [go_sem, simprocAttr, o35]) (.inl rfl) ?_
    simp -implicitDefEqProofs only [go_sem, simprocAttr, o35]
    refine call1 [] false (c47) ?_
    simp -implicitDefEqProofs only [go_sem, simprocAttr]
    refine call1 [] false (c46) ?_
    simp -implicitDefEqProofs only [go_sem, simprocAttr]
    refine call1 [] false (c17w) ?_
    simp -implicitDefEqProofs only [go_sem, simprocAttr, r9, o35]
    refine call0 [35] false c17s (by simp -implicitDefEqProofs only [go_sem, simprocAttr, o35]) (.inl rfl) ?_
    simp -implicitDefEqProofs only [go_sem, simprocAttr, o35]
    refine call0 [94] false c18a (by simp -implicitDefEqProofs only [go_sem, simprocAttr, r11]) (.inl rfl) ?_
    have hks : lstN (ints ks) = .list false (ints ks) := lstN_ne (by simp [ints]; intro h; rw [h] at kl; simp at kl; omega)
    have hwv : lstN (waysV (q.waysR w (sgF H A w cs))) = .list false (waysV (q.waysR w (sgF H A w cs))) := lstN_ne (by simp [waysV]; intro h; rw [h] at wvl; simp at wvl; omega)
    have wvl' : (waysV (q.waysR w (sgF H A w cs))).length = w.length := by simp [waysV, wvl]
    have l0 : lstN (ints [0]) = .list false [.int 0] := rfl
    have f0' : ¬ n < 0 := by omega
    have f1' : ¬ (ftF H A w cs).sum < n := by omega
    simp -implicitDefEqProofs only [go_sem, simprocAttr, hks, hwv, l0, ints_len, kl, wvl', r11, f0', f1']
    refine lpL (β := Unit) 145 [24, 25, 26, 27] 145 [] w (by omega) (fun _ _ _ => True) (fun k _ ρ h => ρ 25 = .fv (.int k) ∧ ρ 24 = .fv (.int (costs (ks.take k)))) () trivial (by simp -implicitDefEqProofs only [go_sem, simprocAttr, List.take_zero, costs, List.map_nil, List.sum_nil]) ?_ ?_
    · rintro _ ρ' h' _ ⟨r25, r24⟩
      rw [List.take_of_length_le (by omega), ← nc] at r24
      by_cases hn : 0 < n
      · have c18b := c18 (n - 1)
        have nn : ¬ n ≤ n - 1 := by omega
        rw [eM _ (by omega) (by omega), if_neg nn, if_neg (by decide)] at c18b
        have wn : IntKind.i64.wrap (n - 1) = n - 1 := wr _ (by omega) (by omega)
        simp -implicitDefEqProofs only [go_sem, simprocAttr, r25, ints_len, hn]
        refine call1 [] false (c46) ?_
        simp -implicitDefEqProofs only [go_sem, simprocAttr]
        refine call1 [] false (c17w) ?_
        simp -implicitDefEqProofs only [go_sem, simprocAttr, r9, o35]
        refine call0 [35] false c17s (by simp -implicitDefEqProofs only [go_sem, simprocAttr, o35]) (.inl rfl) ?_
        simp -implicitDefEqProofs only [go_sem, simprocAttr, o35, wn]
        refine call0 [274] false c18b (by simp -implicitDefEqProofs only [go_sem, simprocAttr]) (.inl rfl) ?_
        simp -implicitDefEqProofs only [go_sem, simprocAttr, r24]
        refine call1 [] false (t14) ?_
        simp -implicitDefEqProofs only [go_sem, simprocAttr]
        exact ret_fv
      · simp -implicitDefEqProofs only [go_sem, simprocAttr, r25, ints_len, hn, r24]
        refine call1 [] false (t14) ?_
        simp -implicitDefEqProofs only [go_sem, simprocAttr]
        exact ret_fv
    · rintro l ws k _ ρ' h' hx hk hm hk' hw _ ⟨r25, r24⟩
      obtain ⟨l0', l1'⟩ := wo.bd l hm
      obtain ⟨c, hc⟩ : ∃ c, cs[k]? = some c := ⟨_, List.getElem?_eq_getElem (by omega)⟩
      have cb := hb4 c (List.mem_of_getElem? hc)
      have hxi : (ints w)[k]? = some (.int l) := by simp [ints, hx]
      have gs := zip_get (fun l b => (layP H A l b).2.2.1) hx hc
      have gw := zip_get (fun l b => (layP H A l b).1) hx hc
      have hsi : (ints (sgF H A w cs))[k]? = some (.int (layP H A l c).2.2.1) := by rw [ints, List.getElem?_map, sgF, gs]; rfl
      have hwi : (ints (wyF H A w cs))[k]? = some (.int (layP H A l c).1) := by rw [ints, List.getElem?_map, wyF, gw]; rfl
      obtain ⟨kk, hkk⟩ : ∃ kk, ks[k]? = some kk := ⟨_, List.getElem?_eq_getElem (by omega)⟩
      have hki : (ints ks)[k]? = some (.int kk) := by simp [ints, hkk]
      obtain ⟨bb, hbb, hb1⟩ := kat k l _ kk hx gs hkk
      obtain ⟨wm1, wm2⟩ := lay_ways eA (b := c) cb.1 l0' l1'
      rw [hq] at wm1
      have gV := waysR_get (q := q) w (sgF H A w cs) k l _ hx gs
      generalize layP H A l c = y at *
      have hvi : (waysV (q.waysR w (sgF H A w cs)))[k]? = some (lstN (ints (q.kindsR l y.2.2.1))) := by simp [waysV, gV]
      have c1 : (q.kindsR l y.2.2.1).contains y.1 = true := List.contains_iff_mem.2 (kinds_mem.2 ⟨_, wm1⟩)
      have c2m : kk ∈ q.kindsR l y.2.2.1 := by rw [← hb1]; exact kinds_mem.2 ⟨bb.2, (best_is hbb).1⟩
      have c2 : (q.kindsR l y.2.2.1).contains kk = true := List.contains_iff_mem.2 c2m
      have kb := fun x hx => kinds_bd (q := q) (l := l) (s := y.2.2.1) (k := x) hx
      have Ks := kinds_sorted q l y.2.2.1
      have bz : y.2.2.1 = l → kk = 0 := by intro h; rw [h] at hbb; rw [← hb1]; exact best_zero hbb
      have Kl : (q.kindsR l y.2.2.1).length ≤ 1000 := kinds_len (by rw [← hq]; exact n8) l _
      generalize q.kindsR l y.2.2.1 = L at *
      generalize y.2.2.1 = s at *
      have c48 := t48 (s := lstN (ints L)) (l := L) (lsOf_lstN _) (by omega)
      have c49a := t49 (s := .list false (ints L)) (l := L) rfl (by omega) y.1
      have c49b := t49 (s := .list false (ints L)) (l := L) rfl (by omega) kk
      rw [c1] at c49a
      rw [c2] at c49b
      have k03 : kk = 0 ∨ kk = 1 ∨ kk = 2 ∨ kk = 3 := by have := kb kk c2m; omega
      have ha : kk % 4 = kk := by omega
      have hk4 : 0 ≤ kk ∧ kk < 4 := by omega
      have hpt : partF false 1 (List.drop kk.toNat [FV.val (Value.int IntKind.i64 0), FV.val (Value.int IntKind.i64 1), FV.val (Value.int IntKind.i64 1), FV.val (Value.int IntKind.i64 2)]) = some (.fv (.int (cost kk))) := by rcases k03 with rfl | rfl | rfl | rfl <;> rfl
      have cbd := costs_bd ks k
      have cbk := cost_bd kk
      have wc : IntKind.i64.wrap (costs (ks.take k) + cost kk) = costs (ks.take k) + cost kk := wr _ (by omega) (by omega)
      have c50l := t50 v l
      rw [eV, headF_hd eA l0' (by omega), hq] at c50l
      have hcl : (lstN (ints L)).cells = [lstN (ints L)] := ls_cells (lsOf_lstN _)
      have hone : (lstN (ints L)).one = true := ls_fone (lsOf_lstN _)
      simp -implicitDefEqProofs only [go_sem, simprocAttr, r25, ints_len, hk', hvi, hcl, hone]
      refine call1 [] false (c48) ?_
      have kwy : (k : Int) < ((wyF H A w cs).length : Nat) := by omega
      have ksg : (k : Int) < ((sgF H A w cs).length : Nat) := by omega
      simp -implicitDefEqProofs only [go_sem, simprocAttr, r25, r10, o36, ints_len, kwy, hwi, hki]
      refine call1 [] false (c49a) ?_
      simp -implicitDefEqProofs only [go_sem, simprocAttr, r25, hki]
      refine call1 [] false (c49b) ?_
      simp -implicitDefEqProofs only [go_sem, simprocAttr]
      refine lpL (β := Unit) 172 [27] 172 [] L (by omega) (fun _ _ _ => True) (fun j _ ρ h => ρ 27 = .fv (.int j)) () trivial (by simp -implicitDefEqProofs only [go_sem, simprocAttr]) ?_ ?_
      · rintro _ ρ'' h'' _ r27
        simp -implicitDefEqProofs only [go_sem, simprocAttr, r27, ints_len, r24, r25, hki, ↓and_three, ha, hk4, hpt, wc]
        by_cases hsl : s = l
        · have q1 : (s == l) = true := by simpa using hsl
          have q2 : (kk != 0) = false := by simp [bz hsl]
          simp -implicitDefEqProofs only [go_sem, simprocAttr, r25, r9, o35, ints_len, ksg, hsi, hxi, hki, q1, q2, hw]
          refine nxtL () trivial ?_
          rw [costs_snoc hkk]
          simp -implicitDefEqProofs only [go_sem, simprocAttr]
        · have q1 : (s == l) = false := by simpa using hsl
          simp -implicitDefEqProofs only [go_sem, simprocAttr, r25, r9, o35, ints_len, ksg, hsi, hxi, hki, q1, hw]
          refine nxtL () trivial ?_
          rw [costs_snoc hkk]
          simp -implicitDefEqProofs only [go_sem, simprocAttr]
      · rintro x xs j _ ρ'' h'' hjx hj hjm hj' hjw _ r27
        obtain ⟨x0, x3, xz, xo⟩ := kb x hjm
        have gi : (ints L)[j]? = some (.int x) := by simp [ints, hjx]
        have p1 : ¬ x < 0 := by omega
        have p2 : ¬ 3 < x := by omega
        by_cases i0 : j = 0
        · have p3 : ¬ (0 < (j : Int)) := by omega
          simp -implicitDefEqProofs only [go_sem, simprocAttr, r27, ints_len, hj', gi, p1, p2, p3]
          refine W_opsD _ _ _ (Vs []) ?_ ?_
          · decide
          by_cases x1 : x = 0
          · have q1 : (x == 0) = true := by simpa using x1
            have q2 : (x == 1) = false := by simp [x1]
            have q3 : (s != l) = false := by simp [xz x1]
            simp -implicitDefEqProofs only [go_sem, simprocAttr, r27, ints_len, gi, q1, r25, r9, o35, ksg, hsi, hxi, q3, q2, hjw]
            refine nxtL () trivial ?_
            simp -implicitDefEqProofs only [go_sem, simprocAttr]
          · have q1 : (x == 0) = false := by simpa using x1
            by_cases x2 : x = 1
            · have q2 : (x == 1) = true := by simpa using x2
              have q3 : (s != q.hd l) = false := by simp [xo x2]
              simp -implicitDefEqProofs only [go_sem, simprocAttr, r27, ints_len, gi, q1, r25, r9, o35, ksg, hsi, hxi, q2, o5, o6]
              refine callD [] false [.fo (.agg [.int N, sH, sA]), .fo (.int l)] [] c50l ⟨rfl, rfl, trivial⟩ rfl (.inl rfl) ?_
              simp -implicitDefEqProofs only [go_sem, simprocAttr, q3, r27, hjw]
              refine nxtL () trivial ?_
              simp -implicitDefEqProofs only [go_sem, simprocAttr]
            · have q2 : (x == 1) = false := by simpa using x2
              simp -implicitDefEqProofs only [go_sem, simprocAttr, r27, ints_len, gi, q1, q2, hjw]
              refine nxtL () trivial ?_
              simp -implicitDefEqProofs only [go_sem, simprocAttr]
        · have p3 : (0 < (j : Int)) := by omega
          have wi : IntKind.i64.wrap ((j : Int) - 1) = ((j - 1 : Nat) : Int) := by rw [wr _ (by omega) (by omega)]; omega
          have gi1 : (ints L)[j - 1]? = some (.int (gI L ((j - 1 : Nat) : Int))) := by simp [ints, gI, List.getD_eq_getElem?_getD, List.getElem?_eq_getElem (show j - 1 < L.length by omega)]
          have hp1 : gI L ((j - 1 : Nat) : Int) < x := by
            have := List.pairwise_iff_getElem.1 Ks (j - 1) j (by omega) hj (by omega)
            have e1 : gI L ((j - 1 : Nat) : Int) = L[j - 1] := by simp [gI, List.getD_eq_getElem?_getD, List.getElem?_eq_getElem (show j - 1 < L.length by omega)]
            have e2 : x = L[j] := by rw [List.getElem?_eq_getElem hj] at hjx; simpa using hjx.symm
            rw [e1, e2]; exact this
          have p4 : ¬ x ≤ gI L ((j - 1 : Nat) : Int) := by omega
          simp -implicitDefEqProofs only [go_sem, simprocAttr, r27, ints_len, hj', gi, p1, p2, p3, wi, gi1, p4]
          refine W_opsD _ _ _ (Vs []) ?_ ?_
          · decide
          by_cases x1 : x = 0
          · have q1 : (x == 0) = true := by simpa using x1
            have q2 : (x == 1) = false := by simp [x1]
            have q3 : (s != l) = false := by simp [xz x1]
            simp -implicitDefEqProofs only [go_sem, simprocAttr, r27, ints_len, gi, q1, r25, r9, o35, ksg, hsi, hxi, q3, q2, hjw]
            refine nxtL () trivial ?_
            simp -implicitDefEqProofs only [go_sem, simprocAttr]
          · have q1 : (x == 0) = false := by simpa using x1
            by_cases x2 : x = 1
            · have q2 : (x == 1) = true := by simpa using x2
              have q3 : (s != q.hd l) = false := by simp [xo x2]
              simp -implicitDefEqProofs only [go_sem, simprocAttr, r27, ints_len, gi, q1, r25, r9, o35, ksg, hsi, hxi, q2, o5, o6]
              refine callD [] false [.fo (.agg [.int N, sH, sA]), .fo (.int l)] [] c50l ⟨rfl, rfl, trivial⟩ rfl (.inl rfl) ?_
              simp -implicitDefEqProofs only [go_sem, simprocAttr, q3, r27, hjw]
              refine nxtL () trivial ?_
              simp -implicitDefEqProofs only [go_sem, simprocAttr]
            · have q2 : (x == 1) = false := by simpa using x2
              simp -implicitDefEqProofs only [go_sem, simprocAttr, r27, ints_len, gi, q1, q2, hjw]
              refine nxtL () trivial ?_
              simp -implicitDefEqProofs only [go_sem, simprocAttr]
  · rintro l ws k _ ρ h hx hk hm hk' hw _ ⟨r12, r9, o35, r10, o36, r11⟩
    obtain ⟨c, hc⟩ : ∃ c, cs[k]? = some c := ⟨_, List.getElem?_eq_getElem (by omega)⟩
    have cb := hb4 c (List.mem_of_getElem? hc)
    have hxi : (ints w)[k]? = some (.int l) := by simp [ints, hx]
    have k6 : (k : Int) < 6 := by omega
    have hg : partL false 1 (List.drop k ((cs.map u8).map LV.fv)) = some (.fv (u8 c)) := partL_get (by simp [hc])
    have e1 := zip_take (fun l b => (layP H A l b).2.2.1) hx hc
    have e2 := zip_take (fun l b => (layP H A l b).1) hx hc
    have e3 := zip_take (fun l b => (layP H A l b).2.2.2) hx hc
    have fb := ft_bd H A w cs k
    have lb := layP_ft H A l c
    simp -implicitDefEqProofs only [go_sem, simprocAttr, r12, ints_len, hk', hxi, k6, hg, o5, o6]
    refine call1 [] false (c44 l c cb.1 cb.2) ?_
    simp -implicitDefEqProofs only [go_sem, simprocAttr, r9]
    generalize layP H A l c = y at *
    refine app_gl (by simp -implicitDefEqProofs only [go_sem, simprocAttr, o35]; rfl) idx_26 (by simp -implicitDefEqProofs only [go_sem, simprocAttr]; rfl) (by simp [FV.cells]) (by simp -implicitDefEqProofs only [go_sem, simprocAttr]) (by simp [byt_3, ints]; omega) (by simp [maxLen, ints]; omega) (by simp) ?_
    simp -implicitDefEqProofs only [go_sem, simprocAttr, r10]
    refine app_gl (by simp -implicitDefEqProofs only [go_sem, simprocAttr, o36]; rfl) idx_26 (by simp -implicitDefEqProofs only [go_sem, simprocAttr]; rfl) (by simp [FV.cells]) (by simp -implicitDefEqProofs only [go_sem, simprocAttr]) (by simp [byt_3, ints]; omega) (by simp [maxLen, ints]; omega) (by simp) ?_
    have ws : IntKind.i64.wrap (((ftF H A w cs).take k).sum + y.2.2.2) = ((ftF H A w cs).take k).sum + y.2.2.2 := wr _ (by omega) (by omega)
    simp -implicitDefEqProofs only [go_sem, simprocAttr, r11, r12, ws, hw]
    refine nxtL () trivial ?_
    unfold sgF wyF ftF at *
    rw [e1, e2, e3]
    simp -implicitDefEqProofs only [go_sem, simprocAttr, ints, List.map_append, sum_snoc]
end S07

