/- A part of the proof: H07i. -/
import Derived.Test.YtmanbdacloeioaaP07e
import Derived.Test.YtmanbdacloeioaaH07d
import Derived.Test.YtmanbdacloeioaaP07a
set_option linter.unusedVariables false
set_option linter.unusedSimpArgs false
set_option maxRecDepth 20000
namespace S07
open Go Abs
theorem min2_i (a b : Int) : min2V (.int .i64 a) (.int .i64 b) = some (.int .i64 (min a b)) := by
  show some (Value.int .i64 (if b < a then b else a)) = _
  congr 2
  split <;> omega
theorem t52 {st : FV} {N : Int} {hs al : FV} {H A : List (Int × Int)} (v : SetV st N hs al H A) (lA : A.length ≤ 1000000) {sw ss : FV} {w s : List Int} (h1 : lsOf sw = some (ints w)) (h2 : lsOf ss = some (ints s)) (hl : w.length = s.length) (l6 : w.length ≤ 1000) (most place letter : Int) :
    Fn Q 52 [.fo st, .fo sw, .fo ss, .fo (.int most), .fo (.int place), .fo (.int letter)] (.one (.fx (.bool (canR H A w s most place letter)))) := by
  have c44 := fun l b h h' => t44 v lA l (b := b) h h'
  obtain ⟨rfl, hH, hA, _, _⟩ := v
  have o1 := ls_one hH
  have o2 := ls_one hA
  refine fn_intro Go.Proofs.Try.func52 rfl (by kernel_rfl) mix (k52 0) (Nat.le_of_ble_eq_true (by kernel_rfl)) ?_
  refine Abs.walk ?_
  unfold c52 sop
  simp -implicitDefEqProofs only [go_sem, simprocAttr, o1, o2]
  refine lpL (β := Unit) 21 [13, 14, 15, 16, 17, 18, 19, 20] 21 [] w (by omega) (fun _ _ _ => True) (fun i _ ρ h => ρ 14 = .fv (.int i) ∧ ρ 13 = .fv (.int (allF H A w s place letter i))) () trivial (by simp -implicitDefEqProofs only [go_sem, simprocAttr, allF]) ?_ ?_
  · rintro _ ρ h _ ⟨r14, r13⟩
    simp -implicitDefEqProofs only [go_sem, simprocAttr, r14, r13, lenV_ls h1, ints_len]
    exact ret_fv
  · rintro x xs i _ ρ h hx hi hm hi' hw _ ⟨r14, r13⟩
    obtain ⟨y, hy⟩ : ∃ y, s[i]? = some y := ⟨_, List.getElem?_eq_getElem (by omega)⟩
    have gx : gI w (i : Nat) = x := by unfold gI; rw [List.getD_eq_getElem?_getD]; simp [hx]
    have gy : gI s (i : Nat) = y := by unfold gI; rw [List.getD_eq_getElem?_getD]; simp [hy]
    simp -implicitDefEqProofs only [go_sem, simprocAttr, r14, r13, lenV_ls h1, ints_len, hi']
    refine lpH 27 [15, 16, 17, 18, 19, 20] 27 [] (fun k : Nat => 64 - k) (fun k => k ≤ 64) (fun k ρ h => ρ 16 = .fv (.int k) ∧ ρ 15 = .fv (.int (lstF H A x y (atF place letter i) k))) 0 (by omega) (by simp -implicitDefEqProofs only [go_sem, simprocAttr, lstF]) ?_
    rintro k ρ2 h2' hk ⟨r16, r15⟩
    have hwk : IntKind.i64.wrap ((k : Int) + 1) = ((k + 1 : Nat) : Int) := wr _ (by omega) (by omega)
    by_cases q1 : k < 64
    · have q1' : (k : Int) < 64 := by omega
      have hwu : IntKind.u8.wrap (k : Int) = (k : Int) := by
        unfold IntKind.wrap
        simp [IntKind.signed, IntKind.bits]
        omega
      have es : lstF H A x y (atF place letter i) (k + 1) = if (layP H A x (k : Nat)).2.2.1 = y ∧ atF place letter i (layP H A x (k : Nat)).2.1 = true then min (lstF H A x y (atF place letter i) k) (layP H A x (k : Nat)).2.2.2 else lstF H A x y (atF place letter i) k := rfl
      have c := c44 x k (by omega) (by omega)
      simp -implicitDefEqProofs only [go_sem, simprocAttr, r16, q1', r14, lenV_ls h1, ints_len, hi', index_map h1 idx_26 hx rfl, hwu]
      refine call1 [] false (c) ?_
      generalize layP H A x (k : Nat) = L at *
      obtain ⟨a, b, c', d⟩ := L
      dsimp only at es
      generalize lstF H A x y (atF place letter i) k = M at *
      have hmn := min2_i M d
      by_cases e1 : c' = y
      · have e1' : (c' == y) = true := by simpa using e1
        by_cases e2 : (i : Int) = place
        · have e2' : ((i : Int) != place) = false := by simpa using e2
          by_cases e3 : b = letter
          · have e3' : (b == letter) = true := by simpa using e3
            have ea : atF place letter i b = true := by simp [atF, e3]
            rw [if_pos ⟨e1, ea⟩] at es
            simp -implicitDefEqProofs only [go_sem, simprocAttr, r14, index_map h2 idx_26 hy rfl, e1', e2', e3', r15, hmn, r16, hwk]
            refine nxt (k + 1) (by omega) (by omega) ?_
            simp -implicitDefEqProofs only [go_sem, simprocAttr, es]
          · have e3' : (b == letter) = false := by simpa using e3
            have ea : ¬ (c' = y ∧ atF place letter i b = true) := by simp [atF, e3, e2]
            rw [if_neg ea] at es
            simp -implicitDefEqProofs only [go_sem, simprocAttr, r14, index_map h2 idx_26 hy rfl, e1', e2', e3', r15, r16, hwk]
            refine nxt (k + 1) (by omega) (by omega) ?_
            simp -implicitDefEqProofs only [go_sem, simprocAttr, es, r15]
        · have e2' : ((i : Int) != place) = true := by simpa using e2
          have ea : atF place letter i b = true := by simp [atF, e2]
          rw [if_pos ⟨e1, ea⟩] at es
          simp -implicitDefEqProofs only [go_sem, simprocAttr, r14, index_map h2 idx_26 hy rfl, e1', e2', r15, hmn, r16, hwk]
          refine nxt (k + 1) (by omega) (by omega) ?_
          simp -implicitDefEqProofs only [go_sem, simprocAttr, es]
      · have e1' : (c' == y) = false := by simpa using e1
        rw [if_neg (fun h => e1 h.1)] at es
        simp -implicitDefEqProofs only [go_sem, simprocAttr, r14, index_map h2 idx_26 hy rfl, e1', r15, r16, hwk]
        refine nxt (k + 1) (by omega) (by omega) ?_
        simp -implicitDefEqProofs only [go_sem, simprocAttr, es, r15]
    · have q1' : ¬ (k : Int) < 64 := by omega
      obtain rfl : k = 64 := by omega
      have b1 := all_bd H A w s place letter i
      have b2 := lst_bd H A x y (atF place letter i) 64
      have wa : IntKind.i64.wrap (allF H A w s place letter i + lstF H A x y (atF place letter i) 64) = allF H A w s place letter (i + 1) := by
        rw [wr _ (by omega) (by omega), allF, gx, gy]
      simp -implicitDefEqProofs only [go_sem, simprocAttr, r16, q1', r13, r15, wa, r14, hw]
      refine nxtL () trivial ?_
      simp -implicitDefEqProofs only [go_sem, simprocAttr]
theorem max2_i (a b : Int) : max2V (.int .i64 a) (.int .i64 b) = some (.int .i64 (mx a b)) := rfl
def stF' (H A : List (Int × Int)) (w hb : List Int) : List Int := List.zipWith (fun l b => (layP H A l b).2.1) w hb
set_option maxHeartbeats 4000000 in
theorem t8 {b : Int} {hs as_ : FV} {hl al : List (Int × Int)} {Bs : List (List Int)} {V : List Int} (b0 : 0 ≤ b) (b1 : b < 256) (h1 : lsOf hs = some (hl.map pU)) (h2 : lsOf as_ = some (al.map pU)) (hb : BB hl) (ab : BB al) (l1 : hl.length ≤ 9223372036854775807) (l2 : al.length ≤ 9223372036854775807)
    (B5 : Bs.length = 5) (B3 : ∀ x ∈ Bs, x.length = 3) (Bb : ∀ x ∈ Bs, ∀ n ∈ x, 0 ≤ n ∧ n < 256) (Vl : V.length = 4) (Vb : ∀ n ∈ V, 0 ≤ n ∧ n < 256) :
    Fn Q 8 [.fo (.agg [u8 b, hs, as_]), .fo (.agg (fl8 Bs)), .fo (.agg (V.map u8))] (.one (.fx (.bool true))) := by
  have c42 := t42 b0 b1 h1 h2 hb ab l1 l2
  have v := made_v (hl := hl) (al := al) b0
  have eA := made_ok b0 hb ab
  obtain ⟨n0, n8⟩ := madeN_bd b0
  have mA := madeA_len (madeN b) al
  have o1 := ls_one h1
  have o2 := ls_one h2
  have o3 : ((fl8 Bs).map LV.fv).all LV.one = true := by
    simp only [fl8, List.all_eq_true, List.mem_map, List.mem_flatMap]
    rintro x ⟨y, ⟨z, _, w, _, rfl⟩, rfl⟩; rfl
  have o7 : (LV.fv (u8 b)).one = true := rfl
  have f15 : (fl8 Bs).length = 15 := by rw [fl8_lenm Bs B3, B5]
  generalize madeN b = N at *
  generalize (madeH N hl).1 = H at *
  generalize madeA N al = A at *
  obtain ⟨lH, lA⟩ := errA_len eA
  have o5 := lstN_one (H.map pF)
  have o6 := lstN_one (A.map pF)
  generalize lstN (H.map pF) = sH at *
  generalize lstN (A.map pF) = sA at *
  have eV := v.eq
  have vC := setC_v (N := N) (H := H) (A := A) (by omega) (by omega)
  have c46 := t46 v (by omega) (by omega)
  have c43 := fun (bs : List Int) (h' : ∀ x ∈ bs, 0 ≤ x ∧ x < 256) (h'' : bs.length ≤ 9223372036854775807) => t43 (s := .list false (bs.map u8)) v n0 rfl h' h''
  have c44 := fun l b h h' => t44 v (by omega) l (b := b) h h'
  have c52 := fun {sw ss : FV} {w s : List Int} (h1 : lsOf sw = some (ints w)) (h2 : lsOf ss = some (ints s)) hl l6 => t52 v (by omega) (sw := sw) (ss := ss) h1 h2 hl l6
  rw [eV] at c42 c46 c43 c44 c52
  obtain ⟨w0, w1, w2, w3, rfl⟩ : ∃ w0 w1 w2 w3, V = [w0, w1, w2, w3] := by
    match V, Vl with
    | [w0, w1, w2, w3], _ => exact ⟨w0, w1, w2, w3, rfl⟩
  have hw3 := Vb w3 (by simp)
  have o8 : ∀ w : Int, (LV.fv (u8 w)).one = true := fun _ => rfl
  have wr3 : IntKind.i64.wrap w3 = w3 := wr _ (by omega) (by omega)
  obtain ⟨tr, htr, tr5⟩ : ∃ tr : Nat, w3.tmod 5 = (tr : Int) ∧ tr < 5 := by
    rw [Int.tmod_eq_emod_of_nonneg hw3.1]
    exact ⟨(w3 % 5).toNat, by omega, by omega⟩
  refine fn_intro Go.Proofs.Try.func8 rfl (by kernel_rfl) mix (k8 0) (Nat.le_of_ble_eq_true (by kernel_rfl)) ?_
  refine Abs.walk ?_
  unfold c8 sop
  simp -implicitDefEqProofs only [go_sem, simprocAttr, o1, o2, o3, o7, o8, f15]
  refine call1 [] false (c42) ?_
  simp -implicitDefEqProofs only [go_sem, simprocAttr, o5, o6]
  refine lpH 33 [8, 9] 33 [32] (fun k : Nat => 5 - k) (fun k => k ≤ 5) (fun k ρ h => ρ 9 = .fv (.int k) ∧ ρ 8 = .gl 32 (h.gen 32) ∧ h.obj 32 = some (.list 26 1 false false (lsF ((Bs.take k).map (wordF N))))) 0 (by omega) ?_ ?_
  · simp -implicitDefEqProofs only [go_sem, simprocAttr, List.take_zero, lsF]
  · rintro k ρ h hk ⟨r9, r8, o32⟩
    by_cases q1 : k < 5
    · have q1' : (k : Int) < 5 := by omega
      obtain ⟨bs, hbs⟩ : ∃ bs, Bs[k]? = some bs := ⟨_, List.getElem?_eq_getElem (by omega)⟩
      have hbm := List.mem_of_getElem? hbs
      obtain ⟨x0, x1, x2, rfl⟩ : ∃ x0 x1 x2, bs = [x0, x1, x2] := by
        match bs, B3 bs hbm with
        | [x0, x1, x2], _ => exact ⟨x0, x1, x2, rfl⟩
      have a0 := fl8_at B3 (c := 0) hbs rfl
      have a1 := fl8_at B3 (c := 1) hbs rfl
      have a2 := fl8_at B3 (c := 2) hbs rfl
      rw [Nat.add_zero] at a0
      have hw : IntKind.i64.wrap ((k : Int) + 1) = ((k + 1 : Nat) : Int) := wr _ (by omega) (by omega)
      have et : Bs.take (k + 1) = Bs.take k ++ [[x0, x1, x2]] := by rw [List.take_add_one, hbs]; rfl
      simp -implicitDefEqProofs only [go_sem, simprocAttr, r9, r8, q1']
      refine W_opsD _ _ _ (Vs [[], [], [], [], [], [], [], [], [], [], [], [], [], [], [51], [51], [53], [32]]) ?_ ?_
      · decide
      simp -implicitDefEqProofs only [go_sem, simprocAttr, o5, o6, r9, q1', a0, a1, a2, u8]
      refine call0 [51] false (c43 [x0, x1, x2] (Bb _ hbm) (by simp)) (by simp -implicitDefEqProofs only [go_sem, simprocAttr, u8]) (.inl rfl) ?_
      simp -implicitDefEqProofs only [go_sem, simprocAttr, r8]
      refine app_gl (by simp -implicitDefEqProofs only [go_sem, simprocAttr, o32]; rfl) idx_25 (by simp -implicitDefEqProofs only [go_sem, simprocAttr]; rfl) (by simp [FV.cells]) (by simp -implicitDefEqProofs only [go_sem, simprocAttr]) (by simp [byt_26, lsF]; omega) (by simp [maxLen, lsF]; omega) (by simp) ?_
      simp -implicitDefEqProofs only [go_sem, simprocAttr, r9, hw]
      refine nxt (k + 1) (by omega) (by omega) ?_
      simp -implicitDefEqProofs only [go_sem, simprocAttr, et, lsF, ints, List.map_append]
    · obtain rfl : k = 5 := by omega
      have q1' : ¬ ((5 : Nat) : Int) < 5 := by omega
      generalize hWe : (Bs.take 5).map (wordF N) = W at *
      have Wl : W.length = 5 := by rw [← hWe]; simp; omega
      have hW : ∀ w ∈ W, WordOk N w := by
        intro w hw
        rw [← hWe] at hw
        obtain ⟨bs, hbs, rfl⟩ := List.mem_map.1 hw
        exact wordF_ok n0 (Bb bs (List.mem_of_mem_take hbs))
      have W3 : ∀ w ∈ W, w.length = 3 := by
        intro w hw
        rw [← hWe] at hw
        obtain ⟨bs, hbs, rfl⟩ := List.mem_map.1 hw
        have := B3 bs (List.mem_of_mem_take hbs)
        unfold wordF
        rw [if_neg (by intro e; rw [e] at this; simp at this)]
        simp [this]
      obtain ⟨w, hw⟩ : ∃ w, W[tr]? = some w := ⟨_, List.getElem?_eq_getElem (by omega)⟩
      have hwm := List.mem_of_getElem? hw
      have wok := hW w hwm
      have w3' := W3 w hwm
      have gw : (lsF W)[tr]? = some (.list false (ints w)) := by simp [lsF, hw]
      have trW : (tr : Int) < (W.length : Nat) := by omega
      obtain ⟨V3, hV3⟩ : ∃ V3, V3 = [w0, w1, w2] := ⟨_, rfl⟩
      have V3b : ∀ n ∈ V3, 0 ≤ n ∧ n < 256 := by rw [hV3]; intro n hn; exact Vb n (by simp at hn ⊢; rcases hn with h | h | h <;> simp [h])
      have V3l : V3.length = 3 := by rw [hV3]; rfl
      have Vat : ∀ (j : Nat) (x : Int), V3[j]? = some x → partL false 1 (List.drop j [LV.fv (FV.val (Value.int IntKind.u8 w0)), LV.fv (FV.val (Value.int IntKind.u8 w1)), LV.fv (FV.val (Value.int IntKind.u8 w2)), LV.fv (FV.val (Value.int IntKind.u8 w3))]) = some (.fv (u8 x)) := by
        intro j x hx
        refine partL_get ?_
        rw [hV3] at hx
        match j with
        | 0 => simp at hx; subst hx; rfl
        | 1 => simp at hx; subst hx; rfl
        | 2 => simp at hx; subst hx; rfl
        | j + 3 => simp at hx
      simp -implicitDefEqProofs only [go_sem, simprocAttr, r9, q1', wr3, htr, u8]
      refine lpL (β := Unit) 61 [11, 12, 13, 14, 15, 16, 17, 18] 61 [59, 60] V3 (by omega) (fun _ _ _ => True) (fun j _ ρ' h' => ρ' 14 = .fv (.int j) ∧ ρ' 13 = .fv (.int ((ftF H A w V3).take j).sum) ∧ ρ' 11 = .gl 59 (h'.gen 59) ∧ ρ' 12 = .gl 60 (h'.gen 60) ∧ h'.obj 59 = some (.list 3 1 false false (ints ((sgF H A w V3).take j))) ∧ h'.obj 60 = some (.list 3 1 false false (ints ((stF' H A w V3).take j)))) () trivial (by simp -implicitDefEqProofs only [go_sem, simprocAttr, List.take_zero, ints, List.map_nil, List.sum_nil]) ?_ ?_
      · rintro _ ρ2 h2' _ ⟨r14, r13, r11, r12, o59, o60⟩
        have sl : (sgF H A w V3).length = 3 := by unfold sgF; rw [List.length_zipWith]; omega
        have fl : (ftF H A w V3).length = 3 := by unfold ftF; rw [List.length_zipWith]; omega
        have tl : (stF' H A w V3).length = 3 := by unfold stF'; rw [List.length_zipWith]; omega
        rw [V3l, List.take_of_length_le (by omega)] at r13 o59 o60
        have fb := ft_bd H A w V3 3
        rw [List.take_of_length_le (by omega)] at fb
        have V30 : ∀ n ∈ V3, 0 ≤ n := fun n hn => (V3b n hn).1
        have wl' : w.length = V3.length := by omega
        have tm := true_few eA wok.bd V30 wl'
        have tlies := fun p hp => true_lies eA (p := p) wok.bd V30 wl' hp
        have sgw : isWord N (sgF H A w V3) [-1] = true := sg_word (by omega) (by omega) (sg_bd eA w V3 wok.bd V30)
        have tb : ∀ p : Nat, p < 3 → 0 ≤ gI (stF' H A w V3) (p : Nat) ∧ gI (stF' H A w V3) (p : Nat) < N ∧ (alOf N H A).lies (sgF H A w V3) (ftF H A w V3).sum p w (gI (stF' H A w V3) (p : Nat)) = true := by
          intro p hp
          have e1 : gI (stF' H A w V3) (p : Nat) = (layP H A (gI w (p : Nat)) (gI V3 (p : Nat))).2.1 := zipWith_gI _ (by omega) (by omega)
          have wb := wok.bd _ (gI_mem (p := w) (i := p) (by omega))
          have hk := lay_ways (H := H) (b := gI V3 (p : Nat)) eA (V30 _ (gI_mem (by omega))) wb.1 wb.2
          have hm := ways_mem (q := alOf N H A) wb.1 wb.2 hk.1
          rw [e1]
          exact ⟨hm.1, hm.2, tlies p (by omega)⟩
        generalize sgF H A w V3 = sg at *
        generalize (ftF H A w V3).sum = fa at *
        generalize stF' H A w V3 = sts at *
        have eM := errM_is (W := W) (most := fa) eA (by omega) hW sgw (by omega) (by omega)
        have min_ : ((tr : Nat) : Int) ∈ meantR N H A W sg fa := by
          have := meantF_in (q := alOf N H A) (s := sg) (most := fa) W 0 tr w hw tm
          simpa [meantR] using this
        have mne : meantR N H A W sg fa ≠ [] := List.ne_nil_of_mem min_
        rw [if_neg mne] at eM
        have hWl : ∀ l ∈ W, l.length ≤ 1000000 := fun l hl => by have := W3 l hl; omega
        have hWv := lsV_lists W (fun l hl => by have := hWl l hl; omega)
        have c51 := t51 hWv (by omega) hWl
        have c17 := t17 (s := .list false (ints sg)) (l := sg) rfl (by omega)
        have c18 := t18 (most := fa) vC hWv (by omega) (ss := .list false (ints sg)) (sg := sg) rfl (by omega)
        have c19 := t19 (most := fa) vC hWv (by omega) (ss := .list false (ints sg)) (sg := sg) rfl (by omega)
        rw [eM] at c18
        have mpair := meantF_pair (q := alOf N H A) (s := sg) (most := fa) W 0
        have mmem := fun i hi => meantF_mem (q := alOf N H A) (s := sg) (most := fa) W 0 i hi
        have mlen := meantF_len (q := alOf N H A) (s := sg) (most := fa) W 0
        rw [show (alOf N H A).meantF sg fa W 0 = meantR N H A W sg fa from rfl] at mpair mmem mlen
        have eK : errK N H A W sg fa = if (askR N H A W sg fa).2 = ((meantR N H A W sg fa).length : Nat) then 6 else 0 := by simp [errK, eM]
        have aI := askF_is (fun p => (alOf N H A).leftR W sg fa p (meantR N H A W sg fa)) sg.length 0 (0, ((meantR N H A W sg fa).length : Nat))
        rw [show askF (fun p => (alOf N H A).leftR W sg fa p (meantR N H A W sg fa)) sg.length 0 (0, ((meantR N H A W sg fa).length : Nat)) = askR N H A W sg fa from rfl] at aI
        rw [eK] at c19
        generalize askR N H A W sg fa = R at *
        have hsM := lsOf_lstN (ints (meantR N H A W sg fa))
        generalize lstN (ints (meantR N H A W sg fa)) = sM at *
        generalize meantR N H A W sg fa = MT at *
        have MTp := List.length_pos_iff.2 mne
        have lv1 : ∀ p : Nat, p < 3 → 1 ≤ (alOf N H A).leftR W sg fa p MT := by
          intro p hp
          obtain ⟨t0, t1, t2⟩ := tb p hp
          have hc := cnt_pos (q := alOf N H A) (W := W) (s := sg) (most := fa) (p := p) (st := gI sts (p : Nat)) MT tr min_ (by rw [Int.toNat_natCast, List.getD_eq_getElem?_getD, hw]; exact t2)
          have hm := maxN_le (fun st => (alOf N H A).cnt W sg fa p (st : Nat) MT) N.toNat (gI sts (p : Nat)).toNat (by omega)
          have e : (((gI sts (p : Nat)).toNat : Nat) : Int) = gI sts (p : Nat) := by omega
          rw [e] at hm
          exact Int.le_trans hc hm
        have cl : ∀ (i : Int) (p : Nat) (st : Int), i ∈ MT → p < 3 → canR H A (W.getD i.toNat []) sg fa (p : Nat) st = (alOf N H A).lies sg fa p (W.getD i.toNat []) st := by
          intro i p st hi hp
          obtain ⟨m1, m2, m3⟩ := mmem i hi
          simp only [Nat.sub_zero, Nat.zero_add] at m2 m3
          have wi : W[i.toNat]? = some (W.getD i.toNat []) := by
            rw [List.getD_eq_getElem?_getD, List.getElem?_eq_getElem (show i.toNat < W.length by omega)]; rfl
          have wim := List.mem_of_getElem? wi
          have h3 := W3 _ wim
          unfold Al.isMeant at m3
          simp only [Bool.and_eq_true, decide_eq_true_eq] at m3
          obtain ⟨m3, m4⟩ := m3
          split at m4
          · simp at m4
          · rename_i r hr
            exact can_lies eA (by omega) (ks := r.1) (n := r.2) m3 (hW _ wim).bd hr (by omega) (by omega)
        obtain ⟨er, pl, lf, D, cK⟩ : ∃ er pl lf : Int, ((er = 6 ∧ pl = 0 ∧ lf = 0 ∧ ∀ p : Nat, p < 3 → (MT.length : Int) ≤ (alOf N H A).leftR W sg fa p MT) ∨ (er = 0 ∧ ∃ i : Nat, i < 3 ∧ pl = i ∧ lf = (alOf N H A).leftR W sg fa i MT ∧ lf < MT.length ∧ 1 ≤ lf ∧ (∀ p : Nat, p < 3 → lf ≤ (alOf N H A).leftR W sg fa p MT) ∧ ∀ j : Nat, j < i → lf < (alOf N H A).leftR W sg fa j MT)) ∧
            Fn Q 19 [.fo (setC N H A), .fo (lsV W), .fo (.list false (ints sg)), .fo (.int fa)] (.tup [.fx (.int pl), .fx (.int lf), .fx (.int er)]) := by
          rw [sl] at aI
          obtain ⟨q1, q2, q3⟩ := aI
          by_cases ek : R.2 = (MT.length : Nat)
          · rw [if_pos ek] at c19
            exact ⟨6, 0, 0, .inl ⟨rfl, rfl, rfl, fun p hp => by have := q2 p (by omega) (by omega); omega⟩, c19⟩
          · rw [if_neg ek] at c19
            refine ⟨0, R.1, R.2, .inr ⟨rfl, ?_⟩, c19⟩
            rcases q3 with q3 | ⟨i, i1, i2, i3, i4, i5, i6⟩
            · exact absurd (by rw [q3]) ek
            · dsimp only at i4 i5 i6
              have := lv1 i (by omega)
              exact ⟨i, by omega, i3, i4, i5, by omega, fun p hp => q2 p (by omega) (by omega), fun j hj => i6 j (by omega) hj⟩
        have v3n : ¬ ((V3.length : Nat) : Int) < 3 := by omega
        simp -implicitDefEqProofs only [go_sem, simprocAttr, r14, v3n]
        refine call1 [] false (c46) ?_
        simp -implicitDefEqProofs only [go_sem, simprocAttr, r8, o32]
        refine call0 [32] false c51 (by simp -implicitDefEqProofs only [go_sem, simprocAttr, o32]; rfl) (.inl rfl) ?_
        simp -implicitDefEqProofs only [go_sem, simprocAttr, r11, o59, o32]
        refine call0 [59] false c17 (by simp -implicitDefEqProofs only [go_sem, simprocAttr, o59, o32]) (.inl rfl) ?_
        simp -implicitDefEqProofs only [go_sem, simprocAttr, r13, o59]
        refine call1 [] false (c18) ?_
        simp -implicitDefEqProofs only [go_sem, simprocAttr, r8]
        refine call1 [] false (c46) ?_
        simp -implicitDefEqProofs only [go_sem, simprocAttr, r8]
        refine call0 [] false c51 (by simp -implicitDefEqProofs only [go_sem, simprocAttr, r8, lsV]) (.inl rfl) ?_
        simp -implicitDefEqProofs only [go_sem, simprocAttr, r11]
        refine call0 [] false c17 (by simp -implicitDefEqProofs only [go_sem, simprocAttr]) (.inl rfl) ?_
        simp -implicitDefEqProofs only [go_sem, simprocAttr, r13]
        refine call1 [] false (cK) ?_
        have c49 := t49 hsM (by omega) (tr : Int)
        rw [show MT.contains ((tr : Nat) : Int) = true by simpa using min_] at c49
        simp -implicitDefEqProofs only [go_sem, simprocAttr]
        refine call1 [] false (c49) ?_
        rcases D with ⟨rfl, rfl, rfl, D1⟩ | ⟨rfl, i, i3, rfl, D0, D1, D2, D3, D4⟩
        · simp -implicitDefEqProofs only [go_sem, simprocAttr]
          refine lpL (β := Unit) 162 [24] 162 [] MT (by omega) (fun _ _ _ => True) (fun k _ ρ h => ρ 24 = .fv (.int k)) () trivial (by simp -implicitDefEqProofs only [go_sem, simprocAttr]) ?_ ?_
          · rintro _ ρ3 h3 _ r24
            simp -implicitDefEqProofs only [go_sem, simprocAttr, r24, lenV_ls hsM, ints_len]
            refine lpH 196 [25, 26, 27, 28, 29] 196 [] (fun p : Nat => 3 - p) (fun p => p ≤ 3) (fun p ρ h => ρ 25 = .fv (.int p)) 0 (by omega) (by simp -implicitDefEqProofs only [go_sem, simprocAttr]) ?_
            rintro p ρ4 h4 hp r25
            by_cases p3 : p < 3
            · have p3' : (p : Int) < 3 := by omega
              have hwp : IntKind.i64.wrap ((p : Int) + 1) = ((p + 1 : Nat) : Int) := wr _ (by omega) (by omega)
              simp -implicitDefEqProofs only [go_sem, simprocAttr, r25, p3']
              refine lpH 200 [26, 27, 28, 29] 200 [] (fun k : Nat => N.toNat - k) (fun k => k ≤ N.toNat) (fun k ρ h => ρ 27 = .fv (.int k) ∧ ρ 26 = .fv (.int (maxN (fun st => (alOf N H A).cnt W sg fa p (st : Nat) MT) k))) 0 (by omega) (by simp -implicitDefEqProofs only [go_sem, simprocAttr, maxN]) ?_
              rintro k ρ5 h5 hk ⟨r27, r26⟩
              by_cases k3 : k < N.toNat
              · have k3' : (k : Int) < N := by omega
                have hwk : IntKind.i64.wrap ((k : Int) + 1) = ((k + 1 : Nat) : Int) := wr _ (by omega) (by omega)
                simp -implicitDefEqProofs only [go_sem, simprocAttr, r27, k3', o5, o6]
                refine lpL (β := Unit) 206 [28, 29] 206 [] MT (by omega) (fun _ _ _ => True) (fun i _ ρ h => ρ 29 = .fv (.int i) ∧ ρ 28 = .fv (.int ((alOf N H A).cnt W sg fa p (k : Nat) (MT.take i)))) () trivial (by simp -implicitDefEqProofs only [go_sem, simprocAttr, List.take_zero, Al.cnt]) ?_ ?_
                · rintro _ ρ6 h6 _ ⟨r29, r28⟩
                  rw [List.take_length] at r28
                  simp -implicitDefEqProofs only [go_sem, simprocAttr, r29, lenV_ls hsM, ints_len, r26, r28, max2_i, r27, hwk]
                  refine nxt (k + 1) (by omega) (by omega) ?_
                  simp -implicitDefEqProofs only [go_sem, simprocAttr, maxN]
                · rintro x xs i _ ρ6 h6 hx hi hm hi' hwi _ ⟨r29, r28⟩
                  obtain ⟨m1, m2, m3⟩ := mmem x hm
                  simp only [Nat.zero_add] at m2
                  have m1 : (0 : Int) ≤ x := by omega
                  have xW : (x : Int) < (W.length : Nat) := by omega
                  obtain ⟨w', hw'⟩ : ∃ w', W[x.toNat]? = some w' := ⟨_, List.getElem?_eq_getElem (by omega)⟩
                  have ew : W.getD x.toNat [] = w' := by rw [List.getD_eq_getElem?_getD, hw']; rfl
                  have gw' : (lsF W)[x.toNat]? = some (.list false (ints w')) := by simp [lsF, hw']
                  have wl3 := W3 w' (List.mem_of_getElem? hw')
                  have c := c52 (sw := .list false (ints w')) (w := w') rfl (ss := .list false (ints sg)) (s := sg) rfl (by omega) (by omega) fa (p : Nat) (k : Nat)
                  have ec := cl x p (k : Nat) hm p3
                  rw [ew] at ec
                  rw [ec] at c
                  have es : (alOf N H A).cnt W sg fa p (k : Nat) (MT.take (i + 1)) = (alOf N H A).cnt W sg fa p (k : Nat) (MT.take i) + if (alOf N H A).lies sg fa p w' (k : Nat) = true then 1 else 0 := by
                    rw [List.take_add_one, hx]
                    simp [cnt_append, Al.cnt, hw']
                  have cb := cnt_bd (alOf N H A) W sg fa p (k : Nat) (MT.take i)
                  have tl5 : (MT.take i).length ≤ 5 := by rw [List.length_take]; omega
                  simp -implicitDefEqProofs only [go_sem, simprocAttr, r29, lenV_ls hsM, ints_len, hi', o5, o6, r8, o32, index_map hsM idx_26 hx rfl, lsF_len, xW, m1, gw', r11, r13, r25, r27]
                  refine call0 [] false c (by simp -implicitDefEqProofs only [go_sem, simprocAttr]) (.inl rfl) ?_
                  cases hb : (alOf N H A).lies sg fa p w' (k : Nat) with
                  | true =>
                    rw [hb, if_pos rfl] at es
                    have wc : IntKind.i64.wrap ((alOf N H A).cnt W sg fa p (k : Nat) (MT.take i) + 1) = (alOf N H A).cnt W sg fa p (k : Nat) (MT.take i) + 1 := wr _ (by omega) (by omega)
                    simp -implicitDefEqProofs only [go_sem, simprocAttr, r28, wc, r29, hwi]
                    refine nxtL () trivial ?_
                    simp -implicitDefEqProofs only [go_sem, simprocAttr, es]
                  | false =>
                    rw [hb, if_neg (by simp)] at es
                    simp -implicitDefEqProofs only [go_sem, simprocAttr, r28, r29, hwi]
                    refine nxtL () trivial ?_
                    simp -implicitDefEqProofs only [go_sem, simprocAttr, es, r28]
              · obtain rfl : k = N.toNat := by omega
                have k3' : ¬ ((N.toNat : Nat) : Int) < N := by omega
                have eL : maxN (fun st => (alOf N H A).cnt W sg fa p (st : Nat) MT) N.toNat = (alOf N H A).leftR W sg fa p MT := rfl
                rw [eL] at r26
                obtain ⟨t0, t1, t2⟩ := tb p p3
                have gt : (ints sts)[p]? = some (.int (gI sts (p : Nat))) := by
                  have := ints_get (l := sts) (i := (p : Int)) (by omega) (by omega)
                  simpa using this
                have pst : (p : Int) < (sts.length : Nat) := by omega
                have c := c52 (sw := .list false (ints w)) (w := w) rfl (ss := .list false (ints sg)) (s := sg) rfl (by omega) (by omega) fa (p : Nat) (gI sts (p : Nat))
                have ec := cl tr p (gI sts (p : Nat)) min_ p3
                rw [show W.getD ((tr : Nat) : Int).toNat [] = w by rw [Int.toNat_natCast, List.getD_eq_getElem?_getD, hw]; rfl, t2] at ec
                rw [ec] at c
                simp -implicitDefEqProofs only [go_sem, simprocAttr, r27, k3', o5, o6, r8, o32, lsF_len, trW, gw, r11, r13, r25, r12, o60, ints_len, pst, gt]
                refine call0 [] false c (by simp -implicitDefEqProofs only [go_sem, simprocAttr]) (.inl rfl) ?_
                have d1 := D1 p p3
                have d2 : ¬ (alOf N H A).leftR W sg fa p MT < (MT.length : Nat) := by omega
                simp -implicitDefEqProofs only [go_sem, simprocAttr, r25, r26, lenV_ls hsM, ints_len, d2, hwp]
                refine nxt (p + 1) (by omega) (by omega) ?_
                simp -implicitDefEqProofs only [go_sem, simprocAttr]
            · have p3' : ¬ (p : Int) < 3 := by omega
              simp -implicitDefEqProofs only [go_sem, simprocAttr, r25, p3']
              refine call1 [] false (t14) ?_
              simp -implicitDefEqProofs only [go_sem, simprocAttr]
              exact ret_fv
          · rintro x xs k _ ρ3 h3 hx hk hm hk' hwk _ r24
            obtain ⟨m1, m2, m3⟩ := mmem x hm
            simp only [Nat.zero_add] at m2
            have x0 : ¬ x < 0 := by omega
            have x4 : ¬ (4 : Int) < x := by omega
            cases k with
            | zero =>
              have hk0 : (0 : Int) < (MT.length : Nat) := by omega
              have ix0 : ∀ HH, indexA Q HH 26 (.fv sM) 0 = some (.fv (.ptr (FV.int x).cells)) := fun HH => index_map hsM idx_26 (k := 0) hx rfl
              simp -implicitDefEqProofs only [go_sem, simprocAttr, r24, lenV_ls hsM, ints_len, hk0, ix0, x0, x4, hwk]
              refine nxtL () trivial ?_
              simp -implicitDefEqProofs only [go_sem, simprocAttr]
            | succ k =>
              have kp : (0 : Int) < ((k + 1 : Nat) : Int) := by omega
              have wk : IntKind.i64.wrap (((k + 1 : Nat) : Int) - 1) = (k : Int) := by rw [wr _ (by omega) (by omega)]; omega
              obtain ⟨x', hx'⟩ : ∃ x', MT[k]? = some x' := ⟨_, List.getElem?_eq_getElem (by omega)⟩
              have p3 : ¬ x ≤ x' := by
                have := List.pairwise_iff_getElem.1 mpair k (k + 1) (by omega) (by omega) (by omega)
                rw [List.getElem?_eq_getElem (by omega)] at hx hx'
                simp at hx hx'
                omega
              simp -implicitDefEqProofs only [go_sem, simprocAttr, r24, lenV_ls hsM, ints_len, hk', index_map hsM idx_26 hx rfl, x0, x4, kp, wk, index_map hsM idx_26 hx' rfl, p3, hwk]
              refine nxtL () trivial ?_
              simp -implicitDefEqProofs only [go_sem, simprocAttr]
        · have i0 : ¬ ((i : Nat) : Int) < 0 := by omega
          have i2' : ¬ (2 : Int) < ((i : Nat) : Int) := by omega
          have f1 : ¬ lf < 1 := by omega
          have f2 : ¬ ((MT.length : Nat) : Int) ≤ lf := by omega
          simp -implicitDefEqProofs only [go_sem, simprocAttr, i0, i2', f1, lenV_ls hsM, ints_len, f2]
          refine lpL (β := Unit) 162 [24] 162 [] MT (by omega) (fun _ _ _ => True) (fun k _ ρ h => ρ 24 = .fv (.int k)) () trivial (by simp -implicitDefEqProofs only [go_sem, simprocAttr]) ?_ ?_
          · rintro _ ρ3 h3 _ r24
            simp -implicitDefEqProofs only [go_sem, simprocAttr, r24, lenV_ls hsM, ints_len]
            refine lpH 196 [25, 26, 27, 28, 29] 196 [] (fun p : Nat => 3 - p) (fun p => p ≤ 3) (fun p ρ h => ρ 25 = .fv (.int p)) 0 (by omega) (by simp -implicitDefEqProofs only [go_sem, simprocAttr]) ?_
            rintro p ρ4 h4 hp r25
            by_cases p3 : p < 3
            · have p3' : (p : Int) < 3 := by omega
              have hwp : IntKind.i64.wrap ((p : Int) + 1) = ((p + 1 : Nat) : Int) := wr _ (by omega) (by omega)
              simp -implicitDefEqProofs only [go_sem, simprocAttr, r25, p3']
              refine lpH 200 [26, 27, 28, 29] 200 [] (fun k : Nat => N.toNat - k) (fun k => k ≤ N.toNat) (fun k ρ h => ρ 27 = .fv (.int k) ∧ ρ 26 = .fv (.int (maxN (fun st => (alOf N H A).cnt W sg fa p (st : Nat) MT) k))) 0 (by omega) (by simp -implicitDefEqProofs only [go_sem, simprocAttr, maxN]) ?_
              rintro k ρ5 h5 hk ⟨r27, r26⟩
              by_cases k3 : k < N.toNat
              · have k3' : (k : Int) < N := by omega
                have hwk : IntKind.i64.wrap ((k : Int) + 1) = ((k + 1 : Nat) : Int) := wr _ (by omega) (by omega)
                simp -implicitDefEqProofs only [go_sem, simprocAttr, r27, k3', o5, o6]
                refine lpL (β := Unit) 206 [28, 29] 206 [] MT (by omega) (fun _ _ _ => True) (fun i _ ρ h => ρ 29 = .fv (.int i) ∧ ρ 28 = .fv (.int ((alOf N H A).cnt W sg fa p (k : Nat) (MT.take i)))) () trivial (by simp -implicitDefEqProofs only [go_sem, simprocAttr, List.take_zero, Al.cnt]) ?_ ?_
                · rintro _ ρ6 h6 _ ⟨r29, r28⟩
                  rw [List.take_length] at r28
                  simp -implicitDefEqProofs only [go_sem, simprocAttr, r29, lenV_ls hsM, ints_len, r26, r28, max2_i, r27, hwk]
                  refine nxt (k + 1) (by omega) (by omega) ?_
                  simp -implicitDefEqProofs only [go_sem, simprocAttr, maxN]
                · rintro x xs i _ ρ6 h6 hx hi hm hi' hwi _ ⟨r29, r28⟩
                  obtain ⟨m1, m2, m3⟩ := mmem x hm
                  simp only [Nat.zero_add] at m2
                  have m1 : (0 : Int) ≤ x := by omega
                  have xW : (x : Int) < (W.length : Nat) := by omega
                  obtain ⟨w', hw'⟩ : ∃ w', W[x.toNat]? = some w' := ⟨_, List.getElem?_eq_getElem (by omega)⟩
                  have ew : W.getD x.toNat [] = w' := by rw [List.getD_eq_getElem?_getD, hw']; rfl
                  have gw' : (lsF W)[x.toNat]? = some (.list false (ints w')) := by simp [lsF, hw']
                  have wl3 := W3 w' (List.mem_of_getElem? hw')
                  have c := c52 (sw := .list false (ints w')) (w := w') rfl (ss := .list false (ints sg)) (s := sg) rfl (by omega) (by omega) fa (p : Nat) (k : Nat)
                  have ec := cl x p (k : Nat) hm p3
                  rw [ew] at ec
                  rw [ec] at c
                  have es : (alOf N H A).cnt W sg fa p (k : Nat) (MT.take (i + 1)) = (alOf N H A).cnt W sg fa p (k : Nat) (MT.take i) + if (alOf N H A).lies sg fa p w' (k : Nat) = true then 1 else 0 := by
                    rw [List.take_add_one, hx]
                    simp [cnt_append, Al.cnt, hw']
                  have cb := cnt_bd (alOf N H A) W sg fa p (k : Nat) (MT.take i)
                  have tl5 : (MT.take i).length ≤ 5 := by rw [List.length_take]; omega
                  simp -implicitDefEqProofs only [go_sem, simprocAttr, r29, lenV_ls hsM, ints_len, hi', o5, o6, r8, o32, index_map hsM idx_26 hx rfl, lsF_len, xW, m1, gw', r11, r13, r25, r27]
                  refine call0 [] false c (by simp -implicitDefEqProofs only [go_sem, simprocAttr]) (.inl rfl) ?_
                  cases hb : (alOf N H A).lies sg fa p w' (k : Nat) with
                  | true =>
                    rw [hb, if_pos rfl] at es
                    have wc : IntKind.i64.wrap ((alOf N H A).cnt W sg fa p (k : Nat) (MT.take i) + 1) = (alOf N H A).cnt W sg fa p (k : Nat) (MT.take i) + 1 := wr _ (by omega) (by omega)
                    simp -implicitDefEqProofs only [go_sem, simprocAttr, r28, wc, r29, hwi]
                    refine nxtL () trivial ?_
                    simp -implicitDefEqProofs only [go_sem, simprocAttr, es]
                  | false =>
                    rw [hb, if_neg (by simp)] at es
                    simp -implicitDefEqProofs only [go_sem, simprocAttr, r28, r29, hwi]
                    refine nxtL () trivial ?_
                    simp -implicitDefEqProofs only [go_sem, simprocAttr, es, r28]
              · obtain rfl : k = N.toNat := by omega
                have k3' : ¬ ((N.toNat : Nat) : Int) < N := by omega
                have eL : maxN (fun st => (alOf N H A).cnt W sg fa p (st : Nat) MT) N.toNat = (alOf N H A).leftR W sg fa p MT := rfl
                rw [eL] at r26
                obtain ⟨t0, t1, t2⟩ := tb p p3
                have gt : (ints sts)[p]? = some (.int (gI sts (p : Nat))) := by
                  have := ints_get (l := sts) (i := (p : Int)) (by omega) (by omega)
                  simpa using this
                have pst : (p : Int) < (sts.length : Nat) := by omega
                have c := c52 (sw := .list false (ints w)) (w := w) rfl (ss := .list false (ints sg)) (s := sg) rfl (by omega) (by omega) fa (p : Nat) (gI sts (p : Nat))
                have ec := cl tr p (gI sts (p : Nat)) min_ p3
                rw [show W.getD ((tr : Nat) : Int).toNat [] = w by rw [Int.toNat_natCast, List.getD_eq_getElem?_getD, hw]; rfl, t2] at ec
                rw [ec] at c
                simp -implicitDefEqProofs only [go_sem, simprocAttr, r27, k3', o5, o6, r8, o32, lsF_len, trW, gw, r11, r13, r25, r12, o60, ints_len, pst, gt]
                refine call0 [] false c (by simp -implicitDefEqProofs only [go_sem, simprocAttr]) (.inl rfl) ?_
                have d3 := D3 p p3
                have d3' : ¬ (alOf N H A).leftR W sg fa p MT < lf := by omega
                by_cases e1 : p = i
                · have e1' : ((p : Int) == (i : Int)) = true := by rw [e1]; simp
                  have e2' : ((alOf N H A).leftR W sg fa p MT != lf) = false := by rw [D0, e1]; simp
                  have e3' : ¬ (p : Int) < (i : Int) := by omega
                  simp -implicitDefEqProofs only [go_sem, simprocAttr, r25, r26, e1', e2', d3', e3', hwp]
                  refine nxt (p + 1) (by omega) (by omega) ?_
                  simp -implicitDefEqProofs only [go_sem, simprocAttr]
                · have e1' : ((p : Int) == (i : Int)) = false := by
                    have : (p : Int) ≠ (i : Int) := by omega
                    simpa using this
                  by_cases e3 : p < i
                  · have e3' : (p : Int) < (i : Int) := by omega
                    have d4 := D4 p e3
                    have e4' : ((alOf N H A).leftR W sg fa p MT == lf) = false := by
                      have : (alOf N H A).leftR W sg fa p MT ≠ lf := by omega
                      simpa using this
                    simp -implicitDefEqProofs only [go_sem, simprocAttr, r25, r26, e1', d3', e3', e4', hwp]
                    refine nxt (p + 1) (by omega) (by omega) ?_
                    simp -implicitDefEqProofs only [go_sem, simprocAttr]
                  · have e3' : ¬ (p : Int) < (i : Int) := by omega
                    simp -implicitDefEqProofs only [go_sem, simprocAttr, r25, r26, e1', d3', e3', hwp]
                    refine nxt (p + 1) (by omega) (by omega) ?_
                    simp -implicitDefEqProofs only [go_sem, simprocAttr]
            · have p3' : ¬ (p : Int) < 3 := by omega
              simp -implicitDefEqProofs only [go_sem, simprocAttr, r25, p3']
              refine call1 [] false (t14) ?_
              simp -implicitDefEqProofs only [go_sem, simprocAttr]
              exact ret_fv
          · rintro x xs k _ ρ3 h3 hx hk hm hk' hwk _ r24
            obtain ⟨m1, m2, m3⟩ := mmem x hm
            simp only [Nat.zero_add] at m2
            have x0 : ¬ x < 0 := by omega
            have x4 : ¬ (4 : Int) < x := by omega
            cases k with
            | zero =>
              have hk0 : (0 : Int) < (MT.length : Nat) := by omega
              have ix0 : ∀ HH, indexA Q HH 26 (.fv sM) 0 = some (.fv (.ptr (FV.int x).cells)) := fun HH => index_map hsM idx_26 (k := 0) hx rfl
              simp -implicitDefEqProofs only [go_sem, simprocAttr, r24, lenV_ls hsM, ints_len, hk0, ix0, x0, x4, hwk]
              refine nxtL () trivial ?_
              simp -implicitDefEqProofs only [go_sem, simprocAttr]
            | succ k =>
              have kp : (0 : Int) < ((k + 1 : Nat) : Int) := by omega
              have wk : IntKind.i64.wrap (((k + 1 : Nat) : Int) - 1) = (k : Int) := by rw [wr _ (by omega) (by omega)]; omega
              obtain ⟨x', hx'⟩ : ∃ x', MT[k]? = some x' := ⟨_, List.getElem?_eq_getElem (by omega)⟩
              have p3 : ¬ x ≤ x' := by
                have := List.pairwise_iff_getElem.1 mpair k (k + 1) (by omega) (by omega) (by omega)
                rw [List.getElem?_eq_getElem (by omega)] at hx hx'
                simp at hx hx'
                omega
              simp -implicitDefEqProofs only [go_sem, simprocAttr, r24, lenV_ls hsM, ints_len, hk', index_map hsM idx_26 hx rfl, x0, x4, kp, wk, index_map hsM idx_26 hx' rfl, p3, hwk]
              refine nxtL () trivial ?_
              simp -implicitDefEqProofs only [go_sem, simprocAttr]
      · rintro x xs j _ ρ2 h2' hx hj hxm hj' hwj _ ⟨r14, r13, r11, r12, o59, o60⟩
        obtain ⟨l, hl'⟩ : ∃ l, w[j]? = some l := ⟨_, List.getElem?_eq_getElem (by omega)⟩
        have xb := V3b x hxm
        have gl : (ints w)[j]? = some (.int l) := by simp [ints, hl']
        have j3 : (j : Int) < 3 := by omega
        have j4 : (j : Int) < 4 := by omega
        have jw : (j : Int) < (w.length : Nat) := by omega
        have e1 := zip_take (fun l b => (layP H A l b).2.2.1) hl' hx
        have e2 := zip_take (fun l b => (layP H A l b).2.1) hl' hx
        have e3 := zip_take (fun l b => (layP H A l b).2.2.2) hl' hx
        change (sgF H A w V3).take (j + 1) = (sgF H A w V3).take j ++ [_] at e1
        change (stF' H A w V3).take (j + 1) = (stF' H A w V3).take j ++ [_] at e2
        change (ftF H A w V3).take (j + 1) = (ftF H A w V3).take j ++ [_] at e3
        have fb := ft_bd H A w V3 j
        have lf := layP_ft H A l x
        have s3 : ((sgF H A w V3).take j).length ≤ 3 := by rw [List.length_take]; omega
        have t3 : ((stF' H A w V3).take j).length ≤ 3 := by rw [List.length_take]; omega
        have c := c44 l x xb.1 xb.2
        have wa : IntKind.i64.wrap (((ftF H A w V3).take j).sum + (layP H A l x).2.2.2) = ((ftF H A w V3).take j).sum + (layP H A l x).2.2.2 := wr _ (by omega) (by omega)
        simp -implicitDefEqProofs only [go_sem, simprocAttr, r14, j3, o5, o6, r8, o32, lsF_len, trW, gw, jw, ints_len, gl, j4, Vat j x hx]
        refine call1 [] false (c) ?_
        generalize layP H A l x = L at *
        simp -implicitDefEqProofs only [go_sem, simprocAttr, r11, r12]
        refine app_gl (by simp -implicitDefEqProofs only [go_sem, simprocAttr, o59]; rfl) idx_26 (by simp -implicitDefEqProofs only [go_sem, simprocAttr]; rfl) (by simp [FV.cells]) (by simp -implicitDefEqProofs only [go_sem, simprocAttr]) (by simp [byt_3, ints]; omega) (by simp [maxLen, ints]; omega) (by simp) ?_
        simp -implicitDefEqProofs only [go_sem, simprocAttr, r12]
        refine app_gl (by simp -implicitDefEqProofs only [go_sem, simprocAttr, o60]; rfl) idx_26 (by simp -implicitDefEqProofs only [go_sem, simprocAttr]; rfl) (by simp [FV.cells]) (by simp -implicitDefEqProofs only [go_sem, simprocAttr]) (by simp [byt_3, ints]; omega) (by simp [maxLen, ints]; omega) (by simp) ?_
        simp -implicitDefEqProofs only [go_sem, simprocAttr, r13, wa, r14, hwj]
        refine nxtL () trivial ?_
        rw [e1, e2, e3]
        simp -implicitDefEqProofs only [go_sem, simprocAttr, ints, List.map_append, sum_snoc]
end S07

