/- A part of the proof: H07c. -/
import Derived.Test.YtmanbdacloeioaaP07a
import Derived.Test.YtmanbdacloeioaaC07la0
set_option linter.unusedVariables false
set_option linter.unusedSimpArgs false
set_option maxRecDepth 20000
namespace S07
open Go Abs
theorem countF_ok {N : Int} {cs : List Int} (n0 : 1 ≤ N) (n8 : N ≤ 8) (hb : ∀ x ∈ cs, 0 ≤ x ∧ x < 256) (hl : cs.length = 8) : CountOk N (countF N cs) := by
  refine ⟨by simp [countF, hl]; omega, ?_⟩
  intro n hn
  obtain ⟨x, hx, rfl⟩ := List.mem_map.1 hn
  have := hb x (List.mem_of_mem_take hx)
  have y1 := Int.tmod_nonneg 6 this.1
  have y2 := Int.tmod_lt_of_pos x (show (0 : Int) < 6 by decide)
  exact ⟨y1, by omega⟩
theorem wordF_ok {N : Int} {bs : List Int} (n0 : 1 ≤ N) (hb : ∀ x ∈ bs, 0 ≤ x ∧ x < 256) : WordOk N (wordF N bs) := by
  unfold wordF
  by_cases e : bs = []
  · rw [if_pos e]; exact ⟨by simp, by simp, by intro n hn; simp at hn; omega⟩
  · rw [if_neg e]
    have h3 := List.length_pos_iff.2 e
    refine ⟨by simp; omega, by simp; omega, ?_⟩
    intro n hn
    obtain ⟨x, hx, rfl⟩ := List.mem_map.1 hn
    have := hb x (List.mem_of_mem_take hx)
    exact ⟨Int.tmod_nonneg N this.1, Int.tmod_lt_of_pos x (by omega)⟩
theorem isCount_of {N : Int} {c : List Int} (h : CountOk N c) : isCount N c 5 = true := by
  simp only [isCount, Bool.and_eq_true, decide_eq_true_eq, List.all_eq_true, inB_iff]
  exact ⟨h.len, h.bd⟩
theorem isWord_of {N : Int} {w : List Int} (h : WordOk N w) : isWord N w [] = true := by
  simp only [isWord, Bool.and_eq_true, List.all_eq_true, inB_iff, List.contains_nil, Bool.or_false]
  have := h.l1; have := h.l6
  exact ⟨by omega, fun n hn => by have := h.bd n hn; omega⟩
theorem errL_zero {N : Int} {H A : List (Int × Int)} {c : List Int} {W : List (List Int)} (e : errA N H A = 0) (hc : CountOk N c) (hW : ∀ w ∈ W, WordOk N w) (hl : W.length ≤ 5) : errL N H A c W = 0 := by
  unfold errL
  rw [if_neg (by simp [e]), if_neg (by omega), isCount_of hc]
  have : (W.all fun l => isWord N l []) = true := List.all_eq_true.2 fun w hw => isWord_of (hW w hw)
  simp [this]
theorem made_v {b : Int} {hl al : List (Int × Int)} (b0 : 0 ≤ b) : SetV (madeV b hl al) (madeN b) (lstN ((madeH (madeN b) hl).1.map pF)) (lstN ((madeA (madeN b) al).map pF)) (madeH (madeN b) hl).1 (madeA (madeN b) al) := by
  have l1 := (hFold_len (madeN b) (hl.take 6) ([], b8)).2
  have l2 := List.length_filter_le (fun q : Int × Int => decide (q.1 ≠ q.2)) ((al.take 6).map (pN (madeN b)))
  simp only [List.length_nil, List.length_map, List.length_take] at l1 l2
  refine ⟨rfl, lsOf_lstN _, lsOf_lstN _, ?_, ?_⟩
  · show (((hl.take 6).foldl (hStep (madeN b)) ([], b8)).1).length ≤ _; omega
  · unfold madeA; omega
theorem errA_len {N : Int} {H A : List (Int × Int)} (h : errA N H A = 0) : H.length ≤ 8 ∧ A.length ≤ 8 := by
  unfold errA at h
  split at h
  · omega
  · split at h
    · omega
    · omega
theorem unFV_fs (fs : List FV) : unFV (fs.map LV.fv) = some fs := by
  induction fs with
  | nil => rfl
  | cons x xs ih => simp only [List.map_cons, unFV, ih]; rfl
theorem fs_load {fs : List FV} {n : Nat} (hl : fs.length = n) (h0 : n ≠ 0) : partL true n (fs.map LV.fv) = some (.fv (.agg fs)) := by
  cases fs with
  | nil => simp at hl; omega
  | cons x xs =>
    have h1 : ((x :: xs).map LV.fv).take n = (x :: xs).map LV.fv := List.take_of_length_le (by simp at hl ⊢; omega)
    have h2 := unFV_fs (x :: xs)
    simp only [List.map_cons] at h1 h2 ⊢
    rw [partL_agg, if_pos (by simp at hl ⊢; omega), h1]
    unfold mkAgg
    rw [h2]
theorem ints_len (l : List Int) : (ints l).length = l.length := by simp [ints]
theorem eqB (h : AH) (a b : Bool) : eqV Q h 4 (.fv (.val (.bool a))) (.fv (.val (.bool b))) = some (a == b) := by
  have : boolTy Q 4 = true := by kernel_rfl
  simp [eqV, this]
theorem t9 {b : Int} {hs as_ sb : FV} {hl al : List (Int × Int)} {bs cs : List Int} (b0 : 0 ≤ b) (b1 : b < 256) (h1 : lsOf hs = some (hl.map pU)) (h2 : lsOf as_ = some (al.map pU)) (hb : BB hl) (ab : BB al) (l1 : hl.length ≤ 9223372036854775807) (l2 : al.length ≤ 9223372036854775807)
    (h3 : lsOf sb = some (bs.map u8)) (hb3 : ∀ x ∈ bs, 0 ≤ x ∧ x < 256) (l3 : bs.length ≤ 9223372036854775807) (hb4 : ∀ x ∈ cs, 0 ≤ x ∧ x < 256) (l4 : cs.length = 8) :
    Fn Q 9 [.fo (.agg [u8 b, hs, as_]), .fo sb, .fo (.agg (cs.map u8))] (.one (.fx (.bool true))) := by
  have c42 := t42 b0 b1 h1 h2 hb ab l1 l2
  have v := made_v (hl := hl) (al := al) b0
  have eA := made_ok b0 hb ab
  obtain ⟨n0, n8⟩ := madeN_bd b0
  have o1 := ls_one h1
  have o2 := ls_one h2
  have o3 := ls_one h3
  have o4 : ((cs.map u8).map LV.fv).all LV.one = true := by simp [u8, LV.one, FV.one]
  generalize madeN b = N at *
  generalize (madeH N hl).1 = H at *
  generalize madeA N al = A at *
  obtain ⟨lH, lA⟩ := errA_len eA
  have o5 := lstN_one (H.map pF)
  have o6 := lstN_one (A.map pF)
  generalize lstN (H.map pF) = sH at *
  generalize lstN (A.map pF) = sA at *
  have eV := v.eq
  have vC := setC_v (N := N) (H := H) (A := A) (by omega) (by omega)
  have c46 := t46 v (by omega) (by omega)
  have c43 := t43 v n0 h3 hb3 l3
  have c53 := t53 v n0 n8 hb4 l4
  have wo := wordF_ok n0 hb3
  have co := countF_ok n0 n8 hb4 l4
  rw [eV] at c42 c46 c43 c53
  generalize wordF N bs = w at *
  generalize countF N cs = c at *
  have w6 := wo.l6
  have cl := co.len
  have c17w := t17 (s := .list false (ints w)) (l := w) rfl (by omega)
  have c17c := t17 (s := .list false (ints c)) (l := c) rfl (by omega)
  have c29 := t29 vC (sc := .list false (ints c)) (c := c) rfl (by omega) (sw := .list false (ints w)) (w := w) rfl (by omega)
  have c30 := t30 vC (sc := .list false (ints c)) (c := c) rfl (by omega) (sw := .list false (ints w)) (w := w) rfl (by omega)
  have eL := errL_zero eA co (W := [w]) (by simpa using wo) (by simp)
  have e29 : errLay N H A c w = if lackR N H A c w = [] then 0 else 7 := by simp [errLay, eL]
  have e30 : errLack N H A c w = if lackR N H A c w = [] then 6 else 0 := by simp [errLack, eL]
  rw [e29] at c29
  rw [e30] at c30
  have hqo : HdOk (alOf N H A).N (alOf N H A).arr := hdOk eA
  have hqN : (alOf N H A).N = N := rfl
  have hlk : lackR N H A c w = idxT 0 (fl0 (alOf N H A) c w) := by
    unfold lackR fl0
    exact lackR_lk hqo n8 (by omega) wo.bd
  have c17co := t17o (s := .list false (ints c)) (l := c) rfl (by omega)
  generalize hq : alOf N H A = q at *
  generalize hRe : lackR N H A c w = R at *
  have hRf : R = idxT 0 (fl0 q c w) := hlk
  have flen : (fl0 q c w).length = w.length := fl0_len
  generalize hfl : fl0 q c w = fl at *
  refine fn_intro Go.Proofs.Try.func9 rfl (by kernel_rfl) mix (k9 0) (Nat.le_of_ble_eq_true (by kernel_rfl)) ?_
  refine Abs.walk ?_
  unfold c9 sop
  have o7 : (LV.fv (u8 b)).one = true := rfl
  simp -implicitDefEqProofs only [go_sem, simprocAttr, o1, o2, o3, o4, l4, o7]
  refine call1 [] false (c42) ?_
  simp -implicitDefEqProofs only [go_sem, simprocAttr, o5, o6]
  refine W_opsD _ _ _ (Vs [[], [], [], [], [], [], [], []]) ?_ ?_
  · decide
  simp -implicitDefEqProofs only [go_sem, simprocAttr]
  refine callD [] false [.fo (.agg [.int N, sH, sA]), .fo sb] [] c43 ⟨rfl, rfl, trivial⟩ rfl (.inl rfl) ?_
  simp -implicitDefEqProofs only [go_sem, simprocAttr, o5, o6, fs_load (n := 8) (show (cs.map u8).length = 8 by simp [l4]) (by omega)]
  refine call1 [] false (c53) ?_
  simp -implicitDefEqProofs only [go_sem, simprocAttr, o5, o6]
  refine call1 [] false (c46) ?_
  simp -implicitDefEqProofs only [go_sem, simprocAttr]
  refine call1 [] false (c17c) ?_
  simp -implicitDefEqProofs only [go_sem, simprocAttr]
  refine call1 [] false (c17w) ?_
  simp -implicitDefEqProofs only [go_sem, simprocAttr]
  refine call1 [] false (c29) ?_
  simp -implicitDefEqProofs only [go_sem, simprocAttr]
  refine call1 [] false (c46) ?_
  simp -implicitDefEqProofs only [go_sem, simprocAttr]
  refine call1 [] false (c17c) ?_
  simp -implicitDefEqProofs only [go_sem, simprocAttr]
  refine call1 [] false (c17w) ?_
  simp -implicitDefEqProofs only [go_sem, simprocAttr]
  refine call1 [] false (c30) ?_
  by_cases eR : R = []
  · have lF : (q.layF w c).length = w.length := layF_len w c
    have st : LayI q w c := lay_start (by rw [hqN]; exact co.len) (fun n hn => co.bd n hn) (by rw [hfl, ← hlk]; exact eR)
    simp -implicitDefEqProofs only [go_sem, simprocAttr, eR, eqB]
    refine call1 [] false (c17co) ?_
    have lFn : (((ints (q.layF w c)).length : Nat) : Int) = (w.length : Nat) := by simp [ints, lF]
    simp -implicitDefEqProofs only [go_sem, simprocAttr, ints_len, lF]
    refine lpL (β := List Int) 102 [15] 102 [96] w (by omega) (fun ws k left => LayI q ws left ∧ q.layF ws left = (q.layF w c).drop k) (fun k left ρ h => ρ 15 = .fv (.int k) ∧ h.gen 96 = 1 ∧ h.obj 96 = some (.list 3 1 false false (ints left))) c ⟨st, rfl⟩ (by simp -implicitDefEqProofs only [go_sem, simprocAttr]) ?_ ?_
    · rintro left ρ h ⟨_, _⟩ ⟨r15, g96, o96⟩
      simp -implicitDefEqProofs only [go_sem, simprocAttr, r15, ints_len]
      refine call1 [] false (t14) ?_
      simp -implicitDefEqProofs only [go_sem, simprocAttr]
      exact ret_fv
    · rintro l ws k left ρ h hx hk hm hk' hw ⟨I1, I2⟩ ⟨r15, g96, o96⟩
      obtain ⟨l0, l1⟩ := wo.bd l hm
      obtain ⟨s0, s1, s2, s3, I3⟩ := lay_step hqo (by rw [hqN]; exact n0) (by rw [hqN]; exact n8) l0 (by rw [hqN]; exact l1) I1
      have hs : (q.layF w c)[k]? = some (q.stc l left) := by
        have := congrArg List.head? I2
        simp only [Al.layF, List.head?_cons, List.head?_drop] at this
        exact this.symm
      generalize hst : q.stc l left = s at *
      have c50 := t50 v s
      rw [eV, headF_hd eA s0 (by omega), hq] at c50
      simp -implicitDefEqProofs only [go_sem, simprocAttr, r15, ints_len, hk']
      refine W_opsD _ _ _ (Vs []) ?_ ?_
      · decide
      have hs' : (ints (q.layF w c))[k]? = some (.int s) := by simp [ints, hs]
      have hx' : (ints w)[k]? = some (.int l) := by simp [ints, hx]
      have q1 : ¬ s < 0 := by omega
      have q2 : ¬ N ≤ s := by rw [hqN] at s1; omega
      have sl : s < left.length := by have := I1.len; omega
      have gs : (ints left)[s.toNat]? = some (.int (gI left s)) := ints_get s0 sl
      have g5 := (I1.nn _ (gI_in (p := left) (i := s) (by omega))).2
      have w1 : IntKind.i64.wrap (gI left s - 1) = gI left s - 1 := wr _ (by omega) (by omega)
      have key : left.set s.toNat (gI left s - 1) = addAt left s (-1) := by unfold addAt gI; rfl
      have gs2 : (ints (addAt left s (-1)))[s.toNat]? = some (.int (gI left s - 1)) := by
        rw [ints_get s0 (by rw [addAt_len]; exact sl), gI_addAt s0 sl s0, if_pos rfl]; rfl
      have pos : ¬ (gI left s - 1 < 0) := by omega
      have I4 : q.layF ws (addAt left s (-1)) = (q.layF w c).drop (k + 1) := by
        have := congrArg List.tail I2
        simp only [Al.layF, List.tail_cons, List.tail_drop] at this
        rw [hst] at this; exact this
      by_cases q3 : s = l
      · have q3' : (s != l) = false := by simp [q3]
        simp -implicitDefEqProofs only [go_sem, simprocAttr, r15, hs', hx', q1, q2, q3']
        simp -implicitDefEqProofs only [go_sem, simprocAttr, r15, hs', g96, o96, s0, ints_len, sl, gs, w1]
        refine sto_elem (by rfl) (by rfl) (by rfl) (by simp -implicitDefEqProofs only [go_sem, simprocAttr, g96, o96]; rfl) gs (by decide) ?_
        simp -implicitDefEqProofs only [go_sem, simprocAttr, r15, hs', hw, g96, FV.withCells, ints_set, key, s0, ints_len, sl, addAt_len, gs2, pos]
        refine nxtL (addAt left s (-1)) ⟨I3, I4⟩ ?_
        simp -implicitDefEqProofs only [go_sem, simprocAttr, g96]
      · have q3' : (s != l) = true := by simp [q3]
        have q4 : (q.hd s != l) = false := by rcases s3 with e | e <;> simp [e]; exact absurd e q3
        simp -implicitDefEqProofs only [go_sem, simprocAttr, r15, hs', hx', q1, q2, q3', q4]
        refine callD [] false [.fo (.agg [.int N, sH, sA]), .fo (.int s)] [] c50 ⟨rfl, rfl, trivial⟩ rfl (.inl rfl) ?_
        simp -implicitDefEqProofs only [go_sem, simprocAttr, r15, hs', hx', q1, q2, q3', q4]
        simp -implicitDefEqProofs only [go_sem, simprocAttr, r15, hs', g96, o96, s0, ints_len, sl, gs, w1]
        refine sto_elem (by rfl) (by rfl) (by rfl) (by simp -implicitDefEqProofs only [go_sem, simprocAttr, g96, o96]; rfl) gs (by decide) ?_
        simp -implicitDefEqProofs only [go_sem, simprocAttr, r15, hs', hw, g96, FV.withCells, ints_set, key, s0, ints_len, sl, addAt_len, gs2, pos]
        refine nxtL (addAt left s (-1)) ⟨I3, I4⟩ ?_
        simp -implicitDefEqProofs only [go_sem, simprocAttr, g96]
  · have eR' : ¬ (R = []) := eR
    have R0 : R ≠ [] := eR
    have hR : lstN (ints R) = .list false (ints R) := lstN_ne (by simpa [ints] using R0)
    have Rl : ((((R.length : Nat) : Int)) == 0) = false := by have := List.length_pos_iff.2 R0; simp; omega
    have Rl' : ((((R.length : Nat) : Int)) != 0) = true := by have := List.length_pos_iff.2 R0; simp; omega
    have Rmem : ∀ n ∈ R, ∃ j : Nat, n = (j : Int) ∧ j < w.length ∧ fl[j]? = some true := by
      intro n hn
      obtain ⟨j, h1, h2⟩ := (idxT_mem 0 fl n).1 (hRf ▸ hn)
      exact ⟨j, by omega, by rw [← flen]; exact (List.getElem?_eq_some_iff.1 h2).1, h2⟩
    have Rlen : R.length ≤ 6 := by
      rw [hRf, idxT_len]
      exact Nat.le_trans (List.length_filter_le _ _) (by omega)
    have c49 := fun x => t49 (s := .list false (ints R)) (l := R) rfl (by omega) x
    simp -implicitDefEqProofs only [go_sem, simprocAttr, eR', hR, ints_len, Rl, Rl', eqB]
    refine lpH 164 [16, 17, 18, 19, 20] 164 [] (fun k : Nat => R.length + 1 - k) (fun k => k ≤ R.length + 1 - 0) (fun k ρ h => ρ 16 = .fv (.int ((k : Int) - 1))) 0 (by omega) (by simp -implicitDefEqProofs only [go_sem, simprocAttr]) ?_
    rintro k ρ h hk r16
    obtain ⟨fk, hfk⟩ : ∃ fk, fk = if k = 0 then fl else fl.set (gI R ((k : Int) - 1)).toNat false := ⟨_, rfl⟩
    have fkl : fk.length = w.length := by rw [hfk]; split <;> simp [flen]
    by_cases q1 : k < R.length + 1
    · have q1' : (k : Int) - 1 < (R.length : Nat) := by omega
      simp -implicitDefEqProofs only [go_sem, simprocAttr, r16, ints_len, q1']
      refine lpL (β := Unit) 171 [17, 18] 170 [] w (by omega) (fun _ _ _ => True) (fun i _ ρ h => ρ 18 = .fv (.int i) ∧ ρ 17 = .gl 170 (h.gen 170) ∧ h.obj 170 = some (.list 3 1 false false (ints (fal (w.take i) (fk.take i))))) () trivial (by simp -implicitDefEqProofs only [go_sem, simprocAttr, List.take_zero, fal, ints]) ?_ ?_
      · rintro _ ρ' h' _ ⟨r18, r17, o170⟩
        rw [List.take_length, List.take_of_length_le (by omega)] at o170
        have hw16 : IntKind.i64.wrap ((k : Int) - 1 + 1) = ((k + 1 : Nat) : Int) - 1 := by rw [wr _ (by omega) (by omega)]; omega
        by_cases er : fal w fk = []
        · have z : ((((fal w fk).length : Nat) : Int) == 0) = true := by simp [er]
          simp -implicitDefEqProofs only [go_sem, simprocAttr, r18, r17, o170, ints_len, z]
          simp -implicitDefEqProofs only [go_sem, simprocAttr, r16, hw16]
          refine nxt (k + 1) (by omega) (by omega) ?_
          simp -implicitDefEqProofs only [go_sem, simprocAttr]
        · have rl := List.length_pos_iff.2 er
          have rl6 := fal_len w fk
          have z : ((((fal w fk).length : Nat) : Int) == 0) = false := by simp; omega
          have rwo : WordOk N (fal w fk) := ⟨by omega, by omega, fun n hn => wo.bd n (fal_mem w fk n hn)⟩
          have c29r := t29 vC (sc := .list false (ints c)) (c := c) rfl (by omega) (sw := .list false (ints (fal w fk))) (w := fal w fk) rfl (by omega)
          have eL' := errL_zero eA co (W := [fal w fk]) (by simpa using rwo) (by simp)
          have e29r : errLay N H A c (fal w fk) = if lackR N H A c (fal w fk) = [] then 0 else 7 := by simp [errLay, eL']
          have hlr : lackR N H A c (fal w fk) = idxT 0 (fl0 q c (fal w fk)) := by
            subst hq
            unfold lackR fl0
            exact lackR_lk hqo n8 (by omega) rwo.bd
          have c0 : ∀ n ∈ c, 0 ≤ n := fun n hn => (co.bd n hn).1
          by_cases k0 : k = 0
          · have hfk' : fk = fl := by rw [hfk, if_pos k0]
            have hz : lackR N H A c (fal w fk) = [] := by
              rw [hlr]
              refine fl0_enough c0 fun x => ?_
              rw [hfk', ← hfl]; exact rest_cnt c0 x
            rw [e29r, if_pos hz] at c29r
            have kz : ((k : Int) - 1 < 0) := by omega
            simp -implicitDefEqProofs only [go_sem, simprocAttr, r18, r17, o170, ints_len, z]
            refine call1 [] false (c46) ?_
            simp -implicitDefEqProofs only [go_sem, simprocAttr]
            refine call1 [] false (c17c) ?_
            simp -implicitDefEqProofs only [go_sem, simprocAttr, r17]
            refine call0 [170] false c29r (by simp -implicitDefEqProofs only [go_sem, simprocAttr, o170]) (.inl rfl) ?_
            simp -implicitDefEqProofs only [go_sem, simprocAttr, r16, kz, eqB, o170]
            simp -implicitDefEqProofs only [go_sem, simprocAttr, r16, hw16, o170]
            refine nxt (k + 1) (by omega) (by omega) ?_
            simp -implicitDefEqProofs only [go_sem, simprocAttr]
          · have hz : lackR N H A c (fal w fk) ≠ [] := by
              obtain ⟨m, rfl⟩ : ∃ m, k = m + 1 := ⟨k - 1, by omega⟩
              have em : ((m + 1 : Nat) : Int) - 1 = (m : Int) := by omega
              obtain ⟨j, g1, g2, g3⟩ := Rmem (gI R (m : Nat)) (gI_mem (by omega))
              rw [em, g1] at hfk
              have hfk' : fk = fl.set j false := by rw [hfk, if_neg (by omega)]; simp
              rw [hlr, hfk', ← hfl]
              rw [← hfl] at g3
              obtain ⟨x, hx⟩ := rest_more c0 g3
              exact fl0_short c0 hx
            rw [e29r, if_neg hz] at c29r
            have kz : ¬ ((k : Int) - 1 < 0) := by omega
            simp -implicitDefEqProofs only [go_sem, simprocAttr, r18, r17, o170, ints_len, z]
            refine call1 [] false (c46) ?_
            simp -implicitDefEqProofs only [go_sem, simprocAttr]
            refine call1 [] false (c17c) ?_
            simp -implicitDefEqProofs only [go_sem, simprocAttr, r17]
            refine call0 [170] false c29r (by simp -implicitDefEqProofs only [go_sem, simprocAttr, o170]) (.inl rfl) ?_
            simp -implicitDefEqProofs only [go_sem, simprocAttr, r16, kz, eqB, o170]
            simp -implicitDefEqProofs only [go_sem, simprocAttr, r16, hw16, o170]
            refine nxt (k + 1) (by omega) (by omega) ?_
            simp -implicitDefEqProofs only [go_sem, simprocAttr]
      · rintro l ws i _ ρ' h' hx hi hm hi' hw _ ⟨r18, r17, o170⟩
        obtain ⟨b, hb⟩ : ∃ b, fl[i]? = some b := ⟨_, List.getElem?_eq_getElem (by omega)⟩
        have hxi : (ints w)[i]? = some (.int l) := by simp [ints, hx]
        have lenf := fal_len (w.take i) (fk.take i)
        simp only [List.length_take] at lenf
        cases b with
        | false =>
          have hc : R.contains (i : Int) = false := by
            rw [Bool.eq_false_iff]; intro h
            obtain ⟨j, h1, h2, h3⟩ := Rmem _ (List.contains_iff_mem.1 h)
            have : j = i := by omega
            subst this; rw [hb] at h3; simp at h3
          have hfi : fk[i]? = some false := by
            rw [hfk]; split
            · exact hb
            · by_cases e : (gI R ((k : Int) - 1)).toNat = i
              · rw [e, List.getElem?_set_self (by omega)]
              · rw [List.getElem?_set_ne e]; exact hb
          have et := fal_take w fk i l false hx hfi
          have c49i := c49 i
          rw [hc] at c49i
          simp -implicitDefEqProofs only [go_sem, simprocAttr, r18, r17, ints_len, hi']
          refine call1 [] false (c49i) ?_
          simp -implicitDefEqProofs only [go_sem, simprocAttr, r17, r18, hxi]
          refine app_gl (by simp -implicitDefEqProofs only [go_sem, simprocAttr, o170]; rfl) idx_26 (by simp -implicitDefEqProofs only [go_sem, simprocAttr]; rfl) (by simp [FV.cells]) (by simp -implicitDefEqProofs only [go_sem, simprocAttr]) (by simp [byt_3, ints]; omega) (by simp [maxLen, ints]; omega) (by simp) ?_
          simp -implicitDefEqProofs only [go_sem, simprocAttr, r18, hw]
          refine nxtL () trivial ?_
          simp -implicitDefEqProofs only [go_sem, simprocAttr, et, ints, List.map_append]
        | true =>
          have hc : R.contains (i : Int) = true := by
            refine List.contains_iff_mem.2 (hRf ▸ ?_)
            exact (idxT_mem 0 fl _).2 ⟨i, by simp, hb⟩
          have c49i := c49 i
          rw [hc] at c49i
          by_cases k0 : k = 0
          · have hfi : fk[i]? = some true := by rw [hfk, if_pos k0]; exact hb
            have et := fal_take w fk i l true hx hfi
            have z : ¬ (0 ≤ (k : Int) - 1) := by omega
            simp -implicitDefEqProofs only [go_sem, simprocAttr, r18, r17, ints_len, hi']
            refine call1 [] false (c49i) ?_
            simp -implicitDefEqProofs only [go_sem, simprocAttr, r17, r18, hw, r16, z]
            refine nxtL () trivial ?_
            simp -implicitDefEqProofs only [go_sem, simprocAttr, et, List.append_nil]
            exact ⟨r17, o170⟩
          · obtain ⟨m, rfl⟩ : ∃ m, k = m + 1 := ⟨k - 1, by omega⟩
            have r16m : ρ 16 = .fv (.int (m : Int)) := by rw [r16]; congr 2; omega
            have em : ((m + 1 : Nat) : Int) - 1 = (m : Int) := by omega
            have mR : m < R.length := by omega
            have gm : (ints R)[m]? = some (.int (gI R m)) := by simp [ints, gI, List.getD_eq_getElem?_getD, List.getElem?_eq_getElem mR]
            obtain ⟨j, g1, g2, g3⟩ := Rmem (gI R (m : Nat)) (gI_mem mR)
            rw [em, g1] at hfk
            have hfk' : fk = fl.set j false := by rw [hfk, if_neg (by omega)]; simp
            by_cases e : j = i
            · subst e
              have e2 : (gI R (m : Nat) == (j : Int)) = true := by simpa using g1
              have hfi : fk[j]? = some false := by rw [hfk', List.getElem?_set_self (by omega)]
              have et := fal_take w fk j l false hx hfi
              simp -implicitDefEqProofs only [go_sem, simprocAttr, r18, r17, ints_len, hi']
              refine call1 [] false (c49i) ?_
              simp -implicitDefEqProofs only [go_sem, simprocAttr, r17, r18, r16m, gm, e2, hxi]
              refine app_gl (by simp -implicitDefEqProofs only [go_sem, simprocAttr, o170]; rfl) idx_26 (by simp -implicitDefEqProofs only [go_sem, simprocAttr]; rfl) (by simp [FV.cells]) (by simp -implicitDefEqProofs only [go_sem, simprocAttr]) (by simp [byt_3, ints]; omega) (by simp [maxLen, ints]; omega) (by simp) ?_
              simp -implicitDefEqProofs only [go_sem, simprocAttr, r18, hw]
              refine nxtL () trivial ?_
              simp -implicitDefEqProofs only [go_sem, simprocAttr, et, ints, List.map_append]
            · have e2 : (gI R (m : Nat) == (i : Int)) = false := by rw [g1]; simp; omega
              have hfi : fk[i]? = some true := by rw [hfk', List.getElem?_set_ne e]; exact hb
              have et := fal_take w fk i l true hx hfi
              simp -implicitDefEqProofs only [go_sem, simprocAttr, r18, r17, ints_len, hi']
              refine call1 [] false (c49i) ?_
              simp -implicitDefEqProofs only [go_sem, simprocAttr, r17, r18, r16m, gm, e2, hw]
              refine nxtL () trivial ?_
              simp -implicitDefEqProofs only [go_sem, simprocAttr, et, List.append_nil]
              exact ⟨r17, o170⟩
    · have q1' : ¬ ((k : Int) - 1 < (R.length : Nat)) := by omega
      simp -implicitDefEqProofs only [go_sem, simprocAttr, r16, ints_len, q1']
      have hp : R.Pairwise (· < ·) := hRf ▸ idxT_pair 0 fl
      refine lpL (β := Unit) 217 [21] 217 [] R (by omega) (fun _ _ _ => True) (fun i _ ρ h => ρ 21 = .fv (.int i)) () trivial (by simp -implicitDefEqProofs only [go_sem, simprocAttr]) ?_ ?_
      · rintro _ ρ' h' _ r21
        have R00 : 0 < R.length := List.length_pos_iff.2 R0
        obtain ⟨j, g1, g2, g3⟩ := Rmem (gI R (0 : Nat)) (gI_mem (by omega))
        obtain ⟨l, hl⟩ : ∃ l, w[j]? = some l := ⟨_, List.getElem?_eq_getElem g2⟩
        have gR0 : (ints R)[0]? = some (.int j) := by
          rw [← g1]; simp [ints, gI, List.getD_eq_getElem?_getD, List.getElem?_eq_getElem R00]
        have gl : (ints w)[j]? = some (.int l) := by simp [ints, hl]
        obtain ⟨l0, l1⟩ := wo.bd l (List.mem_of_getElem? hl)
        have lc : l < c.length := by omega
        have gc := ints_get l0 lc
        have cb := co.bd (gI c l) (by have := gI_mem (p := c) (i := l.toNat) (by omega); rwa [show ((l.toNat : Nat) : Int) = l by omega] at this)
        have w1 : IntKind.i64.wrap (gI c l + 1) = gI c l + 1 := wr _ (by omega) (by omega)
        have key : c.set l.toNat (gI c l + 1) = addAt c l 1 := by unfold addAt gI; rfl
        have gs2 : (ints (addAt c l 1))[l.toNat]? = some (.int (gI c l + 1)) := by
          rw [ints_get l0 (by rw [addAt_len]; exact lc), gI_addAt l0 lc l0, if_pos rfl]
        have cm : ((c.length : Nat) : Int) = N := co.len
        simp -implicitDefEqProofs only [go_sem, simprocAttr, r21, ints_len]
        refine call1 [] false (c17co) ?_
        simp -implicitDefEqProofs only [go_sem, simprocAttr, gR0, gl, l0, ints_len, lc, gc, w1]
        refine sto_elem (by rfl) (by rfl) (by rfl) (by simp -implicitDefEqProofs only [go_sem, simprocAttr]; rfl) gc (by decide) ?_
        simp -implicitDefEqProofs only [go_sem, simprocAttr, gR0, gl, FV.withCells, ints_set, key, l0, ints_len, lc, addAt_len, gs2]
        by_cases g6 : 5 < gI c l + 1
        · simp -implicitDefEqProofs only [go_sem, simprocAttr, g6]
          refine call1 [] false (t14) ?_
          simp -implicitDefEqProofs only [go_sem, simprocAttr]
          exact ret_fv
        · have c0 : ∀ n ∈ c, 0 ≤ n := fun n hn => (co.bd n hn).1
          have co' : CountOk N (addAt c l 1) := by
            refine ⟨by rw [addAt_len]; exact co.len, ?_⟩
            intro n hn
            unfold addAt at hn
            rcases List.mem_or_eq_of_mem_set hn with hn | rfl
            · exact co.bd n hn
            · have : gI c l = c.getD l.toNat 0 := rfl
              omega
          have c30' := t30 vC (sc := .list false (ints (addAt c l 1))) (c := addAt c l 1) rfl (by rw [addAt_len]; omega) (sw := .list false (ints w)) (w := w) rfl (by omega)
          have eL' := errL_zero eA co' (W := [w]) (by simpa using wo) (by simp)
          have e30' : errLack N H A (addAt c l 1) w = if lackR N H A (addAt c l 1) w = [] then 6 else 0 := by simp [errLack, eL']
          have hlr : lackR N H A (addAt c l 1) w = idxT 0 (fl0 q (addAt c l 1) w) := by
            subst hq
            unfold lackR fl0
            exact lackR_lk hqo n8 (by rw [addAt_len]; omega) wo.bd
          have ml := more_len (q := q) (c := c) (w := w) c0 (by rw [hfl]; exact g3) hl l0 lc
          rw [← hlr, hfl, ← hRf] at ml
          rw [e30'] at c30'
          generalize lackR N H A (addAt c l 1) w = R' at *
          have wm : IntKind.i64.wrap ((R.length : Nat) - 1) = (R'.length : Nat) := by rw [wr _ (by omega) (by omega)]; omega
          simp -implicitDefEqProofs only [go_sem, simprocAttr, g6]
          refine call1 [] false (c46) ?_
          simp -implicitDefEqProofs only [go_sem, simprocAttr]
          refine call1 [] false (c17w) ?_
          simp -implicitDefEqProofs only [go_sem, simprocAttr]
          by_cases eR2 : R' = []
          · rw [if_pos eR2] at c30'
            refine call1 [254] false (c30') ?_
            simp -implicitDefEqProofs only [go_sem, simprocAttr, eR2, ints_len, wm]
            refine call1 [] false (t14) ?_
            simp -implicitDefEqProofs only [go_sem, simprocAttr]
            exact ret_fv
          · rw [if_neg eR2] at c30'
            refine call1 [254] false (c30') ?_
            have hR' : lstN (ints R') = .list false (ints R') := lstN_ne (by simpa [ints] using eR2)
            simp -implicitDefEqProofs only [go_sem, simprocAttr, eR2, hR', ints_len, wm]
            refine call1 [] false (t14) ?_
            simp -implicitDefEqProofs only [go_sem, simprocAttr]
            exact ret_fv
      · rintro x ws i _ ρ' h' hx hi hm hi' hw _ r21
        obtain ⟨j, g1, g2, g3⟩ := Rmem x hm
        have gi : (ints R)[i]? = some (.int x) := by simp [ints, hx]
        have p1 : ¬ x < 0 := by omega
        have p2 : ¬ ((w.length : Nat) : Int) ≤ x := by omega
        by_cases i0 : i = 0
        · have p3 : ¬ (0 < (i : Int)) := by omega
          simp -implicitDefEqProofs only [go_sem, simprocAttr, r21, ints_len, hi', gi, p1, p2, p3]
          simp -implicitDefEqProofs only [go_sem, simprocAttr, r21, hw]
          refine nxtL () trivial ?_
          simp -implicitDefEqProofs only [go_sem, simprocAttr]
        · have p3 : (0 < (i : Int)) := by omega
          have wi : IntKind.i64.wrap ((i : Int) - 1) = ((i - 1 : Nat) : Int) := by rw [wr _ (by omega) (by omega)]; omega
          have gi1 : (ints R)[i - 1]? = some (.int (gI R ((i - 1 : Nat) : Int))) := by simp [ints, gI, List.getD_eq_getElem?_getD, List.getElem?_eq_getElem (show i - 1 < R.length by omega)]
          have hp1 : gI R ((i - 1 : Nat) : Int) < x := by
            have := List.pairwise_iff_getElem.1 hp (i - 1) i (by omega) hi (by omega)
            have e1 : gI R ((i - 1 : Nat) : Int) = R[i - 1] := by simp [gI, List.getD_eq_getElem?_getD, List.getElem?_eq_getElem (show i - 1 < R.length by omega)]
            have e2 : x = R[i] := by rw [List.getElem?_eq_getElem hi] at hx; simpa using hx.symm
            rw [e1, e2]; exact this
          have p4 : ¬ x ≤ gI R ((i - 1 : Nat) : Int) := by omega
          simp -implicitDefEqProofs only [go_sem, simprocAttr, r21, ints_len, hi', gi, p1, p2, p3, wi, gi1, p4]
          simp -implicitDefEqProofs only [go_sem, simprocAttr, r21, hw]
          refine nxtL () trivial ?_
          simp -implicitDefEqProofs only [go_sem, simprocAttr]
end S07

