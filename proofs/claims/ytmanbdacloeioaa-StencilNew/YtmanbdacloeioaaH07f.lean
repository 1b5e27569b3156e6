/- A part of the proof: H07f. -/
import Derived.Test.YtmanbdacloeioaaH07z
import Derived.Test.YtmanbdacloeioaaP07c
import Derived.Test.YtmanbdacloeioaaC07lc0
set_option linter.unusedVariables false
set_option linter.unusedSimpArgs false
set_option maxRecDepth 20000
namespace S07
open Go Abs
theorem t53o {st : FV} {N : Int} {hs al : FV} {H A : List (Int × Int)} {bs : List Int} (v : SetV st N hs al H A) (n0 : 1 ≤ N) (n8 : N ≤ 8) (hb : ∀ x ∈ bs, 0 ≤ x ∧ x < 256) (hl : bs.length = 8) :
    Fn Q 53 [.fo st, .fo (.agg (bs.map u8))] (.one (.own 3 1 false (ints (countF N bs)))) := by
  obtain ⟨rfl, hH, hA, lH, lA⟩ := v
  have o1 := ls_one hH
  have o2 := ls_one hA
  have o3 : ((bs.map u8).map LV.fv).all LV.one = true := by simp [u8, LV.one, FV.one]
  refine fn_intro Go.Proofs.Try.func53 rfl (by kernel_rfl) mix (k53 0) (Nat.le_of_ble_eq_true (by kernel_rfl)) ?_
  refine Abs.walk ?_
  unfold c53 sop
  simp -implicitDefEqProofs only [go_sem, simprocAttr, o1, o2, o3, hl]
  refine lpH 7 [5, 6] 7 [] (fun k : Nat => N.toNat - k) (fun k => k ≤ N.toNat) (fun k ρ h => ρ 6 = .fv (.int k) ∧ ρ 5 = .gl 7 (h.gen 7) ∧ h.gen 7 ≠ 0 ∧ h.obj 7 = some (.list 3 1 false false (ints ((bs.take k).map (·.tmod 6))))) 0 (by omega) ?_ ?_
  · simp -implicitDefEqProofs only [go_sem, simprocAttr, List.take_zero, ints]
  · rintro k ρ h' hk ⟨r6, r5, g7, o7⟩
    by_cases q1 : k < N.toNat
    · have q1' : (k : Int) < N := by omega
      obtain ⟨x, hx⟩ : ∃ x, bs[k]? = some x := ⟨_, List.getElem?_eq_getElem (by omega)⟩
      have hxb := hb x (List.mem_of_getElem? hx)
      have hw : IntKind.i64.wrap ((k : Int) + 1) = ((k + 1 : Nat) : Int) := wr _ (by omega) (by omega)
      have hwx : IntKind.i64.wrap x = x := wr _ (by omega) (by omega)
      have et : bs.take (k + 1) = bs.take k ++ [x] := by rw [List.take_add_one, hx]; rfl
      have k8 : (k : Int) < 8 := by omega
      have hg : partL false 1 (List.drop k ((bs.map u8).map LV.fv)) = some (.fv (u8 x)) := partL_get (by simp [hx])
      simp -implicitDefEqProofs only [go_sem, simprocAttr, r6, r5, q1', k8, hg, u8, hwx]
      refine app_gl (by simp -implicitDefEqProofs only [go_sem, simprocAttr, o7]; rfl) idx_26 (by simp -implicitDefEqProofs only [go_sem, simprocAttr]; rfl) (by simp [FV.cells]) (by simp -implicitDefEqProofs only [go_sem, simprocAttr]) (by simp [byt_3, ints]; omega) (by simp [maxLen, ints]; omega) (by simp) ?_
      simp -implicitDefEqProofs only [go_sem, simprocAttr, r6, hw]
      refine nxt (k + 1) (by omega) (by omega) ?_
      simp -implicitDefEqProofs only [go_sem, simprocAttr, et, ints, List.map_append]
    · have e6 : k = N.toNat := by omega
      have q1' : ¬ (k : Int) < N := by omega
      simp -implicitDefEqProofs only [go_sem, simprocAttr, r6, r5, q1']
      exact ret_own (by simp -implicitDefEqProofs only [go_sem, simprocAttr, g7]) (by simp -implicitDefEqProofs only [go_sem, simprocAttr, o7, countF, e6])
/-- Words by bytes. -/
structure BW (s : FV) (Bs : List (List Int)) : Prop where
  ex : ∃ wl : List FV, lsOf s = some wl ∧ wl.length = Bs.length ∧ ∀ (i : Nat) (y : FV) (b : List Int), wl[i]? = some y → Bs[i]? = some b → lsOf y = some (b.map u8)
  bd : ∀ b ∈ Bs, (∀ x ∈ b, 0 ≤ x ∧ x < 256) ∧ b.length ≤ 9223372036854775807
  len : Bs.length ≤ 9223372036854775807
def halfF (c : List Int) (k : Nat) : List Int := (c.take k).map (·.tdiv 2) ++ c.drop k
theorem lsF_len (W : List (List Int)) : (lsF W).length = W.length := by simp [lsF]
theorem halfF_len (c : List Int) (k : Nat) : (halfF c k).length = c.length := by simp [halfF]; omega
theorem halfF_get {c : List Int} {k : Nat} {x : Int} (h : c[k]? = some x) : (halfF c k)[k]? = some x := by
  have hl := (List.getElem?_eq_some_iff.1 h).1
  unfold halfF
  rw [List.getElem?_append_right (by simp; omega), List.getElem?_drop]
  simp only [List.length_map, List.length_take]
  rw [show k + (k - min k c.length) = k by omega]; exact h
theorem halfF_set {c : List Int} {k : Nat} {x : Int} (h : c[k]? = some x) : (halfF c k).set k (x.tdiv 2) = halfF c (k + 1) := by
  have hl := (List.getElem?_eq_some_iff.1 h).1
  unfold halfF
  have e1 : c.drop k = x :: c.drop (k + 1) := by
    rw [List.drop_eq_getElem_cons hl]; congr 1
    rw [List.getElem?_eq_getElem hl] at h; simpa using h
  rw [e1, List.set_append_right _ _ (by simp; omega)]
  simp only [List.length_map, List.length_take]
  rw [show k - min k c.length = 0 by omega, List.set_cons_zero, List.take_add_one, h]
  simp
theorem halfF_ok {N : Int} {c : List Int} (h : CountOk N c) : CountOk N (c.map (·.tdiv 2)) ∧ ∀ n ∈ c.map (·.tdiv 2), 0 ≤ n ∧ n ≤ 2 := by
  have key : ∀ n ∈ c.map (·.tdiv 2), 0 ≤ n ∧ n ≤ 2 := by
    intro n hn
    obtain ⟨x, hx, rfl⟩ := List.mem_map.1 hn
    have := h.bd x hx
    rw [Int.tdiv_eq_ediv_of_nonneg this.1]; omega
  exact ⟨⟨by rw [List.length_map]; exact h.len, fun n hn => by have := key n hn; omega⟩, key⟩
theorem sum_le_of : ∀ (a b : List Int), a.length = b.length → (∀ k : Nat, k < a.length → gI a (k : Nat) ≤ gI b (k : Nat)) → a.sum ≤ b.sum
  | [], [], _, _ => Int.le_refl _
  | [], _ :: _, h, _ => by simp at h
  | _ :: _, [], h, _ => by simp at h
  | x :: a, y :: b, h, hp => by
    have h0 := hp 0 (by simp)
    have ih := sum_le_of a b (by simpa using h) (fun k hk => by
      have := hp (k + 1) (by simpa using hk)
      simpa [gI] using this)
    simp only [List.sum_cons]
    have : x ≤ y := by simpa [gI] using h0
    omega
set_option maxHeartbeats 4000000 in
theorem t10 {b : Int} {hs as_ sW : FV} {hl al : List (Int × Int)} {Bs : List (List Int)} {cs : List Int} (b0 : 0 ≤ b) (b1 : b < 256) (h1 : lsOf hs = some (hl.map pU)) (h2 : lsOf as_ = some (al.map pU)) (hb : BB hl) (ab : BB al) (l1 : hl.length ≤ 9223372036854775807) (l2 : al.length ≤ 9223372036854775807)
    (hB : BW sW Bs) (hb4 : ∀ x ∈ cs, 0 ≤ x ∧ x < 256) (l4 : cs.length = 8) :
    Fn Q 10 [.fo (.agg [u8 b, hs, as_]), .fo sW, .fo (.agg (cs.map u8))] (.one (.fx (.bool true))) := by
  have c42 := t42 b0 b1 h1 h2 hb ab l1 l2
  have v := made_v (hl := hl) (al := al) b0
  have eA := made_ok b0 hb ab
  obtain ⟨n0, n8⟩ := madeN_bd b0
  obtain ⟨⟨wl, w1, w2, w3⟩, hBb, hBl⟩ := hB
  have o1 := ls_one h1
  have o2 := ls_one h2
  have o3 := ls_one w1
  have o4 : ((cs.map u8).map LV.fv).all LV.one = true := by simp [u8, LV.one, FV.one]
  have o7 : (LV.fv (u8 b)).one = true := rfl
  generalize madeN b = N at *
  generalize (madeH N hl).1 = H at *
  generalize madeA N al = A at *
  obtain ⟨lH, lA⟩ := errA_len eA
  have o5 := lstN_one (H.map pF)
  have o6 := lstN_one (A.map pF)
  generalize lstN (H.map pF) = sH at *
  generalize lstN (A.map pF) = sA at *
  have eV := v.eq
  have vC := setC_v (N := N) (H := H) (A := A) (by omega) (by omega)
  have c46 := t46 v (by omega) (by omega)
  have c43 := fun (y : FV) (bs : List Int) (h : lsOf y = some (bs.map u8)) (h' : ∀ x ∈ bs, 0 ≤ x ∧ x < 256) (h'' : bs.length ≤ 9223372036854775807) => t43 v n0 h h' h''
  have c53 := t53o v n0 n8 hb4 l4
  rw [eV] at c42 c46 c43 c53
  have co0 := countF_ok n0 n8 hb4 l4
  generalize countF N cs = c0 at *
  obtain ⟨co, c2⟩ := halfF_ok co0
  have c0l := co0.len
  refine fn_intro Go.Proofs.Try.func10 rfl (by kernel_rfl) mix (k10 0) (Nat.le_of_ble_eq_true (by kernel_rfl)) ?_
  refine Abs.walk ?_
  unfold c10 sop
  simp -implicitDefEqProofs only [go_sem, simprocAttr, o1, o2, o3, o4, l4, o7]
  refine call1 [] false (c42) ?_
  simp -implicitDefEqProofs only [go_sem, simprocAttr, o5, o6]
  refine lpH 32 [8, 9] 32 [31] (fun k : Nat => 4 - k) (fun k => k ≤ 4 ∧ k ≤ Bs.length) (fun k ρ h => ρ 9 = .fv (.int k) ∧ ρ 8 = .gl 31 (h.gen 31) ∧ h.obj 31 = some (.list 26 1 false false (lsF ((Bs.take k).map (wordF N))))) 0 ⟨by omega, by omega⟩ ?_ ?_
  · simp -implicitDefEqProofs only [go_sem, simprocAttr, List.take_zero, lsF, ints]
  · rintro k ρ h ⟨hk, hk2⟩ ⟨r9, r8, o31⟩
    by_cases q1 : k < Bs.length
    · have q1' : (k : Int) < (Bs.length : Nat) := by omega
      by_cases q2 : k < 4
      · have q2' : (k : Int) < 4 := by omega
        obtain ⟨y, hy⟩ : ∃ y, wl[k]? = some y := ⟨_, List.getElem?_eq_getElem (by omega)⟩
        obtain ⟨bs, hbs⟩ : ∃ bs, Bs[k]? = some bs := ⟨_, List.getElem?_eq_getElem q1⟩
        have hyl := w3 k y bs hy hbs
        obtain ⟨hbb, hbl⟩ := hBb bs (List.mem_of_getElem? hbs)
        have hw : IntKind.i64.wrap ((k : Int) + 1) = ((k + 1 : Nat) : Int) := wr _ (by omega) (by omega)
        have et : Bs.take (k + 1) = Bs.take k ++ [bs] := by rw [List.take_add_one, hbs]; rfl
        simp -implicitDefEqProofs only [go_sem, simprocAttr, r9, r8, lenV_ls w1, w2, q1', q2', index_ls w1 idx_98 hy (by rw [ls_cells hyl]; rfl), ls_cells hyl, ls_fone hyl, o5, o6]
        refine call1 [] false (c43 y bs hyl hbb hbl) ?_
        simp -implicitDefEqProofs only [go_sem, simprocAttr, r8]
        refine app_gl (by simp -implicitDefEqProofs only [go_sem, simprocAttr, o31]; rfl) idx_25 (by simp -implicitDefEqProofs only [go_sem, simprocAttr]; rfl) (by simp [FV.cells]) (by simp -implicitDefEqProofs only [go_sem, simprocAttr]) (by simp [byt_26, lsF]; omega) (by simp [maxLen, lsF]; omega) (by simp) ?_
        simp -implicitDefEqProofs only [go_sem, simprocAttr, r9, hw]
        refine nxt (k + 1) (by omega) ⟨by omega, by omega⟩ ?_
        simp -implicitDefEqProofs only [go_sem, simprocAttr, et, lsF, ints, List.map_append]
      · have e6 : k = 4 := by omega
        subst e6
        have q3 : (4 : Int) < (Bs.length : Nat) := by omega
        simp -implicitDefEqProofs only [go_sem, simprocAttr, r9, lenV_ls w1, w2, q3, fs_load (n := 8) (show (cs.map u8).length = 8 by simp [l4]) (by omega)]
        refine call1 [] false (c53) ?_
        simp -implicitDefEqProofs only [go_sem, simprocAttr]
        refine lpL (β := Unit) 54 [11] 54 [53] c0 (by omega) (fun _ _ _ => True) (fun i _ ρ' h' => ρ' 11 = .fv (.int i) ∧ h'.gen 53 = h.gen 53 + 1 ∧ h'.obj 53 = some (.list 3 1 false false (ints (halfF c0 i)))) () trivial (by simp -implicitDefEqProofs only [go_sem, simprocAttr, halfF, List.take_zero, List.drop_zero, List.map_nil, List.nil_append]) ?_ ?_
        · rintro _ ρ' h' _ ⟨r11, g53, o53⟩
          have eh : halfF c0 c0.length = c0.map (·.tdiv 2) := by simp [halfF]
          rw [eh] at o53
          have hcl : (c0.map (·.tdiv 2)).length = c0.length := by simp
          rw [← hcl] at r11
          generalize c0.map (·.tdiv 2) = c at *
          generalize hWe : (Bs.take 4).map (wordF N) = W at *
          have Wl : W.length ≤ 4 := by rw [← hWe]; simp; omega
          have hW : ∀ w ∈ W, WordOk N w := by
            intro w hw
            rw [← hWe] at hw
            obtain ⟨bs, hbs, rfl⟩ := List.mem_map.1 hw
            exact wordF_ok n0 (hBb bs (List.mem_of_mem_take hbs)).1
          have cl := co.len
          have c17c := t17 (s := .list false (ints c)) (l := c) rfl (by omega)
          have hWl : ∀ l ∈ W, l.length ≤ 1000000 := fun l hl => by have := (hW l hl).l6; omega
          have hWv := lsV_lists W (fun l hl => by have := hWl l hl; omega)
          have c51 := t51 hWv (by omega) hWl
          have c35 := t35 vC (sc := .list false (ints c)) (c := c) rfl (by omega) hWv (by omega)
          have eL := errL_zero eA co hW (by omega)
          rw [if_pos eL, eL] at c35
          have cutl := cut_len eA co hW
          simp -implicitDefEqProofs only [go_sem, simprocAttr, r11, g53, o53, ints_len]
          refine call1 [] false (c46) ?_
          simp -implicitDefEqProofs only [go_sem, simprocAttr, g53]
          refine call0 [53] false c17c (by simp -implicitDefEqProofs only [go_sem, simprocAttr, g53, o53]) (.inl rfl) ?_
          simp -implicitDefEqProofs only [go_sem, simprocAttr, r8, g53, o53]
          refine call0 [31] false c51 (by simp -implicitDefEqProofs only [go_sem, simprocAttr, o31]; rfl) (.inl rfl) ?_
          simp -implicitDefEqProofs only [go_sem, simprocAttr, o31]
          refine call1 [] false (c35) ?_
          have cuN : (((cutR N H A c W).length : Nat) : Int) = N := cutl
          simp -implicitDefEqProofs only [go_sem, simprocAttr, ints_len, cuN]
          refine lpL (β := Unit) 85 [14, 15] 85 [] (cutR N H A c W) (by omega) (fun _ _ _ => True) (fun i _ ρ h => ρ 15 = .fv (.int i) ∧ ρ 14 = .fv (.int ((cutR N H A c W).take i).sum)) () trivial (by simp -implicitDefEqProofs only [go_sem, simprocAttr, List.take_zero, List.sum_nil]) ?_ ?_
          · rintro _ ρ3 h3 _ ⟨r15, r14⟩
            rw [List.take_length] at r14
            simp -implicitDefEqProofs only [go_sem, simprocAttr, r15, ints_len]
            obtain ⟨z, hz⟩ : ∃ z, z = List.zipWith (· + ·) c (cutR N H A c W) := ⟨_, rfl⟩
            have zl : z.length = c.length := by rw [hz]; simp; omega
            refine lpH 109 [16, 17, 18, 19, 20, 21, 22, 23, 24] 109 [] (fun k : Nat => c.length + 1 - k) (fun k => k ≤ c.length + 1) (fun k ρ h => ρ 16 = .fv (.int ((k : Int) - 1))) 0 (by omega) (by simp -implicitDefEqProofs only [go_sem, simprocAttr]) ?_
            rintro k ρ4 h4 hk r16
            by_cases q1 : k < c.length + 1
            · have q1' : (k : Int) - 1 < ((cutR N H A c W).length : Nat) := by omega
              have hw16 : IntKind.i64.wrap ((k : Int) - 1 + 1) = ((k + 1 : Nat) : Int) - 1 := by rw [wr _ (by omega) (by omega)]; omega
              by_cases k0 : k = 0
              · have z1 : ¬ (0 ≤ (k : Int) - 1) := by omega
                obtain ⟨nk, hnk⟩ : ∃ nk, nk = z := ⟨_, rfl⟩
                obtain ⟨κ, hκ⟩ : ∃ κ : Int, κ = (k : Int) - 1 := ⟨_, rfl⟩
                have r16κ : ρ4 16 = .fv (.int κ) := by rw [r16, hκ]
                have hwκ : IntKind.i64.wrap (κ + 1) = ((k + 1 : Nat) : Int) - 1 := by rw [hκ]; exact hw16
                have nkg : ∀ (i : Nat) (x y : Int), c[i]? = some x → (cutR N H A c W)[i]? = some y → nk[i]? = some (if (i : Int) = κ then x + y - 1 else x + y) := by
                  intro i x y e1 e2
                  rw [if_neg (by omega), hnk, hz, List.getElem?_zipWith, e1, e2]
                have nkl : nk.length = c.length := by rw [hnk]; exact zl
                have nk0 : ∀ n ∈ nk, 0 ≤ n := by rw [hnk, hz]; exact zip_nn (fun n hn => (co.bd n hn).1) (cut_nn eA co hW)
                have nkf : (κ < 0 ∧ ∀ w ∈ W, lackR N H A nk w = []) ∨ (0 ≤ κ ∧ ∃ w ∈ W, lackR N H A nk w ≠ []) := .inl ⟨by omega, fun w hw => by rw [hnk, hz]; exact new_fine eA co hW hw⟩
                simp -implicitDefEqProofs only [go_sem, simprocAttr, r16, ints_len, q1', z1]
                refine lpL (β := Unit) 125 [17, 18, 19, 20] 124 [] c (by omega) (fun _ _ _ => True) (fun i _ ρ h => ρ 19 = .fv (.int i) ∧ ρ 17 = .gl 124 (h.gen 124) ∧ h.obj 124 = some (.list 3 1 false false (ints (nk.take i))) ∧ ρ 18 = .fv (.bool ((nk.take i).any fun n => decide (5 < n)))) () trivial (by simp -implicitDefEqProofs only [go_sem, simprocAttr, List.take_zero, ints, List.any_nil]) ?_ ?_
                · rintro _ ρ5 h5 _ ⟨r19, r17, o124, r18⟩
                  rw [List.take_of_length_le (by omega)] at o124 r18
                  simp -implicitDefEqProofs only [go_sem, simprocAttr, r19, g53, ints_len]
                  cases hmn : nk.any fun n => decide (5 < n) with
                  | true =>
                    rw [hmn] at r18
                    refine lpH 154 [22] 154 [] (fun _ : Nat => 0) (fun _ => True) (fun _ ρ h => ρ 22 = .fv (.int 0)) 0 trivial (by simp -implicitDefEqProofs only [go_sem, simprocAttr]) ?_
                    rintro _ ρ6 h6 _ r22
                    by_cases W0 : (0 : Int) < (W.length : Nat)
                    · simp -implicitDefEqProofs only [go_sem, simprocAttr, r22, r8, o31, lsF_len, W0, r18, r16κ, hwκ]
                      refine nxt (k + 1) (by omega) (by omega) ?_
                      simp -implicitDefEqProofs only [go_sem, simprocAttr]
                    · simp -implicitDefEqProofs only [go_sem, simprocAttr, r22, r8, o31, lsF_len, W0, r18, r16κ, hwκ]
                      refine nxt (k + 1) (by omega) (by omega) ?_
                      simp -implicitDefEqProofs only [go_sem, simprocAttr]
                  | false =>
                    rw [hmn] at r18
                    have cn : CountOk N nk := ⟨by rw [nkl]; exact cl, fun n hn => ⟨nk0 n hn, by have := not_any hmn hn; simp at this; omega⟩⟩
                    have c17n := t17 (s := .list false (ints nk)) (l := nk) rfl (by omega)
                    refine lpL (β := Unit) 154 [21, 22, 23, 24] 154 [124] W (by omega) (fun _ _ _ => True) (fun i _ ρ' h' => ρ' 22 = .fv (.int i) ∧ ρ' 21 = .fv (.bool ((W.take i).all fun w => decide (lackR N H A nk w = []))) ∧ h'.gen 124 = h5.gen 124 ∧ ∃ fz, h'.obj 124 = some (.list 3 1 fz false (ints nk))) () trivial (by simp -implicitDefEqProofs only [go_sem, simprocAttr, List.take_zero, List.all_nil, o124]; exact ⟨_, rfl⟩) ?_ ?_
                    · rintro _ ρ6 h6 _ ⟨r22, r21, _⟩
                      rw [List.take_length] at r21
                      rcases nkf with ⟨kz, hall⟩ | ⟨kz, w, hw, hne⟩
                      · have ha : (W.all fun w => decide (lackR N H A nk w = [])) = true := List.all_eq_true.2 fun w hw => by simpa using hall w hw
                        rw [ha] at r21
                        simp -implicitDefEqProofs only [go_sem, simprocAttr, r22, r8, o31, lsF_len, r18, r21, r16κ, kz, eqB, hwκ]
                        refine nxt (k + 1) (by omega) (by omega) ?_
                        simp -implicitDefEqProofs only [go_sem, simprocAttr]
                      · have ha : (W.all fun w => decide (lackR N H A nk w = [])) = false := by
                          rw [List.all_eq_false]; exact ⟨w, hw, by simpa using hne⟩
                        rw [ha] at r21
                        have kz' : ¬ κ < 0 := by omega
                        simp -implicitDefEqProofs only [go_sem, simprocAttr, r22, r8, o31, lsF_len, r18, r21, r16κ, kz', eqB, hwκ]
                        refine nxt (k + 1) (by omega) (by omega) ?_
                        simp -implicitDefEqProofs only [go_sem, simprocAttr]
                    · rintro w ws i _ ρ6 h6 hx hi hm hi' hw _ ⟨r22, r21, g124, fz, o124'⟩
                      have wok := hW w hm
                      have w6 := wok.l6
                      have gw : (lsF W)[i]? = some (.list false (ints w)) := by simp [lsF, hx]
                      have c17w := t17 (s := .list false (ints w)) (l := w) rfl (by omega)
                      have c29 := t29 vC (sc := .list false (ints nk)) (c := nk) rfl (by omega) (sw := .list false (ints w)) (w := w) rfl (by omega)
                      have eL' := errL_zero eA cn (W := [w]) (by simpa using wok) (by simp)
                      have e29 : errLay N H A nk w = if lackR N H A nk w = [] then 0 else 7 := by simp [errLay, eL']
                      rw [e29] at c29
                      have et : (W.take (i + 1)).all (fun w => decide (lackR N H A nk w = [])) = ((W.take i).all (fun w => decide (lackR N H A nk w = [])) && decide (lackR N H A nk w = [])) := by rw [List.take_add_one, hx]; simp
                      simp -implicitDefEqProofs only [go_sem, simprocAttr, r22, r8, o31, lsF_len, r18, hi']
                      refine W_opsD _ _ _ (Vs [[], [], [], [124]]) ?_ ?_
                      · decide
                      simp -implicitDefEqProofs only [go_sem, simprocAttr, o5, o6]
                      refine callD [] false [.fo (.agg [.int N, sH, sA])] [] c46 ⟨rfl, trivial⟩ rfl (.inl rfl) ?_
                      simp -implicitDefEqProofs only [go_sem, simprocAttr, r17]
                      refine callD [124] false [.fo (.list false (ints nk))] [] c17n (by simp -implicitDefEqProofs only [go_sem, simprocAttr, g124, o124']) rfl (.inl rfl) ?_
                      simp -implicitDefEqProofs only [go_sem, simprocAttr, r22, r8, o31, lsF_len, hi', gw, o124']
                      refine call1 [] false (c17w) ?_
                      generalize hbm : (W.take i).all (fun w => decide (lackR N H A nk w = [])) = bm at *
                      by_cases e : lackR N H A nk w = []
                      · rw [if_pos e] at c29
                        have ed : decide (lackR N H A nk w = []) = true := by simpa using e
                        rw [ed] at et
                        simp -implicitDefEqProofs only [go_sem, simprocAttr]
                        refine call1 [] false (c29) ?_
                        cases bm with
                        | true =>
                          simp -implicitDefEqProofs only [go_sem, simprocAttr, r21, r22, hw]
                          refine nxtL () trivial ?_
                          rw [et]
                          simp -implicitDefEqProofs only [go_sem, simprocAttr, g124]
                          exact ⟨_, rfl⟩
                        | false =>
                          simp -implicitDefEqProofs only [go_sem, simprocAttr, r21, r22, hw]
                          refine nxtL () trivial ?_
                          rw [et]
                          simp -implicitDefEqProofs only [go_sem, simprocAttr, g124]
                          exact ⟨_, rfl⟩
                      · rw [if_neg e] at c29
                        have ed : decide (lackR N H A nk w = []) = false := by simpa using e
                        rw [ed] at et
                        simp -implicitDefEqProofs only [go_sem, simprocAttr]
                        refine call1 [] false (c29) ?_
                        cases bm with
                        | true =>
                          simp -implicitDefEqProofs only [go_sem, simprocAttr, r21, r22, hw]
                          refine nxtL () trivial ?_
                          rw [et]
                          simp -implicitDefEqProofs only [go_sem, simprocAttr, g124]
                          exact ⟨_, rfl⟩
                        | false =>
                          simp -implicitDefEqProofs only [go_sem, simprocAttr, r21, r22, hw]
                          refine nxtL () trivial ?_
                          rw [et]
                          simp -implicitDefEqProofs only [go_sem, simprocAttr, g124]
                          exact ⟨_, rfl⟩
                · rintro x xs i _ ρ5 h5 hx hi hm hi' hw _ ⟨r19, r17, o124, r18⟩
                  obtain ⟨y, hy⟩ : ∃ y, (cutR N H A c W)[i]? = some y := ⟨_, List.getElem?_eq_getElem (by omega)⟩
                  have xb := co.bd x hm
                  obtain ⟨u0, u6, _⟩ := cut_at eA co hW (t := (i : Int)) (by omega) (by omega)
                  have uy : gI (cutR N H A c W) (i : Nat) = y := by unfold gI; rw [List.getD_eq_getElem?_getD]; simp [hy]
                  rw [uy] at u0 u6
                  have gx : (ints c)[i]? = some (.int x) := by simp [ints, hx]
                  have gy : (ints (cutR N H A c W))[i]? = some (.int y) := by simp [ints, hy]
                  have wa : IntKind.i64.wrap (x + y) = x + y := wr _ (by omega) (by omega)
                  have wb : IntKind.i64.wrap (x + y - 1) = x + y - 1 := wr _ (by omega) (by omega)
                  have gn := nkg i x y hx hy
                  have lenn : (nk.take i).length ≤ 8 := by simp; omega
                  by_cases ei : (i : Int) = κ
                  · have e1 : ((i : Int) == κ) = true := by simpa using ei
                    rw [if_pos ei] at gn
                    have et : nk.take (i + 1) = nk.take i ++ [x + y - 1] := by rw [List.take_add_one, gn]; rfl
                    simp -implicitDefEqProofs only [go_sem, simprocAttr, r19, g53, ints_len, hi', gx, gy, wa, wb, r16κ, e1, r17]
                    refine app_gl (by simp -implicitDefEqProofs only [go_sem, simprocAttr, o124]; rfl) idx_26 (by simp -implicitDefEqProofs only [go_sem, simprocAttr]; rfl) (by simp [FV.cells]) (by simp -implicitDefEqProofs only [go_sem, simprocAttr]) (by simp [byt_3, ints]; omega) (by simp [maxLen, ints]; omega) (by simp) ?_
                    have ea : (nk.take (i + 1)).any (fun n => decide (5 < n)) = ((nk.take i).any (fun n => decide (5 < n)) || decide (5 < x + y - 1)) := by rw [et]; simp
                    generalize hbm : (nk.take i).any (fun n => decide (5 < n)) = bm at *
                    cases bm with
                    | true =>
                      simp -implicitDefEqProofs only [go_sem, simprocAttr, r18, r19, hw]
                      refine nxtL () trivial ?_
                      rw [ea, et]
                      simp -implicitDefEqProofs only [go_sem, simprocAttr, ints, List.map_append]
                    | false =>
                      simp -implicitDefEqProofs only [go_sem, simprocAttr, r18, r19, hw]
                      refine nxtL () trivial ?_
                      rw [ea, et]
                      simp -implicitDefEqProofs only [go_sem, simprocAttr, ints, List.map_append]
                  · have e1 : ((i : Int) == κ) = false := by simpa using ei
                    rw [if_neg ei] at gn
                    have et : nk.take (i + 1) = nk.take i ++ [x + y] := by rw [List.take_add_one, gn]; rfl
                    simp -implicitDefEqProofs only [go_sem, simprocAttr, r19, g53, ints_len, hi', gx, gy, wa, wb, r16κ, e1, r17]
                    refine app_gl (by simp -implicitDefEqProofs only [go_sem, simprocAttr, o124]; rfl) idx_26 (by simp -implicitDefEqProofs only [go_sem, simprocAttr]; rfl) (by simp [FV.cells]) (by simp -implicitDefEqProofs only [go_sem, simprocAttr]) (by simp [byt_3, ints]; omega) (by simp [maxLen, ints]; omega) (by simp) ?_
                    have ea : (nk.take (i + 1)).any (fun n => decide (5 < n)) = ((nk.take i).any (fun n => decide (5 < n)) || decide (5 < x + y)) := by rw [et]; simp
                    generalize hbm : (nk.take i).any (fun n => decide (5 < n)) = bm at *
                    cases bm with
                    | true =>
                      simp -implicitDefEqProofs only [go_sem, simprocAttr, r18, r19, hw]
                      refine nxtL () trivial ?_
                      rw [ea, et]
                      simp -implicitDefEqProofs only [go_sem, simprocAttr, ints, List.map_append]
                    | false =>
                      simp -implicitDefEqProofs only [go_sem, simprocAttr, r18, r19, hw]
                      refine nxtL () trivial ?_
                      rw [ea, et]
                      simp -implicitDefEqProofs only [go_sem, simprocAttr, ints, List.map_append]
              · obtain ⟨m, rfl⟩ : ∃ m, k = m + 1 := ⟨k - 1, by omega⟩
                have r16m : ρ4 16 = .fv (.int (m : Int)) := by rw [r16]; congr 2; omega
                obtain ⟨y, hy⟩ : ∃ y, (cutR N H A c W)[m]? = some y := ⟨_, List.getElem?_eq_getElem (by omega)⟩
                have gy : (ints (cutR N H A c W))[m]? = some (.int y) := by simp [ints, hy]
                have mlt : (m : Int) < ((cutR N H A c W).length : Nat) := by omega
                have hwm : IntKind.i64.wrap ((m : Int) + 1) = ((m + 1 + 1 : Nat) : Int) - 1 := by rw [wr _ (by omega) (by omega)]; omega
                by_cases y0 : y = 0
                · have e0 : (y == 0) = true := by simpa using y0
                  simp -implicitDefEqProofs only [go_sem, simprocAttr, r16m, ints_len, mlt, gy, e0]
                  simp -implicitDefEqProofs only [go_sem, simprocAttr, r16m, hwm]
                  refine nxt (m + 1 + 1) (by omega) (by omega) ?_
                  simp -implicitDefEqProofs only [go_sem, simprocAttr]
                · have e0 : (y == 0) = false := by simpa using y0
                  obtain ⟨nk, hnk⟩ : ∃ nk, nk = addAt z (m : Nat) (-1) := ⟨_, rfl⟩
                  obtain ⟨κ, hκ⟩ : ∃ κ : Int, κ = (m : Int) := ⟨_, rfl⟩
                  have r16κ : ρ4 16 = .fv (.int κ) := by rw [r16m, hκ]
                  have hwκ : IntKind.i64.wrap (κ + 1) = ((m + 1 + 1 : Nat) : Int) - 1 := by rw [hκ]; exact hwm
                  obtain ⟨v0, _⟩ := cut_at eA co hW (t := (m : Int)) (by omega) (by omega)
                  have vy : gI (cutR N H A c W) (m : Nat) = y := by unfold gI; rw [List.getD_eq_getElem?_getD]; simp [hy]
                  have nkg : ∀ (i : Nat) (x y : Int), c[i]? = some x → (cutR N H A c W)[i]? = some y → nk[i]? = some (if (i : Int) = κ then x + y - 1 else x + y) := by
                    intro i x y e1 e2
                    have ez : z[i]? = some (x + y) := by rw [hz, List.getElem?_zipWith, e1, e2]
                    rw [hnk]
                    unfold addAt
                    rw [Int.toNat_natCast]
                    by_cases e : i = m
                    · subst e
                      rw [List.getElem?_set_self (by omega), if_pos hκ.symm, List.getD_eq_getElem?_getD, ez]; rfl
                    · rw [List.getElem?_set_ne (by omega), if_neg (by omega), ez]
                  have nkl : nk.length = c.length := by rw [hnk, addAt_len]; exact zl
                  have nk0 : ∀ n ∈ nk, 0 ≤ n := by
                    obtain ⟨x, hx⟩ : ∃ x, c[m]? = some x := ⟨_, List.getElem?_eq_getElem (by omega)⟩
                    have x0 := (co.bd x (List.mem_of_getElem? hx)).1
                    have ez : z[m]? = some (x + y) := by rw [hz, List.getElem?_zipWith, hx, hy]
                    rw [hnk]
                    exact addAt_nn (by rw [hz]; exact zip_nn (fun n hn => (co.bd n hn).1) (cut_nn eA co hW)) ez (by omega)
                  have nkf : (κ < 0 ∧ ∀ w ∈ W, lackR N H A nk w = []) ∨ (0 ≤ κ ∧ ∃ w ∈ W, lackR N H A nk w ≠ []) := by
                    refine .inr ⟨by omega, ?_⟩
                    rw [hnk, hz]
                    exact new_short eA co hW (by omega) (by omega)
                  simp -implicitDefEqProofs only [go_sem, simprocAttr, r16m, ints_len, mlt, gy, e0]
                  refine lpL (β := Unit) 125 [17, 18, 19, 20] 124 [] c (by omega) (fun _ _ _ => True) (fun i _ ρ h => ρ 19 = .fv (.int i) ∧ ρ 17 = .gl 124 (h.gen 124) ∧ h.obj 124 = some (.list 3 1 false false (ints (nk.take i))) ∧ ρ 18 = .fv (.bool ((nk.take i).any fun n => decide (5 < n)))) () trivial (by simp -implicitDefEqProofs only [go_sem, simprocAttr, List.take_zero, ints, List.any_nil]) ?_ ?_
                  · rintro _ ρ5 h5 _ ⟨r19, r17, o124, r18⟩
                    rw [List.take_of_length_le (by omega)] at o124 r18
                    simp -implicitDefEqProofs only [go_sem, simprocAttr, r19, g53, ints_len]
                    cases hmn : nk.any fun n => decide (5 < n) with
                    | true =>
                      rw [hmn] at r18
                      refine lpH 154 [22] 154 [] (fun _ : Nat => 0) (fun _ => True) (fun _ ρ h => ρ 22 = .fv (.int 0)) 0 trivial (by simp -implicitDefEqProofs only [go_sem, simprocAttr]) ?_
                      rintro _ ρ6 h6 _ r22
                      by_cases W0 : (0 : Int) < (W.length : Nat)
                      · simp -implicitDefEqProofs only [go_sem, simprocAttr, r22, r8, o31, lsF_len, W0, r18, r16κ, hwκ]
                        refine nxt (m + 1 + 1) (by omega) (by omega) ?_
                        simp -implicitDefEqProofs only [go_sem, simprocAttr]
                      · simp -implicitDefEqProofs only [go_sem, simprocAttr, r22, r8, o31, lsF_len, W0, r18, r16κ, hwκ]
                        refine nxt (m + 1 + 1) (by omega) (by omega) ?_
                        simp -implicitDefEqProofs only [go_sem, simprocAttr]
                    | false =>
                      rw [hmn] at r18
                      have cn : CountOk N nk := ⟨by rw [nkl]; exact cl, fun n hn => ⟨nk0 n hn, by have := not_any hmn hn; simp at this; omega⟩⟩
                      have c17n := t17 (s := .list false (ints nk)) (l := nk) rfl (by omega)
                      refine lpL (β := Unit) 154 [21, 22, 23, 24] 154 [124] W (by omega) (fun _ _ _ => True) (fun i _ ρ' h' => ρ' 22 = .fv (.int i) ∧ ρ' 21 = .fv (.bool ((W.take i).all fun w => decide (lackR N H A nk w = []))) ∧ h'.gen 124 = h5.gen 124 ∧ ∃ fz, h'.obj 124 = some (.list 3 1 fz false (ints nk))) () trivial (by simp -implicitDefEqProofs only [go_sem, simprocAttr, List.take_zero, List.all_nil, o124]; exact ⟨_, rfl⟩) ?_ ?_
                      · rintro _ ρ6 h6 _ ⟨r22, r21, _⟩
                        rw [List.take_length] at r21
                        rcases nkf with ⟨kz, hall⟩ | ⟨kz, w, hw, hne⟩
                        · have ha : (W.all fun w => decide (lackR N H A nk w = [])) = true := List.all_eq_true.2 fun w hw => by simpa using hall w hw
                          rw [ha] at r21
                          simp -implicitDefEqProofs only [go_sem, simprocAttr, r22, r8, o31, lsF_len, r18, r21, r16κ, kz, eqB, hwκ]
                          refine nxt (m + 1 + 1) (by omega) (by omega) ?_
                          simp -implicitDefEqProofs only [go_sem, simprocAttr]
                        · have ha : (W.all fun w => decide (lackR N H A nk w = [])) = false := by
                            rw [List.all_eq_false]; exact ⟨w, hw, by simpa using hne⟩
                          rw [ha] at r21
                          have kz' : ¬ κ < 0 := by omega
                          simp -implicitDefEqProofs only [go_sem, simprocAttr, r22, r8, o31, lsF_len, r18, r21, r16κ, kz', eqB, hwκ]
                          refine nxt (m + 1 + 1) (by omega) (by omega) ?_
                          simp -implicitDefEqProofs only [go_sem, simprocAttr]
                      · rintro w ws i _ ρ6 h6 hx hi hm hi' hw _ ⟨r22, r21, g124, fz, o124'⟩
                        have wok := hW w hm
                        have w6 := wok.l6
                        have gw : (lsF W)[i]? = some (.list false (ints w)) := by simp [lsF, hx]
                        have c17w := t17 (s := .list false (ints w)) (l := w) rfl (by omega)
                        have c29 := t29 vC (sc := .list false (ints nk)) (c := nk) rfl (by omega) (sw := .list false (ints w)) (w := w) rfl (by omega)
                        have eL' := errL_zero eA cn (W := [w]) (by simpa using wok) (by simp)
                        have e29 : errLay N H A nk w = if lackR N H A nk w = [] then 0 else 7 := by simp [errLay, eL']
                        rw [e29] at c29
                        have et : (W.take (i + 1)).all (fun w => decide (lackR N H A nk w = [])) = ((W.take i).all (fun w => decide (lackR N H A nk w = [])) && decide (lackR N H A nk w = [])) := by rw [List.take_add_one, hx]; simp
                        simp -implicitDefEqProofs only [go_sem, simprocAttr, r22, r8, o31, lsF_len, r18, hi']
                        refine W_opsD _ _ _ (Vs [[], [], [], [124]]) ?_ ?_
                        · decide
                        simp -implicitDefEqProofs only [go_sem, simprocAttr, o5, o6]
                        refine callD [] false [.fo (.agg [.int N, sH, sA])] [] c46 ⟨rfl, trivial⟩ rfl (.inl rfl) ?_
                        simp -implicitDefEqProofs only [go_sem, simprocAttr, r17]
                        refine callD [124] false [.fo (.list false (ints nk))] [] c17n (by simp -implicitDefEqProofs only [go_sem, simprocAttr, g124, o124']) rfl (.inl rfl) ?_
                        simp -implicitDefEqProofs only [go_sem, simprocAttr, r22, r8, o31, lsF_len, hi', gw, o124']
                        refine call1 [] false (c17w) ?_
                        generalize hbm : (W.take i).all (fun w => decide (lackR N H A nk w = [])) = bm at *
                        by_cases e : lackR N H A nk w = []
                        · rw [if_pos e] at c29
                          have ed : decide (lackR N H A nk w = []) = true := by simpa using e
                          rw [ed] at et
                          simp -implicitDefEqProofs only [go_sem, simprocAttr]
                          refine call1 [] false (c29) ?_
                          cases bm with
                          | true =>
                            simp -implicitDefEqProofs only [go_sem, simprocAttr, r21, r22, hw]
                            refine nxtL () trivial ?_
                            rw [et]
                            simp -implicitDefEqProofs only [go_sem, simprocAttr, g124]
                            exact ⟨_, rfl⟩
                          | false =>
                            simp -implicitDefEqProofs only [go_sem, simprocAttr, r21, r22, hw]
                            refine nxtL () trivial ?_
                            rw [et]
                            simp -implicitDefEqProofs only [go_sem, simprocAttr, g124]
                            exact ⟨_, rfl⟩
                        · rw [if_neg e] at c29
                          have ed : decide (lackR N H A nk w = []) = false := by simpa using e
                          rw [ed] at et
                          simp -implicitDefEqProofs only [go_sem, simprocAttr]
                          refine call1 [] false (c29) ?_
                          cases bm with
                          | true =>
                            simp -implicitDefEqProofs only [go_sem, simprocAttr, r21, r22, hw]
                            refine nxtL () trivial ?_
                            rw [et]
                            simp -implicitDefEqProofs only [go_sem, simprocAttr, g124]
                            exact ⟨_, rfl⟩
                          | false =>
                            simp -implicitDefEqProofs only [go_sem, simprocAttr, r21, r22, hw]
                            refine nxtL () trivial ?_
                            rw [et]
                            simp -implicitDefEqProofs only [go_sem, simprocAttr, g124]
                            exact ⟨_, rfl⟩
                  · rintro x xs i _ ρ5 h5 hx hi hm hi' hw _ ⟨r19, r17, o124, r18⟩
                    obtain ⟨y, hy⟩ : ∃ y, (cutR N H A c W)[i]? = some y := ⟨_, List.getElem?_eq_getElem (by omega)⟩
                    have xb := co.bd x hm
                    obtain ⟨u0, u6, _⟩ := cut_at eA co hW (t := (i : Int)) (by omega) (by omega)
                    have uy : gI (cutR N H A c W) (i : Nat) = y := by unfold gI; rw [List.getD_eq_getElem?_getD]; simp [hy]
                    rw [uy] at u0 u6
                    have gx : (ints c)[i]? = some (.int x) := by simp [ints, hx]
                    have gy : (ints (cutR N H A c W))[i]? = some (.int y) := by simp [ints, hy]
                    have wa : IntKind.i64.wrap (x + y) = x + y := wr _ (by omega) (by omega)
                    have wb : IntKind.i64.wrap (x + y - 1) = x + y - 1 := wr _ (by omega) (by omega)
                    have gn := nkg i x y hx hy
                    have lenn : (nk.take i).length ≤ 8 := by simp; omega
                    by_cases ei : (i : Int) = κ
                    · have e1 : ((i : Int) == κ) = true := by simpa using ei
                      rw [if_pos ei] at gn
                      have et : nk.take (i + 1) = nk.take i ++ [x + y - 1] := by rw [List.take_add_one, gn]; rfl
                      simp -implicitDefEqProofs only [go_sem, simprocAttr, r19, g53, ints_len, hi', gx, gy, wa, wb, r16κ, e1, r17]
                      refine app_gl (by simp -implicitDefEqProofs only [go_sem, simprocAttr, o124]; rfl) idx_26 (by simp -implicitDefEqProofs only [go_sem, simprocAttr]; rfl) (by simp [FV.cells]) (by simp -implicitDefEqProofs only [go_sem, simprocAttr]) (by simp [byt_3, ints]; omega) (by simp [maxLen, ints]; omega) (by simp) ?_
                      have ea : (nk.take (i + 1)).any (fun n => decide (5 < n)) = ((nk.take i).any (fun n => decide (5 < n)) || decide (5 < x + y - 1)) := by rw [et]; simp
                      generalize hbm : (nk.take i).any (fun n => decide (5 < n)) = bm at *
                      cases bm with
                      | true =>
                        simp -implicitDefEqProofs only [go_sem, simprocAttr, r18, r19, hw]
                        refine nxtL () trivial ?_
                        rw [ea, et]
                        simp -implicitDefEqProofs only [go_sem, simprocAttr, ints, List.map_append]
                      | false =>
                        simp -implicitDefEqProofs only [go_sem, simprocAttr, r18, r19, hw]
                        refine nxtL () trivial ?_
                        rw [ea, et]
                        simp -implicitDefEqProofs only [go_sem, simprocAttr, ints, List.map_append]
                    · have e1 : ((i : Int) == κ) = false := by simpa using ei
                      rw [if_neg ei] at gn
                      have et : nk.take (i + 1) = nk.take i ++ [x + y] := by rw [List.take_add_one, gn]; rfl
                      simp -implicitDefEqProofs only [go_sem, simprocAttr, r19, g53, ints_len, hi', gx, gy, wa, wb, r16κ, e1, r17]
                      refine app_gl (by simp -implicitDefEqProofs only [go_sem, simprocAttr, o124]; rfl) idx_26 (by simp -implicitDefEqProofs only [go_sem, simprocAttr]; rfl) (by simp [FV.cells]) (by simp -implicitDefEqProofs only [go_sem, simprocAttr]) (by simp [byt_3, ints]; omega) (by simp [maxLen, ints]; omega) (by simp) ?_
                      have ea : (nk.take (i + 1)).any (fun n => decide (5 < n)) = ((nk.take i).any (fun n => decide (5 < n)) || decide (5 < x + y)) := by rw [et]; simp
                      generalize hbm : (nk.take i).any (fun n => decide (5 < n)) = bm at *
                      cases bm with
                      | true =>
                        simp -implicitDefEqProofs only [go_sem, simprocAttr, r18, r19, hw]
                        refine nxtL () trivial ?_
                        rw [ea, et]
                        simp -implicitDefEqProofs only [go_sem, simprocAttr, ints, List.map_append]
                      | false =>
                        simp -implicitDefEqProofs only [go_sem, simprocAttr, r18, r19, hw]
                        refine nxtL () trivial ?_
                        rw [ea, et]
                        simp -implicitDefEqProofs only [go_sem, simprocAttr, ints, List.map_append]
            · have q1' : ¬ ((k : Int) - 1 < ((cutR N H A c W).length : Nat)) := by omega
              by_cases W0 : W = []
              · have Wz : ((((W.length : Nat) : Int)) == 0) = true := by simp [W0]
                have cz : (cutR N H A c W).sum = 0 := by rw [W0]; simp [cutR, Al.cutF]
                rw [cz] at r14
                simp -implicitDefEqProofs only [go_sem, simprocAttr, r16, ints_len, q1', r8, o31, lsF_len, Wz, r14]
                refine call1 [] false (t14) ?_
                simp -implicitDefEqProofs only [go_sem, simprocAttr]
                exact ret_fv
              · have Wp := List.length_pos_iff.2 W0
                have Wz : ((((W.length : Nat) : Int)) == 0) = false := by simp; omega
                simp -implicitDefEqProofs only [go_sem, simprocAttr, r16, ints_len, q1', r8, o31, lsF_len, Wz]
                refine W_opsD _ _ _ (Vs [[], [], [], [53]]) ?_ ?_
                · decide
                simp -implicitDefEqProofs only [go_sem, simprocAttr, o5, o6]
                refine callD [] false [.fo (.agg [.int N, sH, sA])] [] c46 ⟨rfl, trivial⟩ rfl (.inl rfl) ?_
                simp -implicitDefEqProofs only [go_sem, simprocAttr, g53]
                refine callD [53] false [.fo (.list false (ints c))] [] c17c (by simp -implicitDefEqProofs only [go_sem, simprocAttr, g53]) rfl (.inl rfl) ?_
                simp -implicitDefEqProofs only [go_sem, simprocAttr, r8, o31, lsF_len, Option.toArray_some, Option.toArray_none, List.toList_toArray, List.cons_append, List.nil_append, List.append_nil, List.all_cons, List.all_nil, Bool.and_true]
                obtain ⟨w, W', hWW⟩ : ∃ w W', W = w :: W' := by cases W with
                  | nil => exact absurd rfl W0
                  | cons w W' => exact ⟨w, W', rfl⟩
                have h1le : (1 : Int) ≤ (W.length : Nat) := by omega
                have hcells : ∀ x ∈ lsF W, x.cells.length = 1 := by
                  intro x hx
                  obtain ⟨l, _, rfl⟩ := List.mem_map.1 hx
                  rfl
                have hdr : List.drop 1 (List.take W.length (lsF W)) = lsF W' := by
                  rw [List.take_of_length_le (by rw [lsF_len]; omega), hWW]; rfl
                have W'l : W'.length ≤ 4 := by rw [hWW] at Wl; simp at Wl; omega
                have hW' : ∀ x ∈ W', WordOk N x := fun x hx => hW x (by rw [hWW]; simp [hx])
                have hWl' : ∀ l ∈ W', l.length ≤ 1000000 := fun l hl => by have := (hW' l hl).l6; omega
                have hWv' := lsV_lists W' (fun l hl => by have := hWl' l hl; omega)
                have c51' := t51 hWv' (by omega) hWl'
                have c35' := t35 vC (sc := .list false (ints c)) (c := c) rfl (by omega) hWv' (by omega)
                have eL' := errL_zero eA co hW' (by omega)
                rw [if_pos eL', eL'] at c35'
                have cutl' := cut_len eA co hW'
                rw [if_pos ⟨h1le, Int.le_refl _, hcells⟩, hdr]
                simp -implicitDefEqProofs only [go_sem, simprocAttr]
                refine call1 [] false (c51') ?_
                simp -implicitDefEqProofs only [go_sem, simprocAttr]
                refine call1 [] false (c35') ?_
                have cuN' : (((cutR N H A c W').length : Nat) : Int) = N := cutl'
                simp -implicitDefEqProofs only [go_sem, simprocAttr, ints_len]
                refine lpL (β := Unit) 209 [27, 28] 209 [] (cutR N H A c W') (by omega) (fun _ _ _ => True) (fun i _ ρ h => ρ 28 = .fv (.int i) ∧ ρ 27 = .fv (.int ((cutR N H A c W').take i).sum)) () trivial (by simp -implicitDefEqProofs only [go_sem, simprocAttr, List.take_zero, List.sum_nil]) ?_ ?_
                · rintro _ ρ6 h6 _ ⟨r28, r27⟩
                  rw [List.take_length] at r27
                  have le : (cutR N H A c W').sum ≤ (cutR N H A c W).sum := by
                    refine sum_le_of _ _ (by omega) fun k hk => ?_
                    rw [hWW]
                    exact new_less eA co (fun x hx => hW x (by rw [hWW]; exact hx)) (by omega) (by omega)
                  simp -implicitDefEqProofs only [go_sem, simprocAttr, r28, r27, ints_len, cuN', r14, le]
                  refine call1 [] false (t14) ?_
                  simp -implicitDefEqProofs only [go_sem, simprocAttr]
                  exact ret_fv
                · rintro x xs i _ ρ6 h6 hx hi hm hi' hw _ ⟨r28, r27⟩
                  obtain ⟨g0, g6, _⟩ := cut_at eA co hW' (t := (i : Int)) (by omega) (by omega)
                  have gx : gI (cutR N H A c W') (i : Nat) = x := by unfold gI; rw [List.getD_eq_getElem?_getD]; simp [hx]
                  rw [gx] at g0 g6
                  have sb := cut_sum eA co hW' i
                  have wa : IntKind.i64.wrap (((cutR N H A c W').take i).sum + x) = ((cutR N H A c W').take i).sum + x := wr _ (by omega) (by omega)
                  have gi : (ints (cutR N H A c W'))[i]? = some (.int x) := by simp [ints, hx]
                  have et : (cutR N H A c W').take (i + 1) = (cutR N H A c W').take i ++ [x] := by rw [List.take_add_one, hx]; rfl
                  simp -implicitDefEqProofs only [go_sem, simprocAttr, r28, r27, ints_len, hi', gi, wa, hw]
                  refine nxtL () trivial ?_
                  rw [et]
                  simp -implicitDefEqProofs only [go_sem, simprocAttr, sum_snoc]
          · rintro x xs i _ ρ3 h3 hx hi hm hi' hw _ ⟨r15, r14⟩
            obtain ⟨g0, g6, _⟩ := cut_at eA co hW (t := (i : Int)) (by omega) (by omega)
            have gx : gI (cutR N H A c W) (i : Nat) = x := by unfold gI; rw [List.getD_eq_getElem?_getD]; simp [hx]
            rw [gx] at g0 g6
            have p1 : ¬ x < 0 := by omega
            have p2 : ¬ 6 < x := by omega
            have sb := cut_sum eA co hW i
            have wa : IntKind.i64.wrap (((cutR N H A c W).take i).sum + x) = ((cutR N H A c W).take i).sum + x := wr _ (by omega) (by omega)
            have gi : (ints (cutR N H A c W))[i]? = some (.int x) := by simp [ints, hx]
            have et : (cutR N H A c W).take (i + 1) = (cutR N H A c W).take i ++ [x] := by rw [List.take_add_one, hx]; rfl
            simp -implicitDefEqProofs only [go_sem, simprocAttr, r15, r14, ints_len, hi', gi, p1, p2, wa, hw]
            refine nxtL () trivial ?_
            rw [et]
            simp -implicitDefEqProofs only [go_sem, simprocAttr, sum_snoc]
        · rintro x xs i _ ρ' h' hx hi hm hi' hw _ ⟨r11, g53, o53⟩
          have xb := co0.bd x hm
          have il : (i : Int) < ((halfF c0 i).length : Nat) := by rw [halfF_len]; omega
          have gx : (ints (halfF c0 i))[i]? = some (.int x) := by simp [ints, halfF_get hx]
          have wx : IntKind.i64.wrap (x.tdiv 2) = x.tdiv 2 := by rw [Int.tdiv_eq_ediv_of_nonneg xb.1]; exact wr _ (by omega) (by omega)
          simp -implicitDefEqProofs only [go_sem, simprocAttr, r11, g53, o53, ints_len, hi', halfF_len, gx, wx]
          refine sto_elem (by rfl) (by rfl) (by rfl) (by simp -implicitDefEqProofs only [go_sem, simprocAttr, g53, o53]; rfl) gx (by decide) ?_
          simp -implicitDefEqProofs only [go_sem, simprocAttr, r11, hw, FV.withCells, ints_set, halfF_set hx]
          refine nxtL () trivial ?_
          simp -implicitDefEqProofs only [go_sem, simprocAttr, g53]
    · have e6 : Bs.take k = Bs.take 4 := by rw [List.take_of_length_le (by omega), List.take_of_length_le (by omega)]
      have q1' : ¬ (k : Int) < (Bs.length : Nat) := by omega
      rw [e6] at o31
      simp -implicitDefEqProofs only [go_sem, simprocAttr, r9, lenV_ls w1, w2, q1', fs_load (n := 8) (show (cs.map u8).length = 8 by simp [l4]) (by omega)]
      refine call1 [] false (c53) ?_
      simp -implicitDefEqProofs only [go_sem, simprocAttr]
      refine lpL (β := Unit) 54 [11] 54 [53] c0 (by omega) (fun _ _ _ => True) (fun i _ ρ' h' => ρ' 11 = .fv (.int i) ∧ h'.gen 53 = h.gen 53 + 1 ∧ h'.obj 53 = some (.list 3 1 false false (ints (halfF c0 i)))) () trivial (by simp -implicitDefEqProofs only [go_sem, simprocAttr, halfF, List.take_zero, List.drop_zero, List.map_nil, List.nil_append]) ?_ ?_
      · rintro _ ρ' h' _ ⟨r11, g53, o53⟩
        have eh : halfF c0 c0.length = c0.map (·.tdiv 2) := by simp [halfF]
        rw [eh] at o53
        have hcl : (c0.map (·.tdiv 2)).length = c0.length := by simp
        rw [← hcl] at r11
        generalize c0.map (·.tdiv 2) = c at *
        generalize hWe : (Bs.take 4).map (wordF N) = W at *
        have Wl : W.length ≤ 4 := by rw [← hWe]; simp; omega
        have hW : ∀ w ∈ W, WordOk N w := by
          intro w hw
          rw [← hWe] at hw
          obtain ⟨bs, hbs, rfl⟩ := List.mem_map.1 hw
          exact wordF_ok n0 (hBb bs (List.mem_of_mem_take hbs)).1
        have cl := co.len
        have c17c := t17 (s := .list false (ints c)) (l := c) rfl (by omega)
        have hWl : ∀ l ∈ W, l.length ≤ 1000000 := fun l hl => by have := (hW l hl).l6; omega
        have hWv := lsV_lists W (fun l hl => by have := hWl l hl; omega)
        have c51 := t51 hWv (by omega) hWl
        have c35 := t35 vC (sc := .list false (ints c)) (c := c) rfl (by omega) hWv (by omega)
        have eL := errL_zero eA co hW (by omega)
        rw [if_pos eL, eL] at c35
        have cutl := cut_len eA co hW
        simp -implicitDefEqProofs only [go_sem, simprocAttr, r11, g53, o53, ints_len]
        refine call1 [] false (c46) ?_
        simp -implicitDefEqProofs only [go_sem, simprocAttr, g53]
        refine call0 [53] false c17c (by simp -implicitDefEqProofs only [go_sem, simprocAttr, g53, o53]) (.inl rfl) ?_
        simp -implicitDefEqProofs only [go_sem, simprocAttr, r8, g53, o53]
        refine call0 [31] false c51 (by simp -implicitDefEqProofs only [go_sem, simprocAttr, o31]; rfl) (.inl rfl) ?_
        simp -implicitDefEqProofs only [go_sem, simprocAttr, o31]
        refine call1 [] false (c35) ?_
        have cuN : (((cutR N H A c W).length : Nat) : Int) = N := cutl
        simp -implicitDefEqProofs only [go_sem, simprocAttr, ints_len, cuN]
        refine lpL (β := Unit) 85 [14, 15] 85 [] (cutR N H A c W) (by omega) (fun _ _ _ => True) (fun i _ ρ h => ρ 15 = .fv (.int i) ∧ ρ 14 = .fv (.int ((cutR N H A c W).take i).sum)) () trivial (by simp -implicitDefEqProofs only [go_sem, simprocAttr, List.take_zero, List.sum_nil]) ?_ ?_
        · rintro _ ρ3 h3 _ ⟨r15, r14⟩
          rw [List.take_length] at r14
          simp -implicitDefEqProofs only [go_sem, simprocAttr, r15, ints_len]
          obtain ⟨z, hz⟩ : ∃ z, z = List.zipWith (· + ·) c (cutR N H A c W) := ⟨_, rfl⟩
          have zl : z.length = c.length := by rw [hz]; simp; omega
          refine lpH 109 [16, 17, 18, 19, 20, 21, 22, 23, 24] 109 [] (fun k : Nat => c.length + 1 - k) (fun k => k ≤ c.length + 1) (fun k ρ h => ρ 16 = .fv (.int ((k : Int) - 1))) 0 (by omega) (by simp -implicitDefEqProofs only [go_sem, simprocAttr]) ?_
          rintro k ρ4 h4 hk r16
          by_cases q1 : k < c.length + 1
          · have q1' : (k : Int) - 1 < ((cutR N H A c W).length : Nat) := by omega
            have hw16 : IntKind.i64.wrap ((k : Int) - 1 + 1) = ((k + 1 : Nat) : Int) - 1 := by rw [wr _ (by omega) (by omega)]; omega
            by_cases k0 : k = 0
            · have z1 : ¬ (0 ≤ (k : Int) - 1) := by omega
              obtain ⟨nk, hnk⟩ : ∃ nk, nk = z := ⟨_, rfl⟩
              obtain ⟨κ, hκ⟩ : ∃ κ : Int, κ = (k : Int) - 1 := ⟨_, rfl⟩
              have r16κ : ρ4 16 = .fv (.int κ) := by rw [r16, hκ]
              have hwκ : IntKind.i64.wrap (κ + 1) = ((k + 1 : Nat) : Int) - 1 := by rw [hκ]; exact hw16
              have nkg : ∀ (i : Nat) (x y : Int), c[i]? = some x → (cutR N H A c W)[i]? = some y → nk[i]? = some (if (i : Int) = κ then x + y - 1 else x + y) := by
                intro i x y e1 e2
                rw [if_neg (by omega), hnk, hz, List.getElem?_zipWith, e1, e2]
              have nkl : nk.length = c.length := by rw [hnk]; exact zl
              have nk0 : ∀ n ∈ nk, 0 ≤ n := by rw [hnk, hz]; exact zip_nn (fun n hn => (co.bd n hn).1) (cut_nn eA co hW)
              have nkf : (κ < 0 ∧ ∀ w ∈ W, lackR N H A nk w = []) ∨ (0 ≤ κ ∧ ∃ w ∈ W, lackR N H A nk w ≠ []) := .inl ⟨by omega, fun w hw => by rw [hnk, hz]; exact new_fine eA co hW hw⟩
              simp -implicitDefEqProofs only [go_sem, simprocAttr, r16, ints_len, q1', z1]
              refine lpL (β := Unit) 125 [17, 18, 19, 20] 124 [] c (by omega) (fun _ _ _ => True) (fun i _ ρ h => ρ 19 = .fv (.int i) ∧ ρ 17 = .gl 124 (h.gen 124) ∧ h.obj 124 = some (.list 3 1 false false (ints (nk.take i))) ∧ ρ 18 = .fv (.bool ((nk.take i).any fun n => decide (5 < n)))) () trivial (by simp -implicitDefEqProofs only [go_sem, simprocAttr, List.take_zero, ints, List.any_nil]) ?_ ?_
              · rintro _ ρ5 h5 _ ⟨r19, r17, o124, r18⟩
                rw [List.take_of_length_le (by omega)] at o124 r18
                simp -implicitDefEqProofs only [go_sem, simprocAttr, r19, g53, ints_len]
                cases hmn : nk.any fun n => decide (5 < n) with
                | true =>
                  rw [hmn] at r18
                  refine lpH 154 [22] 154 [] (fun _ : Nat => 0) (fun _ => True) (fun _ ρ h => ρ 22 = .fv (.int 0)) 0 trivial (by simp -implicitDefEqProofs only [go_sem, simprocAttr]) ?_
                  rintro _ ρ6 h6 _ r22
                  by_cases W0 : (0 : Int) < (W.length : Nat)
                  · simp -implicitDefEqProofs only [go_sem, simprocAttr, r22, r8, o31, lsF_len, W0, r18, r16κ, hwκ]
                    refine nxt (k + 1) (by omega) (by omega) ?_
                    simp -implicitDefEqProofs only [go_sem, simprocAttr]
                  · simp -implicitDefEqProofs only [go_sem, simprocAttr, r22, r8, o31, lsF_len, W0, r18, r16κ, hwκ]
                    refine nxt (k + 1) (by omega) (by omega) ?_
                    simp -implicitDefEqProofs only [go_sem, simprocAttr]
                | false =>
                  rw [hmn] at r18
                  have cn : CountOk N nk := ⟨by rw [nkl]; exact cl, fun n hn => ⟨nk0 n hn, by have := not_any hmn hn; simp at this; omega⟩⟩
                  have c17n := t17 (s := .list false (ints nk)) (l := nk) rfl (by omega)
                  refine lpL (β := Unit) 154 [21, 22, 23, 24] 154 [124] W (by omega) (fun _ _ _ => True) (fun i _ ρ' h' => ρ' 22 = .fv (.int i) ∧ ρ' 21 = .fv (.bool ((W.take i).all fun w => decide (lackR N H A nk w = []))) ∧ h'.gen 124 = h5.gen 124 ∧ ∃ fz, h'.obj 124 = some (.list 3 1 fz false (ints nk))) () trivial (by simp -implicitDefEqProofs only [go_sem, simprocAttr, List.take_zero, List.all_nil, o124]; exact ⟨_, rfl⟩) ?_ ?_
                  · rintro _ ρ6 h6 _ ⟨r22, r21, _⟩
                    rw [List.take_length] at r21
                    rcases nkf with ⟨kz, hall⟩ | ⟨kz, w, hw, hne⟩
                    · have ha : (W.all fun w => decide (lackR N H A nk w = [])) = true := List.all_eq_true.2 fun w hw => by simpa using hall w hw
                      rw [ha] at r21
                      simp -implicitDefEqProofs only [go_sem, simprocAttr, r22, r8, o31, lsF_len, r18, r21, r16κ, kz, eqB, hwκ]
                      refine nxt (k + 1) (by omega) (by omega) ?_
                      simp -implicitDefEqProofs only [go_sem, simprocAttr]
                    · have ha : (W.all fun w => decide (lackR N H A nk w = [])) = false := by
                        rw [List.all_eq_false]; exact ⟨w, hw, by simpa using hne⟩
                      rw [ha] at r21
                      have kz' : ¬ κ < 0 := by omega
                      simp -implicitDefEqProofs only [go_sem, simprocAttr, r22, r8, o31, lsF_len, r18, r21, r16κ, kz', eqB, hwκ]
                      refine nxt (k + 1) (by omega) (by omega) ?_
                      simp -implicitDefEqProofs only [go_sem, simprocAttr]
                  · rintro w ws i _ ρ6 h6 hx hi hm hi' hw _ ⟨r22, r21, g124, fz, o124'⟩
                    have wok := hW w hm
                    have w6 := wok.l6
                    have gw : (lsF W)[i]? = some (.list false (ints w)) := by simp [lsF, hx]
                    have c17w := t17 (s := .list false (ints w)) (l := w) rfl (by omega)
                    have c29 := t29 vC (sc := .list false (ints nk)) (c := nk) rfl (by omega) (sw := .list false (ints w)) (w := w) rfl (by omega)
                    have eL' := errL_zero eA cn (W := [w]) (by simpa using wok) (by simp)
                    have e29 : errLay N H A nk w = if lackR N H A nk w = [] then 0 else 7 := by simp [errLay, eL']
                    rw [e29] at c29
                    have et : (W.take (i + 1)).all (fun w => decide (lackR N H A nk w = [])) = ((W.take i).all (fun w => decide (lackR N H A nk w = [])) && decide (lackR N H A nk w = [])) := by rw [List.take_add_one, hx]; simp
                    simp -implicitDefEqProofs only [go_sem, simprocAttr, r22, r8, o31, lsF_len, r18, hi']
                    refine W_opsD _ _ _ (Vs [[], [], [], [124]]) ?_ ?_
                    · decide
                    simp -implicitDefEqProofs only [go_sem, simprocAttr, o5, o6]
                    refine callD [] false [.fo (.agg [.int N, sH, sA])] [] c46 ⟨rfl, trivial⟩ rfl (.inl rfl) ?_
                    simp -implicitDefEqProofs only [go_sem, simprocAttr, r17]
                    refine callD [124] false [.fo (.list false (ints nk))] [] c17n (by simp -implicitDefEqProofs only [go_sem, simprocAttr, g124, o124']) rfl (.inl rfl) ?_
                    simp -implicitDefEqProofs only [go_sem, simprocAttr, r22, r8, o31, lsF_len, hi', gw, o124']
                    refine call1 [] false (c17w) ?_
                    generalize hbm : (W.take i).all (fun w => decide (lackR N H A nk w = [])) = bm at *
                    by_cases e : lackR N H A nk w = []
                    · rw [if_pos e] at c29
                      have ed : decide (lackR N H A nk w = []) = true := by simpa using e
                      rw [ed] at et
                      simp -implicitDefEqProofs only [go_sem, simprocAttr]
                      refine call1 [] false (c29) ?_
                      cases bm with
                      | true =>
                        simp -implicitDefEqProofs only [go_sem, simprocAttr, r21, r22, hw]
                        refine nxtL () trivial ?_
                        rw [et]
                        simp -implicitDefEqProofs only [go_sem, simprocAttr, g124]
                        exact ⟨_, rfl⟩
                      | false =>
                        simp -implicitDefEqProofs only [go_sem, simprocAttr, r21, r22, hw]
                        refine nxtL () trivial ?_
                        rw [et]
                        simp -implicitDefEqProofs only [go_sem, simprocAttr, g124]
                        exact ⟨_, rfl⟩
                    · rw [if_neg e] at c29
                      have ed : decide (lackR N H A nk w = []) = false := by simpa using e
                      rw [ed] at et
                      simp -implicitDefEqProofs only [go_sem, simprocAttr]
                      refine call1 [] false (c29) ?_
                      cases bm with
                      | true =>
                        simp -implicitDefEqProofs only [go_sem, simprocAttr, r21, r22, hw]
                        refine nxtL () trivial ?_
                        rw [et]
                        simp -implicitDefEqProofs only [go_sem, simprocAttr, g124]
                        exact ⟨_, rfl⟩
                      | false =>
                        simp -implicitDefEqProofs only [go_sem, simprocAttr, r21, r22, hw]
                        refine nxtL () trivial ?_
                        rw [et]
                        simp -implicitDefEqProofs only [go_sem, simprocAttr, g124]
                        exact ⟨_, rfl⟩
              · rintro x xs i _ ρ5 h5 hx hi hm hi' hw _ ⟨r19, r17, o124, r18⟩
                obtain ⟨y, hy⟩ : ∃ y, (cutR N H A c W)[i]? = some y := ⟨_, List.getElem?_eq_getElem (by omega)⟩
                have xb := co.bd x hm
                obtain ⟨u0, u6, _⟩ := cut_at eA co hW (t := (i : Int)) (by omega) (by omega)
                have uy : gI (cutR N H A c W) (i : Nat) = y := by unfold gI; rw [List.getD_eq_getElem?_getD]; simp [hy]
                rw [uy] at u0 u6
                have gx : (ints c)[i]? = some (.int x) := by simp [ints, hx]
                have gy : (ints (cutR N H A c W))[i]? = some (.int y) := by simp [ints, hy]
                have wa : IntKind.i64.wrap (x + y) = x + y := wr _ (by omega) (by omega)
                have wb : IntKind.i64.wrap (x + y - 1) = x + y - 1 := wr _ (by omega) (by omega)
                have gn := nkg i x y hx hy
                have lenn : (nk.take i).length ≤ 8 := by simp; omega
                by_cases ei : (i : Int) = κ
                · have e1 : ((i : Int) == κ) = true := by simpa using ei
                  rw [if_pos ei] at gn
                  have et : nk.take (i + 1) = nk.take i ++ [x + y - 1] := by rw [List.take_add_one, gn]; rfl
                  simp -implicitDefEqProofs only [go_sem, simprocAttr, r19, g53, ints_len, hi', gx, gy, wa, wb, r16κ, e1, r17]
                  refine app_gl (by simp -implicitDefEqProofs only [go_sem, simprocAttr, o124]; rfl) idx_26 (by simp -implicitDefEqProofs only [go_sem, simprocAttr]; rfl) (by simp [FV.cells]) (by simp -implicitDefEqProofs only [go_sem, simprocAttr]) (by simp [byt_3, ints]; omega) (by simp [maxLen, ints]; omega) (by simp) ?_
                  have ea : (nk.take (i + 1)).any (fun n => decide (5 < n)) = ((nk.take i).any (fun n => decide (5 < n)) || decide (5 < x + y - 1)) := by rw [et]; simp
                  generalize hbm : (nk.take i).any (fun n => decide (5 < n)) = bm at *
                  cases bm with
                  | true =>
                    simp -implicitDefEqProofs only [go_sem, simprocAttr, r18, r19, hw]
                    refine nxtL () trivial ?_
                    rw [ea, et]
                    simp -implicitDefEqProofs only [go_sem, simprocAttr, ints, List.map_append]
                  | false =>
                    simp -implicitDefEqProofs only [go_sem, simprocAttr, r18, r19, hw]
                    refine nxtL () trivial ?_
                    rw [ea, et]
                    simp -implicitDefEqProofs only [go_sem, simprocAttr, ints, List.map_append]
                · have e1 : ((i : Int) == κ) = false := by simpa using ei
                  rw [if_neg ei] at gn
                  have et : nk.take (i + 1) = nk.take i ++ [x + y] := by rw [List.take_add_one, gn]; rfl
                  simp -implicitDefEqProofs only [go_sem, simprocAttr, r19, g53, ints_len, hi', gx, gy, wa, wb, r16κ, e1, r17]
                  refine app_gl (by simp -implicitDefEqProofs only [go_sem, simprocAttr, o124]; rfl) idx_26 (by simp -implicitDefEqProofs only [go_sem, simprocAttr]; rfl) (by simp [FV.cells]) (by simp -implicitDefEqProofs only [go_sem, simprocAttr]) (by simp [byt_3, ints]; omega) (by simp [maxLen, ints]; omega) (by simp) ?_
                  have ea : (nk.take (i + 1)).any (fun n => decide (5 < n)) = ((nk.take i).any (fun n => decide (5 < n)) || decide (5 < x + y)) := by rw [et]; simp
                  generalize hbm : (nk.take i).any (fun n => decide (5 < n)) = bm at *
                  cases bm with
                  | true =>
                    simp -implicitDefEqProofs only [go_sem, simprocAttr, r18, r19, hw]
                    refine nxtL () trivial ?_
                    rw [ea, et]
                    simp -implicitDefEqProofs only [go_sem, simprocAttr, ints, List.map_append]
                  | false =>
                    simp -implicitDefEqProofs only [go_sem, simprocAttr, r18, r19, hw]
                    refine nxtL () trivial ?_
                    rw [ea, et]
                    simp -implicitDefEqProofs only [go_sem, simprocAttr, ints, List.map_append]
            · obtain ⟨m, rfl⟩ : ∃ m, k = m + 1 := ⟨k - 1, by omega⟩
              have r16m : ρ4 16 = .fv (.int (m : Int)) := by rw [r16]; congr 2; omega
              obtain ⟨y, hy⟩ : ∃ y, (cutR N H A c W)[m]? = some y := ⟨_, List.getElem?_eq_getElem (by omega)⟩
              have gy : (ints (cutR N H A c W))[m]? = some (.int y) := by simp [ints, hy]
              have mlt : (m : Int) < ((cutR N H A c W).length : Nat) := by omega
              have hwm : IntKind.i64.wrap ((m : Int) + 1) = ((m + 1 + 1 : Nat) : Int) - 1 := by rw [wr _ (by omega) (by omega)]; omega
              by_cases y0 : y = 0
              · have e0 : (y == 0) = true := by simpa using y0
                simp -implicitDefEqProofs only [go_sem, simprocAttr, r16m, ints_len, mlt, gy, e0]
                simp -implicitDefEqProofs only [go_sem, simprocAttr, r16m, hwm]
                refine nxt (m + 1 + 1) (by omega) (by omega) ?_
                simp -implicitDefEqProofs only [go_sem, simprocAttr]
              · have e0 : (y == 0) = false := by simpa using y0
                obtain ⟨nk, hnk⟩ : ∃ nk, nk = addAt z (m : Nat) (-1) := ⟨_, rfl⟩
                obtain ⟨κ, hκ⟩ : ∃ κ : Int, κ = (m : Int) := ⟨_, rfl⟩
                have r16κ : ρ4 16 = .fv (.int κ) := by rw [r16m, hκ]
                have hwκ : IntKind.i64.wrap (κ + 1) = ((m + 1 + 1 : Nat) : Int) - 1 := by rw [hκ]; exact hwm
                obtain ⟨v0, _⟩ := cut_at eA co hW (t := (m : Int)) (by omega) (by omega)
                have vy : gI (cutR N H A c W) (m : Nat) = y := by unfold gI; rw [List.getD_eq_getElem?_getD]; simp [hy]
                have nkg : ∀ (i : Nat) (x y : Int), c[i]? = some x → (cutR N H A c W)[i]? = some y → nk[i]? = some (if (i : Int) = κ then x + y - 1 else x + y) := by
                  intro i x y e1 e2
                  have ez : z[i]? = some (x + y) := by rw [hz, List.getElem?_zipWith, e1, e2]
                  rw [hnk]
                  unfold addAt
                  rw [Int.toNat_natCast]
                  by_cases e : i = m
                  · subst e
                    rw [List.getElem?_set_self (by omega), if_pos hκ.symm, List.getD_eq_getElem?_getD, ez]; rfl
                  · rw [List.getElem?_set_ne (by omega), if_neg (by omega), ez]
                have nkl : nk.length = c.length := by rw [hnk, addAt_len]; exact zl
                have nk0 : ∀ n ∈ nk, 0 ≤ n := by
                  obtain ⟨x, hx⟩ : ∃ x, c[m]? = some x := ⟨_, List.getElem?_eq_getElem (by omega)⟩
                  have x0 := (co.bd x (List.mem_of_getElem? hx)).1
                  have ez : z[m]? = some (x + y) := by rw [hz, List.getElem?_zipWith, hx, hy]
                  rw [hnk]
                  exact addAt_nn (by rw [hz]; exact zip_nn (fun n hn => (co.bd n hn).1) (cut_nn eA co hW)) ez (by omega)
                have nkf : (κ < 0 ∧ ∀ w ∈ W, lackR N H A nk w = []) ∨ (0 ≤ κ ∧ ∃ w ∈ W, lackR N H A nk w ≠ []) := by
                  refine .inr ⟨by omega, ?_⟩
                  rw [hnk, hz]
                  exact new_short eA co hW (by omega) (by omega)
                simp -implicitDefEqProofs only [go_sem, simprocAttr, r16m, ints_len, mlt, gy, e0]
                refine lpL (β := Unit) 125 [17, 18, 19, 20] 124 [] c (by omega) (fun _ _ _ => True) (fun i _ ρ h => ρ 19 = .fv (.int i) ∧ ρ 17 = .gl 124 (h.gen 124) ∧ h.obj 124 = some (.list 3 1 false false (ints (nk.take i))) ∧ ρ 18 = .fv (.bool ((nk.take i).any fun n => decide (5 < n)))) () trivial (by simp -implicitDefEqProofs only [go_sem, simprocAttr, List.take_zero, ints, List.any_nil]) ?_ ?_
                · rintro _ ρ5 h5 _ ⟨r19, r17, o124, r18⟩
                  rw [List.take_of_length_le (by omega)] at o124 r18
                  simp -implicitDefEqProofs only [go_sem, simprocAttr, r19, g53, ints_len]
                  cases hmn : nk.any fun n => decide (5 < n) with
                  | true =>
                    rw [hmn] at r18
                    refine lpH 154 [22] 154 [] (fun _ : Nat => 0) (fun _ => True) (fun _ ρ h => ρ 22 = .fv (.int 0)) 0 trivial (by simp -implicitDefEqProofs only [go_sem, simprocAttr]) ?_
                    rintro _ ρ6 h6 _ r22
                    by_cases W0 : (0 : Int) < (W.length : Nat)
                    · simp -implicitDefEqProofs only [go_sem, simprocAttr, r22, r8, o31, lsF_len, W0, r18, r16κ, hwκ]
                      refine nxt (m + 1 + 1) (by omega) (by omega) ?_
                      simp -implicitDefEqProofs only [go_sem, simprocAttr]
                    · simp -implicitDefEqProofs only [go_sem, simprocAttr, r22, r8, o31, lsF_len, W0, r18, r16κ, hwκ]
                      refine nxt (m + 1 + 1) (by omega) (by omega) ?_
                      simp -implicitDefEqProofs only [go_sem, simprocAttr]
                  | false =>
                    rw [hmn] at r18
                    have cn : CountOk N nk := ⟨by rw [nkl]; exact cl, fun n hn => ⟨nk0 n hn, by have := not_any hmn hn; simp at this; omega⟩⟩
                    have c17n := t17 (s := .list false (ints nk)) (l := nk) rfl (by omega)
                    refine lpL (β := Unit) 154 [21, 22, 23, 24] 154 [124] W (by omega) (fun _ _ _ => True) (fun i _ ρ' h' => ρ' 22 = .fv (.int i) ∧ ρ' 21 = .fv (.bool ((W.take i).all fun w => decide (lackR N H A nk w = []))) ∧ h'.gen 124 = h5.gen 124 ∧ ∃ fz, h'.obj 124 = some (.list 3 1 fz false (ints nk))) () trivial (by simp -implicitDefEqProofs only [go_sem, simprocAttr, List.take_zero, List.all_nil, o124]; exact ⟨_, rfl⟩) ?_ ?_
                    · rintro _ ρ6 h6 _ ⟨r22, r21, _⟩
                      rw [List.take_length] at r21
                      rcases nkf with ⟨kz, hall⟩ | ⟨kz, w, hw, hne⟩
                      · have ha : (W.all fun w => decide (lackR N H A nk w = [])) = true := List.all_eq_true.2 fun w hw => by simpa using hall w hw
                        rw [ha] at r21
                        simp -implicitDefEqProofs only [go_sem, simprocAttr, r22, r8, o31, lsF_len, r18, r21, r16κ, kz, eqB, hwκ]
                        refine nxt (m + 1 + 1) (by omega) (by omega) ?_
                        simp -implicitDefEqProofs only [go_sem, simprocAttr]
                      · have ha : (W.all fun w => decide (lackR N H A nk w = [])) = false := by
                          rw [List.all_eq_false]; exact ⟨w, hw, by simpa using hne⟩
                        rw [ha] at r21
                        have kz' : ¬ κ < 0 := by omega
                        simp -implicitDefEqProofs only [go_sem, simprocAttr, r22, r8, o31, lsF_len, r18, r21, r16κ, kz', eqB, hwκ]
                        refine nxt (m + 1 + 1) (by omega) (by omega) ?_
                        simp -implicitDefEqProofs only [go_sem, simprocAttr]
                    · rintro w ws i _ ρ6 h6 hx hi hm hi' hw _ ⟨r22, r21, g124, fz, o124'⟩
                      have wok := hW w hm
                      have w6 := wok.l6
                      have gw : (lsF W)[i]? = some (.list false (ints w)) := by simp [lsF, hx]
                      have c17w := t17 (s := .list false (ints w)) (l := w) rfl (by omega)
                      have c29 := t29 vC (sc := .list false (ints nk)) (c := nk) rfl (by omega) (sw := .list false (ints w)) (w := w) rfl (by omega)
                      have eL' := errL_zero eA cn (W := [w]) (by simpa using wok) (by simp)
                      have e29 : errLay N H A nk w = if lackR N H A nk w = [] then 0 else 7 := by simp [errLay, eL']
                      rw [e29] at c29
                      have et : (W.take (i + 1)).all (fun w => decide (lackR N H A nk w = [])) = ((W.take i).all (fun w => decide (lackR N H A nk w = [])) && decide (lackR N H A nk w = [])) := by rw [List.take_add_one, hx]; simp
                      simp -implicitDefEqProofs only [go_sem, simprocAttr, r22, r8, o31, lsF_len, r18, hi']
                      refine W_opsD _ _ _ (Vs [[], [], [], [124]]) ?_ ?_
                      · decide
                      simp -implicitDefEqProofs only [go_sem, simprocAttr, o5, o6]
                      refine callD [] false [.fo (.agg [.int N, sH, sA])] [] c46 ⟨rfl, trivial⟩ rfl (.inl rfl) ?_
                      simp -implicitDefEqProofs only [go_sem, simprocAttr, r17]
                      refine callD [124] false [.fo (.list false (ints nk))] [] c17n (by simp -implicitDefEqProofs only [go_sem, simprocAttr, g124, o124']) rfl (.inl rfl) ?_
                      simp -implicitDefEqProofs only [go_sem, simprocAttr, r22, r8, o31, lsF_len, hi', gw, o124']
                      refine call1 [] false (c17w) ?_
                      generalize hbm : (W.take i).all (fun w => decide (lackR N H A nk w = [])) = bm at *
                      by_cases e : lackR N H A nk w = []
                      · rw [if_pos e] at c29
                        have ed : decide (lackR N H A nk w = []) = true := by simpa using e
                        rw [ed] at et
                        simp -implicitDefEqProofs only [go_sem, simprocAttr]
                        refine call1 [] false (c29) ?_
                        cases bm with
                        | true =>
                          simp -implicitDefEqProofs only [go_sem, simprocAttr, r21, r22, hw]
                          refine nxtL () trivial ?_
                          rw [et]
                          simp -implicitDefEqProofs only [go_sem, simprocAttr, g124]
                          exact ⟨_, rfl⟩
                        | false =>
                          simp -implicitDefEqProofs only [go_sem, simprocAttr, r21, r22, hw]
                          refine nxtL () trivial ?_
                          rw [et]
                          simp -implicitDefEqProofs only [go_sem, simprocAttr, g124]
                          exact ⟨_, rfl⟩
                      · rw [if_neg e] at c29
                        have ed : decide (lackR N H A nk w = []) = false := by simpa using e
                        rw [ed] at et
                        simp -implicitDefEqProofs only [go_sem, simprocAttr]
                        refine call1 [] false (c29) ?_
                        cases bm with
                        | true =>
                          simp -implicitDefEqProofs only [go_sem, simprocAttr, r21, r22, hw]
                          refine nxtL () trivial ?_
                          rw [et]
                          simp -implicitDefEqProofs only [go_sem, simprocAttr, g124]
                          exact ⟨_, rfl⟩
                        | false =>
                          simp -implicitDefEqProofs only [go_sem, simprocAttr, r21, r22, hw]
                          refine nxtL () trivial ?_
                          rw [et]
                          simp -implicitDefEqProofs only [go_sem, simprocAttr, g124]
                          exact ⟨_, rfl⟩
                · rintro x xs i _ ρ5 h5 hx hi hm hi' hw _ ⟨r19, r17, o124, r18⟩
                  obtain ⟨y, hy⟩ : ∃ y, (cutR N H A c W)[i]? = some y := ⟨_, List.getElem?_eq_getElem (by omega)⟩
                  have xb := co.bd x hm
                  obtain ⟨u0, u6, _⟩ := cut_at eA co hW (t := (i : Int)) (by omega) (by omega)
                  have uy : gI (cutR N H A c W) (i : Nat) = y := by unfold gI; rw [List.getD_eq_getElem?_getD]; simp [hy]
                  rw [uy] at u0 u6
                  have gx : (ints c)[i]? = some (.int x) := by simp [ints, hx]
                  have gy : (ints (cutR N H A c W))[i]? = some (.int y) := by simp [ints, hy]
                  have wa : IntKind.i64.wrap (x + y) = x + y := wr _ (by omega) (by omega)
                  have wb : IntKind.i64.wrap (x + y - 1) = x + y - 1 := wr _ (by omega) (by omega)
                  have gn := nkg i x y hx hy
                  have lenn : (nk.take i).length ≤ 8 := by simp; omega
                  by_cases ei : (i : Int) = κ
                  · have e1 : ((i : Int) == κ) = true := by simpa using ei
                    rw [if_pos ei] at gn
                    have et : nk.take (i + 1) = nk.take i ++ [x + y - 1] := by rw [List.take_add_one, gn]; rfl
                    simp -implicitDefEqProofs only [go_sem, simprocAttr, r19, g53, ints_len, hi', gx, gy, wa, wb, r16κ, e1, r17]
                    refine app_gl (by simp -implicitDefEqProofs only [go_sem, simprocAttr, o124]; rfl) idx_26 (by simp -implicitDefEqProofs only [go_sem, simprocAttr]; rfl) (by simp [FV.cells]) (by simp -implicitDefEqProofs only [go_sem, simprocAttr]) (by simp [byt_3, ints]; omega) (by simp [maxLen, ints]; omega) (by simp) ?_
                    have ea : (nk.take (i + 1)).any (fun n => decide (5 < n)) = ((nk.take i).any (fun n => decide (5 < n)) || decide (5 < x + y - 1)) := by rw [et]; simp
                    generalize hbm : (nk.take i).any (fun n => decide (5 < n)) = bm at *
                    cases bm with
                    | true =>
                      simp -implicitDefEqProofs only [go_sem, simprocAttr, r18, r19, hw]
                      refine nxtL () trivial ?_
                      rw [ea, et]
                      simp -implicitDefEqProofs only [go_sem, simprocAttr, ints, List.map_append]
                    | false =>
                      simp -implicitDefEqProofs only [go_sem, simprocAttr, r18, r19, hw]
                      refine nxtL () trivial ?_
                      rw [ea, et]
                      simp -implicitDefEqProofs only [go_sem, simprocAttr, ints, List.map_append]
                  · have e1 : ((i : Int) == κ) = false := by simpa using ei
                    rw [if_neg ei] at gn
                    have et : nk.take (i + 1) = nk.take i ++ [x + y] := by rw [List.take_add_one, gn]; rfl
                    simp -implicitDefEqProofs only [go_sem, simprocAttr, r19, g53, ints_len, hi', gx, gy, wa, wb, r16κ, e1, r17]
                    refine app_gl (by simp -implicitDefEqProofs only [go_sem, simprocAttr, o124]; rfl) idx_26 (by simp -implicitDefEqProofs only [go_sem, simprocAttr]; rfl) (by simp [FV.cells]) (by simp -implicitDefEqProofs only [go_sem, simprocAttr]) (by simp [byt_3, ints]; omega) (by simp [maxLen, ints]; omega) (by simp) ?_
                    have ea : (nk.take (i + 1)).any (fun n => decide (5 < n)) = ((nk.take i).any (fun n => decide (5 < n)) || decide (5 < x + y)) := by rw [et]; simp
                    generalize hbm : (nk.take i).any (fun n => decide (5 < n)) = bm at *
                    cases bm with
                    | true =>
                      simp -implicitDefEqProofs only [go_sem, simprocAttr, r18, r19, hw]
                      refine nxtL () trivial ?_
                      rw [ea, et]
                      simp -implicitDefEqProofs only [go_sem, simprocAttr, ints, List.map_append]
                    | false =>
                      simp -implicitDefEqProofs only [go_sem, simprocAttr, r18, r19, hw]
                      refine nxtL () trivial ?_
                      rw [ea, et]
                      simp -implicitDefEqProofs only [go_sem, simprocAttr, ints, List.map_append]
          · have q1' : ¬ ((k : Int) - 1 < ((cutR N H A c W).length : Nat)) := by omega
            by_cases W0 : W = []
            · have Wz : ((((W.length : Nat) : Int)) == 0) = true := by simp [W0]
              have cz : (cutR N H A c W).sum = 0 := by rw [W0]; simp [cutR, Al.cutF]
              rw [cz] at r14
              simp -implicitDefEqProofs only [go_sem, simprocAttr, r16, ints_len, q1', r8, o31, lsF_len, Wz, r14]
              refine call1 [] false (t14) ?_
              simp -implicitDefEqProofs only [go_sem, simprocAttr]
              exact ret_fv
            · have Wp := List.length_pos_iff.2 W0
              have Wz : ((((W.length : Nat) : Int)) == 0) = false := by simp; omega
              simp -implicitDefEqProofs only [go_sem, simprocAttr, r16, ints_len, q1', r8, o31, lsF_len, Wz]
              refine W_opsD _ _ _ (Vs [[], [], [], [53]]) ?_ ?_
              · decide
              simp -implicitDefEqProofs only [go_sem, simprocAttr, o5, o6]
              refine callD [] false [.fo (.agg [.int N, sH, sA])] [] c46 ⟨rfl, trivial⟩ rfl (.inl rfl) ?_
              simp -implicitDefEqProofs only [go_sem, simprocAttr, g53]
              refine callD [53] false [.fo (.list false (ints c))] [] c17c (by simp -implicitDefEqProofs only [go_sem, simprocAttr, g53]) rfl (.inl rfl) ?_
              simp -implicitDefEqProofs only [go_sem, simprocAttr, r8, o31, lsF_len, Option.toArray_some, Option.toArray_none, List.toList_toArray, List.cons_append, List.nil_append, List.append_nil, List.all_cons, List.all_nil, Bool.and_true]
              obtain ⟨w, W', hWW⟩ : ∃ w W', W = w :: W' := by cases W with
                | nil => exact absurd rfl W0
                | cons w W' => exact ⟨w, W', rfl⟩
              have h1le : (1 : Int) ≤ (W.length : Nat) := by omega
              have hcells : ∀ x ∈ lsF W, x.cells.length = 1 := by
                intro x hx
                obtain ⟨l, _, rfl⟩ := List.mem_map.1 hx
                rfl
              have hdr : List.drop 1 (List.take W.length (lsF W)) = lsF W' := by
                rw [List.take_of_length_le (by rw [lsF_len]; omega), hWW]; rfl
              have W'l : W'.length ≤ 4 := by rw [hWW] at Wl; simp at Wl; omega
              have hW' : ∀ x ∈ W', WordOk N x := fun x hx => hW x (by rw [hWW]; simp [hx])
              have hWl' : ∀ l ∈ W', l.length ≤ 1000000 := fun l hl => by have := (hW' l hl).l6; omega
              have hWv' := lsV_lists W' (fun l hl => by have := hWl' l hl; omega)
              have c51' := t51 hWv' (by omega) hWl'
              have c35' := t35 vC (sc := .list false (ints c)) (c := c) rfl (by omega) hWv' (by omega)
              have eL' := errL_zero eA co hW' (by omega)
              rw [if_pos eL', eL'] at c35'
              have cutl' := cut_len eA co hW'
              rw [if_pos ⟨h1le, Int.le_refl _, hcells⟩, hdr]
              simp -implicitDefEqProofs only [go_sem, simprocAttr]
              refine call1 [] false (c51') ?_
              simp -implicitDefEqProofs only [go_sem, simprocAttr]
              refine call1 [] false (c35') ?_
              have cuN' : (((cutR N H A c W').length : Nat) : Int) = N := cutl'
              simp -implicitDefEqProofs only [go_sem, simprocAttr, ints_len]
              refine lpL (β := Unit) 209 [27, 28] 209 [] (cutR N H A c W') (by omega) (fun _ _ _ => True) (fun i _ ρ h => ρ 28 = .fv (.int i) ∧ ρ 27 = .fv (.int ((cutR N H A c W').take i).sum)) () trivial (by simp -implicitDefEqProofs only [go_sem, simprocAttr, List.take_zero, List.sum_nil]) ?_ ?_
              · rintro _ ρ6 h6 _ ⟨r28, r27⟩
                rw [List.take_length] at r27
                have le : (cutR N H A c W').sum ≤ (cutR N H A c W).sum := by
                  refine sum_le_of _ _ (by omega) fun k hk => ?_
                  rw [hWW]
                  exact new_less eA co (fun x hx => hW x (by rw [hWW]; exact hx)) (by omega) (by omega)
                simp -implicitDefEqProofs only [go_sem, simprocAttr, r28, r27, ints_len, cuN', r14, le]
                refine call1 [] false (t14) ?_
                simp -implicitDefEqProofs only [go_sem, simprocAttr]
                exact ret_fv
              · rintro x xs i _ ρ6 h6 hx hi hm hi' hw _ ⟨r28, r27⟩
                obtain ⟨g0, g6, _⟩ := cut_at eA co hW' (t := (i : Int)) (by omega) (by omega)
                have gx : gI (cutR N H A c W') (i : Nat) = x := by unfold gI; rw [List.getD_eq_getElem?_getD]; simp [hx]
                rw [gx] at g0 g6
                have sb := cut_sum eA co hW' i
                have wa : IntKind.i64.wrap (((cutR N H A c W').take i).sum + x) = ((cutR N H A c W').take i).sum + x := wr _ (by omega) (by omega)
                have gi : (ints (cutR N H A c W'))[i]? = some (.int x) := by simp [ints, hx]
                have et : (cutR N H A c W').take (i + 1) = (cutR N H A c W').take i ++ [x] := by rw [List.take_add_one, hx]; rfl
                simp -implicitDefEqProofs only [go_sem, simprocAttr, r28, r27, ints_len, hi', gi, wa, hw]
                refine nxtL () trivial ?_
                rw [et]
                simp -implicitDefEqProofs only [go_sem, simprocAttr, sum_snoc]
        · rintro x xs i _ ρ3 h3 hx hi hm hi' hw _ ⟨r15, r14⟩
          obtain ⟨g0, g6, _⟩ := cut_at eA co hW (t := (i : Int)) (by omega) (by omega)
          have gx : gI (cutR N H A c W) (i : Nat) = x := by unfold gI; rw [List.getD_eq_getElem?_getD]; simp [hx]
          rw [gx] at g0 g6
          have p1 : ¬ x < 0 := by omega
          have p2 : ¬ 6 < x := by omega
          have sb := cut_sum eA co hW i
          have wa : IntKind.i64.wrap (((cutR N H A c W).take i).sum + x) = ((cutR N H A c W).take i).sum + x := wr _ (by omega) (by omega)
          have gi : (ints (cutR N H A c W))[i]? = some (.int x) := by simp [ints, hx]
          have et : (cutR N H A c W).take (i + 1) = (cutR N H A c W).take i ++ [x] := by rw [List.take_add_one, hx]; rfl
          simp -implicitDefEqProofs only [go_sem, simprocAttr, r15, r14, ints_len, hi', gi, p1, p2, wa, hw]
          refine nxtL () trivial ?_
          rw [et]
          simp -implicitDefEqProofs only [go_sem, simprocAttr, sum_snoc]
      · rintro x xs i _ ρ' h' hx hi hm hi' hw _ ⟨r11, g53, o53⟩
        have xb := co0.bd x hm
        have il : (i : Int) < ((halfF c0 i).length : Nat) := by rw [halfF_len]; omega
        have gx : (ints (halfF c0 i))[i]? = some (.int x) := by simp [ints, halfF_get hx]
        have wx : IntKind.i64.wrap (x.tdiv 2) = x.tdiv 2 := by rw [Int.tdiv_eq_ediv_of_nonneg xb.1]; exact wr _ (by omega) (by omega)
        simp -implicitDefEqProofs only [go_sem, simprocAttr, r11, g53, o53, ints_len, hi', halfF_len, gx, wx]
        refine sto_elem (by rfl) (by rfl) (by rfl) (by simp -implicitDefEqProofs only [go_sem, simprocAttr, g53, o53]; rfl) gx (by decide) ?_
        simp -implicitDefEqProofs only [go_sem, simprocAttr, r11, hw, FV.withCells, ints_set, halfF_set hx]
        refine nxtL () trivial ?_
        simp -implicitDefEqProofs only [go_sem, simprocAttr, g53]
end S07

