/- A part of the proof: H07g. -/
import Derived.Test.YtmanbdacloeioaaP07h
import Derived.Test.YtmanbdacloeioaaH07z
import Derived.Test.YtmanbdacloeioaaC07ld0
set_option linter.unusedVariables false
set_option linter.unusedSimpArgs false
set_option maxRecDepth 20000
namespace S07
open Go Abs
theorem and_one8 (a : Int) (a0 : 0 ≤ a) (a1 : a < 256) : binV .and (.int .u8 a) (.int .u8 1) = some (.int .u8 (a % 2)) := by
  have h1 : (BitVec.ofInt 8 a &&& BitVec.ofInt 8 1).toNat = (a % 2).toNat := by
    rw [BitVec.toNat_and, BitVec.toNat_ofInt, BitVec.toNat_ofInt]
    have : ((1 : Int) % ((2 ^ 8 : Nat) : Int)).toNat = 1 := by decide
    rw [this, Nat.and_one_is_mod]
    have h2 : 0 ≤ a % ((2 ^ 8 : Nat) : Int) := Int.emod_nonneg _ (by decide)
    have h3 : a % ((2 ^ 8 : Nat) : Int) % 2 = a % 2 := Int.emod_emod_of_dvd a (by decide)
    omega
  show (if IntKind.u8 = IntKind.u8 then some (Value.int .u8 (IntKind.u8.wrap ((BitVec.ofInt 8 a &&& BitVec.ofInt 8 1).toNat : Nat))) else none) = _
  rw [if_pos rfl, h1]
  congr 2
  unfold IntKind.wrap
  simp [IntKind.signed, IntKind.bits]
  omega
def fl8 (Bs : List (List Int)) : List FV := Bs.flatMap fun b => b.map u8
theorem fl8_len : ∀ (Bs : List (List Int)), (∀ b ∈ Bs, b.length = 8) → (fl8 Bs).length = Bs.length * 8
  | [], _ => rfl
  | b :: Bs, h => by
    have := fl8_len Bs fun x hx => h x (by simp [hx])
    have hb := h b (by simp)
    simp only [fl8, List.flatMap_cons, List.length_append, List.length_map, List.length_cons] at this ⊢
    omega
theorem fl8_part : ∀ (Bs : List (List Int)), (∀ b ∈ Bs, b.length = 8) → ∀ (i : Nat) (b : List Int), Bs[i]? = some b → ((fl8 Bs).drop (i * 8)).take 8 = b.map u8
  | [], _, _, _, h => by simp at h
  | a :: Bs, h, 0, b, hi => by
    simp at hi; subst hi
    have ha := h a (by simp)
    simp [fl8, ha]
  | a :: Bs, h, i + 1, b, hi => by
    have ha := h a (by simp)
    have := fl8_part Bs (fun x hx => h x (by simp [hx])) i b (by simpa using hi)
    simp only [fl8, List.flatMap_cons] at this ⊢
    rw [show (i + 1) * 8 = (a.map u8).length + i * 8 by simp [ha]; omega, ← List.drop_drop, List.drop_left]
    exact this
theorem fl8_load {Bs : List (List Int)} (h : ∀ b ∈ Bs, b.length = 8) {i : Nat} {b : List Int} (hi : Bs[i]? = some b) : partL true 8 (((fl8 Bs).map LV.fv).drop (i * 8)) = some (.fv (.agg (b.map u8))) := by
  have hl := (List.getElem?_eq_some_iff.1 hi).1
  have := fl8_part Bs h i b hi
  have hb := h b (List.mem_of_getElem? hi)
  have hlen := fl8_len Bs h
  have e : ((fl8 Bs).drop (i * 8)) = b.map u8 ++ (fl8 Bs).drop (i * 8 + 8) := by
    rw [← this, ← List.drop_drop, List.take_append_drop]
  rw [← List.map_drop, e, List.map_append]
  have := fs_load (fs := b.map u8) (n := 8) (by simp [hb]) (by omega)
  cases hq : (b.map u8).map LV.fv with
  | nil => simp at hq; rw [hq] at hb; simp at hb
  | cons x xs =>
    rw [hq] at this
    have hxl : (x :: xs).length = 8 := by rw [← hq]; simp [hb]
    rw [List.cons_append]
    simp only [partL_agg] at this ⊢
    rw [if_pos (by omega)] at this
    rw [if_pos (by simp only [List.length_cons, List.length_append] at hxl ⊢; omega)]
    rw [show (x :: (xs ++ ((fl8 Bs).drop (i * 8 + 8)).map LV.fv)) = (x :: xs) ++ ((fl8 Bs).drop (i * 8 + 8)).map LV.fv from rfl, List.take_append_of_le_length (by omega)]
    exact this
theorem min2_int (a b : Int) : min2V (.int .i64 a) (.int .i64 b) = some (.int .i64 (min a b)) := by
  show some (Value.int .i64 (if b < a then b else a)) = _
  congr 2
  split <;> omega
set_option maxHeartbeats 4000000 in
theorem t11 {b : Int} {hs as_ : FV} {hl al : List (Int × Int)} {Bs : List (List Int)} {V : List Int} (b0 : 0 ≤ b) (b1 : b < 256) (h1 : lsOf hs = some (hl.map pU)) (h2 : lsOf as_ = some (al.map pU)) (hb : BB hl) (ab : BB al) (l1 : hl.length ≤ 9223372036854775807) (l2 : al.length ≤ 9223372036854775807)
    (B4 : Bs.length = 4) (B8 : ∀ x ∈ Bs, x.length = 8) (Bb : ∀ x ∈ Bs, ∀ n ∈ x, 0 ≤ n ∧ n < 256) (Vl : V.length = 10) (Vb : ∀ n ∈ V, 0 ≤ n ∧ n < 256) :
    Fn Q 11 [.fo (.agg [u8 b, hs, as_]), .fo (.agg (fl8 Bs)), .fo (.agg (V.map u8))] (.one (.fx (.bool true))) := by
  have c42 := t42 b0 b1 h1 h2 hb ab l1 l2
  have v := made_v (hl := hl) (al := al) b0
  have eA := made_ok b0 hb ab
  obtain ⟨n0, n8⟩ := madeN_bd b0
  have o1 := ls_one h1
  have o2 := ls_one h2
  have o3 : ((fl8 Bs).map LV.fv).all LV.one = true := by
    simp only [fl8, List.all_eq_true, List.mem_map, List.mem_flatMap]
    rintro x ⟨y, ⟨z, _, w, _, rfl⟩, rfl⟩; rfl
  have o4 : ∀ V : List Int, ((V.map u8).map LV.fv).all LV.one = true := fun V => by simp [u8, LV.one, FV.one]
  have o8 : ∀ w : Int, (LV.fv (u8 w)).one = true := fun _ => rfl
  have o7 : (LV.fv (u8 b)).one = true := rfl
  have f32 : (fl8 Bs).length = 32 := by rw [fl8_len Bs B8, B4]
  generalize madeN b = N at *
  generalize (madeH N hl).1 = H at *
  generalize madeA N al = A at *
  obtain ⟨lH, lA⟩ := errA_len eA
  have o5 := lstN_one (H.map pF)
  have o6 := lstN_one (A.map pF)
  generalize lstN (H.map pF) = sH at *
  generalize lstN (A.map pF) = sA at *
  have eV := v.eq
  have vC := setC_v (N := N) (H := H) (A := A) (by omega) (by omega)
  have c46 := t46 v (by omega) (by omega)
  have c53 := fun (bs : List Int) (h : ∀ x ∈ bs, 0 ≤ x ∧ x < 256) (h' : bs.length = 8) => t53o v n0 n8 h h'
  rw [eV] at c42 c46 c53
  obtain ⟨w0, w1, V', rfl⟩ : ∃ w0 w1 V', V = w0 :: w1 :: V' := by
    match V, Vl with
    | w0 :: w1 :: V', _ => exact ⟨w0, w1, V', rfl⟩
  have V'l : V'.length = 8 := by simpa using Vl
  have hw0 := Vb w0 (by simp)
  have hw1 := Vb w1 (by simp)
  have wr0 : IntKind.i64.wrap w0 = w0 := wr _ (by omega) (by omega)
  obtain ⟨many, hmany⟩ : ∃ many : Nat, 1 + w0.tmod 4 = (many : Int) ∧ 1 ≤ many ∧ many ≤ 4 := by
    rw [Int.tmod_eq_emod_of_nonneg hw0.1]
    exact ⟨(1 + w0 % 4).toNat, by omega, by omega, by omega⟩
  obtain ⟨hm1, m1, m4⟩ := hmany
  have wr1 : IntKind.i64.wrap (1 + w0.tmod 4) = (many : Int) := by rw [hm1]; exact wr _ (by omega) (by omega)
  refine fn_intro Go.Proofs.Try.func11 rfl (by kernel_rfl) mix (k11 0) (Nat.le_of_ble_eq_true (by kernel_rfl)) ?_
  refine Abs.walk ?_
  unfold c11 sop
  simp -implicitDefEqProofs only [go_sem, simprocAttr, o1, o2, o3, o4, V'l, o8, f32]
  refine call1 [] false (c42) ?_
  simp -implicitDefEqProofs only [go_sem, simprocAttr, o5, o6]
  simp -implicitDefEqProofs only [go_sem, simprocAttr, wr0, wr1, u8]
  refine lpH 40 [8, 10] 40 [34] (fun k : Nat => many - k) (fun k => k ≤ many) (fun k ρ h => ρ 10 = .fv (.int k) ∧ ρ 8 = .gl 34 (h.gen 34) ∧ h.obj 34 = some (.list 26 1 false false (lsF ((Bs.take k).map (countF N))))) 0 (by omega) ?_ ?_
  · simp -implicitDefEqProofs only [go_sem, simprocAttr, List.take_zero, lsF]
  · rintro k ρ h hk ⟨r10, r8, o34⟩
    by_cases q1 : k < many
    · have q1' : (k : Int) < (many : Nat) := by omega
      obtain ⟨bs, hbs⟩ : ∃ bs, Bs[k]? = some bs := ⟨_, List.getElem?_eq_getElem (by omega)⟩
      have hbm := List.mem_of_getElem? hbs
      have k4 : (k : Int) < 4 := by omega
      have hw : IntKind.i64.wrap ((k : Int) + 1) = ((k + 1 : Nat) : Int) := wr _ (by omega) (by omega)
      have et : Bs.take (k + 1) = Bs.take k ++ [bs] := by rw [List.take_add_one, hbs]; rfl
      simp -implicitDefEqProofs only [go_sem, simprocAttr, r10, r8, q1', k4, o5, o6, fl8_load B8 hbs]
      refine call1 [] false (c53 bs (Bb bs hbm) (B8 bs hbm)) ?_
      simp -implicitDefEqProofs only [go_sem, simprocAttr, r8]
      refine app_gl (by simp -implicitDefEqProofs only [go_sem, simprocAttr, o34]; rfl) idx_25 (by simp -implicitDefEqProofs only [go_sem, simprocAttr]; rfl) (by simp [FV.cells]) (by simp -implicitDefEqProofs only [go_sem, simprocAttr]) (by simp [byt_26, lsF]; omega) (by simp [maxLen, lsF]; omega) (by simp) ?_
      simp -implicitDefEqProofs only [go_sem, simprocAttr, r10, hw]
      refine nxt (k + 1) (by omega) (by omega) ?_
      simp -implicitDefEqProofs only [go_sem, simprocAttr, et, lsF, ints, List.map_append]
    · obtain rfl : k = many := by omega
      have q1' : ¬ (k : Int) < (k : Nat) := by omega
      generalize hWe : (Bs.take k).map (countF N) = W at *
      have Wl : W.length = k := by rw [← hWe]; simp; omega
      have hW : ∀ w ∈ W, CountOk N w := by
        intro w hw
        rw [← hWe] at hw
        obtain ⟨bs, hbs, rfl⟩ := List.mem_map.1 hw
        have hbm := List.mem_of_mem_take hbs
        exact countF_ok n0 n8 (Bb bs hbm) (B8 bs hbm)
      have eN : ((N.toNat : Nat) : Int) = N := by omega
      simp -implicitDefEqProofs only [go_sem, simprocAttr, r10, r8, q1']
      refine ⟨by omega, by omega, by omega, ?_⟩
      refine lpH 57 [12, 14, 15] 57 [55, 56] (fun m : List Bool => k - m.length) (fun m => m.length ≤ k ∧ (m.length = k → idxT 0 m ≠ []) ∧ (sumS (W.take m.length) m (List.replicate N.toNat 0)).length = N.toNat ∧ ∀ n ∈ sumS (W.take m.length) m (List.replicate N.toNat 0), 0 ≤ n ∧ n ≤ 5 * m.length)
        (fun m ρ' h' => ρ' 14 = .fv (.int m.length) ∧ ρ' 12 = .gl 56 (h'.gen 56) ∧ h'.gen 55 = h.gen 55 + 1 ∧ h'.obj 56 = some (.list 3 1 false false (ints (idxT 0 m))) ∧ h'.obj 55 = some (.list 3 1 false false (ints (sumS (W.take m.length) m (List.replicate N.toNat 0))))) [] ⟨by simp, fun h => by simp at h; omega, by simp [sumS], fun n hn => by simp [sumS] at hn; omega⟩ ?_ ?_
      · simp -implicitDefEqProofs only [go_sem, simprocAttr, idxT, sumS, ← rep_ints]
        exact ⟨rfl, rfl⟩
      · rintro m ρ2 h2 ⟨ml, mne, sl, sb⟩ ⟨r14, r12, g55, o56, o55⟩
        by_cases q2 : m.length < k
        · have q2' : (m.length : Int) < (k : Nat) := by omega
          obtain ⟨x, hx⟩ : ∃ x, W[m.length]? = some x := ⟨_, List.getElem?_eq_getElem (by omega)⟩
          have hxm := List.mem_of_getElem? hx
          have xo := hW x hxm
          have hw : IntKind.i64.wrap ((m.length : Int) + 1) = ((m.length + 1 : Nat) : Int) := wr _ (by omega) (by omega)
          have hwu : IntKind.u64.wrap (m.length : Int) = (m.length : Int) := by
            unfold IntKind.wrap
            simp [IntKind.signed, IntKind.bits]
            omega
          have hwk : IntKind.i64.wrap ((k : Int) - 1) = (k : Int) - 1 := wr _ (by omega) (by omega)
          have et : W.take (m.length + 1) = W.take m.length ++ [x] := by rw [List.take_add_one, hx]; rfl
          have hn0 : ¬ ((m.length : Int) < 0) := by omega
          have e8 : min m.length 8 = m.length := by omega
          obtain ⟨p, hp⟩ : ∃ p, w1 / 2 ^ m.length = p := ⟨_, rfl⟩
          have d0 : 0 ≤ p := by rw [← hp]; exact Int.ediv_nonneg hw1.1 (Int.pow_nonneg (by decide))
          have d1 : p < 256 := by
            have := Int.ediv_le_self (2 ^ m.length) hw1.1
            omega
          have hand := and_one8 _ d0 d1
          have s1 := fun b => sumS_snoc (W.take m.length) m x b (List.replicate N.toNat 0) (by simp; omega)
          have s2 := fun b => idxT_snoc 0 m b
          simp only [Nat.zero_add] at s2
          generalize hS : sumS (W.take m.length) m (List.replicate N.toNat 0) = S at *
          have xl : (x.length : Int) = N := xo.len
          have il : (idxT 0 m).length ≤ m.length := by rw [idxT_len]; exact List.length_filter_le _ _
          by_cases hq : p % 2 = 1
          · have hq' : (p % 2 == 1) = true := by simpa using hq
            simp -implicitDefEqProofs only [go_sem, simprocAttr, r14, r12, q2', hwu, u8, hn0, e8, hp, ↓hand, hq']
            refine app_gl (by simp -implicitDefEqProofs only [go_sem, simprocAttr, o56]; rfl) idx_26 (by simp -implicitDefEqProofs only [go_sem, simprocAttr]; rfl) (by simp [FV.cells]) (by simp -implicitDefEqProofs only [go_sem, simprocAttr]) (by simp [byt_3, ints]; omega) (by simp [maxLen, ints]; omega) (by simp) ?_
            simp -implicitDefEqProofs only [go_sem, simprocAttr]
            have Sl : S.length = x.length := by omega
            have S0 : ∀ n ∈ S, 0 ≤ n ∧ n ≤ 20 := fun n hn => by have := sb n hn; omega
            refine lpL (β := Unit) 84 [15] 84 [55] x (by omega) (fun _ _ _ => True) (fun j _ ρ' h' => ρ' 15 = .fv (.int j) ∧ h'.gen 55 = h.gen 55 + 1 ∧ h'.obj 55 = some (.list 3 1 false false (ints (addI (x.take j) 0 S)))) () trivial (by simp -implicitDefEqProofs only [go_sem, simprocAttr, List.take_zero, addI, g55, o55]) ?_ ?_
            · rintro _ ρ3 h3 _ ⟨r15, g55', o55'⟩
              rw [List.take_length] at o55'
              simp -implicitDefEqProofs only [go_sem, simprocAttr, r15, r14, hw, xl]
              have hS' : sumS (W.take (m ++ [true]).length) (m ++ [true]) (List.replicate N.toNat 0) = addI x 0 S := by rw [List.length_append, show [true].length = 1 from rfl, et, s1]; rfl
              have hT : idxT 0 (m ++ [true]) = idxT 0 m ++ [(m.length : Int)] := by rw [s2]; simp
              refine nxt (m ++ [true]) (by simp; omega) ⟨by simp; omega, ?_, by rw [hS', addI_len]; exact sl, fun n hn => ?_⟩ ?_
              · intro hh
                rw [hT]; simp
              · rw [hS'] at hn
                have := addI_le x x.length S (by omega) xo.bd sb (by omega) n (by rw [List.take_length]; exact hn)
                simp; omega
              · rw [hS', hT]
                simp -implicitDefEqProofs only [go_sem, simprocAttr, List.length_append, ints, List.map_append, g55', o55']
            · rintro y ys j _ ρ3 h3 hy hj hym hj' hwj _ ⟨r15, g55', o55'⟩
              have yb := xo.bd y hym
              have jl : j < (addI (x.take j) 0 S).length := by rw [addI_len]; omega
              have ab := addI_le x j S (by omega) xo.bd S0 (by omega) _ (gI_mem jl)
              have ga : (ints (addI (x.take j) 0 S))[j]? = some (.int (gI (addI (x.take j) 0 S) (j : Nat))) := by
                have := ints_get (l := addI (x.take j) 0 S) (i := (j : Int)) (by omega) (by omega)
                simpa using this
              have gy : (ints x)[j]? = some (.int y) := by simp [ints, hy]
              have gx : (lsF W)[m.length]? = some (.list false (ints x)) := by simp [lsF, hx]
              have jN : (j : Int) < N := by omega
              have mW : (m.length : Int) < (W.length : Nat) := by omega
              have wa : IntKind.i64.wrap (gI (addI (x.take j) 0 S) (j : Nat) + y) = gI (addI (x.take j) 0 S) (j : Nat) + y := wr _ (by omega) (by omega)
              have ea : addI (x.take (j + 1)) 0 S = (addI (x.take j) 0 S).set j (gI (addI (x.take j) 0 S) (j : Nat) + y) := by
                have e1 : x.take (j + 1) = x.take j ++ [y] := by rw [List.take_add_one, hy]; rfl
                have e2 : 0 + (x.take j).length = j := by simp; omega
                rw [e1, addI_snoc, e2]
              have jl' : (j : Int) < ((addI (x.take j) 0 S).length : Nat) := by omega
              have xl' : (j : Int) < (x.length : Nat) := by omega
              simp -implicitDefEqProofs only [go_sem, simprocAttr, r15, jN, g55, g55', o55', ints_len, jl', ga, r14, r8, o34, lsF_len, mW, gx, xl', gy, wa]
              refine sto_elem (by rfl) (by rfl) (by rfl) (by simp -implicitDefEqProofs only [go_sem, simprocAttr, g55', o55']; rfl) ga (by decide) ?_
              simp -implicitDefEqProofs only [go_sem, simprocAttr, r15, hwj, FV.withCells, ints_set]
              refine nxtL () trivial ?_
              rw [ea]
              simp -implicitDefEqProofs only [go_sem, simprocAttr, g55']
          · have hq' : (p % 2 == 1) = false := by simpa using hq
            by_cases hk1 : (m.length : Int) = (k : Int) - 1
            · have hk1' : ((m.length : Int) == (k : Int) - 1) = true := by simpa using hk1
              by_cases he : idxT 0 m = []
              · have he' : ((((idxT 0 m).length : Nat) : Int) == 0) = true := by simp [he]
                simp -implicitDefEqProofs only [go_sem, simprocAttr, r14, r12, o56, ints_len, q2', hwu, u8, hn0, e8, hp, ↓hand, hq', hk1', hwk, he']
                refine app_gl (by simp -implicitDefEqProofs only [go_sem, simprocAttr, o56]; rfl) idx_26 (by simp -implicitDefEqProofs only [go_sem, simprocAttr]; rfl) (by simp [FV.cells]) (by simp -implicitDefEqProofs only [go_sem, simprocAttr]) (by simp [byt_3, ints]; omega) (by simp [maxLen, ints]; omega) (by simp) ?_
                simp -implicitDefEqProofs only [go_sem, simprocAttr]
                have Sl : S.length = x.length := by omega
                have S0 : ∀ n ∈ S, 0 ≤ n ∧ n ≤ 20 := fun n hn => by have := sb n hn; omega
                refine lpL (β := Unit) 84 [15] 84 [55] x (by omega) (fun _ _ _ => True) (fun j _ ρ' h' => ρ' 15 = .fv (.int j) ∧ h'.gen 55 = h.gen 55 + 1 ∧ h'.obj 55 = some (.list 3 1 false false (ints (addI (x.take j) 0 S)))) () trivial (by simp -implicitDefEqProofs only [go_sem, simprocAttr, List.take_zero, addI, g55, o55]) ?_ ?_
                · rintro _ ρ3 h3 _ ⟨r15, g55', o55'⟩
                  rw [List.take_length] at o55'
                  simp -implicitDefEqProofs only [go_sem, simprocAttr, r15, r14, hw, xl]
                  have hS' : sumS (W.take (m ++ [true]).length) (m ++ [true]) (List.replicate N.toNat 0) = addI x 0 S := by rw [List.length_append, show [true].length = 1 from rfl, et, s1]; rfl
                  have hT : idxT 0 (m ++ [true]) = idxT 0 m ++ [(m.length : Int)] := by rw [s2]; simp
                  refine nxt (m ++ [true]) (by simp; omega) ⟨by simp; omega, ?_, by rw [hS', addI_len]; exact sl, fun n hn => ?_⟩ ?_
                  · intro hh
                    rw [hT]; simp
                  · rw [hS'] at hn
                    have := addI_le x x.length S (by omega) xo.bd sb (by omega) n (by rw [List.take_length]; exact hn)
                    simp; omega
                  · rw [hS', hT]
                    simp -implicitDefEqProofs only [go_sem, simprocAttr, List.length_append, ints, List.map_append, g55', o55']
                · rintro y ys j _ ρ3 h3 hy hj hym hj' hwj _ ⟨r15, g55', o55'⟩
                  have yb := xo.bd y hym
                  have jl : j < (addI (x.take j) 0 S).length := by rw [addI_len]; omega
                  have ab := addI_le x j S (by omega) xo.bd S0 (by omega) _ (gI_mem jl)
                  have ga : (ints (addI (x.take j) 0 S))[j]? = some (.int (gI (addI (x.take j) 0 S) (j : Nat))) := by
                    have := ints_get (l := addI (x.take j) 0 S) (i := (j : Int)) (by omega) (by omega)
                    simpa using this
                  have gy : (ints x)[j]? = some (.int y) := by simp [ints, hy]
                  have gx : (lsF W)[m.length]? = some (.list false (ints x)) := by simp [lsF, hx]
                  have jN : (j : Int) < N := by omega
                  have mW : (m.length : Int) < (W.length : Nat) := by omega
                  have wa : IntKind.i64.wrap (gI (addI (x.take j) 0 S) (j : Nat) + y) = gI (addI (x.take j) 0 S) (j : Nat) + y := wr _ (by omega) (by omega)
                  have ea : addI (x.take (j + 1)) 0 S = (addI (x.take j) 0 S).set j (gI (addI (x.take j) 0 S) (j : Nat) + y) := by
                    have e1 : x.take (j + 1) = x.take j ++ [y] := by rw [List.take_add_one, hy]; rfl
                    have e2 : 0 + (x.take j).length = j := by simp; omega
                    rw [e1, addI_snoc, e2]
                  have jl' : (j : Int) < ((addI (x.take j) 0 S).length : Nat) := by omega
                  have xl' : (j : Int) < (x.length : Nat) := by omega
                  simp -implicitDefEqProofs only [go_sem, simprocAttr, r15, jN, g55, g55', o55', ints_len, jl', ga, r14, r8, o34, lsF_len, mW, gx, xl', gy, wa]
                  refine sto_elem (by rfl) (by rfl) (by rfl) (by simp -implicitDefEqProofs only [go_sem, simprocAttr, g55', o55']; rfl) ga (by decide) ?_
                  simp -implicitDefEqProofs only [go_sem, simprocAttr, r15, hwj, FV.withCells, ints_set]
                  refine nxtL () trivial ?_
                  rw [ea]
                  simp -implicitDefEqProofs only [go_sem, simprocAttr, g55']
              · have he' : ((((idxT 0 m).length : Nat) : Int) == 0) = false := by
                  have := List.length_pos_iff.2 he
                  simp; omega
                simp -implicitDefEqProofs only [go_sem, simprocAttr, r14, r12, o56, ints_len, q2', hwu, u8, hn0, e8, hp, ↓hand, hq', hk1', hwk, he']
                simp -implicitDefEqProofs only [go_sem, simprocAttr, r14, hw]
                have hS' : sumS (W.take (m ++ [false]).length) (m ++ [false]) (List.replicate N.toNat 0) = S := by rw [List.length_append, show [false].length = 1 from rfl, et, s1]; rfl
                have hT : idxT 0 (m ++ [false]) = idxT 0 m := by rw [s2]; simp
                refine nxt (m ++ [false]) (by simp; omega) ⟨by simp; omega, ?_, by rw [hS']; exact sl, fun n hn => ?_⟩ ?_
                · intro hh
                  rw [hT]
                  exact he
                · rw [hS'] at hn
                  have := sb n hn
                  simp; omega
                · rw [hS', hT]
                  simp -implicitDefEqProofs only [go_sem, simprocAttr, List.length_append]
                  exact ⟨r12, g55, o56, o55⟩
            · have hk1' : ((m.length : Int) == (k : Int) - 1) = false := by simpa using hk1
              simp -implicitDefEqProofs only [go_sem, simprocAttr, r14, r12, o56, ints_len, q2', hwu, u8, hn0, e8, hp, ↓hand, hq', hk1', hwk]
              simp -implicitDefEqProofs only [go_sem, simprocAttr, r14, hw]
              have hS' : sumS (W.take (m ++ [false]).length) (m ++ [false]) (List.replicate N.toNat 0) = S := by rw [List.length_append, show [false].length = 1 from rfl, et, s1]; rfl
              have hT : idxT 0 (m ++ [false]) = idxT 0 m := by rw [s2]; simp
              refine nxt (m ++ [false]) (by simp; omega) ⟨by simp; omega, ?_, by rw [hS']; exact sl, fun n hn => ?_⟩ ?_
              · intro hh
                rw [hT]
                exact absurd (by simp at hh; omega) hk1
              · rw [hS'] at hn
                have := sb n hn
                simp; omega
              · rw [hS', hT]
                simp -implicitDefEqProofs only [go_sem, simprocAttr, List.length_append]
                exact ⟨r12, g55, o56, o55⟩
        · have mk : m.length = k := by omega
          have q2' : ¬ (m.length : Int) < (k : Nat) := by omega
          have mne' := mne mk
          have eW : W.take m.length = W := List.take_of_length_le (by omega)
          rw [eW] at sl sb o55
          have bW : m.length = W.length := by omega
          obtain ⟨z, hz⟩ : ∃ z, z = List.replicate N.toNat (0 : Int) := ⟨_, rfl⟩
          have hin := fun hp lost => own_in (N := N) (W := W) (hp := hp) (lost := lost) (bs := m) bW mne'
          generalize hS : sumS W m (List.replicate N.toNat 0) = S at *
          have S0 : ∀ n ∈ S, 0 ≤ n ∧ n ≤ 20 := fun n hn => by have := sb n hn; omega
          have il : (idxT 0 m).length ≤ 4 := by
            have : (idxT 0 m).length ≤ m.length := by rw [idxT_len]; exact List.length_filter_le _ _
            omega
          have op := List.length_pos_iff.2 mne'
          generalize idxT 0 m = ow at *
          simp -implicitDefEqProofs only [go_sem, simprocAttr, r14, q2']
          refine lpH 103 [13, 16, 17] 103 [55] (fun a : Nat × List Int × Int => N.toNat - a.1) (fun a => a.1 ≤ N.toNat ∧ Off N.toNat S a.2.1 a.2.2 a.1) (fun a ρ' h' => ρ' 16 = .fv (.int a.1) ∧ ρ' 13 = .fv (.int a.2.2) ∧ h'.gen 55 = h.gen 55 + 1 ∧ h'.obj 55 = some (.list 3 1 false false (ints a.2.1))) (0, S, 0) ⟨by omega, off_start sl fun n hn => (S0 n hn).1⟩ (by simp -implicitDefEqProofs only [go_sem, simprocAttr, g55, o55]) ?_
          rintro ⟨j, hp, lost⟩ ρ3 h3 ⟨hj, off⟩ ⟨r16, r13, g55', o55'⟩
          dsimp only at hj off r16 r13 o55'
          obtain ⟨ho1, ho2, ho3, ho4, ho5⟩ := off
          by_cases q3 : j < N.toNat
          · have jN : (j : Int) < N := by omega
            obtain ⟨y, hy⟩ : ∃ y, V'[j]? = some y := ⟨_, List.getElem?_eq_getElem (by omega)⟩
            have yb := Vb y (by simp [List.mem_of_getElem? hy])
            have hg : partL false 1 (List.drop j (List.map LV.fv (List.map u8 V'))) = some (.fv (u8 y)) := partL_get (by simp [hy])
            have wy : IntKind.i64.wrap y = y := wr _ (by omega) (by omega)
            have w2 : IntKind.i64.wrap (2 + (j : Int)) = ((j + 2 : Nat) : Int) := by rw [wr _ (by omega) (by omega)]; omega
            have j10 : ((j + 2 : Nat) : Int) < 10 := by omega
            have hwj : IntKind.i64.wrap ((j : Int) + 1) = ((j + 1 : Nat) : Int) := wr _ (by omega) (by omega)
            obtain ⟨t, ht, t0, t2⟩ : ∃ t, y.tmod 3 = t ∧ 0 ≤ t ∧ t ≤ 2 := by
              refine ⟨_, rfl, ?_⟩
              rw [Int.tmod_eq_emod_of_nonneg yb.1]; omega
            have hpj := ho3 j q3
            have Sj := S0 (gI S (j : Nat)) (gI_mem (by omega))
            have jl : (j : Int) < (hp.length : Nat) := by omega
            have ga : (ints hp)[j]? = some (.int (gI hp (j : Nat))) := by
              have := ints_get (l := hp) (i := (j : Int)) (by omega) (by omega)
              simpa using this
            have wl : IntKind.i64.wrap (lost + t) = lost + t := wr _ (by omega) (by omega)
            have ws : IntKind.i64.wrap (gI hp (j : Nat) - t) = gI hp (j : Nat) - t := wr _ (by omega) (by omega)
            by_cases c1 : t ≤ gI hp (j : Nat)
            · by_cases c2 : lost + t ≤ 12
              · simp -implicitDefEqProofs only [go_sem, simprocAttr, r16, r13, jN, w2, j10, u8, hg, wy, ht, g55, g55', o55', ints_len, jl, ga, c1, wl, c2, ws]
                refine sto_elem (by rfl) (by rfl) (by rfl) (by simp -implicitDefEqProofs only [go_sem, simprocAttr, g55', o55']; rfl) ga (by decide) ?_
                simp -implicitDefEqProofs only [go_sem, simprocAttr, r16, hwj, FV.withCells, ints_set]
                refine nxt (j + 1, hp.set j (gI hp (j : Nat) - t), lost + t) (by simp only; omega) ⟨by simp only; omega, off_step ⟨ho1, ho2, ho3, ho4, ho5⟩ q3 t0 c1 c2⟩ ?_
                simp -implicitDefEqProofs only [go_sem, simprocAttr, g55']
              · simp -implicitDefEqProofs only [go_sem, simprocAttr, r16, r13, jN, w2, j10, u8, hg, wy, ht, g55, g55', o55', ints_len, jl, ga, c1, wl, c2]
                simp -implicitDefEqProofs only [go_sem, simprocAttr, r16, hwj]
                refine nxt (j + 1, hp, lost) (by simp only; omega) ⟨by simp only; omega, ⟨ho1, ho2, ho3, ho4, ho5⟩⟩ ?_
                simp -implicitDefEqProofs only [go_sem, simprocAttr, r13, g55', o55']
            · simp -implicitDefEqProofs only [go_sem, simprocAttr, r16, r13, jN, w2, j10, u8, hg, wy, ht, g55, g55', o55', ints_len, jl, ga, c1]
              simp -implicitDefEqProofs only [go_sem, simprocAttr, r16, hwj]
              refine nxt (j + 1, hp, lost) (by simp only; omega) ⟨by simp only; omega, ⟨ho1, ho2, ho3, ho4, ho5⟩⟩ ?_
              simp -implicitDefEqProofs only [go_sem, simprocAttr, r13, g55', o55']
          · obtain rfl : j = N.toNat := by omega
            have q3' : ¬ ((N.toNat : Nat) : Int) < N := by omega
            have hpl : (hp.length : Int) = N := by omega
            have hp20 : ∀ n ∈ hp, 0 ≤ n ∧ n ≤ 20 := by
              intro n hn
              obtain ⟨i, hi, rfl⟩ := mem_gI hn
              have := ho3 i (by omega)
              have := S0 (gI S (i : Nat)) (gI_mem (by omega))
              omega
            have eH := own_err eA (hp := hp) (lost := lost) (by omega) hW hpl hp20 ho5.1 (by omega)
            have eH' := own_err eA (hp := hp) (lost := lost + 1) (by omega) hW hpl hp20 (by omega) (by omega)
            have oin := hin hp lost ⟨ho1, ho2, ho3, ho4, ho5⟩
            have LLo := own_LL (N := N) (W := W) (hp := hp) (lost := lost) (by omega)
            have Lle : (whoseR N W hp lost).length ≤ (whoseR N W hp (lost + 1)).length := loopG_more _ _ _ _ _ _
            have L15 := whose_len (N := N) (W := W) (c := hp) (lost := lost) (by omega)
            have Lmem : ∀ r ∈ whoseR N W hp lost, ∀ n ∈ r, n < (k : Nat) := fun r hr n hn => by
              have := (loopG_mem hp lost W [] _ 0 (by simp) (by simp) r hr).1 n hn
              omega
            have Llen : ∀ r ∈ whoseR N W hp lost, r.length ≤ 4 := fun r hr => by
              have := (loopG_mem hp lost W [] _ 0 (by simp) (by simp) r hr).2
              omega
            have eW0 : errW N H A W hp lost = 0 := by unfold errW; rw [if_neg (by simpa using eH), if_neg (List.ne_nil_of_mem oin)]
            have eW1 : errW N H A W hp (lost + 1) = 0 := by
              unfold errW
              rw [if_neg (by simpa using eH'), if_neg]
              intro e
              rw [e, List.length_nil] at Lle
              have := List.length_pos_iff.2 (List.ne_nil_of_mem oin)
              omega
            have hWl : ∀ l ∈ W, l.length ≤ 1000000 := fun l hl => by have := (hW l hl).len; omega
            have hWv := lsV_lists W (fun l hl => by have := hWl l hl; omega)
            have c51 := t51 hWv (by omega) hWl
            have c17 := t17 (s := .list false (ints hp)) (l := hp) rfl (by omega)
            have c37 := t37 (lost := lost) vC (sc := .list false (ints hp)) (c := hp) rfl (by omega) hWv (by omega)
            have c37' := t37 (lost := lost + 1) vC (sc := .list false (ints hp)) (c := hp) rfl (by omega) hWv (by omega)
            have c38 := t38 (lost := lost) vC (sc := .list false (ints hp)) (c := hp) rfl (by omega) hWv (by omega)
            rw [if_pos eW0, eW0] at c37
            rw [if_pos eW1, eW1] at c37'
            rw [if_pos eW0, if_pos eW0, eW0] at c38
            have hsS := lsOf_lstN (ints (mixS (whoseR N W hp lost)))
            have hsP := lsOf_lstN (ints (mixP (whoseR N W hp lost)))
            have hsL := lsOf_lstN (lsF (whoseR N W hp lost))
            have hsM := lsOf_lstN (lsF (whoseR N W hp (lost + 1)))
            generalize lstN (ints (mixS (whoseR N W hp lost))) = sS at *
            generalize lstN (ints (mixP (whoseR N W hp lost))) = sP at *
            generalize lstN (lsF (whoseR N W hp lost)) = sL at *
            generalize lstN (lsF (whoseR N W hp (lost + 1))) = sM at *
            have siff := fun x => sur_iff LLo x
            have piff := fun x => pos_iff LLo x
            have Sl : (mixS (whoseR N W hp lost)).length ≤ 1000000 := by have := (mix_len (whoseR N W hp lost)).1; omega
            have Pl : (mixP (whoseR N W hp lost)).length ≤ 1000000 := by have := (mix_len (whoseR N W hp lost)).2; omega
            generalize mixS (whoseR N W hp lost) = MS at *
            generalize mixP (whoseR N W hp lost) = MP at *
            have Lle' : ¬ (((whoseR N W hp (lost + 1)).length : Nat) : Int) < ((whoseR N W hp lost).length : Nat) := by omega
            generalize whoseR N W hp (lost + 1) = L' at *
            generalize whoseR N W hp lost = L at *
            have wl1 : IntKind.i64.wrap (lost + 1) = lost + 1 := wr _ (by omega) (by omega)
            simp -implicitDefEqProofs only [go_sem, simprocAttr, r16, q3']
            refine call1 [] false (c46) ?_
            simp -implicitDefEqProofs only [go_sem, simprocAttr, r8, o34]
            refine call0 [34] false c51 (by simp -implicitDefEqProofs only [go_sem, simprocAttr, o34]; rfl) (.inl rfl) ?_
            simp -implicitDefEqProofs only [go_sem, simprocAttr, g55, g55', o55', o34]
            refine call0 [55] false c17 (by simp -implicitDefEqProofs only [go_sem, simprocAttr, g55', o55', o34]) (.inl rfl) ?_
            simp -implicitDefEqProofs only [go_sem, simprocAttr, r13, g55', o55']
            refine call1 [] false (c37) ?_
            simp -implicitDefEqProofs only [go_sem, simprocAttr, r8]
            refine call1 [] false (c46) ?_
            simp -implicitDefEqProofs only [go_sem, simprocAttr, r8]
            refine call0 [] false c51 (by simp -implicitDefEqProofs only [go_sem, simprocAttr, r8, o34, lsV]) (.inl rfl) ?_
            simp -implicitDefEqProofs only [go_sem, simprocAttr]
            refine call0 [] false c17 (by simp -implicitDefEqProofs only [go_sem, simprocAttr, g55']) (.inl rfl) ?_
            simp -implicitDefEqProofs only [go_sem, simprocAttr, r13]
            refine call1 [] false (c38) ?_
            simp -implicitDefEqProofs only [go_sem, simprocAttr, r8]
            refine call1 [] false (c46) ?_
            simp -implicitDefEqProofs only [go_sem, simprocAttr]
            refine call0 [] false c51 (by simp -implicitDefEqProofs only [go_sem, simprocAttr, r8, o34, lsV]) (.inl rfl) ?_
            simp -implicitDefEqProofs only [go_sem, simprocAttr]
            refine call0 [] false c17 (by simp -implicitDefEqProofs only [go_sem, simprocAttr, g55']) (.inl rfl) ?_
            simp -implicitDefEqProofs only [go_sem, simprocAttr, r13, wl1]
            refine call1 [] false (c37') ?_
            simp -implicitDefEqProofs only [go_sem, simprocAttr, lenV_ls hsM, lenV_ls hsL, lsF_len, Lle']
            refine lpL (β := Unit) 191 [25, 26, 27, 28, 29] 191 [] L (by omega) (fun _ _ _ => True) (fun i _ ρ h => ρ 26 = .fv (.int i) ∧ ρ 25 = .fv (.bool ((L.take i).any fun r => sameF ow r r.length))) () trivial (by simp -implicitDefEqProofs only [go_sem, simprocAttr, List.take_zero, List.any_nil]) ?_ ?_
            · rintro _ ρ4 h4 _ ⟨r26, r25⟩
              have fnd : (L.any fun r => sameF ow r r.length) = true := List.any_eq_true.2 ⟨ow, oin, same_self ow⟩
              rw [List.take_length, fnd] at r25
              simp -implicitDefEqProofs only [go_sem, simprocAttr, r26, lenV_ls hsL, lsF_len]
              refine lpL (β := Unit) 306 [30] 306 [] MS (by omega) (fun _ _ _ => True) (fun i _ ρ h => ρ 30 = .fv (.int i)) () trivial (by simp -implicitDefEqProofs only [go_sem, simprocAttr]) ?_ ?_
              · rintro _ ρ5 h5 _ r30
                simp -implicitDefEqProofs only [go_sem, simprocAttr, r30, lenV_ls hsS, ints_len]
                refine lpL (β := Unit) 319 [31] 319 [] ow (by omega) (fun _ _ _ => True) (fun i _ ρ h => ρ 31 = .fv (.int i)) () trivial (by simp -implicitDefEqProofs only [go_sem, simprocAttr]) ?_ ?_
                · rintro _ ρ6 h6 _ r31
                  simp -implicitDefEqProofs only [go_sem, simprocAttr, r31, r12, o56, ints_len, r25]
                  refine call1 [] false (t14) ?_
                  simp -implicitDefEqProofs only [go_sem, simprocAttr]
                  exact ret_fv
                · rintro x xs i _ ρ6 h6 hx hi hm hi' hw _ r31
                  have gx : (ints ow)[i]? = some (.int x) := by simp [ints, hx]
                  have hc : MP.contains x = true := by simpa using (piff x).2 ⟨ow, oin, hm⟩
                  have c49 := t49 hsP Pl x
                  rw [hc] at c49
                  simp -implicitDefEqProofs only [go_sem, simprocAttr, r31, r12, o56, ints_len, hi', gx]
                  refine call1 [] false (c49) ?_
                  simp -implicitDefEqProofs only [go_sem, simprocAttr, r31, hw]
                  refine nxtL () trivial ?_
                  simp -implicitDefEqProofs only [go_sem, simprocAttr]
              · rintro x xs i _ ρ5 h5 hx hi hm hi' hw _ r30
                have c49 := t49 (s := .list false (ints ow)) (l := ow) rfl (by omega) x
                have hc : ow.contains x = true := by simpa using ((siff x).1 hm).2.2 ow oin
                rw [hc] at c49
                simp -implicitDefEqProofs only [go_sem, simprocAttr, r30, lenV_ls hsS, ints_len, hi', index_map hsS idx_26 hx rfl]
                refine call0 [] true c49 (by simp -implicitDefEqProofs only [go_sem, simprocAttr, r12, o56]) (.inr rfl) ?_
                simp -implicitDefEqProofs only [go_sem, simprocAttr, r30, hw]
                refine nxtL () trivial ?_
                simp -implicitDefEqProofs only [go_sem, simprocAttr]
            · rintro r rs i _ ρ4 h4 hr hi hrm hi' hw _ ⟨r26, r25⟩
              have rl := Llen r hrm
              have rlo := Lmem r hrm
              have rs_ := LLo.s r hrm
              have rb := LLo.b r hrm
              have gr : (lsF L)[i]? = some (.list false (ints r)) := by simp [lsF, hr]
              have et : (L.take (i + 1)).any (fun r => sameF ow r r.length) = ((L.take i).any (fun r => sameF ow r r.length) || sameF ow r r.length) := by rw [List.take_add_one, hr]; simp
              have hown : ∀ j : Nat, (ints ow)[(min (j : Int) ((ow.length : Nat) - 1)).toNat]? = some (.int (gI ow (min (j : Int) ((ow.length : Nat) - 1)))) := fun j => ints_get (by omega) (by omega)
              have hmi : ∀ j : Nat, 0 ≤ min (j : Int) ((ow.length : Nat) - 1) ∧ min (j : Int) ((ow.length : Nat) - 1) < (ow.length : Nat) := fun j => by omega
              have wo : IntKind.i64.wrap (((ow.length : Nat) : Int) - 1) = ((ow.length : Nat) : Int) - 1 := wr _ (by omega) (by omega)
              simp -implicitDefEqProofs only [go_sem, simprocAttr, r26, lenV_ls hsL, lsF_len, hi', index_ls hsL idx_25 gr rfl, ints_len, r12, o56]
              refine lpL (β := Unit) 205 [27, 28] 205 [] r (by omega) (fun _ _ _ => True) (fun j _ ρ h => ρ 28 = .fv (.int j) ∧ ρ 27 = .fv (.bool (sameF ow r j))) () trivial (by simp -implicitDefEqProofs only [go_sem, simprocAttr]; simp only [sameF, List.range_zero, List.all_nil, Bool.and_true]; refine congrArg (fun b => LV.fv (FV.val (Value.bool b))) ?_; rw [Bool.eq_iff_iff]; simp; omega) ?_ ?_
              · rintro _ ρ5 h5 _ ⟨r28, r27⟩
                simp -implicitDefEqProofs only [go_sem, simprocAttr, r28, r26, lenV_ls hsL, lsF_len, hi', index_ls hsL idx_25 gr rfl, ints_len]
                refine lpL (β := Unit) 286 [29] 286 [] MS (by omega) (fun _ _ _ => True) (fun i _ ρ h => ρ 29 = .fv (.int i)) () trivial (by simp -implicitDefEqProofs only [go_sem, simprocAttr]) ?_ ?_
                · rintro _ ρ6 h6 _ r29
                  generalize hbm : (L.take i).any (fun r => sameF ow r r.length) = bm at *
                  cases bm with
                  | true =>
                    simp -implicitDefEqProofs only [go_sem, simprocAttr, r29, lenV_ls hsS, ints_len, r25, r27, r26, hw]
                    refine nxtL () trivial ?_
                    rw [et]
                    simp -implicitDefEqProofs only [go_sem, simprocAttr]
                  | false =>
                    simp -implicitDefEqProofs only [go_sem, simprocAttr, r29, lenV_ls hsS, ints_len, r25, r27, r26, hw]
                    refine nxtL () trivial ?_
                    rw [et]
                    simp -implicitDefEqProofs only [go_sem, simprocAttr]
                · rintro x xs j _ ρ6 h6 hx hj hm hj' hwj _ r29
                  have c49 := t49 (s := .list false (ints r)) (l := r) rfl (by omega) x
                  have hc : r.contains x = true := by simpa using ((siff x).1 hm).2.2 r hrm
                  rw [hc] at c49
                  simp -implicitDefEqProofs only [go_sem, simprocAttr, r29, r26, lenV_ls hsS, ints_len, hj', index_map hsS idx_26 hx rfl, lenV_ls hsL, lsF_len, hi', index_ls hsL idx_25 gr rfl]
                  refine call1 [] false (c49) ?_
                  simp -implicitDefEqProofs only [go_sem, simprocAttr, r29, hwj]
                  refine nxtL () trivial ?_
                  simp -implicitDefEqProofs only [go_sem, simprocAttr]
              · rintro x xs j _ ρ5 h5 hx hj hxm hj' hwj _ ⟨r28, r27⟩
                have xb := rb x hxm
                have xk := rlo x hxm
                have gx : (ints r)[j]? = some (.int x) := by simp [ints, hx]
                have p1 : ¬ x < 0 := by omega
                have p2 : ¬ (k : Int) ≤ x := by omega
                have c49 := t49 hsP Pl x
                have hc : MP.contains x = true := by simpa using (piff x).2 ⟨r, hrm, hxm⟩
                rw [hc] at c49
                have ex : gI r (j : Nat) = x := by unfold gI; rw [List.getD_eq_getElem?_getD]; simp [hx]
                have es := sameF_succ ow r j
                rw [ex] at es
                have hm1 := hmi j
                have ho := hown j
                obtain ⟨mi, hmi'⟩ : ∃ mi, min (j : Int) ((ow.length : Nat) - 1) = mi := ⟨_, rfl⟩
                rw [hmi'] at es hm1 ho
                obtain ⟨hm1, hm2⟩ := hm1
                have hb : (x == gI ow mi) = decide (x = gI ow mi) := rfl
                generalize hbm : sameF ow r j = bm at *
                cases j with
                | zero =>
                  have hj0 : (0 : Int) < (r.length : Nat) := by omega
                  have hmn : min2V (.int .i64 0) (.int .i64 (((ow.length : Nat) : Int) - 1)) = some (.int .i64 mi) := by rw [← hmi']; exact min2_int _ _
                  cases bm with
                  | true =>
                    simp -implicitDefEqProofs only [go_sem, simprocAttr, r28, r26, r27, lenV_ls hsL, lsF_len, hi', index_ls hsL idx_25 gr rfl, ints_len, hj0, gx, p1, p2]
                    refine call1 [] false (c49) ?_
                    simp -implicitDefEqProofs only [go_sem, simprocAttr, r28, r26, r27, lenV_ls hsL, lsF_len, hi', index_ls hsL idx_25 gr rfl, ints_len, hj0, gx, r12, o56, wo, hmi', hm1, hm2, ho, hb, hwj, hmn]
                    refine nxtL () trivial ?_
                    rw [es]
                    simp -implicitDefEqProofs only [go_sem, simprocAttr]
                  | false =>
                    simp -implicitDefEqProofs only [go_sem, simprocAttr, r28, r26, r27, lenV_ls hsL, lsF_len, hi', index_ls hsL idx_25 gr rfl, ints_len, hj0, gx, p1, p2]
                    refine call1 [] false (c49) ?_
                    simp -implicitDefEqProofs only [go_sem, simprocAttr, r28, r26, r27, lenV_ls hsL, lsF_len, hi', index_ls hsL idx_25 gr rfl, ints_len, hj0, gx, r12, o56, wo, hmi', hm1, hm2, ho, hb, hwj, hmn]
                    refine nxtL () trivial ?_
                    rw [es]
                    simp -implicitDefEqProofs only [go_sem, simprocAttr]
                | succ j =>
                  have hmn : min2V (.int .i64 ((j + 1 : Nat) : Int)) (.int .i64 (((ow.length : Nat) : Int) - 1)) = some (.int .i64 mi) := by rw [← hmi']; exact min2_int _ _
                  have jp : (0 : Int) < ((j + 1 : Nat) : Int) := by omega
                  have wj : IntKind.i64.wrap (((j + 1 : Nat) : Int) - 1) = (j : Int) := by rw [wr _ (by omega) (by omega)]; omega
                  obtain ⟨x', hx'⟩ : ∃ x', r[j]? = some x' := ⟨_, List.getElem?_eq_getElem (by omega)⟩
                  have gx' : (ints r)[j]? = some (.int x') := by simp [ints, hx']
                  have p3 : ¬ x ≤ x' := by
                    have := List.pairwise_iff_getElem.1 rs_ j (j + 1) (by omega) (by omega) (by omega)
                    rw [List.getElem?_eq_getElem (by omega)] at hx hx'
                    simp at hx hx'
                    omega
                  have jl : (j : Int) < (r.length : Nat) := by omega
                  cases bm with
                  | true =>
                    simp -implicitDefEqProofs only [go_sem, simprocAttr, r28, r26, r27, lenV_ls hsL, lsF_len, hi', index_ls hsL idx_25 gr rfl, ints_len, hj', gx, p1, p2, jp, wj, gx', p3, jl]
                    refine call1 [] false (c49) ?_
                    simp -implicitDefEqProofs only [go_sem, simprocAttr, r28, r26, r27, lenV_ls hsL, lsF_len, hi', index_ls hsL idx_25 gr rfl, ints_len, hj', gx, r12, o56, wo, hmi', hm1, hm2, ho, hb, hwj, hmn]
                    refine nxtL () trivial ?_
                    rw [es]
                    simp -implicitDefEqProofs only [go_sem, simprocAttr]
                  | false =>
                    simp -implicitDefEqProofs only [go_sem, simprocAttr, r28, r26, r27, lenV_ls hsL, lsF_len, hi', index_ls hsL idx_25 gr rfl, ints_len, hj', gx, p1, p2, jp, wj, gx', p3, jl]
                    refine call1 [] false (c49) ?_
                    simp -implicitDefEqProofs only [go_sem, simprocAttr, r28, r26, r27, lenV_ls hsL, lsF_len, hi', index_ls hsL idx_25 gr rfl, ints_len, hj', gx, r12, o56, wo, hmi', hm1, hm2, ho, hb, hwj, hmn]
                    refine nxtL () trivial ?_
                    rw [es]
                    simp -implicitDefEqProofs only [go_sem, simprocAttr]
end S07

