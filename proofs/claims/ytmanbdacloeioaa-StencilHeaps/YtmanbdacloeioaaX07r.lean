/- A part of the proof: X07r, X07s. -/
import Derived.Test.YtmanbdacloeioaaP07l
import Derived.Test.YtmanbdacloeioaaX07l
import Derived.Test.YtmanbdacloeioaaC07r0
set_option linter.unusedVariables false
set_option linter.unusedSimpArgs false
set_option maxRecDepth 20000
namespace S07
open Go Abs
/-! What a sum is. -/
theorem addI_lt : ∀ (x : List Int) (k : Nat) (m : List Int) (i : Nat), i < k → k + x.length ≤ m.length → gI (addI x k m) (i : Nat) = gI m (i : Nat)
  | [], _, _, _, _, _ => rfl
  | a :: x, k, m, i, h, hl => by
    simp only [List.length_cons] at hl
    have ih := addI_lt x (k + 1) (m.set k (gI m (k : Nat) + a)) i (by omega) (by simp; omega)
    rw [addI, ih]
    have := gI_set (p := m) (i := (i : Int)) (j := (k : Int)) (v := gI m (k : Nat) + a) (by omega) (by omega) (by omega)
    rw [if_neg (by omega)] at this
    simpa using this
theorem addI_at : ∀ (x : List Int) (k : Nat) (m : List Int) (i : Nat), k + x.length ≤ m.length → k ≤ i → i < k + x.length → gI (addI x k m) (i : Nat) = gI m (i : Nat) + gI x ((i - k : Nat) : Nat)
  | [], k, m, i, _, h1, h2 => by simp at h2; omega
  | a :: x, k, m, i, hl, h1, h2 => by
    simp only [List.length_cons] at hl h2
    rw [addI]
    have gs := gI_set (p := m) (i := (i : Int)) (j := (k : Int)) (v := gI m (k : Nat) + a) (by omega) (by omega) (by omega)
    simp only [Int.toNat_natCast] at gs
    by_cases e : i = k
    · subst e
      rw [addI_lt x (i + 1) _ i (by omega) (by simp; omega), gs, if_pos rfl]
      simp [gI]
    · rw [addI_at x (k + 1) _ i (by simp; omega) (by omega) (by omega), gs, if_neg (by omega)]
      congr 1
      have : i - k = (i - (k + 1)) + 1 := by omega
      rw [this]
      simp [gI]
def sumCol (i : Nat) (W : List (List Int)) : List Int → Int
  | [] => 0
  | k :: ks => gI (W.getD k.toNat []) (i : Nat) + sumCol i W ks
theorem sumS_at {W : List (List Int)} {i n : Nat} (hi : i < n) : ∀ (V : List (List Int)) (bs : List Bool) (all : List Int) (k : Nat), W.drop k = V → bs.length = V.length → (∀ w ∈ V, w.length = n) → all.length = n → gI (sumS V bs all) (i : Nat) = gI all (i : Nat) + sumCol i W (idxT k bs)
  | [], bs, all, k, _, hb, _, _ => by
    obtain rfl : bs = [] := by simpa using hb
    simp [sumS, idxT, sumCol]
  | x :: V, [], all, k, _, hb, _, _ => by simp at hb
  | x :: V, b :: bs, all, k, hd, hb, hw, ha => by
    obtain ⟨d1, d2, d3, d4⟩ := drop_tail hd
    have hx := hw x (by simp)
    have ih := fun all ha => sumS_at hi V bs all (k + 1) d1 (by simpa using hb) (fun w h => hw w (by simp [h])) ha
    cases b with
    | false => simpa [sumS, idxT] using ih all ha
    | true =>
      simp only [sumS, if_true, idxT]
      rw [ih _ (by rw [addI_len]; exact ha), addI_at x 0 all i (by omega) (by omega) (by omega)]
      simp only [List.singleton_append, sumCol, Int.toNat_natCast, Nat.sub_zero]
      have e : W.getD k [] = x := by simp [List.getD_eq_getElem?_getD, d2]
      rw [e]; omega
theorem sumCol_bd {W : List (List Int)} {i : Nat} (hW : ∀ w ∈ W, ∀ n ∈ w, 0 ≤ n ∧ n ≤ 5) : ∀ l : List Int, 0 ≤ sumCol i W l ∧ sumCol i W l ≤ 5 * l.length
  | [] => by simp [sumCol]
  | k :: ks => by
    have ih := sumCol_bd (i := i) hW ks
    have h : 0 ≤ gI (W.getD k.toNat []) (i : Nat) ∧ gI (W.getD k.toNat []) (i : Nat) ≤ 5 := by
      by_cases hk : k.toNat < W.length
      · have hm : W.getD k.toNat [] ∈ W := List.mem_of_getElem? (show W[k.toNat]? = some (W.getD k.toNat []) by simp [List.getD_eq_getElem?_getD, List.getElem?_eq_getElem hk])
        by_cases hi : i < (W.getD k.toNat []).length
        · exact hW _ hm _ (gI_mem hi)
        · unfold gI
          rw [List.getD_eq_getElem?_getD, List.getElem?_eq_none (by simpa using hi)]
          simp
      · have : W.getD k.toNat [] = [] := by rw [List.getD_eq_getElem?_getD, List.getElem?_eq_none (by omega)]; rfl
        rw [this]; simp [gI]
    simp only [sumCol, List.length_cons]
    omega
theorem lsF_get {L : List (List Int)} {k : Nat} (h : k < L.length) : (lsF L)[k]? = some (.list false (ints (L.getD k []))) := by
  simp [lsF, List.getD_eq_getElem?_getD, List.getElem?_eq_getElem h]
theorem t39 {st : FV} {N : Int} {hs al : FV} {H A : List (Int × Int)} (v : SetV st N hs al H A) (n0 : 1 ≤ N) (n8 : N ≤ 8) {sW sc : FV} {W : List (List Int)} {c : List Int} (hW : Lists sW W) (hl : W.length ≤ 1000000) (hWl : ∀ l ∈ W, l.length ≤ 1000000) (h1 : lsOf sc = some (ints c)) (l1 : c.length ≤ 1000000) (lost : Int) :
    Fn Q 39 [.fo st, .fo sW, .fo sc, .fo (.int lost)] (.one (.fx (.int (if 4 < W.length then 5 else if (W.any fun l => !isCount N l 5) ∨ isCount N c 20 = false then 4 else if inB 0 20 lost = false then 3 else 0)))) := by
  have c32 := fun {s : FV} {l : List Int} (h : lsOf s = some (ints l)) (hl : l.length ≤ 1000000) => t32 v n0 n8 h hl 5
  have c32c := t32 v n0 n8 h1 l1 20
  have c26 := t26 lost 0 20
  obtain ⟨wl, w1, w2, w3⟩ := hW
  have la : wl.length = W.length := by rw [← w2]; simp
  obtain ⟨rfl, hH, hA, _, _⟩ := v
  have o1 := ls_one hH
  have o2 := ls_one hA
  by_cases h5 : 4 < W.length
  · have h5' : (4 : Int) < (W.length : Nat) := by omega
    rw [if_pos h5]
    refine w39 ?_
    dsimp only [c39, sop, gop, nop, qmv, qsg, qex, qld, qcl, qln, qix, qbo, qt, qi]
    simp -implicitDefEqProofs only [go_sem, simprocAttr, o1, o2, lenV_ls w1, la, h5']
    exact ret_fv
  · have h5' : ¬ (4 : Int) < (W.length : Nat) := by omega
    rw [if_neg h5]
    refine w39 ?_
    dsimp only [c39, sop, gop, nop, qmv, qsg, qex, qld, qcl, qln, qix, qbo, qt, qi]
    simp -implicitDefEqProofs only [go_sem, simprocAttr, o1, o2, lenV_ls w1, la, h5']
    refine lpL (β := Unit) 13 [9] 13 [] W (by omega) (fun r _ _ => (W.any fun l => !isCount N l 5) = r.any fun l => !isCount N l 5) (fun i _ ρ h => ρ 9 = .fv (.int i)) () rfl (by simp -implicitDefEqProofs only [go_sem, simprocAttr]) ?_ ?_
    · rintro _ ρ h' e r9
      simp only [List.any_nil] at e
      simp -implicitDefEqProofs only [go_sem, simprocAttr, r9, lenV_ls w1, la, o1, o2]
      refine call1 [] false (c32c) ?_
      cases hb : isCount N c 20 with
      | false =>
        simp -implicitDefEqProofs only [go_sem, simprocAttr, e]
        exact ret_fv
      | true =>
        simp -implicitDefEqProofs only [go_sem, simprocAttr]
        refine call1 [] false (c26) ?_
        cases hq : inB 0 20 lost with
        | false =>
          simp -implicitDefEqProofs only [go_sem, simprocAttr, e]
          exact ret_fv
        | true =>
          simp -implicitDefEqProofs only [go_sem, simprocAttr, e]
          exact ret_fv
    · rintro y ys i _ ρ h' hy hi hm hi' hw e r9
      obtain ⟨x, hx⟩ : ∃ x, wl[i]? = some x := ⟨_, List.getElem?_eq_getElem (by omega)⟩
      obtain ⟨l, hl1, hl2, hl3⟩ := lists_get (s := sW) w2 w3 hx
      obtain rfl : l = y := by rw [hl2] at hy; simpa using hy
      have c := c32 hl1 (hWl l hm)
      cases hb : isCount N l 5 with
      | true =>
        rw [hb] at c
        simp -implicitDefEqProofs only [go_sem, simprocAttr, r9, lenV_ls w1, la, hi', index_ls w1 idx_25 hx (by rw [hl3]; rfl), hl3, o1, o2]
        refine call1 [] false (c) ?_
        simp -implicitDefEqProofs only [go_sem, simprocAttr, r9, hw]
        refine nxtL () (by rw [e]; simp [hb]) ?_
        simp -implicitDefEqProofs only [go_sem, simprocAttr]
      | false =>
        rw [hb] at c
        simp -implicitDefEqProofs only [go_sem, simprocAttr, r9, lenV_ls w1, la, hi', index_ls w1 idx_25 hx (by rw [hl3]; rfl), hl3, o1, o2]
        refine call1 [] false (c) ?_
        simp -implicitDefEqProofs only [go_sem, simprocAttr]
        exact ret_eq (by rw [e]; simp [hb])
theorem lsF_cells (O : List (List Int)) : ∀ x ∈ lsF O, x.cells.length = 1 := by
  intro x hx
  obtain ⟨l, _, rfl⟩ := List.mem_map.1 hx
  rfl
set_option maxHeartbeats 2000000 in
theorem t40 {st : FV} {N : Int} {hs al : FV} {H A : List (Int × Int)} (v : SetV st N hs al H A) (n0 : 1 ≤ N) (n8 : N ≤ 8) {sW sc : FV} {W : List (List Int)} {c : List Int} (hW : Lists sW W) (W4 : W.length ≤ 4) (hWc : ∀ w ∈ W, CountOk N w) (h1 : lsOf sc = some (ints c)) (cl : (c.length : Nat) = N) (cb : ∀ n ∈ c, 0 ≤ n ∧ n ≤ 20) {lost : Int} (lo0 : 0 ≤ lost) (lo1 : lost ≤ 20) :
    Fn Q 40 [.fo st, .fo sW, .fo sc, .fo (.int lost)] (.one (.fx (.list false (lsF (whoseR N W c lost))))) := by
  have c69 := fun s => t69 s (m := W.length) (by omega)
  have c62 := fun {a b : List Int} (la : a.length ≤ 1000000) (lb : b.length ≤ 1000000) => t62 (sa := .list false (ints a)) (sb := .list false (ints b)) (a := a) (b := b) rfl rfl la lb
  obtain ⟨wl, w1, w2, w3⟩ := hW
  have la : wl.length = W.length := by rw [← w2]; simp
  obtain ⟨rfl, hH, hA, _, _⟩ := v
  have o1 := ls_one hH
  have o2 := ls_one hA
  obtain ⟨m, hm⟩ : ∃ m, m = W.length := ⟨_, rfl⟩
  rw [← hm] at la W4 c69
  have pw : (2 : Nat) ^ m ≤ 16 := by
    have := Nat.pow_le_pow_right (show 0 < 2 by decide) W4
    simpa using this
  have p1 : 1 ≤ 2 ^ m := Nat.one_le_two_pow
  have pwi : (2 : Int) ^ m = ((2 ^ m : Nat) : Int) := by push_cast; rfl
  have hsh : IntKind.i64.wrap (1 * 2 ^ min m 64) = ((2 ^ m : Nat) : Int) := by
    rw [show min m 64 = m by omega, pwi, wr _ (by omega) (by omega)]; omega
  have wn0 : ¬ ((m : Int) < 0) := by omega
  let all0 := List.replicate N.toNat (0 : Int)
  let fe : Nat → Bool := fun s => isOfF c 0 (sumS W (maskF s m) all0) 0 lost
  have spec := fun n h => colF_spec fe (m := m) (by omega) n h
  have fin : colF fe m (2 ^ m) = whoseR N W c lost := by
    have := col_whose (c := c) (lost := lost) (W := W) (all := all0) (by omega) (fe := fe) (fun s _ => by rw [← hm])
    rw [← hm] at this
    exact this
  refine w40 ?_
  dsimp only [c40, sop, gop, nop, qmv, qsg, qex, qld, qcl, qln, qix, qbo, qt, qi]
  simp -implicitDefEqProofs only [go_sem, simprocAttr, o1, o2]
  refine lpH 20 [8, 9, 10, 11, 12, 13, 14, 15, 16, 17, 18] 20 [19] (fun n : Nat => 2 ^ m - n) (fun n => 1 ≤ n ∧ n ≤ 2 ^ m) (fun n ρ h => ρ 10 = .fv (.int n) ∧ ρ 9 = .gl 19 (h.gen 19) ∧ h.gen 19 ≠ 0 ∧ h.obj 19 = some (.list 26 1 false false (lsF (colF fe m n)))) 1 ⟨by omega, p1⟩ (by simp -implicitDefEqProofs only [go_sem, simprocAttr, colF, lsF, List.map]) ?_
  rintro n ρ h ⟨hn1, hn⟩ ⟨r10, r9, g19, o19⟩
  by_cases q : n < 2 ^ m
  · have q' : (n : Int) < ((2 ^ m : Nat) : Int) := by omega
    have hwn : IntKind.i64.wrap ((n : Int) + 1) = ((n + 1 : Nat) : Int) := wr _ (by omega) (by omega)
    simp -implicitDefEqProofs only [go_sem, simprocAttr, r10, lenV_ls w1, la, wu (show m ≤ 1000 by omega), wn0, hsh, q']
    refine call1 [] false (c69 n) ?_
    simp -implicitDefEqProofs only [go_sem, simprocAttr]
    have ml := mask_len n m
    generalize hL : idxT 0 (maskF n m) = L at *
    have Ll : L.length ≤ 4 := by
      rw [← hL, idxT_len]; have := List.length_filter_le id (maskF n m); omega
    have Lsm : ∀ x ∈ L, 0 ≤ x ∧ x < (m : Nat) := fun x hx => by rw [← hL] at hx; exact idxT_small (by rw [ml]; exact Nat.le_refl _) x hx
    generalize hS : sumS W (maskF n m) all0 = S at *
    have eS : ∀ i : Nat, i < c.length → gI S (i : Nat) = sumCol i W L := by
      intro i hi
      have := sumS_at (W := W) (i := i) (n := c.length) hi W (maskF n m) all0 0 rfl (by rw [ml, hm]) (fun w hw => by have := (hWc w hw).len; omega) (by simp [all0]; omega)
      rw [hS, hL] at this
      rw [this]
      have e0 : gI all0 (i : Nat) = 0 := by simp [all0, gI, List.getD_eq_getElem?_getD, List.getElem?_replicate]; split <;> rfl
      rw [e0, Int.zero_add]
    have eSb := fun i => sumCol_bd (W := W) (i := i) (fun w hw => (hWc w hw).bd) L
    refine lpL (β := Int × Bool) 32 [12, 13, 14, 15, 16] 32 [] c (by omega) (fun r k b => isOfF c 0 S 0 lost = (b.2 && isOfF r k S b.1 lost) ∧ -100 * (k : Int) ≤ b.1 ∧ b.1 ≤ 100 * (k : Int))
      (fun k b ρ h => ρ 14 = .fv (.int k) ∧ ρ 12 = .fv (.int b.1) ∧ ρ 13 = .fv (.bool b.2)) (0, true) ⟨by simp, by simp⟩ (by simp -implicitDefEqProofs only [go_sem, simprocAttr]) ?_ ?_
    · rintro ⟨sm, ok⟩ ρ2 h2 ⟨e1, _⟩ ⟨r14, r12, r13⟩
      simp only [isOfF] at e1
      dsimp only at r12 r13
      have efe : fe n = (ok && decide (sm ≤ lost)) := by rw [← e1, ← hS]
      have colN : fe n = false → colF fe m (n + 1) = colF fe m n := fun e => by simp only [colF]; rw [if_neg]; rintro ⟨_, h⟩; rw [e] at h; simp at h
      cases ok with
      | false =>
        simp -implicitDefEqProofs only [go_sem, simprocAttr, r14, ints_len, cl, lenV_ls h1, r12, r13, r10, hwn]
        refine nxt (n + 1) (by omega) ⟨by omega, by omega⟩ ?_
        simp -implicitDefEqProofs only [go_sem, simprocAttr, r9, g19, o19, colN (by rw [efe]; rfl)]
      | true =>
        by_cases hsl : lost < sm
        · simp -implicitDefEqProofs only [go_sem, simprocAttr, r14, ints_len, cl, lenV_ls h1, r12, r13, r10, hwn, hsl]
          refine nxt (n + 1) (by omega) ⟨by omega, by omega⟩ ?_
          simp -implicitDefEqProofs only [go_sem, simprocAttr, r9, g19, o19, colN (by rw [efe]; simp; omega)]
        · simp -implicitDefEqProofs only [go_sem, simprocAttr, r14, ints_len, cl, lenV_ls h1, r12, r13, r9, g19, o19, hsl]
          have colS : colF fe m (n + 1) = insL L (colF fe m n) := by
            simp only [colF]; rw [if_pos ⟨by omega, by rw [efe]; simp; omega⟩, hL]
          obtain ⟨_, _, Om, On⟩ := spec n (by omega)
          generalize colF fe m n = O at *
          have lO : (lsF O).length = O.length := by simp [lsF]
          have Ol : ∀ r ∈ O, r.length ≤ 4 := by
            intro r hr
            obtain ⟨s, _, _, _, rfl⟩ := (Om r).1 hr
            rw [idxT_len]; have := List.length_filter_le id (maskF s m); rw [mask_len] at this; omega
          refine lpH 78 [17] 78 [] (fun k : Nat => k) (fun k => k ≤ O.length ∧ whF L O O.length = whF L O k) (fun k ρ h => ρ 17 = .fv (.int k)) O.length ⟨Nat.le_refl _, rfl⟩ (by simp -implicitDefEqProofs only [go_sem, simprocAttr, lO]) ?_
          rintro k ρ4 h4 ⟨hk, ea⟩ r17
          by_cases k0 : 0 < k
          · obtain ⟨k', rfl⟩ : ∃ k', k = k' + 1 := ⟨k - 1, by omega⟩
            have k0' : (0 : Int) < ((k' + 1 : Nat) : Int) := by omega
            have hwk : IntKind.i64.wrap (((k' + 1 : Nat) : Int) - 1) = ((k' : Nat) : Int) := by rw [wr _ (by omega) (by omega)]; omega
            have hko : k' < O.length := by omega
            have hko' : ((k' : Nat) : Int) < ((lsF O).length : Nat) := by omega
            have gk : (lsF O)[k']? = some (.list false (ints (O.getD k' []))) := lsF_get hko
            have hmO : O.getD k' [] ∈ O := List.mem_of_getElem? (show O[k']? = some (O.getD k' []) by simp [List.getD_eq_getElem?_getD, List.getElem?_eq_getElem hko])
            have c62' := c62 (a := L) (b := O.getD k' []) (by omega) (by have := Ol _ hmO; omega)
            by_cases hlt : ordF L (O.getD k' []) < 0
            · simp -implicitDefEqProofs only [go_sem, simprocAttr, r17, k0', r9, g19, o19, hwk, gk, hko']
              refine call1 [] false (c62') ?_
              simp -implicitDefEqProofs only [go_sem, simprocAttr, hlt, hwk, r17]
              refine nxt k' (by omega) ⟨by omega, by rw [ea]; simp only [whF, if_pos hlt]⟩ ?_
              simp -implicitDefEqProofs only [go_sem, simprocAttr]
            · simp -implicitDefEqProofs only [go_sem, simprocAttr, r17, k0', r9, g19, o19, hwk, gk, hko']
              refine call1 [] false (c62') ?_
              simp only [whF, if_neg hlt] at ea
              have kw : ((k' + 1 : Nat) : Int) ≤ ((lsF O).length : Nat) := by omega
              have kz : (0 : Int) ≤ ((k' + 1 : Nat) : Int) := by omega
              simp -implicitDefEqProofs only [go_sem, simprocAttr, hlt, r17, r9, g19, o19, kw, kz, Int.le_refl]
              have eI : lsF (colF fe m (n + 1)) = ((lsF O).take (k' + 1) ++ [.list false (ints L)]) ++ (lsF O).drop (k' + 1) := by
                rw [colS, insL, ea]; simp [lsF, List.map_take, List.map_drop]
              refine app_gl (xs := []) (ys := (lsF O).drop (k' + 1)) (by simp -implicitDefEqProofs only [go_sem, simprocAttr]; rfl) idx_25 ?_ (fun x hx => lsF_cells O x (List.mem_of_mem_drop hx)) (by simp -implicitDefEqProofs only [go_sem, simprocAttr]) (by simp [byt_26] <;> omega) (by simp [maxLen] <;> omega) (by simp) ?_
              · simp -implicitDefEqProofs only [go_sem, simprocAttr, o19, List.take_length]
              simp -implicitDefEqProofs only [go_sem, simprocAttr, r9, g19, o19, r17, kw, kz]
              refine app_sub (xs := lsF O) (ys := [.list false (ints L)]) (by simp -implicitDefEqProofs only [go_sem, simprocAttr, o19]) (by omega) idx_25 (by simp -implicitDefEqProofs only [go_sem, simprocAttr]) (by simp [FV.cells]) (by simp -implicitDefEqProofs only [go_sem, simprocAttr]) (by simp [byt_26] <;> omega) (by simp [maxLen] <;> omega) ?_
              simp -implicitDefEqProofs only [go_sem, simprocAttr]
              refine app_gl (xs := (lsF O).take (k' + 1) ++ [.list false (ints L)]) (ys := (lsF O).drop (k' + 1)) (by simp -implicitDefEqProofs only [go_sem, simprocAttr]; rfl) idx_25 (by simp -implicitDefEqProofs only [go_sem, simprocAttr]) (fun x hx => lsF_cells O x (List.mem_of_mem_drop hx)) (by simp -implicitDefEqProofs only [go_sem, simprocAttr]) (by simp [byt_26] <;> omega) (by simp [maxLen] <;> omega) (by simp) ?_
              simp -implicitDefEqProofs only [go_sem, simprocAttr, r10, hwn]
              refine nxt (n + 1) (by omega) ⟨by omega, by omega⟩ ?_
              simp -implicitDefEqProofs only [go_sem, simprocAttr, eI]
          · have k0' : ¬ (0 : Int) < (k : Nat) := by omega
            obtain rfl : k = 0 := by omega
            simp only [whF] at ea
            simp -implicitDefEqProofs only [go_sem, simprocAttr, r17, k0', r9, g19, o19, Int.le_refl]
            have kw : ((0 : Nat) : Int) ≤ ((lsF O).length : Nat) := by omega
            have kz : (0 : Int) ≤ ((0 : Nat) : Int) := by omega
            have eI : lsF (colF fe m (n + 1)) = ((lsF O).take (0) ++ [.list false (ints L)]) ++ (lsF O).drop (0) := by
              rw [colS, insL, ea]; simp [lsF, List.map_take, List.map_drop]
            refine app_gl (xs := []) (ys := (lsF O).drop (0)) (by simp -implicitDefEqProofs only [go_sem, simprocAttr]; rfl) idx_25 ?_ (fun x hx => lsF_cells O x (List.mem_of_mem_drop hx)) (by simp -implicitDefEqProofs only [go_sem, simprocAttr]) (by simp [byt_26] <;> omega) (by simp [maxLen] <;> omega) (by simp) ?_
            · simp -implicitDefEqProofs only [go_sem, simprocAttr, o19, List.take_length]
            simp -implicitDefEqProofs only [go_sem, simprocAttr, r9, g19, o19, r17, kw, kz]
            refine app_sub (xs := lsF O) (ys := [.list false (ints L)]) (by simp -implicitDefEqProofs only [go_sem, simprocAttr, o19]) (by omega) idx_25 (by simp -implicitDefEqProofs only [go_sem, simprocAttr]) (by simp [FV.cells]) (by simp -implicitDefEqProofs only [go_sem, simprocAttr]) (by simp [byt_26] <;> omega) (by simp [maxLen] <;> omega) ?_
            simp -implicitDefEqProofs only [go_sem, simprocAttr]
            refine app_gl (xs := (lsF O).take (0) ++ [.list false (ints L)]) (ys := (lsF O).drop (0)) (by simp -implicitDefEqProofs only [go_sem, simprocAttr]; rfl) idx_25 (by simp -implicitDefEqProofs only [go_sem, simprocAttr]) (fun x hx => lsF_cells O x (List.mem_of_mem_drop hx)) (by simp -implicitDefEqProofs only [go_sem, simprocAttr]) (by simp [byt_26] <;> omega) (by simp [maxLen] <;> omega) (by simp) ?_
            simp -implicitDefEqProofs only [go_sem, simprocAttr, r10, hwn]
            refine nxt (n + 1) (by omega) ⟨by omega, by omega⟩ ?_
            simp -implicitDefEqProofs only [go_sem, simprocAttr, eI]
    · rintro x xs i ⟨sm, ok⟩ ρ2 h2 hx hi hxm hi' hw ⟨e1, b1, b2⟩ ⟨r14, r12, r13⟩
      dsimp only at e1 b1 b2 r12 r13
      have hiN : (i : Int) < N := by omega
      have hcx := cb x hxm
      have hwn1 : IntKind.i64.wrap (0 - x) = -x := by rw [wr _ (by omega) (by omega)]; omega
      simp -implicitDefEqProofs only [go_sem, simprocAttr, r14, hiN, index_map h1 idx_26 hx rfl, hwn1]
      refine lpL (β := Int) 43 [15, 16] 43 [] L (by omega) (fun r j y => y + sumCol i W r = -x + sumCol i W L ∧ r.length ≤ 4) (fun j y ρ h => ρ 16 = .fv (.int j) ∧ ρ 15 = .fv (.int y)) (-x) ⟨rfl, Ll⟩ (by simp -implicitDefEqProofs only [go_sem, simprocAttr]) ?_ ?_
      · rintro y ρ3 h3 ⟨e3, _⟩ ⟨r16, r15⟩
        simp only [sumCol, Int.add_zero] at e3
        have hd : y = gI S (i : Nat) - x := by rw [e3, eS i hi]; omega
        have ySb := eSb i
        rw [← eS i hi] at ySb
        have hws : IntKind.i64.wrap (sm + y) = sm + y := wr _ (by omega) (by omega)
        by_cases hy : 0 ≤ y
        · have hlt : ¬ gI S (i : Nat) < x := by omega
          cases ok with
          | true =>
            simp -implicitDefEqProofs only [go_sem, simprocAttr, r16, r15, r12, r13, hws, hy, r14, hw]
            refine nxtL (sm + y, true) ?_ ?_
            · refine ⟨?_, by dsimp only; omega, by dsimp only; omega⟩
              rw [e1]; simp only [isOfF, if_neg hlt, Bool.true_and]; rw [hd]
            · simp -implicitDefEqProofs only [go_sem, simprocAttr]
          | false =>
            simp -implicitDefEqProofs only [go_sem, simprocAttr, r16, r15, r12, r13, hws, hy, r14, hw]
            refine nxtL (sm + y, false) ?_ ?_
            · exact ⟨by rw [e1]; simp, by dsimp only; omega, by dsimp only; omega⟩
            simp -implicitDefEqProofs only [go_sem, simprocAttr]
        · have hlt : gI S (i : Nat) < x := by omega
          cases ok with
          | true =>
            simp -implicitDefEqProofs only [go_sem, simprocAttr, r16, r15, r12, r13, hws, hy, r14, hw]
            refine nxtL (sm + y, false) ?_ ?_
            · refine ⟨?_, by dsimp only; omega, by dsimp only; omega⟩
              rw [e1]; simp only [isOfF, if_pos hlt, Bool.false_and, Bool.and_false]
            · simp -implicitDefEqProofs only [go_sem, simprocAttr]
          | false =>
            simp -implicitDefEqProofs only [go_sem, simprocAttr, r16, r15, r12, r13, hws, hy, r14, hw]
            refine nxtL (sm + y, false) ?_ ?_
            · exact ⟨by rw [e1]; simp, by dsimp only; omega, by dsimp only; omega⟩
            simp -implicitDefEqProofs only [go_sem, simprocAttr]
      · rintro k ks j y ρ3 h3 hk hj hkm hj' hwj ⟨e3, e5⟩ ⟨r16, r15⟩
        simp only [List.length_cons] at e5
        have hkb := Lsm k hkm
        obtain ⟨kn, rfl⟩ := Int.eq_ofNat_of_zero_le hkb.1
        obtain ⟨xw, hxw⟩ : ∃ xw, wl[kn]? = some xw := ⟨_, List.getElem?_eq_getElem (by omega)⟩
        obtain ⟨l, hl1, hl2, hl3⟩ := lists_get (s := sW) w2 w3 hxw
        have hlm : l ∈ W := List.mem_of_getElem? hl2
        have hll := (hWc l hlm).len
        have hli : l[i]? = some (gI l (i : Nat)) := by have := gI_get (p := l) (i := (i : Int)) (by omega) (by omega); simpa using this
        have e4 : gI (W.getD ((kn : Nat) : Int).toNat []) (i : Nat) = gI l (i : Nat) := by
          rw [Int.toNat_natCast, List.getD_eq_getElem?_getD, hl2]; rfl
        simp only [sumCol] at e3
        rw [e4] at e3
        have hlb := (hWc l hlm).bd _ (gI_mem (p := l) (i := i) (by omega))
        have hksb : 0 ≤ sumCol i W ks := (sumCol_bd (W := W) (i := i) (fun w hw => (hWc w hw).bd) ks).1
        have hLb := eSb i
        have hks2 : sumCol i W ks ≤ 5 * 4 := by
          have h0 := (sumCol_bd (W := W) (i := i) (fun w hw => (hWc w hw).bd) ks).2
          omega
        have hwy : IntKind.i64.wrap (y + gI l (i : Nat)) = y + gI l (i : Nat) := wr _ (by omega) (by omega)
        have hik : (ints L)[j]? = some (FV.int ((kn : Nat) : Int)) := by simp only [ints, List.getElem?_map, hk]; rfl
        simp -implicitDefEqProofs only [go_sem, simprocAttr, r16, r15, r14, hj', hik, index_ls w1 idx_25 hxw (by rw [hl3]; rfl), hl3, index_map hl1 idx_26 hli rfl, hwy]
        refine nxtL (y + gI l (i : Nat)) ?_ ?_
        · exact ⟨by omega, by omega⟩
        · simp -implicitDefEqProofs only [go_sem, simprocAttr, hwj]
  · obtain rfl : n = 2 ^ m := by omega
    have q' : ¬ ((2 ^ m : Nat) : Int) < ((2 ^ m : Nat) : Int) := by omega
    rw [fin] at o19
    simp -implicitDefEqProofs only [go_sem, simprocAttr, r10, lenV_ls w1, la, wu (show m ≤ 1000 by omega), wn0, hsh, q', r9]
    exact ret_fx (fun _ => true) (by simp -implicitDefEqProofs only [go_sem, simprocAttr, o19])
end S07

namespace S07
open Go Abs
/-! Surely, possibly: by the reference. -/
def cntL (L : List (List Int)) (n : Nat) : Nat := (L.filter fun l => l.contains (n : Int)).length
def selT (p : Nat → Bool) : Nat → List Int
  | 0 => []
  | k + 1 => selT p k ++ if p k then [(k : Int)] else []
theorem selT_mem (p : Nat → Bool) (x : Int) : ∀ k, x ∈ selT p k ↔ ∃ j : Nat, j < k ∧ p j = true ∧ x = (j : Nat)
  | 0 => by simp [selT]
  | k + 1 => by
    simp only [selT, List.mem_append, selT_mem p x k]
    constructor
    · rintro (⟨j, h1, h2⟩ | h)
      · exact ⟨j, by omega, h2⟩
      · split at h
        · rename_i hp; simp at h; exact ⟨k, by omega, hp, h⟩
        · simp at h
    · rintro ⟨j, h1, h2, h3⟩
      by_cases e : j = k
      · subst e; right; rw [if_pos h2]; simp [h3]
      · exact .inl ⟨j, by omega, h2, h3⟩
theorem selT_inc (p : Nat → Bool) : ∀ k, (selT p k).Pairwise (· < ·)
  | 0 => .nil
  | k + 1 => by
    refine List.pairwise_append.2 ⟨selT_inc p k, by split <;> simp, fun a ha b hb => ?_⟩
    obtain ⟨j, h1, _, rfl⟩ := (selT_mem p a k).1 ha
    split at hb
    · simp at hb; omega
    · simp at hb
theorem selT_len (p : Nat → Bool) : ∀ k, (selT p k).length ≤ k
  | 0 => Nat.le_refl _
  | k + 1 => by
    have := selT_len p k
    simp only [selT, List.length_append]; split <;> simp <;> omega
theorem inc_ext : ∀ (L M : List Int), L.Pairwise (· < ·) → M.Pairwise (· < ·) → (∀ x, x ∈ L ↔ x ∈ M) → L = M
  | [], [], _, _, _ => rfl
  | [], b :: M, _, _, h => by have := (h b).2 (by simp); simp at this
  | a :: L, [], _, _, h => by have := (h a).1 (by simp); simp at this
  | a :: L, b :: M, hL, hM, h => by
    have pL := List.pairwise_cons.1 hL
    have pM := List.pairwise_cons.1 hM
    have e : a = b := by
      rcases List.mem_cons.1 ((h a).1 (by simp)) with h1 | h1
      · exact h1
      · rcases List.mem_cons.1 ((h b).2 (by simp)) with h2 | h2
        · exact h2.symm
        · have := pL.1 b h2; have := pM.1 a h1; omega
    subst e
    congr 1
    refine inc_ext L M pL.2 pM.2 fun x => ⟨fun hx => ?_, fun hx => ?_⟩
    · rcases List.mem_cons.1 ((h x).1 (by simp [hx])) with h1 | h1
      · subst h1; have := pL.1 x hx; omega
      · exact h1
    · rcases List.mem_cons.1 ((h x).2 (by simp [hx])) with h1 | h1
      · subst h1; have := pM.1 x hx; omega
      · exact h1
theorem surF_inc (many : Int) : ∀ (p : List Int) (k : Nat), (surF many p k).Pairwise (· < ·)
  | [], _ => .nil
  | n :: ns, k => by
    have ih := surF_inc many ns (k + 1)
    simp only [surF]
    split
    · refine List.pairwise_cons.2 ⟨fun x hx => ?_, ih⟩
      obtain ⟨j, rfl, _⟩ := (surF_mem many x ns (k + 1)).1 hx
      omega
    · exact ih
theorem posF_inc : ∀ (p : List Int) (k : Nat), (posF p k).Pairwise (· < ·)
  | [], _ => .nil
  | n :: ns, k => by
    have ih := posF_inc ns (k + 1)
    simp only [posF]
    split
    · refine List.pairwise_cons.2 ⟨fun x hx => ?_, ih⟩
      obtain ⟨j, _, rfl, _⟩ := (posF_mem x ns (k + 1)).1 hx
      omega
    · exact ih
theorem cntL_all {L : List (List Int)} {n : Nat} : cntL L n = L.length ↔ ∀ l ∈ L, (n : Int) ∈ l := by
  unfold cntL
  rw [List.length_filter_eq_length_iff]
  simp
theorem cntL_pos {L : List (List Int)} {n : Nat} : 0 < cntL L n ↔ ∃ l ∈ L, (n : Int) ∈ l := by
  unfold cntL
  rw [List.length_pos_iff_exists_mem]
  simp
theorem mixS_sel {L : List (List Int)} (h : LL L) (ne : L ≠ []) {m : Nat} (hm : ∀ l ∈ L, ∀ n ∈ l, n < (m : Nat)) (m4 : m ≤ 4) : mixS L = selT (fun n => decide (cntL L n = L.length)) m := by
  refine inc_ext _ _ (surF_inc _ _ _) (selT_inc _ _) fun x => ?_
  rw [sur_iff h, selT_mem]
  constructor
  · rintro ⟨h0, h4, hx⟩
    obtain ⟨j, rfl⟩ := Int.eq_ofNat_of_zero_le h0
    obtain ⟨l, hl⟩ := List.exists_mem_of_ne_nil L ne
    have := hm l hl _ (hx l hl)
    exact ⟨j, by omega, by simpa using cntL_all.2 hx, rfl⟩
  · rintro ⟨j, h1, h2, rfl⟩
    simp only [decide_eq_true_eq] at h2
    exact ⟨by omega, by omega, cntL_all.1 h2⟩
theorem mixP_sel {L : List (List Int)} (h : LL L) {m : Nat} (hm : ∀ l ∈ L, ∀ n ∈ l, n < (m : Nat)) : mixP L = selT (fun n => decide (0 < cntL L n)) m := by
  refine inc_ext _ _ (posF_inc _ _) (selT_inc _ _) fun x => ?_
  rw [pos_iff h, selT_mem]
  constructor
  · rintro ⟨l, h1, h2⟩
    have h0 := (h.b l h1 x h2).1
    obtain ⟨j, rfl⟩ := Int.eq_ofNat_of_zero_le h0
    have := hm l h1 _ h2
    exact ⟨j, by omega, by simpa using cntL_pos.2 ⟨l, h1, h2⟩, rfl⟩
  · rintro ⟨j, h1, h2, rfl⟩
    simp only [decide_eq_true_eq] at h2
    exact cntL_pos.1 h2
theorem cntL_le (L : List (List Int)) (n : Nat) : cntL L n ≤ L.length := List.length_filter_le _ _
theorem t41 {L : List (List Int)} (hL : L.length ≤ 1000) (hl : ∀ l ∈ L, l.length ≤ 1000) {m : Nat} (hm : m ≤ 1000) :
    Fn Q 41 [.fo (.list false (lsF L)), .fo (.int (m : Nat))] (.tup [.fx (.list false (ints (selT (fun n => decide (cntL L n = L.length)) m))), .fx (.list false (ints (selT (fun n => decide (0 < cntL L n)) m)))]) := by
  have lO : (lsF L).length = L.length := by simp [lsF]
  refine w41 ?_
  dsimp only [c41, sop, gop, nop, qmv, qsg, qex, qld, qcl, qln, qix, qbo, qt, qi]
  simp -implicitDefEqProofs only [go_sem, simprocAttr]
  refine lpH 13 [6, 7, 8, 9, 10] 13 [11, 12] (fun k : Nat => m - k) (fun k => k ≤ m) (fun k ρ h => ρ 8 = .fv (.int k) ∧ ρ 6 = .gl 11 (h.gen 11) ∧ ρ 7 = .gl 12 (h.gen 12) ∧ h.obj 11 = some (.list 3 1 false false (ints (selT (fun n => decide (cntL L n = L.length)) k))) ∧ h.obj 12 = some (.list 3 1 false false (ints (selT (fun n => decide (0 < cntL L n)) k)))) 0 (by omega) (by simp -implicitDefEqProofs only [go_sem, simprocAttr, selT, ints, List.map]) ?_
  rintro k ρ h hk ⟨r8, r6, r7, o11, o12⟩
  by_cases q : k < m
  · have q' : (k : Int) < (m : Nat) := by omega
    have hwk : IntKind.i64.wrap ((k : Int) + 1) = ((k + 1 : Nat) : Int) := wr _ (by omega) (by omega)
    simp -implicitDefEqProofs only [go_sem, simprocAttr, r8, q']
    refine lpL (β := Unit) 18 [9, 10] 18 [] L (by omega) (fun _ _ _ => True) (fun j _ ρ h => ρ 10 = .fv (.int j) ∧ ρ 9 = .fv (.int ((cntL (L.take j) k : Nat) : Int))) () trivial (by simp -implicitDefEqProofs only [go_sem, simprocAttr, cntL, List.take_zero, List.filter, List.length]) ?_ ?_
    · rintro _ ρ2 h2 _ ⟨r10, r9⟩
      rw [List.take_length] at r9
      have sl1 := selT_len (fun n => decide (cntL L n = L.length)) k
      have sl2 := selT_len (fun n => decide (0 < cntL L n)) k
      have es1 : selT (fun n => decide (cntL L n = L.length)) (k + 1) = selT (fun n => decide (cntL L n = L.length)) k ++ if decide (cntL L k = L.length) = true then [(k : Int)] else [] := rfl
      have es2 : selT (fun n => decide (0 < cntL L n)) (k + 1) = selT (fun n => decide (0 < cntL L n)) k ++ if decide (0 < cntL L k) = true then [(k : Int)] else [] := rfl
      generalize cntL L k = cn at *
      have z0 := fun (h : ¬ 0 < cn) => show ((0 : Int) < ((cn : Nat) : Int)) = False by simp; omega
      have e0 := fun (h : ¬ cn = L.length) => show (((cn : Nat) : Int) == ((L.length : Nat) : Int)) = false by simp; omega
      by_cases a1 : cn = L.length
      · have a1' : (((cn : Nat) : Int) == ((L.length : Nat) : Int)) = true := by simp; omega
        rw [decide_eq_true a1, if_pos rfl] at es1
        simp -implicitDefEqProofs only [go_sem, simprocAttr, r10, r9, lO, a1', r6, r8]
        refine app_gl (by simp -implicitDefEqProofs only [go_sem, simprocAttr, o11]; rfl) idx_26 (by simp -implicitDefEqProofs only [go_sem, simprocAttr]; rfl) (by simp [FV.cells]) (by simp -implicitDefEqProofs only [go_sem, simprocAttr]) (by simp [byt_3, ints]; omega) (by simp [maxLen, ints]; omega) (by simp) ?_
        by_cases a2 : 0 < cn
        · have a2' : (0 : Int) < ((cn : Nat) : Int) := by omega
          rw [decide_eq_true a2, if_pos rfl] at es2
          simp -implicitDefEqProofs only [go_sem, simprocAttr, r9, a2', r7, r8]
          refine app_gl (by simp -implicitDefEqProofs only [go_sem, simprocAttr, o12]; rfl) idx_26 (by simp -implicitDefEqProofs only [go_sem, simprocAttr]; rfl) (by simp [FV.cells]) (by simp -implicitDefEqProofs only [go_sem, simprocAttr]) (by simp [byt_3, ints]; omega) (by simp [maxLen, ints]; omega) (by simp) ?_
          simp -implicitDefEqProofs only [go_sem, simprocAttr, r8, hwk]
          refine nxt (k + 1) (by omega) (by omega) ?_
          simp -implicitDefEqProofs only [go_sem, simprocAttr, es1, es2, ints, List.map_append, o11, o12, r6, r7]
        · have a2' := z0 a2
          rw [decide_eq_false a2, if_neg (by simp), List.append_nil] at es2
          simp -implicitDefEqProofs only [go_sem, simprocAttr, r9, a2', r8, hwk]
          refine nxt (k + 1) (by omega) (by omega) ?_
          simp -implicitDefEqProofs only [go_sem, simprocAttr, es1, es2, ints, List.map_append, o11, o12, r6, r7]
      · have a1' := e0 a1
        rw [decide_eq_false a1, if_neg (by simp), List.append_nil] at es1
        simp -implicitDefEqProofs only [go_sem, simprocAttr, r10, r9, lO, a1']
        by_cases a2 : 0 < cn
        · have a2' : (0 : Int) < ((cn : Nat) : Int) := by omega
          rw [decide_eq_true a2, if_pos rfl] at es2
          simp -implicitDefEqProofs only [go_sem, simprocAttr, r9, a2', r7, r8]
          refine app_gl (by simp -implicitDefEqProofs only [go_sem, simprocAttr, o12]; rfl) idx_26 (by simp -implicitDefEqProofs only [go_sem, simprocAttr]; rfl) (by simp [FV.cells]) (by simp -implicitDefEqProofs only [go_sem, simprocAttr]) (by simp [byt_3, ints]; omega) (by simp [maxLen, ints]; omega) (by simp) ?_
          simp -implicitDefEqProofs only [go_sem, simprocAttr, r8, hwk]
          refine nxt (k + 1) (by omega) (by omega) ?_
          simp -implicitDefEqProofs only [go_sem, simprocAttr, es1, es2, ints, List.map_append, o11, o12, r6, r7]
        · have a2' := z0 a2
          rw [decide_eq_false a2, if_neg (by simp), List.append_nil] at es2
          simp -implicitDefEqProofs only [go_sem, simprocAttr, r9, a2', r8, hwk]
          refine nxt (k + 1) (by omega) (by omega) ?_
          simp -implicitDefEqProofs only [go_sem, simprocAttr, es1, es2, ints, List.map_append, o11, o12, r6, r7]
    · rintro l ls j _ ρ2 h2 hx hj hm' hj' hwj _ ⟨r10, r9⟩
      have gx : (lsF L)[j]? = some (.list false (ints l)) := by simp [lsF, hx]
      have c76 := t76 (s := .list false (ints l)) (l := l) rfl (by have := hl l hm'; omega) (k : Int)
      have cs : cntL (L.take (j + 1)) k = cntL (L.take j) k + if l.contains (k : Int) then 1 else 0 := by
        unfold cntL
        rw [List.take_add_one, hx, List.filter_append, List.length_append]
        simp only [Option.toList_some, List.filter_cons, List.filter_nil]
        split <;> rfl
      have cb := cntL_le (L.take j) k
      simp only [List.length_take] at cb
      have hwc : IntKind.i64.wrap (((cntL (L.take j) k : Nat) : Int) + 1) = ((cntL (L.take j) k + 1 : Nat) : Int) := wr _ (by omega) (by omega)
      cases hc : l.contains (k : Int) with
      | true =>
        rw [hc] at c76 cs
        simp -implicitDefEqProofs only [go_sem, simprocAttr, r10, lO, hj', gx, r8]
        refine call1 [] false (c76) ?_
        simp -implicitDefEqProofs only [go_sem, simprocAttr, r9, hwc, r10, hwj]
        refine nxtL () trivial ?_
        simp -implicitDefEqProofs only [go_sem, simprocAttr, cs, r9]
      | false =>
        rw [hc] at c76 cs
        simp -implicitDefEqProofs only [go_sem, simprocAttr, r10, lO, hj', gx, r8]
        refine call1 [] false (c76) ?_
        simp -implicitDefEqProofs only [go_sem, simprocAttr, r9, r10, hwj]
        refine nxtL () trivial ?_
        simp -implicitDefEqProofs only [go_sem, simprocAttr, cs, r9]
  · obtain rfl : k = m := by omega
    have q' : ¬ ((k : Nat) : Int) < (k : Nat) := by omega
    simp -implicitDefEqProofs only [go_sem, simprocAttr, r8, q', r6, r7]
    refine ret_tup (fun _ => true) ?_ (by simp [ownNames])
    simp -implicitDefEqProofs only [go_sem, simprocAttr, o11, o12]
end S07

