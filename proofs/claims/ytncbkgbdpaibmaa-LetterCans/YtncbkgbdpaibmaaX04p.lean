/- A part of the proof: X04p. -/
import Derived.Test.YtncbkgbdpaibmaaX04o
set_option linter.unusedVariables false
set_option linter.unusedSimpArgs false
set_option maxRecDepth 20000
namespace S04
open Go Abs
theorem flB_bd {n : Nat} : ∀ (w ys : List Int), (∀ x ∈ w, -1 ≤ x ∧ x < n) → (∀ y ∈ ys, 0 ≤ y ∧ y < n) → ys.length = (blF w 0).length → ∀ x ∈ flB w ys, 0 ≤ x ∧ x < n
  | [], ys, _, _, _, x, hx => by simp [flB] at hx
  | a :: w, ys, h1, h2, hl, x, hx => by
    by_cases e : a = -1
    · rw [blF, if_pos e] at hl
      cases ys with
      | nil => simp at hl
      | cons y ys =>
        rw [flB_eq e] at hx
        rcases List.mem_cons.1 hx with rfl | hx
        · exact h2 x (by simp)
        · exact flB_bd w ys (fun x hx => h1 x (by simp [hx])) (fun y hy => h2 y (by simp [hy])) (by rw [List.length_cons, List.length_cons, blF_len w (0 + 1) 0] at hl; omega) x hx
    · rw [blF, if_neg e] at hl
      rw [flB_ne e] at hx
      rcases List.mem_cons.1 hx with rfl | hx
      · have := h1 x (by simp); omega
      · exact flB_bd w ys (fun x hx => h1 x (by simp [hx])) h2 (by rw [hl, blF_len w (0 + 1) 0]) x hx
theorem rds_bd {n : Nat} {w w' : List Int} (h : ∀ x ∈ w, -1 ≤ x ∧ x < n) (hm : w' ∈ rds n w) : ∀ x ∈ w', 0 ≤ x ∧ x < n := by
  unfold rds at hm
  rw [List.mem_map] at hm
  obtain ⟨ys, h1, rfl⟩ := hm
  have := mem_sqs.1 h1
  exact flB_bd w ys h this.2 this.1
theorem rdsV_lists {n : Nat} {s : FV} {w : List Int} (hs : lsOf s = some (ints w)) (hl : w.length ≤ 1000) : Lists (rdsV n s w) (rds n w) := by
  unfold rdsV
  split
  · exact lists_of fun l hl' => by have := rds_mem hl'; omega
  · rename_i h
    rw [rds_none h]
    exact ⟨[s], rfl, by simp [toL_ls hs], fun x hx => by simp at hx; subst hx; exact ⟨w, hs, by omega⟩⟩
theorem any_swap {n : Nat} {A : List (List Int)} {P : List Int → Bool} {i : Int} (h : ∀ w ∈ A, 0 ≤ gI w i ∧ gI w i < n) : (numFrom 0 n).any (fun x => A.any fun w => decide (gI w i = x) && P w) = A.any P := by
  rw [Bool.eq_iff_iff, List.any_eq_true, List.any_eq_true]
  constructor
  · rintro ⟨x, _, hx⟩
    rw [List.any_eq_true] at hx
    obtain ⟨w, hw, hp⟩ := hx
    rw [Bool.and_eq_true] at hp
    exact ⟨w, hw, hp.2⟩
  · rintro ⟨w, hw, hp⟩
    have := h w hw
    refine ⟨gI w i, mem_numFr.2 (by omega), ?_⟩
    rw [List.any_eq_true]
    exact ⟨w, hw, by simp [hp]⟩
set_option maxHeartbeats 1000000 in
theorem t49 {c : Cs} {sw sp s sg : FV} {w g : List Int} {lo hi : Int} (v : CV c sw sp) (ok : c.Ok) (hs : lsOf s = some (ints w)) (w0 : 1 ≤ w.length) (w7 : w.length ≤ 7) (wb : ∀ x ∈ w, -1 ≤ x ∧ x < c.W.length) (b2 : (blF w 0).length ≤ 2) (hg : lsOf sg = some (ints g)) (hgl : g.length ≤ 1000) (hgb : bdd 100000 g) (gs0 : 0 ≤ sumI g) (gs1 : sumI g ≤ 100000) :
    Fn Q 49 [.fo (c.fv sw sp), .fo s, .fo sg, .fo (.agg [.int lo, .int hi])] (.tup [.fx (.list false (lsW ((blF w 0).map (dueF c.W.length (c.bP g lo hi) w)))), .fx (.bool ((rds c.W.length w).any (c.bP g lo hi)))]) := by
  have o1 := ls_one v.w
  have o2 := ls_one v.p
  have o3 := ls_one hg
  have n8 := ok.n1
  have c106 := t106 v n8 _ hs (by omega) rfl b2
  have hR := rdsV_lists (n := c.W.length) hs (by omega)
  have rl := rds_len (n := c.W.length) n8 b2
  have rmem := fun {w'} (h : w' ∈ rds c.W.length w) => rds_mem h
  have rbd := fun {w'} (h : w' ∈ rds c.W.length w) => rds_bd wb h
  have c79 := t79 hg hgl hgb
  unfold dueF
  generalize rds c.W.length w = A at *
  generalize rdsV c.W.length s w = R at *
  obtain ⟨wl, w1, w2, w3⟩ := hR
  have oR := ls_one w1
  have la : wl.length = A.length := by rw [← w2]; simp
  obtain ⟨F, hF⟩ : ∃ F, F = A.any (c.bP g lo hi) := ⟨_, rfl⟩
  rw [← hF]
  have w2r : IntKind.i64.wrap (2 * c.R) = 2 * c.R := by have := ok.r0; have := ok.r1; exact wr _ (by omega) (by omega)
  refine w49 ?_
  dsimp only [c49, sop, gop, nop, qmv, qsg, qex, qld, qcl, qln, qix, qbo, qt, qi]
  simp -implicitDefEqProofs only [go_sem, simprocAttr, o1, o2]
  refine call1 [] false (c106) ?_
  simp -implicitDefEqProofs only [go_sem, simprocAttr, o1, o2]
  refine lpL (β := Unit) 14 [11, 12, 13] 28 [21] w (by omega) (fun xs k _ => True) (fun k _ ρ h => ρ 13 = .fv (.int (k : Nat)) ∧ ρ 12 = .fv (.bool (decide (0 < k) && F)) ∧ ρ 11 = .gl 21 (h.gen 21) ∧ h.obj 21 = some (.list 22 1 false false (lsW ((blF (w.take k) 0).map fun i => (numFrom 0 c.W.length).filter fun x => A.any fun w' => decide (gI w' i = x) && c.bP g lo hi w')))) () trivial ?_ ?_ ?_
  · simp -implicitDefEqProofs only [go_sem, simprocAttr]
    rfl
  · rintro _ ρ h _ ⟨r13, r12, r11, o21⟩
    rw [List.take_length] at o21
    have e0 : (decide (0 < w.length) && F) = F := by rw [decide_eq_true (by omega)]; rfl
    rw [e0] at r12
    simp -implicitDefEqProofs only [go_sem, simprocAttr, r13, lenV_ls hs, ints_length, r11, r12]
    refine ret_tup (fun _ => true) ?_ (by simp [ownNames])
    simp -implicitDefEqProofs only [go_sem, simprocAttr, o21]
  · rintro a xs i _ ρ h hx hil hm hi' hwi _ ⟨r13, r12, r11, o21⟩
    have swap := any_swap (A := A) (P := c.bP g lo hi) (i := (i : Int)) fun w' hw' => by
      have h1 := gI_get (p := w') (i := (i : Int)) (by omega) (by rw [rmem hw']; omega)
      exact rbd hw' _ (List.mem_of_getElem? h1)
    rw [← hF] at swap
    simp -implicitDefEqProofs only [go_sem, simprocAttr, r13, lenV_ls hs, ints_length, hi']
    refine lpH 29 [12, 14, 15, 16, 17] 28 [] (fun X : Nat => c.W.length - X) (fun X => X ≤ c.W.length) (fun X ρ h => ρ 15 = .fv (.int (X : Nat)) ∧ ρ 12 = .fv (.bool ((decide (0 < i) && F) || (numFrom 0 X).any fun x => A.any fun w' => decide (gI w' i = x) && c.bP g lo hi w')) ∧ ρ 14 = .gl 28 (h.gen 28) ∧ h.obj 28 = some (.list 3 1 false false (ints ((numFrom 0 X).filter fun x => A.any fun w' => decide (gI w' i = x) && c.bP g lo hi w')))) 0 (Nat.zero_le _) ?_ ?_
    · simp -implicitDefEqProofs only [go_sem, simprocAttr, r12]
      exact ⟨by simp [numFrom], rfl⟩
    · rintro X ρ2 h2 hX ⟨r15, r12', r14, o28⟩
      by_cases hXn : X < c.W.length
      · have hX' : (X : Int) < (c.W.length : Nat) := by omega
        have hwX : IntKind.i64.wrap ((X : Int) + 1) = ((X + 1 : Nat) : Int) := wr _ (by omega) (by omega)
        have eX : numFrom 0 (X + 1) = numFrom 0 X ++ [(X : Int)] := by rw [numFr_app]; simp [numFrom]
        simp -implicitDefEqProofs only [go_sem, simprocAttr, r15, lenV_ls v.w, ints_length, hX']
        refine lpL (β := Bool) 36 [12, 16, 17] 36 [] wl (by omega) (fun xs k b => (b || xs.any fun x => decide (gI x.toL i = (X : Int)) && c.bP g lo hi x.toL) = A.any fun w' => decide (gI w' i = (X : Int)) && c.bP g lo hi w') (fun k b ρ h => ρ 17 = .fv (.int (k : Nat)) ∧ ρ 16 = .fv (.bool b) ∧ ρ 12 = .fv (.bool ((((decide (0 < i) && F) || (numFrom 0 X).any fun x => A.any fun w' => decide (gI w' i = x) && c.bP g lo hi w')) || b))) false (by rw [← w2, List.any_map]; rfl) ?_ ?_ ?_
        · simp -implicitDefEqProofs only [go_sem, simprocAttr, r12']
        · rintro b ρ3 h3 e ⟨r17, r16, r12''⟩
          simp only [List.any_nil, Bool.or_false] at e
          have fl : ((numFrom 0 X).filter fun x => A.any fun w' => decide (gI w' i = x) && c.bP g lo hi w').length ≤ X := Nat.le_trans (List.length_filter_le _ _) (by simp [numFrom])
          cases b with
          | true =>
            simp -implicitDefEqProofs only [go_sem, simprocAttr, r17, lenV_ls w1, la, r16, r14, r15]
            refine app_gl (by simp -implicitDefEqProofs only [go_sem, simprocAttr, o28]; rfl) idx_22 (by simp -implicitDefEqProofs only [go_sem, simprocAttr]; rfl) (by simp [FV.cells]) (by simp -implicitDefEqProofs only [go_sem, simprocAttr]) (by simp only [byt_3, ints, List.length_map]; simp; omega) (by simp only [maxLen, ints, List.length_map]; simp; omega) (by simp) ?_
            simp -implicitDefEqProofs only [go_sem, simprocAttr, r15, hwX]
            refine nxt (X + 1) (by omega) (by omega) ?_
            rw [eX]
            simp -implicitDefEqProofs only [go_sem, simprocAttr, r12'', List.filter_append, List.filter_cons, List.filter_nil, ← e, ints, List.map_append, List.any_append, List.any_cons, List.any_nil, Bool.or_false]
          | false =>
            simp -implicitDefEqProofs only [go_sem, simprocAttr, r17, lenV_ls w1, la, r16, r15, hwX]
            refine nxt (X + 1) (by omega) (by omega) ?_
            rw [eX]
            simp -implicitDefEqProofs only [go_sem, simprocAttr, r12'', r14, o28, List.filter_append, List.filter_cons, List.filter_nil, ← e, ints, List.map_append, List.any_append, List.any_cons, List.any_nil, Bool.or_false]
        · rintro x ys k b ρ3 h3 hy hk hmem hk' hwk e ⟨r17, r16, r12''⟩
          have hk2 : (k : Int) < (A.length : Nat) := by omega
          obtain ⟨w', hx1, hx2, hx3⟩ := lists_get w2 w3 hy
          have hw'm : w' ∈ A := List.mem_of_getElem? hx2
          have etL : x.toL = w' := toL_ls hx1
          have gw := gI_get (p := w') (i := (i : Int)) (by omega) (by rw [rmem hw'm]; omega)
          rw [Int.toNat_natCast] at gw
          have wv : WV c x w' := ⟨hx1, by rw [rmem hw'm]; omega, rbd hw'm⟩
          have c78 := t78 v ok wv
          rw [List.any_cons, etL] at e
          by_cases hq : gI w' (i : Nat) = (X : Int)
          · have hq1 : (gI w' (i : Nat) == (X : Int)) = true := by simpa using hq
            have hws := ok.ws w' (rbd hw'm)
            have hr := ok.r0
            have hr1 := ok.r1
            have rml := rmem hw'm
            have ww1 : IntKind.i64.wrap (2 * c.R + c.ws w') = 2 * c.R + c.ws w' := wr _ (by omega) (by omega)
            have ww2 : IntKind.i64.wrap (2 * c.R + c.ws w' + sumI g) = 2 * c.R + c.ws w' + sumI g := wr _ (by omega) (by omega)
            have ebp : inB lo hi (2 * c.R + c.ws w' + sumI g) = c.bP g lo hi w' := rfl
            rw [decide_eq_true hq, Bool.true_and] at e
            simp -implicitDefEqProofs only [go_sem, simprocAttr, r17, lenV_ls w1, la, hk2]
            refine W_opsD _ _ _ (Vs []) ?_ ?_
            · decide
            simp -implicitDefEqProofs only [go_sem, simprocAttr, r17, r13, r15, index_ls w1 idx_56 hy (by rw [hx3]; rfl), hx3, index_map hx1 idx_22 gw rfl, hq1, w2r, o1, o2, oR]
            refine callD [] false [.fo (c.fv sw sp), .fo x] [] c78 ⟨rfl, rfl, trivial⟩ rfl (.inl rfl) ?_
            simp -implicitDefEqProofs only [go_sem, simprocAttr, ww1, o3]
            refine callD [] false [.fo sg] [] c79 ⟨rfl, trivial⟩ rfl (.inl rfl) ?_
            simp -implicitDefEqProofs only [go_sem, simprocAttr, ww1, ww2]
            refine call0 [] false (t36 (2 * c.R + c.ws w' + sumI g) lo hi) (by simp -implicitDefEqProofs only [go_sem, simprocAttr]) (.inl rfl) ?_
            cases gb : c.bP g lo hi w'
            · rw [gb, Bool.false_or] at e
              simp -implicitDefEqProofs only [go_sem, simprocAttr, ebp, gb, r17, hwk]
              refine nxtL b (by rw [← e]) ?_
              simp -implicitDefEqProofs only [go_sem, simprocAttr, r16, r12'']
            · rw [gb, Bool.true_or] at e
              simp -implicitDefEqProofs only [go_sem, simprocAttr, ebp, gb, r17, hwk]
              refine nxtL true (by rw [← e]; simp) ?_
              simp -implicitDefEqProofs only [go_sem, simprocAttr, Bool.or_true]
          · have hq1 : (gI w' (i : Nat) == (X : Int)) = false := by simpa using hq
            rw [decide_eq_false hq, Bool.false_and, Bool.false_or] at e
            simp -implicitDefEqProofs only [go_sem, simprocAttr, r17, lenV_ls w1, la, hk2]
            refine W_opsD _ _ _ (Vs []) ?_ ?_
            · decide
            simp -implicitDefEqProofs only [go_sem, simprocAttr, r17, r13, r15, index_ls w1 idx_56 hy (by rw [hx3]; rfl), hx3, index_map hx1 idx_22 gw rfl, hq1, w2r, o1, o2, oR, hwk]
            refine nxtL b (by rw [← e]) ?_
            simp -implicitDefEqProofs only [go_sem, simprocAttr, r16, r12'']
      · obtain rfl : X = c.W.length := by omega
        have hX' : ¬ (c.W.length : Int) < (c.W.length : Nat) := by omega
        rw [swap] at r12'
        have ef : (decide (0 < i + 1) && F) = ((decide (0 < i) && F) || F) := by rw [decide_eq_true (by omega)]; cases decide (0 < i) <;> simp
        have et : (blF (w.take (i + 1)) 0) = blF (w.take i) 0 ++ (if a = -1 then [(i : Int)] else []) := by
          rw [List.take_add_one, hx, blF_app]
          simp only [Option.toList, blF, List.length_take]
          rw [show 0 + min i w.length = i by omega]
        have lo1 := (blF_bd (w.take i) 0).1
        rw [List.length_take] at lo1
        by_cases ha : a = -1
        · have ha' : (a == -1) = true := by simpa using ha
          rw [if_pos ha] at et
          simp -implicitDefEqProofs only [go_sem, simprocAttr, r15, lenV_ls v.w, ints_length, hX', r13, index_map hs idx_22 hx rfl, ha', r11, r14, o28]
          refine app_gl (by simp -implicitDefEqProofs only [go_sem, simprocAttr, o21]; rfl) idx_56 (by simp -implicitDefEqProofs only [go_sem, simprocAttr]; rfl) (by simp [FV.cells]) (by simp -implicitDefEqProofs only [go_sem, simprocAttr]) (by simp only [byt_22, lsW, List.length_map]; simp; omega) (by simp only [maxLen, lsW, List.length_map]; simp; omega) (by simp) ?_
          simp -implicitDefEqProofs only [go_sem, simprocAttr, r13, hwi]
          refine nxtL () trivial ?_
          rw [ef, et]
          simp -implicitDefEqProofs only [go_sem, simprocAttr, r12', List.map_append]
        · have ha' : (a == -1) = false := by simpa using ha
          rw [if_neg ha, List.append_nil] at et
          simp -implicitDefEqProofs only [go_sem, simprocAttr, r15, lenV_ls v.w, ints_length, hX', r13, index_map hs idx_22 hx rfl, ha', hwi]
          refine nxtL () trivial ?_
          rw [ef, et]
          simp -implicitDefEqProofs only [go_sem, simprocAttr, r12', r11, o21]
end S04

