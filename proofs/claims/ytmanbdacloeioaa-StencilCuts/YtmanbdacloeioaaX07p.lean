/- A part of the proof: X07p. -/
import Derived.Test.YtmanbdacloeioaaX07l
import Derived.Test.YtmanbdacloeioaaP07f
import Derived.Test.YtmanbdacloeioaaC07t0
set_option linter.unusedVariables false
set_option linter.unusedSimpArgs false
set_option maxRecDepth 20000
namespace S07
open Go Abs
theorem t72 {st : FV} {N : Int} {hs al : FV} {H A : List (Int × Int)} (v : SetV st N hs al H A) (eA : errA N H A = 0) {sc sc' sW : FV} {c c' : List Int} {W : List (List Int)} (h1 : lsOf sc = some (ints c)) (h2 : lsOf sc' = some (ints c')) (hW : Lists sW W) (W5 : W.length ≤ 1000) (hWw : ∀ w ∈ W, WordOk N w) (co : CntB N c) (co' : CntB N c') :
    Fn Q 72 [.fo st, .fo sc, .fo sc', .fo sW] (.one (.fx (.bool (W.any fun w => decide ((lackR N H A c' w).length < (lackR N H A c w).length))))) := by
  have c34 := fun {sw : FV} {w : List Int} (hw : lsOf sw = some (ints w)) wl wb => t34 v eA (sw := sw) (w := w) h1 hw co wl wb
  have c34' := fun {sw : FV} {w : List Int} (hw : lsOf sw = some (ints w)) wl wb => t34 v eA (sw := sw) (w := w) h2 hw co' wl wb
  obtain ⟨wl, w1, w2, w3⟩ := hW
  have la : wl.length = W.length := by rw [← w2]; simp
  obtain ⟨rfl, hH, hA, lH, lA⟩ := v
  have o1 := ls_one hH
  have o2 := ls_one hA
  refine w72 ?_
  dsimp only [c72, sop, gop, nop, qmv, qsg, qex, qld, qcl, qln, qix, qbo, qt, qi]
  simp -implicitDefEqProofs only [go_sem, simprocAttr, o1, o2]
  refine lpL (β := Unit) 10 [9] 10 [] W (by omega) (fun r _ _ => (W.any fun w => decide ((lackR N H A c' w).length < (lackR N H A c w).length)) = r.any fun w => decide ((lackR N H A c' w).length < (lackR N H A c w).length)) (fun i _ ρ h => ρ 9 = .fv (.int i)) () rfl (by simp -implicitDefEqProofs only [go_sem, simprocAttr]) ?_ ?_
  · rintro _ ρ h e r9
    rw [List.any_nil] at e
    simp -implicitDefEqProofs only [go_sem, simprocAttr, r9, lenV_ls w1, la]
    exact ret_eq (by rw [e])
  · rintro w ws i _ ρ h hw hi hm hi' hwi e r9
    obtain ⟨x, hx⟩ : ∃ x, wl[i]? = some x := ⟨_, List.getElem?_eq_getElem (by omega)⟩
    obtain ⟨l, hl1, hl2, hl3⟩ := lists_get (s := sW) w2 w3 hx
    obtain rfl : l = w := by rw [hl2] at hw; simpa using hw
    have wok := hWw l hm
    have cm := c34' hl1 wok.l6 wok.bd
    have cn := c34 hl1 wok.l6 wok.bd
    rw [List.any_cons] at e
    simp -implicitDefEqProofs only [go_sem, simprocAttr, r9, lenV_ls w1, la, hi']
    refine W_opsD _ _ _ (Vs []) ?_ ?_
    · decide
    simp -implicitDefEqProofs only [go_sem, simprocAttr, r9, index_ls w1 idx_25 hx (by rw [hl3]; rfl), hl3, o1, o2]
    refine callD [] false [.fo (.agg [.int N, hs, al]), .fo sc', .fo x] [] cm ⟨rfl, rfl, rfl, trivial⟩ rfl (.inl rfl) ?_
    simp -implicitDefEqProofs only [go_sem, simprocAttr, r9, index_ls w1 idx_25 hx (by rw [hl3]; rfl), hl3, o1, o2]
    refine callD [] false [.fo (.agg [.int N, hs, al]), .fo sc, .fo x] [] cn ⟨rfl, rfl, rfl, trivial⟩ rfl (.inl rfl) ?_
    by_cases q : (lackR N H A c' l).length < (lackR N H A c l).length
    · have q' : ((((lackR N H A c' l).length : Nat) : Int) < ((lackR N H A c l).length : Nat)) := by omega
      have qd : decide ((lackR N H A c' l).length < (lackR N H A c l).length) = true := decide_eq_true q
      simp -implicitDefEqProofs only [go_sem, simprocAttr, ints_len, q']
      exact ret_eq (by rw [e, qd]; rfl)
    · have q' : ¬ ((((lackR N H A c' l).length : Nat) : Int) < ((lackR N H A c l).length : Nat)) := by omega
      have qd : decide ((lackR N H A c' l).length < (lackR N H A c l).length) = false := decide_eq_false q
      simp -implicitDefEqProofs only [go_sem, simprocAttr, ints_len, q', r9, hwi]
      refine nxtL () (by rw [e, qd]; rfl) ?_
      simp -implicitDefEqProofs only [go_sem, simprocAttr]
theorem ls_own {e es o : Nat} {h : AH} {v : LV} {xs : List FV} {fz : Bool} (hv : v = .gl o (h.gen o)) (ho : h.obj o = some (.list e es fz false xs)) : LsAt e es [o] v h xs := .inr ⟨o, by simp, hv, fz, ho⟩
theorem zip_zero : ∀ (c : List Int), List.zipWith (· + ·) c (List.replicate c.length 0) = c
  | [] => rfl
  | x :: c => by rw [List.length_cons, List.replicate_succ, List.zipWith_cons_cons, zip_zero c]; simp
set_option maxHeartbeats 2000000 in
theorem t36 {st : FV} {N : Int} {hs al : FV} {H A : List (Int × Int)} (v : SetV st N hs al H A) (eA : errA N H A = 0) {sc sW : FV} {c : List Int} {W : List (List Int)} (hc : lsOf sc = some (ints c)) (hW : Lists sW W) (W5 : W.length ≤ 1000) (hWw : ∀ w ∈ W, WordOk N w) (co : CountOk N c) :
    Fn Q 36 [.fo st, .fo sc, .fo sW] (.one (.fx (.list false (ints (cutR N H A c W))))) := by
  obtain ⟨n0, n8, _⟩ := errA_ok eA
  have c72 := fun {a b : List Int} (ca : CntB N a) (cb : CntB N b) => t72 v eA (sc := .list false (ints a)) (sc' := .list false (ints b)) (c := a) (c' := b) rfl rfl hW W5 hWw ca cb
  obtain ⟨rfl, hH, hA, lH, lA⟩ := v
  have o1 := ls_one hH
  have o2 := ls_one hA
  have cl := co.len
  have c8 : c.length ≤ 8 := by omega
  have cul := cut_len eA co hWw
  have cat := fun (t : Nat) (h : (t : Int) < N) => cut_at eA co hWw (t := (t : Int)) (by omega) h
  have w1 : IntKind.i64.wrap (N - 1) = N - 1 := wr _ (by omega) (by omega)
  rcases ls_cases hc with ⟨fg, rfl⟩ | ⟨rfl, e⟩
  rotate_left
  · have : c = [] := by simpa [ints] using e
    rw [this] at cl; simp at cl; omega
  refine w36 ?_
  dsimp only [c36, sop, gop, nop, qmv, qsg, qex, qld, qcl, qln, qix, qbo, qt, qi]
  simp -implicitDefEqProofs only [go_sem, simprocAttr, o1, o2]
  refine W_opsD _ _ _ (Vs [[12], [], [12], [], [], [17], [], []]) ?_ ?_
  · decide
  simp -implicitDefEqProofs only [go_sem, simprocAttr, o1, o2]
  refine app_gl (ys := ints c) (by simp -implicitDefEqProofs only [go_sem, simprocAttr]; rfl) idx_26 (by simp -implicitDefEqProofs only [go_sem, simprocAttr]) (fun x hx => (ints_elem c x hx).1) (by simp -implicitDefEqProofs only [go_sem, simprocAttr]) (by simp [byt_3, ints]; omega) (by simp [maxLen, ints]; omega) (by simp) ?_
  simp -implicitDefEqProofs only [go_sem, simprocAttr, o1, o2]
  refine ⟨by omega, by omega, by omega, ?_⟩
  obtain ⟨cu, hcu⟩ : ∃ cu, cutR N H A c W = cu := ⟨_, rfl⟩
  rw [hcu] at cul cat
  refine lpHV 21 [7, 8, 9, 10, 11] 21 [12, 17] (fun a : Nat × List Int => a.1) (fun a => (a.1 : Int) ≤ N ∧ (a.2.length : Int) = N ∧ (∀ i : Nat, i < a.1 → gI a.2 (i : Nat) = 0) ∧ ∀ i : Nat, a.1 ≤ i → (i : Int) < N → gI a.2 (i : Nat) = gI cu (i : Nat))
    (fun a ρ h => ρ 9 = .fv (.int ((a.1 : Int) - 1)) ∧ LsAt 3 1 [12, 26] (ρ 7) h (ints (List.zipWith (· + ·) c a.2)) ∧ LsAt 3 1 [17, 42] (ρ 8) h (ints a.2))
    (fun a ρ h => ρ 9 = .fv (.int ((a.1 : Int) - 1)) ∧ ρ 7 = .fv (.list false (ints (List.zipWith (· + ·) c a.2))) ∧ ρ 8 = .fv (.list false (ints a.2)))
    (N.toNat, List.replicate N.toNat 0) ⟨by simp only; omega, by simp; omega, fun i hi => gI_rep _ _, fun i h1 h2 => by simp only at h1; omega⟩ ?_ ?_ ?_
  · have e1 : List.zipWith (· + ·) c (List.replicate N.toNat 0) = c := by rw [show N.toNat = c.length by omega]; exact zip_zero c
    dsimp only
    rw [e1]
    have e2 : ((N.toNat : Nat) : Int) - 1 = N - 1 := by omega
    refine ⟨by simp -implicitDefEqProofs only [go_sem, simprocAttr, w1, e2], .inr ⟨12, by simp, by simp -implicitDefEqProofs only [go_sem, simprocAttr], false, by simp -implicitDefEqProofs only [go_sem, simprocAttr]⟩, .inr ⟨17, by simp, by simp -implicitDefEqProofs only [go_sem, simprocAttr], false, by simp -implicitDefEqProofs only [go_sem, simprocAttr, ← rep_ints]; rfl⟩⟩
  · rintro a ⟨ρ, h⟩ _ f1 f2 ⟨r9, l7, l8⟩
    refine ⟨_, view2 (i := 7) (j := 8) (by decide) l7 l8, ?_, ?_, ?_⟩
    · simp -implicitDefEqProofs only [go_sem, simprocAttr]
      exact f1
    · exact offH_frz f2 (by decide)
    · simp -implicitDefEqProofs only [go_sem, simprocAttr]
      exact r9
  · rintro ⟨m, out⟩ ρ h ⟨hm, ol, hlo, hhi⟩ ⟨r9, r7, r8⟩
    dsimp only at hm ol hlo hhi r9 r7 r8
    cases m with
    | zero =>
      have eo : out = cu := by
        rw [← hcu]
        refine List.ext_getElem? fun i => ?_
        rw [hcu]
        by_cases hi : i < out.length
        · have e := hhi i (by omega) (by omega)
          have g1 := gI_get (p := out) (i := (i : Int)) (by omega) (by omega)
          have g2 := gI_get (p := cu) (i := (i : Int)) (by omega) (by omega)
          rw [Int.toNat_natCast] at g1 g2
          rw [g1, g2, e]
        · rw [List.getElem?_eq_none (by omega), List.getElem?_eq_none (by omega)]
      have q' : ¬ (0 : Int) ≤ ((0 : Nat) : Int) - 1 := by omega
      simp -implicitDefEqProofs only [go_sem, simprocAttr, r9, q', r8]
      exact ret_eq (by rw [eo, hcu])
    | succ k =>
      have kN : (k : Int) < N := by omega
      have e9 : ((k + 1 : Nat) : Int) - 1 = (k : Int) := by omega
      rw [e9] at r9
      have k0 : (0 : Int) ≤ (k : Int) := by omega
      have hwk : IntKind.i64.wrap ((k : Int) - 1) = (k : Int) - 1 := wr _ (by omega) (by omega)
      obtain ⟨g1, g2, _⟩ := cat k kN
      simp -implicitDefEqProofs only [go_sem, simprocAttr, r9, k0]
      refine lpHV 25 [7, 8, 10, 11] 25 [] (fun a : List Int × Bool => 2 * (gI cu (k : Nat) - gI a.1 (k : Nat)).toNat + a.2.toNat) (fun a => CutI N H A c W k a.1 ∧ (a.2 = false → gI a.1 (k : Nat) = gI cu (k : Nat)))
        (fun a ρ h => ρ 10 = .fv (.bool a.2) ∧ LsAt 3 1 [26] (ρ 7) h (ints (List.zipWith (· + ·) c a.1)) ∧ LsAt 3 1 [42] (ρ 8) h (ints a.1))
        (fun a ρ h => ρ 10 = .fv (.bool a.2) ∧ ρ 7 = .fv (.list false (ints (List.zipWith (· + ·) c a.1))) ∧ ρ 8 = .fv (.list false (ints a.1)))
        (out, true) ⟨⟨ol, fun i hi => hlo i (by omega), fun i h1 h2 => by rw [hcu]; exact hhi i (by omega) h2, by rw [hlo k (by omega), hcu]; omega⟩, by simp⟩ (by simp -implicitDefEqProofs only [go_sem, simprocAttr, r7, r8]; exact ⟨.inl rfl, .inl rfl⟩) ?_ ?_
      · rintro a ⟨ρ2, h2⟩ _ f1 f2 ⟨r10, l7, l8⟩
        refine ⟨_, view2 (i := 7) (j := 8) (by decide) l7 l8, ?_, ?_, ?_⟩
        · simp -implicitDefEqProofs only [go_sem, simprocAttr]
          exact f1
        · exact offH_frz f2 (by decide)
        · simp -implicitDefEqProofs only [go_sem, simprocAttr]
          exact r10
      · rintro ⟨out2, hb⟩ ρ2 h2 ⟨ci, hend⟩ ⟨r10, r7, r8⟩
        dsimp only at ci hend r10 r7 r8
        cases hb with
        | false =>
          have he := hend rfl
          simp -implicitDefEqProofs only [go_sem, simprocAttr, r10, r9, hwk]
          refine nxt (k, out2) (by simp only; omega) ⟨by simp only; omega, ci.len, ci.lo, fun i h1 h2 => ?_⟩ ?_
          · by_cases e : i = k
            · subst e; exact he
            · rw [ci.hi i (by simp only at h1; omega) h2, hcu]
          · simp -implicitDefEqProofs only [go_sem, simprocAttr, r7, r8]
            exact ⟨.inl rfl, .inl rfl⟩
        | true =>
          obtain ⟨nb, nb'⟩ := cutI_now eA co hWw ci
          have hh := cutI_help eA co hWw kN ci
          have ol2 := ci.len
          have nl : (List.zipWith (· + ·) c out2).length = c.length := by rw [List.length_zipWith]; omega
          have ea := zip_addAt c out2 k 1 (by omega)
          obtain ⟨nw, hnw⟩ : ∃ nw, List.zipWith (· + ·) c out2 = nw := ⟨_, rfl⟩
          rw [hnw] at nb nb' hh nl r7 ea
          have mb : CntB N (addAt nw (k : Nat) 1) := by
            refine ⟨by rw [addAt_len]; omega, fun n hn => ?_⟩
            unfold addAt at hn
            rw [Int.toNat_natCast] at hn
            rcases List.mem_or_eq_of_mem_set hn with hn | rfl
            · have := nb' n hn; omega
            · have e : nw.getD k 0 ∈ nw := by
                rw [List.getD_eq_getElem?_getD, List.getElem?_eq_getElem (by omega)]; exact List.getElem_mem _
              have := nb' _ e
              omega
          have c1 := c72 nb mb
          rw [hh, hcu] at c1
          have kl : (k : Int) < (nw.length : Nat) := by omega
          have kl2 : (k : Int) < (out2.length : Nat) := by omega
          have gk : (ints nw)[k]? = some (.int (gI nw (k : Nat))) := by
            have := ints_get (l := nw) (i := (k : Int)) (by omega) (by omega)
            simpa using this
          have gk2 : (ints out2)[k]? = some (.int (gI out2 (k : Nat))) := by
            have := ints_get (l := out2) (i := (k : Int)) (by omega) (by omega)
            simpa using this
          have b1 := nb' _ (gI_mem (p := nw) (i := k) (by omega))
          have ga := ci.at'
          rw [hcu] at ga
          have wa : IntKind.i64.wrap (gI nw (k : Nat) + 1) = gI nw (k : Nat) + 1 := wr _ (by omega) (by omega)
          have wb : IntKind.i64.wrap (gI out2 (k : Nat) + 1) = gI out2 (k : Nat) + 1 := wr _ (by omega) (by omega)
          have s1 : nw.set k (gI nw (k : Nat) + 1) = addAt nw (k : Nat) 1 := by
            unfold addAt
            rw [Int.toNat_natCast, show nw.getD k 0 = gI nw (k : Nat) by simp [gI]]
          have s2 : out2.set k (gI out2 (k : Nat) + 1) = addAt out2 (k : Nat) 1 := by
            unfold addAt
            rw [Int.toNat_natCast, show out2.getD k 0 = gI out2 (k : Nat) by simp [gI]]
          simp -implicitDefEqProofs only [go_sem, simprocAttr, r10, r7]
          refine app_gl (ys := ints nw) (by simp -implicitDefEqProofs only [go_sem, simprocAttr]; rfl) idx_26 (by simp -implicitDefEqProofs only [go_sem, simprocAttr]) (fun x hx => (ints_elem nw x hx).1) (by simp -implicitDefEqProofs only [go_sem, simprocAttr]) (by simp [byt_3, ints]; omega) (by simp [maxLen, ints]; omega) (by simp) ?_
          simp -implicitDefEqProofs only [go_sem, simprocAttr, r9, ints_len, kl, gk, wa]
          refine sto_elem (by rfl) (by rfl) (by rfl) (by simp -implicitDefEqProofs only [go_sem, simprocAttr]; rfl) gk (by decide) ?_
          simp -implicitDefEqProofs only [go_sem, simprocAttr, FV.withCells, ints_set, s1, o1, o2, r7]
          refine call0 [26] false c1 (by simp -implicitDefEqProofs only [go_sem, simprocAttr]) (.inl rfl) ?_
          by_cases lt : gI out2 (k : Nat) < gI cu (k : Nat)
          · have ltd : decide (gI out2 (k : Nat) < gI cu (k : Nat)) = true := decide_eq_true lt
            simp -implicitDefEqProofs only [go_sem, simprocAttr, ltd, r8]
            refine app_gl (ys := ints out2) (by simp -implicitDefEqProofs only [go_sem, simprocAttr]; rfl) idx_26 (by simp -implicitDefEqProofs only [go_sem, simprocAttr]) (fun x hx => (ints_elem out2 x hx).1) (by simp -implicitDefEqProofs only [go_sem, simprocAttr]) (by simp [byt_3, ints]; omega) (by simp [maxLen, ints]; omega) (by simp) ?_
            simp -implicitDefEqProofs only [go_sem, simprocAttr, r9, ints_len, kl2, gk2, wb]
            refine sto_elem (by rfl) (by rfl) (by rfl) (by simp -implicitDefEqProofs only [go_sem, simprocAttr]; rfl) gk2 (by decide) ?_
            simp -implicitDefEqProofs only [go_sem, simprocAttr, FV.withCells, ints_set, s2]
            have gA : ∀ i : Nat, gI (addAt out2 (k : Nat) 1) (i : Nat) = if (i : Int) = (k : Int) then gI out2 (k : Nat) + 1 else gI out2 (i : Nat) := fun i => gI_addAt (by omega) kl2 (by omega)
            have gkk : gI (addAt out2 (k : Nat) 1) (k : Nat) = gI out2 (k : Nat) + 1 := by rw [gA k, if_pos rfl]
            refine nxt (addAt out2 (k : Nat) 1, true) (by simp only [gkk]; omega) ⟨⟨by rw [addAt_len]; exact ol2, fun i hi => by rw [gA i, if_neg (by omega)]; exact ci.lo i hi, fun i h1 h2 => by rw [gA i, if_neg (by omega)]; exact ci.hi i h1 h2, by rw [gkk, hcu]; omega⟩, by simp⟩ ?_
            dsimp only
            rw [ea]
            simp -implicitDefEqProofs only [go_sem, simprocAttr]
            exact ⟨ls_own (by simp -implicitDefEqProofs only [go_sem, simprocAttr]) (by simp -implicitDefEqProofs only [go_sem, simprocAttr]; rfl), ls_own (by simp -implicitDefEqProofs only [go_sem, simprocAttr]) (by simp -implicitDefEqProofs only [go_sem, simprocAttr]; rfl)⟩
          · have ltd : decide (gI out2 (k : Nat) < gI cu (k : Nat)) = false := decide_eq_false lt
            simp -implicitDefEqProofs only [go_sem, simprocAttr, ltd]
            refine nxt (out2, false) (by show 2 * (gI cu (k : Nat) - gI out2 (k : Nat)).toNat + 0 < 2 * (gI cu (k : Nat) - gI out2 (k : Nat)).toNat + 1; omega) ⟨ci, fun _ => by show gI out2 (k : Nat) = gI cu (k : Nat); omega⟩ ?_
            dsimp only
            rw [hnw]
            simp -implicitDefEqProofs only [go_sem, simprocAttr, r7, r8]
            exact ⟨.inl rfl, .inl rfl⟩
end S07

