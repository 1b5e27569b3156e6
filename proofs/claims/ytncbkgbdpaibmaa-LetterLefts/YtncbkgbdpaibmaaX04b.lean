/- A part of the proof: X04b. -/
import Derived.Test.YtncbkgbdpaibmaaP04c
import Derived.Test.YtncbkgbdpaibmaaH04h
import Derived.Test.YtncbkgbdpaibmaaC04s0
set_option linter.unusedVariables false
set_option linter.unusedSimpArgs false
set_option maxRecDepth 20000
namespace S04
open Go Abs
theorem t87 {sa sb : FV} {a b : List Int} (h1 : lsOf sa = some (ints a)) (h2 : lsOf sb = some (ints b)) (hl : a.length = b.length) (l1 : a.length ≤ 1000000) : Fn Q 87 [.fo sa, .fo sb] (.one (.fx (.bool (decide (cmpL a b < 0))))) := by
  refine w87 ?_
  dsimp only [c87, sop, gop, nop, qmv, qsg, qex, qld, qcl, qln, qix, qbo, qt, qi]
  simp -implicitDefEqProofs only [go_sem, simprocAttr]
  refine lpH 6 [5] 6 [] (fun k : Nat => a.length - k) (fun k => k ≤ a.length ∧ cmpL (a.drop k) (b.drop k) = cmpL a b) (fun k ρ h => ρ 5 = .fv (.int (k : Nat))) 0 ⟨Nat.zero_le _, by simp⟩ ?_ ?_
  · simp -implicitDefEqProofs only [go_sem, simprocAttr]
  · rintro k ρ h' ⟨hk, et⟩ r5
    by_cases q1 : k < a.length
    · have q1' : (k : Int) < (a.length : Nat) := by omega
      have hw : IntKind.i64.wrap ((k : Int) + 1) = ((k + 1 : Nat) : Int) := wr _ (by omega) (by omega)
      obtain ⟨x, hx⟩ : ∃ x, a[k]? = some x := ⟨_, List.getElem?_eq_getElem q1⟩
      obtain ⟨y, hy⟩ : ∃ y, b[k]? = some y := ⟨_, List.getElem?_eq_getElem (show k < b.length by omega)⟩
      rw [drop_get hx, drop_get hy, cmpL] at et
      by_cases e : x = y
      · have e' : (x != y) = false := by simp [e]
        subst e
        rw [cmpI_eq, if_neg (by simp)] at et
        simp -implicitDefEqProofs only [go_sem, simprocAttr, r5, lenV_ls h1, ints_length, q1', index_map h1 idx_22 hx rfl, index_map h2 idx_22 hy rfl, e', hw]
        refine nxt (k + 1) (by omega) ⟨q1, et⟩ ?_
        simp -implicitDefEqProofs only [go_sem, simprocAttr]
      · have e' : (x != y) = true := by simpa using e
        simp -implicitDefEqProofs only [go_sem, simprocAttr, r5, lenV_ls h1, ints_length, q1', index_map h1 idx_22 hx rfl, index_map h2 idx_22 hy rfl, e']
        refine ret_eq ?_
        rw [← et]
        rcases Int.lt_trichotomy x y with g | g | g
        · rw [cmpI_lt g]; simp [g]
        · exact absurd g e
        · have : ¬ x < y := by omega
          rw [cmpI_gt g]; simp [this]
    · have q1' : ¬ (k : Int) < (a.length : Nat) := by omega
      simp -implicitDefEqProofs only [go_sem, simprocAttr, r5, lenV_ls h1, ints_length, q1']
      refine ret_eq ?_
      rw [List.drop_of_length_le (by omega), List.drop_of_length_le (by omega), cmpL] at et
      rw [← et]; rfl
def valR (L lo hi : Int) (sb : FV) (ms b : List Int) (all : Int) : FV := match ms with
  | [] => sb
  | m :: ms => optL (fillR L lo hi (m :: ms) b all)
theorem glR_nn {L lo : Int} : ∀ ms : List Int, 0 ≤ sumI (glR L lo ms)
  | [] => by simp [glR, sumI]
  | m :: ms => by
    have := glR_nn (L := L) (lo := lo) ms
    simp only [glR, List.map_cons, sumI] at this ⊢
    omega
theorem glR_bd {L lo : Int} {ms : List Int} (l0 : 0 ≤ L) (l1 : L ≤ 10) (h0 : 0 ≤ lo) (h1 : lo ≤ 2000) (h : bdd 5 ms) : bdd 2005 (glR L lo ms) := by
  intro x hx
  obtain ⟨m, hm, rfl⟩ := List.mem_map.1 hx
  have := h m hm
  omega
theorem t86 {c : Cs} {sw sp s : FV} {w : List Int} (v : CV c sw sp) (ok : c.Ok) (ws : WV c s w) {lo hi : Int} (l0 : 0 ≤ lo) (l1 : lo ≤ 2000) (h0 : 0 ≤ hi) (h1 : hi ≤ 4000) : ∀ (ms b : List Int) (sb : FV) (all : Int), c.loo (w.drop b.length) = ms → b.length + ms.length + 1 = w.length → lsOf sb = some (ints b) → -1000 ≤ all → all ≤ 1000 →
    Fn Q 86 [.fo (c.fv sw sp), .fo s, .fo sb, .fo (.int lo), .fo (.int hi), .fo (.int all)] (.tup [.fx (valR c.L lo hi sb ms b all), .fx (.bool (fillR c.L lo hi ms b all).isSome)])
  | [], b, sb, all, hms, hlen, hsb, a0, a1 => by
    have o1 := ls_one v.w
    have o2 := ls_one v.p
    have wl := ws.l
    have w1 : IntKind.i64.wrap ((w.length : Int) - 1) = (w.length : Int) - 1 := wr _ (by omega) (by omega)
    have e1 : (((b.length : Nat) : Int) == (w.length : Int) - 1) = true := by simp at hlen; simp; omega
    refine w86 ?_
    dsimp only [c86, sop, gop, nop, qmv, qsg, qex, qld, qcl, qln, qix, qbo, qt, qi]
    simp -implicitDefEqProofs only [go_sem, simprocAttr, o1, o2, lenV_ls hsb, lenV_ls ws.s, ints_length, w1, e1]
    refine ret_tup (fun _ => true) ?_ (by simp [ownNames])
    by_cases e : all = 0
    · have e' : (all == 0) = true := by simpa using e
      simp -implicitDefEqProofs only [go_sem, simprocAttr, valR, fillR, e, if_pos, Option.isSome]
    · have e' : (all == 0) = false := by simpa using e
      simp -implicitDefEqProofs only [go_sem, simprocAttr, valR, fillR, e', e, Option.isSome]
  | m :: ms, b, sb, all, hms, hlen, hsb, a0, a1 => by
    have o1 := ls_one v.w
    have o2 := ls_one v.p
    have o3 := ls_one ws.s
    have cl0 := ok.l0
    have cl1 := ok.l1
    have wl := ws.l
    have hmb : bdd 5 (m :: ms) := by rw [← hms]; exact ok.loo _
    have hmm := hmb m (by simp)
    have hms5 : bdd 5 ms := fun x hx => hmb x (by simp [hx])
    simp only [List.length_cons] at hlen
    have w1 : IntKind.i64.wrap ((w.length : Int) - 1) = (w.length : Int) - 1 := wr _ (by omega) (by omega)
    have w2 : IntKind.i64.wrap ((b.length : Int) + 1) = ((b.length + 1 : Nat) : Int) := wr _ (by omega) (by omega)
    have e1 : (((b.length : Nat) : Int) == (w.length : Int) - 1) = false := by simp; omega
    obtain ⟨x, y, x1, x2, x3, x4⟩ := drop2 (l := w) (k := b.length) (by omega)
    rw [x3, Cs.loo, ← x4] at hms
    obtain ⟨hm1, hm2⟩ : c.mo x y = m ∧ c.loo (w.drop (b.length + 1)) = ms := by simpa using hms
    have c81 := fun a b => t81 (a := a) (b := b) v
    have c113 := fun a b => t113 (a := a) (b := b) v ok
    have hs := ws.s
    have gmb := gm_bd (hi := hi) h0 h1 hms5
    have glb := glR_bd cl0 cl1 l0 l1 hms5
    have msl : ms.length ≤ 20 := by omega
    have gms := sumI_bd _ gmb
    have gls := sumI_bd _ glb
    have gln := glR_nn (L := c.L) (lo := lo) ms
    rw [show (gm hi ms).length = ms.length by simp [gm]] at gms
    rw [show (glR c.L lo ms).length = ms.length by simp [glR]] at gls
    refine w86 ?_
    dsimp only [c86, sop, gop, nop, qmv, qsg, qex, qld, qcl, qln, qix, qbo, qt, qi]
    simp -implicitDefEqProofs only [go_sem, simprocAttr, o1, o2, lenV_ls hsb, lenV_ls hs, ints_length, w1, e1, w2]
    refine lpH 35 [15, 16, 17, 18] 35 [] (fun a : Nat × Int × Int => w.length - a.1) (fun a => b.length + 1 ≤ a.1 ∧ a.1 + 1 ≤ w.length ∧ a.2.1 + sumI (gm hi (c.loo (w.drop a.1))) = sumI (gm hi ms) ∧ a.2.2 + sumI (glR c.L lo (c.loo (w.drop a.1))) = sumI (glR c.L lo ms)) (fun a ρ h => ρ 17 = .fv (.int (a.1 : Nat)) ∧ ρ 15 = .fv (.int a.2.1) ∧ ρ 16 = .fv (.int a.2.2)) (b.length + 1, 0, 0) ⟨Nat.le_refl _, by simp only; omega, by simp [hm2], by simp [hm2]⟩ ?_ ?_
    · simp -implicitDefEqProofs only [go_sem, simprocAttr]
    · rintro ⟨k, mo, le⟩ ρ h ⟨k0, k1, e2, e3⟩ ⟨r17, r15, r16⟩
      dsimp only at k0 k1 e2 e3 r17 r15 r16
      have hlo2 : bdd 5 (c.loo (w.drop (k + 1))) := ok.loo _
      have lk : (c.loo (w.drop (k + 1))).length ≤ 20 := by rw [Cs.loo_len]; simp; omega
      have q1 := sumI_bd _ (gm_bd (hi := hi) h0 h1 hlo2)
      have q2 := sumI_bd _ (glR_bd cl0 cl1 l0 l1 hlo2)
      rw [show (gm hi (c.loo (w.drop (k + 1)))).length = (c.loo (w.drop (k + 1))).length by simp [gm]] at q1
      rw [show (glR c.L lo (c.loo (w.drop (k + 1)))).length = (c.loo (w.drop (k + 1))).length by simp [glR]] at q2
      by_cases hk : (k : Int) < (w.length : Int) - 1
      · obtain ⟨a, a', g1, g2, g3, g4⟩ := drop2 (l := w) (k := k) (by omega)
        have wk : IntKind.i64.wrap ((k : Int) + 1) = ((k + 1 : Nat) : Int) := wr _ (by omega) (by omega)
        have hmo := ok.mo a a'
        rw [g3, Cs.loo, ← g4] at e2 e3
        have e2 : mo + ((hi - c.mo a a') + sumI (gm hi (c.loo (w.drop (k + 1))))) = sumI (gm hi ms) := e2
        have e3 : le + (max (max 0 (c.L - c.mo a a')) (lo - c.mo a a') + sumI (glR c.L lo (c.loo (w.drop (k + 1))))) = sumI (glR c.L lo ms) := e3
        have w3 : IntKind.i64.wrap (hi - c.mo a a') = hi - c.mo a a' := wr _ (by omega) (by omega)
        have w4 : IntKind.i64.wrap (mo + (hi - c.mo a a')) = mo + (hi - c.mo a a') := wr _ (by omega) (by omega)
        have w5 : IntKind.i64.wrap (lo - c.mo a a') = lo - c.mo a a' := wr _ (by omega) (by omega)
        have w6 : IntKind.i64.wrap (le + max (max 0 (c.L - c.mo a a')) (lo - c.mo a a')) = le + max (max 0 (c.L - c.mo a a')) (lo - c.mo a a') := wr _ (by omega) (by omega)
        have cc := c81 a a'
        rw [ok.moR a a'] at cc
        simp -implicitDefEqProofs only [go_sem, simprocAttr, r17, r15, r16, lenV_ls hs, ints_length, w1, hk, wk, index_map hs idx_22 g1 rfl, index_map hs idx_22 g2 rfl, o1, o2]
        refine call1 [] false (cc) ?_
        simp -implicitDefEqProofs only [go_sem, simprocAttr, r15, r16, r17, w3, w4, wk, index_map hs idx_22 g1 rfl, index_map hs idx_22 g2 rfl, o1, o2]
        refine call1 [] false (c113 a a') ?_
        simp -implicitDefEqProofs only [go_sem, simprocAttr, w5, w6, r16, r17, wk]
        refine nxt (k + 1, mo + (hi - c.mo a a'), le + max (max 0 (c.L - c.mo a a')) (lo - c.mo a a')) (by simp only; omega) ⟨by simp only; omega, by simp only; omega, ?_, ?_⟩ ?_
        · dsimp only; omega
        · dsimp only; omega
        · simp -implicitDefEqProofs only [go_sem, simprocAttr]
      · have ek : c.loo (w.drop k) = [] := List.eq_nil_of_length_eq_zero (by rw [Cs.loo_len]; simp; omega)
        rw [ek] at e2 e3
        simp only [gm, glR, List.map_nil, sumI, Int.add_zero] at e2 e3
        have e2' : mo = sumI (gm hi ms) := e2
        have e3' : le = sumI (glR c.L lo ms) := e3
        subst e2' e3'
        have cc := c81 x y
        have cd := c113 x y
        rw [ok.moR x y, hm1] at cc
        rw [hm1] at cd
        have w5 : IntKind.i64.wrap (lo - m) = lo - m := wr _ (by omega) (by omega)
        have w3 : IntKind.i64.wrap (hi - m) = hi - m := wr _ (by omega) (by omega)
        simp -implicitDefEqProofs only [go_sem, simprocAttr, r17, r15, r16, lenV_ls hs, ints_length, w1, hk, w2, index_map hs idx_22 x1 rfl, index_map hs idx_22 x2 rfl, o1, o2]
        refine call1 [] false (cc) ?_
        simp -implicitDefEqProofs only [go_sem, simprocAttr, w2, index_map hs idx_22 x1 rfl, index_map hs idx_22 x2 rfl, o1, o2]
        refine call1 [] false (cd) ?_
        simp -implicitDefEqProofs only [go_sem, simprocAttr, w5]
        refine lpH 101 [20, 21, 22] 121 [] (fun n : Int => (hi - m + 1 - n).toNat) (fun n => max (max 0 (c.L - m)) (lo - m) ≤ n ∧ n ≤ max (hi - m + 1) (max (max 0 (c.L - m)) (lo - m)) ∧ tryR (fun n => if sumI (gm hi ms) < all - n ∨ all - n < sumI (glR c.L lo ms) then none else fillR c.L lo hi ms (b ++ [n]) (all - n)) (hi - m + 1 - n).toNat n = fillR c.L lo hi (m :: ms) b all) (fun n ρ h => ρ 20 = .fv (.int n)) (max (max 0 (c.L - m)) (lo - m)) ⟨Int.le_refl _, by omega, rfl⟩ ?_ ?_
        · simp -implicitDefEqProofs only [go_sem, simprocAttr]
        · rintro n ρ2 h2 ⟨n0, n1, et⟩ r20
          by_cases hn : n ≤ hi - m
          · obtain ⟨j, hj⟩ : ∃ j, (hi - m + 1 - n).toNat = j + 1 := ⟨(hi - m - n).toNat, by omega⟩
            have hj' : (hi - m + 1 - (n + 1)).toNat = j := by omega
            have wn : IntKind.i64.wrap (n + 1) = n + 1 := wr _ (by omega) (by omega)
            have wa : IntKind.i64.wrap (all - n) = all - n := wr _ (by omega) (by omega)
            rw [hj, tryR] at et
            by_cases p1 : sumI (gm hi ms) < all - n
            · rw [if_pos (.inl p1)] at et
              simp -implicitDefEqProofs only [go_sem, simprocAttr, r20, w3, hn, wa, r15, p1, wn]
              refine nxt (n + 1) (by omega) ⟨by omega, by omega, by rw [hj']; exact et⟩ ?_
              simp -implicitDefEqProofs only [go_sem, simprocAttr]
            · by_cases p2 : all - n < sumI (glR c.L lo ms)
              · rw [if_pos (.inr p2)] at et
                simp -implicitDefEqProofs only [go_sem, simprocAttr, r20, w3, hn, wa, r15, r16, p1, p2, wn]
                refine nxt (n + 1) (by omega) ⟨by omega, by omega, by rw [hj']; exact et⟩ ?_
                simp -implicitDefEqProofs only [go_sem, simprocAttr]
              · rw [if_neg (by omega)] at et
                have ih := t86 v ok ws l0 l1 h0 h1 ms (b ++ [n]) (.list false (ints (b ++ [n]))) (all - n) (by simpa using hm2) (by simp; omega) rfl (by omega) (by omega)
                have hbl : b.length ≤ 20 := by omega
                have eV : fillR c.L lo hi ms (b ++ [n]) (all - n) ≠ none → valR c.L lo hi (.list false (ints (b ++ [n]))) ms (b ++ [n]) (all - n) = optL (fillR c.L lo hi ms (b ++ [n]) (all - n)) := fun hne => by
                  cases ms with
                  | nil =>
                    simp only [valR, fillR] at hne ⊢
                    by_cases ez : all - n = 0
                    · rw [if_pos ez]; rfl
                    · rw [if_neg ez] at hne; exact absurd rfl hne
                  | cons => rfl
                simp -implicitDefEqProofs only [go_sem, simprocAttr, r20, w3, hn, wa, r15, r16, p1, p2]
                refine W_opsD _ _ _ (Vs [[], [], [123], [], [123], [], [127], [123], [], [], [], [], [], [], [], [], [], []]) ?_ ?_
                · decide
                simp -implicitDefEqProofs only [go_sem, simprocAttr, o1, o2]
                refine app_cp (by simp -implicitDefEqProofs only [go_sem, simprocAttr] <;> rfl) idx_22 hsb (fun x hx => (ints_elem b x hx).1) (by simp -implicitDefEqProofs only [go_sem, simprocAttr]) (by simp [byt_3, ints]; omega) (by simp [maxLen, ints]; omega) ?_
                intro g1
                simp -implicitDefEqProofs only [go_sem, simprocAttr, r20]
                refine app_gl (by simp -implicitDefEqProofs only [go_sem, simprocAttr]; rfl) idx_22 (by simp -implicitDefEqProofs only [go_sem, simprocAttr]; rfl) (by simp [FV.cells]) (by simp -implicitDefEqProofs only [go_sem, simprocAttr]) (by simp [byt_3, ints]; omega) (by simp [maxLen, ints]; omega) (by simp) ?_
                simp -implicitDefEqProofs only [go_sem, simprocAttr, wa, r20]
                refine call0 [123] false ih (by simp -implicitDefEqProofs only [go_sem, simprocAttr, ints, List.map_append]) (.inl rfl) ?_
                cases hf : fillR c.L lo hi ms (b ++ [n]) (all - n) with
                | none =>
                  rw [hf] at et
                  dsimp only at et
                  simp -implicitDefEqProofs only [go_sem, simprocAttr, hf, Option.isSome, r20, wn]
                  refine nxt (n + 1) (by omega) ⟨by omega, by omega, by rw [hj']; exact et⟩ ?_
                  simp -implicitDefEqProofs only [go_sem, simprocAttr]
                | some l =>
                  have eV' := eV (by rw [hf]; simp)
                  rw [hf] at et eV'
                  dsimp only at et
                  simp -implicitDefEqProofs only [go_sem, simprocAttr, Option.isSome, eV']
                  refine ret_tup (fun _ => true) ?_ (by simp [ownNames])
                  simp -implicitDefEqProofs only [go_sem, simprocAttr, valR, ← et, optL, Option.isSome]
          · have hz : (hi - m + 1 - n).toNat = 0 := by omega
            rw [hz, tryR] at et
            simp -implicitDefEqProofs only [go_sem, simprocAttr, r20, w3, hn]
            refine ret_tup (fun _ => true) ?_ (by simp [ownNames])
            simp -implicitDefEqProofs only [go_sem, simprocAttr, valR, ← et, optL, Option.isSome]
end S04

