/- A part of the proof: G04m. -/
import Derived.Test.YtncbkgbdpaibmaaG04k
set_option linter.unusedVariables false
set_option linter.unusedSimpArgs false
set_option maxRecDepth 20000
namespace S04
open Go Abs
def best1 : Option (List Int) → Option (List Int) → Option (List Int)
  | b, none => b
  | none, some l => some l
  | some b, some l => if cmpL l b < 0 then some l else some b
def layN (ms : List Int) (all wide : Int) : Nat → Int → Option (List Int) → Option (List Int)
  | 0, _, b => b
  | n + 1, low, b => layN ms all wide n (low + 1) (best1 b (fillF ms low (low + wide) all))
def layW (ms : List Int) (L all wide : Int) : Option (List Int) := layN ms all wide (all + 6 - L).toNat L none
theorem fillF_len {ms l : List Int} {lo hi all : Int} (h : fillF ms lo hi all = some l) : l.length = ms.length := by
  unfold fillF at h
  split at h
  · simp only [Option.some.injEq] at h
    rw [← h, addR_len _ _ _ (by simp [gl, gm])]
    simp [gl]
  · simp at h
theorem layN_len {ms : List Int} {all wide : Int} : ∀ (n : Nat) (low : Int) (b : Option (List Int)) (l : List Int), (∀ x, b = some x → x.length = ms.length) → layN ms all wide n low b = some l → l.length = ms.length
  | 0, _, b, l, hb, h => hb l h
  | n + 1, low, b, l, hb, h => by
    refine layN_len n (low + 1) _ l ?_ h
    intro x hx
    cases hf : fillF ms low (low + wide) all with
    | none => rw [hf] at hx; cases b <;> exact hb x hx
    | some y =>
      have hy := fillF_len hf
      rw [hf] at hx
      cases b with
      | none => simp only [best1, Option.some.injEq] at hx; rw [← hx]; exact hy
      | some z =>
        simp only [best1] at hx
        split at hx
        · simp only [Option.some.injEq] at hx; rw [← hx]; exact hy
        · exact hb x hx
theorem layW_len {ms l : List Int} {L all wide : Int} (h : layW ms L all wide = some l) : l.length = ms.length := layN_len _ _ _ _ (by simp) h
def errG (c : Cs) (w : List Int) (n : Int) : Int := if errO c [w] ≠ 0 then errO c [w] else if inB 1 400 n = false then 3 else 0
def errY (c : Cs) (w : List Int) (n : Int) : Int := if errG c w n ≠ 0 then errG c w n else if n < c.nd w then 8 else 0
theorem errG_ok {c : Cs} {w : List Int} {n : Int} (h : errG c w n = 0) : errO c [w] = 0 ∧ 1 ≤ n ∧ n ≤ 400 := by
  unfold errG at h
  split at h
  · rename_i h1; exact absurd h h1
  split at h
  · simp at h
  rename_i h1 h2
  exact ⟨by simpa using h1, inB_iff.1 (by simpa using h2)⟩
theorem errY_ok {c : Cs} {w : List Int} {n : Int} (h : errY c w n = 0) : errG c w n = 0 ∧ c.nd w ≤ n := by
  unfold errY at h
  split at h
  · rename_i h1; exact absurd h h1
  split at h
  · simp at h
  rename_i h1 h2
  exact ⟨by simpa using h1, by omega⟩
def LayIs (c : Cs) (w : List Int) (n : Int) (r : List Int × Int) : Prop :=
  if w.length = 1 then r = ([], 0) else layW (c.loo w) c.L (n - c.wd w) r.2 = some r.1 ∧ 0 ≤ r.2 ∧ r.2 ≤ 1000 ∧ ∀ k, 0 ≤ k → k < r.2 → layW (c.loo w) c.L (n - c.wd w) k = none
theorem t30e {c : Cs} {sw sp s : FV} {w : List Int} {n : Int} (v : CV c sw sp) (hs : lsOf s = some (ints w)) (hl : w.length ≤ 9223372036854775807) (e : errY c w n ≠ 0) :
    Fn Q 30 [.fo (c.fv sw sp), .fo s, .fo (.int n)] (.tup [.fx .nil, .fx (.int 0), .fx (.int (errY c w n))]) := by
  have o1 := ls_one v.w
  have o2 := ls_one v.p
  have o3 := ls_one hs
  have f3 := ls_cells hs
  have p3 := ls_fone hs
  have c73 := t73 v (Lists_one hs hl) (by simp)
  by_cases e1 : errO c [w] = 0
  · obtain ⟨ok, hw⟩ := errO_ok e1
    obtain ⟨h1, h2, h3⟩ := hw w (by simp)
    have c74 := t74 v ok ⟨hs, by omega, h3⟩
    rw [if_pos (errO_C e1), e1] at c73
    cases e2 : inB 1 400 n
    · have eL : errY c w n = 3 := by simp [errY, errG, e1, e2]
      refine w30 ?_
      dsimp only [c30, sop, gop, nop, qmv, qsg, qex, qld, qcl, qln, qix, qbo, qt, qi]
      simp -implicitDefEqProofs only [go_sem, simprocAttr, o1, o2, o3, f3, p3]
      refine call0 [17] false c73 (by simp -implicitDefEqProofs only [go_sem, simprocAttr]) (.inl rfl) ?_
      simp -implicitDefEqProofs only [go_sem, simprocAttr, mapV, o1, o2, o3]
      refine call1 [] true (u82 n) ?_
      simp -implicitDefEqProofs only [go_sem, simprocAttr, e2]
      refine ret_tup (fun _ => true) ?_ (by simp [ownNames])
      simp -implicitDefEqProofs only [go_sem, simprocAttr, eL]
    · have e3 : n < c.nd w := by
        refine Classical.byContradiction fun h => e ?_
        simp [errY, errG, e1, e2, h]
      have eL : errY c w n = 8 := by simp [errY, errG, e1, e2, e3]
      refine w30 ?_
      dsimp only [c30, sop, gop, nop, qmv, qsg, qex, qld, qcl, qln, qix, qbo, qt, qi]
      simp -implicitDefEqProofs only [go_sem, simprocAttr, o1, o2, o3, f3, p3]
      refine call0 [17] false c73 (by simp -implicitDefEqProofs only [go_sem, simprocAttr]) (.inl rfl) ?_
      simp -implicitDefEqProofs only [go_sem, simprocAttr, mapV, o1, o2, o3]
      refine call1 [] true (u82 n) ?_
      simp -implicitDefEqProofs only [go_sem, simprocAttr, e2, o1, o2, o3]
      refine call1 [] false (c74) ?_
      simp -implicitDefEqProofs only [go_sem, simprocAttr, e3]
      refine ret_tup (fun _ => true) ?_ (by simp [ownNames])
      simp -implicitDefEqProofs only [go_sem, simprocAttr, eL]
  · have e' : (errO c [w] != 0) = true := by simpa using e1
    have eL : errY c w n = errO c [w] := by simp [errY, errG, e1]
    refine w30 ?_
    dsimp only [c30, sop, gop, nop, qmv, qsg, qex, qld, qcl, qln, qix, qbo, qt, qi]
    simp -implicitDefEqProofs only [go_sem, simprocAttr, o1, o2, o3, f3, p3]
    refine call0 [17] false c73 (by simp -implicitDefEqProofs only [go_sem, simprocAttr]) (.inl rfl) ?_
    by_cases e2 : errC c = 0
    · simp -implicitDefEqProofs only [go_sem, simprocAttr, mapV, o1, o2, o3, e', e2]
      refine ret_tup (fun _ => true) ?_ (by simp [ownNames])
      simp -implicitDefEqProofs only [go_sem, simprocAttr, eL]
    · simp -implicitDefEqProofs only [go_sem, simprocAttr, mapV, o1, o2, o3, e', e2]
      refine ret_tup (fun _ => true) ?_ (by simp [ownNames])
      simp -implicitDefEqProofs only [go_sem, simprocAttr, eL]
def BestAt (b : Option (List Int)) (v : LV) (h : AH) : Prop := (b = none ∧ v = .gl 6 1 ∧ h.gen 6 = 1 ∧ h.obj 6 = some (.list 3 1 false true [])) ∨ ∃ l, b = some l ∧ v = .fv (.list false (ints l))
theorem t30 {c : Cs} {sw sp s : FV} {w : List Int} {n : Int} {r : List Int × Int} (v : CV c sw sp) (hs : lsOf s = some (ints w)) (e : errY c w n = 0) (hr : LayIs c w n r) :
    Fn Q 30 [.fo (c.fv sw sp), .fo s, .fo (.int n)] (.tup [.fx (lstN (ints r.1)), .fx (.int r.2), .fx (.int 0)]) := by
  have o1 := ls_one v.w
  have o2 := ls_one v.p
  have o3 := ls_one hs
  have f3 := ls_cells hs
  have p3 := ls_fone hs
  obtain ⟨eG, nn⟩ := errY_ok e
  obtain ⟨e1, n0, n1⟩ := errG_ok eG
  obtain ⟨ok, hw⟩ := errO_ok e1
  obtain ⟨h1, h2, h3⟩ := hw w (by simp)
  have c73 := t73 v (Lists_one hs (by omega)) (by simp)
  have c74 := t74 v ok ⟨hs, by omega, h3⟩
  have c83 := t83 v ok ⟨hs, by omega, h3⟩
  rw [if_pos (errO_C e1), e1] at c73
  have e2 : inB 1 400 n = true := inB_ok n0 n1
  have nn' : ¬ n < c.nd w := by omega
  by_cases w1 : w.length = 1
  · rw [LayIs, if_pos w1] at hr
    subst hr
    refine w30 ?_
    dsimp only [c30, sop, gop, nop, qmv, qsg, qex, qld, qcl, qln, qix, qbo, qt, qi]
    simp -implicitDefEqProofs only [go_sem, simprocAttr, o1, o2, o3, f3, p3]
    refine call0 [17] false c73 (by simp -implicitDefEqProofs only [go_sem, simprocAttr]) (.inl rfl) ?_
    simp -implicitDefEqProofs only [go_sem, simprocAttr, mapV, o1, o2, o3]
    refine call1 [] true (u82 n) ?_
    simp -implicitDefEqProofs only [go_sem, simprocAttr, e2, o1, o2, o3]
    refine call1 [] false (c74) ?_
    simp -implicitDefEqProofs only [go_sem, simprocAttr, nn', lenV_ls hs, w1]
    refine ret_tup (fun _ => true) ?_ (by simp [ownNames])
    simp -implicitDefEqProofs only [go_sem, simprocAttr]
    rfl
  · rw [LayIs, if_neg w1] at hr
    obtain ⟨H1, W0, W1, H2⟩ := hr
    have w1' : (((w.length : Nat) : Int) == 1) = false := by simp; omega
    have hwd : 0 ≤ c.wd w ∧ c.wd w ≤ 1000 := by
      have := ok.ws w h3
      have := ok.r0
      have := ok.r1
      unfold Cs.wd
      omega
    have wA : IntKind.i64.wrap (n - c.wd w) = n - c.wd w := wr _ (by omega) (by omega)
    have l0 := ok.l0
    have l1 := ok.l1
    have hne : c.loo w ≠ [] := by
      intro h
      have := congrArg List.length h
      rw [c.loo_len] at this
      simp at this
      omega
    have hclo := clo_bd l0 l1 _ (ok.loo w)
    have hall : 0 ≤ n - c.wd w := by unfold Cs.nd at nn; omega
    have c84 : ∀ low wide : Int, 0 ≤ low → low ≤ 2000 → 0 ≤ wide → wide ≤ 1000 → Fn Q 84 [.fo (c.bv sw sp), .fo s, .fo (.agg [.int low, .int (low + wide)]), .fo (.int (n - c.wd w))] (.tup [.fx (optL (fillF (c.loo w) low (low + wide) (n - c.wd w))), .fx (.bool (fillF (c.loo w) low (low + wide) (n - c.wd w)).isSome)]) := fun low wide a b c d => t84 v ok ⟨hs, by omega, h3⟩ a b (by omega) (by omega) (by omega) (by omega) hne
    have lll : (c.loo w).length ≤ 7 := by rw [c.loo_len]; omega
    generalize hall2 : n - c.wd w = all at *
    generalize c.loo w = ms at *
    have a4 : all ≤ 400 := by omega
    have wB : IntKind.i64.wrap (all + 5) = all + 5 := wr _ (by omega) (by omega)
    obtain ⟨g, W⟩ := r
    dsimp only at H1 W0 W1 H2
    refine w30 ?_
    dsimp only [c30, sop, gop, nop, qmv, qsg, qex, qld, qcl, qln, qix, qbo, qt, qi]
    simp -implicitDefEqProofs only [go_sem, simprocAttr, o1, o2, o3, f3, p3]
    refine call0 [17] false c73 (by simp -implicitDefEqProofs only [go_sem, simprocAttr]) (.inl rfl) ?_
    simp -implicitDefEqProofs only [go_sem, simprocAttr, mapV, o1, o2, o3]
    refine call1 [] true (u82 n) ?_
    simp -implicitDefEqProofs only [go_sem, simprocAttr, e2, o1, o2, o3]
    refine call1 [] false (c74) ?_
    simp -implicitDefEqProofs only [go_sem, simprocAttr, nn', lenV_ls hs, w1', o1, o2, o3]
    refine call1 [] false (c83) ?_
    simp -implicitDefEqProofs only [go_sem, simprocAttr, hall2, wA]
    refine lpH 45 [6, 7, 11, 12, 13] 45 [] (fun a : Int × Option (List Int) => (W + 1 - a.1).toNat) (fun a => 0 ≤ a.1 ∧ a.1 ≤ W + 1 ∧ (a.2 = none → a.1 ≤ W) ∧ (∀ l, a.2 = some l → l = g ∧ a.1 = W + 1)) (fun a ρ h => ρ 7 = .fv (.int a.1) ∧ BestAt a.2 (ρ 6) h) (0, none) ⟨by simp, by simp only; omega, fun _ => W0, by simp⟩ ?_ ?_
    · simp -implicitDefEqProofs only [go_sem, simprocAttr]
      exact .inl ⟨rfl, by simp -implicitDefEqProofs only [go_sem, simprocAttr], by simp -implicitDefEqProofs only [go_sem, simprocAttr], by simp -implicitDefEqProofs only [go_sem, simprocAttr]⟩
    · rintro ⟨wide, b⟩ ρ h ⟨i0, i1, i2, i3⟩ ⟨r7, hb⟩
      dsimp only at i0 i1 i2 i3 r7 hb
      rcases hb with ⟨rfl, r6, g6, o6⟩ | ⟨l, rfl, r6⟩
      · have iW := i2 rfl
        have wC : IntKind.i64.wrap (wide + 1) = wide + 1 := wr _ (by omega) (by omega)
        simp -implicitDefEqProofs only [go_sem, simprocAttr, r6, g6, o6, eqV, nilEq, und_22]
        refine lpH 52 [6, 11, 12, 13] 52 [] (fun a : Int × Option (List Int) => (all + 6 - a.1).toNat) (fun a => c.L ≤ a.1 ∧ a.1 ≤ max c.L (all + 6) ∧ layN ms all wide (all + 6 - a.1).toNat a.1 a.2 = layW ms c.L all wide ∧ ∀ l, a.2 = some l → l.length ≤ 7) (fun a ρ h => ρ 11 = .fv (.int a.1) ∧ BestAt a.2 (ρ 6) h) (c.L, none) ⟨by omega, by simp only; omega, rfl, by simp⟩ ?_ ?_
        · simp -implicitDefEqProofs only [go_sem, simprocAttr]
          exact .inl ⟨rfl, by simp -implicitDefEqProofs only [go_sem, simprocAttr, r6], by simp -implicitDefEqProofs only [go_sem, simprocAttr, g6], by simp -implicitDefEqProofs only [go_sem, simprocAttr, o6]⟩
        · rintro ⟨low, b⟩ ρ2 h2 ⟨j0, j1, j2, j3⟩ ⟨r11, hb⟩
          dsimp only at j0 j1 j2 j3 r11 hb
          by_cases hlow : low ≤ all + 5
          · have c84' := c84 low wide (by omega) (by omega) (by omega) (by omega)
            have wD : IntKind.i64.wrap (low + wide) = low + wide := wr _ (by omega) (by omega)
            have wE : IntKind.i64.wrap (low + 1) = low + 1 := wr _ (by omega) (by omega)
            obtain ⟨m, hm⟩ : ∃ m, (all + 6 - low).toNat = m + 1 := ⟨(all + 5 - low).toNat, by omega⟩
            have hm' : (all + 6 - (low + 1)).toNat = m := by omega
            rw [hm, layN] at j2
            simp -implicitDefEqProofs only [go_sem, simprocAttr, r11, wB, hlow, r7, wD, o1, o2, o3]
            refine call0 [] false c84' (by simp -implicitDefEqProofs only [go_sem, simprocAttr]; rfl) (.inl rfl) ?_
            cases hf : fillF ms low (low + wide) all with
            | none =>
              rw [hf] at j2
              simp -implicitDefEqProofs only [go_sem, simprocAttr, optL, Option.isSome, r11, wE]
              refine nxt (low + 1, b) (by simp only; omega) ⟨by simp only; omega, by simp only; omega, ?_, j3⟩ ?_
              · dsimp only
                rw [hm', ← j2]
                cases b <;> rfl
              · simp -implicitDefEqProofs only [go_sem, simprocAttr]
                rcases hb with ⟨rfl, r6', g6', o6'⟩ | ⟨l, rfl, r6'⟩
                · exact .inl ⟨rfl, by simp -implicitDefEqProofs only [go_sem, simprocAttr, r6'], by simp -implicitDefEqProofs only [go_sem, simprocAttr, g6'], by simp -implicitDefEqProofs only [go_sem, simprocAttr, o6']⟩
                · exact .inr ⟨l, rfl, by simp -implicitDefEqProofs only [go_sem, simprocAttr, r6']⟩
            | some l =>
              have ll7 : l.length ≤ 7 := by rw [fillF_len hf]; omega
              rw [hf] at j2
              rcases hb with ⟨rfl, r6', g6', o6'⟩ | ⟨l', rfl, r6'⟩
              · simp -implicitDefEqProofs only [go_sem, simprocAttr, optL, Option.isSome, r6', g6', o6', eqV, nilEq, und_22, r11, wE, g6, o6]
                refine nxt (low + 1, some l) (by simp only; omega) ⟨by simp only; omega, by simp only; omega, by dsimp only; rw [hm', ← j2]; rfl, ?_⟩ ?_
                · intro x hx; simp at hx; subst hx; exact ll7
                · simp -implicitDefEqProofs only [go_sem, simprocAttr]
                  exact .inr ⟨l, rfl, by simp -implicitDefEqProofs only [go_sem, simprocAttr]⟩
              · have c85 := t85 (s := .list false (ints l)) (t := .list false (ints l')) rfl rfl (show l.length ≤ 1000000 by omega) (by have := j3 l' rfl; omega)
                simp -implicitDefEqProofs only [go_sem, simprocAttr, optL, Option.isSome, r6', eqV, nilEq, und_22]
                refine call0 [] false c85 (by simp -implicitDefEqProofs only [go_sem, simprocAttr]) (.inl rfl) ?_
                by_cases hc : cmpL l l' < 0
                · simp -implicitDefEqProofs only [go_sem, simprocAttr, hc, r11, wE]
                  refine nxt (low + 1, some l) (by simp only; omega) ⟨by simp only; omega, by simp only; omega, by dsimp only; rw [hm', ← j2]; simp [best1, hc], ?_⟩ ?_
                  · intro x hx; simp at hx; subst hx; exact ll7
                  · simp -implicitDefEqProofs only [go_sem, simprocAttr]
                    exact .inr ⟨l, rfl, by simp -implicitDefEqProofs only [go_sem, simprocAttr]⟩
                · simp -implicitDefEqProofs only [go_sem, simprocAttr, hc, r11, wE]
                  refine nxt (low + 1, some l') (by simp only; omega) ⟨by simp only; omega, by simp only; omega, by dsimp only; rw [hm', ← j2]; simp [best1, hc], j3⟩ ?_
                  simp -implicitDefEqProofs only [go_sem, simprocAttr]
                  exact .inr ⟨l', rfl, by simp -implicitDefEqProofs only [go_sem, simprocAttr, r6']⟩
          · have hz : (all + 6 - low).toNat = 0 := by omega
            rw [hz, layN] at j2
            simp -implicitDefEqProofs only [go_sem, simprocAttr, r11, wB, hlow, r7, wC]
            refine nxt (wide + 1, b) (by simp only; omega) ⟨by simp only; omega, by simp only; omega, ?_, ?_⟩ ?_
            · intro hbn
              dsimp only at hbn ⊢
              refine Classical.byContradiction fun hx => ?_
              have : wide = W := by omega
              subst this
              rw [hbn, H1] at j2
              simp at j2
            · intro l hl
              dsimp only at hl ⊢
              by_cases hx : wide < W
              · rw [hl, H2 wide i0 hx] at j2
                simp at j2
              · have : wide = W := by omega
                subst this
                rw [hl, H1] at j2
                exact ⟨by simpa using j2, rfl⟩
            · simp -implicitDefEqProofs only [go_sem, simprocAttr]
              rcases hb with ⟨rfl, r6', g6', o6'⟩ | ⟨l, rfl, r6'⟩
              · exact .inl ⟨rfl, by simp -implicitDefEqProofs only [go_sem, simprocAttr, r6'], by simp -implicitDefEqProofs only [go_sem, simprocAttr, g6'], by simp -implicitDefEqProofs only [go_sem, simprocAttr, o6']⟩
              · exact .inr ⟨l, rfl, by simp -implicitDefEqProofs only [go_sem, simprocAttr, r6']⟩
      · obtain ⟨rfl, rfl⟩ := i3 l rfl
        have wC : IntKind.i64.wrap (W + 1 - 1) = W := by rw [wr _ (by omega) (by omega)]; omega
        have lg : lstN (ints l) = .list false (ints l) := by
          have : l ≠ [] := by
            rintro rfl
            have := layW_len H1
            simp at this
            exact hne (List.eq_nil_of_length_eq_zero this.symm)
          cases l with
          | nil => exact absurd rfl this
          | cons => rfl
        simp -implicitDefEqProofs only [go_sem, simprocAttr, r6, eqV, nilEq, und_22, r7, wC]
        refine ret_tup (fun _ => true) ?_ (by simp [ownNames])
        simp -implicitDefEqProofs only [go_sem, simprocAttr, lg]
end S04

