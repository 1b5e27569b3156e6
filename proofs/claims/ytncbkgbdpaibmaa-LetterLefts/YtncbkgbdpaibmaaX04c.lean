/- A part of the proof: X04c, X04d. -/
import Derived.Test.YtncbkgbdpaibmaaX04b
import Derived.Test.YtncbkgbdpaibmaaC04b0
set_option linter.unusedVariables false
set_option linter.unusedSimpArgs false
set_option maxRecDepth 20000
namespace S04
open Go Abs
def BestRt (b : Option (List Int)) (v : LV) (h : AH) : Prop := (b = none ∧ v = .gl 23 1 ∧ h.gen 23 = 1 ∧ h.obj 23 = some (.list 3 1 false false [])) ∨ ∃ l, b = some l ∧ v = .fv (.list false (ints l))
theorem refN_len {ms : List Int} {L all wide : Int} {n : Nat} {low : Int} {l : List Int} (h : refN ms L all wide n low none = some l) : l.length = ms.length := by
  have := refN_Lm (ms := ms) (L := L) (all := all) (wide := wide) n low none (fun _ => False) (fun _ h => h)
  rw [h] at this
  rcases this.1 with h | ⟨k, _, h⟩
  · exact h.elim
  · exact (btwR_looks.1 h.1).1
theorem t32 {c : Cs} {sw sp s : FV} {w : List Int} {n : Int} {l : List Int} {W : Int} (v : CV c sw sp) (ok : c.Ok) (ws : WV c s w) (w2 : 2 ≤ w.length) (w7 : w.length ≤ 7) (n0 : 0 ≤ n) (n1 : n ≤ 400) (nd : c.nd w ≤ n) (H : layW (c.loo w) c.L (n - c.wd w) W = some l) (W0 : 0 ≤ W) (W1 : W ≤ 1000) (HW : ∀ k, 0 ≤ k → k < W → layW (c.loo w) c.L (n - c.wd w) k = none) :
    Fn Q 32 [.fo (c.fv sw sp), .fo s, .fo (.int n)] (.tup [.fx (.list false (ints l)), .fx (.int W)]) := by
  have o1 := ls_one v.w
  have o2 := ls_one v.p
  have o3 := ls_one ws.s
  have c78 := t78 v ok ws
  have r0 := ok.r0
  have r1 := ok.r1
  have cl0 := ok.l0
  have cl1 := ok.l1
  have wsb := ok.ws w ws.b
  have ll := c.loo_len w
  have hm := ok.loo w
  have hclo := clo_bd cl0 cl1 _ hm
  have hall : 0 ≤ n - c.wd w := by unfold Cs.nd at nd; omega
  have hne : c.loo w ≠ [] := by intro h; rw [h] at ll; simp at ll; omega
  have hspr := lay_spr hm hne H W0 HW
  have H' : ∀ k, 0 ≤ k → refN (c.loo w) c.L (n - c.wd w) k (n - c.wd w + 6).toNat 0 none = layW (c.loo w) c.L (n - c.wd w) k := fun k k0 => ref_lay hm hne cl0 k0 (by omega)
  rw [← H' W W0] at H
  have HW' : ∀ k, 0 ≤ k → k < W → refN (c.loo w) c.L (n - c.wd w) k (n - c.wd w + 6).toNat 0 none = none := fun k k0 k1 => by rw [H' k k0]; exact HW k k0 k1
  have hln := refN_len H
  have c86 : ∀ low wide : Int, 0 ≤ low → low ≤ 2000 → 0 ≤ wide → wide ≤ 1001 → Fn Q 86 [.fo (c.fv sw sp), .fo s, .fo .nil, .fo (.int low), .fo (.int (low + wide)), .fo (.int (n - c.wd w))] (.tup [.fx (optL (fillR c.L low (low + wide) (c.loo w) [] (n - c.wd w))), .fx (.bool (fillR c.L low (low + wide) (c.loo w) [] (n - c.wd w)).isSome)]) := fun low wide a b c' d => by
    have hx := t86 v ok ws (lo := low) (hi := low + wide) a b (by omega) (by omega) (c.loo w) [] .nil (n - c.wd w) (by simp) (by simp; omega) rfl (by omega) (by unfold Cs.wd; omega)
    have : valR c.L low (low + wide) .nil (c.loo w) [] (n - c.wd w) = optL (fillR c.L low (low + wide) (c.loo w) [] (n - c.wd w)) := by
      cases hq : c.loo w with
      | nil => exact absurd hq hne
      | cons => rfl
    rw [this] at hx
    exact hx
  have fl : ∀ {low wide : Int} {x : List Int}, fillR c.L low (low + wide) (c.loo w) [] (n - c.wd w) = some x → x.length = (c.loo w).length := fun {low wide x} h => by
    have := fillR_Lm c.L low (low + wide) (c.loo w) (n - c.wd w)
    rw [h] at this
    exact (btwR_looks.1 this.1.1).1
  have q1 : IntKind.i64.wrap (2 * c.R) = 2 * c.R := wr _ (by omega) (by omega)
  have q2 : IntKind.i64.wrap (n - 2 * c.R) = n - 2 * c.R := wr _ (by omega) (by omega)
  have q3 : IntKind.i64.wrap (n - 2 * c.R - c.ws w) = n - c.wd w := by rw [wr _ (by omega) (by omega)]; unfold Cs.wd; omega
  have a4 : n - c.wd w ≤ 400 := by unfold Cs.wd; omega
  have lkeq : c.lk w l = lks (c.loo w) l := rfl
  have hl0 : ∀ x ∈ l, 0 ≤ x ∧ x ≤ 400 := by
    have := layW_Lm (c.loo w) c.L (n - c.wd w) W
    rw [← H' W W0, H] at this
    obtain ⟨⟨low, _, _, g1, g2⟩, _⟩ := this
    have g3 := (btw_looks.1 g1).2.2
    intro x hx
    have := (sum_ge g3).2 x hx
    have := g3 x hx
    omega
  have lkb := lks_bd (c.loo w) l hm (fun x hx => by have := hl0 x hx; omega)
  have c28 := t28 (sg := .list false (ints l)) (g := l) v ok ws rfl (by omega) hl0
  have c29 := t29 (s := .list false (ints (c.lk w l))) (l := c.lk w l) rfl (by rw [lkeq, lks_len _ _ hln]; omega) (fun x hx => by have := lkb x hx; omega)
  rw [lkeq, hspr] at c29
  rw [lkeq] at c28
  generalize hall2 : n - c.wd w = all at *
  have l7 : (c.loo w).length ≤ 7 := by omega
  have wB : IntKind.i64.wrap (all + 5) = all + 5 := wr _ (by omega) (by omega)
  refine w32 ?_
  dsimp only [c32, sop, gop, nop, qmv, qsg, qex, qld, qcl, qln, qix, qbo, qt, qi]
  simp -implicitDefEqProofs only [go_sem, simprocAttr, o1, o2]
  refine W_opsD _ _ _ (Vs []) ?_ ?_
  · decide
  simp -implicitDefEqProofs only [go_sem, simprocAttr, q1, q2, o1, o2, o3]
  refine callD [] false [.fo (c.fv sw sp), .fo s] [] c78 ⟨rfl, rfl, trivial⟩ rfl (.inl rfl) ?_
  simp -implicitDefEqProofs only [go_sem, simprocAttr, q3]
  refine lpH 24 [9, 10, 11, 12, 13] 24 [] (fun a : Int × Option (List Int) => (W + 1 - a.1).toNat) (fun a => 0 ≤ a.1 ∧ a.1 ≤ W + 1 ∧ (a.2 = none → a.1 ≤ W) ∧ (∀ x, a.2 = some x → x = l ∧ a.1 = W + 1)) (fun a ρ h => ρ 10 = .fv (.int a.1) ∧ BestRt a.2 (ρ 9) h) (0, none) ⟨by simp, by simp only; omega, fun _ => W0, by simp⟩ ?_ ?_
  · simp -implicitDefEqProofs only [go_sem, simprocAttr]
    exact .inl ⟨rfl, by simp -implicitDefEqProofs only [go_sem, simprocAttr], by simp -implicitDefEqProofs only [go_sem, simprocAttr], by simp -implicitDefEqProofs only [go_sem, simprocAttr]⟩
  · rintro ⟨wide, b⟩ ρ h ⟨i0, i1, i2, i3⟩ ⟨r10, hb⟩
    dsimp only at i0 i1 i2 i3 r10 hb
    rcases hb with ⟨rfl, r9, g23, o23⟩ | ⟨x, rfl, r9⟩
    · have iW := i2 rfl
      have wC : IntKind.i64.wrap (wide + 1) = wide + 1 := wr _ (by omega) (by omega)
      simp -implicitDefEqProofs only [go_sem, simprocAttr, r9, g23, o23]
      refine lpH 29 [9, 11, 12, 13] 29 [] (fun a : Int × Option (List Int) => (all + 6 - a.1).toNat) (fun a => 0 ≤ a.1 ∧ a.1 ≤ all + 6 ∧ refN (c.loo w) c.L all wide (all + 6 - a.1).toNat a.1 a.2 = refN (c.loo w) c.L all wide (all + 6).toNat 0 none ∧ ∀ x, a.2 = some x → x.length = (c.loo w).length) (fun a ρ h => ρ 11 = .fv (.int a.1) ∧ BestRt a.2 (ρ 9) h) (0, none) ⟨by simp, by simp only; omega, by simp, by simp⟩ ?_ ?_
      · simp -implicitDefEqProofs only [go_sem, simprocAttr]
        exact .inl ⟨rfl, by simp -implicitDefEqProofs only [go_sem, simprocAttr, r9], by simp -implicitDefEqProofs only [go_sem, simprocAttr, g23], by simp -implicitDefEqProofs only [go_sem, simprocAttr, o23]⟩
      · rintro ⟨low, b⟩ ρ2 h2 ⟨j0, j1, j2, j3⟩ ⟨r11, hb⟩
        dsimp only at j0 j1 j2 j3 r11 hb
        by_cases hlow : low ≤ all + 5
        · have c86' := c86 low wide (by omega) (by omega) (by omega) (by omega)
          have wD : IntKind.i64.wrap (low + wide) = low + wide := wr _ (by omega) (by omega)
          have wE : IntKind.i64.wrap (low + 1) = low + 1 := wr _ (by omega) (by omega)
          obtain ⟨k, hk⟩ : ∃ k, (all + 6 - low).toNat = k + 1 := ⟨(all + 5 - low).toNat, by omega⟩
          have hk' : (all + 6 - (low + 1)).toNat = k := by omega
          rw [hk, refN] at j2
          simp -implicitDefEqProofs only [go_sem, simprocAttr, r11, wB, hlow, r10, wD, o1, o2, o3]
          refine call0 [] false c86' (by simp -implicitDefEqProofs only [go_sem, simprocAttr]) (.inl rfl) ?_
          cases hf : fillR c.L low (low + wide) (c.loo w) [] all with
          | none =>
            rw [hf] at j2
            simp -implicitDefEqProofs only [go_sem, simprocAttr, optL, Option.isSome, r11, wE]
            refine nxt (low + 1, b) (by simp only; omega) ⟨by simp only; omega, by simp only; omega, ?_, j3⟩ ?_
            · dsimp only
              rw [hk', ← j2]
              cases b <;> rfl
            · simp -implicitDefEqProofs only [go_sem, simprocAttr]
              rcases hb with ⟨rfl, r9', g', o'⟩ | ⟨x, rfl, r9'⟩
              · exact .inl ⟨rfl, by simp -implicitDefEqProofs only [go_sem, simprocAttr, r9'], by simp -implicitDefEqProofs only [go_sem, simprocAttr, g'], by simp -implicitDefEqProofs only [go_sem, simprocAttr, o']⟩
              · exact .inr ⟨x, rfl, by simp -implicitDefEqProofs only [go_sem, simprocAttr, r9']⟩
          | some x =>
            have xl := fl hf
            rw [hf] at j2
            rcases hb with ⟨rfl, r9', g', o'⟩ | ⟨x', rfl, r9'⟩
            · simp -implicitDefEqProofs only [go_sem, simprocAttr, optL, Option.isSome, r9', g', o', r11, wE]
              refine nxt (low + 1, some x) (by simp only; omega) ⟨by simp only; omega, by simp only; omega, by dsimp only; rw [hk', ← j2]; rfl, ?_⟩ ?_
              · intro y hy; simp at hy; subst hy; exact xl
              · simp -implicitDefEqProofs only [go_sem, simprocAttr]
                exact .inr ⟨x, rfl, by simp -implicitDefEqProofs only [go_sem, simprocAttr]⟩
            · have xl' := j3 x' rfl
              have ne0 : (((x'.length : Nat) : Int) == 0) = false := by simp; intro e; rw [e] at xl'; simp at xl'; omega
              have c87 := t87 (sa := .list false (ints x)) (sb := .list false (ints x')) (a := x) (b := x') rfl rfl (by omega) (by omega)
              simp -implicitDefEqProofs only [go_sem, simprocAttr, optL, Option.isSome, r9', ints_length, ne0]
              refine call0 [] false c87 (by simp -implicitDefEqProofs only [go_sem, simprocAttr]) (.inl rfl) ?_
              by_cases hc : cmpL x x' < 0
              · simp -implicitDefEqProofs only [go_sem, simprocAttr, eq_true hc, decide_true, r11, wE]
                refine nxt (low + 1, some x) (by simp only; omega) ⟨by simp only; omega, by simp only; omega, by dsimp only; rw [hk', ← j2]; simp [best1, hc], ?_⟩ ?_
                · intro y hy; simp at hy; subst hy; exact xl
                · simp -implicitDefEqProofs only [go_sem, simprocAttr]
                  exact .inr ⟨x, rfl, by simp -implicitDefEqProofs only [go_sem, simprocAttr]⟩
              · simp -implicitDefEqProofs only [go_sem, simprocAttr, eq_false hc, decide_false, r11, wE]
                refine nxt (low + 1, some x') (by simp only; omega) ⟨by simp only; omega, by simp only; omega, by dsimp only; rw [hk', ← j2]; simp [best1, hc], j3⟩ ?_
                simp -implicitDefEqProofs only [go_sem, simprocAttr]
                exact .inr ⟨x', rfl, by simp -implicitDefEqProofs only [go_sem, simprocAttr, r9']⟩
        · have hz : (all + 6 - low).toNat = 0 := by omega
          rw [hz, refN] at j2
          simp -implicitDefEqProofs only [go_sem, simprocAttr, r11, wB, hlow, r10, wC]
          refine nxt (wide + 1, b) (by simp only; omega) ⟨by simp only; omega, by simp only; omega, ?_, ?_⟩ ?_
          · intro hbn
            dsimp only at hbn ⊢
            refine Classical.byContradiction fun hx => ?_
            have : wide = W := by omega
            subst this
            rw [hbn, H] at j2
            simp at j2
          · intro y hy
            dsimp only at hy ⊢
            by_cases hx : wide < W
            · rw [hy, HW' wide i0 hx] at j2
              simp at j2
            · have : wide = W := by omega
              subst this
              rw [hy, H] at j2
              exact ⟨by simpa using j2, rfl⟩
          · simp -implicitDefEqProofs only [go_sem, simprocAttr]
            rcases hb with ⟨rfl, r9', g', o'⟩ | ⟨x, rfl, r9'⟩
            · exact .inl ⟨rfl, by simp -implicitDefEqProofs only [go_sem, simprocAttr, r9'], by simp -implicitDefEqProofs only [go_sem, simprocAttr, g'], by simp -implicitDefEqProofs only [go_sem, simprocAttr, o']⟩
            · exact .inr ⟨x, rfl, by simp -implicitDefEqProofs only [go_sem, simprocAttr, r9']⟩
    · obtain ⟨rfl, rfl⟩ := i3 x rfl
      have ne0 : (((x.length : Nat) : Int) == 0) = false := by simp; intro e; rw [e] at hln; simp at hln; omega
      simp -implicitDefEqProofs only [go_sem, simprocAttr, r9, ints_length, ne0, o1, o2]
      refine call1 [] false (c28) ?_
      simp -implicitDefEqProofs only [go_sem, simprocAttr]
      refine call1 [] false (c29) ?_
      simp -implicitDefEqProofs only [go_sem, simprocAttr]
      refine ret_tup (fun _ => true) ?_ (by simp [ownNames])
      simp -implicitDefEqProofs only [go_sem, simprocAttr]
end S04

namespace S04
open Go Abs
theorem lay_is {c : Cs} {w : List Int} {n : Int} (e : errY c w n = 0) (h1 : w.length ≠ 1) : ∃ l W, LayIs c w n (l, W) ∧ layW (c.loo w) c.L (n - c.wd w) W = some l ∧ 0 ≤ W ∧ W ≤ 500 ∧ ∀ k, 0 ≤ k → k < W → layW (c.loo w) c.L (n - c.wd w) k = none := by
  obtain ⟨eG, nn⟩ := errY_ok e
  obtain ⟨e1, n0, n1⟩ := errG_ok eG
  obtain ⟨ok, hw⟩ := errO_ok e1
  obtain ⟨q1, q2, q3⟩ := hw w (by simp)
  have hne : c.loo w ≠ [] := by intro h; have := c.loo_len w; rw [h] at this; simp at this; omega
  have wsb := ok.ws w q3
  have r0 := ok.r0
  obtain ⟨l, W, g1, g2, g3, g4⟩ := lay_ex (ok.loo w) hne ok.l0 ok.l1 (all := n - c.wd w) (by unfold Cs.nd at nn; omega) (by unfold Cs.wd; omega)
  refine ⟨l, W, ?_, g1, g2, g3, g4⟩
  rw [LayIs, if_neg h1]
  exact ⟨g1, g2, by dsimp only; omega, g4⟩
theorem t4 {c : Cs} {sw sp s : FV} {w : List Int} {n : Int} (v : CV c sw sp) (hs : lsOf s = some (ints w)) (hl : w.length ≤ 9223372036854775807) :
    Fn Q 4 [.fo (c.fv sw sp), .fo s, .fo (.int n)] (.one (.fx (.bool true))) := by
  have o1 := ls_one v.w
  have o2 := ls_one v.p
  have f3 := ls_cells hs
  have p3 := ls_fone hs
  have c16 := t16 v (Lists_one hs hl) (by simp)
  cases hL : largeF c [w]
  · obtain ⟨lW, lP, _, lw⟩ := large_no hL
    have lw1 := lw w (by simp)
    have c18 := t18 v (by omega) (by omega)
    have v' : CV c (swC c) (spC c) := ⟨rfl, rfl, v.wl, v.pl⟩
    have hs' : lsOf (.list false (ints w)) = some (ints w) := rfl
    have c23 := t23 v' v (by omega)
    have c24w := t24s hs' hs (by omega)
    have c31 := t31 (n := n) v (by omega) (by omega) hs (by omega)
    by_cases eG : errG c w n = 0
    · rw [eG] at c31
      obtain ⟨e1, n0, n1⟩ := errG_ok eG
      obtain ⟨ok, hw⟩ := errO_ok e1
      obtain ⟨q1, q2, q3⟩ := hw w (by simp)
      have wv : WV c s w := ⟨hs, lw1, q3⟩
      have c26 := t26 v ok wv
      by_cases hnd : n < c.nd w
      · have eY : errY c w n = 8 := by simp [errY, eG, hnd]
        have c30 := t30e (n := n) v' hs' hl (by rw [eY]; decide)
        rw [eY] at c30
        refine S04.w4 ?_
        dsimp only [c4, sop, gop, nop, qmv, qsg, qex, qld, qcl, qln, qix, qbo, qt, qi]
        simp -implicitDefEqProofs only [go_sem, simprocAttr, o1, o2, f3, p3]
        refine call0 [17] false c16 (by simp -implicitDefEqProofs only [go_sem, simprocAttr]) (.inl rfl) ?_
        simp -implicitDefEqProofs only [go_sem, simprocAttr, hL, o1, o2]
        refine call1 [] false (c18) ?_
        simp -implicitDefEqProofs only [go_sem, simprocAttr]
        refine app_cp (by simp -implicitDefEqProofs only [go_sem, simprocAttr] <;> rfl) idx_22 hs (fun x hx => (ints_elem w x hx).1) (by simp -implicitDefEqProofs only [go_sem, simprocAttr]) (by simp [byt_3, ints]; omega) (by simp [maxLen, ints]; omega) ?_
        intro gw
        simp -implicitDefEqProofs only [go_sem, simprocAttr, swC, spC]
        refine call0 [22] false c30 (by simp -implicitDefEqProofs only [go_sem, simprocAttr, lstN]) (.inl rfl) ?_
        simp -implicitDefEqProofs only [go_sem, simprocAttr, o1, o2]
        refine call1 [] false (c23) ?_
        simp -implicitDefEqProofs only [go_sem, simprocAttr]
        refine call0 [] true c24w (by simp -implicitDefEqProofs only [go_sem, simprocAttr]) (.inr rfl) ?_
        simp -implicitDefEqProofs only [go_sem, simprocAttr, o1, o2]
        refine call1 [] false (c31) ?_
        simp -implicitDefEqProofs only [go_sem, simprocAttr, o1, o2]
        refine call1 [] false (c26) ?_
        simp -implicitDefEqProofs only [go_sem, simprocAttr, hnd]
        refine call1 [] false (t17) ?_
        simp -implicitDefEqProofs only [go_sem, simprocAttr]
        exact ret_fv
      · have eY : errY c w n = 0 := by simp [errY, eG, hnd]
        by_cases h1 : w.length = 1
        · have c30 := t30 (r := ([], 0)) v' hs' eY (by rw [LayIs, if_pos h1])
          have h1' : (((w.length : Nat) : Int) == 1) = true := by simp [h1]
          refine S04.w4 ?_
          dsimp only [c4, sop, gop, nop, qmv, qsg, qex, qld, qcl, qln, qix, qbo, qt, qi]
          simp -implicitDefEqProofs only [go_sem, simprocAttr, o1, o2, f3, p3]
          refine call0 [17] false c16 (by simp -implicitDefEqProofs only [go_sem, simprocAttr]) (.inl rfl) ?_
          simp -implicitDefEqProofs only [go_sem, simprocAttr, hL, o1, o2]
          refine call1 [] false (c18) ?_
          simp -implicitDefEqProofs only [go_sem, simprocAttr]
          refine app_cp (by simp -implicitDefEqProofs only [go_sem, simprocAttr] <;> rfl) idx_22 hs (fun x hx => (ints_elem w x hx).1) (by simp -implicitDefEqProofs only [go_sem, simprocAttr]) (by simp [byt_3, ints]; omega) (by simp [maxLen, ints]; omega) ?_
          intro gw
          simp -implicitDefEqProofs only [go_sem, simprocAttr, swC, spC]
          refine call0 [22] false c30 (by simp -implicitDefEqProofs only [go_sem, simprocAttr, lstN]) (.inl rfl) ?_
          simp -implicitDefEqProofs only [go_sem, simprocAttr, o1, o2]
          refine call1 [] false (c23) ?_
          simp -implicitDefEqProofs only [go_sem, simprocAttr]
          refine call0 [] true c24w (by simp -implicitDefEqProofs only [go_sem, simprocAttr]) (.inr rfl) ?_
          simp -implicitDefEqProofs only [go_sem, simprocAttr, o1, o2]
          refine call1 [] false (c31) ?_
          simp -implicitDefEqProofs only [go_sem, simprocAttr, o1, o2]
          refine call1 [] false (c26) ?_
          simp -implicitDefEqProofs only [go_sem, simprocAttr, hnd, lenV_ls hs, ints_length, h1', lstN, List.isEmpty, ints]
          refine call1 [] false (t17) ?_
          simp -implicitDefEqProofs only [go_sem, simprocAttr]
          exact ret_fv
        · obtain ⟨l, W, hr, g1, g2, g3, g4⟩ := lay_is eY h1
          have c30 := t30 (r := (l, W)) v' hs' eY hr
          have c32 := t32 v ok wv (by omega) q2 (by omega) n1 (by omega) g1 g2 (by omega) g4
          have h1' : (((w.length : Nat) : Int) == 1) = false := by simp; omega
          have ll : l.length ≤ 20 := by rw [layW_len g1, c.loo_len]; omega
          have c24l := t24s (lsOf_lstN (ints l)) (show lsOf (.list false (ints l)) = some (ints l) from rfl) (by omega)
          have hW : (W == W) = true := by simp
          refine S04.w4 ?_
          dsimp only [c4, sop, gop, nop, qmv, qsg, qex, qld, qcl, qln, qix, qbo, qt, qi]
          simp -implicitDefEqProofs only [go_sem, simprocAttr, o1, o2, f3, p3]
          refine call0 [17] false c16 (by simp -implicitDefEqProofs only [go_sem, simprocAttr]) (.inl rfl) ?_
          simp -implicitDefEqProofs only [go_sem, simprocAttr, hL, o1, o2]
          refine call1 [] false (c18) ?_
          simp -implicitDefEqProofs only [go_sem, simprocAttr]
          refine app_cp (by simp -implicitDefEqProofs only [go_sem, simprocAttr] <;> rfl) idx_22 hs (fun x hx => (ints_elem w x hx).1) (by simp -implicitDefEqProofs only [go_sem, simprocAttr]) (by simp [byt_3, ints]; omega) (by simp [maxLen, ints]; omega) ?_
          intro gw
          simp -implicitDefEqProofs only [go_sem, simprocAttr, swC, spC]
          refine call0 [22] false c30 (by simp -implicitDefEqProofs only [go_sem, simprocAttr, lstN]) (.inl rfl) ?_
          simp -implicitDefEqProofs only [go_sem, simprocAttr, o1, o2]
          refine call1 [] false (c23) ?_
          simp -implicitDefEqProofs only [go_sem, simprocAttr]
          refine call0 [] true c24w (by simp -implicitDefEqProofs only [go_sem, simprocAttr]) (.inr rfl) ?_
          simp -implicitDefEqProofs only [go_sem, simprocAttr, o1, o2]
          refine call1 [] false (c31) ?_
          simp -implicitDefEqProofs only [go_sem, simprocAttr, o1, o2]
          refine call1 [] false (c26) ?_
          simp -implicitDefEqProofs only [go_sem, simprocAttr, hnd, lenV_ls hs, ints_length, h1', o1, o2]
          refine call1 [] false (c32) ?_
          simp -implicitDefEqProofs only [go_sem, simprocAttr]
          refine call1 [] false (c24l) ?_
          simp -implicitDefEqProofs only [go_sem, simprocAttr, hW]
          refine call1 [] false (t17) ?_
          simp -implicitDefEqProofs only [go_sem, simprocAttr]
          exact ret_fv
    · have eG' : (errG c w n == 0) = false := by simpa using eG
      have eGn : (errG c w n != 0) = true := by simpa using eG
      have eGe : (errG c w n == errG c w n) = true := by simp
      have eY : errY c w n = errG c w n := by simp [errY, eG]
      have c30 := t30e (n := n) v' hs' hl (by rw [eY]; exact eG)
      rw [eY] at c30
      refine S04.w4 ?_
      dsimp only [c4, sop, gop, nop, qmv, qsg, qex, qld, qcl, qln, qix, qbo, qt, qi]
      simp -implicitDefEqProofs only [go_sem, simprocAttr, o1, o2, f3, p3]
      refine call0 [17] false c16 (by simp -implicitDefEqProofs only [go_sem, simprocAttr]) (.inl rfl) ?_
      simp -implicitDefEqProofs only [go_sem, simprocAttr, hL, o1, o2]
      refine call1 [] false (c18) ?_
      simp -implicitDefEqProofs only [go_sem, simprocAttr]
      refine app_cp (by simp -implicitDefEqProofs only [go_sem, simprocAttr] <;> rfl) idx_22 hs (fun x hx => (ints_elem w x hx).1) (by simp -implicitDefEqProofs only [go_sem, simprocAttr]) (by simp [byt_3, ints]; omega) (by simp [maxLen, ints]; omega) ?_
      intro gw
      simp -implicitDefEqProofs only [go_sem, simprocAttr, swC, spC]
      refine call0 [22] false c30 (by simp -implicitDefEqProofs only [go_sem, simprocAttr, lstN]) (.inl rfl) ?_
      simp -implicitDefEqProofs only [go_sem, simprocAttr, o1, o2]
      refine call1 [] false (c23) ?_
      simp -implicitDefEqProofs only [go_sem, simprocAttr]
      refine call0 [] true c24w (by simp -implicitDefEqProofs only [go_sem, simprocAttr]) (.inr rfl) ?_
      simp -implicitDefEqProofs only [go_sem, simprocAttr, o1, o2]
      refine call1 [] false (c31) ?_
      simp -implicitDefEqProofs only [go_sem, simprocAttr, eG', eGn, eGe]
      refine call1 [] false (t17) ?_
      simp -implicitDefEqProofs only [go_sem, simprocAttr]
      exact ret_fv
  · refine S04.w4 ?_
    dsimp only [c4, sop, gop, nop, qmv, qsg, qex, qld, qcl, qln, qix, qbo, qt, qi]
    simp -implicitDefEqProofs only [go_sem, simprocAttr, o1, o2, f3, p3]
    refine call0 [17] false c16 (by simp -implicitDefEqProofs only [go_sem, simprocAttr]) (.inl rfl) ?_
    simp -implicitDefEqProofs only [go_sem, simprocAttr, hL]
    refine call1 [] false (t17) ?_
    simp -implicitDefEqProofs only [go_sem, simprocAttr]
    exact ret_fv
end S04

