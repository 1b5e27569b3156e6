/- A part of the proof: X04h. -/
import Derived.Test.YtncbkgbdpaibmaaX04a
import Derived.Test.YtncbkgbdpaibmaaC04a0
set_option linter.unusedVariables false
set_option linter.unusedSimpArgs false
set_option maxRecDepth 20000
namespace S04
open Go Abs
def BestSu (b : Option (List Int)) (v : LV) : Prop := match b with | none => v = .gl 18 1 | some l => v = .fv (.list false (ints l))
theorem t46 {c : Cs} {sw sp s sg : FV} {w g : List Int} {most : Int} (v : CV c sw sp) (ok : c.Ok) (ws : WV c s w) (hg : lsOf sg = some (ints g)) (hgl : (g.length : Int) = (w.length : Int) - 1) (hgb : ∀ x ∈ g, 0 ≤ x ∧ x ≤ 400) (w7 : w.length ≤ 7) :
    Fn Q 46 [.fo (c.fv sw sp), .fo s, .fo sg, .fo (.int most)] (.one (.fx (rlV (c.wg w g most)))) := by
  have o1 := ls_one v.w
  have o2 := ls_one v.p
  have o3 := ls_one ws.s
  have c28 := t28 v ok ws hg hgl hgb
  have lkl : (c.lk w g).length = g.length := lks_len (c.loo w) g (by rw [c.loo_len]; omega)
  have lkb : bdd 405 (c.lk w g) := lks_bd (c.loo w) g (ok.loo w) (fun x hx => by have := hgb x hx; omega)
  have hlf : refS g.length (fun x => decide (sprF (woF x (c.lk w g) 0) ≤ most)) (2 ^ g.length) 0 none = c.wg w g most := by
    rw [ref_few, Cs.wg, lkl]
  have pw : (2 : Nat) ^ g.length ≤ 128 := by
    have := Nat.pow_le_pow_right (show 0 < 2 by decide) (show g.length ≤ 7 by omega)
    simpa using this
  have pp : 0 < (2 : Nat) ^ g.length := Nat.pow_pos (by decide)
  have pwi : (2 : Int) ^ g.length = ((2 ^ g.length : Nat) : Int) := by push_cast; rfl
  have hsh : IntKind.i64.wrap (1 * 2 ^ min g.length 64) = ((2 ^ g.length : Nat) : Int) := by
    rw [show min g.length 64 = g.length by omega, pwi, wr _ (by omega) (by omega)]; omega
  have wn0 : ¬ ((g.length : Int) < 0) := by omega
  have c92 := fun {a b : List Int} (l1 : a.length ≤ 1000000) (l2 : b.length ≤ 1000000) => t92 (sa := .list false (ints a)) (sb := .list false (ints b)) (a := a) (b := b) rfl rfl l1 l2
  generalize hlk : c.lk w g = lk at *
  have hlk2 : lsOf (.list false (ints lk)) = some (ints lk) := rfl
  refine w46 ?_
  dsimp only [c46, sop, gop, nop, qmv, qsg, qex, qld, qcl, qln, qix, qbo, qt, qi]
  simp -implicitDefEqProofs only [go_sem, simprocAttr, o1, o2, o3]
  refine call1 [] false (c28) ?_
  simp -implicitDefEqProofs only [go_sem, simprocAttr]
  refine lpH 19 [10, 11, 12, 13] 19 [] (fun a : Nat × Option (List Int) => 2 ^ g.length - a.1) (fun a => a.1 ≤ 2 ^ g.length ∧ refS g.length (fun x => decide (sprF (woF x lk 0) ≤ most)) (2 ^ g.length - a.1) a.1 a.2 = c.wg w g most ∧ ∀ x, a.2 = some x → x.length ≤ 7) (fun a ρ h => ρ 12 = .fv (.int (a.1 : Nat)) ∧ BestSu a.2 (ρ 10) ∧ ρ 11 = .fv (.bool a.2.isSome) ∧ h.gen 18 = 1 ∧ h.obj 18 = some (.list 3 1 false false [])) (0, none) ⟨Nat.zero_le _, by simpa using hlf, by simp⟩ ?_ ?_
  · simp -implicitDefEqProofs only [go_sem, simprocAttr, BestSu, Option.isSome]
  · rintro ⟨S, b⟩ ρ h ⟨i0, i1, i2⟩ ⟨r12, r10, r11, g18, o18⟩
    dsimp only at i0 i1 i2 r12 r10 r11
    by_cases hS : S < 2 ^ g.length
    · have hS' : (S : Int) < ((2 ^ g.length : Nat) : Int) := by omega
      have hwS : IntKind.i64.wrap ((S : Int) + 1) = ((S + 1 : Nat) : Int) := wr _ (by omega) (by omega)
      obtain ⟨k, hk⟩ : ∃ k, 2 ^ g.length - S = k + 1 := ⟨2 ^ g.length - S - 1, by omega⟩
      have hk' : 2 ^ g.length - (S + 1) = k := by omega
      have c91 := t91 (s := S) (n := g.length) (by omega) hS
      have sl7 := set_len g.length S
      rw [hk, refS] at i1
      generalize setL g.length S = L at *
      have c93 := t93 (l := lk) (t := .list false (ints L)) (pl := L) hlk2 rfl (by omega) (by omega)
      have wm := woF_mem (pl := L) lk 0
      have c29 := t29 (s := .list false (ints (woF L lk 0))) (l := woF L lk 0) rfl (by omega) (fun x hx => by have := lkb x (wm.1 x hx); omega)
      by_cases hp : sprF (woF L lk 0) ≤ most
      · rw [decide_eq_true hp, Bool.and_true] at i1
        cases b with
        | none =>
          have r10' : ρ 10 = .gl 18 1 := r10
          have r11' : ρ 11 = .fv (.bool false) := r11
          simp -implicitDefEqProofs only [go_sem, simprocAttr, r12, lenV_ls hg, ints_length, wu (show g.length ≤ 1000 by omega), wn0, hsh, hS']
          refine call1 [] false (c91) ?_
          simp -implicitDefEqProofs only [go_sem, simprocAttr, r11']
          refine call1 [] false (c93) ?_
          simp -implicitDefEqProofs only [go_sem, simprocAttr]
          refine call1 [] false (c29) ?_
          simp -implicitDefEqProofs only [go_sem, simprocAttr, hp, r12, hwS]
          refine nxt (S + 1, some L) (by simp only; omega) ⟨by simp only; omega, by rw [hk']; simpa [shB] using i1, fun x hx => by simp at hx; subst hx; omega⟩ ?_
          simp -implicitDefEqProofs only [go_sem, simprocAttr, BestSu, Option.isSome, g18, o18]
        | some y =>
          have r10' : ρ 10 = .fv (.list false (ints y)) := r10
          have r11' : ρ 11 = .fv (.bool true) := r11
          have yl := i2 y rfl
          cases hsh3 : shB (some y) L
          · rw [hsh3, if_neg (by simp)] at i1
            simp -implicitDefEqProofs only [go_sem, simprocAttr, r12, lenV_ls hg, ints_length, wu (show g.length ≤ 1000 by omega), wn0, hsh, hS']
            refine call1 [] false (c91) ?_
            simp -implicitDefEqProofs only [go_sem, simprocAttr, r11', r10']
            refine call1 [] false (c92 (a := L) (b := y) (by omega) (by omega)) ?_
            simp -implicitDefEqProofs only [go_sem, simprocAttr, hsh3, r12, hwS]
            refine nxt (S + 1, some y) (by simp only; omega) ⟨by simp only; omega, by rw [hk']; exact i1, i2⟩ ?_
            simp -implicitDefEqProofs only [go_sem, simprocAttr, BestSu, Option.isSome, r10', r11', g18, o18]
          · rw [hsh3, if_pos rfl] at i1
            simp -implicitDefEqProofs only [go_sem, simprocAttr, r12, lenV_ls hg, ints_length, wu (show g.length ≤ 1000 by omega), wn0, hsh, hS']
            refine call1 [] false (c91) ?_
            simp -implicitDefEqProofs only [go_sem, simprocAttr, r11', r10']
            refine call1 [] false (c92 (a := L) (b := y) (by omega) (by omega)) ?_
            simp -implicitDefEqProofs only [go_sem, simprocAttr, hsh3]
            refine call1 [] false (c93) ?_
            simp -implicitDefEqProofs only [go_sem, simprocAttr]
            refine call1 [] false (c29) ?_
            simp -implicitDefEqProofs only [go_sem, simprocAttr, hp, r12, hwS]
            refine nxt (S + 1, some L) (by simp only; omega) ⟨by simp only; omega, by rw [hk']; exact i1, fun x hx => by simp at hx; subst hx; omega⟩ ?_
            simp -implicitDefEqProofs only [go_sem, simprocAttr, BestSu, Option.isSome, g18, o18]
      · rw [decide_eq_false hp, Bool.and_false, if_neg (by simp)] at i1
        cases b with
        | none =>
          have r10' : ρ 10 = .gl 18 1 := r10
          have r11' : ρ 11 = .fv (.bool false) := r11
          simp -implicitDefEqProofs only [go_sem, simprocAttr, r12, lenV_ls hg, ints_length, wu (show g.length ≤ 1000 by omega), wn0, hsh, hS']
          refine call1 [] false (c91) ?_
          simp -implicitDefEqProofs only [go_sem, simprocAttr, r11']
          refine call1 [] false (c93) ?_
          simp -implicitDefEqProofs only [go_sem, simprocAttr]
          refine call1 [] false (c29) ?_
          simp -implicitDefEqProofs only [go_sem, simprocAttr, hp, r12, hwS]
          refine nxt (S + 1, none) (by simp only; omega) ⟨by simp only; omega, by rw [hk']; exact i1, i2⟩ ?_
          simp -implicitDefEqProofs only [go_sem, simprocAttr, BestSu, Option.isSome, r10', r11', g18, o18]
        | some y =>
          have r10' : ρ 10 = .fv (.list false (ints y)) := r10
          have r11' : ρ 11 = .fv (.bool true) := r11
          have yl := i2 y rfl
          cases hsh3 : shB (some y) L
          · simp -implicitDefEqProofs only [go_sem, simprocAttr, r12, lenV_ls hg, ints_length, wu (show g.length ≤ 1000 by omega), wn0, hsh, hS']
            refine call1 [] false (c91) ?_
            simp -implicitDefEqProofs only [go_sem, simprocAttr, r11', r10']
            refine call1 [] false (c92 (a := L) (b := y) (by omega) (by omega)) ?_
            simp -implicitDefEqProofs only [go_sem, simprocAttr, hsh3, r12, hwS]
            refine nxt (S + 1, some y) (by simp only; omega) ⟨by simp only; omega, by rw [hk']; exact i1, i2⟩ ?_
            simp -implicitDefEqProofs only [go_sem, simprocAttr, BestSu, Option.isSome, r10', r11', g18, o18]
          · simp -implicitDefEqProofs only [go_sem, simprocAttr, r12, lenV_ls hg, ints_length, wu (show g.length ≤ 1000 by omega), wn0, hsh, hS']
            refine call1 [] false (c91) ?_
            simp -implicitDefEqProofs only [go_sem, simprocAttr, r11', r10']
            refine call1 [] false (c92 (a := L) (b := y) (by omega) (by omega)) ?_
            simp -implicitDefEqProofs only [go_sem, simprocAttr, hsh3]
            refine call1 [] false (c93) ?_
            simp -implicitDefEqProofs only [go_sem, simprocAttr]
            refine call1 [] false (c29) ?_
            simp -implicitDefEqProofs only [go_sem, simprocAttr, hp, r12, hwS]
            refine nxt (S + 1, some y) (by simp only; omega) ⟨by simp only; omega, by rw [hk']; exact i1, i2⟩ ?_
            simp -implicitDefEqProofs only [go_sem, simprocAttr, BestSu, Option.isSome, r10', r11', g18, o18]
    · have hS' : ¬ (S : Int) < ((2 ^ g.length : Nat) : Int) := by omega
      have : 2 ^ g.length - S = 0 := by omega
      rw [this, refS] at i1
      rw [← i1]
      cases b with
      | none =>
        have r10' : ρ 10 = .gl 18 1 := r10
        have r11' : ρ 11 = .fv (.bool false) := r11
        simp -implicitDefEqProofs only [go_sem, simprocAttr, r12, lenV_ls hg, ints_length, wu (show g.length ≤ 1000 by omega), wn0, hsh, hS', r10', r11']
        refine ret_fx (fun _ => true) ?_
        simp -implicitDefEqProofs only [go_sem, simprocAttr, rlV, g18, o18]
      | some y =>
        have r10' : ρ 10 = .fv (.list false (ints y)) := r10
        have r11' : ρ 11 = .fv (.bool true) := r11
        simp -implicitDefEqProofs only [go_sem, simprocAttr, r12, lenV_ls hg, ints_length, wu (show g.length ≤ 1000 by omega), wn0, hsh, hS', r10', r11']
        exact ret_fv
theorem errG_1 (c : Cs) (w : List Int) : errG c w 1 = errO c [w] := by
  unfold errG
  by_cases h : errO c [w] = 0
  · rw [h, show inB 1 400 1 = true by decide]; rfl
  · rw [if_pos h]
theorem rlV_wg (o : Option (List Int)) : rlV o = .list false (ints (wgL o)) := by cases o <;> rfl
theorem t8 {c : Cs} {sw sp s sg : FV} {w g : List Int} {most : Int} (v : CV c sw sp) (hs : lsOf s = some (ints w)) (hl : w.length ≤ 9223372036854775807) (hg : lsOf sg = some (ints g)) (hgl : g.length ≤ 9223372036854775807) :
    Fn Q 8 [.fo (c.fv sw sp), .fo (.agg [s, sg]), .fo (.int most)] (.one (.fx (.bool true))) := by
  have o1 := ls_one v.w
  have o2 := ls_one v.p
  have o3 := ls_one hs
  have o4 := ls_one hg
  have l3 := ls_lcells hs
  have l4 := ls_lcells hg
  have f3 := ls_cells hs
  have p3 := ls_fone hs
  have f4 := ls_cells hg
  have p4 := ls_fone hg
  have c16 := t16 v (Lists_two hs hg hl hgl) (by simp)
  cases hL : largeF c [w, g]
  · obtain ⟨lW, lP, _, lw⟩ := large_no hL
    have lw1 := lw w (by simp)
    have lg1 := lw g (by simp)
    have c18 := t18 v (by omega) (by omega)
    have v' : CV c (swC c) (spC c) := ⟨rfl, rfl, v.wl, v.pl⟩
    have hs' : lsOf (.list false (ints w)) = some (ints w) := rfl
    have hg' : lsOf (.list false (ints g)) = some (ints g) := rfl
    have c45 := t45 (most := most) v' hs' hl hg' hgl
    have c23 := t23 v' v (by omega)
    have c24w := t24s hs' hs (by omega)
    have c24g := t24s hg' hg (by omega)
    have c31b := t31 (n := 1) v (by omega) (by omega) hs (by omega)
    have c27 := t27 hs hg (by omega) (by omega)
    rw [errG_1] at c31b
    by_cases e1 : errO c [w] = 0
    · rw [e1] at c31b
      obtain ⟨ok, hw⟩ := errO_ok e1
      obtain ⟨q1, q2, q3⟩ := hw w (by simp)
      have wv : WV c s w := ⟨hs, lw1, q3⟩
      cases e3 : gapsB w.length g
      · have eX : errX c w g most = 4 := by simp [errX, errL, e1, e3]
        rw [eX] at c45
        refine w8 ?_
        dsimp only [c8, sop, gop, nop, qmv, qsg, qex, qld, qcl, qln, qix, qbo, qt, qi]
        simp -implicitDefEqProofs only [go_sem, simprocAttr, o1, o2, o3, o4, l3, l4, Bool.and_self]
        refine W_opsD _ _ _ (Vs []) ?_ ?_
        · decide
        simp -implicitDefEqProofs only [go_sem, simprocAttr, o1, o2, o3, o4, f3, p3, f4, p4]
        refine call0 [23] false c16 (by simp -implicitDefEqProofs only [go_sem, simprocAttr]) (.inl rfl) ?_
        simp -implicitDefEqProofs only [go_sem, simprocAttr, hL, o1, o2]
        refine call1 [] false (c18) ?_
        simp -implicitDefEqProofs only [go_sem, simprocAttr]
        refine app_cp (by simp -implicitDefEqProofs only [go_sem, simprocAttr] <;> rfl) idx_22 hs (fun x hx => (ints_elem w x hx).1) (by simp -implicitDefEqProofs only [go_sem, simprocAttr]) (by simp [byt_3, ints]; omega) (by simp [maxLen, ints]; omega) ?_
        intro gw
        simp -implicitDefEqProofs only [go_sem, simprocAttr]
        refine app_cp (by simp -implicitDefEqProofs only [go_sem, simprocAttr] <;> rfl) idx_22 hg (fun x hx => (ints_elem g x hx).1) (by simp -implicitDefEqProofs only [go_sem, simprocAttr]) (by simp [byt_3, ints]; omega) (by simp [maxLen, ints]; omega) ?_
        intro gg
        simp -implicitDefEqProofs only [go_sem, simprocAttr, swC, spC]
        refine call0 [28, 31] false c45 (by simp -implicitDefEqProofs only [go_sem, simprocAttr, lstN]) (.inl rfl) ?_
        simp -implicitDefEqProofs only [go_sem, simprocAttr, o1, o2]
        refine call1 [] false (c23) ?_
        simp -implicitDefEqProofs only [go_sem, simprocAttr]
        refine call0 [] true c24w (by simp -implicitDefEqProofs only [go_sem, simprocAttr]) (.inr rfl) ?_
        simp -implicitDefEqProofs only [go_sem, simprocAttr]
        refine call0 [] true c24g (by simp -implicitDefEqProofs only [go_sem, simprocAttr]) (.inr rfl) ?_
        simp -implicitDefEqProofs only [go_sem, simprocAttr, o1, o2]
        refine call1 [] false (c31b) ?_
        simp -implicitDefEqProofs only [go_sem, simprocAttr]
        refine call1 [] false (c27) ?_
        simp -implicitDefEqProofs only [go_sem, simprocAttr, e3]
        refine call1 [] false (t17) ?_
        simp -implicitDefEqProofs only [go_sem, simprocAttr]
        exact ret_fv
      · obtain ⟨g1, g2⟩ := gapsB_ok e3
        have eL : errL c w g = 0 := by simp [errL, e1, e3]
        cases e4 : inB 0 400 most
        · have eX : errX c w g most = 3 := by simp [errX, eL, e4]
          rw [eX] at c45
          refine w8 ?_
          dsimp only [c8, sop, gop, nop, qmv, qsg, qex, qld, qcl, qln, qix, qbo, qt, qi]
          simp -implicitDefEqProofs only [go_sem, simprocAttr, o1, o2, o3, o4, l3, l4, Bool.and_self]
          refine W_opsD _ _ _ (Vs []) ?_ ?_
          · decide
          simp -implicitDefEqProofs only [go_sem, simprocAttr, o1, o2, o3, o4, f3, p3, f4, p4]
          refine call0 [23] false c16 (by simp -implicitDefEqProofs only [go_sem, simprocAttr]) (.inl rfl) ?_
          simp -implicitDefEqProofs only [go_sem, simprocAttr, hL, o1, o2]
          refine call1 [] false (c18) ?_
          simp -implicitDefEqProofs only [go_sem, simprocAttr]
          refine app_cp (by simp -implicitDefEqProofs only [go_sem, simprocAttr] <;> rfl) idx_22 hs (fun x hx => (ints_elem w x hx).1) (by simp -implicitDefEqProofs only [go_sem, simprocAttr]) (by simp [byt_3, ints]; omega) (by simp [maxLen, ints]; omega) ?_
          intro gw
          simp -implicitDefEqProofs only [go_sem, simprocAttr]
          refine app_cp (by simp -implicitDefEqProofs only [go_sem, simprocAttr] <;> rfl) idx_22 hg (fun x hx => (ints_elem g x hx).1) (by simp -implicitDefEqProofs only [go_sem, simprocAttr]) (by simp [byt_3, ints]; omega) (by simp [maxLen, ints]; omega) ?_
          intro gg
          simp -implicitDefEqProofs only [go_sem, simprocAttr, swC, spC]
          refine call0 [28, 31] false c45 (by simp -implicitDefEqProofs only [go_sem, simprocAttr, lstN]) (.inl rfl) ?_
          simp -implicitDefEqProofs only [go_sem, simprocAttr, o1, o2]
          refine call1 [] false (c23) ?_
          simp -implicitDefEqProofs only [go_sem, simprocAttr]
          refine call0 [] true c24w (by simp -implicitDefEqProofs only [go_sem, simprocAttr]) (.inr rfl) ?_
          simp -implicitDefEqProofs only [go_sem, simprocAttr]
          refine call0 [] true c24g (by simp -implicitDefEqProofs only [go_sem, simprocAttr]) (.inr rfl) ?_
          simp -implicitDefEqProofs only [go_sem, simprocAttr, o1, o2]
          refine call1 [] false (c31b) ?_
          simp -implicitDefEqProofs only [go_sem, simprocAttr]
          refine call1 [] false (c27) ?_
          simp -implicitDefEqProofs only [go_sem, simprocAttr, e3]
          refine call1 [] false (t36 most 0 400) ?_
          simp -implicitDefEqProofs only [go_sem, simprocAttr, e4]
          refine call1 [] false (t17) ?_
          simp -implicitDefEqProofs only [go_sem, simprocAttr]
          exact ret_fv
        · have c46 := t46 (most := most) v ok wv hg g1 g2 q2
          rw [rlV_wg] at c46
          have wgl : (wgL (c.wg w g most)).length ≤ 20 := by
            have hsub := fewF_SM (c.lk w g).length fun out => decide (sprF (woF out (c.lk w g) 0) ≤ most)
            have lkl : (c.lk w g).length = g.length := lks_len (c.loo w) g (by rw [c.loo_len]; omega)
            unfold Cs.wg
            generalize fewF (c.lk w g).length (fun out => decide (sprF (woF out (c.lk w g) 0) ≤ most)) = o at *
            cases o with
            | none => simp [wgL]
            | some l =>
              have := hsub.1.1.length_le
              rw [numF_len] at this
              simp only [wgL]
              omega
          cases hq : wgL (c.wg w g most) with
          | nil =>
            have eX : errX c w g most = 6 := by simp [errX, eL, e4, hq]
            rw [eX] at c45
            rw [hq] at c46
            refine w8 ?_
            dsimp only [c8, sop, gop, nop, qmv, qsg, qex, qld, qcl, qln, qix, qbo, qt, qi]
            simp -implicitDefEqProofs only [go_sem, simprocAttr, o1, o2, o3, o4, l3, l4, Bool.and_self]
            refine W_opsD _ _ _ (Vs []) ?_ ?_
            · decide
            simp -implicitDefEqProofs only [go_sem, simprocAttr, o1, o2, o3, o4, f3, p3, f4, p4]
            refine call0 [23] false c16 (by simp -implicitDefEqProofs only [go_sem, simprocAttr]) (.inl rfl) ?_
            simp -implicitDefEqProofs only [go_sem, simprocAttr, hL, o1, o2]
            refine call1 [] false (c18) ?_
            simp -implicitDefEqProofs only [go_sem, simprocAttr]
            refine app_cp (by simp -implicitDefEqProofs only [go_sem, simprocAttr] <;> rfl) idx_22 hs (fun x hx => (ints_elem w x hx).1) (by simp -implicitDefEqProofs only [go_sem, simprocAttr]) (by simp [byt_3, ints]; omega) (by simp [maxLen, ints]; omega) ?_
            intro gw
            simp -implicitDefEqProofs only [go_sem, simprocAttr]
            refine app_cp (by simp -implicitDefEqProofs only [go_sem, simprocAttr] <;> rfl) idx_22 hg (fun x hx => (ints_elem g x hx).1) (by simp -implicitDefEqProofs only [go_sem, simprocAttr]) (by simp [byt_3, ints]; omega) (by simp [maxLen, ints]; omega) ?_
            intro gg
            simp -implicitDefEqProofs only [go_sem, simprocAttr, swC, spC]
            refine call0 [28, 31] false c45 (by simp -implicitDefEqProofs only [go_sem, simprocAttr, lstN]) (.inl rfl) ?_
            simp -implicitDefEqProofs only [go_sem, simprocAttr, o1, o2]
            refine call1 [] false (c23) ?_
            simp -implicitDefEqProofs only [go_sem, simprocAttr]
            refine call0 [] true c24w (by simp -implicitDefEqProofs only [go_sem, simprocAttr]) (.inr rfl) ?_
            simp -implicitDefEqProofs only [go_sem, simprocAttr]
            refine call0 [] true c24g (by simp -implicitDefEqProofs only [go_sem, simprocAttr]) (.inr rfl) ?_
            simp -implicitDefEqProofs only [go_sem, simprocAttr, o1, o2]
            refine call1 [] false (c31b) ?_
            simp -implicitDefEqProofs only [go_sem, simprocAttr]
            refine call1 [] false (c27) ?_
            simp -implicitDefEqProofs only [go_sem, simprocAttr, e3]
            refine call1 [] false (t36 most 0 400) ?_
            simp -implicitDefEqProofs only [go_sem, simprocAttr, e4, o1, o2]
            refine call1 [] false (c46) ?_
            simp -implicitDefEqProofs only [go_sem, simprocAttr, ints]
            refine call1 [] false (t17) ?_
            simp -implicitDefEqProofs only [go_sem, simprocAttr]
            exact ret_fv
          | cons x l =>
            have eX : errX c w g most = 0 := by simp [errX, eL, e4, hq]
            rw [eX, if_pos rfl, hq] at c45
            rw [hq] at c46 wgl
            have c24l := t24s (lsOf_lstN (ints (x :: l))) (show lsOf (.list false (ints (x :: l))) = some (ints (x :: l)) from rfl) (by omega)
            have ne0 : (((l.length + 1 : Nat) : Int) == 0) = false := by simp; omega
            refine w8 ?_
            dsimp only [c8, sop, gop, nop, qmv, qsg, qex, qld, qcl, qln, qix, qbo, qt, qi]
            simp -implicitDefEqProofs only [go_sem, simprocAttr, o1, o2, o3, o4, l3, l4, Bool.and_self]
            refine W_opsD _ _ _ (Vs []) ?_ ?_
            · decide
            simp -implicitDefEqProofs only [go_sem, simprocAttr, o1, o2, o3, o4, f3, p3, f4, p4]
            refine call0 [23] false c16 (by simp -implicitDefEqProofs only [go_sem, simprocAttr]) (.inl rfl) ?_
            simp -implicitDefEqProofs only [go_sem, simprocAttr, hL, o1, o2]
            refine call1 [] false (c18) ?_
            simp -implicitDefEqProofs only [go_sem, simprocAttr]
            refine app_cp (by simp -implicitDefEqProofs only [go_sem, simprocAttr] <;> rfl) idx_22 hs (fun x hx => (ints_elem w x hx).1) (by simp -implicitDefEqProofs only [go_sem, simprocAttr]) (by simp [byt_3, ints]; omega) (by simp [maxLen, ints]; omega) ?_
            intro gw
            simp -implicitDefEqProofs only [go_sem, simprocAttr]
            refine app_cp (by simp -implicitDefEqProofs only [go_sem, simprocAttr] <;> rfl) idx_22 hg (fun x hx => (ints_elem g x hx).1) (by simp -implicitDefEqProofs only [go_sem, simprocAttr]) (by simp [byt_3, ints]; omega) (by simp [maxLen, ints]; omega) ?_
            intro gg
            simp -implicitDefEqProofs only [go_sem, simprocAttr, swC, spC]
            refine call0 [28, 31] false c45 (by simp -implicitDefEqProofs only [go_sem, simprocAttr, lstN]) (.inl rfl) ?_
            simp -implicitDefEqProofs only [go_sem, simprocAttr, o1, o2]
            refine call1 [] false (c23) ?_
            simp -implicitDefEqProofs only [go_sem, simprocAttr]
            refine call0 [] true c24w (by simp -implicitDefEqProofs only [go_sem, simprocAttr]) (.inr rfl) ?_
            simp -implicitDefEqProofs only [go_sem, simprocAttr]
            refine call0 [] true c24g (by simp -implicitDefEqProofs only [go_sem, simprocAttr]) (.inr rfl) ?_
            simp -implicitDefEqProofs only [go_sem, simprocAttr, o1, o2]
            refine call1 [] false (c31b) ?_
            simp -implicitDefEqProofs only [go_sem, simprocAttr]
            refine call1 [] false (c27) ?_
            simp -implicitDefEqProofs only [go_sem, simprocAttr, e3]
            refine call1 [] false (t36 most 0 400) ?_
            simp -implicitDefEqProofs only [go_sem, simprocAttr, e4, o1, o2]
            refine call1 [] false (c46) ?_
            simp -implicitDefEqProofs only [go_sem, simprocAttr, ints_length, List.length_cons, ne0]
            refine call1 [] false (c24l) ?_
            simp -implicitDefEqProofs only [go_sem, simprocAttr]
            refine call1 [] false (t17) ?_
            simp -implicitDefEqProofs only [go_sem, simprocAttr]
            exact ret_fv
    · have eX : errX c w g most = errO c [w] := by simp [errX, errL, e1]
      have x1 : (errO c [w] == 0) = false := by simpa using e1
      have x2 : (errO c [w] != 0) = true := by simpa using e1
      have x3 : (errO c [w] == errO c [w]) = true := by simp
      rw [eX, if_neg e1] at c45
      refine w8 ?_
      dsimp only [c8, sop, gop, nop, qmv, qsg, qex, qld, qcl, qln, qix, qbo, qt, qi]
      simp -implicitDefEqProofs only [go_sem, simprocAttr, o1, o2, o3, o4, l3, l4, Bool.and_self]
      refine W_opsD _ _ _ (Vs []) ?_ ?_
      · decide
      simp -implicitDefEqProofs only [go_sem, simprocAttr, o1, o2, o3, o4, f3, p3, f4, p4]
      refine call0 [23] false c16 (by simp -implicitDefEqProofs only [go_sem, simprocAttr]) (.inl rfl) ?_
      simp -implicitDefEqProofs only [go_sem, simprocAttr, hL, o1, o2]
      refine call1 [] false (c18) ?_
      simp -implicitDefEqProofs only [go_sem, simprocAttr]
      refine app_cp (by simp -implicitDefEqProofs only [go_sem, simprocAttr] <;> rfl) idx_22 hs (fun x hx => (ints_elem w x hx).1) (by simp -implicitDefEqProofs only [go_sem, simprocAttr]) (by simp [byt_3, ints]; omega) (by simp [maxLen, ints]; omega) ?_
      intro gw
      simp -implicitDefEqProofs only [go_sem, simprocAttr]
      refine app_cp (by simp -implicitDefEqProofs only [go_sem, simprocAttr] <;> rfl) idx_22 hg (fun x hx => (ints_elem g x hx).1) (by simp -implicitDefEqProofs only [go_sem, simprocAttr]) (by simp [byt_3, ints]; omega) (by simp [maxLen, ints]; omega) ?_
      intro gg
      simp -implicitDefEqProofs only [go_sem, simprocAttr, swC, spC]
      refine call0 [28, 31] false c45 (by simp -implicitDefEqProofs only [go_sem, simprocAttr, lstN]) (.inl rfl) ?_
      simp -implicitDefEqProofs only [go_sem, simprocAttr, o1, o2]
      refine call1 [] false (c23) ?_
      simp -implicitDefEqProofs only [go_sem, simprocAttr]
      refine call0 [] true c24w (by simp -implicitDefEqProofs only [go_sem, simprocAttr]) (.inr rfl) ?_
      simp -implicitDefEqProofs only [go_sem, simprocAttr]
      refine call0 [] true c24g (by simp -implicitDefEqProofs only [go_sem, simprocAttr]) (.inr rfl) ?_
      simp -implicitDefEqProofs only [go_sem, simprocAttr, o1, o2]
      refine call1 [] false (c31b) ?_
      simp -implicitDefEqProofs only [go_sem, simprocAttr, x1, x2, x3]
      refine call1 [] false (t17) ?_
      simp -implicitDefEqProofs only [go_sem, simprocAttr]
      exact ret_fv
  · refine w8 ?_
    dsimp only [c8, sop, gop, nop, qmv, qsg, qex, qld, qcl, qln, qix, qbo, qt, qi]
    simp -implicitDefEqProofs only [go_sem, simprocAttr, o1, o2, o3, o4, l3, l4, Bool.and_self]
    refine W_opsD _ _ _ (Vs []) ?_ ?_
    · decide
    simp -implicitDefEqProofs only [go_sem, simprocAttr, o1, o2, o3, o4, f3, p3, f4, p4]
    refine call0 [23] false c16 (by simp -implicitDefEqProofs only [go_sem, simprocAttr]) (.inl rfl) ?_
    simp -implicitDefEqProofs only [go_sem, simprocAttr, hL]
    refine call1 [] false (t17) ?_
    simp -implicitDefEqProofs only [go_sem, simprocAttr]
    exact ret_fv
end S04

