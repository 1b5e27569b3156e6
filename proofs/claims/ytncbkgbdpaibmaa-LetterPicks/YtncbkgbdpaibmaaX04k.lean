/- A part of the proof: X04k. -/
import Derived.Test.YtncbkgbdpaibmaaX04j
import Derived.Test.YtncbkgbdpaibmaaC04c0
set_option linter.unusedVariables false
set_option linter.unusedSimpArgs false
set_option maxRecDepth 20000
namespace S04
open Go Abs
theorem t7 {c : Cs} {sw sp sW spl : FV} {W : List (List Int)} {pl : List Int} (v : CV c sw sp) (hW : Lists sW W) (hl : W.length ≤ 9223372036854775807) (hp : lsOf spl = some (ints pl)) (hpl : pl.length ≤ 9223372036854775807) :
    Fn Q 7 [.fo (c.fv sw sp), .fo sW, .fo spl] (.one (.fx (.bool true))) := by
  have o1 := ls_one v.w
  have o2 := ls_one v.p
  have o3 := ls_one hp
  have c16 := t16 v hW hl
  cases hL : largeF c W
  · by_cases p20' : 20 < pl.length
    · have p20 : (20 : Int) < (pl.length : Nat) := by omega
      refine w7 ?_
      dsimp only [c7, sop, gop, nop, qmv, qsg, qex, qld, qcl, qln, qix, qbo, qt, qi]
      simp -implicitDefEqProofs only [go_sem, simprocAttr, o1, o2]
      refine call0 [] false c16 (by simp -implicitDefEqProofs only [go_sem, simprocAttr]) (.inl rfl) ?_
      simp -implicitDefEqProofs only [go_sem, simprocAttr, hL, lenV_ls hp, ints_length, p20]
      refine call1 [] false (t17) ?_
      simp -implicitDefEqProofs only [go_sem, simprocAttr]
      exact ret_fv
    · have p20 : ¬ (20 : Int) < (pl.length : Nat) := by omega
      obtain ⟨lW, lP, lw0, lw⟩ := large_no hL
      have c18 := t18 v (by omega) (by omega)
      have c38 := t38 hW (by omega) (fun l hl => by have := lw l hl; omega)
      have v' : CV c (swC c) (spC c) := ⟨rfl, rfl, v.wl, v.pl⟩
      have hp' : lsOf (.list false (ints pl)) = some (ints pl) := rfl
      have hW' : Lists (.list false (lsW W)) W := lists_of fun l hl => by have := lw l hl; omega
      have c43 := t43 v' hW' hl hp' hpl
      have c23 := t23 v' v (by omega)
      have c40 := t40s hW' hW (by omega) (fun l hl => by have := lw l hl; omega)
      have c24p := t24s hp' hp (by omega)
      have c22 := t22 v (by omega) (by omega)
      have c41 := t41 v hW (by omega) (fun l hl => by have := lw l hl; omega)
      have hW2 := hW
      obtain ⟨wl, w1, w2, w3⟩ := hW2
      have la : wl.length = W.length := by rw [← w2]; simp
      have oW := ls_one w1
      by_cases e1 : errC c = 0
      · rw [e1] at c22
        by_cases e2 : 5 < W.length ∨ 6 < pl.length
        · have eK : errK c W pl = 5 := by simp only [errK, e1, if_pos e2]; simp
          have eZ : errZ c W pl = 5 := by simp [errZ, eK]
          have eV : pkV c W pl = .nil := by simp [pkV, eK]
          rw [eZ, eV] at c43
          have x1 : True := trivial
          have x3 : True := trivial
          by_cases e3 : 5 < W.length
          · have e3' : (5 : Int) < (W.length : Nat) := by omega
            refine w7 ?_
            dsimp only [c7, sop, gop, nop, qmv, qsg, qex, qld, qcl, qln, qix, qbo, qt, qi]
            simp -implicitDefEqProofs only [go_sem, simprocAttr, o1, o2]
            refine call0 [] false c16 (by simp -implicitDefEqProofs only [go_sem, simprocAttr]) (.inl rfl) ?_
            simp -implicitDefEqProofs only [go_sem, simprocAttr, hL, lenV_ls hp, ints_length, p20, o1, o2]
            refine call1 [] false (c18) ?_
            simp -implicitDefEqProofs only [go_sem, simprocAttr]
            refine call0 [] false c38 (by simp -implicitDefEqProofs only [go_sem, simprocAttr]) (.inl rfl) ?_
            simp -implicitDefEqProofs only [go_sem, simprocAttr]
            refine app_cp (by simp -implicitDefEqProofs only [go_sem, simprocAttr] <;> rfl) idx_22 hp (fun x hx => (ints_elem pl x hx).1) (by simp -implicitDefEqProofs only [go_sem, simprocAttr]) (by simp [byt_3, ints]; omega) (by simp [maxLen, ints]; omega) ?_
            intro g1
            simp -implicitDefEqProofs only [go_sem, simprocAttr, swC, spC]
            refine call0 [29] false c43 (by simp -implicitDefEqProofs only [go_sem, simprocAttr, lstN]) (.inl rfl) ?_
            simp -implicitDefEqProofs only [go_sem, simprocAttr, o1, o2]
            refine call1 [] false (c23) ?_
            simp -implicitDefEqProofs only [go_sem, simprocAttr]
            refine call0 [] true c40 (by simp -implicitDefEqProofs only [go_sem, simprocAttr]) (.inr rfl) ?_
            simp -implicitDefEqProofs only [go_sem, simprocAttr]
            refine call0 [] true c24p (by simp -implicitDefEqProofs only [go_sem, simprocAttr]) (.inr rfl) ?_
            simp -implicitDefEqProofs only [go_sem, simprocAttr, o1, o2]
            refine call1 [] false (c22) ?_
            simp -implicitDefEqProofs only [go_sem, simprocAttr, lenV_ls w1, la, e3']
            by_cases pz : pl.length = 0
            · refine lp (n := 1) (lpStep ?_)
              have pz' : ¬ ((0 : Int) < (pl.length : Nat)) := by omega
              simp -implicitDefEqProofs only [go_sem, simprocAttr, lenV_ls hp, ints_length, pz', x1, x3]
              refine call1 [] false (t17) ?_
              simp -implicitDefEqProofs only [go_sem, simprocAttr]
              exact ret_fv
            · refine lp (n := 1) (lpStep ?_)
              have pz' : ((0 : Int) < (pl.length : Nat)) := by omega
              simp -implicitDefEqProofs only [go_sem, simprocAttr, lenV_ls hp, ints_length, pz', x1, x3]
              refine call1 [] false (t17) ?_
              simp -implicitDefEqProofs only [go_sem, simprocAttr]
              exact ret_fv
          · have e3' : ¬ (5 : Int) < (W.length : Nat) := by omega
            have e4' : (6 : Int) < (pl.length : Nat) := by omega
            refine w7 ?_
            dsimp only [c7, sop, gop, nop, qmv, qsg, qex, qld, qcl, qln, qix, qbo, qt, qi]
            simp -implicitDefEqProofs only [go_sem, simprocAttr, o1, o2]
            refine call0 [] false c16 (by simp -implicitDefEqProofs only [go_sem, simprocAttr]) (.inl rfl) ?_
            simp -implicitDefEqProofs only [go_sem, simprocAttr, hL, lenV_ls hp, ints_length, p20, o1, o2]
            refine call1 [] false (c18) ?_
            simp -implicitDefEqProofs only [go_sem, simprocAttr]
            refine call0 [] false c38 (by simp -implicitDefEqProofs only [go_sem, simprocAttr]) (.inl rfl) ?_
            simp -implicitDefEqProofs only [go_sem, simprocAttr]
            refine app_cp (by simp -implicitDefEqProofs only [go_sem, simprocAttr] <;> rfl) idx_22 hp (fun x hx => (ints_elem pl x hx).1) (by simp -implicitDefEqProofs only [go_sem, simprocAttr]) (by simp [byt_3, ints]; omega) (by simp [maxLen, ints]; omega) ?_
            intro g1
            simp -implicitDefEqProofs only [go_sem, simprocAttr, swC, spC]
            refine call0 [29] false c43 (by simp -implicitDefEqProofs only [go_sem, simprocAttr, lstN]) (.inl rfl) ?_
            simp -implicitDefEqProofs only [go_sem, simprocAttr, o1, o2]
            refine call1 [] false (c23) ?_
            simp -implicitDefEqProofs only [go_sem, simprocAttr]
            refine call0 [] true c40 (by simp -implicitDefEqProofs only [go_sem, simprocAttr]) (.inr rfl) ?_
            simp -implicitDefEqProofs only [go_sem, simprocAttr]
            refine call0 [] true c24p (by simp -implicitDefEqProofs only [go_sem, simprocAttr]) (.inr rfl) ?_
            simp -implicitDefEqProofs only [go_sem, simprocAttr, o1, o2]
            refine call1 [] false (c22) ?_
            simp -implicitDefEqProofs only [go_sem, simprocAttr, lenV_ls w1, la, e3', lenV_ls hp, ints_length, e4']
            by_cases pz : pl.length = 0
            · refine lp (n := 1) (lpStep ?_)
              have pz' : ¬ ((0 : Int) < (pl.length : Nat)) := by omega
              simp -implicitDefEqProofs only [go_sem, simprocAttr, lenV_ls hp, ints_length, pz', x1, x3]
              refine call1 [] false (t17) ?_
              simp -implicitDefEqProofs only [go_sem, simprocAttr]
              exact ret_fv
            · refine lp (n := 1) (lpStep ?_)
              have pz' : ((0 : Int) < (pl.length : Nat)) := by omega
              simp -implicitDefEqProofs only [go_sem, simprocAttr, lenV_ls hp, ints_length, pz', x1, x3]
              refine call1 [] false (t17) ?_
              simp -implicitDefEqProofs only [go_sem, simprocAttr]
              exact ret_fv
        · have e3' : ¬ (5 : Int) < (W.length : Nat) := by omega
          have e4' : ¬ (6 : Int) < (pl.length : Nat) := by omega
          by_cases e5 : W.any (fun w => !isW c.W.length 0 w) = true
          · have eO : errO c W = 4 := by unfold errO; rw [if_neg (by simpa using e1), if_pos e5]
            have eK : errK c W pl = 4 := by simp only [errK, e1, if_neg e2, eO]; simp
            have eZ : errZ c W pl = 4 := by simp [errZ, eK]
            have eV : pkV c W pl = .nil := by simp [pkV, eK]
            rw [eZ, eV] at c43
            rw [if_pos e5] at c41
            have x1 : True := trivial
            have x3 : True := trivial
            refine w7 ?_
            dsimp only [c7, sop, gop, nop, qmv, qsg, qex, qld, qcl, qln, qix, qbo, qt, qi]
            simp -implicitDefEqProofs only [go_sem, simprocAttr, o1, o2]
            refine call0 [] false c16 (by simp -implicitDefEqProofs only [go_sem, simprocAttr]) (.inl rfl) ?_
            simp -implicitDefEqProofs only [go_sem, simprocAttr, hL, lenV_ls hp, ints_length, p20, o1, o2]
            refine call1 [] false (c18) ?_
            simp -implicitDefEqProofs only [go_sem, simprocAttr]
            refine call0 [] false c38 (by simp -implicitDefEqProofs only [go_sem, simprocAttr]) (.inl rfl) ?_
            simp -implicitDefEqProofs only [go_sem, simprocAttr]
            refine app_cp (by simp -implicitDefEqProofs only [go_sem, simprocAttr] <;> rfl) idx_22 hp (fun x hx => (ints_elem pl x hx).1) (by simp -implicitDefEqProofs only [go_sem, simprocAttr]) (by simp [byt_3, ints]; omega) (by simp [maxLen, ints]; omega) ?_
            intro g1
            simp -implicitDefEqProofs only [go_sem, simprocAttr, swC, spC]
            refine call0 [29] false c43 (by simp -implicitDefEqProofs only [go_sem, simprocAttr, lstN]) (.inl rfl) ?_
            simp -implicitDefEqProofs only [go_sem, simprocAttr, o1, o2]
            refine call1 [] false (c23) ?_
            simp -implicitDefEqProofs only [go_sem, simprocAttr]
            refine call0 [] true c40 (by simp -implicitDefEqProofs only [go_sem, simprocAttr]) (.inr rfl) ?_
            simp -implicitDefEqProofs only [go_sem, simprocAttr]
            refine call0 [] true c24p (by simp -implicitDefEqProofs only [go_sem, simprocAttr]) (.inr rfl) ?_
            simp -implicitDefEqProofs only [go_sem, simprocAttr, o1, o2]
            refine call1 [] false (c22) ?_
            simp -implicitDefEqProofs only [go_sem, simprocAttr, lenV_ls w1, la, e3', lenV_ls hp, ints_length, e4', o1, o2]
            refine call1 [] false (c41) ?_
            simp -implicitDefEqProofs only [go_sem, simprocAttr]
            by_cases pz : pl.length = 0
            · refine lp (n := 1) (lpStep ?_)
              have pz' : ¬ ((0 : Int) < (pl.length : Nat)) := by omega
              simp -implicitDefEqProofs only [go_sem, simprocAttr, lenV_ls hp, ints_length, pz', x1, x3]
              refine call1 [] false (t17) ?_
              simp -implicitDefEqProofs only [go_sem, simprocAttr]
              exact ret_fv
            · refine lp (n := 1) (lpStep ?_)
              have pz' : ((0 : Int) < (pl.length : Nat)) := by omega
              simp -implicitDefEqProofs only [go_sem, simprocAttr, lenV_ls hp, ints_length, pz', x1, x3]
              refine call1 [] false (t17) ?_
              simp -implicitDefEqProofs only [go_sem, simprocAttr]
              exact ret_fv
          · have eO : errO c W = 0 := by unfold errO; rw [if_neg (by simpa using e1), if_neg e5]
            rw [if_neg e5] at c41
            have wv := mk_WsV w1 w2 w3 (by omega) eO
            have ok := errC_ok e1
            have eK : errK c W pl = if pl.all (inB 1 400) = false then 3 else 0 := by simp only [errK, e1, if_neg e2, eO]; simp
            have x1 : True := trivial
            have x3 : True := trivial
            refine w7 ?_
            dsimp only [c7, sop, gop, nop, qmv, qsg, qex, qld, qcl, qln, qix, qbo, qt, qi]
            simp -implicitDefEqProofs only [go_sem, simprocAttr, o1, o2]
            refine call0 [] false c16 (by simp -implicitDefEqProofs only [go_sem, simprocAttr]) (.inl rfl) ?_
            simp -implicitDefEqProofs only [go_sem, simprocAttr, hL, lenV_ls hp, ints_length, p20, o1, o2]
            refine call1 [] false (c18) ?_
            simp -implicitDefEqProofs only [go_sem, simprocAttr]
            refine call0 [] false c38 (by simp -implicitDefEqProofs only [go_sem, simprocAttr]) (.inl rfl) ?_
            simp -implicitDefEqProofs only [go_sem, simprocAttr]
            refine app_cp (by simp -implicitDefEqProofs only [go_sem, simprocAttr] <;> rfl) idx_22 hp (fun x hx => (ints_elem pl x hx).1) (by simp -implicitDefEqProofs only [go_sem, simprocAttr]) (by simp [byt_3, ints]; omega) (by simp [maxLen, ints]; omega) ?_
            intro g1
            simp -implicitDefEqProofs only [go_sem, simprocAttr, swC, spC]
            refine call0 [29] false c43 (by simp -implicitDefEqProofs only [go_sem, simprocAttr, lstN]) (.inl rfl) ?_
            simp -implicitDefEqProofs only [go_sem, simprocAttr, o1, o2]
            refine call1 [] false (c23) ?_
            simp -implicitDefEqProofs only [go_sem, simprocAttr]
            refine call0 [] true c40 (by simp -implicitDefEqProofs only [go_sem, simprocAttr]) (.inr rfl) ?_
            simp -implicitDefEqProofs only [go_sem, simprocAttr]
            refine call0 [] true c24p (by simp -implicitDefEqProofs only [go_sem, simprocAttr]) (.inr rfl) ?_
            simp -implicitDefEqProofs only [go_sem, simprocAttr, o1, o2]
            refine call1 [] false (c22) ?_
            simp -implicitDefEqProofs only [go_sem, simprocAttr, lenV_ls w1, la, e3', lenV_ls hp, ints_length, e4', o1, o2]
            refine call1 [] false (c41) ?_
            simp -implicitDefEqProofs only [go_sem, simprocAttr]
            refine lpH 74 [12, 13] 74 [] (fun a : Nat × Bool => pl.length + 1 - a.1) (fun a => a.1 ≤ pl.length ∧ (a.2 = true → (pl.take a.1).all (inB 1 400) = true) ∧ (a.2 = false → pl.all (inB 1 400) = false)) (fun a ρ h => ρ 13 = .fv (.int (a.1 : Nat)) ∧ ρ 12 = .fv (.int (if a.2 then 0 else 3))) (0, true) ⟨Nat.zero_le _, by simp, by simp⟩ ?_ ?_
            · simp -implicitDefEqProofs only [go_sem, simprocAttr]
            · rintro ⟨k, b⟩ ρ h ⟨k1, i1, i2⟩ ⟨r13, r12⟩
              dsimp only at k1 i1 i2 r13 r12
              cases b with
              | false =>
                have r12' : ρ 12 = .fv (.int 3) := r12
                have eK3 : errK c W pl = 3 := by rw [eK, if_pos (i2 rfl)]
                have eZ : errZ c W pl = 3 := by simp [errZ, eK3]
                have eV : pkV c W pl = .nil := by simp [pkV, eK3]
                by_cases hk : k < pl.length
                · have hk' : (k : Int) < (pl.length : Nat) := by omega
                  simp -implicitDefEqProofs only [go_sem, simprocAttr, r13, r12', lenV_ls hp, ints_length, hk', eZ, eV]
                  refine call1 [] false (t17) ?_
                  simp -implicitDefEqProofs only [go_sem, simprocAttr]
                  exact ret_fv
                · have hk' : ¬ (k : Int) < (pl.length : Nat) := by omega
                  simp -implicitDefEqProofs only [go_sem, simprocAttr, r13, r12', lenV_ls hp, ints_length, hk', eZ, eV]
                  refine call1 [] false (t17) ?_
                  simp -implicitDefEqProofs only [go_sem, simprocAttr]
                  exact ret_fv
              | true =>
                have r12' : ρ 12 = .fv (.int 0) := r12
                have ea := i1 rfl
                by_cases hk : k < pl.length
                · have hk' : (k : Int) < (pl.length : Nat) := by omega
                  have hw : IntKind.i64.wrap ((k : Int) + 1) = ((k + 1 : Nat) : Int) := wr _ (by omega) (by omega)
                  obtain ⟨x, hx⟩ : ∃ x, pl[k]? = some x := ⟨_, List.getElem?_eq_getElem hk⟩
                  have et : pl.take (k + 1) = pl.take k ++ [x] := by rw [List.take_add_one, hx]; rfl
                  cases gx : inB 1 400 x
                  · simp -implicitDefEqProofs only [go_sem, simprocAttr, r13, r12', lenV_ls hp, ints_length, hk', index_map hp idx_22 hx rfl]
                    refine call1 [] false (t36 x 1 400) ?_
                    simp -implicitDefEqProofs only [go_sem, simprocAttr, gx, r13, hw]
                    refine nxt (k + 1, false) (by simp only; omega) ⟨by simp only; omega, by simp, fun _ => all_take hx gx⟩ ?_
                    simp -implicitDefEqProofs only [go_sem, simprocAttr]
                  · simp -implicitDefEqProofs only [go_sem, simprocAttr, r13, r12', lenV_ls hp, ints_length, hk', index_map hp idx_22 hx rfl]
                    refine call1 [] false (t36 x 1 400) ?_
                    simp -implicitDefEqProofs only [go_sem, simprocAttr, gx, r13, hw]
                    refine nxt (k + 1, true) (by simp only; omega) ⟨by simp only; omega, fun _ => by rw [et, List.all_append, ea]; simp [gx], by simp⟩ ?_
                    simp -implicitDefEqProofs only [go_sem, simprocAttr, r12']
                · have hk' : ¬ (k : Int) < (pl.length : Nat) := by omega
                  rw [List.take_of_length_le (by omega)] at ea
                  have hpv : PlV spl pl := ⟨hp, by omega, fun x hx => by have := List.all_eq_true.1 ea x hx; exact inB_iff.1 this⟩
                  have c44 := t44 v ok wv hpv
                  have eK0 : errK c W pl = 0 := by rw [eK, if_neg (by simp [ea])]
                  have href := pk_ref (c := c) (W := W) hpv.b
                  rw [w2, ← href] at c44
                  by_cases hW0 : W.length = 0
                  · have eZ : errZ c W pl = 0 := by simp [errZ, eK0, hW0]
                    have eV : pkV c W pl = .nil := by simp [pkV, eK0, hW0]
                    have hWn : W = [] := List.eq_nil_of_length_eq_zero hW0
                    have hpk : (c.pk W pl).map (·.1) = some [] := by rw [href, hWn]; rfl
                    rw [hpk] at c44
                    have c24e := t24s (sa := .nil) (sb := .list false (ints [])) (a := []) rfl rfl (by simp)
                    simp -implicitDefEqProofs only [go_sem, simprocAttr, r13, r12', lenV_ls hp, ints_length, hk', o1, o2, oW, o3]
                    refine call1 [] false (c44) ?_
                    simp -implicitDefEqProofs only [go_sem, simprocAttr, eZ, eV, optL, Option.isSome]
                    refine call1 [] false (c24e) ?_
                    simp -implicitDefEqProofs only [go_sem, simprocAttr]
                    refine call1 [] false (t17) ?_
                    simp -implicitDefEqProofs only [go_sem, simprocAttr]
                    exact ret_fv
                  · have eZ : errZ c W pl = if (c.pk W pl).isSome then 0 else 9 := by simp [errZ, eK0, hW0]
                    have eV : pkV c W pl = (optB (c.pk W pl)).1 := by simp [pkV, eK0, hW0]
                    cases hpk : c.pk W pl with
                    | none =>
                      rw [hpk] at c44 eZ eV
                      simp -implicitDefEqProofs only [go_sem, simprocAttr, r13, r12', lenV_ls hp, ints_length, hk', o1, o2, oW, o3]
                      refine call1 [] false (c44) ?_
                      simp -implicitDefEqProofs only [go_sem, simprocAttr, eZ, eV, optL, Option.isSome, Option.map_none, optB]
                      refine call1 [] false (t17) ?_
                      simp -implicitDefEqProofs only [go_sem, simprocAttr]
                      exact ret_fv
                    | some x =>
                      have hxm : x.1.length ≤ 5 := by
                        have h1 : refP pl (c.pks pl W []) = some x.1 := by rw [← href, hpk]; rfl
                        have h2 : x.1 ∈ c.pks pl W [] := by
                          cases hA : c.pks pl W [] with
                          | nil => rw [hA] at h1; simp [refP] at h1
                          | cons l L =>
                            rw [hA, refP_fold] at h1
                            simp only [Option.some.injEq] at h1
                            rw [← h1]
                            have : ∀ (L : List (List Int)) (b : List Int), L.foldl (pkB pl) b = b ∨ L.foldl (pkB pl) b ∈ L := by
                              intro L
                              induction L with
                              | nil => intro b; exact .inl rfl
                              | cons y L ih =>
                                intro b
                                rw [List.foldl_cons]
                                rcases ih (pkB pl b y) with h | h
                                · rw [h]; unfold pkB; split
                                  · exact .inr (by simp)
                                  · exact .inl rfl
                                · exact .inr (List.mem_cons_of_mem _ h)
                            rcases this L l with h | h
                            · rw [h]; simp
                            · exact List.mem_cons_of_mem _ h
                        have := (pks_long (c := c) hpv.b W [] x.1 h2).2.1
                        simp at this
                        omega
                      rw [hpk] at c44 eZ eV
                      have c24e := t24s (sa := .list false (ints x.1)) (sb := .list false (ints x.1)) (a := x.1) rfl rfl (by omega)
                      simp -implicitDefEqProofs only [go_sem, simprocAttr, r13, r12', lenV_ls hp, ints_length, hk', o1, o2, oW, o3]
                      refine call1 [] false (c44) ?_
                      simp -implicitDefEqProofs only [go_sem, simprocAttr, eZ, eV, optL, Option.isSome, Option.map_some, optB]
                      refine call1 [] false (c24e) ?_
                      simp -implicitDefEqProofs only [go_sem, simprocAttr]
                      refine call1 [] false (t17) ?_
                      simp -implicitDefEqProofs only [go_sem, simprocAttr]
                      exact ret_fv
      · have x1 : (errC c == 0) = false := by simpa using e1
        have x3 : (errC c == errC c) = true := by simp
        have eK : errK c W pl = errC c := by simp [errK, e1]
        have eZ : errZ c W pl = errC c := by simp [errZ, eK, e1]
        have eV : pkV c W pl = .nil := by simp [pkV, eK, e1]
        rw [eZ, eV] at c43
        refine w7 ?_
        dsimp only [c7, sop, gop, nop, qmv, qsg, qex, qld, qcl, qln, qix, qbo, qt, qi]
        simp -implicitDefEqProofs only [go_sem, simprocAttr, o1, o2]
        refine call0 [] false c16 (by simp -implicitDefEqProofs only [go_sem, simprocAttr]) (.inl rfl) ?_
        simp -implicitDefEqProofs only [go_sem, simprocAttr, hL, lenV_ls hp, ints_length, p20, o1, o2]
        refine call1 [] false (c18) ?_
        simp -implicitDefEqProofs only [go_sem, simprocAttr]
        refine call0 [] false c38 (by simp -implicitDefEqProofs only [go_sem, simprocAttr]) (.inl rfl) ?_
        simp -implicitDefEqProofs only [go_sem, simprocAttr]
        refine app_cp (by simp -implicitDefEqProofs only [go_sem, simprocAttr] <;> rfl) idx_22 hp (fun x hx => (ints_elem pl x hx).1) (by simp -implicitDefEqProofs only [go_sem, simprocAttr]) (by simp [byt_3, ints]; omega) (by simp [maxLen, ints]; omega) ?_
        intro g1
        simp -implicitDefEqProofs only [go_sem, simprocAttr, swC, spC]
        refine call0 [29] false c43 (by simp -implicitDefEqProofs only [go_sem, simprocAttr, lstN]) (.inl rfl) ?_
        simp -implicitDefEqProofs only [go_sem, simprocAttr, o1, o2]
        refine call1 [] false (c23) ?_
        simp -implicitDefEqProofs only [go_sem, simprocAttr]
        refine call0 [] true c40 (by simp -implicitDefEqProofs only [go_sem, simprocAttr]) (.inr rfl) ?_
        simp -implicitDefEqProofs only [go_sem, simprocAttr]
        refine call0 [] true c24p (by simp -implicitDefEqProofs only [go_sem, simprocAttr]) (.inr rfl) ?_
        simp -implicitDefEqProofs only [go_sem, simprocAttr, o1, o2]
        refine call1 [] false (c22) ?_
        simp -implicitDefEqProofs only [go_sem, simprocAttr, x1]
        by_cases pz : pl.length = 0
        · refine lp (n := 1) (lpStep ?_)
          have pz' : ¬ ((0 : Int) < (pl.length : Nat)) := by omega
          simp -implicitDefEqProofs only [go_sem, simprocAttr, lenV_ls hp, ints_length, pz', x1, x3]
          refine call1 [] false (t17) ?_
          simp -implicitDefEqProofs only [go_sem, simprocAttr]
          exact ret_fv
        · refine lp (n := 1) (lpStep ?_)
          have pz' : ((0 : Int) < (pl.length : Nat)) := by omega
          simp -implicitDefEqProofs only [go_sem, simprocAttr, lenV_ls hp, ints_length, pz', x1, x3]
          refine call1 [] false (t17) ?_
          simp -implicitDefEqProofs only [go_sem, simprocAttr]
          exact ret_fv
  · refine w7 ?_
    dsimp only [c7, sop, gop, nop, qmv, qsg, qex, qld, qcl, qln, qix, qbo, qt, qi]
    simp -implicitDefEqProofs only [go_sem, simprocAttr, o1, o2]
    refine call0 [] false c16 (by simp -implicitDefEqProofs only [go_sem, simprocAttr]) (.inl rfl) ?_
    simp -implicitDefEqProofs only [go_sem, simprocAttr, hL]
    refine call1 [] false (t17) ?_
    simp -implicitDefEqProofs only [go_sem, simprocAttr]
    exact ret_fv
end S04

