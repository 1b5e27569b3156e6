/- A part of the proof: G04z, H04a. -/
import Derived.Test.YtncbkgbdpaibmaaG04y
set_option linter.unusedVariables false
set_option linter.unusedSimpArgs false
set_option maxRecDepth 20000
namespace S04
open Go Abs
def errK (c : Cs) (W : List (List Int)) (pl : List Int) : Int := if errC c ≠ 0 then errC c else if 5 < W.length ∨ 6 < pl.length then 5 else if errO c W ≠ 0 then errO c W else if pl.all (inB 1 400) = false then 3 else 0
def Cs.pk (c : Cs) (W : List (List Int)) (pl : List Int) : Option (List Int × Int) := c.on pl W [] 0 none
def errZ (c : Cs) (W : List (List Int)) (pl : List Int) : Int := if errK c W pl ≠ 0 then errK c W pl else if W.length = 0 then 0 else if (c.pk W pl).isSome then 0 else 9
def pkV (c : Cs) (W : List (List Int)) (pl : List Int) : FV := if errK c W pl ≠ 0 then .nil else if W.length = 0 then .nil else (optB (c.pk W pl)).1
theorem t43 {c : Cs} {sw sp sW spl : FV} {W : List (List Int)} {pl : List Int} (v : CV c sw sp) (hW : Lists sW W) (hl : W.length ≤ 9223372036854775807) (hp : lsOf spl = some (ints pl)) (hpl : pl.length ≤ 9223372036854775807) :
    Fn Q 43 [.fo (c.fv sw sp), .fo sW, .fo spl] (.tup [.fx (pkV c W pl), .fx (.int (errZ c W pl))]) := by
  have o1 := ls_one v.w
  have o2 := ls_one v.p
  have o3 := ls_one hp
  have c19 := t19 v
  have c73 := t73 v hW hl
  have c82 := t82 spl pl hp hpl
  obtain ⟨wl, hw1, hw2, hw3⟩ := hW
  have oW := ls_one hw1
  have hwl : wl.length = W.length := by rw [← hw2]; simp
  by_cases e1 : errC c = 0
  · rw [e1] at c19
    rw [if_pos e1] at c73
    by_cases e2 : 5 < W.length
    · have e2' : (5 : Int) < (W.length : Nat) := by omega
      have eL : errK c W pl = 5 := by simp [errK, e1, e2]
      refine w43 ?_
      dsimp only [c43, sop, gop, nop, qmv, qsg, qex, qld, qcl, qln, qix, qbo, qt, qi]
      simp -implicitDefEqProofs only [go_sem, simprocAttr, o1, o2]
      refine call1 [] false (c19) ?_
      simp -implicitDefEqProofs only [go_sem, simprocAttr, lenV_ls hw1, hwl, e2']
      refine ret_tup (fun _ => true) ?_ (by simp [ownNames])
      simp -implicitDefEqProofs only [go_sem, simprocAttr, pkV, errZ, eL]
    · have e2' : ¬ (5 : Int) < (W.length : Nat) := by omega
      by_cases e3 : 6 < pl.length
      · have e3' : (6 : Int) < (pl.length : Nat) := by omega
        have eL : errK c W pl = 5 := by simp [errK, e1, e3]
        refine w43 ?_
        dsimp only [c43, sop, gop, nop, qmv, qsg, qex, qld, qcl, qln, qix, qbo, qt, qi]
        simp -implicitDefEqProofs only [go_sem, simprocAttr, o1, o2]
        refine call1 [] false (c19) ?_
        simp -implicitDefEqProofs only [go_sem, simprocAttr, lenV_ls hw1, hwl, e2', lenV_ls hp, ints_length, e3']
        refine ret_tup (fun _ => true) ?_ (by simp [ownNames])
        simp -implicitDefEqProofs only [go_sem, simprocAttr, pkV, errZ, eL]
      · have e3' : ¬ (6 : Int) < (pl.length : Nat) := by omega
        have e23 : ¬ (5 < W.length ∨ 6 < pl.length) := by omega
        by_cases e4 : errO c W = 0
        · rw [e4] at c73
          cases e5 : pl.all (inB 1 400)
          · have eL : errK c W pl = 3 := by simp only [errK, e1, if_neg e23, e4, e5]; simp
            refine w43 ?_
            dsimp only [c43, sop, gop, nop, qmv, qsg, qex, qld, qcl, qln, qix, qbo, qt, qi]
            simp -implicitDefEqProofs only [go_sem, simprocAttr, o1, o2]
            refine call1 [] false (c19) ?_
            simp -implicitDefEqProofs only [go_sem, simprocAttr, lenV_ls hw1, hwl, e2', lenV_ls hp, ints_length, e3', o1, o2]
            refine call1 [] false (c73) ?_
            simp -implicitDefEqProofs only [go_sem, simprocAttr, mapV, o1, o2]
            refine call1 [] false (c82) ?_
            simp -implicitDefEqProofs only [go_sem, simprocAttr, e5]
            refine ret_tup (fun _ => true) ?_ (by simp [ownNames])
            simp -implicitDefEqProofs only [go_sem, simprocAttr, pkV, errZ, eL]
          · have eL : errK c W pl = 0 := by simp only [errK, e1, if_neg e23, e4, e5]; simp
            by_cases e6 : W.length = 0
            · refine w43 ?_
              dsimp only [c43, sop, gop, nop, qmv, qsg, qex, qld, qcl, qln, qix, qbo, qt, qi]
              simp -implicitDefEqProofs only [go_sem, simprocAttr, o1, o2]
              refine call1 [] false (c19) ?_
              simp -implicitDefEqProofs only [go_sem, simprocAttr, lenV_ls hw1, hwl, e2', lenV_ls hp, ints_length, e3', o1, o2]
              refine call1 [] false (c73) ?_
              simp -implicitDefEqProofs only [go_sem, simprocAttr, mapV, o1, o2]
              refine call1 [] false (c82) ?_
              simp -implicitDefEqProofs only [go_sem, simprocAttr, e5, lenV_ls hw1, hwl, e6]
              refine ret_tup (fun _ => true) ?_ (by simp [ownNames])
              simp -implicitDefEqProofs only [go_sem, simprocAttr, pkV, errZ, eL, e6]
            · have e6' : (((W.length : Nat) : Int) == 0) = false := by simp; intro h; exact e6 (by simp [h])
              have wv := mk_WsV hw1 hw2 hw3 (by omega) e4
              have ok := errC_ok e1
              have hpv : PlV spl pl := ⟨hp, by omega, fun x hx => by have := List.all_eq_true.1 e5 x hx; exact inB_iff.1 this⟩
              have hwn : wl ≠ [] := by rintro rfl; exact e6 (by simpa using hwl.symm)
              rcases ls_cases hw1 with ⟨f, rfl⟩ | ⟨rfl, hnil⟩
              · refine w43 ?_
                dsimp only [c43, sop, gop, nop, qmv, qsg, qex, qld, qcl, qln, qix, qbo, qt, qi]
                simp -implicitDefEqProofs only [go_sem, simprocAttr, o1, o2]
                refine call1 [] false (c19) ?_
                simp -implicitDefEqProofs only [go_sem, simprocAttr, lenV_ls hw1, hwl, e2', lenV_ls hp, ints_length, e3', o1, o2]
                refine call1 [] false (c73) ?_
                simp -implicitDefEqProofs only [go_sem, simprocAttr, mapV, o1, o2]
                refine call1 [] false (c82) ?_
                simp -implicitDefEqProofs only [go_sem, simprocAttr, e5, lenV_ls hw1, hwl, e6', o1, o2, o3, ls_lcells hp]
                refine callIH 1000 [45] (a98_0 (pl := pl) (wl := wl) (c := c) (sw := sw) (sp := sp) (spl := spl) v ok hpv ⟨by simp -implicitDefEqProofs only [go_sem, simprocAttr], by simp -implicitDefEqProofs only [go_sem, simprocAttr, optB] <;> rfl⟩ wv.w wv.l hwn) (ex_SH (by simp -implicitDefEqProofs only [go_sem, simprocAttr]) rfl) ?_
                rintro lv h3 ⟨g3, o3'⟩
                rw [hw2] at o3'
                have epk : pkV c W pl = (optB (c.pk W pl)).1 := by simp [pkV, eL, e6]
                have eZ : errZ c W pl = if (c.pk W pl).isSome then 0 else 9 := by simp [errZ, eL, e6]
                rw [epk, eZ]
                unfold Cs.pk
                generalize c.on pl W [] 0 none = b at *
                cases b with
                | none =>
                  simp -implicitDefEqProofs only [go_sem, simprocAttr, Kl_eq, g3, o3', optB, eqV, nilEq, und_22]
                  refine ret_tup (fun _ => true) ?_ (by simp [ownNames])
                  simp -implicitDefEqProofs only [go_sem, simprocAttr, Option.isSome]
                | some x =>
                  simp -implicitDefEqProofs only [go_sem, simprocAttr, Kl_eq, g3, o3', optB, eqV, nilEq, und_22]
                  refine ret_tup (fun _ => true) ?_ (by simp [ownNames])
                  simp -implicitDefEqProofs only [go_sem, simprocAttr, Option.isSome]
              · exact absurd hnil hwn
        · have e4' : (errO c W != 0) = true := by simpa using e4
          have eL : errK c W pl = errO c W := by simp only [errK, e1, if_neg e23, ne_eq, e4, not_false_eq_true, if_true]; simp
          refine w43 ?_
          dsimp only [c43, sop, gop, nop, qmv, qsg, qex, qld, qcl, qln, qix, qbo, qt, qi]
          simp -implicitDefEqProofs only [go_sem, simprocAttr, o1, o2]
          refine call1 [] false (c19) ?_
          simp -implicitDefEqProofs only [go_sem, simprocAttr, lenV_ls hw1, hwl, e2', lenV_ls hp, ints_length, e3', o1, o2]
          refine call1 [] false (c73) ?_
          simp -implicitDefEqProofs only [go_sem, simprocAttr, mapV, o1, o2, e4']
          refine ret_tup (fun _ => true) ?_ (by simp [ownNames])
          simp -implicitDefEqProofs only [go_sem, simprocAttr, pkV, errZ, eL, e4]
  · have e' : (errC c != 0) = true := by simpa using e1
    have eL : errK c W pl = errC c := by simp [errK, e1]
    refine w43 ?_
    dsimp only [c43, sop, gop, nop, qmv, qsg, qex, qld, qcl, qln, qix, qbo, qt, qi]
    simp -implicitDefEqProofs only [go_sem, simprocAttr, o1, o2]
    refine call1 [] false (c19) ?_
    simp -implicitDefEqProofs only [go_sem, simprocAttr, e']
    refine ret_tup (fun _ => true) ?_ (by simp [ownNames])
    simp -implicitDefEqProofs only [go_sem, simprocAttr, pkV, errZ, eL, e1]
end S04

namespace S04
open Go Abs
theorem t101 {sl x : FV} {lk out : List Int} {most : Int} (hs : lsOf sl = some (ints lk)) (hl : lk.length ≤ 1000) (hb : bdd 1000000 lk) (hx : lsOf x = some (ints out)) (hxl : out.length ≤ 1000) :
    Fn Q 101 [.fo x, .fo (.ptr [sl]), .fo (.ptr [.int most])] (.one (.fx (.bool (decide (sprF (woF out lk 0) ≤ most))))) := by
  have wm := woF_mem (pl := out) lk 0
  have c89 := t89 (l := lk) (pl := out) hs hx (by omega) (by omega)
  have c77 := t77 (lsOf_lstN (ints (woF out lk 0))) (by omega) (fun y hy => hb y (wm.1 y hy))
  refine w101 ?_
  dsimp only [c101, sop, gop, nop, qmv, qsg, qex, qld, qcl, qln, qix, qbo, qt, qi]
  simp -implicitDefEqProofs only [go_sem, simprocAttr]
  refine W_opsD _ _ _ (Vs []) ?_ ?_
  · decide
  simp -implicitDefEqProofs only [go_sem, simprocAttr]
  refine callD [] false [.fo sl, .fo x] [] c89 ⟨rfl, rfl, trivial⟩ rfl (.inl rfl) ?_
  simp -implicitDefEqProofs only [go_sem, simprocAttr]
  refine callD [] false [.fo (lstN (ints (woF out lk 0)))] [] c77 ⟨rfl, trivial⟩ rfl (.inl rfl) ?_
  simp -implicitDefEqProofs only [go_sem, simprocAttr]
  exact ret_fv
def Cs.wg (c : Cs) (w g : List Int) (most : Int) : Option (List Int) := fewF (c.lk w g).length fun out => decide (sprF (woF out (c.lk w g) 0) ≤ most)
def wgL : Option (List Int) → List Int
  | none => []
  | some l => l
def errX (c : Cs) (w g : List Int) (most : Int) : Int := if errL c w g ≠ 0 then errL c w g else if inB 0 400 most = false then 3 else if (wgL (c.wg w g most)).isEmpty then 6 else 0
theorem t45 {c : Cs} {sw sp s sg : FV} {w g : List Int} {most : Int} (v : CV c sw sp) (hs : lsOf s = some (ints w)) (hl : w.length ≤ 9223372036854775807) (hg : lsOf sg = some (ints g)) (hgl : g.length ≤ 9223372036854775807) :
    Fn Q 45 [.fo (c.fv sw sp), .fo s, .fo sg, .fo (.int most)] (.tup [.fx (if errX c w g most = 0 then lstN (ints (wgL (c.wg w g most))) else .nil), .fx (.int (errX c w g most))]) := by
  have o1 := ls_one v.w
  have o2 := ls_one v.p
  have c21 := t21 v hs hl hg hgl
  by_cases e1 : errL c w g = 0
  · rw [e1] at c21
    obtain ⟨e0, g1, g2⟩ := errL_ok e1
    obtain ⟨ok, hw⟩ := errO_ok e0
    obtain ⟨h1, h2, h3⟩ := hw w (by simp)
    have lb := lks_bd (c.loo w) g (ok.loo w) (fun x hx => by have := g2 x hx; omega)
    have ll : (c.lk w g).length = g.length := lks_len (c.loo w) g (by rw [c.loo_len]; omega)
    have hlk := lsOf_lstN (ints (c.lk w g))
    have hlo := ls_one hlk
    have hlc := ls_lcells hlk
    cases e2 : inB 0 400 most
    · have eL : errX c w g most = 3 := by simp [errX, e1, e2]
      refine w45 ?_
      dsimp only [c45, sop, gop, nop, qmv, qsg, qex, qld, qcl, qln, qix, qbo, qt, qi]
      simp -implicitDefEqProofs only [go_sem, simprocAttr, o1, o2]
      refine call1 [] false (c21) ?_
      simp -implicitDefEqProofs only [go_sem, simprocAttr, hlc, hlo]
      refine call1 [] true (u1 0 400 most) ?_
      simp -implicitDefEqProofs only [go_sem, simprocAttr, e2]
      refine ret_tup (fun _ => true) ?_ (by simp [ownNames])
      simp -implicitDefEqProofs only [go_sem, simprocAttr, eL]
    · have eL : errX c w g most = if (wgL (c.wg w g most)).isEmpty then 6 else 0 := by simp [errX, e1, e2]
      have hF : ∀ l ∈ allF (c.lk w g).length 0 ((c.lk w g).length + 1), Fn Q 101 (.fo (lstN (ints l)) :: [FV.ptr [lstN (ints (c.lk w g))], .ptr [.int most]].map .fo) (.one (.fx (.bool (decide (sprF (woF l (c.lk w g) 0) ≤ most))))) := by
        intro l hl
        have := allF_mem _ _ l hl
        exact t101 hlk (by omega) (fun x hx => by have := lb x hx; omega) (lsOf_lstN _) (by omega)
      rw [eL]
      refine w45 ?_
      dsimp only [c45, sop, gop, nop, qmv, qsg, qex, qld, qcl, qln, qix, qbo, qt, qi]
      simp -implicitDefEqProofs only [go_sem, simprocAttr, o1, o2]
      refine call1 [] false (c21) ?_
      simp -implicitDefEqProofs only [go_sem, simprocAttr, hlc, hlo]
      refine call1 [] true (u1 0 400 most) ?_
      simp -implicitDefEqProofs only [go_sem, simprocAttr, e2, lenV_ls hlk]
      refine callIH 1000 [] (a90 (n := (c.lk w g).length) (f := 101) (cs := [FV.ptr [lstN (ints (c.lk w g))], .ptr [.int most]]) (p := fun out => decide (sprF (woF out (c.lk w g) 0) ≤ most)) (by omega) ?_ hF) ⟨_, _, fun _ _ => ⟨rfl, rfl⟩, rfl⟩ ?_
      · intro h' hh
        have q1 := hh 10 rfl
        have q3 := hh 7 rfl
        simp -implicitDefEqProofs only [go_sem, simprocAttr] at q1 q3
        simp -implicitDefEqProofs only [go_sem, simprocAttr, q1.1, q1.2, q3.1, q3.2, hlo]
      · rintro lv h' rfl
        cases hf : c.wg w g most with
        | none =>
          rw [Cs.wg] at hf
          simp -implicitDefEqProofs only [go_sem, simprocAttr, Kl_eq, hf, optN, Option.isSome, eqV, nilEq, und_22]
          refine ret_tup (fun _ => true) ?_ (by simp [ownNames])
          simp -implicitDefEqProofs only [go_sem, simprocAttr, wgL, List.isEmpty]
        | some l =>
          rw [Cs.wg] at hf
          cases l with
          | nil =>
            simp -implicitDefEqProofs only [go_sem, simprocAttr, Kl_eq, hf, optN, Option.isSome, lstN, ints, List.isEmpty, eqV, nilEq, und_22]
            refine ret_tup (fun _ => true) ?_ (by simp [ownNames])
            simp -implicitDefEqProofs only [go_sem, simprocAttr, wgL, List.isEmpty]
          | cons a l =>
            simp -implicitDefEqProofs only [go_sem, simprocAttr, Kl_eq, hf, optN, Option.isSome, lstN, ints, List.isEmpty, eqV, nilEq, und_22]
            refine ret_tup (fun _ => true) ?_ (by simp [ownNames])
            simp -implicitDefEqProofs only [go_sem, simprocAttr, wgL, List.isEmpty, lstN, ints]
  · have e' : (errL c w g != 0) = true := by simpa using e1
    have eL : errX c w g most = errL c w g := by simp [errX, e1]
    rw [if_neg e1, if_neg e1] at c21
    refine w45 ?_
    dsimp only [c45, sop, gop, nop, qmv, qsg, qex, qld, qcl, qln, qix, qbo, qt, qi]
    simp -implicitDefEqProofs only [go_sem, simprocAttr, o1, o2]
    refine call1 [] false (c21) ?_
    simp -implicitDefEqProofs only [go_sem, simprocAttr, e']
    refine ret_tup (fun _ => true) ?_ (by simp [ownNames])
    simp -implicitDefEqProofs only [go_sem, simprocAttr, eL, e1]
def blF : List Int → Nat → List Int
  | [], _ => []
  | x :: xs, k => if x = -1 then (k : Int) :: blF xs (k + 1) else blF xs (k + 1)
theorem blF_bd : ∀ (w : List Int) (k : Nat), (blF w k).length ≤ w.length ∧ ∀ x ∈ blF w k, (k : Int) ≤ x ∧ x < k + w.length
  | [], k => by simp [blF]
  | x :: xs, k => by
    obtain ⟨h1, h2⟩ := blF_bd xs (k + 1)
    unfold blF
    split
    · refine ⟨by simp; omega, fun y hy => ?_⟩
      rcases List.mem_cons.1 hy with rfl | hy
      · simp; omega
      · have := h2 y hy
        simp only [List.length_cons] at this ⊢
        omega
    · refine ⟨by simp; omega, fun y hy => ?_⟩
      have := h2 y hy
      simp only [List.length_cons] at this ⊢
      omega
theorem t102 {s : FV} {w : List Int} (hs : lsOf s = some (ints w)) (hl : w.length ≤ 1000000) : Fn Q 102 [.fo s] (.one (.fx (lstN (ints (blF w 0))))) := by
  refine w102 ?_
  dsimp only [c102, sop, gop, nop, qmv, qsg, qex, qld, qcl, qln, qix, qbo, qt, qi]
  simp -implicitDefEqProofs only [go_sem, simprocAttr, lenV_ls hs]
  refine lpL (β := List Int) 7 [2, 3, 4] 7 [2] w (by omega) (fun xs k acc => acc ++ blF xs k = blF w 0 ∧ acc.length ≤ k) (fun k acc ρ h => ρ 7 = .fv (.int (k : Nat)) ∧ ρ 2 = .gl 2 (h.gen 2) ∧ h.obj 2 = some (.list 3 1 false acc.isEmpty (ints acc))) [] ⟨rfl, by simp⟩ ?_ ?_ ?_
  · simp -implicitDefEqProofs only [go_sem, simprocAttr, List.isEmpty, ints]
  · rintro acc ρ h ⟨e, _⟩ ⟨r7, r2, o2⟩
    simp only [blF, List.append_nil] at e
    subst e
    simp -implicitDefEqProofs only [go_sem, simprocAttr, r7, r2]
    refine ret_fx (fun _ => true) ?_
    simp -implicitDefEqProofs only [go_sem, simprocAttr, o2, lstN]
    generalize blF w 0 = z
    cases z <;> rfl
  · rintro x xs k acc ρ h hx hk hm hk' hw ⟨e, la⟩ ⟨r7, r2, o2⟩
    by_cases hc : x = -1
    · have hc' : (x == -1) = true := by simpa using hc
      simp -implicitDefEqProofs only [go_sem, simprocAttr, r7, hk', index_map hs idx_22 hx rfl, hc', r2]
      refine app_gl (by simp -implicitDefEqProofs only [go_sem, simprocAttr, o2]; rfl) idx_22 (by simp -implicitDefEqProofs only [go_sem, simprocAttr]; rfl) (by simp [FV.cells]) (by simp -implicitDefEqProofs only [go_sem, simprocAttr]) (by simp [byt_3, ints]; omega) (by simp [maxLen, ints]; omega) (by simp) ?_
      simp -implicitDefEqProofs only [go_sem, simprocAttr, r7, hw]
      refine nxtL (acc ++ [(k : Int)]) ⟨by rw [← e, blF, if_pos hc]; simp, by simp; omega⟩ ?_
      simp -implicitDefEqProofs only [go_sem, simprocAttr, ints, List.map_append]
      cases acc <;> rfl
    · have hc' : (x == -1) = false := by simpa using hc
      simp -implicitDefEqProofs only [go_sem, simprocAttr, r7, hk', index_map hs idx_22 hx rfl, hc', r2, hw]
      refine nxtL acc ⟨by rw [← e, blF, if_neg hc], by omega⟩ ?_
      simp -implicitDefEqProofs only [go_sem, simprocAttr, r2, o2]
end S04

