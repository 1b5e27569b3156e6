/- A part of the proof: X04a, X04b, X04e. -/
import Derived.Test.YtncbkgbdpaibmaaH04h
import Derived.Test.YtncbkgbdpaibmaaC04a0
import Derived.Test.YtncbkgbdpaibmaaP04b
import Derived.Test.YtncbkgbdpaibmaaC04s0
set_option linter.unusedVariables false
set_option linter.unusedSimpArgs false
set_option maxRecDepth 20000
namespace S04
open Go Abs
structure CA (c : Cs) (sw sp : FV) : Prop where
  v : CV c sw sp
theorem Lists_two {s t : FV} {w g : List Int} (hs : lsOf s = some (ints w)) (ht : lsOf t = some (ints g)) (hl : w.length ≤ 9223372036854775807) (hl' : g.length ≤ 9223372036854775807) : Lists (.list false [s, t]) [w, g] :=
  ⟨[s, t], rfl, by simp [toL_ls hs, toL_ls ht], fun x hx => by
    simp at hx
    rcases hx with rfl | rfl
    · exact ⟨w, hs, hl⟩
    · exact ⟨g, ht, hl'⟩⟩
theorem t3 {c : Cs} {sw sp s sg : FV} {w g : List Int} (v : CV c sw sp) (hs : lsOf s = some (ints w)) (hg : lsOf sg = some (ints g)) (hl : w.length ≤ 9223372036854775807) (hgl : g.length ≤ 9223372036854775807) :
    Fn Q 3 [.fo (c.fv sw sp), .fo s, .fo sg] (.one (.fx (.bool true))) := by
  have o1 := ls_one v.w
  have o2 := ls_one v.p
  have f3 := ls_cells hs
  have p3 := ls_fone hs
  have f4 := ls_cells hg
  have p4 := ls_fone hg
  have c16 := t16 v (Lists_two hs hg hl hgl) (by simp)
  cases hL : largeF c [w, g]
  · obtain ⟨lW, lP, _, lw⟩ := large_no hL
    have lw1 := lw w (by simp)
    have lg1 := lw g (by simp)
    have c18 := t18 v (by omega) (by omega)
    have v' : CV c (swC c) (spC c) := ⟨rfl, rfl, v.wl, v.pl⟩
    have c19 := t19 v'
    have hs' : lsOf (.list false (ints w)) = some (ints w) := rfl
    have hg' : lsOf (.list false (ints g)) = some (ints g) := rfl
    have c20 := t20 v' hs' hl
    have c21 := t21 v' hs' hl hg' hgl
    have c22 := t22 v (by omega) (by omega)
    have c23 := t23 v' v (by omega)
    have c24w := t24s hs' hs (by omega)
    have c24g := t24s hg' hg (by omega)
    have c25 := t25 v hs (by omega) false
    have eO := errO1 c w
    by_cases e1 : errC c = 0
    · have e1' : (errC c == 0) = true := by simpa using e1
      rw [e1] at c19 c22
      cases e2 : isW c.W.length 0 w
      · have eOc : errO c [w] = 4 := by rw [eO, if_neg (by simpa using e1), if_pos e2]
        have eL : errL c w g = 4 := by simp [errL, eOc]
        rw [eOc] at c20
        rw [eL] at c21
        refine S04.w3 ?_
        dsimp only [c3, sop, gop, nop, qmv, qsg, qex, qld, qcl, qln, qix, qbo, qt, qi]
        simp -implicitDefEqProofs only [go_sem, simprocAttr, o1, o2, f3, p3, f4, p4]
        refine call0 [21] false c16 (by simp -implicitDefEqProofs only [go_sem, simprocAttr]) (.inl rfl) ?_
        simp -implicitDefEqProofs only [go_sem, simprocAttr, hL, o1, o2]
        refine call1 [] false (c18) ?_
        simp -implicitDefEqProofs only [go_sem, simprocAttr]
        refine app_cp (by simp -implicitDefEqProofs only [go_sem, simprocAttr] <;> rfl) idx_22 hs (fun x hx => (ints_elem w x hx).1) (by simp -implicitDefEqProofs only [go_sem, simprocAttr]) (by simp [byt_3, ints]; omega) (by simp [maxLen, ints]; omega) ?_
        intro gw
        simp -implicitDefEqProofs only [go_sem, simprocAttr]
        refine app_cp (by simp -implicitDefEqProofs only [go_sem, simprocAttr] <;> rfl) idx_22 hg (fun x hx => (ints_elem g x hx).1) (by simp -implicitDefEqProofs only [go_sem, simprocAttr]) (by simp [byt_3, ints]; omega) (by simp [maxLen, ints]; omega) ?_
        intro gg
        simp -implicitDefEqProofs only [go_sem, simprocAttr, swC, spC]
        refine call1 [] false (c19) ?_
        simp -implicitDefEqProofs only [go_sem, simprocAttr]
        refine call0 [26] true c20 (by simp -implicitDefEqProofs only [go_sem, simprocAttr, lstN]) (.inr rfl) ?_
        simp -implicitDefEqProofs only [go_sem, simprocAttr]
        refine call0 [26, 29] false c21 (by simp -implicitDefEqProofs only [go_sem, simprocAttr, lstN]) (.inl rfl) ?_
        simp -implicitDefEqProofs only [go_sem, simprocAttr, o1, o2]
        refine call1 [] false (c22) ?_
        simp -implicitDefEqProofs only [go_sem, simprocAttr, o1, o2]
        refine call1 [] false (c23) ?_
        simp -implicitDefEqProofs only [go_sem, simprocAttr]
        refine call0 [] true c24w (by simp -implicitDefEqProofs only [go_sem, simprocAttr]) (.inr rfl) ?_
        simp -implicitDefEqProofs only [go_sem, simprocAttr]
        refine call0 [] true c24g (by simp -implicitDefEqProofs only [go_sem, simprocAttr]) (.inr rfl) ?_
        simp -implicitDefEqProofs only [go_sem, simprocAttr, o1, o2]
        refine call1 [] false (c25) ?_
        simp -implicitDefEqProofs only [go_sem, simprocAttr, e2]
        refine call1 [] false (t17) ?_
        simp -implicitDefEqProofs only [go_sem, simprocAttr]
        exact ret_fv
      · have eOc : errO c [w] = 0 := by rw [eO, if_neg (by simpa using e1), if_neg (by simp [e2])]
        rw [eOc, if_pos rfl] at c20
        obtain ⟨ok, hw⟩ := errO_ok eOc
        obtain ⟨h1, h2, h3⟩ := hw w (by simp)
        have wv : WV c s w := ⟨hs, lw1, h3⟩
        have c26 := t26 v ok wv
        have c27 := t27 hs hg (by omega) (by omega)
        have nn : (c.nd w != c.nd w) = false := by simp
        cases e3 : gapsB w.length g
        · have eL : errL c w g = 4 := by simp [errL, eOc, e3]
          rw [eL] at c21
          refine S04.w3 ?_
          dsimp only [c3, sop, gop, nop, qmv, qsg, qex, qld, qcl, qln, qix, qbo, qt, qi]
          simp -implicitDefEqProofs only [go_sem, simprocAttr, o1, o2, f3, p3, f4, p4]
          refine call0 [21] false c16 (by simp -implicitDefEqProofs only [go_sem, simprocAttr]) (.inl rfl) ?_
          simp -implicitDefEqProofs only [go_sem, simprocAttr, hL, o1, o2]
          refine call1 [] false (c18) ?_
          simp -implicitDefEqProofs only [go_sem, simprocAttr]
          refine app_cp (by simp -implicitDefEqProofs only [go_sem, simprocAttr] <;> rfl) idx_22 hs (fun x hx => (ints_elem w x hx).1) (by simp -implicitDefEqProofs only [go_sem, simprocAttr]) (by simp [byt_3, ints]; omega) (by simp [maxLen, ints]; omega) ?_
          intro gw
          simp -implicitDefEqProofs only [go_sem, simprocAttr]
          refine app_cp (by simp -implicitDefEqProofs only [go_sem, simprocAttr] <;> rfl) idx_22 hg (fun x hx => (ints_elem g x hx).1) (by simp -implicitDefEqProofs only [go_sem, simprocAttr]) (by simp [byt_3, ints]; omega) (by simp [maxLen, ints]; omega) ?_
          intro gg
          simp -implicitDefEqProofs only [go_sem, simprocAttr, swC, spC]
          refine call1 [] false (c19) ?_
          simp -implicitDefEqProofs only [go_sem, simprocAttr]
          refine call0 [26] true c20 (by simp -implicitDefEqProofs only [go_sem, simprocAttr, lstN]) (.inr rfl) ?_
          simp -implicitDefEqProofs only [go_sem, simprocAttr]
          refine call0 [26, 29] false c21 (by simp -implicitDefEqProofs only [go_sem, simprocAttr, lstN]) (.inl rfl) ?_
          simp -implicitDefEqProofs only [go_sem, simprocAttr, o1, o2]
          refine call1 [] false (c22) ?_
          simp -implicitDefEqProofs only [go_sem, simprocAttr, o1, o2]
          refine call1 [] false (c23) ?_
          simp -implicitDefEqProofs only [go_sem, simprocAttr]
          refine call0 [] true c24w (by simp -implicitDefEqProofs only [go_sem, simprocAttr]) (.inr rfl) ?_
          simp -implicitDefEqProofs only [go_sem, simprocAttr]
          refine call0 [] true c24g (by simp -implicitDefEqProofs only [go_sem, simprocAttr]) (.inr rfl) ?_
          simp -implicitDefEqProofs only [go_sem, simprocAttr, o1, o2]
          refine call1 [] false (c25) ?_
          simp -implicitDefEqProofs only [go_sem, simprocAttr, e2, o1, o2]
          refine call1 [] false (c26) ?_
          simp -implicitDefEqProofs only [go_sem, simprocAttr, nn]
          refine call1 [] false (c27) ?_
          simp -implicitDefEqProofs only [go_sem, simprocAttr, e3]
          refine call1 [] false (t17) ?_
          simp -implicitDefEqProofs only [go_sem, simprocAttr]
          exact ret_fv
        · have eL : errL c w g = 0 := by simp [errL, eOc, e3]
          obtain ⟨_, q1, q2⟩ := errL_ok eL
          rw [eL, if_pos rfl, if_pos rfl] at c21
          have c28 := t28 v ok wv hg q1 q2
          have lkl : (c.lk w g).length = g.length := lks_len (c.loo w) g (by rw [c.loo_len]; omega)
          have lkb := lks_bd (c.loo w) g (ok.loo w) (fun x hx => by have := q2 x hx; omega)
          have c29 := t29 (s := .list false (ints (c.lk w g))) rfl (by omega) (fun x hx => by have := lkb x hx; omega)
          have c24l := t24s (lsOf_lstN (ints (c.lk w g))) (show lsOf (.list false (ints (c.lk w g))) = some (ints (c.lk w g)) from rfl) (by omega)
          have sn : (sprF (c.lk w g) == sprF (c.lk w g)) = true := by simp
          refine S04.w3 ?_
          dsimp only [c3, sop, gop, nop, qmv, qsg, qex, qld, qcl, qln, qix, qbo, qt, qi]
          simp -implicitDefEqProofs only [go_sem, simprocAttr, o1, o2, f3, p3, f4, p4]
          refine call0 [21] false c16 (by simp -implicitDefEqProofs only [go_sem, simprocAttr]) (.inl rfl) ?_
          simp -implicitDefEqProofs only [go_sem, simprocAttr, hL, o1, o2]
          refine call1 [] false (c18) ?_
          simp -implicitDefEqProofs only [go_sem, simprocAttr]
          refine app_cp (by simp -implicitDefEqProofs only [go_sem, simprocAttr] <;> rfl) idx_22 hs (fun x hx => (ints_elem w x hx).1) (by simp -implicitDefEqProofs only [go_sem, simprocAttr]) (by simp [byt_3, ints]; omega) (by simp [maxLen, ints]; omega) ?_
          intro gw
          simp -implicitDefEqProofs only [go_sem, simprocAttr]
          refine app_cp (by simp -implicitDefEqProofs only [go_sem, simprocAttr] <;> rfl) idx_22 hg (fun x hx => (ints_elem g x hx).1) (by simp -implicitDefEqProofs only [go_sem, simprocAttr]) (by simp [byt_3, ints]; omega) (by simp [maxLen, ints]; omega) ?_
          intro gg
          simp -implicitDefEqProofs only [go_sem, simprocAttr, swC, spC]
          refine call1 [] false (c19) ?_
          simp -implicitDefEqProofs only [go_sem, simprocAttr]
          refine call0 [26] true c20 (by simp -implicitDefEqProofs only [go_sem, simprocAttr, lstN]) (.inr rfl) ?_
          simp -implicitDefEqProofs only [go_sem, simprocAttr]
          refine call0 [26, 29] false c21 (by simp -implicitDefEqProofs only [go_sem, simprocAttr, lstN]) (.inl rfl) ?_
          simp -implicitDefEqProofs only [go_sem, simprocAttr, o1, o2]
          refine call1 [] false (c22) ?_
          simp -implicitDefEqProofs only [go_sem, simprocAttr, o1, o2]
          refine call1 [] false (c23) ?_
          simp -implicitDefEqProofs only [go_sem, simprocAttr]
          refine call0 [] true c24w (by simp -implicitDefEqProofs only [go_sem, simprocAttr]) (.inr rfl) ?_
          simp -implicitDefEqProofs only [go_sem, simprocAttr]
          refine call0 [] true c24g (by simp -implicitDefEqProofs only [go_sem, simprocAttr]) (.inr rfl) ?_
          simp -implicitDefEqProofs only [go_sem, simprocAttr, o1, o2]
          refine call1 [] false (c25) ?_
          simp -implicitDefEqProofs only [go_sem, simprocAttr, e2, o1, o2]
          refine call1 [] false (c26) ?_
          simp -implicitDefEqProofs only [go_sem, simprocAttr, nn]
          refine call1 [] false (c27) ?_
          simp -implicitDefEqProofs only [go_sem, simprocAttr, e3, o1, o2]
          refine call1 [] false (c28) ?_
          simp -implicitDefEqProofs only [go_sem, simprocAttr]
          refine call1 [] false (c24l) ?_
          simp -implicitDefEqProofs only [go_sem, simprocAttr]
          refine call1 [] false (c29) ?_
          simp -implicitDefEqProofs only [go_sem, simprocAttr, sn]
          refine call1 [] false (t17) ?_
          simp -implicitDefEqProofs only [go_sem, simprocAttr]
          exact ret_fv
    · have e1' : (errC c == 0) = false := by simpa using e1
      have e1n : (errC c != 0) = true := by simpa using e1
      have eOc : errO c [w] = errC c := by rw [eO, if_pos e1]
      have eL : errL c w g = errC c := by simp [errL, eOc, e1]
      have nn : (errC c != errC c) = false := by simp
      rw [eOc, if_neg e1] at c20
      rw [eL, if_neg e1, if_neg e1] at c21
      refine S04.w3 ?_
      dsimp only [c3, sop, gop, nop, qmv, qsg, qex, qld, qcl, qln, qix, qbo, qt, qi]
      simp -implicitDefEqProofs only [go_sem, simprocAttr, o1, o2, f3, p3, f4, p4]
      refine call0 [21] false c16 (by simp -implicitDefEqProofs only [go_sem, simprocAttr]) (.inl rfl) ?_
      simp -implicitDefEqProofs only [go_sem, simprocAttr, hL, o1, o2]
      refine call1 [] false (c18) ?_
      simp -implicitDefEqProofs only [go_sem, simprocAttr]
      refine app_cp (by simp -implicitDefEqProofs only [go_sem, simprocAttr] <;> rfl) idx_22 hs (fun x hx => (ints_elem w x hx).1) (by simp -implicitDefEqProofs only [go_sem, simprocAttr]) (by simp [byt_3, ints]; omega) (by simp [maxLen, ints]; omega) ?_
      intro gw
      simp -implicitDefEqProofs only [go_sem, simprocAttr]
      refine app_cp (by simp -implicitDefEqProofs only [go_sem, simprocAttr] <;> rfl) idx_22 hg (fun x hx => (ints_elem g x hx).1) (by simp -implicitDefEqProofs only [go_sem, simprocAttr]) (by simp [byt_3, ints]; omega) (by simp [maxLen, ints]; omega) ?_
      intro gg
      simp -implicitDefEqProofs only [go_sem, simprocAttr, swC, spC]
      refine call1 [] false (c19) ?_
      simp -implicitDefEqProofs only [go_sem, simprocAttr]
      refine call0 [26] true c20 (by simp -implicitDefEqProofs only [go_sem, simprocAttr, lstN]) (.inr rfl) ?_
      simp -implicitDefEqProofs only [go_sem, simprocAttr]
      refine call0 [26, 29] false c21 (by simp -implicitDefEqProofs only [go_sem, simprocAttr, lstN]) (.inl rfl) ?_
      simp -implicitDefEqProofs only [go_sem, simprocAttr, o1, o2]
      refine call1 [] false (c22) ?_
      simp -implicitDefEqProofs only [go_sem, simprocAttr, o1, o2]
      refine call1 [] false (c23) ?_
      simp -implicitDefEqProofs only [go_sem, simprocAttr]
      refine call0 [] true c24w (by simp -implicitDefEqProofs only [go_sem, simprocAttr]) (.inr rfl) ?_
      simp -implicitDefEqProofs only [go_sem, simprocAttr]
      refine call0 [] true c24g (by simp -implicitDefEqProofs only [go_sem, simprocAttr]) (.inr rfl) ?_
      simp -implicitDefEqProofs only [go_sem, simprocAttr, nn, e1', e1n]
      refine call1 [] false (t17) ?_
      simp -implicitDefEqProofs only [go_sem, simprocAttr]
      exact ret_fv
  · refine S04.w3 ?_
    dsimp only [c3, sop, gop, nop, qmv, qsg, qex, qld, qcl, qln, qix, qbo, qt, qi]
    simp -implicitDefEqProofs only [go_sem, simprocAttr, o1, o2, f3, p3, f4, p4]
    refine call0 [21] false c16 (by simp -implicitDefEqProofs only [go_sem, simprocAttr]) (.inl rfl) ?_
    simp -implicitDefEqProofs only [go_sem, simprocAttr, hL]
    refine call1 [] false (t17) ?_
    simp -implicitDefEqProofs only [go_sem, simprocAttr]
    exact ret_fv
end S04

namespace S04
open Go Abs
theorem t87 {sa sb : FV} {a b : List Int} (h1 : lsOf sa = some (ints a)) (h2 : lsOf sb = some (ints b)) (hl : a.length = b.length) (l1 : a.length ≤ 1000000) : Fn Q 87 [.fo sa, .fo sb] (.one (.fx (.bool (decide (cmpL a b < 0))))) := by
  refine w87 ?_
  dsimp only [c87, sop, gop, nop, qmv, qsg, qex, qld, qcl, qln, qix, qbo, qt, qi]
  simp -implicitDefEqProofs only [go_sem, simprocAttr]
  refine lpH 6 [5] 6 [] (fun k : Nat => a.length - k) (fun k => k ≤ a.length ∧ cmpL (a.drop k) (b.drop k) = cmpL a b) (fun k ρ h => ρ 5 = .fv (.int (k : Nat))) 0 ⟨Nat.zero_le _, by simp⟩ ?_ ?_
  · simp -implicitDefEqProofs only [go_sem, simprocAttr]
  · rintro k ρ h' ⟨hk, et⟩ r5
    by_cases q1 : k < a.length
    · have q1' : (k : Int) < (a.length : Nat) := by omega
      have hw : IntKind.i64.wrap ((k : Int) + 1) = ((k + 1 : Nat) : Int) := wr _ (by omega) (by omega)
      obtain ⟨x, hx⟩ : ∃ x, a[k]? = some x := ⟨_, List.getElem?_eq_getElem q1⟩
      obtain ⟨y, hy⟩ : ∃ y, b[k]? = some y := ⟨_, List.getElem?_eq_getElem (show k < b.length by omega)⟩
      rw [drop_get hx, drop_get hy, cmpL] at et
      by_cases e : x = y
      · have e' : (x != y) = false := by simp [e]
        subst e
        rw [cmpI_eq, if_neg (by simp)] at et
        simp -implicitDefEqProofs only [go_sem, simprocAttr, r5, lenV_ls h1, ints_length, q1', index_map h1 idx_22 hx rfl, index_map h2 idx_22 hy rfl, e', hw]
        refine nxt (k + 1) (by omega) ⟨q1, et⟩ ?_
        simp -implicitDefEqProofs only [go_sem, simprocAttr]
      · have e' : (x != y) = true := by simpa using e
        simp -implicitDefEqProofs only [go_sem, simprocAttr, r5, lenV_ls h1, ints_length, q1', index_map h1 idx_22 hx rfl, index_map h2 idx_22 hy rfl, e']
        refine ret_eq ?_
        rw [← et]
        rcases Int.lt_trichotomy x y with g | g | g
        · rw [cmpI_lt g]; simp [g]
        · exact absurd g e
        · have : ¬ x < y := by omega
          rw [cmpI_gt g]; simp [this]
    · have q1' : ¬ (k : Int) < (a.length : Nat) := by omega
      simp -implicitDefEqProofs only [go_sem, simprocAttr, r5, lenV_ls h1, ints_length, q1']
      refine ret_eq ?_
      rw [List.drop_of_length_le (by omega), List.drop_of_length_le (by omega), cmpL] at et
      rw [← et]; rfl
def valR (L lo hi : Int) (sb : FV) (ms b : List Int) (all : Int) : FV := match ms with
  | [] => sb
  | m :: ms => optL (fillR L lo hi (m :: ms) b all)
end S04

namespace S04
open Go Abs
theorem wu {n : Nat} (h : n ≤ 1000) : IntKind.u64.wrap (n : Int) = (n : Int) := by
  unfold IntKind.wrap
  simp [IntKind.signed, IntKind.bits]
  omega
theorem contains_at {l : List Int} {x : Int} {k : Nat} (hx : l[k]? = some x) : l.contains x = true := by
  have := List.mem_of_getElem? hx
  simpa using this
theorem t119 {s : FV} {l : List Int} {n : Int} (hs : lsOf s = some (ints l)) (hl : l.length ≤ 1000000) : Fn Q 119 [.fo s, .fo (.int n)] (.one (.fx (.bool (l.contains n)))) := by
  refine w119 ?_
  dsimp only [c119, sop, gop, nop, qmv, qsg, qex, qld, qcl, qln, qix, qbo, qt, qi]
  simp -implicitDefEqProofs only [go_sem, simprocAttr]
  refine lpH 6 [5] 6 [] (fun k : Nat => l.length - k) (fun k => k ≤ l.length ∧ (l.take k).contains n = false) (fun k ρ h => ρ 5 = .fv (.int (k : Nat))) 0 ⟨Nat.zero_le _, by simp⟩ ?_ ?_
  · simp -implicitDefEqProofs only [go_sem, simprocAttr]
  · rintro k ρ h ⟨k1, ea⟩ r5
    by_cases hk : k < l.length
    · have hk' : (k : Int) < (l.length : Nat) := by omega
      have hw : IntKind.i64.wrap ((k : Int) + 1) = ((k + 1 : Nat) : Int) := wr _ (by omega) (by omega)
      obtain ⟨x, hx⟩ : ∃ x, l[k]? = some x := ⟨_, List.getElem?_eq_getElem hk⟩
      have et : l.take (k + 1) = l.take k ++ [x] := by rw [List.take_add_one, hx]; rfl
      by_cases e : x = n
      · have e' : (x == n) = true := by simpa using e
        simp -implicitDefEqProofs only [go_sem, simprocAttr, r5, lenV_ls hs, ints_length, hk', index_map hs idx_22 hx rfl, e']
        exact ret_eq (by rw [contains_at (e ▸ hx)])
      · have e' : (x == n) = false := by simpa using e
        simp -implicitDefEqProofs only [go_sem, simprocAttr, r5, lenV_ls hs, ints_length, hk', index_map hs idx_22 hx rfl, e', hw]
        refine nxt (k + 1) (by omega) ⟨by omega, ?_⟩ ?_
        · rw [et, List.contains_append, ea]
          simpa using fun h => e h.symm
        · simp -implicitDefEqProofs only [go_sem, simprocAttr]
    · have hk' : ¬ (k : Int) < (l.length : Nat) := by omega
      rw [List.take_of_length_le (by omega)] at ea
      simp -implicitDefEqProofs only [go_sem, simprocAttr, r5, lenV_ls hs, ints_length, hk']
      exact ret_eq (by rw [ea])
theorem t93 {s t : FV} {l pl : List Int} (hs : lsOf s = some (ints l)) (ht : lsOf t = some (ints pl)) (hl : l.length ≤ 1000) (hp : pl.length ≤ 1000000) : Fn Q 93 [.fo s, .fo t] (.one (.fx (.list false (ints (woF pl l 0))))) := by
  refine w93 ?_
  dsimp only [c93, sop, gop, nop, qmv, qsg, qex, qld, qcl, qln, qix, qbo, qt, qi]
  simp -implicitDefEqProofs only [go_sem, simprocAttr]
  refine lpL (β := List Int) 8 [5, 6] 8 [7] l (by omega) (fun xs k acc => acc ++ woF pl xs k = woF pl l 0 ∧ acc.length ≤ k) (fun k acc ρ h => ρ 6 = .fv (.int (k : Nat)) ∧ ρ 5 = .gl 7 (h.gen 7) ∧ h.obj 7 = some (.list 3 1 false false (ints acc))) [] ⟨rfl, by simp⟩ ?_ ?_ ?_
  · simp -implicitDefEqProofs only [go_sem, simprocAttr, ints]
  · rintro acc ρ h ⟨e, _⟩ ⟨r6, r5, o7⟩
    simp only [woF, List.append_nil] at e
    simp -implicitDefEqProofs only [go_sem, simprocAttr, r6, r5, lenV_ls hs, ints_length]
    refine ret_fx (fun _ => true) ?_
    simp -implicitDefEqProofs only [go_sem, simprocAttr, o7, e]
  · rintro x xs k acc ρ h hx hk hm hk' hw ⟨e, la⟩ ⟨r6, r5, o7⟩
    cases hc : pl.contains (k : Int)
    · simp -implicitDefEqProofs only [go_sem, simprocAttr, r6, lenV_ls hs, ints_length, hk']
      refine call1 [] false (t119 (n := (k : Int)) ht hp) ?_
      simp -implicitDefEqProofs only [go_sem, simprocAttr, hc, r5, r6, index_map hs idx_22 hx rfl]
      refine app_gl (by simp -implicitDefEqProofs only [go_sem, simprocAttr, o7]; rfl) idx_22 (by simp -implicitDefEqProofs only [go_sem, simprocAttr]; rfl) (by simp [FV.cells]) (by simp -implicitDefEqProofs only [go_sem, simprocAttr]) (by simp [byt_3, ints]; omega) (by simp [maxLen, ints]; omega) (by simp) ?_
      simp -implicitDefEqProofs only [go_sem, simprocAttr, r6, hw]
      refine nxtL (acc ++ [x]) ⟨by rw [← e, woF, hc]; simp, by simp; omega⟩ ?_
      simp -implicitDefEqProofs only [go_sem, simprocAttr, ints, List.map_append]
    · simp -implicitDefEqProofs only [go_sem, simprocAttr, r6, lenV_ls hs, ints_length, hk']
      refine call1 [] false (t119 (n := (k : Int)) ht hp) ?_
      simp -implicitDefEqProofs only [go_sem, simprocAttr, hc, r6, hw]
      refine nxtL acc ⟨by rw [← e, woF, hc]; simp, by omega⟩ ?_
      simp -implicitDefEqProofs only [go_sem, simprocAttr, r5, o7]
theorem t92 {sa sb : FV} {a b : List Int} (h1 : lsOf sa = some (ints a)) (h2 : lsOf sb = some (ints b)) (l1 : a.length ≤ 1000000) (l2 : b.length ≤ 1000000) : Fn Q 92 [.fo sa, .fo sb] (.one (.fx (.bool (shB (some b) a)))) := by
  by_cases e : a.length = b.length
  · have e' : (((a.length : Nat) : Int) != (b.length : Nat)) = false := by simp [e]
    refine w92 ?_
    dsimp only [c92, sop, gop, nop, qmv, qsg, qex, qld, qcl, qln, qix, qbo, qt, qi]
    simp -implicitDefEqProofs only [go_sem, simprocAttr, lenV_ls h1, lenV_ls h2, ints_length, e']
    refine call1 [] false (t87 h1 h2 e l1) ?_
    simp -implicitDefEqProofs only [go_sem, simprocAttr]
    refine ret_eq ?_
    simp only [shB]
    congr 2
    simp [e]
  · have e' : (((a.length : Nat) : Int) != (b.length : Nat)) = true := by simp; omega
    refine w92 ?_
    dsimp only [c92, sop, gop, nop, qmv, qsg, qex, qld, qcl, qln, qix, qbo, qt, qi]
    simp -implicitDefEqProofs only [go_sem, simprocAttr, lenV_ls h1, lenV_ls h2, ints_length, e']
    refine ret_eq ?_
    simp only [shB]
    congr 2
    simp [e]
theorem set_len (n s : Nat) : (setL n s).length ≤ n := by
  unfold setL
  rw [idxT_len]
  have := List.length_filter_le id (maskF s n)
  rw [mask_len] at this
  exact this
theorem mask_more {s i : Nat} (h : s < 2 ^ i) : ∀ k, idxT 0 (maskF s (i + k)) = idxT 0 (maskF s i)
  | 0 => rfl
  | k + 1 => by
    have hb : s.testBit (i + k) = false := Nat.testBit_lt_two_pow (Nat.lt_of_lt_of_le h (Nat.pow_le_pow_right (by decide) (by omega)))
    rw [← Nat.add_assoc, mask_succ, idxT_app, hb, if_neg (by simp), List.append_nil, mask_more h k]
theorem t91 {s n : Nat} (hn : n ≤ 20) (h : s < 2 ^ n) : Fn Q 91 [.fo (.int (s : Nat))] (.one (.fx (.list false (ints (setL n s))))) := by
  refine w91 ?_
  dsimp only [c91, sop, gop, nop, qmv, qsg, qex, qld, qcl, qln, qix, qbo, qt, qi]
  simp -implicitDefEqProofs only [go_sem, simprocAttr]
  refine lpH 6 [3, 4] 6 [5] (fun k : Nat => n - k) (fun k => k ≤ n) (fun k ρ h => ρ 4 = .fv (.int (k : Nat)) ∧ ρ 3 = .gl 5 (h.gen 5) ∧ h.obj 5 = some (.list 3 1 false false (ints (idxT 0 (maskF s k))))) 0 (Nat.zero_le _) ?_ ?_
  · simp -implicitDefEqProofs only [go_sem, simprocAttr]
    rfl
  · rintro k ρ h' hk ⟨r4, r3, o5⟩
    have k0 : ¬ ((k : Int) < 0) := by omega
    have e6 : min k 64 = k := by omega
    have hb := bit_int s k
    have hwk : IntKind.i64.wrap ((k : Int) + 1) = ((k + 1 : Nat) : Int) := wr _ (by omega) (by omega)
    have il := set_len k s
    unfold setL at il
    by_cases q : (s : Int) / 2 ^ k > 0
    · have es : idxT 0 (maskF s (k + 1)) = idxT 0 (maskF s k) ++ if Nat.testBit s k then [(k : Int)] else [] := by
        rw [mask_succ, idxT_app, mask_len, Nat.zero_add]
      have hkn : k < n := by
        refine Classical.byContradiction fun hx => ?_
        obtain rfl : k = n := by omega
        have : s / 2 ^ k = 0 := Nat.div_eq_of_lt h
        have e2 : (s : Int) / 2 ^ k = ((s / 2 ^ k : Nat) : Int) := by push_cast; rfl
        rw [e2, this] at q
        simp at q
      cases b : Nat.testBit s k with
      | true =>
        rw [b] at hb es
        simp only [if_true] at hb es
        simp -implicitDefEqProofs only [go_sem, simprocAttr, r4, wu (show k ≤ 1000 by omega), k0, e6, q, hb, r3]
        refine app_gl (by simp -implicitDefEqProofs only [go_sem, simprocAttr, o5]; rfl) idx_22 (by simp -implicitDefEqProofs only [go_sem, simprocAttr]; rfl) (by simp [FV.cells]) (by simp -implicitDefEqProofs only [go_sem, simprocAttr]) (by simp [byt_3, ints]; omega) (by simp [maxLen, ints]; omega) (by simp) ?_
        simp -implicitDefEqProofs only [go_sem, simprocAttr, r4, hwk]
        refine nxt (k + 1) (by omega) (by omega) ?_
        simp -implicitDefEqProofs only [go_sem, simprocAttr, es, ints, List.map_append]
      | false =>
        rw [b] at hb es
        simp only [Bool.false_eq_true, if_false, List.append_nil] at hb es
        simp -implicitDefEqProofs only [go_sem, simprocAttr, r4, wu (show k ≤ 1000 by omega), k0, e6, q, hb, hwk]
        refine nxt (k + 1) (by omega) (by omega) ?_
        simp -implicitDefEqProofs only [go_sem, simprocAttr, es, r3, o5]
    · have hlt : s < 2 ^ k := by
        have e2 : (s : Int) / 2 ^ k = ((s / 2 ^ k : Nat) : Int) := by push_cast; rfl
        rw [e2] at q
        have h0 : s / 2 ^ k = 0 := by
          generalize s / 2 ^ k = z at q
          omega
        exact (Nat.div_eq_zero_iff_lt (Nat.pow_pos (by decide))).1 h0
      have e3 : idxT 0 (maskF s k) = setL n s := by
        have := mask_more hlt (n - k)
        rw [show k + (n - k) = n by omega] at this
        exact this.symm
      simp -implicitDefEqProofs only [go_sem, simprocAttr, r4, wu (show k ≤ 1000 by omega), k0, e6, q, r3]
      exact ret_fx (fun _ => true) (by simp -implicitDefEqProofs only [go_sem, simprocAttr, o5, e3])
def BestSt (b : Option (List Int)) (v : LV) : Prop := match b with | none => v = .gl 12 1 | some l => v = .fv (.list false (ints l))
def rlV : Option (List Int) → FV
  | none => .list false []
  | some l => .list false (ints l)
end S04

