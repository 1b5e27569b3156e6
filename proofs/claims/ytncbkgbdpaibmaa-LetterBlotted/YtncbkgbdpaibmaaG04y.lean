/- A part of the proof: G04y. -/
import Derived.Test.YtncbkgbdpaibmaaG04x
set_option linter.unusedVariables false
set_option linter.unusedSimpArgs false
set_option maxRecDepth 20000
namespace S04
open Go Abs
theorem a98_4 {c : Cs} {sw sp spl : FV} {pl list : List Int} {wl : List FV} {long : Int} {b : Option (List Int × Int)} {g : Nat} {h : AH} {f : Bool} (v : CV c sw sp) (ok : c.Ok) (hp : PlV spl pl) (H : SH c sw sp spl b h) (hb : BOk b) (ll : list.length = 4) (hw : ∀ x ∈ wl, WV c x x.toL) (wl5 : wl.length ≤ 1)
    (l0 : 0 ≤ long) (l1 : long ≤ 400 * 4) (lh : LH 4070 g list h) : AC Q 98 [.ptr 45 1 0, .fv (.list f wl), .gl 4070 g, .fv (.int long)] h fun lv h' => OffH 5000 [45, 4070] h h' ∧ SH c sw sp spl (c.on pl (wl.map FV.toL) list long b) h' := by
  cases wl with
  | nil => exact a98_4n v hp H (by omega) (by rintro rfl; simp at ll) lh
  | cons x wl =>
    obtain ⟨g45, o45⟩ := H
    obtain ⟨lg, fz, lo⟩ := lh
    have hx := hw x (by simp)
    have hwl : ∀ y ∈ wl, WV c y y.toL := fun y hy => hw y (by simp [hy])
    have hx1 : x.cells.length = 1 := by rw [ls_cells hx.s]; rfl
    have c74 := t74 v ok hx
    have hpl := hp.l
    simp only [List.length_cons] at wl5
    have hxc : ∀ y ∈ x :: wl, y.cells.length = 1 := fun y hy => by rw [ls_cells (hw y hy).s]; rfl
    have hxc1 := eq_true hxc
    have hxc2 : (1 : Int) ≤ ((wl.length + 1 : Nat) : Int) := by omega
    have ne0 : (((wl.length + 1 : Nat) : Int) == 0) = false := by simp; omega
    have le1 : ∀ y ∈ ints list, y.cells.length = 1 := fun y hy => (ints_elem list y hy).1
    cases hst : stopB b long
    · have hon : c.on pl (x.toL :: wl.map FV.toL) list long b = onG (c.on pl (wl.map FV.toL)) (c.nd x.toL) list long pl 0 b := by simp only [Cs.on, hst]; simp
      cases b with
      | none =>
        refine ac_intro (nb := 5000) Go.Proofs.Try.func98 rfl (by kernel_rfl) mix (k98 5000) (Nat.le_of_ble_eq_true (by kernel_rfl)) ?_
        refine Abs.walk ?_
        dsimp only [c98, sop, gop, nop, qmv, qsg, qex, qld, qcl, qln, qix, qbo, qt, qi]
        simp -implicitDefEqProofs only [go_sem, simprocAttr, g45, o45, optB, eqV, nilEq, und_22, ne0]
        simp -implicitDefEqProofs only [go_sem, simprocAttr, g45, o45, ls_cells hx.s, lg, lo]
        refine call1 [] false (c74) ?_
        simp -implicitDefEqProofs only [go_sem, simprocAttr, g45, o45, lenV_ls hp.s]
        refine lpL (β := Option (List Int × Int)) 49 [9, 10] 5049 [45, 4070] pl (by omega) (fun ns k b' => onG (c.on pl (wl.map FV.toL)) (c.nd x.toL) list long ns k b' = onG (c.on pl (wl.map FV.toL)) (c.nd x.toL) list long pl 0 none ∧ BOk b') (fun k b' ρ h => ρ 49 = .fv (.int (k : Nat)) ∧ SH c sw sp spl b' h ∧ LH 4070 g list h) none ⟨rfl, hb⟩ ?_ ?_ ?_
        · simp -implicitDefEqProofs only [go_sem, simprocAttr]
          exact ⟨⟨by simp -implicitDefEqProofs only [go_sem, simprocAttr, g45], by simp -implicitDefEqProofs only [go_sem, simprocAttr, o45, optB] <;> rfl⟩, ⟨by simp -implicitDefEqProofs only [go_sem, simprocAttr, lg], fz, by simp -implicitDefEqProofs only [go_sem, simprocAttr, lo]⟩⟩
        · rintro b' ρ h' ⟨e, _⟩ ⟨r49, ⟨g45', o45'⟩, _⟩
          simp only [onG] at e
          simp -implicitDefEqProofs only [go_sem, simprocAttr, r49]
          rw [hon, ← e]
          exact ⟨by simp -implicitDefEqProofs only [go_sem, simprocAttr, g45'], by simp -implicitDefEqProofs only [go_sem, simprocAttr, o45']⟩
        · rintro n ns k b' ρ h' hn hk hm hk' hwr ⟨e, hb'⟩ ⟨r49, ⟨g45', o45'⟩, ⟨lg', fz', lo'⟩⟩
          have hnb := hp.b n hm
          simp only [onG] at e
          by_cases hgo : c.nd x.toL ≤ n
          · simp -implicitDefEqProofs only [go_sem, simprocAttr, r49, hk', index_map hp.s idx_22 hn rfl, hgo]
            refine call0 [] true (t116 (.list false (ints list)) list (k : Int) rfl (by omega)) (by simp -implicitDefEqProofs only [go_sem, simprocAttr, lg', lo']) (.inr rfl) ?_
            cases hct : list.contains (k : Int)
            · rw [if_pos ⟨hgo, hct⟩] at e
              have w1 : IntKind.i64.wrap (long + n) = long + n := wr _ (by omega) (by omega)
              have bo := on_ok c hp.b (wl.map FV.toL) (list ++ [(k : Int)]) (long + n) b' (by omega) (by simp; omega) hb'
              simp -implicitDefEqProofs only [go_sem, simprocAttr, hct]
              refine W_opsD _ _ _ (Vs [[], [], [], [], [4070], [], [5069], [5070], [], [], [], []]) ?_ ?_
              · decide
              simp -implicitDefEqProofs only [go_sem, simprocAttr, Option.elim, hxc1, hxc, hxc2, implies_true, Option.toArray_some, Option.toArray_none, List.append_nil, List.nil_append, Int.le_refl, List.take_length]
              refine callD [4070] false [.fo (.list false (ints list))] [] (t125 (by omega)) ⟨by simp -implicitDefEqProofs only [go_sem, simprocAttr, lg', lo'], trivial⟩ rfl (.inl rfl) ?_
              simp -implicitDefEqProofs only [go_sem, simprocAttr, lg', lo']
              refine app_full idx_22 (by decide) (by simp -implicitDefEqProofs only [go_sem, simprocAttr]; rfl) (by simp) le1 (by simp [FV.cells]) (by simp -implicitDefEqProofs only [go_sem, simprocAttr]) (by simp [byt_3, ints]; omega) (by simp [maxLen, ints]; omega) ?_
              simp -implicitDefEqProofs only [go_sem, simprocAttr, w1]
              refine callIH 6000 [45, 5070] (a98_5 (pl := pl) (list := list ++ [(k : Int)]) (wl := wl) (b := b') (c := c) (sw := sw) (sp := sp) (spl := spl) v ok hp ⟨by simp -implicitDefEqProofs only [go_sem, simprocAttr, g45'], by simp -implicitDefEqProofs only [go_sem, simprocAttr, o45']⟩ hb' (by simp; omega) hwl (by omega) (by omega) (by omega) ⟨by simp -implicitDefEqProofs only [go_sem, simprocAttr], false, by simp -implicitDefEqProofs only [go_sem, simprocAttr, ints, List.map_append]⟩) (ex_SH (by simp -implicitDefEqProofs only [go_sem, simprocAttr, g45']) rfl) ?_
              rintro lv h3 ⟨g3, o3⟩
              simp -implicitDefEqProofs only [go_sem, simprocAttr, Kl_eq, r49, hwr]
              refine nxtL (c.on pl (wl.map FV.toL) (list ++ [(k : Int)]) (long + n) b') ⟨e, bo⟩ ?_
              simp -implicitDefEqProofs only [go_sem, simprocAttr]
              exact ⟨⟨by simp -implicitDefEqProofs only [go_sem, simprocAttr, g3], by simp -implicitDefEqProofs only [go_sem, simprocAttr, o3]⟩, ⟨by simp -implicitDefEqProofs only [go_sem, simprocAttr, lg'], true, by simp -implicitDefEqProofs only [go_sem, simprocAttr, lo']⟩⟩
            · rw [if_neg (by simp only [hct]; simp)] at e
              simp -implicitDefEqProofs only [go_sem, simprocAttr, hct, r49, hwr]
              refine nxtL b' ⟨e, hb'⟩ ?_
              simp -implicitDefEqProofs only [go_sem, simprocAttr]
              exact ⟨⟨by simp -implicitDefEqProofs only [go_sem, simprocAttr, g45'], by simp -implicitDefEqProofs only [go_sem, simprocAttr, o45']⟩, ⟨by simp -implicitDefEqProofs only [go_sem, simprocAttr, lg'], fz', by simp -implicitDefEqProofs only [go_sem, simprocAttr, lo']⟩⟩
          · rw [if_neg (by simp [hgo])] at e
            simp -implicitDefEqProofs only [go_sem, simprocAttr, r49, hk', index_map hp.s idx_22 hn rfl, hgo, hwr]
            refine nxtL b' ⟨e, hb'⟩ ?_
            simp -implicitDefEqProofs only [go_sem, simprocAttr]
            exact ⟨⟨by simp -implicitDefEqProofs only [go_sem, simprocAttr, g45'], by simp -implicitDefEqProofs only [go_sem, simprocAttr, o45']⟩, ⟨by simp -implicitDefEqProofs only [go_sem, simprocAttr, lg'], fz', by simp -implicitDefEqProofs only [go_sem, simprocAttr, lo']⟩⟩
      | some y =>
        have hy : ¬ y.2 ≤ long := by simpa [stopB] using hst
        refine ac_intro (nb := 5000) Go.Proofs.Try.func98 rfl (by kernel_rfl) mix (k98 5000) (Nat.le_of_ble_eq_true (by kernel_rfl)) ?_
        refine Abs.walk ?_
        dsimp only [c98, sop, gop, nop, qmv, qsg, qex, qld, qcl, qln, qix, qbo, qt, qi]
        simp -implicitDefEqProofs only [go_sem, simprocAttr, g45, o45, optB, eqV, nilEq, und_22, ne0, hy]
        simp -implicitDefEqProofs only [go_sem, simprocAttr, g45, o45, ls_cells hx.s, lg, lo]
        refine call1 [] false (c74) ?_
        simp -implicitDefEqProofs only [go_sem, simprocAttr, g45, o45, lenV_ls hp.s]
        refine lpL (β := Option (List Int × Int)) 49 [9, 10] 5049 [45, 4070] pl (by omega) (fun ns k b' => onG (c.on pl (wl.map FV.toL)) (c.nd x.toL) list long ns k b' = onG (c.on pl (wl.map FV.toL)) (c.nd x.toL) list long pl 0 (some y) ∧ BOk b') (fun k b' ρ h => ρ 49 = .fv (.int (k : Nat)) ∧ SH c sw sp spl b' h ∧ LH 4070 g list h) (some y) ⟨rfl, hb⟩ ?_ ?_ ?_
        · simp -implicitDefEqProofs only [go_sem, simprocAttr]
          exact ⟨⟨by simp -implicitDefEqProofs only [go_sem, simprocAttr, g45], by simp -implicitDefEqProofs only [go_sem, simprocAttr, o45, optB] <;> rfl⟩, ⟨by simp -implicitDefEqProofs only [go_sem, simprocAttr, lg], fz, by simp -implicitDefEqProofs only [go_sem, simprocAttr, lo]⟩⟩
        · rintro b' ρ h' ⟨e, _⟩ ⟨r49, ⟨g45', o45'⟩, _⟩
          simp only [onG] at e
          simp -implicitDefEqProofs only [go_sem, simprocAttr, r49]
          rw [hon, ← e]
          exact ⟨by simp -implicitDefEqProofs only [go_sem, simprocAttr, g45'], by simp -implicitDefEqProofs only [go_sem, simprocAttr, o45']⟩
        · rintro n ns k b' ρ h' hn hk hm hk' hwr ⟨e, hb'⟩ ⟨r49, ⟨g45', o45'⟩, ⟨lg', fz', lo'⟩⟩
          have hnb := hp.b n hm
          simp only [onG] at e
          by_cases hgo : c.nd x.toL ≤ n
          · simp -implicitDefEqProofs only [go_sem, simprocAttr, r49, hk', index_map hp.s idx_22 hn rfl, hgo]
            refine call0 [] true (t116 (.list false (ints list)) list (k : Int) rfl (by omega)) (by simp -implicitDefEqProofs only [go_sem, simprocAttr, lg', lo']) (.inr rfl) ?_
            cases hct : list.contains (k : Int)
            · rw [if_pos ⟨hgo, hct⟩] at e
              have w1 : IntKind.i64.wrap (long + n) = long + n := wr _ (by omega) (by omega)
              have bo := on_ok c hp.b (wl.map FV.toL) (list ++ [(k : Int)]) (long + n) b' (by omega) (by simp; omega) hb'
              simp -implicitDefEqProofs only [go_sem, simprocAttr, hct]
              refine W_opsD _ _ _ (Vs [[], [], [], [], [4070], [], [5069], [5070], [], [], [], []]) ?_ ?_
              · decide
              simp -implicitDefEqProofs only [go_sem, simprocAttr, Option.elim, hxc1, hxc, hxc2, implies_true, Option.toArray_some, Option.toArray_none, List.append_nil, List.nil_append, Int.le_refl, List.take_length]
              refine callD [4070] false [.fo (.list false (ints list))] [] (t125 (by omega)) ⟨by simp -implicitDefEqProofs only [go_sem, simprocAttr, lg', lo'], trivial⟩ rfl (.inl rfl) ?_
              simp -implicitDefEqProofs only [go_sem, simprocAttr, lg', lo']
              refine app_full idx_22 (by decide) (by simp -implicitDefEqProofs only [go_sem, simprocAttr]; rfl) (by simp) le1 (by simp [FV.cells]) (by simp -implicitDefEqProofs only [go_sem, simprocAttr]) (by simp [byt_3, ints]; omega) (by simp [maxLen, ints]; omega) ?_
              simp -implicitDefEqProofs only [go_sem, simprocAttr, w1]
              refine callIH 6000 [45, 5070] (a98_5 (pl := pl) (list := list ++ [(k : Int)]) (wl := wl) (b := b') (c := c) (sw := sw) (sp := sp) (spl := spl) v ok hp ⟨by simp -implicitDefEqProofs only [go_sem, simprocAttr, g45'], by simp -implicitDefEqProofs only [go_sem, simprocAttr, o45']⟩ hb' (by simp; omega) hwl (by omega) (by omega) (by omega) ⟨by simp -implicitDefEqProofs only [go_sem, simprocAttr], false, by simp -implicitDefEqProofs only [go_sem, simprocAttr, ints, List.map_append]⟩) (ex_SH (by simp -implicitDefEqProofs only [go_sem, simprocAttr, g45']) rfl) ?_
              rintro lv h3 ⟨g3, o3⟩
              simp -implicitDefEqProofs only [go_sem, simprocAttr, Kl_eq, r49, hwr]
              refine nxtL (c.on pl (wl.map FV.toL) (list ++ [(k : Int)]) (long + n) b') ⟨e, bo⟩ ?_
              simp -implicitDefEqProofs only [go_sem, simprocAttr]
              exact ⟨⟨by simp -implicitDefEqProofs only [go_sem, simprocAttr, g3], by simp -implicitDefEqProofs only [go_sem, simprocAttr, o3]⟩, ⟨by simp -implicitDefEqProofs only [go_sem, simprocAttr, lg'], true, by simp -implicitDefEqProofs only [go_sem, simprocAttr, lo']⟩⟩
            · rw [if_neg (by simp only [hct]; simp)] at e
              simp -implicitDefEqProofs only [go_sem, simprocAttr, hct, r49, hwr]
              refine nxtL b' ⟨e, hb'⟩ ?_
              simp -implicitDefEqProofs only [go_sem, simprocAttr]
              exact ⟨⟨by simp -implicitDefEqProofs only [go_sem, simprocAttr, g45'], by simp -implicitDefEqProofs only [go_sem, simprocAttr, o45']⟩, ⟨by simp -implicitDefEqProofs only [go_sem, simprocAttr, lg'], fz', by simp -implicitDefEqProofs only [go_sem, simprocAttr, lo']⟩⟩
          · rw [if_neg (by simp [hgo])] at e
            simp -implicitDefEqProofs only [go_sem, simprocAttr, r49, hk', index_map hp.s idx_22 hn rfl, hgo, hwr]
            refine nxtL b' ⟨e, hb'⟩ ?_
            simp -implicitDefEqProofs only [go_sem, simprocAttr]
            exact ⟨⟨by simp -implicitDefEqProofs only [go_sem, simprocAttr, g45'], by simp -implicitDefEqProofs only [go_sem, simprocAttr, o45']⟩, ⟨by simp -implicitDefEqProofs only [go_sem, simprocAttr, lg'], fz', by simp -implicitDefEqProofs only [go_sem, simprocAttr, lo']⟩⟩
    · obtain ⟨l, m, rfl, hm⟩ := stop_t hst
      have e : c.on pl ((x :: wl).map FV.toL) list long (some (l, m)) = some (l, m) := by simp [Cs.on, hst]
      rw [e]
      refine ac_intro (nb := 5000) Go.Proofs.Try.func98 rfl (by kernel_rfl) mix (k98 5000) (Nat.le_of_ble_eq_true (by kernel_rfl)) ?_
      refine Abs.walk ?_
      dsimp only [c98, sop, gop, nop, qmv, qsg, qex, qld, qcl, qln, qix, qbo, qt, qi]
      simp -implicitDefEqProofs only [go_sem, simprocAttr, g45, o45, optB, eqV, nilEq, und_22, hm]
      exact ⟨g45, o45⟩
theorem a98_3 {c : Cs} {sw sp spl : FV} {pl list : List Int} {wl : List FV} {long : Int} {b : Option (List Int × Int)} {g : Nat} {h : AH} {f : Bool} (v : CV c sw sp) (ok : c.Ok) (hp : PlV spl pl) (H : SH c sw sp spl b h) (hb : BOk b) (ll : list.length = 3) (hw : ∀ x ∈ wl, WV c x x.toL) (wl5 : wl.length ≤ 2)
    (l0 : 0 ≤ long) (l1 : long ≤ 400 * 3) (lh : LH 3070 g list h) : AC Q 98 [.ptr 45 1 0, .fv (.list f wl), .gl 3070 g, .fv (.int long)] h fun lv h' => OffH 4000 [45, 3070] h h' ∧ SH c sw sp spl (c.on pl (wl.map FV.toL) list long b) h' := by
  cases wl with
  | nil => exact a98_3n v hp H (by omega) (by rintro rfl; simp at ll) lh
  | cons x wl =>
    obtain ⟨g45, o45⟩ := H
    obtain ⟨lg, fz, lo⟩ := lh
    have hx := hw x (by simp)
    have hwl : ∀ y ∈ wl, WV c y y.toL := fun y hy => hw y (by simp [hy])
    have hx1 : x.cells.length = 1 := by rw [ls_cells hx.s]; rfl
    have c74 := t74 v ok hx
    have hpl := hp.l
    simp only [List.length_cons] at wl5
    have hxc : ∀ y ∈ x :: wl, y.cells.length = 1 := fun y hy => by rw [ls_cells (hw y hy).s]; rfl
    have hxc1 := eq_true hxc
    have hxc2 : (1 : Int) ≤ ((wl.length + 1 : Nat) : Int) := by omega
    have ne0 : (((wl.length + 1 : Nat) : Int) == 0) = false := by simp; omega
    have le1 : ∀ y ∈ ints list, y.cells.length = 1 := fun y hy => (ints_elem list y hy).1
    cases hst : stopB b long
    · have hon : c.on pl (x.toL :: wl.map FV.toL) list long b = onG (c.on pl (wl.map FV.toL)) (c.nd x.toL) list long pl 0 b := by simp only [Cs.on, hst]; simp
      cases b with
      | none =>
        refine ac_intro (nb := 4000) Go.Proofs.Try.func98 rfl (by kernel_rfl) mix (k98 4000) (Nat.le_of_ble_eq_true (by kernel_rfl)) ?_
        refine Abs.walk ?_
        dsimp only [c98, sop, gop, nop, qmv, qsg, qex, qld, qcl, qln, qix, qbo, qt, qi]
        simp -implicitDefEqProofs only [go_sem, simprocAttr, g45, o45, optB, eqV, nilEq, und_22, ne0]
        simp -implicitDefEqProofs only [go_sem, simprocAttr, g45, o45, ls_cells hx.s, lg, lo]
        refine call1 [] false (c74) ?_
        simp -implicitDefEqProofs only [go_sem, simprocAttr, g45, o45, lenV_ls hp.s]
        refine lpL (β := Option (List Int × Int)) 49 [9, 10] 4049 [45, 3070] pl (by omega) (fun ns k b' => onG (c.on pl (wl.map FV.toL)) (c.nd x.toL) list long ns k b' = onG (c.on pl (wl.map FV.toL)) (c.nd x.toL) list long pl 0 none ∧ BOk b') (fun k b' ρ h => ρ 49 = .fv (.int (k : Nat)) ∧ SH c sw sp spl b' h ∧ LH 3070 g list h) none ⟨rfl, hb⟩ ?_ ?_ ?_
        · simp -implicitDefEqProofs only [go_sem, simprocAttr]
          exact ⟨⟨by simp -implicitDefEqProofs only [go_sem, simprocAttr, g45], by simp -implicitDefEqProofs only [go_sem, simprocAttr, o45, optB] <;> rfl⟩, ⟨by simp -implicitDefEqProofs only [go_sem, simprocAttr, lg], fz, by simp -implicitDefEqProofs only [go_sem, simprocAttr, lo]⟩⟩
        · rintro b' ρ h' ⟨e, _⟩ ⟨r49, ⟨g45', o45'⟩, _⟩
          simp only [onG] at e
          simp -implicitDefEqProofs only [go_sem, simprocAttr, r49]
          rw [hon, ← e]
          exact ⟨by simp -implicitDefEqProofs only [go_sem, simprocAttr, g45'], by simp -implicitDefEqProofs only [go_sem, simprocAttr, o45']⟩
        · rintro n ns k b' ρ h' hn hk hm hk' hwr ⟨e, hb'⟩ ⟨r49, ⟨g45', o45'⟩, ⟨lg', fz', lo'⟩⟩
          have hnb := hp.b n hm
          simp only [onG] at e
          by_cases hgo : c.nd x.toL ≤ n
          · simp -implicitDefEqProofs only [go_sem, simprocAttr, r49, hk', index_map hp.s idx_22 hn rfl, hgo]
            refine call0 [] true (t116 (.list false (ints list)) list (k : Int) rfl (by omega)) (by simp -implicitDefEqProofs only [go_sem, simprocAttr, lg', lo']) (.inr rfl) ?_
            cases hct : list.contains (k : Int)
            · rw [if_pos ⟨hgo, hct⟩] at e
              have w1 : IntKind.i64.wrap (long + n) = long + n := wr _ (by omega) (by omega)
              have bo := on_ok c hp.b (wl.map FV.toL) (list ++ [(k : Int)]) (long + n) b' (by omega) (by simp; omega) hb'
              simp -implicitDefEqProofs only [go_sem, simprocAttr, hct]
              refine W_opsD _ _ _ (Vs [[], [], [], [], [3070], [], [4069], [4070], [], [], [], []]) ?_ ?_
              · decide
              simp -implicitDefEqProofs only [go_sem, simprocAttr, Option.elim, hxc1, hxc, hxc2, implies_true, Option.toArray_some, Option.toArray_none, List.append_nil, List.nil_append, Int.le_refl, List.take_length]
              refine callD [3070] false [.fo (.list false (ints list))] [] (t125 (by omega)) ⟨by simp -implicitDefEqProofs only [go_sem, simprocAttr, lg', lo'], trivial⟩ rfl (.inl rfl) ?_
              simp -implicitDefEqProofs only [go_sem, simprocAttr, lg', lo']
              refine app_full idx_22 (by decide) (by simp -implicitDefEqProofs only [go_sem, simprocAttr]; rfl) (by simp) le1 (by simp [FV.cells]) (by simp -implicitDefEqProofs only [go_sem, simprocAttr]) (by simp [byt_3, ints]; omega) (by simp [maxLen, ints]; omega) ?_
              simp -implicitDefEqProofs only [go_sem, simprocAttr, w1]
              refine callIH 5000 [45, 4070] (a98_4 (pl := pl) (list := list ++ [(k : Int)]) (wl := wl) (b := b') (c := c) (sw := sw) (sp := sp) (spl := spl) v ok hp ⟨by simp -implicitDefEqProofs only [go_sem, simprocAttr, g45'], by simp -implicitDefEqProofs only [go_sem, simprocAttr, o45']⟩ hb' (by simp; omega) hwl (by omega) (by omega) (by omega) ⟨by simp -implicitDefEqProofs only [go_sem, simprocAttr], false, by simp -implicitDefEqProofs only [go_sem, simprocAttr, ints, List.map_append]⟩) (ex_SH (by simp -implicitDefEqProofs only [go_sem, simprocAttr, g45']) rfl) ?_
              rintro lv h3 ⟨g3, o3⟩
              simp -implicitDefEqProofs only [go_sem, simprocAttr, Kl_eq, r49, hwr]
              refine nxtL (c.on pl (wl.map FV.toL) (list ++ [(k : Int)]) (long + n) b') ⟨e, bo⟩ ?_
              simp -implicitDefEqProofs only [go_sem, simprocAttr]
              exact ⟨⟨by simp -implicitDefEqProofs only [go_sem, simprocAttr, g3], by simp -implicitDefEqProofs only [go_sem, simprocAttr, o3]⟩, ⟨by simp -implicitDefEqProofs only [go_sem, simprocAttr, lg'], true, by simp -implicitDefEqProofs only [go_sem, simprocAttr, lo']⟩⟩
            · rw [if_neg (by simp only [hct]; simp)] at e
              simp -implicitDefEqProofs only [go_sem, simprocAttr, hct, r49, hwr]
              refine nxtL b' ⟨e, hb'⟩ ?_
              simp -implicitDefEqProofs only [go_sem, simprocAttr]
              exact ⟨⟨by simp -implicitDefEqProofs only [go_sem, simprocAttr, g45'], by simp -implicitDefEqProofs only [go_sem, simprocAttr, o45']⟩, ⟨by simp -implicitDefEqProofs only [go_sem, simprocAttr, lg'], fz', by simp -implicitDefEqProofs only [go_sem, simprocAttr, lo']⟩⟩
          · rw [if_neg (by simp [hgo])] at e
            simp -implicitDefEqProofs only [go_sem, simprocAttr, r49, hk', index_map hp.s idx_22 hn rfl, hgo, hwr]
            refine nxtL b' ⟨e, hb'⟩ ?_
            simp -implicitDefEqProofs only [go_sem, simprocAttr]
            exact ⟨⟨by simp -implicitDefEqProofs only [go_sem, simprocAttr, g45'], by simp -implicitDefEqProofs only [go_sem, simprocAttr, o45']⟩, ⟨by simp -implicitDefEqProofs only [go_sem, simprocAttr, lg'], fz', by simp -implicitDefEqProofs only [go_sem, simprocAttr, lo']⟩⟩
      | some y =>
        have hy : ¬ y.2 ≤ long := by simpa [stopB] using hst
        refine ac_intro (nb := 4000) Go.Proofs.Try.func98 rfl (by kernel_rfl) mix (k98 4000) (Nat.le_of_ble_eq_true (by kernel_rfl)) ?_
        refine Abs.walk ?_
        dsimp only [c98, sop, gop, nop, qmv, qsg, qex, qld, qcl, qln, qix, qbo, qt, qi]
        simp -implicitDefEqProofs only [go_sem, simprocAttr, g45, o45, optB, eqV, nilEq, und_22, ne0, hy]
        simp -implicitDefEqProofs only [go_sem, simprocAttr, g45, o45, ls_cells hx.s, lg, lo]
        refine call1 [] false (c74) ?_
        simp -implicitDefEqProofs only [go_sem, simprocAttr, g45, o45, lenV_ls hp.s]
        refine lpL (β := Option (List Int × Int)) 49 [9, 10] 4049 [45, 3070] pl (by omega) (fun ns k b' => onG (c.on pl (wl.map FV.toL)) (c.nd x.toL) list long ns k b' = onG (c.on pl (wl.map FV.toL)) (c.nd x.toL) list long pl 0 (some y) ∧ BOk b') (fun k b' ρ h => ρ 49 = .fv (.int (k : Nat)) ∧ SH c sw sp spl b' h ∧ LH 3070 g list h) (some y) ⟨rfl, hb⟩ ?_ ?_ ?_
        · simp -implicitDefEqProofs only [go_sem, simprocAttr]
          exact ⟨⟨by simp -implicitDefEqProofs only [go_sem, simprocAttr, g45], by simp -implicitDefEqProofs only [go_sem, simprocAttr, o45, optB] <;> rfl⟩, ⟨by simp -implicitDefEqProofs only [go_sem, simprocAttr, lg], fz, by simp -implicitDefEqProofs only [go_sem, simprocAttr, lo]⟩⟩
        · rintro b' ρ h' ⟨e, _⟩ ⟨r49, ⟨g45', o45'⟩, _⟩
          simp only [onG] at e
          simp -implicitDefEqProofs only [go_sem, simprocAttr, r49]
          rw [hon, ← e]
          exact ⟨by simp -implicitDefEqProofs only [go_sem, simprocAttr, g45'], by simp -implicitDefEqProofs only [go_sem, simprocAttr, o45']⟩
        · rintro n ns k b' ρ h' hn hk hm hk' hwr ⟨e, hb'⟩ ⟨r49, ⟨g45', o45'⟩, ⟨lg', fz', lo'⟩⟩
          have hnb := hp.b n hm
          simp only [onG] at e
          by_cases hgo : c.nd x.toL ≤ n
          · simp -implicitDefEqProofs only [go_sem, simprocAttr, r49, hk', index_map hp.s idx_22 hn rfl, hgo]
            refine call0 [] true (t116 (.list false (ints list)) list (k : Int) rfl (by omega)) (by simp -implicitDefEqProofs only [go_sem, simprocAttr, lg', lo']) (.inr rfl) ?_
            cases hct : list.contains (k : Int)
            · rw [if_pos ⟨hgo, hct⟩] at e
              have w1 : IntKind.i64.wrap (long + n) = long + n := wr _ (by omega) (by omega)
              have bo := on_ok c hp.b (wl.map FV.toL) (list ++ [(k : Int)]) (long + n) b' (by omega) (by simp; omega) hb'
              simp -implicitDefEqProofs only [go_sem, simprocAttr, hct]
              refine W_opsD _ _ _ (Vs [[], [], [], [], [3070], [], [4069], [4070], [], [], [], []]) ?_ ?_
              · decide
              simp -implicitDefEqProofs only [go_sem, simprocAttr, Option.elim, hxc1, hxc, hxc2, implies_true, Option.toArray_some, Option.toArray_none, List.append_nil, List.nil_append, Int.le_refl, List.take_length]
              refine callD [3070] false [.fo (.list false (ints list))] [] (t125 (by omega)) ⟨by simp -implicitDefEqProofs only [go_sem, simprocAttr, lg', lo'], trivial⟩ rfl (.inl rfl) ?_
              simp -implicitDefEqProofs only [go_sem, simprocAttr, lg', lo']
              refine app_full idx_22 (by decide) (by simp -implicitDefEqProofs only [go_sem, simprocAttr]; rfl) (by simp) le1 (by simp [FV.cells]) (by simp -implicitDefEqProofs only [go_sem, simprocAttr]) (by simp [byt_3, ints]; omega) (by simp [maxLen, ints]; omega) ?_
              simp -implicitDefEqProofs only [go_sem, simprocAttr, w1]
              refine callIH 5000 [45, 4070] (a98_4 (pl := pl) (list := list ++ [(k : Int)]) (wl := wl) (b := b') (c := c) (sw := sw) (sp := sp) (spl := spl) v ok hp ⟨by simp -implicitDefEqProofs only [go_sem, simprocAttr, g45'], by simp -implicitDefEqProofs only [go_sem, simprocAttr, o45']⟩ hb' (by simp; omega) hwl (by omega) (by omega) (by omega) ⟨by simp -implicitDefEqProofs only [go_sem, simprocAttr], false, by simp -implicitDefEqProofs only [go_sem, simprocAttr, ints, List.map_append]⟩) (ex_SH (by simp -implicitDefEqProofs only [go_sem, simprocAttr, g45']) rfl) ?_
              rintro lv h3 ⟨g3, o3⟩
              simp -implicitDefEqProofs only [go_sem, simprocAttr, Kl_eq, r49, hwr]
              refine nxtL (c.on pl (wl.map FV.toL) (list ++ [(k : Int)]) (long + n) b') ⟨e, bo⟩ ?_
              simp -implicitDefEqProofs only [go_sem, simprocAttr]
              exact ⟨⟨by simp -implicitDefEqProofs only [go_sem, simprocAttr, g3], by simp -implicitDefEqProofs only [go_sem, simprocAttr, o3]⟩, ⟨by simp -implicitDefEqProofs only [go_sem, simprocAttr, lg'], true, by simp -implicitDefEqProofs only [go_sem, simprocAttr, lo']⟩⟩
            · rw [if_neg (by simp only [hct]; simp)] at e
              simp -implicitDefEqProofs only [go_sem, simprocAttr, hct, r49, hwr]
              refine nxtL b' ⟨e, hb'⟩ ?_
              simp -implicitDefEqProofs only [go_sem, simprocAttr]
              exact ⟨⟨by simp -implicitDefEqProofs only [go_sem, simprocAttr, g45'], by simp -implicitDefEqProofs only [go_sem, simprocAttr, o45']⟩, ⟨by simp -implicitDefEqProofs only [go_sem, simprocAttr, lg'], fz', by simp -implicitDefEqProofs only [go_sem, simprocAttr, lo']⟩⟩
          · rw [if_neg (by simp [hgo])] at e
            simp -implicitDefEqProofs only [go_sem, simprocAttr, r49, hk', index_map hp.s idx_22 hn rfl, hgo, hwr]
            refine nxtL b' ⟨e, hb'⟩ ?_
            simp -implicitDefEqProofs only [go_sem, simprocAttr]
            exact ⟨⟨by simp -implicitDefEqProofs only [go_sem, simprocAttr, g45'], by simp -implicitDefEqProofs only [go_sem, simprocAttr, o45']⟩, ⟨by simp -implicitDefEqProofs only [go_sem, simprocAttr, lg'], fz', by simp -implicitDefEqProofs only [go_sem, simprocAttr, lo']⟩⟩
    · obtain ⟨l, m, rfl, hm⟩ := stop_t hst
      have e : c.on pl ((x :: wl).map FV.toL) list long (some (l, m)) = some (l, m) := by simp [Cs.on, hst]
      rw [e]
      refine ac_intro (nb := 4000) Go.Proofs.Try.func98 rfl (by kernel_rfl) mix (k98 4000) (Nat.le_of_ble_eq_true (by kernel_rfl)) ?_
      refine Abs.walk ?_
      dsimp only [c98, sop, gop, nop, qmv, qsg, qex, qld, qcl, qln, qix, qbo, qt, qi]
      simp -implicitDefEqProofs only [go_sem, simprocAttr, g45, o45, optB, eqV, nilEq, und_22, hm]
      exact ⟨g45, o45⟩
theorem a98_2 {c : Cs} {sw sp spl : FV} {pl list : List Int} {wl : List FV} {long : Int} {b : Option (List Int × Int)} {g : Nat} {h : AH} {f : Bool} (v : CV c sw sp) (ok : c.Ok) (hp : PlV spl pl) (H : SH c sw sp spl b h) (hb : BOk b) (ll : list.length = 2) (hw : ∀ x ∈ wl, WV c x x.toL) (wl5 : wl.length ≤ 3)
    (l0 : 0 ≤ long) (l1 : long ≤ 400 * 2) (lh : LH 2070 g list h) : AC Q 98 [.ptr 45 1 0, .fv (.list f wl), .gl 2070 g, .fv (.int long)] h fun lv h' => OffH 3000 [45, 2070] h h' ∧ SH c sw sp spl (c.on pl (wl.map FV.toL) list long b) h' := by
  cases wl with
  | nil => exact a98_2n v hp H (by omega) (by rintro rfl; simp at ll) lh
  | cons x wl =>
    obtain ⟨g45, o45⟩ := H
    obtain ⟨lg, fz, lo⟩ := lh
    have hx := hw x (by simp)
    have hwl : ∀ y ∈ wl, WV c y y.toL := fun y hy => hw y (by simp [hy])
    have hx1 : x.cells.length = 1 := by rw [ls_cells hx.s]; rfl
    have c74 := t74 v ok hx
    have hpl := hp.l
    simp only [List.length_cons] at wl5
    have hxc : ∀ y ∈ x :: wl, y.cells.length = 1 := fun y hy => by rw [ls_cells (hw y hy).s]; rfl
    have hxc1 := eq_true hxc
    have hxc2 : (1 : Int) ≤ ((wl.length + 1 : Nat) : Int) := by omega
    have ne0 : (((wl.length + 1 : Nat) : Int) == 0) = false := by simp; omega
    have le1 : ∀ y ∈ ints list, y.cells.length = 1 := fun y hy => (ints_elem list y hy).1
    cases hst : stopB b long
    · have hon : c.on pl (x.toL :: wl.map FV.toL) list long b = onG (c.on pl (wl.map FV.toL)) (c.nd x.toL) list long pl 0 b := by simp only [Cs.on, hst]; simp
      cases b with
      | none =>
        refine ac_intro (nb := 3000) Go.Proofs.Try.func98 rfl (by kernel_rfl) mix (k98 3000) (Nat.le_of_ble_eq_true (by kernel_rfl)) ?_
        refine Abs.walk ?_
        dsimp only [c98, sop, gop, nop, qmv, qsg, qex, qld, qcl, qln, qix, qbo, qt, qi]
        simp -implicitDefEqProofs only [go_sem, simprocAttr, g45, o45, optB, eqV, nilEq, und_22, ne0]
        simp -implicitDefEqProofs only [go_sem, simprocAttr, g45, o45, ls_cells hx.s, lg, lo]
        refine call1 [] false (c74) ?_
        simp -implicitDefEqProofs only [go_sem, simprocAttr, g45, o45, lenV_ls hp.s]
        refine lpL (β := Option (List Int × Int)) 49 [9, 10] 3049 [45, 2070] pl (by omega) (fun ns k b' => onG (c.on pl (wl.map FV.toL)) (c.nd x.toL) list long ns k b' = onG (c.on pl (wl.map FV.toL)) (c.nd x.toL) list long pl 0 none ∧ BOk b') (fun k b' ρ h => ρ 49 = .fv (.int (k : Nat)) ∧ SH c sw sp spl b' h ∧ LH 2070 g list h) none ⟨rfl, hb⟩ ?_ ?_ ?_
        · simp -implicitDefEqProofs only [go_sem, simprocAttr]
          exact ⟨⟨by simp -implicitDefEqProofs only [go_sem, simprocAttr, g45], by simp -implicitDefEqProofs only [go_sem, simprocAttr, o45, optB] <;> rfl⟩, ⟨by simp -implicitDefEqProofs only [go_sem, simprocAttr, lg], fz, by simp -implicitDefEqProofs only [go_sem, simprocAttr, lo]⟩⟩
        · rintro b' ρ h' ⟨e, _⟩ ⟨r49, ⟨g45', o45'⟩, _⟩
          simp only [onG] at e
          simp -implicitDefEqProofs only [go_sem, simprocAttr, r49]
          rw [hon, ← e]
          exact ⟨by simp -implicitDefEqProofs only [go_sem, simprocAttr, g45'], by simp -implicitDefEqProofs only [go_sem, simprocAttr, o45']⟩
        · rintro n ns k b' ρ h' hn hk hm hk' hwr ⟨e, hb'⟩ ⟨r49, ⟨g45', o45'⟩, ⟨lg', fz', lo'⟩⟩
          have hnb := hp.b n hm
          simp only [onG] at e
          by_cases hgo : c.nd x.toL ≤ n
          · simp -implicitDefEqProofs only [go_sem, simprocAttr, r49, hk', index_map hp.s idx_22 hn rfl, hgo]
            refine call0 [] true (t116 (.list false (ints list)) list (k : Int) rfl (by omega)) (by simp -implicitDefEqProofs only [go_sem, simprocAttr, lg', lo']) (.inr rfl) ?_
            cases hct : list.contains (k : Int)
            · rw [if_pos ⟨hgo, hct⟩] at e
              have w1 : IntKind.i64.wrap (long + n) = long + n := wr _ (by omega) (by omega)
              have bo := on_ok c hp.b (wl.map FV.toL) (list ++ [(k : Int)]) (long + n) b' (by omega) (by simp; omega) hb'
              simp -implicitDefEqProofs only [go_sem, simprocAttr, hct]
              refine W_opsD _ _ _ (Vs [[], [], [], [], [2070], [], [3069], [3070], [], [], [], []]) ?_ ?_
              · decide
              simp -implicitDefEqProofs only [go_sem, simprocAttr, Option.elim, hxc1, hxc, hxc2, implies_true, Option.toArray_some, Option.toArray_none, List.append_nil, List.nil_append, Int.le_refl, List.take_length]
              refine callD [2070] false [.fo (.list false (ints list))] [] (t125 (by omega)) ⟨by simp -implicitDefEqProofs only [go_sem, simprocAttr, lg', lo'], trivial⟩ rfl (.inl rfl) ?_
              simp -implicitDefEqProofs only [go_sem, simprocAttr, lg', lo']
              refine app_full idx_22 (by decide) (by simp -implicitDefEqProofs only [go_sem, simprocAttr]; rfl) (by simp) le1 (by simp [FV.cells]) (by simp -implicitDefEqProofs only [go_sem, simprocAttr]) (by simp [byt_3, ints]; omega) (by simp [maxLen, ints]; omega) ?_
              simp -implicitDefEqProofs only [go_sem, simprocAttr, w1]
              refine callIH 4000 [45, 3070] (a98_3 (pl := pl) (list := list ++ [(k : Int)]) (wl := wl) (b := b') (c := c) (sw := sw) (sp := sp) (spl := spl) v ok hp ⟨by simp -implicitDefEqProofs only [go_sem, simprocAttr, g45'], by simp -implicitDefEqProofs only [go_sem, simprocAttr, o45']⟩ hb' (by simp; omega) hwl (by omega) (by omega) (by omega) ⟨by simp -implicitDefEqProofs only [go_sem, simprocAttr], false, by simp -implicitDefEqProofs only [go_sem, simprocAttr, ints, List.map_append]⟩) (ex_SH (by simp -implicitDefEqProofs only [go_sem, simprocAttr, g45']) rfl) ?_
              rintro lv h3 ⟨g3, o3⟩
              simp -implicitDefEqProofs only [go_sem, simprocAttr, Kl_eq, r49, hwr]
              refine nxtL (c.on pl (wl.map FV.toL) (list ++ [(k : Int)]) (long + n) b') ⟨e, bo⟩ ?_
              simp -implicitDefEqProofs only [go_sem, simprocAttr]
              exact ⟨⟨by simp -implicitDefEqProofs only [go_sem, simprocAttr, g3], by simp -implicitDefEqProofs only [go_sem, simprocAttr, o3]⟩, ⟨by simp -implicitDefEqProofs only [go_sem, simprocAttr, lg'], true, by simp -implicitDefEqProofs only [go_sem, simprocAttr, lo']⟩⟩
            · rw [if_neg (by simp only [hct]; simp)] at e
              simp -implicitDefEqProofs only [go_sem, simprocAttr, hct, r49, hwr]
              refine nxtL b' ⟨e, hb'⟩ ?_
              simp -implicitDefEqProofs only [go_sem, simprocAttr]
              exact ⟨⟨by simp -implicitDefEqProofs only [go_sem, simprocAttr, g45'], by simp -implicitDefEqProofs only [go_sem, simprocAttr, o45']⟩, ⟨by simp -implicitDefEqProofs only [go_sem, simprocAttr, lg'], fz', by simp -implicitDefEqProofs only [go_sem, simprocAttr, lo']⟩⟩
          · rw [if_neg (by simp [hgo])] at e
            simp -implicitDefEqProofs only [go_sem, simprocAttr, r49, hk', index_map hp.s idx_22 hn rfl, hgo, hwr]
            refine nxtL b' ⟨e, hb'⟩ ?_
            simp -implicitDefEqProofs only [go_sem, simprocAttr]
            exact ⟨⟨by simp -implicitDefEqProofs only [go_sem, simprocAttr, g45'], by simp -implicitDefEqProofs only [go_sem, simprocAttr, o45']⟩, ⟨by simp -implicitDefEqProofs only [go_sem, simprocAttr, lg'], fz', by simp -implicitDefEqProofs only [go_sem, simprocAttr, lo']⟩⟩
      | some y =>
        have hy : ¬ y.2 ≤ long := by simpa [stopB] using hst
        refine ac_intro (nb := 3000) Go.Proofs.Try.func98 rfl (by kernel_rfl) mix (k98 3000) (Nat.le_of_ble_eq_true (by kernel_rfl)) ?_
        refine Abs.walk ?_
        dsimp only [c98, sop, gop, nop, qmv, qsg, qex, qld, qcl, qln, qix, qbo, qt, qi]
        simp -implicitDefEqProofs only [go_sem, simprocAttr, g45, o45, optB, eqV, nilEq, und_22, ne0, hy]
        simp -implicitDefEqProofs only [go_sem, simprocAttr, g45, o45, ls_cells hx.s, lg, lo]
        refine call1 [] false (c74) ?_
        simp -implicitDefEqProofs only [go_sem, simprocAttr, g45, o45, lenV_ls hp.s]
        refine lpL (β := Option (List Int × Int)) 49 [9, 10] 3049 [45, 2070] pl (by omega) (fun ns k b' => onG (c.on pl (wl.map FV.toL)) (c.nd x.toL) list long ns k b' = onG (c.on pl (wl.map FV.toL)) (c.nd x.toL) list long pl 0 (some y) ∧ BOk b') (fun k b' ρ h => ρ 49 = .fv (.int (k : Nat)) ∧ SH c sw sp spl b' h ∧ LH 2070 g list h) (some y) ⟨rfl, hb⟩ ?_ ?_ ?_
        · simp -implicitDefEqProofs only [go_sem, simprocAttr]
          exact ⟨⟨by simp -implicitDefEqProofs only [go_sem, simprocAttr, g45], by simp -implicitDefEqProofs only [go_sem, simprocAttr, o45, optB] <;> rfl⟩, ⟨by simp -implicitDefEqProofs only [go_sem, simprocAttr, lg], fz, by simp -implicitDefEqProofs only [go_sem, simprocAttr, lo]⟩⟩
        · rintro b' ρ h' ⟨e, _⟩ ⟨r49, ⟨g45', o45'⟩, _⟩
          simp only [onG] at e
          simp -implicitDefEqProofs only [go_sem, simprocAttr, r49]
          rw [hon, ← e]
          exact ⟨by simp -implicitDefEqProofs only [go_sem, simprocAttr, g45'], by simp -implicitDefEqProofs only [go_sem, simprocAttr, o45']⟩
        · rintro n ns k b' ρ h' hn hk hm hk' hwr ⟨e, hb'⟩ ⟨r49, ⟨g45', o45'⟩, ⟨lg', fz', lo'⟩⟩
          have hnb := hp.b n hm
          simp only [onG] at e
          by_cases hgo : c.nd x.toL ≤ n
          · simp -implicitDefEqProofs only [go_sem, simprocAttr, r49, hk', index_map hp.s idx_22 hn rfl, hgo]
            refine call0 [] true (t116 (.list false (ints list)) list (k : Int) rfl (by omega)) (by simp -implicitDefEqProofs only [go_sem, simprocAttr, lg', lo']) (.inr rfl) ?_
            cases hct : list.contains (k : Int)
            · rw [if_pos ⟨hgo, hct⟩] at e
              have w1 : IntKind.i64.wrap (long + n) = long + n := wr _ (by omega) (by omega)
              have bo := on_ok c hp.b (wl.map FV.toL) (list ++ [(k : Int)]) (long + n) b' (by omega) (by simp; omega) hb'
              simp -implicitDefEqProofs only [go_sem, simprocAttr, hct]
              refine W_opsD _ _ _ (Vs [[], [], [], [], [2070], [], [3069], [3070], [], [], [], []]) ?_ ?_
              · decide
              simp -implicitDefEqProofs only [go_sem, simprocAttr, Option.elim, hxc1, hxc, hxc2, implies_true, Option.toArray_some, Option.toArray_none, List.append_nil, List.nil_append, Int.le_refl, List.take_length]
              refine callD [2070] false [.fo (.list false (ints list))] [] (t125 (by omega)) ⟨by simp -implicitDefEqProofs only [go_sem, simprocAttr, lg', lo'], trivial⟩ rfl (.inl rfl) ?_
              simp -implicitDefEqProofs only [go_sem, simprocAttr, lg', lo']
              refine app_full idx_22 (by decide) (by simp -implicitDefEqProofs only [go_sem, simprocAttr]; rfl) (by simp) le1 (by simp [FV.cells]) (by simp -implicitDefEqProofs only [go_sem, simprocAttr]) (by simp [byt_3, ints]; omega) (by simp [maxLen, ints]; omega) ?_
              simp -implicitDefEqProofs only [go_sem, simprocAttr, w1]
              refine callIH 4000 [45, 3070] (a98_3 (pl := pl) (list := list ++ [(k : Int)]) (wl := wl) (b := b') (c := c) (sw := sw) (sp := sp) (spl := spl) v ok hp ⟨by simp -implicitDefEqProofs only [go_sem, simprocAttr, g45'], by simp -implicitDefEqProofs only [go_sem, simprocAttr, o45']⟩ hb' (by simp; omega) hwl (by omega) (by omega) (by omega) ⟨by simp -implicitDefEqProofs only [go_sem, simprocAttr], false, by simp -implicitDefEqProofs only [go_sem, simprocAttr, ints, List.map_append]⟩) (ex_SH (by simp -implicitDefEqProofs only [go_sem, simprocAttr, g45']) rfl) ?_
              rintro lv h3 ⟨g3, o3⟩
              simp -implicitDefEqProofs only [go_sem, simprocAttr, Kl_eq, r49, hwr]
              refine nxtL (c.on pl (wl.map FV.toL) (list ++ [(k : Int)]) (long + n) b') ⟨e, bo⟩ ?_
              simp -implicitDefEqProofs only [go_sem, simprocAttr]
              exact ⟨⟨by simp -implicitDefEqProofs only [go_sem, simprocAttr, g3], by simp -implicitDefEqProofs only [go_sem, simprocAttr, o3]⟩, ⟨by simp -implicitDefEqProofs only [go_sem, simprocAttr, lg'], true, by simp -implicitDefEqProofs only [go_sem, simprocAttr, lo']⟩⟩
            · rw [if_neg (by simp only [hct]; simp)] at e
              simp -implicitDefEqProofs only [go_sem, simprocAttr, hct, r49, hwr]
              refine nxtL b' ⟨e, hb'⟩ ?_
              simp -implicitDefEqProofs only [go_sem, simprocAttr]
              exact ⟨⟨by simp -implicitDefEqProofs only [go_sem, simprocAttr, g45'], by simp -implicitDefEqProofs only [go_sem, simprocAttr, o45']⟩, ⟨by simp -implicitDefEqProofs only [go_sem, simprocAttr, lg'], fz', by simp -implicitDefEqProofs only [go_sem, simprocAttr, lo']⟩⟩
          · rw [if_neg (by simp [hgo])] at e
            simp -implicitDefEqProofs only [go_sem, simprocAttr, r49, hk', index_map hp.s idx_22 hn rfl, hgo, hwr]
            refine nxtL b' ⟨e, hb'⟩ ?_
            simp -implicitDefEqProofs only [go_sem, simprocAttr]
            exact ⟨⟨by simp -implicitDefEqProofs only [go_sem, simprocAttr, g45'], by simp -implicitDefEqProofs only [go_sem, simprocAttr, o45']⟩, ⟨by simp -implicitDefEqProofs only [go_sem, simprocAttr, lg'], fz', by simp -implicitDefEqProofs only [go_sem, simprocAttr, lo']⟩⟩
    · obtain ⟨l, m, rfl, hm⟩ := stop_t hst
      have e : c.on pl ((x :: wl).map FV.toL) list long (some (l, m)) = some (l, m) := by simp [Cs.on, hst]
      rw [e]
      refine ac_intro (nb := 3000) Go.Proofs.Try.func98 rfl (by kernel_rfl) mix (k98 3000) (Nat.le_of_ble_eq_true (by kernel_rfl)) ?_
      refine Abs.walk ?_
      dsimp only [c98, sop, gop, nop, qmv, qsg, qex, qld, qcl, qln, qix, qbo, qt, qi]
      simp -implicitDefEqProofs only [go_sem, simprocAttr, g45, o45, optB, eqV, nilEq, und_22, hm]
      exact ⟨g45, o45⟩
theorem a98_1 {c : Cs} {sw sp spl : FV} {pl list : List Int} {wl : List FV} {long : Int} {b : Option (List Int × Int)} {g : Nat} {h : AH} {f : Bool} (v : CV c sw sp) (ok : c.Ok) (hp : PlV spl pl) (H : SH c sw sp spl b h) (hb : BOk b) (ll : list.length = 1) (hw : ∀ x ∈ wl, WV c x x.toL) (wl5 : wl.length ≤ 4)
    (l0 : 0 ≤ long) (l1 : long ≤ 400 * 1) (lh : LH 1070 g list h) : AC Q 98 [.ptr 45 1 0, .fv (.list f wl), .gl 1070 g, .fv (.int long)] h fun lv h' => OffH 2000 [45, 1070] h h' ∧ SH c sw sp spl (c.on pl (wl.map FV.toL) list long b) h' := by
  cases wl with
  | nil => exact a98_1n v hp H (by omega) (by rintro rfl; simp at ll) lh
  | cons x wl =>
    obtain ⟨g45, o45⟩ := H
    obtain ⟨lg, fz, lo⟩ := lh
    have hx := hw x (by simp)
    have hwl : ∀ y ∈ wl, WV c y y.toL := fun y hy => hw y (by simp [hy])
    have hx1 : x.cells.length = 1 := by rw [ls_cells hx.s]; rfl
    have c74 := t74 v ok hx
    have hpl := hp.l
    simp only [List.length_cons] at wl5
    have hxc : ∀ y ∈ x :: wl, y.cells.length = 1 := fun y hy => by rw [ls_cells (hw y hy).s]; rfl
    have hxc1 := eq_true hxc
    have hxc2 : (1 : Int) ≤ ((wl.length + 1 : Nat) : Int) := by omega
    have ne0 : (((wl.length + 1 : Nat) : Int) == 0) = false := by simp; omega
    have le1 : ∀ y ∈ ints list, y.cells.length = 1 := fun y hy => (ints_elem list y hy).1
    cases hst : stopB b long
    · have hon : c.on pl (x.toL :: wl.map FV.toL) list long b = onG (c.on pl (wl.map FV.toL)) (c.nd x.toL) list long pl 0 b := by simp only [Cs.on, hst]; simp
      cases b with
      | none =>
        refine ac_intro (nb := 2000) Go.Proofs.Try.func98 rfl (by kernel_rfl) mix (k98 2000) (Nat.le_of_ble_eq_true (by kernel_rfl)) ?_
        refine Abs.walk ?_
        dsimp only [c98, sop, gop, nop, qmv, qsg, qex, qld, qcl, qln, qix, qbo, qt, qi]
        simp -implicitDefEqProofs only [go_sem, simprocAttr, g45, o45, optB, eqV, nilEq, und_22, ne0]
        simp -implicitDefEqProofs only [go_sem, simprocAttr, g45, o45, ls_cells hx.s, lg, lo]
        refine call1 [] false (c74) ?_
        simp -implicitDefEqProofs only [go_sem, simprocAttr, g45, o45, lenV_ls hp.s]
        refine lpL (β := Option (List Int × Int)) 49 [9, 10] 2049 [45, 1070] pl (by omega) (fun ns k b' => onG (c.on pl (wl.map FV.toL)) (c.nd x.toL) list long ns k b' = onG (c.on pl (wl.map FV.toL)) (c.nd x.toL) list long pl 0 none ∧ BOk b') (fun k b' ρ h => ρ 49 = .fv (.int (k : Nat)) ∧ SH c sw sp spl b' h ∧ LH 1070 g list h) none ⟨rfl, hb⟩ ?_ ?_ ?_
        · simp -implicitDefEqProofs only [go_sem, simprocAttr]
          exact ⟨⟨by simp -implicitDefEqProofs only [go_sem, simprocAttr, g45], by simp -implicitDefEqProofs only [go_sem, simprocAttr, o45, optB] <;> rfl⟩, ⟨by simp -implicitDefEqProofs only [go_sem, simprocAttr, lg], fz, by simp -implicitDefEqProofs only [go_sem, simprocAttr, lo]⟩⟩
        · rintro b' ρ h' ⟨e, _⟩ ⟨r49, ⟨g45', o45'⟩, _⟩
          simp only [onG] at e
          simp -implicitDefEqProofs only [go_sem, simprocAttr, r49]
          rw [hon, ← e]
          exact ⟨by simp -implicitDefEqProofs only [go_sem, simprocAttr, g45'], by simp -implicitDefEqProofs only [go_sem, simprocAttr, o45']⟩
        · rintro n ns k b' ρ h' hn hk hm hk' hwr ⟨e, hb'⟩ ⟨r49, ⟨g45', o45'⟩, ⟨lg', fz', lo'⟩⟩
          have hnb := hp.b n hm
          simp only [onG] at e
          by_cases hgo : c.nd x.toL ≤ n
          · simp -implicitDefEqProofs only [go_sem, simprocAttr, r49, hk', index_map hp.s idx_22 hn rfl, hgo]
            refine call0 [] true (t116 (.list false (ints list)) list (k : Int) rfl (by omega)) (by simp -implicitDefEqProofs only [go_sem, simprocAttr, lg', lo']) (.inr rfl) ?_
            cases hct : list.contains (k : Int)
            · rw [if_pos ⟨hgo, hct⟩] at e
              have w1 : IntKind.i64.wrap (long + n) = long + n := wr _ (by omega) (by omega)
              have bo := on_ok c hp.b (wl.map FV.toL) (list ++ [(k : Int)]) (long + n) b' (by omega) (by simp; omega) hb'
              simp -implicitDefEqProofs only [go_sem, simprocAttr, hct]
              refine W_opsD _ _ _ (Vs [[], [], [], [], [1070], [], [2069], [2070], [], [], [], []]) ?_ ?_
              · decide
              simp -implicitDefEqProofs only [go_sem, simprocAttr, Option.elim, hxc1, hxc, hxc2, implies_true, Option.toArray_some, Option.toArray_none, List.append_nil, List.nil_append, Int.le_refl, List.take_length]
              refine callD [1070] false [.fo (.list false (ints list))] [] (t125 (by omega)) ⟨by simp -implicitDefEqProofs only [go_sem, simprocAttr, lg', lo'], trivial⟩ rfl (.inl rfl) ?_
              simp -implicitDefEqProofs only [go_sem, simprocAttr, lg', lo']
              refine app_full idx_22 (by decide) (by simp -implicitDefEqProofs only [go_sem, simprocAttr]; rfl) (by simp) le1 (by simp [FV.cells]) (by simp -implicitDefEqProofs only [go_sem, simprocAttr]) (by simp [byt_3, ints]; omega) (by simp [maxLen, ints]; omega) ?_
              simp -implicitDefEqProofs only [go_sem, simprocAttr, w1]
              refine callIH 3000 [45, 2070] (a98_2 (pl := pl) (list := list ++ [(k : Int)]) (wl := wl) (b := b') (c := c) (sw := sw) (sp := sp) (spl := spl) v ok hp ⟨by simp -implicitDefEqProofs only [go_sem, simprocAttr, g45'], by simp -implicitDefEqProofs only [go_sem, simprocAttr, o45']⟩ hb' (by simp; omega) hwl (by omega) (by omega) (by omega) ⟨by simp -implicitDefEqProofs only [go_sem, simprocAttr], false, by simp -implicitDefEqProofs only [go_sem, simprocAttr, ints, List.map_append]⟩) (ex_SH (by simp -implicitDefEqProofs only [go_sem, simprocAttr, g45']) rfl) ?_
              rintro lv h3 ⟨g3, o3⟩
              simp -implicitDefEqProofs only [go_sem, simprocAttr, Kl_eq, r49, hwr]
              refine nxtL (c.on pl (wl.map FV.toL) (list ++ [(k : Int)]) (long + n) b') ⟨e, bo⟩ ?_
              simp -implicitDefEqProofs only [go_sem, simprocAttr]
              exact ⟨⟨by simp -implicitDefEqProofs only [go_sem, simprocAttr, g3], by simp -implicitDefEqProofs only [go_sem, simprocAttr, o3]⟩, ⟨by simp -implicitDefEqProofs only [go_sem, simprocAttr, lg'], true, by simp -implicitDefEqProofs only [go_sem, simprocAttr, lo']⟩⟩
            · rw [if_neg (by simp only [hct]; simp)] at e
              simp -implicitDefEqProofs only [go_sem, simprocAttr, hct, r49, hwr]
              refine nxtL b' ⟨e, hb'⟩ ?_
              simp -implicitDefEqProofs only [go_sem, simprocAttr]
              exact ⟨⟨by simp -implicitDefEqProofs only [go_sem, simprocAttr, g45'], by simp -implicitDefEqProofs only [go_sem, simprocAttr, o45']⟩, ⟨by simp -implicitDefEqProofs only [go_sem, simprocAttr, lg'], fz', by simp -implicitDefEqProofs only [go_sem, simprocAttr, lo']⟩⟩
          · rw [if_neg (by simp [hgo])] at e
            simp -implicitDefEqProofs only [go_sem, simprocAttr, r49, hk', index_map hp.s idx_22 hn rfl, hgo, hwr]
            refine nxtL b' ⟨e, hb'⟩ ?_
            simp -implicitDefEqProofs only [go_sem, simprocAttr]
            exact ⟨⟨by simp -implicitDefEqProofs only [go_sem, simprocAttr, g45'], by simp -implicitDefEqProofs only [go_sem, simprocAttr, o45']⟩, ⟨by simp -implicitDefEqProofs only [go_sem, simprocAttr, lg'], fz', by simp -implicitDefEqProofs only [go_sem, simprocAttr, lo']⟩⟩
      | some y =>
        have hy : ¬ y.2 ≤ long := by simpa [stopB] using hst
        refine ac_intro (nb := 2000) Go.Proofs.Try.func98 rfl (by kernel_rfl) mix (k98 2000) (Nat.le_of_ble_eq_true (by kernel_rfl)) ?_
        refine Abs.walk ?_
        dsimp only [c98, sop, gop, nop, qmv, qsg, qex, qld, qcl, qln, qix, qbo, qt, qi]
        simp -implicitDefEqProofs only [go_sem, simprocAttr, g45, o45, optB, eqV, nilEq, und_22, ne0, hy]
        simp -implicitDefEqProofs only [go_sem, simprocAttr, g45, o45, ls_cells hx.s, lg, lo]
        refine call1 [] false (c74) ?_
        simp -implicitDefEqProofs only [go_sem, simprocAttr, g45, o45, lenV_ls hp.s]
        refine lpL (β := Option (List Int × Int)) 49 [9, 10] 2049 [45, 1070] pl (by omega) (fun ns k b' => onG (c.on pl (wl.map FV.toL)) (c.nd x.toL) list long ns k b' = onG (c.on pl (wl.map FV.toL)) (c.nd x.toL) list long pl 0 (some y) ∧ BOk b') (fun k b' ρ h => ρ 49 = .fv (.int (k : Nat)) ∧ SH c sw sp spl b' h ∧ LH 1070 g list h) (some y) ⟨rfl, hb⟩ ?_ ?_ ?_
        · simp -implicitDefEqProofs only [go_sem, simprocAttr]
          exact ⟨⟨by simp -implicitDefEqProofs only [go_sem, simprocAttr, g45], by simp -implicitDefEqProofs only [go_sem, simprocAttr, o45, optB] <;> rfl⟩, ⟨by simp -implicitDefEqProofs only [go_sem, simprocAttr, lg], fz, by simp -implicitDefEqProofs only [go_sem, simprocAttr, lo]⟩⟩
        · rintro b' ρ h' ⟨e, _⟩ ⟨r49, ⟨g45', o45'⟩, _⟩
          simp only [onG] at e
          simp -implicitDefEqProofs only [go_sem, simprocAttr, r49]
          rw [hon, ← e]
          exact ⟨by simp -implicitDefEqProofs only [go_sem, simprocAttr, g45'], by simp -implicitDefEqProofs only [go_sem, simprocAttr, o45']⟩
        · rintro n ns k b' ρ h' hn hk hm hk' hwr ⟨e, hb'⟩ ⟨r49, ⟨g45', o45'⟩, ⟨lg', fz', lo'⟩⟩
          have hnb := hp.b n hm
          simp only [onG] at e
          by_cases hgo : c.nd x.toL ≤ n
          · simp -implicitDefEqProofs only [go_sem, simprocAttr, r49, hk', index_map hp.s idx_22 hn rfl, hgo]
            refine call0 [] true (t116 (.list false (ints list)) list (k : Int) rfl (by omega)) (by simp -implicitDefEqProofs only [go_sem, simprocAttr, lg', lo']) (.inr rfl) ?_
            cases hct : list.contains (k : Int)
            · rw [if_pos ⟨hgo, hct⟩] at e
              have w1 : IntKind.i64.wrap (long + n) = long + n := wr _ (by omega) (by omega)
              have bo := on_ok c hp.b (wl.map FV.toL) (list ++ [(k : Int)]) (long + n) b' (by omega) (by simp; omega) hb'
              simp -implicitDefEqProofs only [go_sem, simprocAttr, hct]
              refine W_opsD _ _ _ (Vs [[], [], [], [], [1070], [], [2069], [2070], [], [], [], []]) ?_ ?_
              · decide
              simp -implicitDefEqProofs only [go_sem, simprocAttr, Option.elim, hxc1, hxc, hxc2, implies_true, Option.toArray_some, Option.toArray_none, List.append_nil, List.nil_append, Int.le_refl, List.take_length]
              refine callD [1070] false [.fo (.list false (ints list))] [] (t125 (by omega)) ⟨by simp -implicitDefEqProofs only [go_sem, simprocAttr, lg', lo'], trivial⟩ rfl (.inl rfl) ?_
              simp -implicitDefEqProofs only [go_sem, simprocAttr, lg', lo']
              refine app_full idx_22 (by decide) (by simp -implicitDefEqProofs only [go_sem, simprocAttr]; rfl) (by simp) le1 (by simp [FV.cells]) (by simp -implicitDefEqProofs only [go_sem, simprocAttr]) (by simp [byt_3, ints]; omega) (by simp [maxLen, ints]; omega) ?_
              simp -implicitDefEqProofs only [go_sem, simprocAttr, w1]
              refine callIH 3000 [45, 2070] (a98_2 (pl := pl) (list := list ++ [(k : Int)]) (wl := wl) (b := b') (c := c) (sw := sw) (sp := sp) (spl := spl) v ok hp ⟨by simp -implicitDefEqProofs only [go_sem, simprocAttr, g45'], by simp -implicitDefEqProofs only [go_sem, simprocAttr, o45']⟩ hb' (by simp; omega) hwl (by omega) (by omega) (by omega) ⟨by simp -implicitDefEqProofs only [go_sem, simprocAttr], false, by simp -implicitDefEqProofs only [go_sem, simprocAttr, ints, List.map_append]⟩) (ex_SH (by simp -implicitDefEqProofs only [go_sem, simprocAttr, g45']) rfl) ?_
              rintro lv h3 ⟨g3, o3⟩
              simp -implicitDefEqProofs only [go_sem, simprocAttr, Kl_eq, r49, hwr]
              refine nxtL (c.on pl (wl.map FV.toL) (list ++ [(k : Int)]) (long + n) b') ⟨e, bo⟩ ?_
              simp -implicitDefEqProofs only [go_sem, simprocAttr]
              exact ⟨⟨by simp -implicitDefEqProofs only [go_sem, simprocAttr, g3], by simp -implicitDefEqProofs only [go_sem, simprocAttr, o3]⟩, ⟨by simp -implicitDefEqProofs only [go_sem, simprocAttr, lg'], true, by simp -implicitDefEqProofs only [go_sem, simprocAttr, lo']⟩⟩
            · rw [if_neg (by simp only [hct]; simp)] at e
              simp -implicitDefEqProofs only [go_sem, simprocAttr, hct, r49, hwr]
              refine nxtL b' ⟨e, hb'⟩ ?_
              simp -implicitDefEqProofs only [go_sem, simprocAttr]
              exact ⟨⟨by simp -implicitDefEqProofs only [go_sem, simprocAttr, g45'], by simp -implicitDefEqProofs only [go_sem, simprocAttr, o45']⟩, ⟨by simp -implicitDefEqProofs only [go_sem, simprocAttr, lg'], fz', by simp -implicitDefEqProofs only [go_sem, simprocAttr, lo']⟩⟩
          · rw [if_neg (by simp [hgo])] at e
            simp -implicitDefEqProofs only [go_sem, simprocAttr, r49, hk', index_map hp.s idx_22 hn rfl, hgo, hwr]
            refine nxtL b' ⟨e, hb'⟩ ?_
            simp -implicitDefEqProofs only [go_sem, simprocAttr]
            exact ⟨⟨by simp -implicitDefEqProofs only [go_sem, simprocAttr, g45'], by simp -implicitDefEqProofs only [go_sem, simprocAttr, o45']⟩, ⟨by simp -implicitDefEqProofs only [go_sem, simprocAttr, lg'], fz', by simp -implicitDefEqProofs only [go_sem, simprocAttr, lo']⟩⟩
    · obtain ⟨l, m, rfl, hm⟩ := stop_t hst
      have e : c.on pl ((x :: wl).map FV.toL) list long (some (l, m)) = some (l, m) := by simp [Cs.on, hst]
      rw [e]
      refine ac_intro (nb := 2000) Go.Proofs.Try.func98 rfl (by kernel_rfl) mix (k98 2000) (Nat.le_of_ble_eq_true (by kernel_rfl)) ?_
      refine Abs.walk ?_
      dsimp only [c98, sop, gop, nop, qmv, qsg, qex, qld, qcl, qln, qix, qbo, qt, qi]
      simp -implicitDefEqProofs only [go_sem, simprocAttr, g45, o45, optB, eqV, nilEq, und_22, hm]
      exact ⟨g45, o45⟩
theorem a98_0 {c : Cs} {sw sp spl : FV} {pl : List Int} {wl : List FV} {h : AH} {f : Bool} (v : CV c sw sp) (ok : c.Ok) (hp : PlV spl pl) (H : SH c sw sp spl none h) (hw : ∀ x ∈ wl, WV c x x.toL) (wl5 : wl.length ≤ 5) (wn : wl ≠ []) :
    AC Q 98 [.ptr 45 1 0, .fv (.list f wl), .fv .nil, .fv (.int 0)] h fun lv h' => OffH 1000 [45] h h' ∧ SH c sw sp spl (c.on pl (wl.map FV.toL) [] 0 none) h' := by
  cases wl with
  | nil => exact absurd rfl wn
  | cons x wl =>
    obtain ⟨g45, o45⟩ := H
    have hx := hw x (by simp)
    have hwl : ∀ y ∈ wl, WV c y y.toL := fun y hy => hw y (by simp [hy])
    have c74 := t74 v ok hx
    have hpl := hp.l
    simp only [List.length_cons] at wl5
    have hxc : ∀ y ∈ x :: wl, y.cells.length = 1 := fun y hy => by rw [ls_cells (hw y hy).s]; rfl
    have hxc1 := eq_true hxc
    have hxc2 : (1 : Int) ≤ ((wl.length + 1 : Nat) : Int) := by omega
    have ne0 : (((wl.length + 1 : Nat) : Int) == 0) = false := by simp; omega
    have hon : c.on pl (x.toL :: wl.map FV.toL) [] 0 none = onG (c.on pl (wl.map FV.toL)) (c.nd x.toL) [] 0 pl 0 none := by simp [Cs.on, stopB]
    refine ac_intro (nb := 1000) Go.Proofs.Try.func98 rfl (by kernel_rfl) mix (k98 1000) (Nat.le_of_ble_eq_true (by kernel_rfl)) ?_
    refine Abs.walk ?_
    dsimp only [c98, sop, gop, nop, qmv, qsg, qex, qld, qcl, qln, qix, qbo, qt, qi]
    simp -implicitDefEqProofs only [go_sem, simprocAttr, g45, o45, optB, eqV, nilEq, und_22, ne0, ls_cells hx.s]
    refine call1 [] false (c74) ?_
    simp -implicitDefEqProofs only [go_sem, simprocAttr, g45, o45, lenV_ls hp.s]
    refine lpL (β := Option (List Int × Int)) 49 [9, 10] 1049 [45] pl (by omega) (fun ns k b' => onG (c.on pl (wl.map FV.toL)) (c.nd x.toL) [] 0 ns k b' = onG (c.on pl (wl.map FV.toL)) (c.nd x.toL) [] 0 pl 0 none ∧ BOk b') (fun k b' ρ h => ρ 49 = .fv (.int (k : Nat)) ∧ SH c sw sp spl b' h) none ⟨rfl, by simp [BOk]⟩ ?_ ?_ ?_
    · simp -implicitDefEqProofs only [go_sem, simprocAttr]
      exact ⟨by simp -implicitDefEqProofs only [go_sem, simprocAttr, g45], by simp -implicitDefEqProofs only [go_sem, simprocAttr, o45, optB] <;> rfl⟩
    · rintro b' ρ h' ⟨e, _⟩ ⟨r49, ⟨g45', o45'⟩⟩
      simp only [onG] at e
      simp -implicitDefEqProofs only [go_sem, simprocAttr, r49]
      rw [hon, ← e]
      exact ⟨by simp -implicitDefEqProofs only [go_sem, simprocAttr, g45'], by simp -implicitDefEqProofs only [go_sem, simprocAttr, o45']⟩
    · rintro n ns k b' ρ h' hn hk hm hk' hwr ⟨e, hb'⟩ ⟨r49, ⟨g45', o45'⟩⟩
      have hnb := hp.b n hm
      simp only [onG] at e
      by_cases hgo : c.nd x.toL ≤ n
      · simp -implicitDefEqProofs only [go_sem, simprocAttr, r49, hk', index_map hp.s idx_22 hn rfl, hgo]
        refine call0 [] true (t116 .nil [] (k : Int) rfl (by simp)) (by simp -implicitDefEqProofs only [go_sem, simprocAttr]) (.inr rfl) ?_
        rw [if_pos ⟨hgo, rfl⟩] at e
        have w1 : IntKind.i64.wrap (0 + n) = 0 + n := wr _ (by omega) (by omega)
        have w2 : IntKind.i64.wrap n = n := wr _ (by omega) (by omega)
        have z0 : (0 : Int) + n = n := by omega
        rw [z0] at e
        have bo := on_ok c hp.b (wl.map FV.toL) ([] ++ [(k : Int)]) n b' (by omega) (by simp; omega) hb'
        simp -implicitDefEqProofs only [go_sem, simprocAttr]
        refine W_opsD _ _ _ (Vs [[], [], [], [], [], [], [1069], [1070], [], [], [], []]) ?_ ?_
        · decide
        simp -implicitDefEqProofs only [go_sem, simprocAttr, Option.elim, hxc1, hxc, hxc2, implies_true, Option.toArray_some, Option.toArray_none, List.append_nil, List.nil_append, Int.le_refl, List.take_length]
        refine callD [] false [.fo .nil] [] t125n ⟨rfl, trivial⟩ rfl (.inl rfl) ?_
        simp -implicitDefEqProofs only [go_sem, simprocAttr]
        refine app_nil idx_22 (by decide) (by simp -implicitDefEqProofs only [go_sem, simprocAttr]; rfl) (by simp [FV.cells]) (by simp -implicitDefEqProofs only [go_sem, simprocAttr]) (by simp [byt_3]) (by simp [maxLen]) ?_
        simp -implicitDefEqProofs only [go_sem, simprocAttr, w1, w2, z0]
        refine callIH 2000 [45, 1070] (a98_1 (pl := pl) (list := [(k : Int)]) (wl := wl) (b := b') (c := c) (sw := sw) (sp := sp) (spl := spl) v ok hp ⟨by simp -implicitDefEqProofs only [go_sem, simprocAttr, g45'], by simp -implicitDefEqProofs only [go_sem, simprocAttr, o45']⟩ hb' rfl hwl (by omega) (by omega) (by omega) ⟨by simp -implicitDefEqProofs only [go_sem, simprocAttr], false, by simp -implicitDefEqProofs only [go_sem, simprocAttr, ints, List.isEmpty]⟩) (ex_SH (by simp -implicitDefEqProofs only [go_sem, simprocAttr, g45']) rfl) ?_
        rintro lv h3 ⟨g3, o3⟩
        simp -implicitDefEqProofs only [go_sem, simprocAttr, Kl_eq, r49, hwr]
        refine nxtL (c.on pl (wl.map FV.toL) [(k : Int)] n b') ⟨e, bo⟩ ?_
        simp -implicitDefEqProofs only [go_sem, simprocAttr]
        exact ⟨by simp -implicitDefEqProofs only [go_sem, simprocAttr, g3], by simp -implicitDefEqProofs only [go_sem, simprocAttr, o3]⟩
      · rw [if_neg (by simp [hgo])] at e
        simp -implicitDefEqProofs only [go_sem, simprocAttr, r49, hk', index_map hp.s idx_22 hn rfl, hgo, hwr]
        refine nxtL b' ⟨e, hb'⟩ ?_
        simp -implicitDefEqProofs only [go_sem, simprocAttr]
        exact ⟨by simp -implicitDefEqProofs only [go_sem, simprocAttr, g45'], by simp -implicitDefEqProofs only [go_sem, simprocAttr, o45']⟩
end S04

