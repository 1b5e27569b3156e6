/- A part of the proof: G04x. -/
import Derived.Test.YtncbkgbdpaibmaaG04v
set_option linter.unusedVariables false
set_option linter.unusedSimpArgs false
set_option maxRecDepth 20000
namespace S04
open Go Abs
theorem t105 {f : Bool} {l : List Int} (hl : l.length ≤ 1000) (hne : l ≠ []) : Fn Q 105 [.fo (.list f (ints l))] (.one (.fx (.list false (ints l)))) := by
  have e2 : ∀ x ∈ ints l, x.cells.length = 1 := fun x hx => (ints_elem l x hx).1
  refine w105 ?_
  dsimp only [c105, sop, gop, nop, qmv, qsg, qex, qld, qcl, qln, qix, qbo, qt, qi]
  simp -implicitDefEqProofs only [go_sem, simprocAttr, eqV, nilEq, und_22]
  refine app_gl (by simp -implicitDefEqProofs only [go_sem, simprocAttr]; rfl) idx_22 (by simp -implicitDefEqProofs only [go_sem, simprocAttr]) e2 (by simp -implicitDefEqProofs only [go_sem, simprocAttr]) (by simp [byt_3, ints]; omega) (by simp [maxLen, ints]; omega) (by simp) ?_
  simp -implicitDefEqProofs only [go_sem, simprocAttr]
  refine ret_fx (fun _ => true) ?_
  simp -implicitDefEqProofs only [go_sem, simprocAttr, List.nil_append]
theorem t125 {f : Bool} {l : List Int} (hl : l.length ≤ 1000) : Fn Q 125 [.fo (.list f (ints l))] (.one (.fx (.list true (ints l)))) := by
  have e2 : ∀ x ∈ ints l, x.cells.length = 1 := fun x hx => (ints_elem l x hx).1
  have e3 : (ints l).take l.length = ints l := List.take_of_length_le (by rw [ints_length]; omega)
  refine w125 ?_
  dsimp only [c125, sop, gop, nop, qmv, qsg, qex, qld, qcl, qln, qix, qbo, qt, qi]
  simp -implicitDefEqProofs only [go_sem, simprocAttr, Option.elim, Int.le_refl, eq_true e2, e3, implies_true]
  exact ret_fv
theorem t125n : Fn Q 125 [.fo .nil] (.one (.fx .nil)) := by
  refine w125 ?_
  dsimp only [c125, sop, gop, nop, qmv, qsg, qex, qld, qcl, qln, qix, qbo, qt, qi]
  simp -implicitDefEqProofs only [go_sem, simprocAttr, Option.elim]
  exact ret_fv
def stopB (b : Option (List Int × Int)) (long : Int) : Bool := match b with | none => false | some x => decide (x.2 ≤ long)
def onG (f : List Int → Int → Option (List Int × Int) → Option (List Int × Int)) (need : Int) (list : List Int) (long : Int) : List Int → Nat → Option (List Int × Int) → Option (List Int × Int)
  | [], _, b => b
  | n :: ns, i, b => onG f need list long ns (i + 1) (if need ≤ n ∧ list.contains (i : Int) = false then f (list ++ [(i : Int)]) (long + n) b else b)
def Cs.on (c : Cs) (pl : List Int) : List (List Int) → List Int → Int → Option (List Int × Int) → Option (List Int × Int)
  | [], list, long, b => if stopB b long then b else some (list, long)
  | w :: ws, list, long, b => if stopB b long then b else onG (c.on pl ws) (c.nd w) list long pl 0 b
@[reducible] def Cs.sc (c : Cs) (sw sp spl : FV) (b : Option (List Int × Int)) : List LV := [.fv sw, .fv sp, .fv (.int c.R), .fv (.int c.L), .fv (.int c.B), .fv (mapV c.M), .fv spl, .fv (optB b).1, .fv (.int (optB b).2)]
def BOk (b : Option (List Int × Int)) : Prop := ∀ x, b = some x → 0 ≤ x.2 ∧ x.2 ≤ 10000
structure PlV (spl : FV) (pl : List Int) : Prop where
  s : lsOf spl = some (ints pl)
  l : pl.length ≤ 6
  b : ∀ x ∈ pl, 1 ≤ x ∧ x ≤ 400
theorem onG_ok {f : List Int → Int → Option (List Int × Int) → Option (List Int × Int)} {need long : Int} {list : List Int} (m : Int) (l0 : 0 ≤ long) (l1 : long ≤ m) (hf : ∀ l lg b, 0 ≤ lg → lg ≤ m + 400 → BOk b → BOk (f l lg b)) : ∀ (ns : List Int) (i : Nat) (b : Option (List Int × Int)), (∀ x ∈ ns, 1 ≤ x ∧ x ≤ 400) → BOk b → BOk (onG f need list long ns i b)
  | [], i, b, _, hb => hb
  | n :: ns, i, b, hn, hb => by
    refine onG_ok m l0 l1 hf ns (i + 1) _ (fun x hx => hn x (by simp [hx])) ?_
    have := hn n (by simp)
    split
    · exact hf _ _ _ (by omega) (by omega) hb
    · exact hb
theorem on_ok (c : Cs) {pl : List Int} (hp : ∀ x ∈ pl, 1 ≤ x ∧ x ≤ 400) : ∀ (ws : List (List Int)) (list : List Int) (long : Int) (b : Option (List Int × Int)), 0 ≤ long → long + 400 * ws.length ≤ 10000 → BOk b → BOk (c.on pl ws list long b)
  | [], list, long, b, h0, h1, hb => by
    unfold Cs.on
    split
    · exact hb
    · intro x hx
      simp only [Option.some.injEq] at hx
      subst hx
      simp at h1
      exact ⟨h0, h1⟩
  | w :: ws, list, long, b, h0, h1, hb => by
    unfold Cs.on
    split
    · exact hb
    · simp only [List.length_cons, Int.natCast_add, Int.natCast_one] at h1
      refine onG_ok long h0 (Int.le_refl _) (fun l lg b' g0 g1 hb' => on_ok c hp ws l lg b' g0 (by omega) hb') pl 0 b hp hb
structure SH (c : Cs) (sw sp spl : FV) (b : Option (List Int × Int)) (h : AH) : Prop where
  g : h.gen 45 = 1
  o : h.obj 45 = some (.box (c.sc sw sp spl b))
theorem stop_t {b : Option (List Int × Int)} {long : Int} (h : stopB b long = true) : ∃ l m, b = some (l, m) ∧ m ≤ long := by
  cases b with
  | none => simp [stopB] at h
  | some x => exact ⟨x.1, x.2, rfl, by simpa [stopB] using h⟩
theorem ex_SH {c : Cs} {sw sp spl : FV} {b : Option (List Int × Int)} {n : Nat} {l : List Nat} {h : AH} (g : h.gen 45 = 1) (hm : (decide (n ≤ 45) || l.contains 45) = true) : ∃ (lv : LV) (h' : AH), OffH n l h h' ∧ SH c sw sp spl b h' :=
  ⟨.undef, h.set 45 (.box (c.sc sw sp spl b)), by rw [offH_set n l h h 45 _ hm]; exact fun _ _ => ⟨rfl, rfl⟩, g, by simp [AH.set, upd]⟩
structure LH (N g : Nat) (list : List Int) (h : AH) : Prop where
  g : h.gen N = g
  o : ∃ fz, h.obj N = some (.list 3 1 fz false (ints list))
theorem a98_5n {c : Cs} {sw sp spl : FV} {pl list : List Int} {long : Int} {b : Option (List Int × Int)} {g : Nat} {h : AH} {f : Bool} (v : CV c sw sp) (hp : PlV spl pl) (H : SH c sw sp spl b h) (ll : list.length ≤ 100) (hne : list ≠ [])
    (lh : LH 5070 g list h) : AC Q 98 [.ptr 45 1 0, .fv (.list f []), .gl 5070 g, .fv (.int long)] h fun lv h' => OffH 6000 [45, 5070] h h' ∧ SH c sw sp spl (c.on pl [] list long b) h' := by
  obtain ⟨g45, o45⟩ := H
  obtain ⟨lg, fz, lo⟩ := lh
  cases hst : stopB b long
  · have e : c.on pl [] list long b = some (list, long) := by simp [Cs.on, hst]
    rw [e]
    cases b with
    | none =>
      refine ac_intro (nb := 6000) Go.Proofs.Try.func98 rfl (by kernel_rfl) mix (k98 6000) (Nat.le_of_ble_eq_true (by kernel_rfl)) ?_
      refine Abs.walk ?_
      dsimp only [c98, sop, gop, nop, qmv, qsg, qex, qld, qcl, qln, qix, qbo, qt, qi]
      simp -implicitDefEqProofs only [go_sem, simprocAttr, g45, o45, optB, eqV, nilEq, und_22]
      refine call0 [5070] false (t105 (f := false) (l := list) (by omega) hne) (by simp -implicitDefEqProofs only [go_sem, simprocAttr, lg, lo]) (.inl rfl) ?_
      simp -implicitDefEqProofs only [go_sem, simprocAttr, g45, o45, lg, lo]
      exact ⟨by simp -implicitDefEqProofs only [go_sem, simprocAttr, g45], by simp -implicitDefEqProofs only [go_sem, simprocAttr, optB]; rfl⟩
    | some x =>
      have hx : ¬ x.2 ≤ long := by simpa [stopB] using hst
      refine ac_intro (nb := 6000) Go.Proofs.Try.func98 rfl (by kernel_rfl) mix (k98 6000) (Nat.le_of_ble_eq_true (by kernel_rfl)) ?_
      refine Abs.walk ?_
      dsimp only [c98, sop, gop, nop, qmv, qsg, qex, qld, qcl, qln, qix, qbo, qt, qi]
      simp -implicitDefEqProofs only [go_sem, simprocAttr, g45, o45, optB, eqV, nilEq, und_22, hx]
      refine call0 [5070] false (t105 (f := false) (l := list) (by omega) hne) (by simp -implicitDefEqProofs only [go_sem, simprocAttr, lg, lo]) (.inl rfl) ?_
      simp -implicitDefEqProofs only [go_sem, simprocAttr, g45, o45, lg, lo]
      exact ⟨by simp -implicitDefEqProofs only [go_sem, simprocAttr, g45], by simp -implicitDefEqProofs only [go_sem, simprocAttr, optB]; rfl⟩
  · obtain ⟨l, m, rfl, hm⟩ := stop_t hst
    have e : c.on pl [] list long (some (l, m)) = some (l, m) := by simp [Cs.on, hst]
    rw [e]
    refine ac_intro (nb := 6000) Go.Proofs.Try.func98 rfl (by kernel_rfl) mix (k98 6000) (Nat.le_of_ble_eq_true (by kernel_rfl)) ?_
    refine Abs.walk ?_
    dsimp only [c98, sop, gop, nop, qmv, qsg, qex, qld, qcl, qln, qix, qbo, qt, qi]
    simp -implicitDefEqProofs only [go_sem, simprocAttr, g45, o45, optB, eqV, nilEq, und_22, hm]
    exact ⟨g45, o45⟩
theorem a98_4n {c : Cs} {sw sp spl : FV} {pl list : List Int} {long : Int} {b : Option (List Int × Int)} {g : Nat} {h : AH} {f : Bool} (v : CV c sw sp) (hp : PlV spl pl) (H : SH c sw sp spl b h) (ll : list.length ≤ 100) (hne : list ≠ [])
    (lh : LH 4070 g list h) : AC Q 98 [.ptr 45 1 0, .fv (.list f []), .gl 4070 g, .fv (.int long)] h fun lv h' => OffH 5000 [45, 4070] h h' ∧ SH c sw sp spl (c.on pl [] list long b) h' := by
  obtain ⟨g45, o45⟩ := H
  obtain ⟨lg, fz, lo⟩ := lh
  cases hst : stopB b long
  · have e : c.on pl [] list long b = some (list, long) := by simp [Cs.on, hst]
    rw [e]
    cases b with
    | none =>
      refine ac_intro (nb := 5000) Go.Proofs.Try.func98 rfl (by kernel_rfl) mix (k98 5000) (Nat.le_of_ble_eq_true (by kernel_rfl)) ?_
      refine Abs.walk ?_
      dsimp only [c98, sop, gop, nop, qmv, qsg, qex, qld, qcl, qln, qix, qbo, qt, qi]
      simp -implicitDefEqProofs only [go_sem, simprocAttr, g45, o45, optB, eqV, nilEq, und_22]
      refine call0 [4070] false (t105 (f := false) (l := list) (by omega) hne) (by simp -implicitDefEqProofs only [go_sem, simprocAttr, lg, lo]) (.inl rfl) ?_
      simp -implicitDefEqProofs only [go_sem, simprocAttr, g45, o45, lg, lo]
      exact ⟨by simp -implicitDefEqProofs only [go_sem, simprocAttr, g45], by simp -implicitDefEqProofs only [go_sem, simprocAttr, optB]; rfl⟩
    | some x =>
      have hx : ¬ x.2 ≤ long := by simpa [stopB] using hst
      refine ac_intro (nb := 5000) Go.Proofs.Try.func98 rfl (by kernel_rfl) mix (k98 5000) (Nat.le_of_ble_eq_true (by kernel_rfl)) ?_
      refine Abs.walk ?_
      dsimp only [c98, sop, gop, nop, qmv, qsg, qex, qld, qcl, qln, qix, qbo, qt, qi]
      simp -implicitDefEqProofs only [go_sem, simprocAttr, g45, o45, optB, eqV, nilEq, und_22, hx]
      refine call0 [4070] false (t105 (f := false) (l := list) (by omega) hne) (by simp -implicitDefEqProofs only [go_sem, simprocAttr, lg, lo]) (.inl rfl) ?_
      simp -implicitDefEqProofs only [go_sem, simprocAttr, g45, o45, lg, lo]
      exact ⟨by simp -implicitDefEqProofs only [go_sem, simprocAttr, g45], by simp -implicitDefEqProofs only [go_sem, simprocAttr, optB]; rfl⟩
  · obtain ⟨l, m, rfl, hm⟩ := stop_t hst
    have e : c.on pl [] list long (some (l, m)) = some (l, m) := by simp [Cs.on, hst]
    rw [e]
    refine ac_intro (nb := 5000) Go.Proofs.Try.func98 rfl (by kernel_rfl) mix (k98 5000) (Nat.le_of_ble_eq_true (by kernel_rfl)) ?_
    refine Abs.walk ?_
    dsimp only [c98, sop, gop, nop, qmv, qsg, qex, qld, qcl, qln, qix, qbo, qt, qi]
    simp -implicitDefEqProofs only [go_sem, simprocAttr, g45, o45, optB, eqV, nilEq, und_22, hm]
    exact ⟨g45, o45⟩
theorem a98_3n {c : Cs} {sw sp spl : FV} {pl list : List Int} {long : Int} {b : Option (List Int × Int)} {g : Nat} {h : AH} {f : Bool} (v : CV c sw sp) (hp : PlV spl pl) (H : SH c sw sp spl b h) (ll : list.length ≤ 100) (hne : list ≠ [])
    (lh : LH 3070 g list h) : AC Q 98 [.ptr 45 1 0, .fv (.list f []), .gl 3070 g, .fv (.int long)] h fun lv h' => OffH 4000 [45, 3070] h h' ∧ SH c sw sp spl (c.on pl [] list long b) h' := by
  obtain ⟨g45, o45⟩ := H
  obtain ⟨lg, fz, lo⟩ := lh
  cases hst : stopB b long
  · have e : c.on pl [] list long b = some (list, long) := by simp [Cs.on, hst]
    rw [e]
    cases b with
    | none =>
      refine ac_intro (nb := 4000) Go.Proofs.Try.func98 rfl (by kernel_rfl) mix (k98 4000) (Nat.le_of_ble_eq_true (by kernel_rfl)) ?_
      refine Abs.walk ?_
      dsimp only [c98, sop, gop, nop, qmv, qsg, qex, qld, qcl, qln, qix, qbo, qt, qi]
      simp -implicitDefEqProofs only [go_sem, simprocAttr, g45, o45, optB, eqV, nilEq, und_22]
      refine call0 [3070] false (t105 (f := false) (l := list) (by omega) hne) (by simp -implicitDefEqProofs only [go_sem, simprocAttr, lg, lo]) (.inl rfl) ?_
      simp -implicitDefEqProofs only [go_sem, simprocAttr, g45, o45, lg, lo]
      exact ⟨by simp -implicitDefEqProofs only [go_sem, simprocAttr, g45], by simp -implicitDefEqProofs only [go_sem, simprocAttr, optB]; rfl⟩
    | some x =>
      have hx : ¬ x.2 ≤ long := by simpa [stopB] using hst
      refine ac_intro (nb := 4000) Go.Proofs.Try.func98 rfl (by kernel_rfl) mix (k98 4000) (Nat.le_of_ble_eq_true (by kernel_rfl)) ?_
      refine Abs.walk ?_
      dsimp only [c98, sop, gop, nop, qmv, qsg, qex, qld, qcl, qln, qix, qbo, qt, qi]
      simp -implicitDefEqProofs only [go_sem, simprocAttr, g45, o45, optB, eqV, nilEq, und_22, hx]
      refine call0 [3070] false (t105 (f := false) (l := list) (by omega) hne) (by simp -implicitDefEqProofs only [go_sem, simprocAttr, lg, lo]) (.inl rfl) ?_
      simp -implicitDefEqProofs only [go_sem, simprocAttr, g45, o45, lg, lo]
      exact ⟨by simp -implicitDefEqProofs only [go_sem, simprocAttr, g45], by simp -implicitDefEqProofs only [go_sem, simprocAttr, optB]; rfl⟩
  · obtain ⟨l, m, rfl, hm⟩ := stop_t hst
    have e : c.on pl [] list long (some (l, m)) = some (l, m) := by simp [Cs.on, hst]
    rw [e]
    refine ac_intro (nb := 4000) Go.Proofs.Try.func98 rfl (by kernel_rfl) mix (k98 4000) (Nat.le_of_ble_eq_true (by kernel_rfl)) ?_
    refine Abs.walk ?_
    dsimp only [c98, sop, gop, nop, qmv, qsg, qex, qld, qcl, qln, qix, qbo, qt, qi]
    simp -implicitDefEqProofs only [go_sem, simprocAttr, g45, o45, optB, eqV, nilEq, und_22, hm]
    exact ⟨g45, o45⟩
theorem a98_2n {c : Cs} {sw sp spl : FV} {pl list : List Int} {long : Int} {b : Option (List Int × Int)} {g : Nat} {h : AH} {f : Bool} (v : CV c sw sp) (hp : PlV spl pl) (H : SH c sw sp spl b h) (ll : list.length ≤ 100) (hne : list ≠ [])
    (lh : LH 2070 g list h) : AC Q 98 [.ptr 45 1 0, .fv (.list f []), .gl 2070 g, .fv (.int long)] h fun lv h' => OffH 3000 [45, 2070] h h' ∧ SH c sw sp spl (c.on pl [] list long b) h' := by
  obtain ⟨g45, o45⟩ := H
  obtain ⟨lg, fz, lo⟩ := lh
  cases hst : stopB b long
  · have e : c.on pl [] list long b = some (list, long) := by simp [Cs.on, hst]
    rw [e]
    cases b with
    | none =>
      refine ac_intro (nb := 3000) Go.Proofs.Try.func98 rfl (by kernel_rfl) mix (k98 3000) (Nat.le_of_ble_eq_true (by kernel_rfl)) ?_
      refine Abs.walk ?_
      dsimp only [c98, sop, gop, nop, qmv, qsg, qex, qld, qcl, qln, qix, qbo, qt, qi]
      simp -implicitDefEqProofs only [go_sem, simprocAttr, g45, o45, optB, eqV, nilEq, und_22]
      refine call0 [2070] false (t105 (f := false) (l := list) (by omega) hne) (by simp -implicitDefEqProofs only [go_sem, simprocAttr, lg, lo]) (.inl rfl) ?_
      simp -implicitDefEqProofs only [go_sem, simprocAttr, g45, o45, lg, lo]
      exact ⟨by simp -implicitDefEqProofs only [go_sem, simprocAttr, g45], by simp -implicitDefEqProofs only [go_sem, simprocAttr, optB]; rfl⟩
    | some x =>
      have hx : ¬ x.2 ≤ long := by simpa [stopB] using hst
      refine ac_intro (nb := 3000) Go.Proofs.Try.func98 rfl (by kernel_rfl) mix (k98 3000) (Nat.le_of_ble_eq_true (by kernel_rfl)) ?_
      refine Abs.walk ?_
      dsimp only [c98, sop, gop, nop, qmv, qsg, qex, qld, qcl, qln, qix, qbo, qt, qi]
      simp -implicitDefEqProofs only [go_sem, simprocAttr, g45, o45, optB, eqV, nilEq, und_22, hx]
      refine call0 [2070] false (t105 (f := false) (l := list) (by omega) hne) (by simp -implicitDefEqProofs only [go_sem, simprocAttr, lg, lo]) (.inl rfl) ?_
      simp -implicitDefEqProofs only [go_sem, simprocAttr, g45, o45, lg, lo]
      exact ⟨by simp -implicitDefEqProofs only [go_sem, simprocAttr, g45], by simp -implicitDefEqProofs only [go_sem, simprocAttr, optB]; rfl⟩
  · obtain ⟨l, m, rfl, hm⟩ := stop_t hst
    have e : c.on pl [] list long (some (l, m)) = some (l, m) := by simp [Cs.on, hst]
    rw [e]
    refine ac_intro (nb := 3000) Go.Proofs.Try.func98 rfl (by kernel_rfl) mix (k98 3000) (Nat.le_of_ble_eq_true (by kernel_rfl)) ?_
    refine Abs.walk ?_
    dsimp only [c98, sop, gop, nop, qmv, qsg, qex, qld, qcl, qln, qix, qbo, qt, qi]
    simp -implicitDefEqProofs only [go_sem, simprocAttr, g45, o45, optB, eqV, nilEq, und_22, hm]
    exact ⟨g45, o45⟩
theorem a98_1n {c : Cs} {sw sp spl : FV} {pl list : List Int} {long : Int} {b : Option (List Int × Int)} {g : Nat} {h : AH} {f : Bool} (v : CV c sw sp) (hp : PlV spl pl) (H : SH c sw sp spl b h) (ll : list.length ≤ 100) (hne : list ≠ [])
    (lh : LH 1070 g list h) : AC Q 98 [.ptr 45 1 0, .fv (.list f []), .gl 1070 g, .fv (.int long)] h fun lv h' => OffH 2000 [45, 1070] h h' ∧ SH c sw sp spl (c.on pl [] list long b) h' := by
  obtain ⟨g45, o45⟩ := H
  obtain ⟨lg, fz, lo⟩ := lh
  cases hst : stopB b long
  · have e : c.on pl [] list long b = some (list, long) := by simp [Cs.on, hst]
    rw [e]
    cases b with
    | none =>
      refine ac_intro (nb := 2000) Go.Proofs.Try.func98 rfl (by kernel_rfl) mix (k98 2000) (Nat.le_of_ble_eq_true (by kernel_rfl)) ?_
      refine Abs.walk ?_
      dsimp only [c98, sop, gop, nop, qmv, qsg, qex, qld, qcl, qln, qix, qbo, qt, qi]
      simp -implicitDefEqProofs only [go_sem, simprocAttr, g45, o45, optB, eqV, nilEq, und_22]
      refine call0 [1070] false (t105 (f := false) (l := list) (by omega) hne) (by simp -implicitDefEqProofs only [go_sem, simprocAttr, lg, lo]) (.inl rfl) ?_
      simp -implicitDefEqProofs only [go_sem, simprocAttr, g45, o45, lg, lo]
      exact ⟨by simp -implicitDefEqProofs only [go_sem, simprocAttr, g45], by simp -implicitDefEqProofs only [go_sem, simprocAttr, optB]; rfl⟩
    | some x =>
      have hx : ¬ x.2 ≤ long := by simpa [stopB] using hst
      refine ac_intro (nb := 2000) Go.Proofs.Try.func98 rfl (by kernel_rfl) mix (k98 2000) (Nat.le_of_ble_eq_true (by kernel_rfl)) ?_
      refine Abs.walk ?_
      dsimp only [c98, sop, gop, nop, qmv, qsg, qex, qld, qcl, qln, qix, qbo, qt, qi]
      simp -implicitDefEqProofs only [go_sem, simprocAttr, g45, o45, optB, eqV, nilEq, und_22, hx]
      refine call0 [1070] false (t105 (f := false) (l := list) (by omega) hne) (by simp -implicitDefEqProofs only [go_sem, simprocAttr, lg, lo]) (.inl rfl) ?_
      simp -implicitDefEqProofs only [go_sem, simprocAttr, g45, o45, lg, lo]
      exact ⟨by simp -implicitDefEqProofs only [go_sem, simprocAttr, g45], by simp -implicitDefEqProofs only [go_sem, simprocAttr, optB]; rfl⟩
  · obtain ⟨l, m, rfl, hm⟩ := stop_t hst
    have e : c.on pl [] list long (some (l, m)) = some (l, m) := by simp [Cs.on, hst]
    rw [e]
    refine ac_intro (nb := 2000) Go.Proofs.Try.func98 rfl (by kernel_rfl) mix (k98 2000) (Nat.le_of_ble_eq_true (by kernel_rfl)) ?_
    refine Abs.walk ?_
    dsimp only [c98, sop, gop, nop, qmv, qsg, qex, qld, qcl, qln, qix, qbo, qt, qi]
    simp -implicitDefEqProofs only [go_sem, simprocAttr, g45, o45, optB, eqV, nilEq, und_22, hm]
    exact ⟨g45, o45⟩
theorem a98_5 {c : Cs} {sw sp spl : FV} {pl list : List Int} {wl : List FV} {long : Int} {b : Option (List Int × Int)} {g : Nat} {h : AH} {f : Bool} (v : CV c sw sp) (ok : c.Ok) (hp : PlV spl pl) (H : SH c sw sp spl b h) (hb : BOk b) (ll : list.length = 5) (hw : ∀ x ∈ wl, WV c x x.toL) (wl5 : wl.length ≤ 0)
    (l0 : 0 ≤ long) (l1 : long ≤ 400 * 5) (lh : LH 5070 g list h) : AC Q 98 [.ptr 45 1 0, .fv (.list f wl), .gl 5070 g, .fv (.int long)] h fun lv h' => OffH 6000 [45, 5070] h h' ∧ SH c sw sp spl (c.on pl (wl.map FV.toL) list long b) h' := by
  obtain rfl : wl = [] := by cases wl <;> simp_all
  exact a98_5n v hp H (by omega) (by rintro rfl; simp at ll) lh
end S04

