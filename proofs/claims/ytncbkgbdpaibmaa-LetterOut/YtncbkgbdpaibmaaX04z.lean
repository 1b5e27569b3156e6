/- A part of the proof: X04z. -/
import Derived.Test.YtncbkgbdpaibmaaP04o
import Derived.Test.YtncbkgbdpaibmaaX04u
import Derived.Test.YtncbkgbdpaibmaaC04h0
set_option linter.unusedVariables false
set_option linter.unusedSimpArgs false
set_option maxRecDepth 20000
namespace S04
open Go Abs
theorem sh_ints (l : List Int) : (RV.one (.own 3 1 false (ints l))).shallow = true := by simp [RV.shallow, RC.shallow, ints, FV.shallow]
theorem t59 {s : FV} {w y : List Int} {g : List FV → Option FV} (hs : lsOf s = some (ints w)) (hl : w.length ≤ 1000) (hg : ∀ i : Nat, i < w.length → g [.int (i : Nat)] = some (.bool (y.contains (i : Int)))) : Fn Q 59 [.fn g, .fo (.ptr [s])] (.one (.own 3 1 false (ints (woF y w 0)))) := by
  refine w59 ?_
  dsimp only [c59, sop, gop, nop, qmv, qsg, qex, qld, qcl, qln, qix, qbo, qt, qi]
  simp -implicitDefEqProofs only [go_sem, simprocAttr]
  refine lpL (β := Unit) 7 [4, 5] 7 [6] w (by omega) (fun _ _ _ => True) (fun k _ ρ h => ρ 5 = .fv (.int (k : Nat)) ∧ ρ 4 = .gl 6 (h.gen 6) ∧ h.gen 6 ≠ 0 ∧ h.obj 6 = some (.list 3 1 false false (ints (woF y (w.take k) 0)))) () trivial ?_ ?_ ?_
  · simp -implicitDefEqProofs only [go_sem, simprocAttr, List.take_zero, woF, ints]
  · rintro _ ρ h _ ⟨r5, r4, g6, o6⟩
    rw [List.take_of_length_le (by omega)] at o6
    have nl : ¬ ((w.length : Int) < (w.length : Nat)) := by omega
    simp -implicitDefEqProofs only [go_sem, simprocAttr, r5, lenV_ls hs, ints_length, nl, r4, o6]
    exact ret_own (by simp -implicitDefEqProofs only [go_sem, simprocAttr, r4, g6]) (by simp -implicitDefEqProofs only [go_sem, simprocAttr, r4, o6])
  · rintro x xs k _ ρ h hx hk hm hk' hwk _ ⟨r5, r4, g6, o6⟩
    have es := woF_snoc y x (w.take k) 0
    have wl := (woF_mem (pl := y) (w.take k) 0).2
    rw [List.length_take] at wl
    rw [Nat.zero_add, show (w.take k).length = k by simp; omega] at es
    have et : w.take (k + 1) = w.take k ++ [x] := by rw [List.take_add_one, hx]; rfl
    rw [← et] at es
    simp -implicitDefEqProofs only [go_sem, simprocAttr, r5, lenV_ls hs, ints_length, hk']
    refine callG false [.int (k : Nat)] (by rfl) (hg k hk) (.inl rfl) ?_
    cases hc : y.contains (k : Int) with
    | true =>
      rw [hc, if_pos rfl, List.append_nil] at es
      simp -implicitDefEqProofs only [go_sem, simprocAttr, r5, hwk]
      refine nxtL (I := fun _ _ _ => True) () trivial ?_
      simp -implicitDefEqProofs only [go_sem, simprocAttr, r4, g6, o6, es]
    | false =>
      rw [hc, if_neg (by simp)] at es
      simp -implicitDefEqProofs only [go_sem, simprocAttr, r5, r4, index_map hs idx_22 hx rfl]
      refine app_gl (by simp -implicitDefEqProofs only [go_sem, simprocAttr, o6]; rfl) idx_22 (by simp -implicitDefEqProofs only [go_sem, simprocAttr]; rfl) (by simp [FV.cells]) (by simp -implicitDefEqProofs only [go_sem, simprocAttr]) (by simp [byt_3, ints]; omega) (by simp [maxLen, ints]; omega) (by simp) ?_
      simp -implicitDefEqProofs only [go_sem, simprocAttr, r5, hwk]
      refine nxtL (I := fun _ _ _ => True) () trivial ?_
      simp -implicitDefEqProofs only [go_sem, simprocAttr, es, ints, List.map_append, List.map_cons, List.map_nil]
theorem t60 {s : FV} {out : List Int} {i : Int} (hs : lsOf s = some (ints out)) (hl : out.length ≤ 1000) : Fn Q 60 [.fo (.int i), .fo (.ptr [s])] (.one (.fx (.bool (out.contains i)))) := by
  refine w60 ?_
  dsimp only [c60, sop, gop, nop, qmv, qsg, qex, qld, qcl, qln, qix, qbo, qt, qi]
  simp -implicitDefEqProofs only [go_sem, simprocAttr]
  refine call1 [] false (t61 hs (by omega)) ?_
  simp -implicitDefEqProofs only [go_sem, simprocAttr]
  exact ret_fv
theorem t62 {s : FV} {out : List Int} {i z : Int} {k : Nat} (hs : lsOf s = some (ints out)) (hl : out.length ≤ 1000) (hp : out.Pairwise (· < ·)) (hk : out[k]? = some z) : Fn Q 62 [.fo (.int i), .fo (.ptr [s]), .fo (.ptr [.int (k : Nat)])] (.one (.fx (.bool ((out.eraseIdx k).contains i)))) := by
  have e := erase_contains hp hk i
  refine w62 ?_
  dsimp only [c62, sop, gop, nop, qmv, qsg, qex, qld, qcl, qln, qix, qbo, qt, qi]
  simp -implicitDefEqProofs only [go_sem, simprocAttr]
  refine call1 [] false (t61 hs (by omega)) ?_
  cases hc : out.contains i with
  | false =>
    rw [hc, Bool.false_and] at e
    simp -implicitDefEqProofs only [go_sem, simprocAttr]
    exact ret_eq (by rw [e])
  | true =>
    rw [hc, Bool.true_and] at e
    by_cases ez : i = z
    · have ez' : (i != z) = false := by simp [ez]
      simp -implicitDefEqProofs only [go_sem, simprocAttr, index_map hs idx_22 hk rfl, ez']
      exact ret_eq (by rw [e, decide_eq_false (by simp [ez])])
    · have ez' : (i != z) = true := by simpa using ez
      simp -implicitDefEqProofs only [go_sem, simprocAttr, index_map hs idx_22 hk rfl, ez']
      exact ret_eq (by rw [e, decide_eq_true (by intro h; exact ez h.symm)])
theorem t63 {sw so : FV} {w out : List Int} {f i : Nat} (hw : lsOf sw = some (ints w)) (ho : lsOf so = some (ints out)) (wl : w.length ≤ 7) (ol : out.length ≤ w.length) (o1 : 1 ≤ out.length) (hf : f < w.length) (hi : i < w.length) : Fn Q 63 [.fo (.int (i : Nat)), .fo (.ptr [.int (f : Nat)]), .fo (.ptr [sw]), .fo (.ptr [so])] (.one (.fx (.bool ((rotF w.length f (out.length - 1)).contains (i : Int))))) := by
  have w1 : IntKind.i64.wrap ((i : Int) - (f : Nat)) = (i : Int) - (f : Nat) := wr _ (by omega) (by omega)
  have w2 : IntKind.i64.wrap ((i : Int) - (f : Nat) + (w.length : Nat)) = (i : Int) - (f : Nat) + (w.length : Nat) := wr _ (by omega) (by omega)
  have w3 : IntKind.i64.wrap ((out.length : Int) - 1) = ((out.length - 1 : Nat) : Int) := by rw [wr _ (by omega) (by omega)]; omega
  have z : ¬ ((w.length : Int) = 0) := by omega
  have e : (rotF w.length f (out.length - 1)).contains (i : Int) = decide (((i : Int) - (f : Nat) + (w.length : Nat)).tmod (w.length : Nat) < ((out.length - 1 : Nat) : Int)) := by
    unfold rotF
    rw [Bool.eq_iff_iff]
    simp only [List.contains_eq_mem, decide_eq_true_eq, List.mem_filter]
    constructor
    · exact fun h => h.2
    · exact fun h => ⟨numF_mem.2 (by omega), h⟩
  refine w63 ?_
  dsimp only [c63, sop, gop, nop, qmv, qsg, qex, qld, qcl, qln, qix, qbo, qt, qi]
  simp -implicitDefEqProofs only [go_sem, simprocAttr, lenV_ls hw, lenV_ls ho, ints_length, w1, w2, w3, z]
  exact ret_eq (by rw [e])
def Own (c : Cs) (lv : LV) (h : AH) : Prop := lv = .agg [.gl 1005 (h.gen 1005), .gl 1006 (h.gen 1006), .fv (.int c.R), .fv (.int c.L), .fv (.int c.B)] ∧ h.obj 1005 = some (.list 3 1 false false (ints c.W)) ∧ h.obj 1006 = some (.list 108 3 false false (c.P.map tF))
theorem ex_own (c : Cs) (h : AH) : ∃ (lv : LV) (h' : AH), OffH 1000 [] h h' ∧ Own c lv h' :=
  ⟨_, (h.set 1005 (.list 3 1 false false (ints c.W))).set 1006 (.list 108 3 false false (c.P.map tF)), by rw [offH_set 1000 [] h _ 1006 _ rfl, offH_set 1000 [] h h 1005 _ rfl]; exact fun _ _ => ⟨rfl, rfl⟩, rfl, by simp [AH.set, upd], by simp [AH.set, upd]⟩
theorem a52 {c : Cs} {sw sp : FV} {h : AH} (v : CV c sw sp) (lW : c.W.length ≤ 1000) (lP : c.P.length ≤ 1000) (hne : c.W ≠ []) : AC Q 52 [.fv (c.fv sw sp)] h fun lv h' => OffH 1000 [] h h' ∧ Own c lv h' := by
  have o1 := ls_one v.w
  have o2 := ls_one v.p
  have c53 := t53o v.w (by omega) hne
  obtain ⟨hw, hp, _, _⟩ := v
  rcases ls_cases hp with ⟨f', rfl⟩ | ⟨rfl, e2⟩
  · refine ac_intro (nb := 1000) Go.Proofs.Try.func52 rfl (by kernel_rfl) mix (k52 1000) (Nat.le_of_ble_eq_true (by kernel_rfl)) ?_
    refine Abs.walk ?_
    dsimp only [c52, sop, gop, nop, qmv, qsg, qex, qld, qcl, qln, qix, qbo, qt, qi]
    simp -implicitDefEqProofs only [go_sem, simprocAttr, o1, o2]
    refine W_opsD _ _ _ (Vs [[], [], [1005], [1006], [], [], [1006], [], [1001], [], [1001]]) ?_ ?_
    · decide
    simp -implicitDefEqProofs only [go_sem, simprocAttr, o1, o2]
    refine callD [] false [.fo sw] [] c53 ⟨rfl, trivial⟩ rfl (.inl rfl) ?_
    simp -implicitDefEqProofs only [go_sem, simprocAttr]
    refine app_gl (ys := c.P.map tF) (by simp -implicitDefEqProofs only [go_sem, simprocAttr]; rfl) idx_23 (by simp -implicitDefEqProofs only [go_sem, simprocAttr]) (fun x hx => (tF_elem c.P x hx).1) (by simp -implicitDefEqProofs only [go_sem, simprocAttr]) (by simp [byt_108]; omega) (by simp [maxLen]; omega) (by simp) ?_
    simp -implicitDefEqProofs only [go_sem, simprocAttr]
    exact ⟨by simp -implicitDefEqProofs only [go_sem, simprocAttr, Own]; rfl, by simp -implicitDefEqProofs only [go_sem, simprocAttr], by simp -implicitDefEqProofs only [go_sem, simprocAttr]⟩
  · have eP : c.P = [] := by simpa using e2
    refine ac_intro (nb := 1000) Go.Proofs.Try.func52 rfl (by kernel_rfl) mix (k52 1000) (Nat.le_of_ble_eq_true (by kernel_rfl)) ?_
    refine Abs.walk ?_
    dsimp only [c52, sop, gop, nop, qmv, qsg, qex, qld, qcl, qln, qix, qbo, qt, qi]
    simp -implicitDefEqProofs only [go_sem, simprocAttr, o1, o2]
    refine W_opsD _ _ _ (Vs [[], [], [1005], [1006], [], [], [1006], [], [1001], [], [1001]]) ?_ ?_
    · decide
    simp -implicitDefEqProofs only [go_sem, simprocAttr, o1, o2]
    refine callD [] false [.fo sw] [] c53 ⟨rfl, trivial⟩ rfl (.inl rfl) ?_
    simp -implicitDefEqProofs only [go_sem, simprocAttr]
    refine app_none (by simp -implicitDefEqProofs only [go_sem, simprocAttr]; rfl) idx_23 ?_
    simp -implicitDefEqProofs only [go_sem, simprocAttr]
    exact ⟨by simp -implicitDefEqProofs only [go_sem, simprocAttr, Own]; rfl, by simp -implicitDefEqProofs only [go_sem, simprocAttr], by simp -implicitDefEqProofs only [go_sem, simprocAttr, eP, List.map_nil]⟩
end S04

