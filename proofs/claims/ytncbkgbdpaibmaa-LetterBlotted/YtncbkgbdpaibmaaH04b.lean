/- A part of the proof: H04b. -/
import Derived.Test.YtncbkgbdpaibmaaG04z
set_option linter.unusedVariables false
set_option linter.unusedSimpArgs false
set_option maxRecDepth 20000
namespace S04
open Go Abs
theorem t105o {s : FV} {l : List Int} (hs : lsOf s = some (ints l)) (hl : l.length ≤ 1000) (hne : l ≠ []) : Fn Q 105 [.fo s] (.one (.own 3 1 false (ints l))) := by
  have e2 : ∀ x ∈ ints l, x.cells.length = 1 := fun x hx => (ints_elem l x hx).1
  rcases ls_cases hs with ⟨f, rfl⟩ | ⟨rfl, e⟩
  · refine w105 ?_
    dsimp only [c105, sop, gop, nop, qmv, qsg, qex, qld, qcl, qln, qix, qbo, qt, qi]
    simp -implicitDefEqProofs only [go_sem, simprocAttr, eqV, nilEq, und_22]
    refine app_gl (by simp -implicitDefEqProofs only [go_sem, simprocAttr]; rfl) idx_22 (by simp -implicitDefEqProofs only [go_sem, simprocAttr]) e2 (by simp -implicitDefEqProofs only [go_sem, simprocAttr]) (by simp [byt_3, ints]; omega) (by simp [maxLen, ints]; omega) (by simp) ?_
    simp -implicitDefEqProofs only [go_sem, simprocAttr]
    exact ret_own (by simp -implicitDefEqProofs only [go_sem, simprocAttr]) (by simp -implicitDefEqProofs only [go_sem, simprocAttr, List.nil_append])
  · exact absurd (by simpa [ints] using e) hne
section
variable {a0 a1 a2 a3 a4 a5 a6 : LV} {can : List Bool} {i : Nat}
@[reducible] def bF (b : Bool) : LV := .fv (.bool b)
theorem can_set (hk : i < can.length) : splice (a0 :: a1 :: a2 :: a3 :: a4 :: a5 :: a6 :: can.map bF) (7 + i) [bF true] = a0 :: a1 :: a2 :: a3 :: a4 :: a5 :: a6 :: (can.set i true).map bF := by
  have e : 7 + i = i + 1 + 1 + 1 + 1 + 1 + 1 + 1 := by omega
  unfold splice
  rw [e]
  simp only [List.take_succ_cons, List.length_singleton, List.drop_succ_cons, List.cons_append]
  congr 7
  rw [List.set_eq_take_append_cons_drop, if_pos hk]
  simp [List.map_take, List.map_drop]
end
@[reducible] def Cs.rc (c : Cs) (sw sp sb : FV) (can : List Bool) : List LV := .fv sw :: .fv sp :: .fv (.int c.R) :: .fv (.int c.L) :: .fv (.int c.B) :: .fv (mapV c.M) :: .fv sb :: can.map bF
structure RH (c : Cs) (sw sp sb : FV) (w : List Int) (can : List Bool) (gw : Nat) (h : AH) : Prop where
  g : h.gen 72 = 1
  o : h.obj 72 = some (.box (c.rc sw sp sb can))
  g2 : h.gen 75 = gw
  o2 : h.obj 75 = some (.list 3 1 false false (ints w))
  l : can.length = 16
def readX (f : List Int → List Bool → Bool × List Int × List Bool) (b : Int) (at' : Nat) : Nat → Nat → Bool × List Int × List Bool → Bool × List Int × List Bool
  | 0, _, s => s
  | n + 1, x, s => readX f b at' n (x + 1) (if (f (s.2.1.set b.toNat (x : Int)) s.2.2).1 then (true, (f (s.2.1.set b.toNat (x : Int)) s.2.2).2.1, (f (s.2.1.set b.toNat (x : Int)) s.2.2).2.2.set (at' * 8 + x) true)
      else (s.1, (f (s.2.1.set b.toNat (x : Int)) s.2.2).2))
def Cs.read (c : Cs) (bl : List Int) (lo hi gaps : Int) : Nat → Nat → List Int → List Bool → Bool × List Int × List Bool
  | 0, _, w, can => (inB lo hi (c.wd w + gaps), w, can)
  | k + 1, at', w, can => readX (fun w can => c.read bl lo hi gaps k (at' + 1) w can) (gI bl at') at' c.W.length 0 (false, w, can)
structure Good (c : Cs) (bl : List Int) (at' n : Nat) (w : List Int) : Prop where
  l : w.length = n
  b : ∀ (i : Nat) (x : Int), w[i]? = some x → (i : Int) ∉ bl.drop at' → 0 ≤ x ∧ x < c.W.length
theorem Good.mono {c : Cs} {bl : List Int} {at' n : Nat} {w : List Int} (h : Good c bl (at' + 1) n w) : Good c bl at' n w :=
  ⟨h.l, fun i x hi hn => h.b i x hi fun hm => hn (by
    have e : bl.drop (at' + 1) = (bl.drop at').drop 1 := by simp
    rw [e] at hm
    exact List.mem_of_mem_drop hm)⟩
theorem Good.set {c : Cs} {bl : List Int} {at' n : Nat} {w : List Int} (h : Good c bl at' n w) (hb : at' < bl.length) (h0 : 0 ≤ gI bl at') {x : Int} (x0 : 0 ≤ x) (x1 : x < c.W.length) : Good c bl (at' + 1) n (w.set (gI bl at').toNat x) := by
  refine ⟨by rw [List.length_set]; exact h.l, fun i y hi hn => ?_⟩
  rw [List.getElem?_set] at hi
  by_cases e : (gI bl at').toNat = i
  · rw [if_pos e] at hi
    split at hi
    · simp only [Option.some.injEq] at hi; subst hi; exact ⟨x0, x1⟩
    · simp at hi
  · rw [if_neg e] at hi
    refine h.b i y hi fun hm => ?_
    rw [List.drop_eq_getElem_cons hb] at hm
    rcases List.mem_cons.1 hm with hm | hm
    · apply e
      have : gI bl (at' : Nat) = bl[at'] := by simp [gI, List.getD, hb]
      omega
    · exact hn hm
theorem readX_ok {c : Cs} {bl : List Int} {at' N : Nat} {f : List Int → List Bool → Bool × List Int × List Bool} (hb : at' < bl.length) (h0 : 0 ≤ gI bl at')
    (hf : ∀ w can, Good c bl (at' + 1) N w → can.length = 16 → Good c bl (at' + 1) N (f w can).2.1 ∧ (f w can).2.2.length = 16) : ∀ (n x : Nat) (s : Bool × List Int × List Bool), x + n ≤ c.W.length → Good c bl at' N s.2.1 → s.2.2.length = 16 →
      Good c bl at' N (readX f (gI bl at') at' n x s).2.1 ∧ (readX f (gI bl at') at' n x s).2.2.length = 16
  | 0, x, s, _, h1, h2 => ⟨h1, h2⟩
  | n + 1, x, s, hx, h1, h2 => by
    have hs := hf _ s.2.2 (h1.set hb h0 (show (0 : Int) ≤ (x : Int) by omega) (by omega)) h2
    refine readX_ok hb h0 hf n (x + 1) _ (by omega) ?_ ?_
    · split
      · exact hs.1.mono
      · exact hs.1.mono
    · split
      · simp [hs.2]
      · exact hs.2
theorem read_ok {c : Cs} {bl : List Int} {lo hi gaps : Int} {N : Nat} (h0 : ∀ x ∈ bl, 0 ≤ x) : ∀ (k at' : Nat) (w : List Int) (can : List Bool), bl.length = at' + k → Good c bl at' N w → can.length = 16 →
    Good c bl at' N (c.read bl lo hi gaps k at' w can).2.1 ∧ (c.read bl lo hi gaps k at' w can).2.2.length = 16
  | 0, at', w, can, hl, h1, h2 => ⟨h1, h2⟩
  | k + 1, at', w, can, hl, h1, h2 => by
    have hb : at' < bl.length := by omega
    have : gI bl (at' : Nat) ∈ bl := by
      have e : gI bl (at' : Nat) = bl[at'] := by simp [gI, List.getD, hb]
      rw [e]; exact List.getElem_mem hb
    exact readX_ok hb (h0 _ this) (fun w can g1 g2 => read_ok h0 k (at' + 1) w can (by omega) g1 g2) _ 0 (false, w, can) (by omega) h1 h2
theorem ex_RH {c : Cs} {sw sp sb : FV} {w : List Int} {can : List Bool} {g n : Nat} {l : List Nat} {h : AH} {q : LV} (h1 : h.gen 72 = 1) (h2 : h.gen 75 = g) (hl : can.length = 16) (hm : (decide (n ≤ 72) || l.contains 72) = true) (hm2 : (decide (n ≤ 75) || l.contains 75) = true) :
    ∃ (lv : LV) (h' : AH), OffH n l h h' ∧ lv = q ∧ RH c sw sp sb w can g h' :=
  ⟨q, (h.set 72 (.box (c.rc sw sp sb can))).set 75 (.list 3 1 false false (ints w)), by rw [offH_set n l h _ 75 _ hm2, offH_set n l h h 72 _ hm]; exact fun _ _ => ⟨rfl, rfl⟩, rfl, h1, by simp [AH.set, upd], h2, by simp [AH.set, upd], hl⟩
theorem a104_0_3000 {c : Cs} {sw sp sb : FV} {bl w : List Int} {lo hi gaps : Int} {at' g N : Nat} {can : List Bool} {h : AH} (v : CV c sw sp) (ok : c.Ok) (hb : lsOf sb = some (ints bl)) (H : RH c sw sp sb w can g h) (hbl : bl.length = at' + 0) (hb2 : bl.length ≤ 2) (hbx : ∀ x ∈ bl, 0 ≤ x ∧ x < N) (G : Good c bl at' N w) (N7 : N ≤ 7) (g0 : 0 ≤ gaps) (g1 : gaps ≤ 10000) :
    AC Q 104 [.ptr 72 1 0, .gl 75 g, .fv (.int (at' : Nat)), .fv (.int gaps), .fv (.agg [.int lo, .int hi])] h fun lv h' => OffH 3000 [72, 75] h h' ∧ lv = .fv (.bool (c.read bl lo hi gaps 0 at' w can).1) ∧ RH c sw sp sb (c.read bl lo hi gaps 0 at' w can).2.1 (c.read bl lo hi gaps 0 at' w can).2.2 g h' := by
  obtain ⟨h72, o72, h75, o75, lc⟩ := H
  obtain ⟨Gl, Gb⟩ := G
  have o1 := ls_one v.w
  have o2 := ls_one v.p
  have bd : bl.drop at' = [] := List.drop_of_length_le (by omega)
  have wv : WV c (.list false (ints w)) w := ⟨rfl, by omega, fun x hx => by
    obtain ⟨i, hi⟩ := List.mem_iff_getElem?.1 hx
    exact Gb i x hi (by rw [bd]; simp)⟩
  have c83 := t83 v ok wv
  have wb := ok.ws w wv.b
  have r0 := ok.r0
  have r1 := ok.r1
  have wdb : 0 ≤ c.wd w ∧ c.wd w ≤ 1000 := by unfold Cs.wd; omega
  have w1 : IntKind.i64.wrap (c.wd w + gaps) = c.wd w + gaps := wr _ (by omega) (by omega)
  have eq1 : (((at' : Nat) : Int) == (bl.length : Nat)) = true := by simp; omega
  refine ac_intro (nb := 3000) Go.Proofs.Try.func104 rfl (by kernel_rfl) mix (k104 3000) (Nat.le_of_ble_eq_true (by kernel_rfl)) ?_
  refine Abs.walk ?_
  dsimp only [c104, sop, gop, nop, qmv, qsg, qex, qld, qcl, qln, qix, qbo, qt, qi]
  simp -implicitDefEqProofs only [go_sem, simprocAttr, h72, o72, h75, o75, lenV_ls hb, ints_length, eq1]
  refine W_opsD _ _ _ (Vs [[], [], [], [], [], [], [], [], [], [], [], [], [3000 + 31], []]) ?_ ?_
  · decide
  simp -implicitDefEqProofs only [go_sem, simprocAttr, h72, o72, h75, o75, o1, o2]
  refine callD [] true [.fo (c.bv sw sp), .fo (.list false (ints w))] [] c83 ⟨rfl, by simp -implicitDefEqProofs only [go_sem, simprocAttr, h75, o75], trivial⟩ rfl (.inr rfl) ?_
  simp -implicitDefEqProofs only [go_sem, simprocAttr, w1]
  refine call1 [] true (u1 lo hi (c.wd w + gaps)) ?_
  simp -implicitDefEqProofs only [go_sem, simprocAttr, resLV]
  exact ⟨rfl, ⟨by simp -implicitDefEqProofs only [go_sem, simprocAttr, h72], by simp -implicitDefEqProofs only [go_sem, simprocAttr, o72] <;> rfl, by simp -implicitDefEqProofs only [go_sem, simprocAttr, h75], by simp -implicitDefEqProofs only [go_sem, simprocAttr, o75] <;> rfl, lc⟩⟩
theorem a104_0_2000 {c : Cs} {sw sp sb : FV} {bl w : List Int} {lo hi gaps : Int} {at' g N : Nat} {can : List Bool} {h : AH} (v : CV c sw sp) (ok : c.Ok) (hb : lsOf sb = some (ints bl)) (H : RH c sw sp sb w can g h) (hbl : bl.length = at' + 0) (hb2 : bl.length ≤ 2) (hbx : ∀ x ∈ bl, 0 ≤ x ∧ x < N) (G : Good c bl at' N w) (N7 : N ≤ 7) (g0 : 0 ≤ gaps) (g1 : gaps ≤ 10000) :
    AC Q 104 [.ptr 72 1 0, .gl 75 g, .fv (.int (at' : Nat)), .fv (.int gaps), .fv (.agg [.int lo, .int hi])] h fun lv h' => OffH 2000 [72, 75] h h' ∧ lv = .fv (.bool (c.read bl lo hi gaps 0 at' w can).1) ∧ RH c sw sp sb (c.read bl lo hi gaps 0 at' w can).2.1 (c.read bl lo hi gaps 0 at' w can).2.2 g h' := by
  obtain ⟨h72, o72, h75, o75, lc⟩ := H
  obtain ⟨Gl, Gb⟩ := G
  have o1 := ls_one v.w
  have o2 := ls_one v.p
  have bd : bl.drop at' = [] := List.drop_of_length_le (by omega)
  have wv : WV c (.list false (ints w)) w := ⟨rfl, by omega, fun x hx => by
    obtain ⟨i, hi⟩ := List.mem_iff_getElem?.1 hx
    exact Gb i x hi (by rw [bd]; simp)⟩
  have c83 := t83 v ok wv
  have wb := ok.ws w wv.b
  have r0 := ok.r0
  have r1 := ok.r1
  have wdb : 0 ≤ c.wd w ∧ c.wd w ≤ 1000 := by unfold Cs.wd; omega
  have w1 : IntKind.i64.wrap (c.wd w + gaps) = c.wd w + gaps := wr _ (by omega) (by omega)
  have eq1 : (((at' : Nat) : Int) == (bl.length : Nat)) = true := by simp; omega
  refine ac_intro (nb := 2000) Go.Proofs.Try.func104 rfl (by kernel_rfl) mix (k104 2000) (Nat.le_of_ble_eq_true (by kernel_rfl)) ?_
  refine Abs.walk ?_
  dsimp only [c104, sop, gop, nop, qmv, qsg, qex, qld, qcl, qln, qix, qbo, qt, qi]
  simp -implicitDefEqProofs only [go_sem, simprocAttr, h72, o72, h75, o75, lenV_ls hb, ints_length, eq1]
  refine W_opsD _ _ _ (Vs [[], [], [], [], [], [], [], [], [], [], [], [], [2000 + 31], []]) ?_ ?_
  · decide
  simp -implicitDefEqProofs only [go_sem, simprocAttr, h72, o72, h75, o75, o1, o2]
  refine callD [] true [.fo (c.bv sw sp), .fo (.list false (ints w))] [] c83 ⟨rfl, by simp -implicitDefEqProofs only [go_sem, simprocAttr, h75, o75], trivial⟩ rfl (.inr rfl) ?_
  simp -implicitDefEqProofs only [go_sem, simprocAttr, w1]
  refine call1 [] true (u1 lo hi (c.wd w + gaps)) ?_
  simp -implicitDefEqProofs only [go_sem, simprocAttr, resLV]
  exact ⟨rfl, ⟨by simp -implicitDefEqProofs only [go_sem, simprocAttr, h72], by simp -implicitDefEqProofs only [go_sem, simprocAttr, o72] <;> rfl, by simp -implicitDefEqProofs only [go_sem, simprocAttr, h75], by simp -implicitDefEqProofs only [go_sem, simprocAttr, o75] <;> rfl, lc⟩⟩
theorem a104_0_1000 {c : Cs} {sw sp sb : FV} {bl w : List Int} {lo hi gaps : Int} {at' g N : Nat} {can : List Bool} {h : AH} (v : CV c sw sp) (ok : c.Ok) (hb : lsOf sb = some (ints bl)) (H : RH c sw sp sb w can g h) (hbl : bl.length = at' + 0) (hb2 : bl.length ≤ 2) (hbx : ∀ x ∈ bl, 0 ≤ x ∧ x < N) (G : Good c bl at' N w) (N7 : N ≤ 7) (g0 : 0 ≤ gaps) (g1 : gaps ≤ 10000) :
    AC Q 104 [.ptr 72 1 0, .gl 75 g, .fv (.int (at' : Nat)), .fv (.int gaps), .fv (.agg [.int lo, .int hi])] h fun lv h' => OffH 1000 [72, 75] h h' ∧ lv = .fv (.bool (c.read bl lo hi gaps 0 at' w can).1) ∧ RH c sw sp sb (c.read bl lo hi gaps 0 at' w can).2.1 (c.read bl lo hi gaps 0 at' w can).2.2 g h' := by
  obtain ⟨h72, o72, h75, o75, lc⟩ := H
  obtain ⟨Gl, Gb⟩ := G
  have o1 := ls_one v.w
  have o2 := ls_one v.p
  have bd : bl.drop at' = [] := List.drop_of_length_le (by omega)
  have wv : WV c (.list false (ints w)) w := ⟨rfl, by omega, fun x hx => by
    obtain ⟨i, hi⟩ := List.mem_iff_getElem?.1 hx
    exact Gb i x hi (by rw [bd]; simp)⟩
  have c83 := t83 v ok wv
  have wb := ok.ws w wv.b
  have r0 := ok.r0
  have r1 := ok.r1
  have wdb : 0 ≤ c.wd w ∧ c.wd w ≤ 1000 := by unfold Cs.wd; omega
  have w1 : IntKind.i64.wrap (c.wd w + gaps) = c.wd w + gaps := wr _ (by omega) (by omega)
  have eq1 : (((at' : Nat) : Int) == (bl.length : Nat)) = true := by simp; omega
  refine ac_intro (nb := 1000) Go.Proofs.Try.func104 rfl (by kernel_rfl) mix (k104 1000) (Nat.le_of_ble_eq_true (by kernel_rfl)) ?_
  refine Abs.walk ?_
  dsimp only [c104, sop, gop, nop, qmv, qsg, qex, qld, qcl, qln, qix, qbo, qt, qi]
  simp -implicitDefEqProofs only [go_sem, simprocAttr, h72, o72, h75, o75, lenV_ls hb, ints_length, eq1]
  refine W_opsD _ _ _ (Vs [[], [], [], [], [], [], [], [], [], [], [], [], [1000 + 31], []]) ?_ ?_
  · decide
  simp -implicitDefEqProofs only [go_sem, simprocAttr, h72, o72, h75, o75, o1, o2]
  refine callD [] true [.fo (c.bv sw sp), .fo (.list false (ints w))] [] c83 ⟨rfl, by simp -implicitDefEqProofs only [go_sem, simprocAttr, h75, o75], trivial⟩ rfl (.inr rfl) ?_
  simp -implicitDefEqProofs only [go_sem, simprocAttr, w1]
  refine call1 [] true (u1 lo hi (c.wd w + gaps)) ?_
  simp -implicitDefEqProofs only [go_sem, simprocAttr, resLV]
  exact ⟨rfl, ⟨by simp -implicitDefEqProofs only [go_sem, simprocAttr, h72], by simp -implicitDefEqProofs only [go_sem, simprocAttr, o72] <;> rfl, by simp -implicitDefEqProofs only [go_sem, simprocAttr, h75], by simp -implicitDefEqProofs only [go_sem, simprocAttr, o75] <;> rfl, lc⟩⟩
theorem a104_1_2000 {c : Cs} {sw sp sb : FV} {bl w : List Int} {lo hi gaps : Int} {at' g N : Nat} {can : List Bool} {h : AH} (v : CV c sw sp) (ok : c.Ok) (hb : lsOf sb = some (ints bl)) (H : RH c sw sp sb w can g h) (hbl : bl.length = at' + 1) (hb2 : bl.length ≤ 2) (hbx : ∀ x ∈ bl, 0 ≤ x ∧ x < N) (G : Good c bl at' N w) (N7 : N ≤ 7) (g0 : 0 ≤ gaps) (g1 : gaps ≤ 10000) :
    AC Q 104 [.ptr 72 1 0, .gl 75 g, .fv (.int (at' : Nat)), .fv (.int gaps), .fv (.agg [.int lo, .int hi])] h fun lv h' => OffH 2000 [72, 75] h h' ∧ lv = .fv (.bool (c.read bl lo hi gaps 1 at' w can).1) ∧ RH c sw sp sb (c.read bl lo hi gaps 1 at' w can).2.1 (c.read bl lo hi gaps 1 at' w can).2.2 g h' := by
  obtain ⟨h72, o72, h75, o75, lc⟩ := H
  have o1 := ls_one v.w
  have o2 := ls_one v.p
  have n1 := ok.n1
  have ne1 : (((at' : Nat) : Int) == (bl.length : Nat)) = false := by simp; omega
  have al : at' < bl.length := by omega
  have ebl : gI bl (at' : Nat) = bl[at'] := by simp [gI, List.getD, al]
  have hbm : gI bl (at' : Nat) ∈ bl := by rw [ebl]; exact List.getElem_mem al
  have hbz := hbx _ hbm
  have hbk : bl[at']? = some (gI bl (at' : Nat)) := by rw [ebl]; exact List.getElem?_eq_getElem al
  have w0 : IntKind.i64.wrap ((at' : Int) + 1) = ((at' + 1 : Nat) : Int) := wr _ (by omega) (by omega)
  have at2 : (at' : Int) < 2 := by omega
  rw [Cs.read]
  refine ac_intro (nb := 2000) Go.Proofs.Try.func104 rfl (by kernel_rfl) mix (k104 2000) (Nat.le_of_ble_eq_true (by kernel_rfl)) ?_
  refine Abs.walk ?_
  dsimp only [c104, sop, gop, nop, qmv, qsg, qex, qld, qcl, qln, qix, qbo, qt, qi]
  simp -implicitDefEqProofs only [go_sem, simprocAttr, h72, o72, h75, o75, lenV_ls hb, ints_length, ne1, lenV_ls v.w]
  refine lpL (β := Bool × List Int × List Bool) 40 [10, 11] (2000 + 40) [72, 75] c.W (by omega) (fun xs k s => readX (fun w can => c.read bl lo hi gaps 0 (at' + 1) w can) (gI bl at') at' xs.length k s = readX (fun w can => c.read bl lo hi gaps 0 (at' + 1) w can) (gI bl at') at' c.W.length 0 (false, w, can) ∧ Good c bl at' N s.2.1)
    (fun k s ρ h => ρ 40 = .fv (.int (k : Nat)) ∧ ρ 10 = .fv (.bool s.1) ∧ RH c sw sp sb s.2.1 s.2.2 g h) (false, w, can) ⟨rfl, G⟩ ?_ ?_ ?_
  · simp -implicitDefEqProofs only [go_sem, simprocAttr]
    exact ⟨by simp -implicitDefEqProofs only [go_sem, simprocAttr, h72], by simp -implicitDefEqProofs only [go_sem, simprocAttr, o72] <;> rfl, by simp -implicitDefEqProofs only [go_sem, simprocAttr, h75], by simp -implicitDefEqProofs only [go_sem, simprocAttr, o75] <;> rfl, lc⟩
  · rintro ⟨t, w', can'⟩ ρ h' ⟨e, _⟩ ⟨r40, r10, ⟨q72, p72, q75, p75, lc'⟩⟩
    simp only [List.length_nil, readX] at e
    dsimp only at r10 p72 p75 lc'
    simp -implicitDefEqProofs only [go_sem, simprocAttr, r40, r10]
    rw [← e]
    simp -implicitDefEqProofs only [go_sem, simprocAttr, resLV]
    exact ⟨by simp -implicitDefEqProofs only [go_sem, simprocAttr, q72], by simp -implicitDefEqProofs only [go_sem, simprocAttr, p72] <;> rfl, by simp -implicitDefEqProofs only [go_sem, simprocAttr, q75], by simp -implicitDefEqProofs only [go_sem, simprocAttr, p75] <;> rfl, lc'⟩
  · rintro wx xs k ⟨t, w', can'⟩ ρ h' hx hk hm hk' hwr ⟨e, G'⟩ ⟨r40, r10, ⟨q72, p72, q75, p75, lc'⟩⟩
    dsimp only at r10 p72 p75 lc' G'
    rw [List.length_cons, readX] at e
    have G2 := G'.set al hbz.1 (show (0 : Int) ≤ (k : Int) by omega) (show (k : Int) < c.W.length by omega)
    have G'l := G'.l
    have bw : gI bl (at' : Nat) < (w'.length : Nat) := by omega
    have hrd := read_ok (c := c) (lo := lo) (hi := hi) (gaps := gaps) (N := N) (fun x hx => (hbx x hx).1) 0 (at' + 1) (w'.set (gI bl (at' : Nat)).toNat (k : Int)) can' (by omega) G2 lc'
    have wg : (ints w')[(gI bl (at' : Nat)).toNat]? = some (.int (gI w' (gI bl (at' : Nat)))) := by
      have := gI_get hbz.1 bw
      simp [ints, this]
    have k8 : (k : Int) < 8 := by omega
    have ci : at' * 8 + k < 16 := by omega
    simp -implicitDefEqProofs only [go_sem, simprocAttr, r40, hk', q72, p72, q75, p75, index_map hb idx_22 hbk rfl, hbz.1, bw]
    refine sto_elem (by rfl) (by rfl) (by rfl) (by simp -implicitDefEqProofs only [go_sem, simprocAttr, q75, p75]; rfl) wg (by decide) ?_
    simp -implicitDefEqProofs only [go_sem, simprocAttr, FV.withCells, ints_set, w0, q72, p72]
    refine callIH 3000 [72, 75] (a104_0_3000 (w := w'.set (gI bl (at' : Nat)).toNat (k : Int)) (can := can') (at' := at' + 1) (lo := lo) (hi := hi) (gaps := gaps) (N := N) (bl := bl) (c := c) (sw := sw) (sp := sp) (sb := sb) v ok hb ⟨by simp -implicitDefEqProofs only [go_sem, simprocAttr, q72], by simp -implicitDefEqProofs only [go_sem, simprocAttr, p72] <;> rfl, by simp -implicitDefEqProofs only [go_sem, simprocAttr, q75], by simp -implicitDefEqProofs only [go_sem, simprocAttr], lc'⟩ (by omega) hb2 hbx G2 N7 g0 g1) (ex_RH (by simp -implicitDefEqProofs only [go_sem, simprocAttr, q72]) (by simp -implicitDefEqProofs only [go_sem, simprocAttr, q75]) hrd.2 rfl rfl) ?_
    rintro lv h3 ⟨rfl, ⟨s72, t72, s75, t75, lc2⟩⟩
    have hg2 := hrd.1.mono
    generalize hR : c.read bl lo hi gaps 0 (at' + 1) (w'.set (gI bl (at' : Nat)).toNat (k : Int)) can' = R at *
    obtain ⟨R1, R2, R3⟩ := R
    dsimp only at lc2 t72 t75 hg2 e
    cases R1
    · simp -implicitDefEqProofs only [go_sem, simprocAttr, Kl_eq, r10, r40, hwr]
      refine nxtL (t, R2, R3) ⟨by rw [← e]; rfl, hg2⟩ ?_
      simp -implicitDefEqProofs only [go_sem, simprocAttr, r10]
      exact ⟨by simp -implicitDefEqProofs only [go_sem, simprocAttr, s72], by simp -implicitDefEqProofs only [go_sem, simprocAttr, t72] <;> rfl, by simp -implicitDefEqProofs only [go_sem, simprocAttr, s75], by simp -implicitDefEqProofs only [go_sem, simprocAttr, t75] <;> rfl, lc2⟩
    · have i1 : 7 + (at' * 8 + k) ≤ R3.length + 6 := by omega
      have i2 : at' * 8 + k < R3.length := by omega
      simp -implicitDefEqProofs only [go_sem, simprocAttr, Kl_eq, s72, t72, at2, k8, r40, hwr, Nat.add_assoc, i1, can_set i2]
      refine ⟨by omega, ?_⟩
      refine nxtL (true, R2, R3.set (at' * 8 + k) true) ⟨by rw [← e]; rfl, hg2⟩ ?_
      simp -implicitDefEqProofs only [go_sem, simprocAttr]
      exact ⟨by simp -implicitDefEqProofs only [go_sem, simprocAttr, s72], by simp -implicitDefEqProofs only [go_sem, simprocAttr, t72] <;> rfl, by simp -implicitDefEqProofs only [go_sem, simprocAttr, s75], by simp -implicitDefEqProofs only [go_sem, simprocAttr, t75] <;> rfl, by simp [lc2]⟩
theorem a104_1_1000 {c : Cs} {sw sp sb : FV} {bl w : List Int} {lo hi gaps : Int} {at' g N : Nat} {can : List Bool} {h : AH} (v : CV c sw sp) (ok : c.Ok) (hb : lsOf sb = some (ints bl)) (H : RH c sw sp sb w can g h) (hbl : bl.length = at' + 1) (hb2 : bl.length ≤ 2) (hbx : ∀ x ∈ bl, 0 ≤ x ∧ x < N) (G : Good c bl at' N w) (N7 : N ≤ 7) (g0 : 0 ≤ gaps) (g1 : gaps ≤ 10000) :
    AC Q 104 [.ptr 72 1 0, .gl 75 g, .fv (.int (at' : Nat)), .fv (.int gaps), .fv (.agg [.int lo, .int hi])] h fun lv h' => OffH 1000 [72, 75] h h' ∧ lv = .fv (.bool (c.read bl lo hi gaps 1 at' w can).1) ∧ RH c sw sp sb (c.read bl lo hi gaps 1 at' w can).2.1 (c.read bl lo hi gaps 1 at' w can).2.2 g h' := by
  obtain ⟨h72, o72, h75, o75, lc⟩ := H
  have o1 := ls_one v.w
  have o2 := ls_one v.p
  have n1 := ok.n1
  have ne1 : (((at' : Nat) : Int) == (bl.length : Nat)) = false := by simp; omega
  have al : at' < bl.length := by omega
  have ebl : gI bl (at' : Nat) = bl[at'] := by simp [gI, List.getD, al]
  have hbm : gI bl (at' : Nat) ∈ bl := by rw [ebl]; exact List.getElem_mem al
  have hbz := hbx _ hbm
  have hbk : bl[at']? = some (gI bl (at' : Nat)) := by rw [ebl]; exact List.getElem?_eq_getElem al
  have w0 : IntKind.i64.wrap ((at' : Int) + 1) = ((at' + 1 : Nat) : Int) := wr _ (by omega) (by omega)
  have at2 : (at' : Int) < 2 := by omega
  rw [Cs.read]
  refine ac_intro (nb := 1000) Go.Proofs.Try.func104 rfl (by kernel_rfl) mix (k104 1000) (Nat.le_of_ble_eq_true (by kernel_rfl)) ?_
  refine Abs.walk ?_
  dsimp only [c104, sop, gop, nop, qmv, qsg, qex, qld, qcl, qln, qix, qbo, qt, qi]
  simp -implicitDefEqProofs only [go_sem, simprocAttr, h72, o72, h75, o75, lenV_ls hb, ints_length, ne1, lenV_ls v.w]
  refine lpL (β := Bool × List Int × List Bool) 40 [10, 11] (1000 + 40) [72, 75] c.W (by omega) (fun xs k s => readX (fun w can => c.read bl lo hi gaps 0 (at' + 1) w can) (gI bl at') at' xs.length k s = readX (fun w can => c.read bl lo hi gaps 0 (at' + 1) w can) (gI bl at') at' c.W.length 0 (false, w, can) ∧ Good c bl at' N s.2.1)
    (fun k s ρ h => ρ 40 = .fv (.int (k : Nat)) ∧ ρ 10 = .fv (.bool s.1) ∧ RH c sw sp sb s.2.1 s.2.2 g h) (false, w, can) ⟨rfl, G⟩ ?_ ?_ ?_
  · simp -implicitDefEqProofs only [go_sem, simprocAttr]
    exact ⟨by simp -implicitDefEqProofs only [go_sem, simprocAttr, h72], by simp -implicitDefEqProofs only [go_sem, simprocAttr, o72] <;> rfl, by simp -implicitDefEqProofs only [go_sem, simprocAttr, h75], by simp -implicitDefEqProofs only [go_sem, simprocAttr, o75] <;> rfl, lc⟩
  · rintro ⟨t, w', can'⟩ ρ h' ⟨e, _⟩ ⟨r40, r10, ⟨q72, p72, q75, p75, lc'⟩⟩
    simp only [List.length_nil, readX] at e
    dsimp only at r10 p72 p75 lc'
    simp -implicitDefEqProofs only [go_sem, simprocAttr, r40, r10]
    rw [← e]
    simp -implicitDefEqProofs only [go_sem, simprocAttr, resLV]
    exact ⟨by simp -implicitDefEqProofs only [go_sem, simprocAttr, q72], by simp -implicitDefEqProofs only [go_sem, simprocAttr, p72] <;> rfl, by simp -implicitDefEqProofs only [go_sem, simprocAttr, q75], by simp -implicitDefEqProofs only [go_sem, simprocAttr, p75] <;> rfl, lc'⟩
  · rintro wx xs k ⟨t, w', can'⟩ ρ h' hx hk hm hk' hwr ⟨e, G'⟩ ⟨r40, r10, ⟨q72, p72, q75, p75, lc'⟩⟩
    dsimp only at r10 p72 p75 lc' G'
    rw [List.length_cons, readX] at e
    have G2 := G'.set al hbz.1 (show (0 : Int) ≤ (k : Int) by omega) (show (k : Int) < c.W.length by omega)
    have G'l := G'.l
    have bw : gI bl (at' : Nat) < (w'.length : Nat) := by omega
    have hrd := read_ok (c := c) (lo := lo) (hi := hi) (gaps := gaps) (N := N) (fun x hx => (hbx x hx).1) 0 (at' + 1) (w'.set (gI bl (at' : Nat)).toNat (k : Int)) can' (by omega) G2 lc'
    have wg : (ints w')[(gI bl (at' : Nat)).toNat]? = some (.int (gI w' (gI bl (at' : Nat)))) := by
      have := gI_get hbz.1 bw
      simp [ints, this]
    have k8 : (k : Int) < 8 := by omega
    have ci : at' * 8 + k < 16 := by omega
    simp -implicitDefEqProofs only [go_sem, simprocAttr, r40, hk', q72, p72, q75, p75, index_map hb idx_22 hbk rfl, hbz.1, bw]
    refine sto_elem (by rfl) (by rfl) (by rfl) (by simp -implicitDefEqProofs only [go_sem, simprocAttr, q75, p75]; rfl) wg (by decide) ?_
    simp -implicitDefEqProofs only [go_sem, simprocAttr, FV.withCells, ints_set, w0, q72, p72]
    refine callIH 2000 [72, 75] (a104_0_2000 (w := w'.set (gI bl (at' : Nat)).toNat (k : Int)) (can := can') (at' := at' + 1) (lo := lo) (hi := hi) (gaps := gaps) (N := N) (bl := bl) (c := c) (sw := sw) (sp := sp) (sb := sb) v ok hb ⟨by simp -implicitDefEqProofs only [go_sem, simprocAttr, q72], by simp -implicitDefEqProofs only [go_sem, simprocAttr, p72] <;> rfl, by simp -implicitDefEqProofs only [go_sem, simprocAttr, q75], by simp -implicitDefEqProofs only [go_sem, simprocAttr], lc'⟩ (by omega) hb2 hbx G2 N7 g0 g1) (ex_RH (by simp -implicitDefEqProofs only [go_sem, simprocAttr, q72]) (by simp -implicitDefEqProofs only [go_sem, simprocAttr, q75]) hrd.2 rfl rfl) ?_
    rintro lv h3 ⟨rfl, ⟨s72, t72, s75, t75, lc2⟩⟩
    have hg2 := hrd.1.mono
    generalize hR : c.read bl lo hi gaps 0 (at' + 1) (w'.set (gI bl (at' : Nat)).toNat (k : Int)) can' = R at *
    obtain ⟨R1, R2, R3⟩ := R
    dsimp only at lc2 t72 t75 hg2 e
    cases R1
    · simp -implicitDefEqProofs only [go_sem, simprocAttr, Kl_eq, r10, r40, hwr]
      refine nxtL (t, R2, R3) ⟨by rw [← e]; rfl, hg2⟩ ?_
      simp -implicitDefEqProofs only [go_sem, simprocAttr, r10]
      exact ⟨by simp -implicitDefEqProofs only [go_sem, simprocAttr, s72], by simp -implicitDefEqProofs only [go_sem, simprocAttr, t72] <;> rfl, by simp -implicitDefEqProofs only [go_sem, simprocAttr, s75], by simp -implicitDefEqProofs only [go_sem, simprocAttr, t75] <;> rfl, lc2⟩
    · have i1 : 7 + (at' * 8 + k) ≤ R3.length + 6 := by omega
      have i2 : at' * 8 + k < R3.length := by omega
      simp -implicitDefEqProofs only [go_sem, simprocAttr, Kl_eq, s72, t72, at2, k8, r40, hwr, Nat.add_assoc, i1, can_set i2]
      refine ⟨by omega, ?_⟩
      refine nxtL (true, R2, R3.set (at' * 8 + k) true) ⟨by rw [← e]; rfl, hg2⟩ ?_
      simp -implicitDefEqProofs only [go_sem, simprocAttr]
      exact ⟨by simp -implicitDefEqProofs only [go_sem, simprocAttr, s72], by simp -implicitDefEqProofs only [go_sem, simprocAttr, t72] <;> rfl, by simp -implicitDefEqProofs only [go_sem, simprocAttr, s75], by simp -implicitDefEqProofs only [go_sem, simprocAttr, t75] <;> rfl, by simp [lc2]⟩
theorem a104_2_1000 {c : Cs} {sw sp sb : FV} {bl w : List Int} {lo hi gaps : Int} {at' g N : Nat} {can : List Bool} {h : AH} (v : CV c sw sp) (ok : c.Ok) (hb : lsOf sb = some (ints bl)) (H : RH c sw sp sb w can g h) (hbl : bl.length = at' + 2) (hb2 : bl.length ≤ 2) (hbx : ∀ x ∈ bl, 0 ≤ x ∧ x < N) (G : Good c bl at' N w) (N7 : N ≤ 7) (g0 : 0 ≤ gaps) (g1 : gaps ≤ 10000) :
    AC Q 104 [.ptr 72 1 0, .gl 75 g, .fv (.int (at' : Nat)), .fv (.int gaps), .fv (.agg [.int lo, .int hi])] h fun lv h' => OffH 1000 [72, 75] h h' ∧ lv = .fv (.bool (c.read bl lo hi gaps 2 at' w can).1) ∧ RH c sw sp sb (c.read bl lo hi gaps 2 at' w can).2.1 (c.read bl lo hi gaps 2 at' w can).2.2 g h' := by
  obtain ⟨h72, o72, h75, o75, lc⟩ := H
  have o1 := ls_one v.w
  have o2 := ls_one v.p
  have n1 := ok.n1
  have ne1 : (((at' : Nat) : Int) == (bl.length : Nat)) = false := by simp; omega
  have al : at' < bl.length := by omega
  have ebl : gI bl (at' : Nat) = bl[at'] := by simp [gI, List.getD, al]
  have hbm : gI bl (at' : Nat) ∈ bl := by rw [ebl]; exact List.getElem_mem al
  have hbz := hbx _ hbm
  have hbk : bl[at']? = some (gI bl (at' : Nat)) := by rw [ebl]; exact List.getElem?_eq_getElem al
  have w0 : IntKind.i64.wrap ((at' : Int) + 1) = ((at' + 1 : Nat) : Int) := wr _ (by omega) (by omega)
  have at2 : (at' : Int) < 2 := by omega
  rw [Cs.read]
  refine ac_intro (nb := 1000) Go.Proofs.Try.func104 rfl (by kernel_rfl) mix (k104 1000) (Nat.le_of_ble_eq_true (by kernel_rfl)) ?_
  refine Abs.walk ?_
  dsimp only [c104, sop, gop, nop, qmv, qsg, qex, qld, qcl, qln, qix, qbo, qt, qi]
  simp -implicitDefEqProofs only [go_sem, simprocAttr, h72, o72, h75, o75, lenV_ls hb, ints_length, ne1, lenV_ls v.w]
  refine lpL (β := Bool × List Int × List Bool) 40 [10, 11] (1000 + 40) [72, 75] c.W (by omega) (fun xs k s => readX (fun w can => c.read bl lo hi gaps 1 (at' + 1) w can) (gI bl at') at' xs.length k s = readX (fun w can => c.read bl lo hi gaps 1 (at' + 1) w can) (gI bl at') at' c.W.length 0 (false, w, can) ∧ Good c bl at' N s.2.1)
    (fun k s ρ h => ρ 40 = .fv (.int (k : Nat)) ∧ ρ 10 = .fv (.bool s.1) ∧ RH c sw sp sb s.2.1 s.2.2 g h) (false, w, can) ⟨rfl, G⟩ ?_ ?_ ?_
  · simp -implicitDefEqProofs only [go_sem, simprocAttr]
    exact ⟨by simp -implicitDefEqProofs only [go_sem, simprocAttr, h72], by simp -implicitDefEqProofs only [go_sem, simprocAttr, o72] <;> rfl, by simp -implicitDefEqProofs only [go_sem, simprocAttr, h75], by simp -implicitDefEqProofs only [go_sem, simprocAttr, o75] <;> rfl, lc⟩
  · rintro ⟨t, w', can'⟩ ρ h' ⟨e, _⟩ ⟨r40, r10, ⟨q72, p72, q75, p75, lc'⟩⟩
    simp only [List.length_nil, readX] at e
    dsimp only at r10 p72 p75 lc'
    simp -implicitDefEqProofs only [go_sem, simprocAttr, r40, r10]
    rw [← e]
    simp -implicitDefEqProofs only [go_sem, simprocAttr, resLV]
    exact ⟨by simp -implicitDefEqProofs only [go_sem, simprocAttr, q72], by simp -implicitDefEqProofs only [go_sem, simprocAttr, p72] <;> rfl, by simp -implicitDefEqProofs only [go_sem, simprocAttr, q75], by simp -implicitDefEqProofs only [go_sem, simprocAttr, p75] <;> rfl, lc'⟩
  · rintro wx xs k ⟨t, w', can'⟩ ρ h' hx hk hm hk' hwr ⟨e, G'⟩ ⟨r40, r10, ⟨q72, p72, q75, p75, lc'⟩⟩
    dsimp only at r10 p72 p75 lc' G'
    rw [List.length_cons, readX] at e
    have G2 := G'.set al hbz.1 (show (0 : Int) ≤ (k : Int) by omega) (show (k : Int) < c.W.length by omega)
    have G'l := G'.l
    have bw : gI bl (at' : Nat) < (w'.length : Nat) := by omega
    have hrd := read_ok (c := c) (lo := lo) (hi := hi) (gaps := gaps) (N := N) (fun x hx => (hbx x hx).1) 1 (at' + 1) (w'.set (gI bl (at' : Nat)).toNat (k : Int)) can' (by omega) G2 lc'
    have wg : (ints w')[(gI bl (at' : Nat)).toNat]? = some (.int (gI w' (gI bl (at' : Nat)))) := by
      have := gI_get hbz.1 bw
      simp [ints, this]
    have k8 : (k : Int) < 8 := by omega
    have ci : at' * 8 + k < 16 := by omega
    simp -implicitDefEqProofs only [go_sem, simprocAttr, r40, hk', q72, p72, q75, p75, index_map hb idx_22 hbk rfl, hbz.1, bw]
    refine sto_elem (by rfl) (by rfl) (by rfl) (by simp -implicitDefEqProofs only [go_sem, simprocAttr, q75, p75]; rfl) wg (by decide) ?_
    simp -implicitDefEqProofs only [go_sem, simprocAttr, FV.withCells, ints_set, w0, q72, p72]
    refine callIH 2000 [72, 75] (a104_1_2000 (w := w'.set (gI bl (at' : Nat)).toNat (k : Int)) (can := can') (at' := at' + 1) (lo := lo) (hi := hi) (gaps := gaps) (N := N) (bl := bl) (c := c) (sw := sw) (sp := sp) (sb := sb) v ok hb ⟨by simp -implicitDefEqProofs only [go_sem, simprocAttr, q72], by simp -implicitDefEqProofs only [go_sem, simprocAttr, p72] <;> rfl, by simp -implicitDefEqProofs only [go_sem, simprocAttr, q75], by simp -implicitDefEqProofs only [go_sem, simprocAttr], lc'⟩ (by omega) hb2 hbx G2 N7 g0 g1) (ex_RH (by simp -implicitDefEqProofs only [go_sem, simprocAttr, q72]) (by simp -implicitDefEqProofs only [go_sem, simprocAttr, q75]) hrd.2 rfl rfl) ?_
    rintro lv h3 ⟨rfl, ⟨s72, t72, s75, t75, lc2⟩⟩
    have hg2 := hrd.1.mono
    generalize hR : c.read bl lo hi gaps 1 (at' + 1) (w'.set (gI bl (at' : Nat)).toNat (k : Int)) can' = R at *
    obtain ⟨R1, R2, R3⟩ := R
    dsimp only at lc2 t72 t75 hg2 e
    cases R1
    · simp -implicitDefEqProofs only [go_sem, simprocAttr, Kl_eq, r10, r40, hwr]
      refine nxtL (t, R2, R3) ⟨by rw [← e]; rfl, hg2⟩ ?_
      simp -implicitDefEqProofs only [go_sem, simprocAttr, r10]
      exact ⟨by simp -implicitDefEqProofs only [go_sem, simprocAttr, s72], by simp -implicitDefEqProofs only [go_sem, simprocAttr, t72] <;> rfl, by simp -implicitDefEqProofs only [go_sem, simprocAttr, s75], by simp -implicitDefEqProofs only [go_sem, simprocAttr, t75] <;> rfl, lc2⟩
    · have i1 : 7 + (at' * 8 + k) ≤ R3.length + 6 := by omega
      have i2 : at' * 8 + k < R3.length := by omega
      simp -implicitDefEqProofs only [go_sem, simprocAttr, Kl_eq, s72, t72, at2, k8, r40, hwr, Nat.add_assoc, i1, can_set i2]
      refine ⟨by omega, ?_⟩
      refine nxtL (true, R2, R3.set (at' * 8 + k) true) ⟨by rw [← e]; rfl, hg2⟩ ?_
      simp -implicitDefEqProofs only [go_sem, simprocAttr]
      exact ⟨by simp -implicitDefEqProofs only [go_sem, simprocAttr, s72], by simp -implicitDefEqProofs only [go_sem, simprocAttr, t72] <;> rfl, by simp -implicitDefEqProofs only [go_sem, simprocAttr, s75], by simp -implicitDefEqProofs only [go_sem, simprocAttr, t75] <;> rfl, by simp [lc2]⟩
end S04

