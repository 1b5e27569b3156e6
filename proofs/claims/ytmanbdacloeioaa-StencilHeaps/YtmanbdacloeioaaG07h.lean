/- A part of the proof: G07h, G07i, G07j. -/
import Derived.Test.YtmanbdacloeioaaG07e
set_option linter.unusedVariables false
set_option linter.unusedSimpArgs false
set_option maxRecDepth 20000
namespace S07
open Go Abs
theorem z8_bd : ∀ i, 0 ≤ i → (0 : Int) ≤ gI z8 i ∧ gI z8 i ≤ 0 := fun i _ => by rw [gI_z8]; omega
theorem t65 {q : Al} (hq : HdOk q.N q.arr) (h8 : q.N ≤ 8) {hs al sc sw : FV} {c w : List Int} (h1 : lsOf sc = some (ints c)) (h2 : lsOf sw = some (ints w)) (hc : CountOk q.N c) (hw : WordOk q.N w) :
    Fn Q 65 [.fo (q.fv hs al), .fo sc, .fo sw] (.one (.fx (lstN (ints (q.lackF (q.hasF c 0 z8) w 0 (q.needsF w z8)))))) := by
  have lc : c.length ≤ 8 := by have := hc.len; omega
  have l6 := hw.l6
  have c70 := t70 hq (hs := hs) (al := al) h1 lc (fun n hn => by have := hc.bd n hn; omega)
  have c71 := t71 hq (hs := hs) (al := al) h2 hw.l6 (fun n hn => by have := hw.bd n hn; omega)
  have b1 := hasF_bd hq c 0 z8 0 rfl (by omega) hc.bd z8_bd
  have b2 := needsF_bd hq w z8 0 rfl (fun n hn => by have := hw.bd n hn; omega) z8_bd
  have n1 : (q.hasF c 0 z8).length = 8 := hasF_len q c 0 z8
  have n2 : (q.needsF w z8).length = 8 := needsF_len q w z8
  generalize q.hasF c 0 z8 = P1 at *
  generalize q.needsF w z8 = P2 at *
  refine w65 ?_
  dsimp only [c65, sop, gop, nop, qmv, qsg, qex, qld, qcl, qln, qix, qbo, qt, qi]
  simp -implicitDefEqProofs only [go_sem, simprocAttr, Al.fv, alphaV]
  refine call1 [] false (c70) ?_
  simp -implicitDefEqProofs only [go_sem, simprocAttr]
  refine call1 [] false (c71) ?_
  simp -implicitDefEqProofs only [go_sem, simprocAttr, agF, n1, n2, arr_all, lenV_ls h2]
  refine lpL (β := List Int × List Int) 20 [9, 10, 11, 6] 20 [6, 8] w (by omega) (fun ls k a => a.1 ++ q.lackF P1 ls k a.2 = q.lackF P1 w 0 P2 ∧ a.2.length = 8 ∧ a.1.length ≤ k ∧ ∀ i, 0 ≤ i → -(k : Int) ≤ gI a.2 i ∧ gI a.2 i ≤ 6)
    (fun k a ρ h => ρ 20 = .fv (.int k) ∧ h.gen 8 = 1 ∧ h.obj 8 = some (.box (a.2.map (fun n => LV.fv (.int n)))) ∧ ρ 6 = .gl 6 (h.gen 6) ∧ h.obj 6 = some (.list 3 1 false a.1.isEmpty (ints a.1))) ([], P2) ⟨rfl, n2, by simp, ?_⟩ ?_ ?_ ?_
  · intro i hi
    have := b2 i hi
    show -((0 : Nat) : Int) ≤ gI P2 i ∧ gI P2 i ≤ 6
    omega
  · simp -implicitDefEqProofs only [go_sem, simprocAttr, List.isEmpty, ints]
  · rintro ⟨acc, nd⟩ ρ h ⟨e, _, _, _⟩ ⟨r20, g8, o8, r6, o6⟩
    simp only [Al.lackF, List.append_nil] at e
    simp -implicitDefEqProofs only [go_sem, simprocAttr, r20, r6]
    refine ret_fx (fun _ => true) ?_
    simp -implicitDefEqProofs only [go_sem, simprocAttr, o6, lstN, e]
    rw [← e]
    cases acc <;> rfl
  · rintro l ls k ⟨acc, nd⟩ ρ h hx hk hm hk' hw' ⟨e, ln, la, bn⟩ ⟨r20, g8, o8, r6, o6⟩
    dsimp only at e ln la bn o8 o6
    have hn := hw.bd l hm
    obtain ⟨p0, p1⟩ := pool_bd hq hn.1 (show l < 8 by omega)
    have p2 : q.pool l < 8 := by omega
    have pl : (q.pool l).toNat < nd.length := by omega
    have pl1 : (q.pool l).toNat < P1.length := by omega
    have pb := bn _ p0
    have ge : nd.getD (q.pool l).toNat 0 = gI nd (q.pool l) := rfl
    have ge1 : P1.getD (q.pool l).toNat 0 = gI P1 (q.pool l) := rfl
    have w1 : IntKind.i64.wrap (gI nd (q.pool l) - 1) = gI nd (q.pool l) - 1 := wr _ (by omega) (by omega)
    have le1 : (q.pool l).toNat + 1 ≤ nd.length := by omega
    by_cases hd : gI P1 (q.pool l) < gI nd (q.pool l)
    · simp -implicitDefEqProofs only [go_sem, simprocAttr, r20, hk', index_map h2 idx_26 hx rfl]
      refine call1 [] false (t67 hq (hs := hs) (al := al) hn.1 (show l < 8 by omega)) ?_
      simp -implicitDefEqProofs only [go_sem, simprocAttr, g8, o8, p0, p2, arr_get0 pl, arr_get0 pl1, ge, ge1, hd, r6]
      refine app_gl (by simp -implicitDefEqProofs only [go_sem, simprocAttr, o6]; rfl) idx_26 (by simp -implicitDefEqProofs only [go_sem, simprocAttr]; rfl) (by simp [FV.cells]) (by simp -implicitDefEqProofs only [go_sem, simprocAttr]) (by simp [byt_3, ints]; omega) (by simp [maxLen, ints]; omega) (by simp) ?_
      simp -implicitDefEqProofs only [go_sem, simprocAttr, g8, o8, p0, p2, arr_get0 pl, ge, w1, arr_set0 pl, le1, r20, hw']
      refine nxtL (acc ++ [(k : Int)], addAt nd (q.pool l) (-1)) ⟨by rw [← e]; simp [Al.lackF, hd], by rw [addAt_len]; exact ln, by simp; omega, ?_⟩ ?_
      · intro i hi
        dsimp only
        rw [gI_addAt p0 (by omega) hi]
        have := bn i hi
        push_cast
        split <;> omega
      · simp -implicitDefEqProofs only [go_sem, simprocAttr, g8, addAt, ge, ints, List.map_append, Int.add_neg_one]
        cases acc <;> rfl
    · simp -implicitDefEqProofs only [go_sem, simprocAttr, r20, hk', index_map h2 idx_26 hx rfl]
      refine call1 [] false (t67 hq (hs := hs) (al := al) hn.1 (show l < 8 by omega)) ?_
      simp -implicitDefEqProofs only [go_sem, simprocAttr, g8, o8, p0, p2, arr_get0 pl, arr_get0 pl1, ge, ge1, hd, r6, r20, hw']
      refine nxtL (acc, nd) ⟨by rw [← e]; simp [Al.lackF, hd], ln, by dsimp only; omega, ?_⟩ ?_
      · intro i hi
        have := bn i hi
        push_cast
        omega
      · simp -implicitDefEqProofs only [go_sem, simprocAttr, g8, o8, r6, o6]
theorem t66 {f : Bool} {l : List Int} (hl : l.length ≤ 100) : Fn Q 66 [.fo (.list f (ints l))] (.one (.own 3 1 false (ints l))) := by
  refine w66 ?_
  dsimp only [c66, sop, gop, nop, qmv, qsg, qex, qld, qcl, qln, qix, qbo, qt, qi]
  simp -implicitDefEqProofs only [go_sem, simprocAttr, eqV, nilEq, und_26]
  refine app_gl (by simp -implicitDefEqProofs only [go_sem, simprocAttr]; rfl) idx_26 (by simp -implicitDefEqProofs only [go_sem, simprocAttr]) (fun x hx => (ints_elem l x hx).1) (by simp -implicitDefEqProofs only [go_sem, simprocAttr]) (by simp [byt_3, ints]; omega) (by simp [maxLen, ints]; omega) (by simp) ?_
  simp -implicitDefEqProofs only [go_sem, simprocAttr]
  exact ret_own (by simp -implicitDefEqProofs only [go_sem, simprocAttr]) (by simp -implicitDefEqProofs only [go_sem, simprocAttr])
theorem lists_one {sw : FV} {w : List Int} {f : Bool} (h : lsOf sw = some (ints w)) (hl : w.length ≤ 9223372036854775807) : Lists (.list f [sw]) [w] := ⟨[sw], rfl, by simp [toL_ls h], by simpa using ⟨w, h, hl⟩⟩
def lackR (N : Int) (H A : List (Int × Int)) (c w : List Int) : List Int := let q := alOf N H A; q.lackF (q.hasF c 0 z8) w 0 (q.needsF w z8)
def errLack (N : Int) (H A : List (Int × Int)) (c w : List Int) : Int := if errL N H A c [w] ≠ 0 then errL N H A c [w] else if lackR N H A c w = [] then 6 else 0
theorem ints_nil {l : List Int} : ints l = [] ↔ l = [] := by simp [ints]
theorem t30 {s : FV} {N : Int} {hs al sc sw : FV} {H A : List (Int × Int)} {c w : List Int} (v : SetV s N hs al H A) (h1 : lsOf sc = some (ints c)) (hl1 : c.length ≤ 9223372036854775807) (h2 : lsOf sw = some (ints w)) (hl : w.length ≤ 9223372036854775807) :
    Fn Q 30 [.fo s, .fo sc, .fo sw] (.tup [.fx (if errLack N H A c w = 0 then lstN (ints (lackR N H A c w)) else .nil), .fx (.int (errLack N H A c w))]) := by
  have c64 := t64 v h1 hl1 (lists_one (f := false) h2 hl) (by simp)
  obtain ⟨rfl, hH, hA, lH, lA⟩ := v
  have o1 := ls_one hH
  have o2 := ls_one hA
  have f1 := ls_cells h2
  have f2 := ls_fone h2
  by_cases e : errL N H A c [w] = 0
  · obtain ⟨eA, _, ec, ew⟩ := errL_ok e
    have c65 := t65 (hdOk eA) (alOf_ok eA).n1 (hs := hs) (al := al) h1 h2 (count_ok ec) (word_ok (show isWord N w [] = true by simpa using ew))
    rw [if_pos e, e] at c64
    have eR : (alOf N H A).lackF ((alOf N H A).hasF c 0 z8) w 0 ((alOf N H A).needsF w z8) = lackR N H A c w := rfl
    rw [eR] at c65
    generalize hr : lackR N H A c w = r at *
    cases r with
    | nil =>
      have eL : errLack N H A c w = 6 := by simp [errLack, e, hr]
      refine w30 ?_
      dsimp only [c30, sop, gop, nop, qmv, qsg, qex, qld, qcl, qln, qix, qbo, qt, qi]
      simp -implicitDefEqProofs only [go_sem, simprocAttr, o1, o2, f1, f2]
      refine call1 [15] false (c64) ?_
      simp -implicitDefEqProofs only [go_sem, simprocAttr]
      refine call1 [] false (c65) ?_
      simp -implicitDefEqProofs only [go_sem, simprocAttr, lstN, List.isEmpty, ints, eqV, nilEq, und_26]
      refine ret_tup (fun _ => true) ?_ (by simp [ownNames])
      simp -implicitDefEqProofs only [go_sem, simprocAttr, eL]
    | cons x xs =>
      have eL : errLack N H A c w = 0 := by simp [errLack, e, hr]
      refine w30 ?_
      dsimp only [c30, sop, gop, nop, qmv, qsg, qex, qld, qcl, qln, qix, qbo, qt, qi]
      simp -implicitDefEqProofs only [go_sem, simprocAttr, o1, o2, f1, f2]
      refine call1 [15] false (c64) ?_
      simp -implicitDefEqProofs only [go_sem, simprocAttr]
      refine call1 [] false (c65) ?_
      simp -implicitDefEqProofs only [go_sem, simprocAttr, lstN, List.isEmpty, ints, eqV, nilEq, und_26]
      refine ret_tup (fun _ => true) ?_ (by simp [ownNames])
      simp -implicitDefEqProofs only [go_sem, simprocAttr, eL]
  · have e' : (errL N H A c [w] != 0) = true := by simpa using e
    have eL : errLack N H A c w = errL N H A c [w] := by simp [errLack, e]
    rw [if_neg e] at c64
    refine w30 ?_
    dsimp only [c30, sop, gop, nop, qmv, qsg, qex, qld, qcl, qln, qix, qbo, qt, qi]
    simp -implicitDefEqProofs only [go_sem, simprocAttr, o1, o2, f1, f2]
    refine call1 [15] false (c64) ?_
    simp -implicitDefEqProofs only [go_sem, simprocAttr, e']
    refine ret_tup (fun _ => true) ?_ (by simp [ownNames])
    simp -implicitDefEqProofs only [go_sem, simprocAttr, eL, e]
end S07

namespace S07
open Go Abs
def Al.stc (q : Al) (l : Int) (left : List Int) : Int := if gI left (q.pool l) = 0 then (if l < q.hd l then q.hd l else l) else q.pool l
def Al.layF (q : Al) : List Int → List Int → List Int
  | [], _ => []
  | l :: ls, left => q.stc l left :: q.layF ls (addAt left (q.stc l left) (-1))
theorem stc_bd {q : Al} (hq : HdOk q.N q.arr) (h8 : q.N ≤ 8) {l : Int} {left : List Int} (l0 : 0 ≤ l) (l1 : l < q.N) : 0 ≤ q.stc l left ∧ q.stc l left < q.N := by
  have p := pool_bd hq l0 (by omega)
  unfold Al.stc
  split
  · unfold Al.hd
    rcases hq.hd l l0 (by omega) with e | ⟨q1, q2, q3, q4⟩ <;> split <;> omega
  · omega
theorem ints_set (l : List Int) (k : Nat) (v : Int) : (ints l).set k (.int v) = ints (l.set k v) := by simp [ints]
theorem ints_get {l : List Int} {i : Int} (h1 : 0 ≤ i) (h2 : i < l.length) : (ints l)[i.toNat]? = some (.int (gI l i)) := by simp [ints, gI_get h1 h2]
def errLay (N : Int) (H A : List (Int × Int)) (c w : List Int) : Int := if errL N H A c [w] ≠ 0 then errL N H A c [w] else if lackR N H A c w = [] then 0 else 7
theorem t29 {s : FV} {N : Int} {hs al sc sw : FV} {H A : List (Int × Int)} {c w : List Int} (v : SetV s N hs al H A) (h1 : lsOf sc = some (ints c)) (hl1 : c.length ≤ 9223372036854775807) (h2 : lsOf sw = some (ints w)) (hl : w.length ≤ 9223372036854775807) :
    Fn Q 29 [.fo s, .fo sc, .fo sw] (.tup [.fx (if errLay N H A c w = 0 then .list false (ints ((alOf N H A).layF w c)) else .nil), .fx (.int (errLay N H A c w))]) := by
  have c64 := t64 v h1 hl1 (lists_one (f := false) h2 hl) (by simp)
  obtain ⟨rfl, hH, hA, lH, lA⟩ := v
  have o1 := ls_one hH
  have o2 := ls_one hA
  have f1 := ls_cells h2
  have f2 := ls_fone h2
  by_cases e : errL N H A c [w] = 0
  · obtain ⟨eA, _, ec, ew⟩ := errL_ok e
    have hq := hdOk eA
    have ok := alOf_ok eA
    have n1 := ok.n1
    have hc := count_ok ec
    have hw := word_ok (show isWord N w [] = true by simpa using ew)
    have c65 := t65 hq n1 (hs := hs) (al := al) h1 h2 hc hw
    rw [if_pos e, e] at c64
    have eR : (alOf N H A).lackF ((alOf N H A).hasF c 0 z8) w 0 ((alOf N H A).needsF w z8) = lackR N H A c w := rfl
    rw [eR] at c65
    have hr' : errLay N H A c w = if lackR N H A c w = [] then 0 else 7 := by simp [errLay, e]
    rw [hr']
    generalize lackR N H A c w = r at *
    generalize hqq : alOf N H A = q at *
    have hN : q.N = N := by rw [← hqq]; rfl
    clear hqq hr' e eA ec ew
    subst hN
    cases r with
    | cons x xs =>
      have lz : (0 : Int) < ((xs.length : Nat) : Int) + 1 := by omega
      refine w29 ?_
      dsimp only [c29, sop, gop, nop, qmv, qsg, qex, qld, qcl, qln, qix, qbo, qt, qi]
      simp -implicitDefEqProofs only [go_sem, simprocAttr, o1, o2, f1, f2]
      refine call1 [17] false (c64) ?_
      simp -implicitDefEqProofs only [go_sem, simprocAttr]
      refine call1 [] false (c65) ?_
      simp -implicitDefEqProofs only [go_sem, simprocAttr, lstN, List.isEmpty, ints, Int.natCast_add, lz]
      refine ret_tup (fun _ => true) ?_ (by simp [ownNames])
      simp -implicitDefEqProofs only [go_sem, simprocAttr]
    | nil =>
      have lN : c.length ≤ 8 := by have := hc.len; omega
      have hcs : ∃ f, sc = .list f (ints c) := by
        rcases ls_cases h1 with ⟨f, rfl⟩ | ⟨rfl, e0⟩
        · exact ⟨f, rfl⟩
        · have := ints_nil.1 e0; subst this
          have h3 := hc.len; have := ok.n0
          simp at h3; omega
      obtain ⟨f, rfl⟩ := hcs
      have l6 := hw.l6
      have nz : ¬ w.length = 0 := by have := hw.l1; omega
      refine w29 ?_
      dsimp only [c29, sop, gop, nop, qmv, qsg, qex, qld, qcl, qln, qix, qbo, qt, qi]
      simp -implicitDefEqProofs only [go_sem, simprocAttr, o1, o2, f1, f2]
      refine call1 [17] false (c64) ?_
      simp -implicitDefEqProofs only [go_sem, simprocAttr]
      refine call1 [] false (c65) ?_
      simp -implicitDefEqProofs only [go_sem, simprocAttr, lstN, List.isEmpty, ints, Int.natCast_add]
      refine call0 [] false (t66 (f := f) (l := c) (by omega)) ⟨rfl, trivial⟩ (.inl rfl) ?_
      simp -implicitDefEqProofs only [go_sem, simprocAttr, lenV_ls h2]
      refine lpL (β := List Int × List Int) 36 [11, 12, 6] 36 [6, 33] w (by omega) (fun ls k a => a.1 ++ q.layF ls a.2 = q.layF w c ∧ a.2.length = c.length ∧ a.1.length = k ∧ ∀ i, 0 ≤ i → -(k : Int) ≤ gI a.2 i ∧ gI a.2 i ≤ 5)
        (fun k a ρ h => ρ 36 = .fv (.int k) ∧ h.gen 33 = 1 ∧ h.obj 33 = some (.list 3 1 false false (ints a.2)) ∧ ρ 6 = .gl 6 (h.gen 6) ∧ h.obj 6 = some (.list 3 1 false a.1.isEmpty (ints a.1))) ([], c) ⟨rfl, rfl, rfl, ?_⟩ ?_ ?_ ?_
      · intro i hi
        show -((0 : Nat) : Int) ≤ gI c i ∧ gI c i ≤ 5
        rcases Int.lt_or_le i c.length with hlt | hge
        · have := hc.bd _ (List.mem_of_getElem? (gI_get hi hlt))
          omega
        · have : gI c i = 0 := by
            unfold gI
            simp only [List.getD_eq_getElem?_getD]
            rw [List.getElem?_eq_none (by omega)]; rfl
          omega
      · simp -implicitDefEqProofs only [go_sem, simprocAttr, List.isEmpty, ints]
      · rintro ⟨acc, left⟩ ρ h ⟨e1, _, la, _⟩ ⟨r36, g33, o33, r6, o6⟩
        simp only [Al.layF, List.append_nil] at e1
        have hne : acc.isEmpty = false := by
          cases acc with
          | nil => simp at la; exact absurd la.symm nz
          | cons => rfl
        simp -implicitDefEqProofs only [go_sem, simprocAttr, r36, r6]
        refine ret_tup (fun _ => true) ?_ (by simp [ownNames])
        rw [← e1]
        simp -implicitDefEqProofs only [go_sem, simprocAttr, o6, hne, ints]
      · rintro l ls k ⟨acc, left⟩ ρ h hx hk hm hk' hw' ⟨e1, ln, la, bn⟩ ⟨r36, g33, o33, r6, o6⟩
        dsimp only at e1 ln la bn o33 o6
        have hn := hw.bd l hm
        obtain ⟨p0, p1⟩ := pool_bd hq hn.1 (show l < 8 by omega)
        have hlen := hc.len
        have pl : q.pool l < (left.length : Nat) := by omega
        have lk : l.toNat < q.arr.length := by have := hq.len; omega
        have ge : q.arr.getD l.toNat 0 = q.hd l := rfl
        have l8 : l < 8 := by omega
        obtain ⟨s0, s1⟩ := stc_bd hq n1 (left := left) hn.1 hn.2
        have s2 : q.stc l left < (left.length : Nat) := by omega
        have pb := bn _ s0
        have w1 : IntKind.i64.wrap (gI left (q.stc l left) - 1) = gI left (q.stc l left) - 1 := wr _ (by omega) (by omega)
        have key : left.set (q.stc l left).toNat (gI left (q.stc l left) - 1) = addAt left (q.stc l left) (-1) := by
          unfold addAt gI
          rw [Int.sub_eq_add_neg]
        have nI : (acc ++ [q.stc l left]) ++ q.layF ls (addAt left (q.stc l left) (-1)) = q.layF w c ∧ (addAt left (q.stc l left) (-1)).length = c.length ∧ (acc ++ [q.stc l left]).length = k + 1 ∧ ∀ i, 0 ≤ i → -((k + 1 : Nat) : Int) ≤ gI (addAt left (q.stc l left) (-1)) i ∧ gI (addAt left (q.stc l left) (-1)) i ≤ 5 := by
          refine ⟨by rw [← e1]; simp [Al.layF], by rw [addAt_len]; exact ln, by simp [la], ?_⟩
          intro i hi
          rw [gI_addAt s0 s2 hi]
          have := bn i hi
          push_cast
          split <;> omega
        by_cases hz : gI left (q.pool l) = 0
        · have hz' : (gI left (q.pool l) == 0) = true := by simpa using hz
          have he : (if l < q.hd l then q.hd l else l) = q.stc l left := by simp [Al.stc, hz]
          simp -implicitDefEqProofs only [go_sem, simprocAttr, r36, hk', index_map h2 idx_26 hx rfl]
          refine call1 [] false (t67 hq (hs := hs) (al := al) hn.1 l8) ?_
          simp -implicitDefEqProofs only [go_sem, simprocAttr, g33, o33, p0, pl, ints_get p0 pl, hz', Al.fv, alphaV, hn.1, l8, farr_get lk, ge, max2V, he, s0, s2, ints_get s0 s2, w1]
          refine sto_elem (by rfl) (by rfl) (by rfl) (by simp -implicitDefEqProofs only [go_sem, simprocAttr, g33, o33]; rfl) (ints_get s0 s2) (by decide) ?_
          simp -implicitDefEqProofs only [go_sem, simprocAttr, r6, FV.withCells, ints_set, key]
          refine app_gl (by simp -implicitDefEqProofs only [go_sem, simprocAttr, o6]; rfl) idx_26 (by simp -implicitDefEqProofs only [go_sem, simprocAttr]; rfl) (by simp [FV.cells]) (by simp -implicitDefEqProofs only [go_sem, simprocAttr]) (by simp [byt_3, ints]; omega) (by simp [maxLen, ints]; omega) (by simp) ?_
          simp -implicitDefEqProofs only [go_sem, simprocAttr, r36, hw']
          refine nxtL (acc ++ [q.stc l left], addAt left (q.stc l left) (-1)) nI ?_
          simp -implicitDefEqProofs only [go_sem, simprocAttr, g33, ints, List.map_append]
          cases acc <;> rfl
        · have hz' : (gI left (q.pool l) == 0) = false := by simpa using hz
          have he : q.pool l = q.stc l left := by simp [Al.stc, hz]
          simp -implicitDefEqProofs only [go_sem, simprocAttr, r36, hk', index_map h2 idx_26 hx rfl]
          refine call1 [] false (t67 hq (hs := hs) (al := al) hn.1 l8) ?_
          simp -implicitDefEqProofs only [go_sem, simprocAttr, g33, o33, p0, pl, ints_get p0 pl, hz']
          rw [← he] at w1 key s0 s2 nI
          simp -implicitDefEqProofs only [go_sem, simprocAttr, g33, o33, p0, pl, ints_get p0 pl, w1]
          refine sto_elem (by rfl) (by rfl) (by rfl) (by simp -implicitDefEqProofs only [go_sem, simprocAttr, g33, o33]; rfl) (ints_get p0 pl) (by decide) ?_
          simp -implicitDefEqProofs only [go_sem, simprocAttr, r6, FV.withCells, ints_set, key]
          refine app_gl (by simp -implicitDefEqProofs only [go_sem, simprocAttr, o6]; rfl) idx_26 (by simp -implicitDefEqProofs only [go_sem, simprocAttr]; rfl) (by simp [FV.cells]) (by simp -implicitDefEqProofs only [go_sem, simprocAttr]) (by simp [byt_3, ints]; omega) (by simp [maxLen, ints]; omega) (by simp) ?_
          simp -implicitDefEqProofs only [go_sem, simprocAttr, r36, hw']
          refine nxtL (acc ++ [q.pool l], addAt left (q.pool l) (-1)) nI ?_
          simp -implicitDefEqProofs only [go_sem, simprocAttr, g33, ints, List.map_append]
          cases acc <;> rfl
  · have e' : (errL N H A c [w] != 0) = true := by simpa using e
    have eL : errLay N H A c w = errL N H A c [w] := by simp [errLay, e]
    rw [if_neg e] at c64
    refine w29 ?_
    dsimp only [c29, sop, gop, nop, qmv, qsg, qex, qld, qcl, qln, qix, qbo, qt, qi]
    simp -implicitDefEqProofs only [go_sem, simprocAttr, o1, o2, f1, f2]
    refine call1 [17] false (c64) ?_
    simp -implicitDefEqProofs only [go_sem, simprocAttr, e']
    refine ret_tup (fun _ => true) ?_ (by simp [ownNames])
    simp -implicitDefEqProofs only [go_sem, simprocAttr, eL, e]
end S07

namespace S07
open Go Abs
def Al.top (q : Al) (l : Int) : Int := if l < q.hd l then q.hd l else l
def Al.cutW (q : Al) (has : List Int) : List Int → Nat → List Int → List Int
  | [], _, out => out
  | n :: ns, i, out => if n ≤ gI has i then q.cutW has ns (i + 1) out else q.cutW has ns (i + 1) (out.set (q.top i).toNat (mx (gI out (q.top i)) (n - gI has i)))
def Al.cutF (q : Al) (has : List Int) : List (List Int) → List Int → List Int
  | [], out => out
  | w :: ws, out => q.cutF has ws (q.cutW has (q.needsF w z8) 0 out)
theorem needsF_zero {q : Al} (hq : HdOk q.N q.arr) (h8 : q.N ≤ 8) : ∀ (w p : List Int), p.length = 8 → (∀ n ∈ w, 0 ≤ n ∧ n < q.N) → (∀ i, q.N ≤ i → gI p i = 0) → ∀ i, q.N ≤ i → gI (q.needsF w p) i = 0
  | [], p, _, _, h => h
  | n :: ns, p, lp, hw, h => by
    have hn := hw n (by simp)
    obtain ⟨p0, p1⟩ := pool_bd hq hn.1 (show n < 8 by omega)
    refine needsF_zero hq h8 ns (addAt p (q.pool n) 1) (by rw [addAt_len]; exact lp) (fun x hx => hw x (by simp [hx])) ?_
    intro i hi
    rw [gI_addAt p0 (by omega) (by omega), if_neg (by omega)]
    exact h i hi
theorem top_bd {q : Al} (hq : HdOk q.N q.arr) (h8 : q.N ≤ 8) {l : Int} (l0 : 0 ≤ l) (l1 : l < q.N) : 0 ≤ q.top l ∧ q.top l < q.N := by
  unfold Al.top Al.hd
  rcases hq.hd l l0 (by omega) with e | ⟨q1, q2, q3, q4⟩ <;> split <;> omega
theorem gI_nil_ge {p : List Int} {i : Int} (h : (p.length : Int) ≤ i) : gI p i = 0 := by
  unfold gI
  simp only [List.getD_eq_getElem?_getD]
  rw [List.getElem?_eq_none (by omega)]; rfl
theorem rep_ints (n : Nat) : List.replicate n (FV.int 0) = ints (List.replicate n 0) := by simp [ints]
theorem gI_rep (n : Nat) (i : Int) : gI (List.replicate n 0) i = 0 := by
  unfold gI
  simp only [List.getD_eq_getElem?_getD, List.getElem?_replicate]
  split <;> rfl
def cutR (N : Int) (H A : List (Int × Int)) (c : List Int) (W : List (List Int)) : List Int := let q := alOf N H A; q.cutF (q.hasF c 0 z8) W (List.replicate N.toNat 0)
theorem t35 {s : FV} {N : Int} {hs al sc sW : FV} {H A : List (Int × Int)} {c : List Int} {W : List (List Int)} (v : SetV s N hs al H A) (h1 : lsOf sc = some (ints c)) (hl1 : c.length ≤ 9223372036854775807) (hW : Lists sW W) (hl : W.length ≤ 9223372036854775807) :
    Fn Q 35 [.fo s, .fo sc, .fo sW] (.tup [.fx (if errL N H A c W = 0 then .list false (ints (cutR N H A c W)) else .nil), .fx (.int (errL N H A c W))]) := by
  have c64 := t64 v h1 hl1 hW hl
  obtain ⟨rfl, hH, hA, lH, lA⟩ := v
  have o1 := ls_one hH
  have o2 := ls_one hA
  by_cases e : errL N H A c W = 0
  · obtain ⟨eA, eW5, ec, ew⟩ := errL_ok e
    have hq := hdOk eA
    have ok := alOf_ok eA
    have n1 := ok.n1
    have n0 := ok.n0
    have hc := count_ok ec
    rw [if_pos e, e] at c64
    rw [if_pos e, e]
    have eR : cutR N H A c W = (alOf N H A).cutF ((alOf N H A).hasF c 0 z8) W (List.replicate N.toNat 0) := rfl
    rw [eR]
    have hww : ∀ w ∈ W, WordOk N w := fun w hw => word_ok (by simpa using List.all_eq_true.1 ew w hw)
    generalize hqq : alOf N H A = q at *
    have hN : q.N = N := by rw [← hqq]; rfl
    clear hqq e eA ec ew eR
    subst hN
    have lc : c.length ≤ 8 := by have := hc.len; omega
    have c70 := t70 hq (hs := hs) (al := al) h1 lc (fun n hn => by have := hc.bd n hn; omega)
    have b1 := hasF_bd hq c 0 z8 0 rfl (by omega) hc.bd z8_bd
    have nh : (q.hasF c 0 z8).length = 8 := hasF_len q c 0 z8
    generalize q.hasF c 0 z8 = P1 at *
    obtain ⟨wl, hw1, hw2, hw3⟩ := hW
    have hwl : wl.length = W.length := by rw [← hw2]; simp
    refine w35 ?_
    dsimp only [c35, sop, gop, nop, qmv, qsg, qex, qld, qcl, qln, qix, qbo, qt, qi]
    simp -implicitDefEqProofs only [go_sem, simprocAttr, o1, o2]
    refine call1 [] false (c64) ?_
    simp -implicitDefEqProofs only [go_sem, simprocAttr]
    refine W_opsD _ _ _ (Vs [[], [], [], [], [], [32], [10], [10]]) ?_ ?_
    · decide
    simp -implicitDefEqProofs only [go_sem, simprocAttr]
    refine callD [] false [.fo (q.fv hs al), .fo sc] [] c70 ⟨rfl, rfl, trivial⟩ rfl (.inl rfl) ?_
    simp -implicitDefEqProofs only [go_sem, simprocAttr, FV.ofCells]
    refine ⟨by omega, by omega, by omega, ?_⟩
    simp -implicitDefEqProofs only [go_sem, simprocAttr, rep_ints, agF, nh, arr_all, lenV_ls hw1]
    refine lpL (β := List Int) 35 [13, 14, 15, 16] 35 [32] wl (by omega) (fun ls k out => q.cutF P1 (ls.map FV.toL) out = q.cutF P1 W (List.replicate q.N.toNat 0) ∧ (out.length : Int) = q.N ∧ ∀ i, 0 ≤ i → 0 ≤ gI out i ∧ gI out i ≤ 6)
        (fun k out ρ h => ρ 35 = .fv (.int k) ∧ h.gen 32 = 1 ∧ h.obj 32 = some (.list 3 1 false false (ints out))) (List.replicate q.N.toNat 0) ⟨by rw [hw2], by simp; omega, fun i _ => by rw [gI_rep]; omega⟩ ?_ ?_ ?_
    · simp -implicitDefEqProofs only [go_sem, simprocAttr]
    · rintro out ρ h ⟨e1, _, _⟩ ⟨r35, g32, o32⟩
      simp only [List.map_nil, Al.cutF] at e1
      simp -implicitDefEqProofs only [go_sem, simprocAttr, r35]
      refine ret_tup (fun _ => true) ?_ (by simp [ownNames])
      simp -implicitDefEqProofs only [go_sem, simprocAttr, g32, o32, e1]
    · rintro x xs k out ρ h hx hk hm hk' hw' ⟨e1, ln, bn⟩ ⟨r35, g32, o32⟩
      obtain ⟨w, hxw, lw⟩ := hw3 x hm
      have hwW : w ∈ W := by rw [← hw2, ← toL_ls hxw]; exact List.mem_map.2 ⟨x, hm, rfl⟩
      have hw := hww w hwW
      have c71 := t71 hq (hs := hs) (al := al) hxw hw.l6 (fun n hn => by have := hw.bd n hn; omega)
      have b2 := needsF_bd hq w z8 0 rfl (fun n hn => by have := hw.bd n hn; omega) z8_bd
      have z2 := needsF_zero hq n1 w z8 rfl hw.bd (fun i _ => gI_z8 i)
      have n2 : (q.needsF w z8).length = 8 := needsF_len q w z8
      have l6 := hw.l6
      rw [List.map_cons, Al.cutF, toL_ls hxw] at e1
      generalize q.needsF w z8 = P2 at *
      have hcx : x.cells = [x] := ls_cells hxw
      have hox : x.one = true := ls_fone hxw
      simp -implicitDefEqProofs only [go_sem, simprocAttr, r35, hk', index_ls hw1 idx_25 hx (by rw [hcx]; rfl), hcx]
      refine call1 [] false (c71) ?_
      simp -implicitDefEqProofs only [go_sem, simprocAttr, agF]
      refine lpL (β := List Int) 42 [14, 15, 16] 42 [32] P2 (by omega) (fun ls j o => q.cutW P1 ls j o = q.cutW P1 P2 0 out ∧ (o.length : Int) = q.N ∧ ∀ i, 0 ≤ i → 0 ≤ gI o i ∧ gI o i ≤ 6)
        (fun j o ρ h => ρ 42 = .fv (.int j) ∧ h.gen 32 = 1 ∧ h.obj 32 = some (.list 3 1 false false (ints o))) out ⟨rfl, ln, bn⟩ ?_ ?_ ?_
      · simp -implicitDefEqProofs only [go_sem, simprocAttr, g32, o32]
      · rintro o ρ2 h2 ⟨e2, ln2, bn2⟩ ⟨r42, g32', o32'⟩
        simp only [Al.cutW] at e2
        have n2' : ¬ ((P2.length : Nat) : Int) < 8 := by omega
        simp -implicitDefEqProofs only [go_sem, simprocAttr, r42, n2', r35, hw']
        refine nxtL o ⟨by rw [e2]; exact e1, ln2, bn2⟩ ?_
        simp -implicitDefEqProofs only [go_sem, simprocAttr, g32', o32']
      · rintro n ns j o ρ2 h2 hx2 hj hm2 hj' hwj ⟨e2, ln2, bn2⟩ ⟨r42, g32', o32'⟩
        have j8 : (j : Int) < 8 := by omega
        have gP2 : P2.getD j 0 = n := by simp [List.getD, hx2]
        have jl : j < P2.length := hj
        have jl1 : j < P1.length := by omega
        have gP1 : P1.getD j 0 = gI P1 (j : Int) := by simp [gI]
        by_cases hd : n ≤ gI P1 (j : Int)
        · simp -implicitDefEqProofs only [go_sem, simprocAttr, r42, j8, farr_get0 jl, gP2, arr_get0 jl1, gP1, hd, hwj]
          refine nxtL o ⟨by rw [← e2]; simp [Al.cutW, hd], ln2, bn2⟩ ?_
          simp -implicitDefEqProofs only [go_sem, simprocAttr, g32', o32']
        · have hP1 := b1 (j : Int) (by omega)
          have hP2 := b2 (j : Int) (by omega)
          have gj : gI P2 (j : Int) = n := by simpa [gI] using gP2
          have jN : (j : Int) < q.N := by
            rcases Int.lt_or_le (j : Int) q.N with h | h
            · exact h
            · have := z2 _ h; omega
          obtain ⟨s0, s1⟩ := top_bd hq n1 (show (0 : Int) ≤ (j : Int) by omega) jN
          have s2 : q.top (j : Int) < (o.length : Nat) := by omega
          have lkq : j < q.arr.length := by have := hq.len; omega
          have ge : q.arr.getD j 0 = q.hd (j : Int) := by simp [Al.hd, gI]
          have w1 : IntKind.i64.wrap (n - gI P1 (j : Int)) = n - gI P1 (j : Int) := wr _ (by omega) (by omega)
          have he : (if (j : Int) < q.hd (j : Int) then q.hd (j : Int) else (j : Int)) = q.top (j : Int) := rfl
          have hm' : (if gI o (q.top (j : Int)) < n - gI P1 (j : Int) then n - gI P1 (j : Int) else gI o (q.top (j : Int))) = mx (gI o (q.top (j : Int))) (n - gI P1 (j : Int)) := rfl
          have hb := bn2 _ s0
          simp -implicitDefEqProofs only [go_sem, simprocAttr, r42, j8, farr_get0 jl, gP2, arr_get0 jl1, gP1, hd, Al.fv, alphaV, farr_get lkq, ge, max2V, he, g32', o32', s0, s2, ints_get s0 s2, w1, hm']
          refine sto_elem (by rfl) (by rfl) (by rfl) (by simp -implicitDefEqProofs only [go_sem, simprocAttr, g32', o32']; rfl) (ints_get s0 s2) (by decide) ?_
          simp -implicitDefEqProofs only [go_sem, simprocAttr, r42, hwj, FV.withCells, ints_set]
          refine nxtL (o.set (q.top (j : Int)).toNat (mx (gI o (q.top (j : Int))) (n - gI P1 (j : Int)))) ⟨by rw [← e2]; simp [Al.cutW, hd], by simpa using ln2, ?_⟩ ?_
          · intro i hi
            rw [gI_set s0 s2 hi]
            split
            · unfold mx; split <;> omega
            · exact bn2 i hi
          · simp -implicitDefEqProofs only [go_sem, simprocAttr, g32', o32']
  · have e' : (errL N H A c W != 0) = true := by simpa using e
    rw [if_neg e] at c64
    refine w35 ?_
    dsimp only [c35, sop, gop, nop, qmv, qsg, qex, qld, qcl, qln, qix, qbo, qt, qi]
    simp -implicitDefEqProofs only [go_sem, simprocAttr, o1, o2]
    refine call1 [] false (c64) ?_
    simp -implicitDefEqProofs only [go_sem, simprocAttr, e']
    refine ret_tup (fun _ => true) ?_ (by simp [ownNames])
    simp -implicitDefEqProofs only [go_sem, simprocAttr, e]
end S07

