/- A part of the proof: X04e. -/
import Derived.Test.YtncbkgbdpaibmaaP04d
import Derived.Test.YtncbkgbdpaibmaaX04b
import Derived.Test.YtncbkgbdpaibmaaC04c0
set_option linter.unusedVariables false
set_option linter.unusedSimpArgs false
set_option maxRecDepth 20000
namespace S04
open Go Abs
theorem wu {n : Nat} (h : n ≤ 1000) : IntKind.u64.wrap (n : Int) = (n : Int) := by
  unfold IntKind.wrap
  simp [IntKind.signed, IntKind.bits]
  omega
theorem contains_at {l : List Int} {x : Int} {k : Nat} (hx : l[k]? = some x) : l.contains x = true := by
  have := List.mem_of_getElem? hx
  simpa using this
theorem t119 {s : FV} {l : List Int} {n : Int} (hs : lsOf s = some (ints l)) (hl : l.length ≤ 1000000) : Fn Q 119 [.fo s, .fo (.int n)] (.one (.fx (.bool (l.contains n)))) := by
  refine w119 ?_
  dsimp only [c119, sop, gop, nop, qmv, qsg, qex, qld, qcl, qln, qix, qbo, qt, qi]
  simp -implicitDefEqProofs only [go_sem, simprocAttr]
  refine lpH 6 [5] 6 [] (fun k : Nat => l.length - k) (fun k => k ≤ l.length ∧ (l.take k).contains n = false) (fun k ρ h => ρ 5 = .fv (.int (k : Nat))) 0 ⟨Nat.zero_le _, by simp⟩ ?_ ?_
  · simp -implicitDefEqProofs only [go_sem, simprocAttr]
  · rintro k ρ h ⟨k1, ea⟩ r5
    by_cases hk : k < l.length
    · have hk' : (k : Int) < (l.length : Nat) := by omega
      have hw : IntKind.i64.wrap ((k : Int) + 1) = ((k + 1 : Nat) : Int) := wr _ (by omega) (by omega)
      obtain ⟨x, hx⟩ : ∃ x, l[k]? = some x := ⟨_, List.getElem?_eq_getElem hk⟩
      have et : l.take (k + 1) = l.take k ++ [x] := by rw [List.take_add_one, hx]; rfl
      by_cases e : x = n
      · have e' : (x == n) = true := by simpa using e
        simp -implicitDefEqProofs only [go_sem, simprocAttr, r5, lenV_ls hs, ints_length, hk', index_map hs idx_22 hx rfl, e']
        exact ret_eq (by rw [contains_at (e ▸ hx)])
      · have e' : (x == n) = false := by simpa using e
        simp -implicitDefEqProofs only [go_sem, simprocAttr, r5, lenV_ls hs, ints_length, hk', index_map hs idx_22 hx rfl, e', hw]
        refine nxt (k + 1) (by omega) ⟨by omega, ?_⟩ ?_
        · rw [et, List.contains_append, ea]
          simpa using fun h => e h.symm
        · simp -implicitDefEqProofs only [go_sem, simprocAttr]
    · have hk' : ¬ (k : Int) < (l.length : Nat) := by omega
      rw [List.take_of_length_le (by omega)] at ea
      simp -implicitDefEqProofs only [go_sem, simprocAttr, r5, lenV_ls hs, ints_length, hk']
      exact ret_eq (by rw [ea])
theorem t93 {s t : FV} {l pl : List Int} (hs : lsOf s = some (ints l)) (ht : lsOf t = some (ints pl)) (hl : l.length ≤ 1000) (hp : pl.length ≤ 1000000) : Fn Q 93 [.fo s, .fo t] (.one (.fx (.list false (ints (woF pl l 0))))) := by
  refine w93 ?_
  dsimp only [c93, sop, gop, nop, qmv, qsg, qex, qld, qcl, qln, qix, qbo, qt, qi]
  simp -implicitDefEqProofs only [go_sem, simprocAttr]
  refine lpL (β := List Int) 8 [5, 6] 8 [7] l (by omega) (fun xs k acc => acc ++ woF pl xs k = woF pl l 0 ∧ acc.length ≤ k) (fun k acc ρ h => ρ 6 = .fv (.int (k : Nat)) ∧ ρ 5 = .gl 7 (h.gen 7) ∧ h.obj 7 = some (.list 3 1 false false (ints acc))) [] ⟨rfl, by simp⟩ ?_ ?_ ?_
  · simp -implicitDefEqProofs only [go_sem, simprocAttr, ints]
  · rintro acc ρ h ⟨e, _⟩ ⟨r6, r5, o7⟩
    simp only [woF, List.append_nil] at e
    simp -implicitDefEqProofs only [go_sem, simprocAttr, r6, r5, lenV_ls hs, ints_length]
    refine ret_fx (fun _ => true) ?_
    simp -implicitDefEqProofs only [go_sem, simprocAttr, o7, e]
  · rintro x xs k acc ρ h hx hk hm hk' hw ⟨e, la⟩ ⟨r6, r5, o7⟩
    cases hc : pl.contains (k : Int)
    · simp -implicitDefEqProofs only [go_sem, simprocAttr, r6, lenV_ls hs, ints_length, hk']
      refine call1 [] false (t119 (n := (k : Int)) ht hp) ?_
      simp -implicitDefEqProofs only [go_sem, simprocAttr, hc, r5, r6, index_map hs idx_22 hx rfl]
      refine app_gl (by simp -implicitDefEqProofs only [go_sem, simprocAttr, o7]; rfl) idx_22 (by simp -implicitDefEqProofs only [go_sem, simprocAttr]; rfl) (by simp [FV.cells]) (by simp -implicitDefEqProofs only [go_sem, simprocAttr]) (by simp [byt_3, ints]; omega) (by simp [maxLen, ints]; omega) (by simp) ?_
      simp -implicitDefEqProofs only [go_sem, simprocAttr, r6, hw]
      refine nxtL (acc ++ [x]) ⟨by rw [← e, woF, hc]; simp, by simp; omega⟩ ?_
      simp -implicitDefEqProofs only [go_sem, simprocAttr, ints, List.map_append]
    · simp -implicitDefEqProofs only [go_sem, simprocAttr, r6, lenV_ls hs, ints_length, hk']
      refine call1 [] false (t119 (n := (k : Int)) ht hp) ?_
      simp -implicitDefEqProofs only [go_sem, simprocAttr, hc, r6, hw]
      refine nxtL acc ⟨by rw [← e, woF, hc]; simp, by omega⟩ ?_
      simp -implicitDefEqProofs only [go_sem, simprocAttr, r5, o7]
theorem t92 {sa sb : FV} {a b : List Int} (h1 : lsOf sa = some (ints a)) (h2 : lsOf sb = some (ints b)) (l1 : a.length ≤ 1000000) (l2 : b.length ≤ 1000000) : Fn Q 92 [.fo sa, .fo sb] (.one (.fx (.bool (shB (some b) a)))) := by
  by_cases e : a.length = b.length
  · have e' : (((a.length : Nat) : Int) != (b.length : Nat)) = false := by simp [e]
    refine w92 ?_
    dsimp only [c92, sop, gop, nop, qmv, qsg, qex, qld, qcl, qln, qix, qbo, qt, qi]
    simp -implicitDefEqProofs only [go_sem, simprocAttr, lenV_ls h1, lenV_ls h2, ints_length, e']
    refine call1 [] false (t87 h1 h2 e l1) ?_
    simp -implicitDefEqProofs only [go_sem, simprocAttr]
    refine ret_eq ?_
    simp only [shB]
    congr 2
    simp [e]
  · have e' : (((a.length : Nat) : Int) != (b.length : Nat)) = true := by simp; omega
    refine w92 ?_
    dsimp only [c92, sop, gop, nop, qmv, qsg, qex, qld, qcl, qln, qix, qbo, qt, qi]
    simp -implicitDefEqProofs only [go_sem, simprocAttr, lenV_ls h1, lenV_ls h2, ints_length, e']
    refine ret_eq ?_
    simp only [shB]
    congr 2
    simp [e]
theorem set_len (n s : Nat) : (setL n s).length ≤ n := by
  unfold setL
  rw [idxT_len]
  have := List.length_filter_le id (maskF s n)
  rw [mask_len] at this
  exact this
theorem mask_more {s i : Nat} (h : s < 2 ^ i) : ∀ k, idxT 0 (maskF s (i + k)) = idxT 0 (maskF s i)
  | 0 => rfl
  | k + 1 => by
    have hb : s.testBit (i + k) = false := Nat.testBit_lt_two_pow (Nat.lt_of_lt_of_le h (Nat.pow_le_pow_right (by decide) (by omega)))
    rw [← Nat.add_assoc, mask_succ, idxT_app, hb, if_neg (by simp), List.append_nil, mask_more h k]
theorem t91 {s n : Nat} (hn : n ≤ 20) (h : s < 2 ^ n) : Fn Q 91 [.fo (.int (s : Nat))] (.one (.fx (.list false (ints (setL n s))))) := by
  refine w91 ?_
  dsimp only [c91, sop, gop, nop, qmv, qsg, qex, qld, qcl, qln, qix, qbo, qt, qi]
  simp -implicitDefEqProofs only [go_sem, simprocAttr]
  refine lpH 6 [3, 4] 6 [5] (fun k : Nat => n - k) (fun k => k ≤ n) (fun k ρ h => ρ 4 = .fv (.int (k : Nat)) ∧ ρ 3 = .gl 5 (h.gen 5) ∧ h.obj 5 = some (.list 3 1 false false (ints (idxT 0 (maskF s k))))) 0 (Nat.zero_le _) ?_ ?_
  · simp -implicitDefEqProofs only [go_sem, simprocAttr]
    rfl
  · rintro k ρ h' hk ⟨r4, r3, o5⟩
    have k0 : ¬ ((k : Int) < 0) := by omega
    have e6 : min k 64 = k := by omega
    have hb := bit_int s k
    have hwk : IntKind.i64.wrap ((k : Int) + 1) = ((k + 1 : Nat) : Int) := wr _ (by omega) (by omega)
    have il := set_len k s
    unfold setL at il
    by_cases q : (s : Int) / 2 ^ k > 0
    · have es : idxT 0 (maskF s (k + 1)) = idxT 0 (maskF s k) ++ if Nat.testBit s k then [(k : Int)] else [] := by
        rw [mask_succ, idxT_app, mask_len, Nat.zero_add]
      have hkn : k < n := by
        refine Classical.byContradiction fun hx => ?_
        obtain rfl : k = n := by omega
        have : s / 2 ^ k = 0 := Nat.div_eq_of_lt h
        have e2 : (s : Int) / 2 ^ k = ((s / 2 ^ k : Nat) : Int) := by push_cast; rfl
        rw [e2, this] at q
        simp at q
      cases b : Nat.testBit s k with
      | true =>
        rw [b] at hb es
        simp only [if_true] at hb es
        simp -implicitDefEqProofs only [go_sem, simprocAttr, r4, wu (show k ≤ 1000 by omega), k0, e6, q, hb, r3]
        refine app_gl (by simp -implicitDefEqProofs only [go_sem, simprocAttr, o5]; rfl) idx_22 (by simp -implicitDefEqProofs only [go_sem, simprocAttr]; rfl) (by simp [FV.cells]) (by simp -implicitDefEqProofs only [go_sem, simprocAttr]) (by simp [byt_3, ints]; omega) (by simp [maxLen, ints]; omega) (by simp) ?_
        simp -implicitDefEqProofs only [go_sem, simprocAttr, r4, hwk]
        refine nxt (k + 1) (by omega) (by omega) ?_
        simp -implicitDefEqProofs only [go_sem, simprocAttr, es, ints, List.map_append]
      | false =>
        rw [b] at hb es
        simp only [Bool.false_eq_true, if_false, List.append_nil] at hb es
        simp -implicitDefEqProofs only [go_sem, simprocAttr, r4, wu (show k ≤ 1000 by omega), k0, e6, q, hb, hwk]
        refine nxt (k + 1) (by omega) (by omega) ?_
        simp -implicitDefEqProofs only [go_sem, simprocAttr, es, r3, o5]
    · have hlt : s < 2 ^ k := by
        have e2 : (s : Int) / 2 ^ k = ((s / 2 ^ k : Nat) : Int) := by push_cast; rfl
        rw [e2] at q
        have h0 : s / 2 ^ k = 0 := by
          generalize s / 2 ^ k = z at q
          omega
        exact (Nat.div_eq_zero_iff_lt (Nat.pow_pos (by decide))).1 h0
      have e3 : idxT 0 (maskF s k) = setL n s := by
        have := mask_more hlt (n - k)
        rw [show k + (n - k) = n by omega] at this
        exact this.symm
      simp -implicitDefEqProofs only [go_sem, simprocAttr, r4, wu (show k ≤ 1000 by omega), k0, e6, q, r3]
      exact ret_fx (fun _ => true) (by simp -implicitDefEqProofs only [go_sem, simprocAttr, o5, e3])
def BestSt (b : Option (List Int)) (v : LV) : Prop := match b with | none => v = .gl 12 1 | some l => v = .fv (.list false (ints l))
def rlV : Option (List Int) → FV
  | none => .list false []
  | some l => .list false (ints l)
theorem t35 {c : Cs} {sw sp s : FV} {w : List Int} {n : Int} (v : CV c sw sp) (ok : c.Ok) (ws : WV c s w) (w1 : 1 ≤ w.length) (w7 : w.length ≤ 7) : Fn Q 35 [.fo (c.fv sw sp), .fo s, .fo (.int n)] (.tup [.fx (rlV (c.lf w n)), .fx (.bool (c.lf w n).isSome)]) := by
  have o1 := ls_one v.w
  have o2 := ls_one v.p
  obtain ⟨hs, hl, hb⟩ := ws
  have hlf : refS w.length (fun x => decide (c.nd (woF x w 0) ≤ n)) (2 ^ w.length - 1) 0 none = c.lf w n := ref_left (by rintro rfl; simp at w1)
  have pw : (2 : Nat) ^ w.length ≤ 128 := by
    have := Nat.pow_le_pow_right (show 0 < 2 by decide) w7
    simpa using this
  have pp : 0 < (2 : Nat) ^ w.length := Nat.pow_pos (by decide)
  have pwi : (2 : Int) ^ w.length = ((2 ^ w.length : Nat) : Int) := by push_cast; rfl
  have hsh : IntKind.i64.wrap (1 * 2 ^ min w.length 64) = ((2 ^ w.length : Nat) : Int) := by
    rw [show min w.length 64 = w.length by omega, pwi, wr _ (by omega) (by omega)]; omega
  have hsh2 : IntKind.i64.wrap (((2 ^ w.length : Nat) : Int) - 1) = ((2 ^ w.length - 1 : Nat) : Int) := by rw [wr _ (by omega) (by omega)]; omega
  have wn0 : ¬ ((w.length : Int) < 0) := by omega
  have c92 := fun {a b : List Int} (l1 : a.length ≤ 1000000) (l2 : b.length ≤ 1000000) => t92 (sa := .list false (ints a)) (sb := .list false (ints b)) (a := a) (b := b) rfl rfl l1 l2
  refine w35 ?_
  dsimp only [c35, sop, gop, nop, qmv, qsg, qex, qld, qcl, qln, qix, qbo, qt, qi]
  simp -implicitDefEqProofs only [go_sem, simprocAttr, o1, o2]
  refine lpH 13 [8, 9, 10, 11] 13 [] (fun a : Nat × Option (List Int) => 2 ^ w.length - a.1) (fun a => a.1 ≤ 2 ^ w.length - 1 ∧ refS w.length (fun x => decide (c.nd (woF x w 0) ≤ n)) (2 ^ w.length - 1 - a.1) a.1 a.2 = c.lf w n ∧ ∀ x, a.2 = some x → x.length ≤ 7) (fun a ρ h => ρ 10 = .fv (.int (a.1 : Nat)) ∧ BestSt a.2 (ρ 8) ∧ ρ 9 = .fv (.bool a.2.isSome)) (0, none) ⟨Nat.zero_le _, by simpa using hlf, by simp⟩ ?_ ?_
  · simp -implicitDefEqProofs only [go_sem, simprocAttr, BestSt, Option.isSome]
  · rintro ⟨S, b⟩ ρ h ⟨i0, i1, i2⟩ ⟨r10, r8, r9⟩
    dsimp only at i0 i1 i2 r10 r8 r9
    by_cases hS : S < 2 ^ w.length - 1
    · have hS' : (S : Int) < ((2 ^ w.length - 1 : Nat) : Int) := by omega
      have hwS : IntKind.i64.wrap ((S : Int) + 1) = ((S + 1 : Nat) : Int) := wr _ (by omega) (by omega)
      obtain ⟨k, hk⟩ : ∃ k, 2 ^ w.length - 1 - S = k + 1 := ⟨2 ^ w.length - 1 - S - 1, by omega⟩
      have hk' : 2 ^ w.length - 1 - (S + 1) = k := by omega
      have c91 := t91 (s := S) (n := w.length) (by omega) (by omega)
      have sl7 := set_len w.length S
      have c93 := t93 (l := w) (t := .list false (ints (setL w.length S))) (pl := setL w.length S) hs rfl (by omega) (by omega)
      have wm := woF_mem (pl := setL w.length S) w 0
      have c26 := t26 (s := .list false (ints (woF (setL w.length S) w 0))) (w := woF (setL w.length S) w 0) v ok ⟨rfl, by omega, fun x hx => hb x (wm.1 x hx)⟩
      rw [hk, refS] at i1
      generalize setL w.length S = L at *
      by_cases hp : c.nd (woF L w 0) ≤ n
      · rw [decide_eq_true hp, Bool.and_true] at i1
        cases b with
        | none =>
          have r8' : ρ 8 = .gl 12 1 := r8
          have r9' : ρ 9 = .fv (.bool false) := r9
          simp -implicitDefEqProofs only [go_sem, simprocAttr, r10, lenV_ls hs, ints_length, wu (show w.length ≤ 1000 by omega), wn0, hsh, hsh2, hS']
          refine call1 [] false (c91) ?_
          simp -implicitDefEqProofs only [go_sem, simprocAttr, r9']
          refine W_opsD _ _ _ (Vs []) ?_ ?_
          · decide
          simp -implicitDefEqProofs only [go_sem, simprocAttr, r9', o1, o2]
          refine callD [] false [.fo s, .fo (.list false (ints L))] [] c93 ⟨rfl, rfl, trivial⟩ rfl (.inl rfl) ?_
          simp -implicitDefEqProofs only [go_sem, simprocAttr]
          refine call1 [] false (c26) ?_
          simp -implicitDefEqProofs only [go_sem, simprocAttr, hp, r10, hwS]
          refine nxt (S + 1, some L) (by simp only; omega) ⟨by simp only; omega, by rw [hk']; simpa [shB] using i1, fun x hx => by simp at hx; subst hx; omega⟩ ?_
          simp -implicitDefEqProofs only [go_sem, simprocAttr, BestSt, Option.isSome]
        | some y =>
          have r8' : ρ 8 = .fv (.list false (ints y)) := r8
          have r9' : ρ 9 = .fv (.bool true) := r9
          have yl := i2 y rfl
          cases hsh3 : shB (some y) L
          · rw [hsh3, if_neg (by simp)] at i1
            simp -implicitDefEqProofs only [go_sem, simprocAttr, r10, lenV_ls hs, ints_length, wu (show w.length ≤ 1000 by omega), wn0, hsh, hsh2, hS']
            refine call1 [] false (c91) ?_
            simp -implicitDefEqProofs only [go_sem, simprocAttr, r9']
            refine W_opsD _ _ _ (Vs []) ?_ ?_
            · decide
            simp -implicitDefEqProofs only [go_sem, simprocAttr, r9', r8']
            refine call1 [] false (c92 (a := L) (b := y) (by omega) (by omega)) ?_
            simp -implicitDefEqProofs only [go_sem, simprocAttr, hsh3, r10, hwS]
            refine nxt (S + 1, some y) (by simp only; omega) ⟨by simp only; omega, by rw [hk']; exact i1, i2⟩ ?_
            simp -implicitDefEqProofs only [go_sem, simprocAttr, BestSt, Option.isSome, r8', r9']
          · rw [hsh3, if_pos rfl] at i1
            simp -implicitDefEqProofs only [go_sem, simprocAttr, r10, lenV_ls hs, ints_length, wu (show w.length ≤ 1000 by omega), wn0, hsh, hsh2, hS']
            refine call1 [] false (c91) ?_
            simp -implicitDefEqProofs only [go_sem, simprocAttr, r9']
            refine W_opsD _ _ _ (Vs []) ?_ ?_
            · decide
            simp -implicitDefEqProofs only [go_sem, simprocAttr, r9', r8']
            refine call1 [] false (c92 (a := L) (b := y) (by omega) (by omega)) ?_
            simp -implicitDefEqProofs only [go_sem, simprocAttr, hsh3, o1, o2]
            refine callD [] false [.fo s, .fo (.list false (ints L))] [] c93 ⟨rfl, rfl, trivial⟩ rfl (.inl rfl) ?_
            simp -implicitDefEqProofs only [go_sem, simprocAttr]
            refine call1 [] false (c26) ?_
            simp -implicitDefEqProofs only [go_sem, simprocAttr, hp, r10, hwS]
            refine nxt (S + 1, some L) (by simp only; omega) ⟨by simp only; omega, by rw [hk']; exact i1, fun x hx => by simp at hx; subst hx; omega⟩ ?_
            simp -implicitDefEqProofs only [go_sem, simprocAttr, BestSt, Option.isSome]
      · rw [decide_eq_false hp, Bool.and_false, if_neg (by simp)] at i1
        cases b with
        | none =>
          have r8' : ρ 8 = .gl 12 1 := r8
          have r9' : ρ 9 = .fv (.bool false) := r9
          simp -implicitDefEqProofs only [go_sem, simprocAttr, r10, lenV_ls hs, ints_length, wu (show w.length ≤ 1000 by omega), wn0, hsh, hsh2, hS']
          refine call1 [] false (c91) ?_
          simp -implicitDefEqProofs only [go_sem, simprocAttr, r9']
          refine W_opsD _ _ _ (Vs []) ?_ ?_
          · decide
          simp -implicitDefEqProofs only [go_sem, simprocAttr, r9', o1, o2]
          refine callD [] false [.fo s, .fo (.list false (ints L))] [] c93 ⟨rfl, rfl, trivial⟩ rfl (.inl rfl) ?_
          simp -implicitDefEqProofs only [go_sem, simprocAttr]
          refine call1 [] false (c26) ?_
          simp -implicitDefEqProofs only [go_sem, simprocAttr, hp, r10, hwS]
          refine nxt (S + 1, none) (by simp only; omega) ⟨by simp only; omega, by rw [hk']; exact i1, i2⟩ ?_
          simp -implicitDefEqProofs only [go_sem, simprocAttr, BestSt, Option.isSome, r8', r9']
        | some y =>
          have r8' : ρ 8 = .fv (.list false (ints y)) := r8
          have r9' : ρ 9 = .fv (.bool true) := r9
          have yl := i2 y rfl
          cases hsh3 : shB (some y) L
          · simp -implicitDefEqProofs only [go_sem, simprocAttr, r10, lenV_ls hs, ints_length, wu (show w.length ≤ 1000 by omega), wn0, hsh, hsh2, hS']
            refine call1 [] false (c91) ?_
            simp -implicitDefEqProofs only [go_sem, simprocAttr, r9']
            refine W_opsD _ _ _ (Vs []) ?_ ?_
            · decide
            simp -implicitDefEqProofs only [go_sem, simprocAttr, r9', r8']
            refine call1 [] false (c92 (a := L) (b := y) (by omega) (by omega)) ?_
            simp -implicitDefEqProofs only [go_sem, simprocAttr, hsh3, r10, hwS]
            refine nxt (S + 1, some y) (by simp only; omega) ⟨by simp only; omega, by rw [hk']; exact i1, i2⟩ ?_
            simp -implicitDefEqProofs only [go_sem, simprocAttr, BestSt, Option.isSome, r8', r9']
          · simp -implicitDefEqProofs only [go_sem, simprocAttr, r10, lenV_ls hs, ints_length, wu (show w.length ≤ 1000 by omega), wn0, hsh, hsh2, hS']
            refine call1 [] false (c91) ?_
            simp -implicitDefEqProofs only [go_sem, simprocAttr, r9']
            refine W_opsD _ _ _ (Vs []) ?_ ?_
            · decide
            simp -implicitDefEqProofs only [go_sem, simprocAttr, r9', r8']
            refine call1 [] false (c92 (a := L) (b := y) (by omega) (by omega)) ?_
            simp -implicitDefEqProofs only [go_sem, simprocAttr, hsh3, o1, o2]
            refine callD [] false [.fo s, .fo (.list false (ints L))] [] c93 ⟨rfl, rfl, trivial⟩ rfl (.inl rfl) ?_
            simp -implicitDefEqProofs only [go_sem, simprocAttr]
            refine call1 [] false (c26) ?_
            simp -implicitDefEqProofs only [go_sem, simprocAttr, hp, r10, hwS]
            refine nxt (S + 1, some y) (by simp only; omega) ⟨by simp only; omega, by rw [hk']; exact i1, i2⟩ ?_
            simp -implicitDefEqProofs only [go_sem, simprocAttr, BestSt, Option.isSome, r8', r9']
    · have hS' : ¬ (S : Int) < ((2 ^ w.length - 1 : Nat) : Int) := by omega
      have : 2 ^ w.length - 1 - S = 0 := by omega
      rw [this, refS] at i1
      rw [← i1]
      cases b with
      | none =>
        have r8' : ρ 8 = .gl 12 1 := r8
        have r9' : ρ 9 = .fv (.bool false) := r9
        simp -implicitDefEqProofs only [go_sem, simprocAttr, r10, lenV_ls hs, ints_length, wu (show w.length ≤ 1000 by omega), wn0, hsh, hsh2, hS', r8', r9']
        refine ret_tup (fun _ => true) ?_ (by simp [ownNames])
        simp -implicitDefEqProofs only [go_sem, simprocAttr, rlV, Option.isSome]
      | some y =>
        have r8' : ρ 8 = .fv (.list false (ints y)) := r8
        have r9' : ρ 9 = .fv (.bool true) := r9
        simp -implicitDefEqProofs only [go_sem, simprocAttr, r10, lenV_ls hs, ints_length, wu (show w.length ≤ 1000 by omega), wn0, hsh, hsh2, hS', r8', r9']
        refine ret_tup (fun _ => true) ?_ (by simp [ownNames])
        simp -implicitDefEqProofs only [go_sem, simprocAttr, rlV, Option.isSome]
end S04

