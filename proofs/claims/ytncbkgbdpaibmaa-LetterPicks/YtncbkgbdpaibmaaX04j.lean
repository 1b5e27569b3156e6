/- A part of the proof: X04j. -/
import Derived.Test.YtncbkgbdpaibmaaX04i
import Derived.Test.YtncbkgbdpaibmaaX04b
import Derived.Test.YtncbkgbdpaibmaaP04f
set_option linter.unusedVariables false
set_option linter.unusedSimpArgs false
set_option maxRecDepth 20000
namespace S04
open Go Abs
theorem t100 {sp s : FV} {pl l : List Int} (hp : lsOf sp = some (ints pl)) (pb : ∀ x ∈ pl, 1 ≤ x ∧ x ≤ 400) (hs : lsOf s = some (ints l)) (hl : l.length ≤ 1000) (hb : ∀ x ∈ l, 0 ≤ x ∧ x < pl.length) : Fn Q 100 [.fo sp, .fo s] (.one (.fx (.int (longF pl l)))) := by
  refine w100 ?_
  dsimp only [c100, sop, gop, nop, qmv, qsg, qex, qld, qcl, qln, qix, qbo, qt, qi]
  simp -implicitDefEqProofs only [go_sem, simprocAttr]
  refine lpL (β := Int) 7 [5, 6] 7 [] l (by omega) (fun xs k n => n + longF pl xs = longF pl l ∧ 0 ≤ n ∧ n ≤ 400 * (k : Int)) (fun k n ρ h => ρ 6 = .fv (.int (k : Nat)) ∧ ρ 5 = .fv (.int n)) 0 ⟨by simp, by simp, by simp⟩ ?_ ?_ ?_
  · simp -implicitDefEqProofs only [go_sem, simprocAttr]
  · rintro n ρ h ⟨e, _, _⟩ ⟨r6, r5⟩
    simp -implicitDefEqProofs only [go_sem, simprocAttr, r6, r5, lenV_ls hs, ints_length]
    exact ret_eq (by rw [← e]; simp [longF])
  · rintro x xs k n ρ h hx hk hm hk' hw ⟨e, n0, n1⟩ ⟨r6, r5⟩
    have bx := hb x hm
    have g1 := gI_get bx.1 bx.2
    have g2 := pb _ (List.mem_of_getElem? g1)
    have ix := fun H => index_map (H := H) hp idx_22 g1 rfl
    rw [Int.toNat_of_nonneg bx.1] at ix
    have w2 : IntKind.i64.wrap (n + gI pl x) = n + gI pl x := wr _ (by omega) (by omega)
    simp -implicitDefEqProofs only [go_sem, simprocAttr, r6, r5, lenV_ls hs, ints_length, hk', index_map hs idx_22 hx rfl, ix, w2, hw]
    refine nxtL (n + gI pl x) ⟨by rw [← e]; simp [longF, Int.add_assoc], by omega, by push_cast; omega⟩ ?_
    simp -implicitDefEqProofs only [go_sem, simprocAttr]
theorem lsW_el (L : List (List Int)) : ∀ x ∈ lsW L, x.cells.length = 1 := fun x hx => by obtain ⟨l, _, rfl⟩ := List.mem_map.1 hx; rfl
theorem t99 {c : Cs} {sw sp sW spl : FV} {wl : List FV} {pl : List Int} (v : CV c sw sp) (ok : c.Ok) (W : WsV c sW wl) (P : PlV spl pl) : ∀ (ws : List FV) (b : List Int), wl.drop b.length = ws → b.length + ws.length = wl.length →
    Fn Q 99 [.fo (c.fv sw sp), .fo sW, .fo spl, .fo (.list false (ints b))] (.one (.fx (.list false (lsW (c.pks pl (ws.map FV.toL) b)))))
  | [], b, hd, hlen => by
    have o1 := ls_one v.w
    have o2 := ls_one v.p
    have e1 : (((b.length : Nat) : Int) == (wl.length : Nat)) = true := by simp at hlen; simp; omega
    refine w99 ?_
    dsimp only [c99, sop, gop, nop, qmv, qsg, qex, qld, qcl, qln, qix, qbo, qt, qi]
    simp -implicitDefEqProofs only [go_sem, simprocAttr, o1, o2, ints_length, lenV_ls W.s, e1]
    refine ret_fx (fun _ => true) ?_
    simp -implicitDefEqProofs only [go_sem, simprocAttr, Cs.pks, lsW, List.map_nil, List.map_cons]
  | x :: ws, b, hd, hlen => by
    have o1 := ls_one v.w
    have o2 := ls_one v.p
    have o3 := ls_one P.s
    have oW := ls_one W.s
    have wl5 := W.l
    have pl6 := P.l
    simp only [List.length_cons] at hlen
    obtain ⟨d1, d2, d3, d4⟩ := drop_tail hd
    have hx := W.w x d4
    have c26 := t26 v ok hx
    have e1 : (((b.length : Nat) : Int) == (wl.length : Nat)) = false := by simp; omega
    have ih := fun k : Nat => t99 v ok W P ws (b ++ [(k : Int)]) (by simpa using d1) (by simp; omega)
    have hx1 : x.cells.length = 1 := by rw [ls_cells hx.s]; rfl
    have pkl : ∀ k : Nat, (c.pks pl (ws.map FV.toL) (b ++ [(k : Int)])).length ≤ 7776 := fun k => by
      have := pks_len (c := c) pl6 (ws.map FV.toL) (b ++ [(k : Int)])
      rw [List.length_map] at this
      have h2 : 6 ^ ws.length ≤ 6 ^ 5 := Nat.pow_le_pow_right (by decide) (by omega)
      omega
    have hb5 : b.length ≤ 5 := by omega
    refine w99 ?_
    dsimp only [c99, sop, gop, nop, qmv, qsg, qex, qld, qcl, qln, qix, qbo, qt, qi]
    simp -implicitDefEqProofs only [go_sem, simprocAttr, o1, o2, ints_length, lenV_ls W.s, e1]
    refine lpL (β := List (List Int)) 19 [9, 10] 19 [18] pl (by omega) (fun ns k acc => acc ++ pkG (c.pks pl (ws.map FV.toL)) (c.nd x.toL) b ns k = c.pks pl ((x :: ws).map FV.toL) b ∧ acc.length ≤ 7776 * k) (fun k acc ρ h => ρ 10 = .fv (.int (k : Nat)) ∧ ρ 9 = .gl 18 (h.gen 18) ∧ h.obj 18 = some (.list 22 1 false false (lsW acc))) [] ⟨rfl, by simp⟩ ?_ ?_ ?_
    · simp -implicitDefEqProofs only [go_sem, simprocAttr, lsW, List.map_nil]
    · rintro acc ρ h ⟨e, _⟩ ⟨r10, r9, o18⟩
      simp only [pkG, List.append_nil] at e
      simp -implicitDefEqProofs only [go_sem, simprocAttr, r10, r9, lenV_ls P.s, ints_length]
      refine ret_fx (fun _ => true) ?_
      simp -implicitDefEqProofs only [go_sem, simprocAttr, o18, e]
    · rintro n ns k acc ρ h hn hk hm hk' hw ⟨e, la⟩ ⟨r10, r9, o18⟩
      have hnb := P.b n hm
      simp only [List.map_cons] at e
      have c119 := t119 (s := .list false (ints b)) (l := b) (n := (k : Int)) rfl (by omega)
      simp only [pkG] at e
      simp -implicitDefEqProofs only [go_sem, simprocAttr, r10, lenV_ls P.s, ints_length, hk']
      refine W_opsD _ _ _ (Vs []) ?_ ?_
      · decide
      simp -implicitDefEqProofs only [go_sem, simprocAttr, r10]
      refine call0 [] false c119 (by simp -implicitDefEqProofs only [go_sem, simprocAttr]) (.inl rfl) ?_
      cases hc : b.contains (k : Int)
      · simp -implicitDefEqProofs only [go_sem, simprocAttr, hc, o1, o2, index_ls W.s idx_56 d2 hx1, ls_cells hx.s]
        refine callD [] false [.fo (c.fv sw sp), .fo x] [] c26 ⟨rfl, rfl, trivial⟩ rfl (.inl rfl) ?_
        by_cases hgo : c.nd x.toL ≤ n
        · rw [if_pos ⟨hc, hgo⟩] at e
          have pk := pkl k
          simp -implicitDefEqProofs only [go_sem, simprocAttr, r10, index_map P.s idx_22 hn rfl, hgo]
          refine W_opsD _ _ _ (Vs [[], [], [], [], [47], [], [47], [], [51], [47], [47], [18], []]) ?_ ?_
          · decide
          simp -implicitDefEqProofs only [go_sem, simprocAttr, r9, o1, o2, oW, o3]
          refine app_cp (by simp -implicitDefEqProofs only [go_sem, simprocAttr] <;> rfl) idx_22 (show lsOf (.list false (ints b)) = some (ints b) from rfl) (fun y hy => (ints_elem b y hy).1) (by simp -implicitDefEqProofs only [go_sem, simprocAttr]) (by simp [byt_3, ints]; omega) (by simp [maxLen, ints]; omega) ?_
          intro g1
          simp -implicitDefEqProofs only [go_sem, simprocAttr, r10]
          refine app_gl (by simp -implicitDefEqProofs only [go_sem, simprocAttr]; rfl) idx_22 (by simp -implicitDefEqProofs only [go_sem, simprocAttr]; rfl) (by simp [FV.cells]) (by simp -implicitDefEqProofs only [go_sem, simprocAttr]) (by simp [byt_3, ints]; omega) (by simp [maxLen, ints]; omega) (by simp) ?_
          simp -implicitDefEqProofs only [go_sem, simprocAttr]
          refine call0 [47] false (ih k) (by simp -implicitDefEqProofs only [go_sem, simprocAttr, ints, List.map_append]) (.inl rfl) ?_
          simp -implicitDefEqProofs only [go_sem, simprocAttr]
          refine app_gl (ys := lsW (c.pks pl (ws.map FV.toL) (b ++ [(k : Int)]))) (by simp -implicitDefEqProofs only [go_sem, simprocAttr, o18]; rfl) idx_56 (by simp -implicitDefEqProofs only [go_sem, simprocAttr]) (lsW_el _) (by simp -implicitDefEqProofs only [go_sem, simprocAttr]) (by simp [byt_22]; omega) (by simp [maxLen]; omega) (by simp) ?_
          simp -implicitDefEqProofs only [go_sem, simprocAttr, r10, hw]
          refine nxtL (acc ++ c.pks pl (ws.map FV.toL) (b ++ [(k : Int)])) ⟨by rw [← e]; simp, by simp; omega⟩ ?_
          simp -implicitDefEqProofs only [go_sem, simprocAttr, List.map_append]
        · rw [if_neg (fun h => hgo h.2)] at e
          simp -implicitDefEqProofs only [go_sem, simprocAttr, r10, index_map P.s idx_22 hn rfl, hgo, hw]
          refine nxtL acc ⟨by rw [← e]; simp, by omega⟩ ?_
          simp -implicitDefEqProofs only [go_sem, simprocAttr, r9, o18]
      · rw [if_neg (fun h => by rw [hc] at h; simp at h)] at e
        simp -implicitDefEqProofs only [go_sem, simprocAttr, hc, r10, hw]
        refine nxtL acc ⟨by rw [← e]; simp, by omega⟩ ?_
        simp -implicitDefEqProofs only [go_sem, simprocAttr, r9, o18]
def pkB (pl : List Int) (b : List Int) (x : List Int) : List Int := if longF pl x < longF pl b then x else b
theorem refP_fold (pl : List Int) (l : List Int) (L : List (List Int)) : refP pl (l :: L) = some (L.foldl (pkB pl) l) := rfl
theorem t44 {c : Cs} {sw sp sW spl : FV} {wl : List FV} {pl : List Int} (v : CV c sw sp) (ok : c.Ok) (W : WsV c sW wl) (P : PlV spl pl) :
    Fn Q 44 [.fo (c.fv sw sp), .fo sW, .fo spl] (.tup [.fx (optL (refP pl (c.pks pl (wl.map FV.toL) []))), .fx (.bool (refP pl (c.pks pl (wl.map FV.toL) [])).isSome)]) := by
  have o1 := ls_one v.w
  have o2 := ls_one v.p
  have o3 := ls_one P.s
  have oW := ls_one W.s
  have c99 := t99 v ok W P wl [] rfl (by simp)
  have hm := pks_long (c := c) P.b (wl.map FV.toL) []
  have hlen := pks_len (c := c) P.l (wl.map FV.toL) []
  have h2 : 6 ^ (wl.map FV.toL).length ≤ 6 ^ 5 := Nat.pow_le_pow_right (by decide) (by rw [List.length_map]; exact W.l)
  have wl5 := W.l
  have c100 : ∀ x ∈ c.pks pl (wl.map FV.toL) [], Fn Q 100 [.fo spl, .fo (.list false (ints x))] (.one (.fx (.int (longF pl x)))) := fun x hx => by
    obtain ⟨_, g2, g3⟩ := hm x hx
    exact t100 P.s P.b rfl (by rw [g2]; simp; omega) (fun y hy => by rcases g3 y hy with h | h; simp at h; exact h)
  have pkn : (c.pks pl (wl.map FV.toL) []).length ≤ 7776 := by omega
  generalize c.pks pl (wl.map FV.toL) [] = A at *
  cases A with
  | nil =>
    refine w44 ?_
    dsimp only [c44, sop, gop, nop, qmv, qsg, qex, qld, qcl, qln, qix, qbo, qt, qi]
    simp -implicitDefEqProofs only [go_sem, simprocAttr, o1, o2, oW, o3]
    refine call0 [14] false c99 (by simp -implicitDefEqProofs only [go_sem, simprocAttr, ints]) (.inl rfl) ?_
    simp -implicitDefEqProofs only [go_sem, simprocAttr, lsW, List.map_nil]
    refine ret_tup (fun _ => true) ?_ (by simp [ownNames])
    simp -implicitDefEqProofs only [go_sem, simprocAttr, refP, optL, Option.isSome]
  | cons l L =>
    have ne0 : (((L.length + 1 : Nat) : Int) == 0) = false := by simp; omega
    rw [refP_fold]
    have i0 : (lsW (l :: L))[0]? = some (.list false (ints l)) := rfl
    refine w44 ?_
    dsimp only [c44, sop, gop, nop, qmv, qsg, qex, qld, qcl, qln, qix, qbo, qt, qi]
    simp -implicitDefEqProofs only [go_sem, simprocAttr, o1, o2, oW, o3]
    refine call0 [14] false c99 (by simp -implicitDefEqProofs only [go_sem, simprocAttr, ints]) (.inl rfl) ?_
    simp only [List.length_cons] at pkn
    simp -implicitDefEqProofs only [go_sem, simprocAttr, List.map_cons, List.length_cons, ne0]
    refine lpH 22 [9, 10] 22 [] (fun a : Nat × List Int => L.length + 1 - a.1) (fun a => 1 ≤ a.1 ∧ a.1 ≤ L.length + 1 ∧ (L.drop (a.1 - 1)).foldl (pkB pl) a.2 = L.foldl (pkB pl) l ∧ a.2 ∈ l :: L) (fun a ρ h => ρ 10 = .fv (.int (a.1 : Nat)) ∧ ρ 9 = .fv (.list false (ints a.2))) (1, l) ⟨by simp, by simp, by simp, by simp⟩ ?_ ?_
    · simp -implicitDefEqProofs only [go_sem, simprocAttr]
    · rintro ⟨k, b⟩ ρ h ⟨k0, k1, e, hb⟩ ⟨r10, r9⟩
      dsimp only at k0 k1 e hb r10 r9
      obtain ⟨j, rfl⟩ : ∃ j, k = j + 1 := ⟨k - 1, by omega⟩
      rw [Nat.add_sub_cancel] at e
      by_cases hj : j < L.length
      · have hk' : ((j + 1 : Nat) : Int) < ((L.length + 1 : Nat) : Int) := by omega
        have hw : IntKind.i64.wrap (((j + 1 : Nat) : Int) + 1) = ((j + 1 + 1 : Nat) : Int) := wr _ (by omega) (by omega)
        have hx : L[j]? = some L[j] := List.getElem?_eq_getElem hj
        rw [drop_get hx, List.foldl_cons] at e
        have hxm : L[j] ∈ l :: L := List.mem_cons_of_mem _ (List.getElem_mem hj)
        have ix : (FV.list false (ints l) :: lsW L)[((j + 1 : Nat) : Int).toNat]? = some (.list false (ints L[j])) := by simp [lsW, hj]
        have jn : (0 : Int) ≤ ((j + 1 : Nat) : Int) := by omega
        generalize L[j] = x at *
        by_cases hc : longF pl x < longF pl b
        · simp -implicitDefEqProofs only [go_sem, simprocAttr, r10, hk', jn, ix, hx, o3]
          refine call1 [] false (c100 x hxm) ?_
          simp -implicitDefEqProofs only [go_sem, simprocAttr, r9]
          refine call1 [] false (c100 b hb) ?_
          simp -implicitDefEqProofs only [go_sem, simprocAttr, hc, r10, jn, ix, hx, hw]
          refine nxt (j + 1 + 1, x) (by simp only; omega) ⟨by simp only; omega, by simp only; omega, ?_, hxm⟩ ?_
          · simp only [Nat.add_sub_cancel]
            rw [← e]; simp [pkB, hc]
          · simp -implicitDefEqProofs only [go_sem, simprocAttr]
        · simp -implicitDefEqProofs only [go_sem, simprocAttr, r10, hk', jn, ix, hx, o3]
          refine call1 [] false (c100 x hxm) ?_
          simp -implicitDefEqProofs only [go_sem, simprocAttr, r9]
          refine call1 [] false (c100 b hb) ?_
          simp -implicitDefEqProofs only [go_sem, simprocAttr, hc, r10, hw]
          refine nxt (j + 1 + 1, b) (by simp only; omega) ⟨by simp only; omega, by simp only; omega, ?_, hb⟩ ?_
          · simp only [Nat.add_sub_cancel]
            rw [← e]; simp [pkB, hc]
          · simp -implicitDefEqProofs only [go_sem, simprocAttr, r9]
      · have hk' : ¬ ((j + 1 : Nat) : Int) < ((L.length + 1 : Nat) : Int) := by omega
        rw [List.drop_of_length_le (by omega), List.foldl_nil] at e
        simp -implicitDefEqProofs only [go_sem, simprocAttr, r10, hk', r9]
        refine ret_tup (fun _ => true) ?_ (by simp [ownNames])
        simp -implicitDefEqProofs only [go_sem, simprocAttr, ← e, optL, Option.isSome]
end S04

