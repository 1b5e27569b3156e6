/- A part of the proof: G04v, G04w. -/
import Derived.Test.YtncbkgbdpaibmaaG04t
set_option linter.unusedVariables false
set_option linter.unusedSimpArgs false
set_option maxRecDepth 20000
namespace S04
open Go Abs
def best2 (b : Option (List Int × Int)) (x : List Int × Int) : Option (List Int × Int) :=
  match b with
  | none => some x
  | some y => if x.2 < y.2 then some x else some y
def LinesIs (c : Cs) (n : Int) (W : List (List Int)) (r : List Int × Int) : Prop :=
  ∃ L : Nat, 1 ≤ L ∧ L ≤ 10 ∧ (c.brk n W L 0).foldl best2 none = some r ∧ ∀ k, 1 ≤ k → k < L → c.brk n W k 0 = []
def errB0 (c : Cs) (W : List (List Int)) : Int := if errC c ≠ 0 then errC c else if W.length = 0 then 7 else if 5 < W.length then 5 else errO c W
def errB (c : Cs) (n : Int) (W : List (List Int)) : Int := if errB0 c W ≠ 0 then errB0 c W else if inB 1 400 n = false then 3 else if W.any (fun w => decide (n < c.nd w)) then 8 else 0
theorem mk_WsV {c : Cs} {sW : FV} {W : List (List Int)} {wl : List FV} (hw1 : lsOf sW = some wl) (hw2 : wl.map FV.toL = W) (hw3 : ∀ x ∈ wl, ∃ l : List Int, lsOf x = some (ints l) ∧ l.length ≤ 9223372036854775807) (h5 : W.length ≤ 5) (e : errO c W = 0) : WsV c sW wl := by
  obtain ⟨ok, hW⟩ := errO_ok e
  refine ⟨hw1, fun x hx => ?_, by rw [← hw2] at h5; simpa using h5⟩
  obtain ⟨l, hl, _⟩ := hw3 x hx
  have e1 := toL_ls hl
  have := hW l (by rw [← hw2, ← e1]; exact List.mem_map.2 ⟨x, hx, rfl⟩)
  rw [e1]
  exact ⟨hl, by omega, this.2.2⟩
end S04

namespace S04
open Go Abs
def optB : Option (List Int × Int) → FV × Int
  | none => (.nil, 0)
  | some x => (.list false (ints x.1), x.2)
theorem errB_ok {c : Cs} {n : Int} {W : List (List Int)} (e : errB c n W = 0) : W.length ≤ 5 ∧ W.length ≠ 0 ∧ errC c = 0 ∧ errO c W = 0 ∧ inB 1 400 n = true ∧ (W.any fun w => decide (n < c.nd w)) = false := by
  unfold errB at e
  split at e
  · rename_i h; exact absurd e h
  split at e
  · simp at e
  split at e
  · simp at e
  rename_i h1 h2 h3
  have h0 : errB0 c W = 0 := by simpa using h1
  unfold errB0 at h0
  split at h0
  · rename_i h; exact absurd h0 h
  split at h0
  · simp at h0
  split at h0
  · simp at h0
  rename_i h4 h5 h6
  exact ⟨by omega, h5, by simpa using h4, h0, by simpa using h2, by simpa using h3⟩
theorem t39 {c : Cs} {sw sp sW : FV} {W : List (List Int)} {n : Int} {r : List Int × Int} (v : CV c sw sp) (hW : Lists sW W) (e : errB c n W = 0) (hr : LinesIs c n W r) :
    Fn Q 39 [.fo (c.fv sw sp), .fo sW, .fo (.int n)] (.tup [.fx (.list false (ints r.1)), .fx (.int r.2), .fx (.int 0)]) := by
  have o1 := ls_one v.w
  have o2 := ls_one v.p
  have c19 := t19 v
  obtain ⟨L, L1, L10, H1, H2⟩ := hr
  have hl := errB_ok e
  obtain ⟨h5, e2, e1, e4, e5, e6⟩ := hl
  have c73 := t73 v hW (by omega)
  obtain ⟨wl, hw1, hw2, hw3⟩ := hW
  have oW := ls_one hw1
  have hwl : wl.length = W.length := by rw [← hw2]; simp
  rw [e1] at c19
  rw [if_pos e1, e4] at c73
  have e2' : (((W.length : Nat) : Int) == 0) = false := by simp; intro h; exact e2 (by simp [h])
  have e3' : ¬ (5 : Int) < (W.length : Nat) := by omega
  have wv := mk_WsV hw1 hw2 hw3 h5 e4
  have ok := errC_ok e1
  have cb : ∀ x ∈ wl, Fn Q 95 (.fo x :: [FV.ptr (c.bc sw sp), .ptr [.int n]].map .fo) (.one (.fx (.bool (decide (n < c.nd x.toL))))) := fun x hx => t95 v ok (wv.w x hx)
  have eany : (wl.any fun x => decide (n < c.nd x.toL)) = W.any fun w => decide (n < c.nd w) := by rw [← hw2, List.any_map]; rfl
  obtain ⟨n0, n1⟩ := inB_iff.1 e5
  have hne : wl ≠ [] := by rintro rfl; exact e2 (by simpa using hwl.symm)
  have lpos : 0 < wl.length := List.length_pos_iff.2 hne
  refine w39 ?_
  dsimp only [c39, sop, gop, nop, qmv, qsg, qex, qld, qcl, qln, qix, qbo, qt, qi]
  simp -implicitDefEqProofs only [go_sem, simprocAttr, o1, o2]
  refine call1 [] false (c19) ?_
  simp -implicitDefEqProofs only [go_sem, simprocAttr, lenV_ls hw1, hwl, e2', e3', o1, o2]
  refine call1 [] false (c73) ?_
  simp -implicitDefEqProofs only [go_sem, simprocAttr, mapV, o1, o2]
  refine call1 [] true (u82 n) ?_
  simp -implicitDefEqProofs only [go_sem, simprocAttr, e5]
  refine callC t94 true (fun x => decide (n < c.nd x.toL)) (by rfl) hw1 (fun x hx => ls_elem (wv.w x hx).s) (by omega) en95 (by simp -implicitDefEqProofs only [go_sem, simprocAttr]; rfl) cb ?_
  simp -implicitDefEqProofs only [go_sem, simprocAttr, eany, e6, o1, o2, oW, ls_lcells hw1]
  refine lpH 51 [11, 12, 13] 51 [6, 7] (fun a : Nat × Option (List Int × Int) => L + 1 - a.1) (fun a => 1 ≤ a.1 ∧ a.1 ≤ L + 1 ∧ (a.2 = none → a.1 ≤ L) ∧ ∀ x, a.2 = some x → x = r ∧ a.1 = L + 1) (fun a ρ h => ρ 11 = .fv (.int (a.1 : Nat)) ∧ h.gen 6 = 1 ∧ h.gen 7 = 1 ∧ h.obj 6 = some (.box [.fv (optB a.2).1]) ∧ h.obj 7 = some (.box [.fv (.int (optB a.2).2)])) (1, none) ⟨by simp, by simp only; omega, fun _ => L1, by simp⟩ ?_ ?_
  · simp -implicitDefEqProofs only [go_sem, simprocAttr, optB]
  · rintro ⟨k, b⟩ ρ h ⟨k0, k1, i2, i3⟩ ⟨r11, g6, g7, o6, o7⟩
    dsimp only at k0 k1 i2 i3 r11 o6 o7
    cases b with
    | some x =>
      obtain ⟨rfl, rfl⟩ := i3 x rfl
      simp -implicitDefEqProofs only [go_sem, simprocAttr, g6, o6, g7, o7, optB, eqV, nilEq, und_22]
      refine W_opsD _ _ _ (Vs [[], [], [6], [7], []]) ?_ ?_
      · decide
      simp -implicitDefEqProofs only [go_sem, simprocAttr, g6, o6, g7, o7, optB]
      refine ret_tup (fun _ => true) ?_ (by simp [ownNames])
      simp -implicitDefEqProofs only [go_sem, simprocAttr, g6, o6, g7, o7]
    | none =>
      have kL := i2 rfl
      obtain ⟨k', rfl⟩ : ∃ k', k = k' + 1 := ⟨k - 1, by omega⟩
      have wk : IntKind.i64.wrap (((k' + 1 : Nat) : Int) + 1) = ((k' + 1 + 1 : Nat) : Int) := wr _ (by omega) (by omega)
      have c96 := t96 (n := n) (a := 0) (b := ((k' + 1 : Nat) : Int)) v wv
      have c121 := t121 (n := n) v ok wv (by omega) (by omega) hne k' 0 lpos (by omega)
      rw [hw2] at c121
      simp -implicitDefEqProofs only [go_sem, simprocAttr, g6, o6, optB, eqV, nilEq, und_22, r11]
      refine call0 [] false c96 (by simp -implicitDefEqProofs only [go_sem, simprocAttr]; rfl) (.inl rfl) ?_
      simp -implicitDefEqProofs only [go_sem, simprocAttr]
      refine rgH 58 [6, 7] [] ((c.brk n W (k' + 1) 0).map itB) (argSq (by rfl) c121) (β := List (List Int × Int) × Option (List Int × Int)) (fun ys a => ys = a.1.map itB ∧ a.1.foldl best2 a.2 = (c.brk n W (k' + 1) 0).foldl best2 none) (fun ys a h => h.gen 6 = 1 ∧ h.gen 7 = 1 ∧ h.obj 6 = some (.box [.fv (optB a.2).1]) ∧ h.obj 7 = some (.box [.fv (.int (optB a.2).2)])) (c.brk n W (k' + 1) 0, none) ⟨rfl, rfl⟩ ?_ ?_ ?_
      · simp -implicitDefEqProofs only [go_sem, simprocAttr, g6, o6, g7, o7, optB]
      · rintro ⟨a, b⟩ q ⟨e1', e2'⟩ ⟨q6, q7, p6, p7⟩
        dsimp only at e1' e2' p6 p7
        obtain rfl : a = [] := by cases a <;> simp_all
        rw [List.foldl_nil] at e2'
        simp -implicitDefEqProofs only [go_sem, simprocAttr, r11, wk]
        refine nxt (k' + 1 + 1, b) (by simp only; omega) ⟨by simp only; omega, by simp only; omega, ?_, ?_⟩ ?_
        · intro hb
          dsimp only at hb ⊢
          refine Classical.byContradiction fun hx => ?_
          have : k' + 1 = L := by omega
          subst this
          rw [hb, H1] at e2'
          simp at e2'
        · intro x hx
          dsimp only at hx ⊢
          by_cases hlt : k' + 1 < L
          · rw [hx, H2 _ (by omega) hlt] at e2'
            simp at e2'
          · have : k' + 1 = L := by omega
            subst this
            rw [hx, H1] at e2'
            exact ⟨by simpa using e2', rfl⟩
        · simp -implicitDefEqProofs only [go_sem, simprocAttr, q6, q7, p6, p7]
          exact ⟨rfl, rfl⟩
      · rintro y ys ⟨a, b⟩ q ⟨e1', e2'⟩ ⟨q6, q7, p6, p7⟩
        dsimp only at e1' e2' p6 p7
        obtain ⟨⟨l, m⟩, zs, rfl⟩ : ∃ q zs, a = q :: zs := by
          cases a with
          | nil => simp at e1'
          | cons q zs => exact ⟨q, zs, rfl⟩
        simp only [List.map_cons, List.cons.injEq] at e1'
        obtain ⟨rfl, rfl⟩ := e1'
        rw [List.foldl_cons] at e2'
        refine ⟨rfl, ?_⟩
        cases b with
        | none =>
          simp -implicitDefEqProofs only [go_sem, simprocAttr, itB, q6, p6, q7, p7, optB, eqV, nilEq, und_22]
          refine ⟨(zs, some (l, m)), ⟨rfl, e2'⟩, ?_⟩
          simp -implicitDefEqProofs only [go_sem, simprocAttr, q6, q7, optB]
        | some x =>
          by_cases hx : m < x.2
          · simp -implicitDefEqProofs only [go_sem, simprocAttr, itB, q6, p6, q7, p7, optB, eqV, nilEq, und_22, hx]
            refine ⟨(zs, some (l, m)), ⟨rfl, by simpa [best2, hx] using e2'⟩, ?_⟩
            simp -implicitDefEqProofs only [go_sem, simprocAttr, q6, q7, optB]
          · simp -implicitDefEqProofs only [go_sem, simprocAttr, itB, q6, p6, q7, p7, optB, eqV, nilEq, und_22, hx]
            refine ⟨(zs, some x), ⟨rfl, by simpa [best2, hx] using e2'⟩, ?_⟩
            simp -implicitDefEqProofs only [go_sem, simprocAttr, q6, q7, p6, p7, optB]
end S04

