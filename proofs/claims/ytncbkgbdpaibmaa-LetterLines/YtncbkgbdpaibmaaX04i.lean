/- A part of the proof: X04i. -/
import Derived.Test.YtncbkgbdpaibmaaH04h
import Derived.Test.YtncbkgbdpaibmaaC04r0
set_option linter.unusedVariables false
set_option linter.unusedSimpArgs false
set_option maxRecDepth 20000
namespace S04
open Go Abs
@[reducible] def lsW (W : List (List Int)) : List FV := W.map fun l => .list false (ints l)
theorem t38 {sW : FV} {W : List (List Int)} (hW : Lists sW W) (hl : W.length ≤ 1000) (lW : ∀ l ∈ W, l.length ≤ 1000) : Fn Q 38 [.fo sW] (.one (.fx (.list false (lsW W)))) := by
  obtain ⟨wl, w1, w2, w3⟩ := hW
  have la : wl.length = W.length := by rw [← w2]; simp
  refine w38 ?_
  dsimp only [c38, sop, gop, nop, qmv, qsg, qex, qld, qcl, qln, qix, qbo, qt, qi]
  simp -implicitDefEqProofs only [go_sem, simprocAttr]
  refine lpH 6 [3, 4] 6 [5] (fun k : Nat => W.length - k) (fun k => k ≤ W.length) (fun k ρ h => ρ 4 = .fv (.int (k : Nat)) ∧ ρ 3 = .gl 5 (h.gen 5) ∧ h.obj 5 = some (.list 22 1 false false (lsW (W.take k)))) 0 (Nat.zero_le _) ?_ ?_
  · simp -implicitDefEqProofs only [go_sem, simprocAttr, List.take_zero, lsW]
  · rintro k ρ h hk ⟨r4, r3, o5⟩
    by_cases q : k < W.length
    · have q' : (k : Int) < (W.length : Nat) := by omega
      have hw : IntKind.i64.wrap ((k : Int) + 1) = ((k + 1 : Nat) : Int) := wr _ (by omega) (by omega)
      obtain ⟨x, hx⟩ : ∃ x, wl[k]? = some x := ⟨_, List.getElem?_eq_getElem (by omega)⟩
      obtain ⟨l, hl1, hl2, hl3⟩ := lists_get w2 w3 hx
      have ll := lW l (List.mem_of_getElem? hl2)
      have et : W.take (k + 1) = W.take k ++ [l] := by rw [List.take_add_one, hl2]; rfl
      simp -implicitDefEqProofs only [go_sem, simprocAttr, r4, r3, lenV_ls w1, la, q', index_ls w1 idx_56 hx (by rw [hl3]; rfl), hl3]
      refine app_cp (by simp -implicitDefEqProofs only [go_sem, simprocAttr] <;> rfl) idx_22 hl1 (fun y hy => (ints_elem l y hy).1) (by simp -implicitDefEqProofs only [go_sem, simprocAttr]) (by simp [byt_3, ints]; omega) (by simp [maxLen, ints]; omega) ?_
      intro g1
      simp -implicitDefEqProofs only [go_sem, simprocAttr, r3]
      refine app_gl (by simp -implicitDefEqProofs only [go_sem, simprocAttr, o5]; rfl) idx_56 (by simp -implicitDefEqProofs only [go_sem, simprocAttr]; rfl) (by simp [FV.cells]) (by simp -implicitDefEqProofs only [go_sem, simprocAttr]) (by simp [byt_22]; omega) (by simp [maxLen]; omega) (by simp) ?_
      simp -implicitDefEqProofs only [go_sem, simprocAttr, r4, hw]
      refine nxt (k + 1) (by omega) (by omega) ?_
      rw [et]
      simp -implicitDefEqProofs only [go_sem, simprocAttr, List.map_append]
    · have q' : ¬ (k : Int) < (W.length : Nat) := by omega
      have et : W.take k = W := List.take_of_length_le (by omega)
      rw [et] at o5
      simp -implicitDefEqProofs only [go_sem, simprocAttr, r4, r3, lenV_ls w1, la, q']
      exact ret_fx (fun _ => true) (by simp -implicitDefEqProofs only [go_sem, simprocAttr, o5])
theorem t41 {c : Cs} {sw sp sW : FV} {W : List (List Int)} (v : CV c sw sp) (hW : Lists sW W) (hl : W.length ≤ 1000) (lW : ∀ l ∈ W, l.length ≤ 1000) : Fn Q 41 [.fo (c.fv sw sp), .fo sW] (.one (.fx (.int (if W.any (fun w => !isW c.W.length 0 w) then 4 else 0)))) := by
  obtain ⟨wl, w1, w2, w3⟩ := hW
  have la : wl.length = W.length := by rw [← w2]; simp
  have o1 := ls_one v.w
  have o2 := ls_one v.p
  refine w41 ?_
  dsimp only [c41, sop, gop, nop, qmv, qsg, qex, qld, qcl, qln, qix, qbo, qt, qi]
  simp -implicitDefEqProofs only [go_sem, simprocAttr, o1, o2]
  refine lpH 6 [5] 6 [] (fun k : Nat => W.length - k) (fun k => k ≤ W.length ∧ (W.take k).any (fun w => !isW c.W.length 0 w) = false) (fun k ρ h => ρ 5 = .fv (.int (k : Nat))) 0 ⟨Nat.zero_le _, by simp⟩ ?_ ?_
  · simp -implicitDefEqProofs only [go_sem, simprocAttr]
  · rintro k ρ h ⟨hk, ea⟩ r5
    by_cases q : k < W.length
    · have q' : (k : Int) < (W.length : Nat) := by omega
      have hw : IntKind.i64.wrap ((k : Int) + 1) = ((k + 1 : Nat) : Int) := wr _ (by omega) (by omega)
      obtain ⟨x, hx⟩ : ∃ x, wl[k]? = some x := ⟨_, List.getElem?_eq_getElem (by omega)⟩
      obtain ⟨l, hl1, hl2, hl3⟩ := lists_get w2 w3 hx
      have ll := lW l (List.mem_of_getElem? hl2)
      have et : W.take (k + 1) = W.take k ++ [l] := by rw [List.take_add_one, hl2]; rfl
      have c25 := t25 v hl1 (by omega) false
      cases e : isW c.W.length 0 l
      · simp -implicitDefEqProofs only [go_sem, simprocAttr, r5, lenV_ls w1, la, q', index_ls w1 idx_56 hx (by rw [hl3]; rfl), hl3, o1, o2]
        refine call1 [] false (c25) ?_
        simp -implicitDefEqProofs only [go_sem, simprocAttr, e]
        refine ret_eq ?_
        have : W.any (fun w => !isW c.W.length 0 w) = true := List.any_eq_true.2 ⟨l, List.mem_of_getElem? hl2, by simp [e]⟩
        rw [this]; rfl
      · simp -implicitDefEqProofs only [go_sem, simprocAttr, r5, lenV_ls w1, la, q', index_ls w1 idx_56 hx (by rw [hl3]; rfl), hl3, o1, o2]
        refine call1 [] false (c25) ?_
        simp -implicitDefEqProofs only [go_sem, simprocAttr, e, r5, hw]
        refine nxt (k + 1) (by omega) ⟨by omega, by rw [et, List.any_append, ea]; simp [e]⟩ ?_
        simp -implicitDefEqProofs only [go_sem, simprocAttr]
    · have q' : ¬ (k : Int) < (W.length : Nat) := by omega
      rw [List.take_of_length_le (by omega)] at ea
      simp -implicitDefEqProofs only [go_sem, simprocAttr, r5, lenV_ls w1, la, q']
      exact ret_eq (by rw [ea]; rfl)
end S04

