/- A part of the proof: X04f. -/
import Derived.Test.YtncbkgbdpaibmaaP04e
import Derived.Test.YtncbkgbdpaibmaaX04e
set_option linter.unusedVariables false
set_option linter.unusedSimpArgs false
set_option maxRecDepth 20000
namespace S04
open Go Abs
theorem ints_getI {l : List Int} {i : Int} (h1 : 0 ≤ i) (h2 : i < l.length) : (ints l)[i.toNat]? = some (.int (gI l i)) := by simp [ints, gI_get h1 h2]
def wdF (room : Int) : Int := if 1 ≤ room then min 30 room else 0
theorem t37 {c : Cs} {sw sp s : FV} {w : List Int} {at' n : Int} (v : CV c sw sp) (ok : c.Ok) (ws : WV c s w) (a0 : 0 ≤ at') (a1 : at' < w.length) (n0 : 0 ≤ n) (n1 : n ≤ 400) : Fn Q 37 [.fo (c.fv sw sp), .fo s, .fo (.int at'), .fo (.int n)] (.one (.fx (.int (wdF (n - c.side w at'))))) := by
  have o1 := ls_one v.w
  have o2 := ls_one v.p
  obtain ⟨hs, hl, hb⟩ := ws
  have n8 := ok.n1
  have f1 := ls_lcells v.p
  have wset : ∀ z : Int, 1 ≤ z → z ≤ 30 → Fn Q 26 [.fo ((c.wid z).fv (.list false (ints (c.W ++ [z]))) sp), .fo (.list false (ints (w.set at'.toNat (c.W.length : Nat))))] (.one (.fx (.int (c.side w at' + z)))) := fun z z0 z1 => by
    have := t26r (c := c.wid z) (sw := .list false (ints (c.W ++ [z]))) (sp := sp) (s := .list false (ints (w.set at'.toNat (c.W.length : Nat)))) (w := w.set at'.toNat (c.W.length : Nat)) ⟨rfl, v.p, by simp [Cs.wid]; omega, v.pl⟩ (wid_rk ok z0 z1) ⟨rfl, by simpa using hl, fun x hx => by
      rcases List.mem_or_eq_of_mem_set hx with hx | rfl
      · have := hb x hx; simp [Cs.wid]; omega
      · simp [Cs.wid]; omega⟩
    rw [wid_nd ok hb a0 a1 z0 z1] at this
    exact this
  refine w37 ?_
  dsimp only [c37, sop, gop, nop, qmv, qsg, qex, qld, qcl, qln, qix, qbo, qt, qi]
  simp -implicitDefEqProofs only [go_sem, simprocAttr, o1, o2]
  refine lpH 13 [9, 10, 11, 12] 13 [11] (fun z : Nat => 31 - z) (fun z => 1 ≤ z ∧ z ≤ 31) (fun z ρ h => ρ 10 = .fv (.int (z : Nat)) ∧ ρ 9 = .fv (.int (if 1 ≤ n - c.side w at' then min ((z : Int) - 1) (n - c.side w at') else 0))) 1 ⟨by omega, by omega⟩ ?_ ?_
  · simp -implicitDefEqProofs only [go_sem, simprocAttr]
    split <;> simp <;> omega
  · rintro z ρ h ⟨z0, z1⟩ ⟨r10, r9⟩
    by_cases hz : z ≤ 30
    · have hz' : (z : Int) ≤ 30 := by omega
      have hw : IntKind.i64.wrap ((z : Int) + 1) = ((z + 1 : Nat) : Int) := wr _ (by omega) (by omega)
      have c26 := wset (z : Int) (by omega) hz'
      simp -implicitDefEqProofs only [go_sem, simprocAttr, r10, hz']
      refine W_opsD _ _ _ (Vs [[17], [], [], [17], [], [22], [17], [], [], [], [], [], [], [17], [11], [11, 17]]) ?_ ?_
      · decide
      simp -implicitDefEqProofs only [go_sem, simprocAttr, o1, o2]
      refine app_cp (by simp -implicitDefEqProofs only [go_sem, simprocAttr] <;> rfl) idx_22 v.w (fun x hx => (ints_elem c.W x hx).1) (by simp -implicitDefEqProofs only [go_sem, simprocAttr]) (by simp [byt_3, ints]; omega) (by simp [maxLen, ints]; omega) ?_
      intro g1
      simp -implicitDefEqProofs only [go_sem, simprocAttr, r10]
      refine app_gl (by simp -implicitDefEqProofs only [go_sem, simprocAttr]; rfl) idx_22 (by simp -implicitDefEqProofs only [go_sem, simprocAttr]; rfl) (by simp [FV.cells]) (by simp -implicitDefEqProofs only [go_sem, simprocAttr]) (by simp [byt_3, ints]; omega) (by simp [maxLen, ints]; omega) (by simp) ?_
      simp -implicitDefEqProofs only [go_sem, simprocAttr, o2, f1]
      refine app_cp (by simp -implicitDefEqProofs only [go_sem, simprocAttr] <;> rfl) idx_22 hs (fun x hx => (ints_elem w x hx).1) (by simp -implicitDefEqProofs only [go_sem, simprocAttr]) (by simp [byt_3, ints]; omega) (by simp [maxLen, ints]; omega) ?_
      intro g2
      simp -implicitDefEqProofs only [go_sem, simprocAttr, a0, a1, lenV_ls v.w, ints_length]
      refine sto_elem (by rfl) (by rfl) (by rfl) (by simp -implicitDefEqProofs only [go_sem, simprocAttr]; rfl) (ints_getI a0 a1) (by decide) ?_
      simp -implicitDefEqProofs only [go_sem, simprocAttr, FV.withCells, ints_set]
      refine call0 [] true c26 (by simp -implicitDefEqProofs only [go_sem, simprocAttr, ints, List.map_append, Cs.wid] <;> rfl) (.inr rfl) ?_
      by_cases hc : c.side w at' + (z : Int) ≤ n
      · simp -implicitDefEqProofs only [go_sem, simprocAttr, hc, r10, hw]
        refine nxt (z + 1) (by omega) ⟨by omega, by omega⟩ ?_
        have e1 : (if 1 ≤ n - c.side w at' then min (((z + 1 : Nat) : Int) - 1) (n - c.side w at') else 0) = (z : Int) := by rw [if_pos (by omega)]; omega
        simp -implicitDefEqProofs only [go_sem, simprocAttr, e1]
      · simp -implicitDefEqProofs only [go_sem, simprocAttr, hc, r10, hw, r9]
        refine nxt (z + 1) (by omega) ⟨by omega, by omega⟩ ?_
        have e1 : (if 1 ≤ n - c.side w at' then min (((z + 1 : Nat) : Int) - 1) (n - c.side w at') else 0) = (if 1 ≤ n - c.side w at' then min ((z : Int) - 1) (n - c.side w at') else 0) := by split <;> omega
        simp -implicitDefEqProofs only [go_sem, simprocAttr, e1, r9]
    · have hz' : ¬ (z : Int) ≤ 30 := by omega
      obtain rfl : z = 31 := by omega
      simp -implicitDefEqProofs only [go_sem, simprocAttr, r10, hz', r9]
      refine ret_eq ?_
      unfold wdF
      split <;> simp
end S04

