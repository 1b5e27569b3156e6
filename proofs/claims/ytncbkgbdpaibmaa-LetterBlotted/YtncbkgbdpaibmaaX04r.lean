/- A part of the proof: X04r. -/
import Derived.Test.YtncbkgbdpaibmaaP04d
import Derived.Test.YtncbkgbdpaibmaaH04h
import Derived.Test.YtncbkgbdpaibmaaC04h0
set_option linter.unusedVariables false
set_option linter.unusedSimpArgs false
set_option maxRecDepth 20000
namespace S04
open Go Abs
def u8 (x : Int) : FV := .val (.int .u8 x)
theorem t53 {s : FV} {l : List Int} (hs : lsOf s = some (ints l)) (hl : l.length ≤ 1000000) : Fn Q 53 [.fo s] (.one (.fx (.list false (ints l)))) := by
  refine w53 ?_
  dsimp only [c53, sop, gop, nop, qmv, qsg, qex, qld, qcl, qln, qix, qbo, qt, qi]
  simp -implicitDefEqProofs only [go_sem, simprocAttr]
  refine app_cp (by simp -implicitDefEqProofs only [go_sem, simprocAttr] <;> rfl) idx_22 hs (fun x hx => (ints_elem l x hx).1) (by simp -implicitDefEqProofs only [go_sem, simprocAttr]) (by simp [byt_3, ints]; omega) (by simp [maxLen, ints]; omega) ?_
  intro g1
  simp -implicitDefEqProofs only [go_sem, simprocAttr]
  exact ret_fx (fun _ => true) (by simp -implicitDefEqProofs only [go_sem, simprocAttr])
theorem t53o {s : FV} {l : List Int} (hs : lsOf s = some (ints l)) (hl : l.length ≤ 1000000) (hne : l ≠ []) : Fn Q 53 [.fo s] (.one (.own 3 1 false (ints l))) := by
  have e2 : ∀ x ∈ ints l, x.cells.length = 1 := fun x hx => (ints_elem l x hx).1
  rcases ls_cases hs with ⟨f, rfl⟩ | ⟨rfl, e⟩
  · refine w53 ?_
    dsimp only [c53, sop, gop, nop, qmv, qsg, qex, qld, qcl, qln, qix, qbo, qt, qi]
    simp -implicitDefEqProofs only [go_sem, simprocAttr]
    refine app_gl (by simp -implicitDefEqProofs only [go_sem, simprocAttr]; rfl) idx_22 (by simp -implicitDefEqProofs only [go_sem, simprocAttr]) e2 (by simp -implicitDefEqProofs only [go_sem, simprocAttr]) (by simp [byt_3, ints]; omega) (by simp [maxLen, ints]; omega) (by simp) ?_
    simp -implicitDefEqProofs only [go_sem, simprocAttr]
    exact ret_own (by simp -implicitDefEqProofs only [go_sem, simprocAttr]) (by simp -implicitDefEqProofs only [go_sem, simprocAttr, List.nil_append])
  · exact absurd (by simpa [ints] using e) hne
theorem t61 {s : FV} {l : List Int} {n : Int} (hs : lsOf s = some (ints l)) (hl : l.length ≤ 1000000) : Fn Q 61 [.fo s, .fo (.int n)] (.one (.fx (.bool (l.contains n)))) := by
  refine w61 ?_
  dsimp only [c61, sop, gop, nop, qmv, qsg, qex, qld, qcl, qln, qix, qbo, qt, qi]
  simp -implicitDefEqProofs only [go_sem, simprocAttr]
  refine lpH 6 [5] 6 [] (fun k : Nat => l.length - k) (fun k => k ≤ l.length ∧ (l.take k).contains n = false) (fun k ρ h => ρ 5 = .fv (.int (k : Nat))) 0 ⟨Nat.zero_le _, by simp⟩ ?_ ?_
  · simp -implicitDefEqProofs only [go_sem, simprocAttr]
  · rintro k ρ h ⟨k1, ea⟩ r5
    by_cases hk : k < l.length
    · have hk' : (k : Int) < (l.length : Nat) := by omega
      have hw : IntKind.i64.wrap ((k : Int) + 1) = ((k + 1 : Nat) : Int) := wr _ (by omega) (by omega)
      obtain ⟨x, hx⟩ : ∃ x, l[k]? = some x := ⟨_, List.getElem?_eq_getElem hk⟩
      have et : l.take (k + 1) = l.take k ++ [x] := by rw [List.take_add_one, hx]; rfl
      by_cases e : x = n
      · have e' : (x == n) = true := by simpa using e
        have hm : l.contains n = true := by have := List.mem_of_getElem? hx; rw [e] at this; simpa using this
        simp -implicitDefEqProofs only [go_sem, simprocAttr, r5, lenV_ls hs, ints_length, hk', index_map hs idx_22 hx rfl, e']
        exact ret_eq (by rw [hm])
      · have e' : (x == n) = false := by simpa using e
        simp -implicitDefEqProofs only [go_sem, simprocAttr, r5, lenV_ls hs, ints_length, hk', index_map hs idx_22 hx rfl, e', hw]
        refine nxt (k + 1) (by omega) ⟨by omega, ?_⟩ ?_
        · rw [et, List.contains_append, ea]
          simpa using fun h => e h.symm
        · simp -implicitDefEqProofs only [go_sem, simprocAttr]
    · have hk' : ¬ (k : Int) < (l.length : Nat) := by omega
      rw [List.take_of_length_le (by omega)] at ea
      simp -implicitDefEqProofs only [go_sem, simprocAttr, r5, lenV_ls hs, ints_length, hk']
      exact ret_eq (by rw [ea])
def ownW (c : Cs) : FV := .list false (ints c.W)
theorem t52 {c : Cs} {sw sp : FV} (v : CV c sw sp) (lW : c.W.length ≤ 1000000) (lP : c.P.length ≤ 1000000) : Fn Q 52 [.fo (c.fv sw sp)] (.one (.fx (c.fv (swC c) (spC c)))) := by
  have o1 := ls_one v.w
  have o2 := ls_one v.p
  have c53 := t53 v.w lW
  obtain ⟨hw, hp, _, _⟩ := v
  rcases ls_cases hp with ⟨f', rfl⟩ | ⟨rfl, e2⟩
  · refine w52 ?_
    dsimp only [c52, sop, gop, nop, qmv, qsg, qex, qld, qcl, qln, qix, qbo, qt, qi]
    simp -implicitDefEqProofs only [go_sem, simprocAttr, o1, o2]
    refine W_opsD _ _ _ (Vs [[], [], [], [6], [], [], [6, 9], [], [1], [], [1]]) ?_ ?_
    · decide
    simp -implicitDefEqProofs only [go_sem, simprocAttr, o1, o2]
    refine callD [] false [.fo sw] [] c53 ⟨rfl, trivial⟩ rfl (.inl rfl) ?_
    simp -implicitDefEqProofs only [go_sem, simprocAttr]
    refine app_gl (ys := c.P.map tF) (by simp -implicitDefEqProofs only [go_sem, simprocAttr]; rfl) idx_23 (by simp -implicitDefEqProofs only [go_sem, simprocAttr]) (fun x hx => (tF_elem c.P x hx).1) (by simp -implicitDefEqProofs only [go_sem, simprocAttr]) (by simp [byt_108]; omega) (by simp [maxLen]; omega) (by simp) ?_
    simp -implicitDefEqProofs only [go_sem, simprocAttr]
    exact ret_fx (fun _ => true) (by simp -implicitDefEqProofs only [go_sem, simprocAttr, swC, spC] <;> rfl)
  · have eP : c.P = [] := by simpa using e2
    refine w52 ?_
    dsimp only [c52, sop, gop, nop, qmv, qsg, qex, qld, qcl, qln, qix, qbo, qt, qi]
    simp -implicitDefEqProofs only [go_sem, simprocAttr, o1, o2]
    refine W_opsD _ _ _ (Vs [[], [], [], [6], [], [], [6, 9], [], [1], [], [1]]) ?_ ?_
    · decide
    simp -implicitDefEqProofs only [go_sem, simprocAttr, o1, o2]
    refine callD [] false [.fo sw] [] c53 ⟨rfl, trivial⟩ rfl (.inl rfl) ?_
    simp -implicitDefEqProofs only [go_sem, simprocAttr]
    refine app_none (by simp -implicitDefEqProofs only [go_sem, simprocAttr]; rfl) idx_23 ?_
    simp -implicitDefEqProofs only [go_sem, simprocAttr]
    exact ret_fx (fun _ => true) (by simp -implicitDefEqProofs only [go_sem, simprocAttr, swC, spC, eP] <;> rfl)
def wordF (bs : List Int) : List Int := if bs = [] then [0] else (bs.take 7).map (·.tmod 6)
theorem t51 {s : FV} {bs : List Int} (h : lsOf s = some (bs.map u8)) (hb : ∀ x ∈ bs, 0 ≤ x ∧ x < 256) (hl : bs.length ≤ 9223372036854775807) :
    Fn Q 51 [.fo s] (.one (.fx (.list false (ints (wordF bs))))) := by
  refine w51 ?_
  dsimp only [c51, sop, gop, nop, qmv, qsg, qex, qld, qcl, qln, qix, qbo, qt, qi]
  simp -implicitDefEqProofs only [go_sem, simprocAttr]
  refine lpH 6 [3, 4] 6 [5] (fun k : Nat => 7 - k) (fun k => k ≤ 7 ∧ k ≤ bs.length) (fun k ρ h => ρ 4 = .fv (.int (k : Nat)) ∧ ρ 3 = .gl 5 (h.gen 5) ∧ h.obj 5 = some (.list 3 1 false false (ints ((bs.take k).map (·.tmod 6))))) 0 ⟨by omega, by omega⟩ ?_ ?_
  · simp -implicitDefEqProofs only [go_sem, simprocAttr, List.take_zero, ints]
  · rintro k ρ h' ⟨hk, hk2⟩ ⟨r4, r3, o5⟩
    by_cases q1 : k < bs.length
    · have q1' : (k : Int) < (bs.length : Nat) := by omega
      by_cases q2 : k < 7
      · have q2' : (k : Int) < 7 := by omega
        obtain ⟨x, hx⟩ : ∃ x, bs[k]? = some x := ⟨_, List.getElem?_eq_getElem q1⟩
        have hxb := hb x (List.mem_of_getElem? hx)
        have hw : IntKind.i64.wrap ((k : Int) + 1) = ((k + 1 : Nat) : Int) := wr _ (by omega) (by omega)
        have hwx : IntKind.i64.wrap x = x := wr _ (by omega) (by omega)
        have et : bs.take (k + 1) = bs.take k ++ [x] := by rw [List.take_add_one, hx]; rfl
        simp -implicitDefEqProofs only [go_sem, simprocAttr, r4, r3, lenV_ls h, q1', q2', index_map h idx_82 hx rfl, u8, hwx]
        refine app_gl (by simp -implicitDefEqProofs only [go_sem, simprocAttr, o5]; rfl) idx_22 (by simp -implicitDefEqProofs only [go_sem, simprocAttr]; rfl) (by simp [FV.cells]) (by simp -implicitDefEqProofs only [go_sem, simprocAttr]) (by simp [byt_3, ints]; omega) (by simp [maxLen, ints]; omega) (by simp) ?_
        simp -implicitDefEqProofs only [go_sem, simprocAttr, r4, hw]
        refine nxt (k + 1) (by omega) ⟨by omega, by omega⟩ ?_
        simp -implicitDefEqProofs only [go_sem, simprocAttr, et, ints, List.map_append]
      · have q2' : ¬ (k : Int) < 7 := by omega
        have e6 : k = 7 := by omega
        subst e6
        have q3 : (7 : Int) < (bs.length : Nat) := by omega
        have hne : ¬ (bs = []) := by rintro rfl; simp at hk2
        have z : ((((List.take 7 bs).length : Nat) : Int) == 0) = false := by simp; omega
        simp -implicitDefEqProofs only [go_sem, simprocAttr, r4, r3, lenV_ls h, q3, o5, z]
        exact ret_fx (fun _ => true) (by simp -implicitDefEqProofs only [go_sem, simprocAttr, o5, wordF, hne])
    · have q1' : ¬ (k : Int) < (bs.length : Nat) := by omega
      have e6 : k = bs.length := by omega
      by_cases hne : bs = []
      · have l0 : bs.length = 0 := by simp [hne]
        have e0 : k = 0 := by omega
        subst e0
        have hh := lenV_ls h
        simp -implicitDefEqProofs only [go_sem, simprocAttr, r4, r3, hh, l0, o5]
        exact ret_fx (fun _ => true) (by simp -implicitDefEqProofs only [go_sem, simprocAttr, o5, wordF, hne, ints])
      · have z : ((((List.take k bs).length : Nat) : Int) == 0) = false := by
          have h3 := List.length_pos_iff.2 hne
          simp only [List.length_take, beq_eq_false_iff_ne, ne_eq]; omega
        have e7 : bs.take 7 = bs.take k := by rw [List.take_of_length_le (by omega), List.take_of_length_le (by omega)]
        simp -implicitDefEqProofs only [go_sem, simprocAttr, r4, r3, lenV_ls h, q1', o5, z]
        exact ret_fx (fun _ => true) (by simp -implicitDefEqProofs only [go_sem, simprocAttr, o5, wordF, hne, e7])
end S04

