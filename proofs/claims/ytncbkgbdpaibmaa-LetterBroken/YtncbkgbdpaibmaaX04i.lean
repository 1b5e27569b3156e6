/- A part of the proof: X04i, X04v. -/
import Derived.Test.YtncbkgbdpaibmaaH04h
import Derived.Test.YtncbkgbdpaibmaaC04r0
import Derived.Test.YtncbkgbdpaibmaaP04g
import Derived.Test.YtncbkgbdpaibmaaP04j
set_option linter.unusedVariables false
set_option linter.unusedSimpArgs false
set_option maxRecDepth 20000
namespace S04
open Go Abs
@[reducible] def lsW (W : List (List Int)) : List FV := W.map fun l => .list false (ints l)
end S04

namespace S04
open Go Abs
theorem t66 {c : Cs} {sw sp sb : FV} {W : List (List Int)} {t : List Int} {n : Int} (v : CV c sw sp) (ok : c.Ok) (hW : ∀ w ∈ W, WV c (.list false (ints w)) w) (w0 : W ≠ []) (w5 : W.length ≤ 5) (hb : lsOf sb = some (ints (0 :: t))) (ht : t.Sublist (numFrom 1 (W.length - 1))) (n0 : 0 ≤ n) (n1 : n ≤ 1000) :
    Fn Q 66 [.fo (c.fv sw sp), .fo (.list false (lsW W)), .fo sb, .fo (.int n)] (.one (.fx (.int (cmb (-1) (c.rsO n W 0 t))))) := by
  have o1 := ls_one v.w
  have o2 := ls_one v.p
  have r0 := ok.r0
  have r1 := ok.r1
  have b0 := ok.b0
  have b1 := ok.b1
  have tl : t.length ≤ 1000 := by have := ht.length_le; rw [show (numFrom 1 (W.length - 1)).length = W.length - 1 by simp [numFrom]] at this; omega
  have nb : ∀ w ∈ W, 0 ≤ c.nd w ∧ c.nd w ≤ 1000 ∧ 2 * c.R ≤ c.nd w := fun w hw => by
    have := ok.nd_bd (hW w hw).b
    have := (hW w hw).l
    omega
  have g0 := fun line => gr_zero (c := c) n0 w0 ht line
  have c61 := fun (x : Int) => t61 (n := x) hb (by simp; omega)
  have st := fun {most line : Int} {i : Nat} => gr_step (c := c) (n := n) (W := W) (l := 0 :: t) (fin := cmb (-1) (c.rsO n W 0 t)) (most := most) (line := line) (i := i) (fun w hw => by have := nb w hw; omega)
  generalize cmb (-1) (c.rsO n W 0 t) = fin at *
  generalize (0 :: t) = l at *
  have w2 : IntKind.i64.wrap (2 * c.R) = 2 * c.R := wr _ (by omega) (by omega)
  refine w66 ?_
  dsimp only [c66, sop, gop, nop, qmv, qsg, qex, qld, qcl, qln, qix, qbo, qt, qi]
  simp -implicitDefEqProofs only [go_sem, simprocAttr, o1, o2]
  refine lpH 12 [9, 10, 11] 12 [] (fun a : Nat × Int × Int => W.length - a.1) (fun a => a.1 ≤ W.length ∧ GI c n W l fin a.1 a.2.1 a.2.2 ∧ -100 ≤ a.2.2 ∧ a.2.2 ≤ 100000) (fun a ρ h => ρ 11 = .fv (.int (a.1 : Nat)) ∧ ρ 9 = .fv (.int a.2.1) ∧ ρ 10 = .fv (.int a.2.2)) (0, -1, 0) ⟨Nat.zero_le _, g0 0, by simp⟩ ?_ ?_
  · simp -implicitDefEqProofs only [go_sem, simprocAttr]
  · rintro ⟨i, most, line⟩ ρ h ⟨i1, g, l0, l1⟩ ⟨r11, r9, r10⟩
    dsimp only at i1 g l0 l1 r11 r9 r10
    by_cases hi : i < W.length
    · have hi' : (i : Int) < (W.length : Nat) := by omega
      obtain ⟨w, hw⟩ : ∃ w, W[i]? = some w := ⟨_, List.getElem?_eq_getElem hi⟩
      have hwm := List.mem_of_getElem? hw
      have nw := nb w hwm
      have c54 := t54 v ok.rk (hW w hwm)
      have hwi : IntKind.i64.wrap ((i : Int) + 1) = ((i + 1 : Nat) : Int) := wr _ (by omega) (by omega)
      have w3 : IntKind.i64.wrap (c.nd w - 2 * c.R) = c.nd w - 2 * c.R := wr _ (by omega) (by omega)
      have w4 : IntKind.i64.wrap (line + c.B) = line + c.B := wr _ (by omega) (by omega)
      obtain ⟨s1, s2⟩ := st g hi hw rfl
      simp -implicitDefEqProofs only [go_sem, simprocAttr, r11, List.length_map, hi']
      refine call1 [] false (c61 (i : Int)) ?_
      by_cases hm : l.contains (i : Int) = true
      · rw [if_pos hm] at s1 s2
        have wL : IntKind.i64.wrap (2 * c.R + (c.nd w - 2 * c.R)) = 2 * c.R + (c.nd w - 2 * c.R) := wr _ (by omega) (by omega)
        simp -implicitDefEqProofs only [go_sem, simprocAttr, hm, w2]
        refine W_opsD _ _ _ (Vs []) ?_ ?_
        · decide
        simp -implicitDefEqProofs only [go_sem, simprocAttr, r11, hw, o1, o2]
        refine callD [] false [.fo (c.fv sw sp), .fo (.list false (ints w))] [] c54 ⟨rfl, rfl, trivial⟩ rfl (.inl rfl) ?_
        simp -implicitDefEqProofs only [go_sem, simprocAttr, w2, w3, wL]
        by_cases hn : n < 2 * c.R + (c.nd w - 2 * c.R)
        · simp -implicitDefEqProofs only [go_sem, simprocAttr, hn]
          exact ret_eq (by rw [s1 hn])
        · have s3 := s2 (by omega)
          have w5' : IntKind.i64.wrap (n - (2 * c.R + (c.nd w - 2 * c.R))) = n - (2 * c.R + (c.nd w - 2 * c.R)) := wr _ (by omega) (by omega)
          by_cases hN : i + 1 = W.length
          · have hN' : (((i + 1 : Nat) : Int) == (W.length : Nat)) = true := by simp; omega
            rw [if_pos (.inl hN)] at s3
            simp -implicitDefEqProofs only [go_sem, simprocAttr, hn, r11, hwi, List.length_map, hN', w5', r9]
            refine nxt (i + 1, max most (n - (2 * c.R + (c.nd w - 2 * c.R))), 2 * c.R + (c.nd w - 2 * c.R)) (by simp only; omega) ⟨by simp only; omega, s3, by simp only; omega, by simp only; omega⟩ ?_
            simp -implicitDefEqProofs only [go_sem, simprocAttr]
          · have hN' : (((i + 1 : Nat) : Int) == (W.length : Nat)) = false := by simp; omega
            simp -implicitDefEqProofs only [go_sem, simprocAttr, hn, r11, hwi, List.length_map, hN']
            refine call1 [] false (c61 ((i + 1 : Nat) : Int)) ?_
            by_cases hm2 : l.contains ((i + 1 : Nat) : Int) = true
            · rw [if_pos (.inr (by simpa using hm2))] at s3
              simp -implicitDefEqProofs only [go_sem, simprocAttr, hm2, w5', r9, r11, hwi]
              refine nxt (i + 1, max most (n - (2 * c.R + (c.nd w - 2 * c.R))), 2 * c.R + (c.nd w - 2 * c.R)) (by simp only; omega) ⟨by simp only; omega, s3, by simp only; omega, by simp only; omega⟩ ?_
              simp -implicitDefEqProofs only [go_sem, simprocAttr]
            · have hm3 : l.contains ((i + 1 : Nat) : Int) = false := by simpa using hm2
              rw [if_neg (by rintro (h | h); exact hN h; exact hm2 (by simpa using h))] at s3
              simp -implicitDefEqProofs only [go_sem, simprocAttr, hm3, r9, r11, hwi]
              refine nxt (i + 1, most, 2 * c.R + (c.nd w - 2 * c.R)) (by simp only; omega) ⟨by simp only; omega, s3, by simp only; omega, by simp only; omega⟩ ?_
              simp -implicitDefEqProofs only [go_sem, simprocAttr, r9]
      · rw [if_neg hm] at s1 s2
        have hm' : l.contains (i : Int) = false := by simpa using hm
        have wL : IntKind.i64.wrap (line + c.B + (c.nd w - 2 * c.R)) = line + c.B + (c.nd w - 2 * c.R) := wr _ (by omega) (by omega)
        simp -implicitDefEqProofs only [go_sem, simprocAttr, hm', r10, w4]
        refine W_opsD _ _ _ (Vs []) ?_ ?_
        · decide
        simp -implicitDefEqProofs only [go_sem, simprocAttr, r11, hw, o1, o2]
        refine callD [] false [.fo (c.fv sw sp), .fo (.list false (ints w))] [] c54 ⟨rfl, rfl, trivial⟩ rfl (.inl rfl) ?_
        simp -implicitDefEqProofs only [go_sem, simprocAttr, w2, w3, wL]
        by_cases hn : n < line + c.B + (c.nd w - 2 * c.R)
        · simp -implicitDefEqProofs only [go_sem, simprocAttr, hn]
          exact ret_eq (by rw [s1 hn])
        · have s3 := s2 (by omega)
          have w5' : IntKind.i64.wrap (n - (line + c.B + (c.nd w - 2 * c.R))) = n - (line + c.B + (c.nd w - 2 * c.R)) := wr _ (by omega) (by omega)
          by_cases hN : i + 1 = W.length
          · have hN' : (((i + 1 : Nat) : Int) == (W.length : Nat)) = true := by simp; omega
            rw [if_pos (.inl hN)] at s3
            simp -implicitDefEqProofs only [go_sem, simprocAttr, hn, r11, hwi, List.length_map, hN', w5', r9]
            refine nxt (i + 1, max most (n - (line + c.B + (c.nd w - 2 * c.R))), line + c.B + (c.nd w - 2 * c.R)) (by simp only; omega) ⟨by simp only; omega, s3, by simp only; omega, by simp only; omega⟩ ?_
            simp -implicitDefEqProofs only [go_sem, simprocAttr]
          · have hN' : (((i + 1 : Nat) : Int) == (W.length : Nat)) = false := by simp; omega
            simp -implicitDefEqProofs only [go_sem, simprocAttr, hn, r11, hwi, List.length_map, hN']
            refine call1 [] false (c61 ((i + 1 : Nat) : Int)) ?_
            by_cases hm2 : l.contains ((i + 1 : Nat) : Int) = true
            · rw [if_pos (.inr (by simpa using hm2))] at s3
              simp -implicitDefEqProofs only [go_sem, simprocAttr, hm2, w5', r9, r11, hwi]
              refine nxt (i + 1, max most (n - (line + c.B + (c.nd w - 2 * c.R))), line + c.B + (c.nd w - 2 * c.R)) (by simp only; omega) ⟨by simp only; omega, s3, by simp only; omega, by simp only; omega⟩ ?_
              simp -implicitDefEqProofs only [go_sem, simprocAttr]
            · have hm3 : l.contains ((i + 1 : Nat) : Int) = false := by simpa using hm2
              rw [if_neg (by rintro (h | h); exact hN h; exact hm2 (by simpa using h))] at s3
              simp -implicitDefEqProofs only [go_sem, simprocAttr, hm3, r9, r11, hwi]
              refine nxt (i + 1, most, line + c.B + (c.nd w - 2 * c.R)) (by simp only; omega) ⟨by simp only; omega, s3, by simp only; omega, by simp only; omega⟩ ?_
              simp -implicitDefEqProofs only [go_sem, simprocAttr, r9]
    · have hi' : ¬ (i : Int) < (W.length : Nat) := by omega
      have hf : most = fin := by rcases g.c with ⟨_, e⟩ | ⟨e, _⟩; exact e; omega
      simp -implicitDefEqProofs only [go_sem, simprocAttr, r11, r9, List.length_map, hi']
      exact ret_eq (by rw [hf])
end S04

