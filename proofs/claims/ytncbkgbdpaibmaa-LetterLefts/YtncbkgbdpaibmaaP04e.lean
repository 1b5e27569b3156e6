/- A part of the proof: P04e. -/
import Derived.Test.YtncbkgbdpaibmaaP04d
import Derived.Test.YtncbkgbdpaibmaaH04h
set_option linter.unusedVariables false
set_option linter.unusedSimpArgs false
namespace S04
open Go Abs
/-! A letter without pairs, in a place of a word. -/
theorem ws_app (c : Cs) : ∀ a b : List Int, c.ws (a ++ b) = c.ws a + c.ws b
  | [], b => by simp [Cs.ws]
  | x :: a, b => by simp [Cs.ws, ws_app c a b, Int.add_assoc]
theorem clo_app (L : Int) : ∀ a b : List Int, clo L (a ++ b) = clo L a + clo L b
  | [], b => by simp [clo]
  | x :: a, b => by simp [clo, clo_app L a b, Int.add_assoc]
def Cs.wid (c : Cs) (z : Int) : Cs := ⟨c.W ++ [z], c.P, c.R, c.L, 0⟩
theorem wid_mo (c : Cs) (z a b : Int) : (c.wid z).mo a b = c.mo a b := rfl
theorem wid_loo (c : Cs) (z : Int) : ∀ w : List Int, (c.wid z).loo w = c.loo w
  | [] => rfl
  | [_] => rfl
  | a :: b :: w => by simp [Cs.loo, wid_mo, wid_loo c z (b :: w)]
theorem wid_rk {c : Cs} (ok : c.Ok) {z : Int} (z0 : 1 ≤ z) (z1 : z ≤ 30) : Rk (c.wid z) := by
  refine ⟨fun x hx => ?_, ok.r0, ok.r1, ok.l0, ok.l1, fun a b => ?_, fun a b => ?_⟩
  · simp only [Cs.wid, List.mem_append, List.mem_singleton] at hx
    rcases hx with hx | rfl
    · exact ok.w x hx
    · exact ⟨z0, z1⟩
  · rw [wid_mo]; exact ok.moR a b
  · rw [wid_mo]; exact ok.mo a b
theorem wid_ws {c : Cs} {z : Int} : ∀ w : List Int, (∀ x ∈ w, 0 ≤ x ∧ x < c.W.length) → (c.wid z).ws w = c.ws w
  | [], _ => rfl
  | x :: w, h => by
    have h1 := h x (by simp)
    have : gI (c.W ++ [z]) x = gI c.W x := by
      unfold gI
      have hx : x.toNat < c.W.length := by omega
      simp [List.getD, List.getElem?_append_left hx]
    simp only [Cs.ws, wid_ws w fun y hy => h y (by simp [hy])]
    show gI (c.W ++ [z]) x + _ = _
    rw [this]
theorem mo_new {c : Cs} (ok : c.Ok) (a : Int) : c.mo a (c.W.length : Nat) = 0 ∧ c.mo (c.W.length : Nat) a = 0 := by
  have key : ∀ (P : List (Int × Int × Int)), (∀ p ∈ P, p.1 < c.W.length ∧ p.2.1 < c.W.length) → moR P a (c.W.length : Nat) = 0 ∧ moR P (c.W.length : Nat) a = 0 := by
    intro P
    induction P with
    | nil => intro _; exact ⟨rfl, rfl⟩
    | cons p P ih =>
      intro h
      have h1 := h p (by simp)
      obtain ⟨i1, i2⟩ := ih fun q hq => h q (by simp [hq])
      simp only [moR]
      rw [if_neg (by omega), if_neg (by omega)]
      exact ⟨i1, i2⟩
  have := key c.P fun p hp => by have := ok.pb p hp; omega
  rw [ok.moR, ok.moR] at this
  exact this
theorem loo_mid {c : Cs} (N : Int) (h : ∀ a, c.mo a N = 0 ∧ c.mo N a = 0) : ∀ (A B : List Int), c.loo (A ++ N :: B) = c.loo A ++ ((if A = [] then [] else [0]) ++ ((if B = [] then [] else [0]) ++ c.loo B))
  | [], [] => by simp [Cs.loo]
  | [], b :: B => by simp [Cs.loo, (h b).2]
  | [a], B => by
    have := loo_mid N h [] B
    simp only [List.nil_append] at this
    simp only [List.cons_append, List.nil_append, Cs.loo, (h a).1, this]
    simp
  | a :: a' :: A, B => by
    have := loo_mid N h (a' :: A) B
    simp only [List.cons_append] at this
    simp only [List.cons_append, Cs.loo, this]
    simp
theorem wid_nd {c : Cs} (ok : c.Ok) {w : List Int} (hw : ∀ x ∈ w, 0 ≤ x ∧ x < c.W.length) {at' : Int} (a0 : 0 ≤ at') (a1 : at' < w.length) {z : Int} (z0 : 1 ≤ z) (z1 : z ≤ 30) : (c.wid z).nd (w.set at'.toNat (c.W.length : Nat)) = c.side w at' + z := by
  have hk : at'.toNat < w.length := by omega
  have es : w.set at'.toNat ((c.W.length : Nat) : Int) = w.take at'.toNat ++ ((c.W.length : Nat) : Int) :: w.drop (at'.toNat + 1) := by rw [List.set_eq_take_append_cons_drop, if_pos hk]
  have hA : ∀ x ∈ w.take at'.toNat, 0 ≤ x ∧ x < c.W.length := fun x hx => hw x (List.mem_of_mem_take hx)
  have hB : ∀ x ∈ w.drop (at'.toNat + 1), 0 ≤ x ∧ x < c.W.length := fun x hx => hw x (List.mem_of_mem_drop hx)
  have gz : gI (c.W ++ [z]) ((c.W.length : Nat) : Int) = z := by simp [gI, List.getD]
  have eA : w.take at'.toNat = [] ↔ ¬ 0 < at' := by
    rw [← List.length_eq_zero_iff, List.length_take]; omega
  have eB : w.drop (at'.toNat + 1) = [] ↔ ¬ at' < (w.length : Int) - 1 := by
    rw [← List.length_eq_zero_iff, List.length_drop]; omega
  rw [es]
  unfold Cs.nd
  rw [wid_loo, loo_mid _ (mo_new ok)]
  unfold Cs.wd
  rw [ws_app, Cs.ws, wid_ws _ hA, wid_ws _ hB]
  rw [show gI (c.wid z).W ((c.W.length : Nat) : Int) = z from gz]
  simp only [clo_app]
  have l0 := ok.l0
  unfold Cs.side Cs.sideA Cs.sideB Cs.nd Cs.wd
  show 2 * c.R + _ + (clo c.L _ + _) = _
  generalize w.take at'.toNat = A at *
  generalize w.drop (at'.toNat + 1) = B at *
  have cz : clo c.L [0] = c.L := by simp [clo]; omega
  have cn : clo c.L [] = 0 := rfl
  by_cases hA0 : 0 < at'
  · have nA : A ≠ [] := fun e => (eA.1 e) hA0
    rw [if_neg nA, if_pos hA0]
    by_cases hB0 : at' < (w.length : Int) - 1
    · have nB : B ≠ [] := fun e => (eB.1 e) hB0
      rw [if_neg nB, if_pos hB0]
      show 2 * c.R + (c.ws A + (z + c.ws B)) + (clo c.L (c.loo A) + (clo c.L [0] + (clo c.L [0] + clo c.L (c.loo B)))) = _
      rw [cz]; omega
    · have nB : B = [] := eB.2 hB0
      subst nB
      rw [if_pos rfl, if_neg hB0]
      show 2 * c.R + (c.ws A + (z + 0)) + (clo c.L (c.loo A) + (clo c.L [0] + (clo c.L [] + clo c.L []))) = _
      rw [cz, cn]; omega
  · have nA : A = [] := eA.2 hA0
    subst nA
    rw [if_pos rfl, if_neg hA0]
    by_cases hB0 : at' < (w.length : Int) - 1
    · have nB : B ≠ [] := fun e => (eB.1 e) hB0
      rw [if_neg nB, if_pos hB0]
      show 2 * c.R + (0 + (z + c.ws B)) + (clo c.L [] + (clo c.L [] + (clo c.L [0] + clo c.L (c.loo B)))) = _
      rw [cz, cn]; omega
    · have nB : B = [] := eB.2 hB0
      subst nB
      rw [if_pos rfl, if_neg hB0]
      show 2 * c.R + (0 + (z + 0)) + (clo c.L [] + (clo c.L [] + (clo c.L [] + clo c.L []))) = _
      rw [cn]; omega
end S04

