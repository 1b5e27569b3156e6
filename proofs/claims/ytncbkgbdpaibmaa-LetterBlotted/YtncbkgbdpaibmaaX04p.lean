/- A part of the proof: X04p. -/
import Derived.Test.YtncbkgbdpaibmaaX04i
set_option linter.unusedVariables false
set_option linter.unusedSimpArgs false
set_option maxRecDepth 20000
namespace S04
open Go Abs
theorem flB_bd {n : Nat} : ∀ (w ys : List Int), (∀ x ∈ w, -1 ≤ x ∧ x < n) → (∀ y ∈ ys, 0 ≤ y ∧ y < n) → ys.length = (blF w 0).length → ∀ x ∈ flB w ys, 0 ≤ x ∧ x < n
  | [], ys, _, _, _, x, hx => by simp [flB] at hx
  | a :: w, ys, h1, h2, hl, x, hx => by
    by_cases e : a = -1
    · rw [blF, if_pos e] at hl
      cases ys with
      | nil => simp at hl
      | cons y ys =>
        rw [flB_eq e] at hx
        rcases List.mem_cons.1 hx with rfl | hx
        · exact h2 x (by simp)
        · exact flB_bd w ys (fun x hx => h1 x (by simp [hx])) (fun y hy => h2 y (by simp [hy])) (by rw [List.length_cons, List.length_cons, blF_len w (0 + 1) 0] at hl; omega) x hx
    · rw [blF, if_neg e] at hl
      rw [flB_ne e] at hx
      rcases List.mem_cons.1 hx with rfl | hx
      · have := h1 x (by simp); omega
      · exact flB_bd w ys (fun x hx => h1 x (by simp [hx])) h2 (by rw [hl, blF_len w (0 + 1) 0]) x hx
theorem rds_bd {n : Nat} {w w' : List Int} (h : ∀ x ∈ w, -1 ≤ x ∧ x < n) (hm : w' ∈ rds n w) : ∀ x ∈ w', 0 ≤ x ∧ x < n := by
  unfold rds at hm
  rw [List.mem_map] at hm
  obtain ⟨ys, h1, rfl⟩ := hm
  have := mem_sqs.1 h1
  exact flB_bd w ys h this.2 this.1
end S04

