/- A part of the proof: P04c. -/
import Derived.Test.YtncbkgbdpaibmaaP04b
set_option linter.unusedVariables false
set_option linter.unusedSimpArgs false
namespace S04
open Go Abs
/-! Looks and windows. -/
def glR (L lo : Int) (ms : List Int) : List Int := ms.map fun m => max (max 0 (L - m)) (lo - m)
def FeaR (ms : List Int) (L lo hi all : Int) (x : List Int) : Prop := Btw (glR L lo ms) (gm hi ms) x ∧ sumI x = all
/-! The first spread. -/
theorem least (p : Nat → Prop) : ∀ n, p n → ∃ m, m ≤ n ∧ p m ∧ ∀ k, k < m → ¬ p k := by
  intro n
  induction n using Nat.strongRecOn with
  | ind n ih =>
    intro hn
    by_cases h : ∃ k, k < n ∧ p k
    · obtain ⟨k, hk, hp⟩ := h
      obtain ⟨m, h1, h2, h3⟩ := ih k hk hp
      exact ⟨m, by omega, h2, h3⟩
    · exact ⟨n, Nat.le_refl _, hn, fun k hk hp => h ⟨k, hk, hp⟩⟩
def wideG (L : Int) : List Int → Int → List Int
  | [], _ => []
  | [m], r => [max 0 (L - m) + r]
  | m :: m' :: ms, r => max 0 (L - m) :: wideG L (m' :: ms) r
/-! The reference's search. -/
def tryR (f : Int → Option (List Int)) : Nat → Int → Option (List Int)
  | 0, _ => none
  | k + 1, n => match f n with | some l => some l | none => tryR f k (n + 1)
def fillR (L lo hi : Int) : List Int → List Int → Int → Option (List Int)
  | [], b, all => if all = 0 then some b else none
  | m :: ms, b, all => tryR (fun n => if sumI (gm hi ms) < all - n ∨ all - n < sumI (glR L lo ms) then none else fillR L lo hi ms (b ++ [n]) (all - n)) (hi - m + 1 - max (max 0 (L - m)) (lo - m)).toNat (max (max 0 (L - m)) (lo - m))
def refN (ms : List Int) (L all wide : Int) : Nat → Int → Option (List Int) → Option (List Int)
  | 0, _, b => b
  | n + 1, low, b => refN ms L all wide n (low + 1) (best1 b (fillR L low (low + wide) ms [] all))
end S04

