/- A part of the proof: P07c, P07d, P07e, P07i, P07k. -/
import Derived.Test.YtmanbdacloeioaaP07aa
import Derived.Test.YtmanbdacloeioaaH07z0
import Derived.Test.YtmanbdacloeioaaG07y
set_option linter.unusedVariables false
set_option linter.unusedSimpArgs false
namespace S07
open Go Abs
/-! slices.Compact. -/
/-! Alike. -/
def aliF (A : List (Int × Int)) (l : Int) : List Int :=
  match A with
  | [] => []
  | p :: ps => if l = p.1 then p.2 :: aliF ps l else if l = p.2 then p.1 :: aliF ps l else aliF ps l
def layP (H A : List (Int × Int)) (l b : Int) : Int × Int × Int × Int :=
  let L := aliF A l
  let tk := decide (2 ≤ b % 4) && decide (0 < L.length)
  let st := if tk then L.getD ((b / 4) % L.length).toNat 0 else l
  if b % 2 = 1 then ((if tk then 3 else 1), st, headF H st, (if tk then 2 else 1)) else ((if tk then 2 else 0), st, st, (if tk then 1 else 0))
section
variable {N : Int} {H A : List (Int × Int)} (eA : errA N H A = 0)
include eA
end
end S07

namespace S07
open Go Abs
def sgF (H A : List (Int × Int)) (w hb : List Int) : List Int := List.zipWith (fun l b => (layP H A l b).2.2.1) w hb
def wyF (H A : List (Int × Int)) (w hb : List Int) : List Int := List.zipWith (fun l b => (layP H A l b).1) w hb
def ftF (H A : List (Int × Int)) (w hb : List Int) : List Int := List.zipWith (fun l b => (layP H A l b).2.2.2) w hb
def costs (ks : List Int) : Int := (ks.map cost).sum
section
variable {N : Int} {H A : List (Int × Int)} (eA : errA N H A = 0)
include eA
end
end S07

namespace S07
open Go Abs
section
variable {N : Int} {H A : List (Int × Int)} (eA : errA N H A = 0)
include eA
end
end S07

namespace S07
open Go Abs
/-! All ways are laid by some byte. -/
section
variable {N : Int} {H A : List (Int × Int)} (eA : errA N H A = 0)
include eA
end
/-! What can. -/
def lstF (H A : List (Int × Int)) (l s : Int) (p : Int → Bool) : Nat → Int
  | 0 => 9
  | k + 1 => let y := layP H A l (k : Nat); if y.2.2.1 = s ∧ p y.2.1 = true then min (lstF H A l s p k) y.2.2.2 else lstF H A l s p k
def atF (place letter : Int) (i : Nat) (st : Int) : Bool := decide ((i : Int) ≠ place) || decide (st = letter)
def allF (H A : List (Int × Int)) (w s : List Int) (place letter : Int) : Nat → Int
  | 0 => 0
  | i + 1 => allF H A w s place letter i + lstF H A (gI w (i : Nat)) (gI s (i : Nat)) (atF place letter i) 64
def canR (H A : List (Int × Int)) (w s : List Int) (most place letter : Int) : Bool := decide (allF H A w s place letter w.length ≤ most)
section
variable {N : Int} {H A : List (Int × Int)} (eA : errA N H A = 0) (hA : A.length ≤ 16)
include eA hA
end
end S07

namespace S07
open Go Abs
section
variable {N : Int} {H A : List (Int × Int)} (eA : errA N H A = 0)
include eA
end
/-! Letters that are named twice. -/
def clash (p q : Int × Int) : Bool := (p.1 == q.1) || (p.1 == q.2) || (p.2 == q.1) || (p.2 == q.2)
def twP (p : Int × Int) (l : List (Int × Int)) : Bool := l.any (clash p)
def twI (H : List (Int × Int)) : Nat → Bool
  | 0 => false
  | i + 1 => twI H i || (match H[i]? with | some p => twP p (H.take i) | none => false)
theorem heads_tw : ∀ (T : List (Int × Int)) (D : List (Int × Int)) (arr : List Int), arr.length = 8 → (∀ p ∈ T, 0 ≤ p.1 ∧ p.1 < 8 ∧ 0 ≤ p.2 ∧ p.2 < 8) → (∀ x : Int, 0 ≤ x → x < 8 → (gI arr x = -1 ↔ ∀ q ∈ D, q.1 ≠ x ∧ q.2 ≠ x)) →
    (headsF T arr = none ↔ ∃ i p, T[i]? = some p ∧ twP p (D ++ T.take i) = true)
  | [], D, arr, _, _, _ => by simp [headsF]
  | p :: T, D, arr, hl, hb, ha => by
    obtain ⟨b1, b2, b3, b4⟩ := hb p (by simp)
    have u1 := ha p.1 b1 b2
    have u2 := ha p.2 b3 b4
    have hfree : twP p D = false ↔ (gI arr p.1 = -1 ∧ gI arr p.2 = -1) := by
      rw [u1, u2]
      simp only [twP, List.any_eq_false, clash, Bool.or_eq_true, beq_iff_eq, not_or]
      constructor
      · intro h
        exact ⟨fun q hq => by obtain ⟨⟨⟨h1, h2⟩, h3⟩, h4⟩ := h q hq; exact ⟨fun e => h1 e.symm, fun e => h2 e.symm⟩, fun q hq => by obtain ⟨⟨⟨h1, h2⟩, h3⟩, h4⟩ := h q hq; exact ⟨fun e => h3 e.symm, fun e => h4 e.symm⟩⟩
      · rintro ⟨h1, h2⟩ q hq
        obtain ⟨x1, x2⟩ := h1 q hq
        obtain ⟨y1, y2⟩ := h2 q hq
        exact ⟨⟨⟨fun e => x1 e.symm, fun e => x2 e.symm⟩, fun e => y1 e.symm⟩, fun e => y2 e.symm⟩
    by_cases hf : gI arr p.1 = -1 ∧ gI arr p.2 = -1
    · have e : headsF (p :: T) arr = headsF T ((arr.set p.1.toNat p.2).set p.2.toNat p.1) := by
        rw [headsF, if_pos hf]
      rw [e]
      have ih := heads_tw T (D ++ [p]) ((arr.set p.1.toNat p.2).set p.2.toNat p.1) (by simpa using hl) (fun q hq => hb q (by simp [hq])) ?_
      · rw [ih]
        have h0 := hfree.2 hf
        constructor
        · rintro ⟨i, q, h1, h2⟩
          exact ⟨i + 1, q, by simpa using h1, by simpa using h2⟩
        · rintro ⟨i, q, h1, h2⟩
          cases i with
          | zero => simp at h1 h2; subst h1; rw [h2] at h0; simp at h0
          | succ i => exact ⟨i, q, by simpa using h1, by simpa using h2⟩
      · intro x x0 x8
        rw [gI_set b3 (by simp; omega) x0]
        by_cases e2 : x = p.2
        · rw [if_pos e2]
          constructor
          · intro h; omega
          · intro h; have := (h p (by simp)).2; exact absurd e2.symm this
        · rw [if_neg e2, gI_set b1 (by omega) x0]
          by_cases e1 : x = p.1
          · rw [if_pos e1]
            constructor
            · intro h; omega
            · intro h; have := (h p (by simp)).1; exact absurd e1.symm this
          · rw [if_neg e1, ha x x0 x8]
            constructor
            · intro h q hq
              rcases List.mem_append.1 hq with hq | hq
              · exact h q hq
              · simp at hq; subst hq; exact ⟨fun e => e1 e.symm, fun e => e2 e.symm⟩
            · intro h q hq
              exact h q (by simp [hq])
    · have e : headsF (p :: T) arr = none := by rw [headsF, if_neg hf]
      rw [e]
      refine iff_of_true rfl ⟨0, p, rfl, ?_⟩
      cases c : twP p D with
      | true => simpa using c
      | false => exact absurd (hfree.1 c) hf
theorem twI_iff (H : List (Int × Int)) : ∀ n : Nat, twI H n = true ↔ ∃ i p, i < n ∧ H[i]? = some p ∧ twP p (H.take i) = true
  | 0 => by simp [twI]
  | n + 1 => by
    have ih := twI_iff H n
    simp only [twI, Bool.or_eq_true, ih]
    constructor
    · rintro (⟨i, p, h1, h2⟩ | h)
      · exact ⟨i, p, by omega, h2⟩
      · split at h
        · rename_i p hp; exact ⟨n, p, by omega, hp, h⟩
        · simp at h
    · rintro ⟨i, p, h1, h2, h3⟩
      by_cases e : i = n
      · subst e; right; rw [h2]; exact h3
      · left; exact ⟨i, p, by omega, h2, h3⟩
theorem tw_heads {N : Int} {H : List (Int × Int)} (n8 : N ≤ 8) (hb : H.any (badP N) = false) : headsF H arr0 = none ↔ twI H H.length = true := by
  have bH : ∀ p ∈ H, 0 ≤ p.1 ∧ p.1 < 8 ∧ 0 ≤ p.2 ∧ p.2 < 8 := fun p hp => by have := not_bad (not_any hb hp); omega
  rw [heads_tw H [] arr0 rfl bH (fun x x0 x8 => by
    have : x = 0 ∨ x = 1 ∨ x = 2 ∨ x = 3 ∨ x = 4 ∨ x = 5 ∨ x = 6 ∨ x = 7 := by omega
    rcases this with rfl | rfl | rfl | rfl | rfl | rfl | rfl | rfl <;> simp [gI, arr0]), twI_iff]
  constructor
  · rintro ⟨i, p, h1, h2⟩
    exact ⟨i, p, (List.getElem?_eq_some_iff.1 h1).1, h1, by simpa using h2⟩
  · rintro ⟨i, p, _, h1, h2⟩
    exact ⟨i, p, h1, by simpa using h2⟩
end S07

