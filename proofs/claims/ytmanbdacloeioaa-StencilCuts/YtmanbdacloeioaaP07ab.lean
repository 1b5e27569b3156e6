/- A part of the proof: P07ab, P07c, P07d. -/
import Derived.Test.YtmanbdacloeioaaH07a
set_option linter.unusedVariables false
set_option linter.unusedSimpArgs false
set_option maxRecDepth 20000
namespace S07
open Go Abs
/-! How letters read on their heads. -/
theorem headF_used : ∀ (H : List (Int × Int)) (arr a : List Int) (x : Int), 0 ≤ x → arr.length = 8 → (∀ p ∈ H, 0 ≤ p.1 ∧ p.1 < 8 ∧ 0 ≤ p.2 ∧ p.2 < 8) → gI arr x ≠ -1 → headsF H arr = some a → headF H x = -1 ∧ gI a x = gI arr x
  | [], arr, a, x, _, _, _, _, h => by simp [headsF] at h; subst h; exact ⟨rfl, rfl⟩
  | p :: ps, arr, a, x, x0, la, hb, hg, h => by
    have bp := hb p (by simp)
    unfold headsF at h
    split at h
    · rename_i hc
      have f1 : x ≠ p.1 := by rintro rfl; exact hg hc.1
      have f2 : x ≠ p.2 := by rintro rfl; exact hg hc.2
      have e : gI ((arr.set p.1.toNat p.2).set p.2.toNat p.1) x = gI arr x := by
        rw [gI_set (by omega) (by simp; omega) x0, if_neg f2, gI_set (by omega) (by omega) x0, if_neg f1]
      obtain ⟨g1, g2⟩ := headF_used ps _ a x x0 (by simp [la]) (fun q hq => hb q (by simp [hq])) (by rw [e]; exact hg) h
      exact ⟨by simp [headF, f1, f2, g1], by rw [g2, e]⟩
    · simp at h
theorem headF_is : ∀ (H : List (Int × Int)) (arr a : List Int) (x : Int), 0 ≤ x → arr.length = 8 → (∀ p ∈ H, 0 ≤ p.1 ∧ p.1 < 8 ∧ 0 ≤ p.2 ∧ p.2 < 8) → gI arr x = -1 → headsF H arr = some a → headF H x = gI a x
  | [], arr, a, x, _, _, _, hg, h => by simp [headsF] at h; subst h; simp [headF, hg]
  | p :: ps, arr, a, x, x0, la, hb, hg, h => by
    have bp := hb p (by simp)
    unfold headsF at h
    split at h
    · rename_i hc
      have e : gI ((arr.set p.1.toNat p.2).set p.2.toNat p.1) x = if x = p.2 then p.1 else if x = p.1 then p.2 else gI arr x := by
        rw [gI_set (by omega) (by simp; omega) x0, gI_set (by omega) (by omega) x0]
      by_cases f1 : x = p.1
      · by_cases f2 : x = p.2
        · have := (headF_used ps _ a x x0 (by simp [la]) (fun q hq => hb q (by simp [hq])) (by rw [e, if_pos f2]; omega) h).2
          rw [this, e, if_pos f2]
          simp only [headF]; rw [if_pos f1, ← f2, f1]
        · have := (headF_used ps _ a x x0 (by simp [la]) (fun q hq => hb q (by simp [hq])) (by rw [e, if_neg f2, if_pos f1]; omega) h).2
          rw [this, e, if_neg f2, if_pos f1]
          simp only [headF]; rw [if_pos f1]
      · by_cases f2 : x = p.2
        · have := (headF_used ps _ a x x0 (by simp [la]) (fun q hq => hb q (by simp [hq])) (by rw [e, if_pos f2]; omega) h).2
          rw [this, e, if_pos f2]
          simp only [headF]; rw [if_neg f1, if_pos f2]
        · have := headF_is ps _ a x x0 (by simp [la]) (fun q hq => hb q (by simp [hq])) (by rw [e, if_neg f2, if_neg f1]; exact hg) h
          simp only [headF]; rw [if_neg f1, if_neg f2, this]
    · simp at h
theorem headF_hd {N : Int} {H A : List (Int × Int)} (h : errA N H A = 0) {x : Int} (x0 : 0 ≤ x) (x1 : x < 8) : headF H x = (alOf N H A).hd x := by
  obtain ⟨n0, n1, h3, h4, arr, e⟩ := errA_ok h
  have bH : ∀ p ∈ H, 0 ≤ p.1 ∧ p.1 < 8 ∧ 0 ≤ p.2 ∧ p.2 < 8 := fun p hp => by have := not_bad (not_any h3 hp); omega
  have : gI arr0 x = -1 := by
    have : x = 0 ∨ x = 1 ∨ x = 2 ∨ x = 3 ∨ x = 4 ∨ x = 5 ∨ x = 6 ∨ x = 7 := by omega
    rcases this with rfl | rfl | rfl | rfl | rfl | rfl | rfl | rfl <;> rfl
  rw [headF_is H arr0 arr x x0 rfl bH this e]
  simp [Al.hd, alOf, e]
end S07

namespace S07
open Go Abs
/-! slices.Compact. -/
/-! Alike. -/
def aliF (A : List (Int × Int)) (l : Int) : List Int :=
  match A with
  | [] => []
  | p :: ps => if l = p.1 then p.2 :: aliF ps l else if l = p.2 then p.1 :: aliF ps l else aliF ps l
def layP (H A : List (Int × Int)) (l b : Int) : Int × Int × Int × Int :=
  let L := aliF A l
  let tk := decide (2 ≤ b % 4) && decide (0 < L.length)
  let st := if tk then L.getD ((b / 4) % L.length).toNat 0 else l
  if b % 2 = 1 then ((if tk then 3 else 1), st, headF H st, (if tk then 2 else 1)) else ((if tk then 2 else 0), st, st, (if tk then 1 else 0))
section
variable {N : Int} {H A : List (Int × Int)} (eA : errA N H A = 0)
include eA
end
end S07

namespace S07
open Go Abs
def sgF (H A : List (Int × Int)) (w hb : List Int) : List Int := List.zipWith (fun l b => (layP H A l b).2.2.1) w hb
def wyF (H A : List (Int × Int)) (w hb : List Int) : List Int := List.zipWith (fun l b => (layP H A l b).1) w hb
def ftF (H A : List (Int × Int)) (w hb : List Int) : List Int := List.zipWith (fun l b => (layP H A l b).2.2.2) w hb
def costs (ks : List Int) : Int := (ks.map cost).sum
section
variable {N : Int} {H A : List (Int × Int)} (eA : errA N H A = 0)
include eA
end
end S07

