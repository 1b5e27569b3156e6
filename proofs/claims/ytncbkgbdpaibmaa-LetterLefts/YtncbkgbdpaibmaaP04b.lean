/- A part of the proof: P04b. -/
import Derived.Test.YtncbkgbdpaibmaaP04a
set_option linter.unusedVariables false
set_option linter.unusedSimpArgs false
namespace S04
open Go Abs
/-! Lists between bounds. -/
def Btw : List Int → List Int → List Int → Prop
  | [], [], [] => True
  | a :: as', b :: bs, x :: xs => a ≤ x ∧ x ≤ b ∧ Btw as' bs xs
  | _, _, _ => False
theorem Btw.len : ∀ {a b x : List Int}, Btw a b x → a.length = x.length ∧ b.length = x.length
  | [], [], [], _ => ⟨rfl, rfl⟩
  | a :: u, b :: t, x :: xs, h => by
    have := Btw.len h.2.2
    simp [this.1, this.2]
def Leq : List Int → List Int → Prop
  | [], [] => True
  | a :: u, b :: t => a ≤ b ∧ Leq u t
  | _, _ => False
theorem Btw.leq : ∀ {a b x : List Int}, Btw a b x → Leq a b
  | [], [], [], _ => trivial
  | a :: u, b :: t, x :: xs, h => ⟨Int.le_trans h.1 h.2.1, Btw.leq h.2.2⟩
theorem cmpL_refl : ∀ a : List Int, cmpL a a = 0
  | [] => rfl
  | x :: a => by simp [cmpL, cmpI, cmpL_refl a]
def Fea (ms : List Int) (lo hi all : Int) (x : List Int) : Prop := Btw (gl lo ms) (gm hi ms) x ∧ sumI x = all
/-! An order. -/
theorem cmpI_lt {a b : Int} (h : a < b) : cmpI a b = -1 := by simp [cmpI, h]
theorem cmpI_gt {a b : Int} (h : b < a) : cmpI a b = 1 := by
  have : ¬ a < b := by omega
  simp [cmpI, h, this]
theorem cmpI_eq (a : Int) : cmpI a a = 0 := by simp [cmpI]
theorem cmpL_flip : ∀ a b : List Int, cmpL b a = - cmpL a b
  | [], [] => rfl
  | [], _ :: _ => rfl
  | _ :: _, [] => rfl
  | x :: a, y :: b => by
    have ih := cmpL_flip a b
    simp only [cmpL]
    rcases Int.lt_trichotomy x y with h | rfl | h
    · simp [cmpI_lt h, cmpI_gt h]
    · simp [cmpI_eq, ih]
    · simp [cmpI_lt h, cmpI_gt h]
theorem cmpL_trans : ∀ {a b c : List Int}, cmpL a b ≤ 0 → cmpL b c ≤ 0 → cmpL a c ≤ 0
  | [], [], [], _, _ => by simp [cmpL]
  | [], [], _ :: _, _, _ => by simp [cmpL]
  | [], _ :: _, [], _, h => by simp [cmpL] at h
  | [], _ :: _, _ :: _, _, _ => by simp [cmpL]
  | _ :: _, [], _, h, _ => by simp [cmpL] at h
  | _ :: _, _ :: _, [], _, h => by simp [cmpL] at h
  | x :: a, y :: b, z :: c, h1, h2 => by
    simp only [cmpL] at h1 h2 ⊢
    rcases Int.lt_trichotomy x y with h | rfl | h
    · rcases Int.lt_trichotomy y z with g | rfl | g
      · rw [cmpI_lt (show x < z by omega)]; simp
      · rw [cmpI_lt h]; simp
      · rw [cmpI_gt g] at h2; simp at h2
    · rcases Int.lt_trichotomy x z with g | rfl | g
      · rw [cmpI_lt g]; simp
      · simp only [cmpI_eq, ne_eq, not_true, if_false] at h1 h2 ⊢
        exact cmpL_trans h1 h2
      · rw [cmpI_gt g] at h2; simp at h2
    · rw [cmpI_gt h] at h1; simp at h1
theorem cmpL_eq : ∀ {a b : List Int}, cmpL a b = 0 → a = b
  | [], [], _ => rfl
  | [], _ :: _, h => by simp [cmpL] at h
  | _ :: _, [], h => by simp [cmpL] at h
  | x :: a, y :: b, h => by
    simp only [cmpL] at h
    rcases Int.lt_trichotomy x y with g | rfl | g
    · rw [cmpI_lt g] at h; simp at h
    · simp only [cmpI_eq, ne_eq, not_true, if_false] at h
      rw [cmpL_eq h]
    · rw [cmpI_gt g] at h; simp at h
theorem cmpL_le {a b : List Int} (h1 : cmpL a b ≤ 0) (h2 : cmpL b a ≤ 0) : a = b := by
  have := cmpL_flip a b
  exact cmpL_eq (by omega)
def Lm (S : List Int → Prop) (o : Option (List Int)) : Prop := match o with | none => ∀ x, ¬ S x | some l => S l ∧ ∀ x, S x → cmpL l x ≤ 0
theorem Lm.uniq {S : List Int → Prop} {o o' : Option (List Int)} (h : Lm S o) (h' : Lm S o') : o = o' := by
  cases o with
  | none => cases o' with
    | none => rfl
    | some l => exact absurd h'.1 (h l)
  | some l => cases o' with
    | none => exact absurd h.1 (h' l)
    | some l' => exact congrArg some (cmpL_le (h.2 l' h'.1) (h'.2 l h.1))
theorem Lm.congr {S T : List Int → Prop} {o : Option (List Int)} (e : ∀ x, S x ↔ T x) (h : Lm S o) : Lm T o := by
  cases o with
  | none => exact fun x hx => h x ((e x).2 hx)
  | some l => exact ⟨(e l).1 h.1, fun x hx => h.2 x ((e x).2 hx)⟩
def Lays (ms : List Int) (L all wide : Int) (x : List Int) : Prop := ∃ low, L ≤ low ∧ low ≤ all + 5 ∧ Fea ms low (low + wide) all x
end S04

