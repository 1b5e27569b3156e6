/- A part of the proof: P04d. -/
import Derived.Test.YtncbkgbdpaibmaaP04b
set_option linter.unusedVariables false
set_option linter.unusedSimpArgs false
namespace S04
open Go Abs
def idxT : Nat → List Bool → List Int
  | _, [] => []
  | i, b :: bs => if b then (i : Int) :: idxT (i + 1) bs else idxT (i + 1) bs
def maskF (s k : Nat) : List Bool := (List.range k).map (fun i => Nat.testBit s i)
/-! Lists of numbers, by length and order. -/
def sl (a b : List Int) : Prop := a.length < b.length ∨ (a.length = b.length ∧ cmpL a b ≤ 0)
def SM (S : List Int → Prop) (o : Option (List Int)) : Prop := match o with | none => ∀ x, ¬ S x | some l => S l ∧ ∀ x, S x → sl l x
theorem SM.congr {S T : List Int → Prop} {o : Option (List Int)} (e : ∀ x, S x ↔ T x) (h : SM S o) : SM T o := by
  cases o with
  | none => exact fun x hx => h x ((e x).2 hx)
  | some l => exact ⟨(e l).1 h.1, fun x hx => h.2 x ((e x).2 hx)⟩
/-! All sets of numbers. -/
theorem mem_setsF : ∀ (m : Nat) (l x : List Int), x ∈ setsF m l ↔ x.Sublist l ∧ x.length = m
  | 0, l, x => by
    simp only [setsF, List.mem_singleton]
    constructor
    · rintro rfl; exact ⟨List.nil_sublist _, rfl⟩
    · rintro ⟨_, h⟩; exact List.eq_nil_of_length_eq_zero h
  | m + 1, [], x => by
    simp only [setsF, List.not_mem_nil, false_iff, not_and]
    intro h e
    have := List.sublist_nil.1 h
    subst this
    simp at e
  | m + 1, a :: l, x => by
    simp only [setsF, List.mem_append, List.mem_map, mem_setsF m l, mem_setsF (m + 1) l]
    constructor
    · rintro (⟨y, ⟨h1, h2⟩, rfl⟩ | ⟨h1, h2⟩)
      · exact ⟨h1.cons_cons a, by simp [h2]⟩
      · exact ⟨h1.cons a, h2⟩
    · rintro ⟨h1, h2⟩
      cases h1 with
      | cons _ h => exact .inr ⟨h, h2⟩
      | cons_cons _ h => exact .inl ⟨_, ⟨h, by simpa using h2⟩, rfl⟩
theorem setsF_pw : ∀ (m : Nat) (l : List Int), l.Pairwise (· < ·) → (setsF m l).Pairwise fun a b => cmpL a b ≤ 0
  | 0, l, _ => by simp [setsF]
  | m + 1, [], _ => by simp [setsF]
  | m + 1, a :: l, h => by
    rw [List.pairwise_cons] at h
    rw [setsF, List.pairwise_append]
    refine ⟨?_, setsF_pw (m + 1) l h.2, ?_⟩
    · rw [List.pairwise_map]
      refine (setsF_pw m l h.2).imp fun {x y} hxy => ?_
      simp only [cmpL, cmpI_eq, ne_eq, not_true, if_false]
      exact hxy
    · intro x hx y hy
      obtain ⟨x', hx', rfl⟩ := List.mem_map.1 hx
      obtain ⟨h1, h2⟩ := (mem_setsF (m + 1) l y).1 hy
      cases y with
      | nil => simp at h2
      | cons b y =>
        have hb : b ∈ l := h1.subset (by simp)
        simp only [cmpL, cmpI_lt (h.1 b hb)]
        simp
/-! Sets by bits. -/
def setL (n s : Nat) : List Int := idxT 0 (maskF s n)
def numFrom (i n : Nat) : List Int := (List.range' i n).map fun (k : Nat) => (k : Int)
def shB : Option (List Int) → List Int → Bool
  | none, _ => true
  | some x, l => decide (l.length < x.length ∨ l.length = x.length ∧ cmpL l x < 0)
def refS (n : Nat) (p : List Int → Bool) : Nat → Nat → Option (List Int) → Option (List Int)
  | 0, _, b => b
  | k + 1, s, b => refS n p k (s + 1) (if shB b (setL n s) && p (setL n s) then some (setL n s) else b)
/-! What is left of a list. -/
def falB : List Int → List Bool → List Int
  | l :: ls, b :: bs => if b then falB ls bs else l :: falB ls bs
  | _, _ => []
end S04

