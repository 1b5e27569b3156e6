/- A part of the proof: P04b, P04c. -/
import Derived.Test.YtncbkgbdpaibmaaP04a
set_option linter.unusedVariables false
set_option linter.unusedSimpArgs false
namespace S04
open Go Abs
/-! Lists between bounds. -/
def Btw : List Int → List Int → List Int → Prop
  | [], [], [] => True
  | a :: as', b :: bs, x :: xs => a ≤ x ∧ x ≤ b ∧ Btw as' bs xs
  | _, _, _ => False
theorem Btw.len : ∀ {a b x : List Int}, Btw a b x → a.length = x.length ∧ b.length = x.length
  | [], [], [], _ => ⟨rfl, rfl⟩
  | a :: u, b :: t, x :: xs, h => by
    have := Btw.len h.2.2
    simp [this.1, this.2]
theorem Btw.sum : ∀ {a b x : List Int}, Btw a b x → sumI a ≤ sumI x ∧ sumI x ≤ sumI b
  | [], [], [], _ => by simp
  | a :: u, b :: t, x :: xs, h => by
    have := Btw.sum h.2.2
    have h1 := h.1
    have h2 := h.2.1
    simp only [sumI]
    omega
def Leq : List Int → List Int → Prop
  | [], [] => True
  | a :: u, b :: t => a ≤ b ∧ Leq u t
  | _, _ => False
theorem Btw.leq : ∀ {a b x : List Int}, Btw a b x → Leq a b
  | [], [], [], _ => trivial
  | a :: u, b :: t, x :: xs, h => ⟨Int.le_trans h.1 h.2.1, Btw.leq h.2.2⟩
theorem Leq.sum : ∀ {a b : List Int}, Leq a b → sumI a ≤ sumI b
  | [], [], _ => by simp [sumI]
  | a :: u, b :: t, h => by
    have := Leq.sum h.2
    have := h.1
    simp only [sumI]
    omega
def Fea (ms : List Int) (lo hi all : Int) (x : List Int) : Prop := Btw (gl lo ms) (gm hi ms) x ∧ sumI x = all
/-! An order. -/
def Lm (S : List Int → Prop) (o : Option (List Int)) : Prop := match o with | none => ∀ x, ¬ S x | some l => S l ∧ ∀ x, S x → cmpL l x ≤ 0
theorem Lm.congr {S T : List Int → Prop} {o : Option (List Int)} (e : ∀ x, S x ↔ T x) (h : Lm S o) : Lm T o := by
  cases o with
  | none => exact fun x hx => h x ((e x).2 hx)
  | some l => exact ⟨(e l).1 h.1, fun x hx => h.2 x ((e x).2 hx)⟩
def Lays (ms : List Int) (L all wide : Int) (x : List Int) : Prop := ∃ low, L ≤ low ∧ low ≤ all + 5 ∧ Fea ms low (low + wide) all x
end S04

namespace S04
open Go Abs
/-! Looks and windows. -/
def glR (L lo : Int) (ms : List Int) : List Int := ms.map fun m => max (max 0 (L - m)) (lo - m)
def FeaR (ms : List Int) (L lo hi all : Int) (x : List Int) : Prop := Btw (glR L lo ms) (gm hi ms) x ∧ sumI x = all
/-! The first spread. -/
theorem least (p : Nat → Prop) : ∀ n, p n → ∃ m, m ≤ n ∧ p m ∧ ∀ k, k < m → ¬ p k := by
  intro n
  induction n using Nat.strongRecOn with
  | ind n ih =>
    intro hn
    by_cases h : ∃ k, k < n ∧ p k
    · obtain ⟨k, hk, hp⟩ := h
      obtain ⟨m, h1, h2, h3⟩ := ih k hk hp
      exact ⟨m, by omega, h2, h3⟩
    · exact ⟨n, Nat.le_refl _, hn, fun k hk hp => h ⟨k, hk, hp⟩⟩
def wideG (L : Int) : List Int → Int → List Int
  | [], _ => []
  | [m], r => [max 0 (L - m) + r]
  | m :: m' :: ms, r => max 0 (L - m) :: wideG L (m' :: ms) r
/-! The reference's search. -/
def tryR (f : Int → Option (List Int)) : Nat → Int → Option (List Int)
  | 0, _ => none
  | k + 1, n => match f n with | some l => some l | none => tryR f k (n + 1)
def fillR (L lo hi : Int) : List Int → List Int → Int → Option (List Int)
  | [], b, all => if all = 0 then some b else none
  | m :: ms, b, all => tryR (fun n => if sumI (gm hi ms) < all - n ∨ all - n < sumI (glR L lo ms) then none else fillR L lo hi ms (b ++ [n]) (all - n)) (hi - m + 1 - max (max 0 (L - m)) (lo - m)).toNat (max (max 0 (L - m)) (lo - m))
def refN (ms : List Int) (L all wide : Int) : Nat → Int → Option (List Int) → Option (List Int)
  | 0, _, b => b
  | n + 1, low, b => refN ms L all wide n (low + 1) (best1 b (fillR L low (low + wide) ms [] all))
end S04

