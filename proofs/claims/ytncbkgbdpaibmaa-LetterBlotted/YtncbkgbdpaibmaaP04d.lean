/- A part of the proof: P04d, P04e. -/
import Derived.Test.YtncbkgbdpaibmaaP04b
import Derived.Test.YtncbkgbdpaibmaaH04h
set_option linter.unusedVariables false
set_option linter.unusedSimpArgs false
namespace S04
open Go Abs
def idxT : Nat → List Bool → List Int
  | _, [] => []
  | i, b :: bs => if b then (i : Int) :: idxT (i + 1) bs else idxT (i + 1) bs
def maskF (s k : Nat) : List Bool := (List.range k).map (fun i => Nat.testBit s i)
/-! Lists of numbers, by length and order. -/
def sl (a b : List Int) : Prop := a.length < b.length ∨ (a.length = b.length ∧ cmpL a b ≤ 0)
def SM (S : List Int → Prop) (o : Option (List Int)) : Prop := match o with | none => ∀ x, ¬ S x | some l => S l ∧ ∀ x, S x → sl l x
theorem SM.congr {S T : List Int → Prop} {o : Option (List Int)} (e : ∀ x, S x ↔ T x) (h : SM S o) : SM T o := by
  cases o with
  | none => exact fun x hx => h x ((e x).2 hx)
  | some l => exact ⟨(e l).1 h.1, fun x hx => h.2 x ((e x).2 hx)⟩
/-! All sets of numbers. -/
/-! Sets by bits. -/
def setL (n s : Nat) : List Int := idxT 0 (maskF s n)
def numFrom (i n : Nat) : List Int := (List.range' i n).map fun (k : Nat) => (k : Int)
def shB : Option (List Int) → List Int → Bool
  | none, _ => true
  | some x, l => decide (l.length < x.length ∨ l.length = x.length ∧ cmpL l x < 0)
def refS (n : Nat) (p : List Int → Bool) : Nat → Nat → Option (List Int) → Option (List Int)
  | 0, _, b => b
  | k + 1, s, b => refS n p k (s + 1) (if shB b (setL n s) && p (setL n s) then some (setL n s) else b)
/-! What is left of a list. -/
def falB : List Int → List Bool → List Int
  | l :: ls, b :: bs => if b then falB ls bs else l :: falB ls bs
  | _, _ => []
end S04

namespace S04
open Go Abs
/-! A letter without pairs, in a place of a word. -/
theorem ws_app (c : Cs) : ∀ a b : List Int, c.ws (a ++ b) = c.ws a + c.ws b
  | [], b => by simp [Cs.ws]
  | x :: a, b => by simp [Cs.ws, ws_app c a b, Int.add_assoc]
def Cs.wid (c : Cs) (z : Int) : Cs := ⟨c.W ++ [z], c.P, c.R, c.L, 0⟩
end S04

