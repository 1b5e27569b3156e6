/- A part of the proof: P07aa, P07ab, P07al, P07a. -/
import Derived.Test.YtmanbdacloeioaaH07b
import Derived.Test.YtmanbdacloeioaaH07a
set_option linter.unusedVariables false
set_option linter.unusedSimpArgs false
set_option maxRecDepth 20000
namespace S07
open Go Abs
/-! What is made is an alphabet. -/
structure HInv (N : Int) (s : List (Int × Int) × List Bool) (arr : List Int) : Prop where
  e : headsF s.1 arr0 = some arr
  l : s.2.length = 8
  u : ∀ x : Int, 0 ≤ x → x < 8 → s.2.getD x.toNat false = false → gI arr x = -1
  b : ∀ p ∈ s.1, 0 ≤ p.1 ∧ p.1 < N ∧ 0 ≤ p.2 ∧ p.2 < N
end S07

namespace S07
open Go Abs
/-! How letters read on their heads. -/
end S07

namespace S07
open Go Abs
/-! What is lacking, by pools. -/
def dec1 (d : Int → Int) (p : Int) : Int → Int := fun x => if x = p then d x - 1 else d x
def lk : List Int → (Int → Int) → List Bool
  | [], _ => []
  | p :: ps, d => if 0 < d p then true :: lk ps (dec1 d p) else false :: lk ps d
def idxT : Nat → List Bool → List Int
  | _, [] => []
  | i, b :: bs => if b then (i : Int) :: idxT (i + 1) bs else idxT (i + 1) bs
def cntB (v : Bool) (x : Int) : List Int → List Bool → Int
  | p :: ps, b :: bs => (if p = x ∧ b = v then 1 else 0) + cntB v x ps bs
  | _, _ => 0
def cntP (x : Int) : List Int → Int
  | [] => 0
  | p :: ps => (if p = x then 1 else 0) + cntP x ps
/-! What is laid without some places. -/
def fal : List Int → List Bool → List Int
  | l :: ls, b :: bs => if b then fal ls bs else l :: fal ls bs
  | _, _ => []
theorem idxT_len : ∀ (i : Nat) (bs : List Bool), (idxT i bs).length = (bs.filter id).length
  | _, [] => rfl
  | i, b :: bs => by
    have := idxT_len (i + 1) bs
    cases b <;> simp [idxT, this]
theorem idxT_mem : ∀ (i : Nat) (bs : List Bool) (n : Int), n ∈ idxT i bs ↔ ∃ j : Nat, n = ((i + j : Nat) : Int) ∧ bs[j]? = some true
  | i, [], n => by simp [idxT]
  | i, b :: bs, n => by
    have ih := idxT_mem (i + 1) bs n
    have key : (∃ j : Nat, n = ((i + j : Nat) : Int) ∧ (b :: bs)[j]? = some true) ↔ (n = (i : Nat) ∧ b = true) ∨ ∃ j : Nat, n = ((i + 1 + j : Nat) : Int) ∧ bs[j]? = some true := by
      constructor
      · rintro ⟨j, h1, h2⟩
        cases j with
        | zero => exact .inl ⟨by simpa using h1, by simpa using h2⟩
        | succ j => exact .inr ⟨j, by omega, by simpa using h2⟩
      · rintro (⟨h1, h2⟩ | ⟨j, h1, h2⟩)
        · exact ⟨0, by simpa using h1, by simp [h2]⟩
        · exact ⟨j + 1, by omega, by simpa using h2⟩
    rw [key, ← ih]
    cases b <;> simp [idxT]
/-! Counts. -/
def hasP (f : Int → Int) : List Int → Nat → Int → Int
  | [], _, _ => 0
  | n :: ns, i, x => (if f i = x then n else 0) + hasP f ns (i + 1) x
theorem cntP_nn (x : Int) : ∀ ps, 0 ≤ cntP x ps
  | [] => by simp [cntP]
  | p :: ps => by have := cntP_nn x ps; simp only [cntP]; split <;> omega
section
variable {q : Al} (hq : HdOk q.N q.arr) (h8 : q.N ≤ 8)
include hq h8
end
/-! The law of a case. -/
section
variable {q : Al} {c w : List Int}
def fl0 (q : Al) (c w : List Int) : List Bool := lk (w.map q.pool) (fun x => cntP x (w.map q.pool) - hasP q.pool c 0 x)
theorem idxT_nil_of {bs : List Bool} (h : ∀ j : Nat, bs[j]? ≠ some true) : idxT 0 bs = [] := by
  rw [List.eq_nil_iff_forall_not_mem]
  intro n hn
  obtain ⟨j, _, h2⟩ := (idxT_mem 0 bs n).1 hn
  exact h j h2
end
end S07

namespace S07
open Go Abs
end S07

