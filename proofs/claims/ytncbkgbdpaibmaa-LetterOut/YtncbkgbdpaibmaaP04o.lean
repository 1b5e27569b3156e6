/- A part of the proof: P04o. -/
import Derived.Test.YtncbkgbdpaibmaaP04d
import Derived.Test.YtncbkgbdpaibmaaX04e
set_option linter.unusedVariables false
set_option linter.unusedSimpArgs false
namespace S04
open Go Abs
/-! Letters that are left out. -/
def LfI (c : Cs) (w : List Int) (n : Int) (o : Option (List Int)) : Prop := match o with
  | none => ∀ y, y.Sublist (numF w.length) → c.goP w n y = false
  | some x => x.Sublist (numF w.length) ∧ c.goP w n x = true ∧ ∀ y, y.Sublist (numF w.length) → c.goP w n y = true → x.length ≤ y.length
theorem lf_is (c : Cs) (w : List Int) (n : Int) : LfI c w n (c.lf w n) := by
  have h := fewF_SM w.length (c.goP w n)
  unfold Cs.lf
  generalize fewF w.length (c.goP w n) = o at *
  cases o with
  | none =>
    intro y hy
    have := h y
    simpa [hy] using this
  | some x =>
    obtain ⟨⟨h1, h2⟩, h3⟩ := h
    refine ⟨h1, h2, fun y hy hp => ?_⟩
    rcases h3 y ⟨hy, hp⟩ with h | h
    · omega
    · omega
theorem woF_ne {y : List Int} : ∀ (w : List Int) (k : Nat), woF y w k = [] → ∀ i : Nat, i < w.length → y.contains ((k + i : Nat) : Int) = true
  | [], k, _, i, hi => by simp at hi
  | a :: w, k, h, i, hi => by
    rw [woF] at h
    by_cases e : y.contains (k : Int) = true
    · rw [if_pos e] at h
      cases i with
      | zero => simpa using e
      | succ i =>
        have := woF_ne w (k + 1) h i (by simpa using hi)
        rwa [show k + 1 + i = k + (i + 1) by omega] at this
    · rw [if_neg e] at h; simp at h
theorem woF_some {y w : List Int} (h : y.length < w.length) : woF y w 0 ≠ [] := by
  intro e
  have h1 := woF_ne w 0 e
  have h2 := filter_few (numF w.length) y (numF_pw _)
  rw [List.filter_eq_self.2 (fun x hx => by
    have := numF_mem.1 hx
    have := h1 x.toNat (by omega)
    rwa [show ((0 + x.toNat : Nat) : Int) = x by omega] at this), numF_len] at h2
  omega
theorem goP_not {c : Cs} {w y : List Int} {n : Int} (h : c.goP w n y = false) (hl : y.length < w.length) : n < c.nd (woF y w 0) := by
  unfold Cs.goP at h
  have := woF_some hl
  simp only [Bool.and_eq_false_iff] at h
  rcases h with h | h
  · rw [Bool.not_eq_false', List.isEmpty_iff] at h; exact absurd h this
  · simpa using h
structure LfS (c : Cs) (w : List Int) (n : Int) (x : List Int) : Prop where
  l : x.length < w.length
  s : x.Sublist (numF w.length)
  p : c.nd (woF x w 0) ≤ n
  m : ∀ y, y.Sublist (numF w.length) → y.length < x.length → n < c.nd (woF y w 0)
theorem lf_some {c : Cs} {w : List Int} {n : Int} {x : List Int} (h : c.lf w n = some x) : LfS c w n x := by
  have h1 := lf_is c w n
  rw [h] at h1
  obtain ⟨h1, h2, h3⟩ := h1
  have hg := h2
  unfold Cs.goP at hg
  simp only [Bool.and_eq_true, Bool.not_eq_true', decide_eq_true_eq] at hg
  have hl : x.length < w.length := by
    have := h1.length_le
    rw [numF_len] at this
    refine Nat.lt_of_le_of_ne this fun e => ?_
    have ex : x = numF w.length := h1.eq_of_length (by rw [numF_len, e])
    have : woF x w 0 = [] := woF_none w 0 fun i hi => by
      rw [ex]
      have : ((0 + i : Nat) : Int) ∈ numF w.length := numF_mem.2 (by omega)
      simpa using this
    rw [this] at hg
    simp at hg
  refine ⟨hl, h1, hg.2, fun y hy hlt => goP_not ?_ (by omega)⟩
  cases e : c.goP w n y
  · rfl
  · have := h3 y hy e; omega
theorem woF_nil : ∀ (w : List Int) (k : Nat), woF [] w k = w
  | [], _ => rfl
  | a :: w, k => by rw [woF, if_neg (by simp), woF_nil w (k + 1)]
theorem woF_one {i : Nat} : ∀ (w : List Int) (k : Nat) (y : List Int) (a : Int), w[i]? = some a → (∀ j : Nat, j < w.length → y.contains ((k + j : Nat) : Int) = decide (j ≠ i)) → woF y w k = [a] := by
  induction i with
  | zero =>
    intro w k y a h hy
    cases w with
    | nil => simp at h
    | cons b w =>
      simp at h
      subst h
      have h0 := hy 0 (by simp)
      rw [Nat.add_zero] at h0
      rw [woF, if_neg (by rw [h0]; simp), woF_none w (k + 1)]
      intro j hj
      have := hy (j + 1) (by simpa using hj)
      rw [show k + (j + 1) = k + 1 + j by omega] at this
      rw [this]; simp
  | succ i ih =>
    intro w k y a h hy
    cases w with
    | nil => simp at h
    | cons b w =>
      have h0 := hy 0 (by simp)
      rw [Nat.add_zero] at h0
      rw [woF, if_pos (by rw [h0]; simp)]
      refine ih w (k + 1) y a (by simpa using h) fun j hj => ?_
      have := hy (j + 1) (by simpa using hj)
      rw [show k + (j + 1) = k + 1 + j by omega] at this
      rw [this]; simp
theorem lf_none {c : Cs} {w : List Int} {n : Int} (h : c.lf w n = none) {i : Nat} {a : Int} (hi : w[i]? = some a) : n < c.nd [a] := by
  have h1 := lf_is c w n
  rw [h] at h1
  have hil := (List.getElem?_eq_some_iff.1 hi).1
  have h2 := h1 ((numF w.length).filter fun x => decide (x ≠ (i : Int))) List.filter_sublist
  have e : woF ((numF w.length).filter fun x => decide (x ≠ (i : Int))) w 0 = [a] := by
    refine woF_one w 0 _ a hi fun j hj => ?_
    rw [Bool.eq_iff_iff]
    simp only [List.contains_eq_mem, decide_eq_true_eq, List.mem_filter]
    constructor
    · rintro ⟨_, h⟩ rfl; exact h (by omega)
    · intro h; exact ⟨numF_mem.2 (by omega), by omega⟩
  unfold Cs.goP at h2
  rw [e] at h2
  simpa using h2
def rotF (n f m : Nat) : List Int := (numF n).filter fun i => decide ((i - (f : Int) + (n : Int)).tmod (n : Int) < (m : Int))
theorem rot_few : ∀ n < 8, ∀ f < n, ∀ m < 8, (rotF n f m).length ≤ m := by decide +kernel
/-! A case with one letter more. -/
def Cs.more (c : Cs) (z : Int) : Cs := ⟨c.W ++ [z], c.P, c.R, c.L, c.B⟩
theorem more_loo (c : Cs) (z : Int) : ∀ w : List Int, (c.more z).loo w = (c.wid z).loo w
  | [] => rfl
  | [_] => rfl
  | a :: b :: w => by
    rw [Cs.loo, Cs.loo, more_loo c z (b :: w)]; rfl
theorem more_ws (c : Cs) (z : Int) : ∀ w : List Int, (c.more z).ws w = (c.wid z).ws w
  | [] => rfl
  | a :: w => by rw [Cs.ws, Cs.ws, more_ws c z w]; rfl
theorem more_nd (c : Cs) (z : Int) (w : List Int) : (c.more z).nd w = (c.wid z).nd w := by
  unfold Cs.nd Cs.wd
  rw [more_loo, more_ws]; rfl
theorem more_rk {c : Cs} (ok : c.Ok) {z : Int} (z0 : 1 ≤ z) (z1 : z ≤ 30) : Rk (c.more z) := by
  have h := wid_rk ok z0 z1
  exact ⟨h.w, h.r0, h.r1, h.l0, h.l1, h.moR, h.mo⟩
end S04

