/- A part of the proof: P04a. -/
import Derived.Test.YtncbkgbdpaibmaaH04d
set_option linter.unusedVariables false
set_option linter.unusedSimpArgs false
namespace S04
open Go Abs
/-! Pairs that are twice. -/
def keyT (p : Int × Int × Int) : Int × Int := (p.1, p.2.1)
def dupK : List (Int × Int) → List (Int × Int × Int) → Bool
  | _, [] => false
  | K, p :: ps => K.contains (keyT p) || dupK (K ++ [keyT p]) ps
theorem dupK_len : ∀ (P : List (Int × Int × Int)) (M : List ((Int × Int) × Int)), dupK (M.map Prod.fst) P = true ↔ (moresF P M).length < M.length + P.length
  | [], M => by simp [dupK, moresF]
  | p :: ps, M => by
    have ih := dupK_len ps (kUp M (p.1, p.2.1) 0 p.2.2)
    have hl := kUp_len M (p.1, p.2.1) p.2.2
    have hf := kUp_fst M (p.1, p.2.1) 0 p.2.2
    rw [kEnt_fst] at hf
    have hm := moresF_len ps (kUp M (p.1, p.2.1) 0 p.2.2)
    simp only [dupK, moresF, List.length_cons]
    by_cases h : (p.1, p.2.1) ∈ M.map Prod.fst
    · rw [if_pos h] at hl
      have hc : (M.map Prod.fst).contains (keyT p) = true := by simpa [keyT] using h
      rw [hc, Bool.true_or]
      constructor
      · intro _; omega
      · intro _; rfl
    · rw [if_neg h] at hl hf
      have hc : (M.map Prod.fst).contains (keyT p) = false := by
        rw [Bool.eq_false_iff]; intro e; exact h (by simpa [keyT] using e)
      rw [hc, Bool.false_or]
      rw [hf] at ih
      rw [show keyT p = (p.1, p.2.1) from rfl, ih, hl]
      omega
theorem dup_M (c : Cs) : dupK [] c.P = true ↔ c.M.length < c.P.length := by
  have := dupK_len c.P []
  rw [List.map_nil, List.length_nil, Nat.zero_add] at this
  exact this
/-! By how much a gap looks wider. -/
def moR : List (Int × Int × Int) → Int → Int → Int
  | [], _, _ => 0
  | p :: ps, a, b => if p.1 = a ∧ p.2.1 = b then p.2.2 else moR ps a b
theorem mo_other : ∀ (P : List (Int × Int × Int)) (M : List ((Int × Int) × Int)) (k : Int × Int), (M.map Prod.fst).Nodup → (∀ p ∈ P, keyT p ≠ k) → kGet (moresF P M) k 0 = kGet M k 0
  | [], M, k, _, _ => rfl
  | p :: ps, M, k, nd, h => by
    rw [moresF, mo_other ps _ k (kUp_nodup _ _ _ nd) fun q hq => h q (by simp [hq]), kGet_up nd, if_neg]
    intro e
    exact h p (by simp) e.symm
theorem mo_eq : ∀ (P : List (Int × Int × Int)) (M : List ((Int × Int) × Int)) (a b : Int), (M.map Prod.fst).Nodup → dupK (M.map Prod.fst) P = false → (a, b) ∉ M.map Prod.fst → kGet (moresF P M) (a, b) 0 = moR P a b
  | [], M, a, b, nd, _, h => by
    unfold moresF moR kGet
    rw [lookup_none.2 h]
    rfl
  | p :: ps, M, a, b, nd, hd, h => by
    simp only [dupK, Bool.or_eq_false_iff] at hd
    have hk : (p.1, p.2.1) ∉ M.map Prod.fst := by
      intro e
      have : (M.map Prod.fst).contains (keyT p) = true := by simpa [keyT] using e
      rw [this] at hd
      simp at hd
    have hf := kUp_fst M (p.1, p.2.1) 0 p.2.2
    rw [kEnt_fst, if_neg hk] at hf
    by_cases e : p.1 = a ∧ p.2.1 = b
    · obtain ⟨rfl, rfl⟩ := e
      rw [moresF, moR, if_pos ⟨rfl, rfl⟩]
      rw [mo_other ps _ _ (kUp_nodup _ _ _ nd), kGet_up nd, if_pos rfl]
      intro q hq e
      -- a later pair of the same key
      have : ∀ (K : List (Int × Int)) (qs : List (Int × Int × Int)), dupK K qs = false → q ∈ qs → keyT q ∉ K := by
        intro K qs
        induction qs generalizing K with
        | nil => intro _ h; simp at h
        | cons r rs ih =>
          intro h1 h2
          simp only [dupK, Bool.or_eq_false_iff] at h1
          rcases List.mem_cons.1 h2 with rfl | h2
          · intro hm
            have : K.contains (keyT q) = true := by simpa using hm
            rw [this] at h1; simp at h1
          · intro hm
            exact ih _ h1.2 h2 (List.mem_append_left _ hm)
      exact this _ ps hd.2 hq (by rw [e]; simp [keyT])
    · rw [moresF, moR, if_neg e]
      refine mo_eq ps _ a b (kUp_nodup _ _ _ nd) (by rw [hf]; exact hd.2) ?_
      rw [hf]
      intro hm
      rcases List.mem_append.1 hm with hm | hm
      · exact h hm
      · simp only [List.mem_singleton, Prod.mk.injEq] at hm
        exact e ⟨hm.1.symm, hm.2.symm⟩
theorem Cs.Ok.moR {c : Cs} (ok : c.Ok) (a b : Int) : S04.moR c.P a b = c.mo a b := by
  unfold Cs.mo Cs.M
  refine (mo_eq c.P [] a b (by simp) ?_ (by simp)).symm
  rw [List.map_nil, Bool.eq_false_iff, ne_eq, dup_M c]
  have := ok.pn
  omega
/-! Spreads. -/
end S04

