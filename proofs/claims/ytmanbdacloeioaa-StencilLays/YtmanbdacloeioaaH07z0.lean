/- A part of the proof: H07z0. -/
import Derived.Test.YtmanbdacloeioaaH07a
set_option linter.unusedVariables false
set_option linter.unusedSimpArgs false
set_option maxRecDepth 20000
namespace S07
open Go Abs
theorem countF_ok {N : Int} {cs : List Int} (n0 : 1 ≤ N) (n8 : N ≤ 8) (hb : ∀ x ∈ cs, 0 ≤ x ∧ x < 256) (hl : cs.length = 8) : CountOk N (countF N cs) := by
  refine ⟨by simp [countF, hl]; omega, ?_⟩
  intro n hn
  obtain ⟨x, hx, rfl⟩ := List.mem_map.1 hn
  have := hb x (List.mem_of_mem_take hx)
  have y1 := Int.tmod_nonneg 6 this.1
  have y2 := Int.tmod_lt_of_pos x (show (0 : Int) < 6 by decide)
  exact ⟨y1, by omega⟩
theorem wordF_ok {N : Int} {bs : List Int} (n0 : 1 ≤ N) (hb : ∀ x ∈ bs, 0 ≤ x ∧ x < 256) : WordOk N (wordF N bs) := by
  unfold wordF
  by_cases e : bs = []
  · rw [if_pos e]; exact ⟨by simp, by simp, by intro n hn; simp at hn; omega⟩
  · rw [if_neg e]
    have h3 := List.length_pos_iff.2 e
    refine ⟨by simp; omega, by simp; omega, ?_⟩
    intro n hn
    obtain ⟨x, hx, rfl⟩ := List.mem_map.1 hn
    have := hb x (List.mem_of_mem_take hx)
    exact ⟨Int.tmod_nonneg N this.1, Int.tmod_lt_of_pos x (by omega)⟩
theorem isCount_of {N : Int} {c : List Int} (h : CountOk N c) : isCount N c 5 = true := by
  simp only [isCount, Bool.and_eq_true, decide_eq_true_eq, List.all_eq_true, inB_iff]
  exact ⟨h.len, h.bd⟩
theorem isWord_of {N : Int} {w : List Int} (h : WordOk N w) : isWord N w [] = true := by
  simp only [isWord, Bool.and_eq_true, List.all_eq_true, inB_iff, List.contains_nil, Bool.or_false]
  have := h.l1; have := h.l6
  exact ⟨by omega, fun n hn => by have := h.bd n hn; omega⟩
theorem errL_zero {N : Int} {H A : List (Int × Int)} {c : List Int} {W : List (List Int)} (e : errA N H A = 0) (hc : CountOk N c) (hW : ∀ w ∈ W, WordOk N w) (hl : W.length ≤ 5) : errL N H A c W = 0 := by
  unfold errL
  rw [if_neg (by simp [e]), if_neg (by omega), isCount_of hc]
  have : (W.all fun l => isWord N l []) = true := List.all_eq_true.2 fun w hw => isWord_of (hW w hw)
  simp [this]
theorem errA_len {N : Int} {H A : List (Int × Int)} (h : errA N H A = 0) : H.length ≤ 8 ∧ A.length ≤ 8 := by
  unfold errA at h
  split at h
  · omega
  · split at h
    · omega
    · omega
theorem unFV_fs (fs : List FV) : unFV (fs.map LV.fv) = some fs := by
  induction fs with
  | nil => rfl
  | cons x xs ih => simp only [List.map_cons, unFV, ih]; rfl
theorem fs_load {fs : List FV} {n : Nat} (hl : fs.length = n) (h0 : n ≠ 0) : partL true n (fs.map LV.fv) = some (.fv (.agg fs)) := by
  cases fs with
  | nil => simp at hl; omega
  | cons x xs =>
    have h1 : ((x :: xs).map LV.fv).take n = (x :: xs).map LV.fv := List.take_of_length_le (by simp at hl ⊢; omega)
    have h2 := unFV_fs (x :: xs)
    simp only [List.map_cons] at h1 h2 ⊢
    rw [partL_agg, if_pos (by simp at hl ⊢; omega), h1]
    unfold mkAgg
    rw [h2]
theorem ints_len (l : List Int) : (ints l).length = l.length := by simp [ints]
theorem eqB (h : AH) (a b : Bool) : eqV Q h 4 (.fv (.val (.bool a))) (.fv (.val (.bool b))) = some (a == b) := by
  have : boolTy Q 4 = true := by kernel_rfl
  simp [eqV, this]
end S07

