/- A part of the proof: H07z, H07f0. -/
import Derived.Test.YtmanbdacloeioaaP07a
set_option linter.unusedVariables false
set_option linter.unusedSimpArgs false
set_option maxRecDepth 20000
namespace S07
open Go Abs
theorem countF_ok {N : Int} {cs : List Int} (n0 : 1 ≤ N) (n8 : N ≤ 8) (hb : ∀ x ∈ cs, 0 ≤ x ∧ x < 256) (hl : cs.length = 8) : CountOk N (countF N cs) := by
  refine ⟨by simp [countF, hl]; omega, ?_⟩
  intro n hn
  obtain ⟨x, hx, rfl⟩ := List.mem_map.1 hn
  have := hb x (List.mem_of_mem_take hx)
  have y1 := Int.tmod_nonneg 6 this.1
  have y2 := Int.tmod_lt_of_pos x (show (0 : Int) < 6 by decide)
  exact ⟨y1, by omega⟩
theorem wordF_ok {N : Int} {bs : List Int} (n0 : 1 ≤ N) (hb : ∀ x ∈ bs, 0 ≤ x ∧ x < 256) : WordOk N (wordF N bs) := by
  unfold wordF
  by_cases e : bs = []
  · rw [if_pos e]; exact ⟨by simp, by simp, by intro n hn; simp at hn; omega⟩
  · rw [if_neg e]
    have h3 := List.length_pos_iff.2 e
    refine ⟨by simp; omega, by simp; omega, ?_⟩
    intro n hn
    obtain ⟨x, hx, rfl⟩ := List.mem_map.1 hn
    have := hb x (List.mem_of_mem_take hx)
    exact ⟨Int.tmod_nonneg N this.1, Int.tmod_lt_of_pos x (by omega)⟩
theorem isCount_of {N : Int} {c : List Int} (h : CountOk N c) : isCount N c 5 = true := by
  simp only [isCount, Bool.and_eq_true, decide_eq_true_eq, List.all_eq_true, inB_iff]
  exact ⟨h.len, h.bd⟩
theorem isWord_of {N : Int} {w : List Int} (h : WordOk N w) : isWord N w [] = true := by
  simp only [isWord, Bool.and_eq_true, List.all_eq_true, inB_iff, List.contains_nil, Bool.or_false]
  have := h.l1; have := h.l6
  exact ⟨by omega, fun n hn => by have := h.bd n hn; omega⟩
theorem errL_zero {N : Int} {H A : List (Int × Int)} {c : List Int} {W : List (List Int)} (e : errA N H A = 0) (hc : CountOk N c) (hW : ∀ w ∈ W, WordOk N w) (hl : W.length ≤ 5) : errL N H A c W = 0 := by
  unfold errL
  rw [if_neg (by simp [e]), if_neg (by omega), isCount_of hc]
  have : (W.all fun l => isWord N l []) = true := List.all_eq_true.2 fun w hw => isWord_of (hW w hw)
  simp [this]
theorem made_v {b : Int} {hl al : List (Int × Int)} (b0 : 0 ≤ b) : SetV (madeV b hl al) (madeN b) (lstN ((madeH (madeN b) hl).1.map pF)) (lstN ((madeA (madeN b) al).map pF)) (madeH (madeN b) hl).1 (madeA (madeN b) al) := by
  have l1 := (hFold_len (madeN b) (hl.take 6) ([], b8)).2
  have l2 := List.length_filter_le (fun q : Int × Int => decide (q.1 ≠ q.2)) ((al.take 6).map (pN (madeN b)))
  simp only [List.length_nil, List.length_map, List.length_take] at l1 l2
  refine ⟨rfl, lsOf_lstN _, lsOf_lstN _, ?_, ?_⟩
  · show (((hl.take 6).foldl (hStep (madeN b)) ([], b8)).1).length ≤ _; omega
  · unfold madeA; omega
theorem errA_len {N : Int} {H A : List (Int × Int)} (h : errA N H A = 0) : H.length ≤ 8 ∧ A.length ≤ 8 := by
  unfold errA at h
  split at h
  · omega
  · split at h
    · omega
    · omega
theorem unFV_fs (fs : List FV) : unFV (fs.map LV.fv) = some fs := by
  induction fs with
  | nil => rfl
  | cons x xs ih => simp only [List.map_cons, unFV, ih]; rfl
theorem fs_load {fs : List FV} {n : Nat} (hl : fs.length = n) (h0 : n ≠ 0) : partL true n (fs.map LV.fv) = some (.fv (.agg fs)) := by
  cases fs with
  | nil => simp at hl; omega
  | cons x xs =>
    have h1 : ((x :: xs).map LV.fv).take n = (x :: xs).map LV.fv := List.take_of_length_le (by simp at hl ⊢; omega)
    have h2 := unFV_fs (x :: xs)
    simp only [List.map_cons] at h1 h2 ⊢
    rw [partL_agg, if_pos (by simp at hl ⊢; omega), h1]
    unfold mkAgg
    rw [h2]
theorem ints_len (l : List Int) : (ints l).length = l.length := by simp [ints]
theorem eqB (h : AH) (a b : Bool) : eqV Q h 4 (.fv (.val (.bool a))) (.fv (.val (.bool b))) = some (a == b) := by
  have : boolTy Q 4 = true := by kernel_rfl
  simp [eqV, this]
end S07

namespace S07
open Go Abs
theorem t53o {st : FV} {N : Int} {hs al : FV} {H A : List (Int × Int)} {bs : List Int} (v : SetV st N hs al H A) (n0 : 1 ≤ N) (n8 : N ≤ 8) (hb : ∀ x ∈ bs, 0 ≤ x ∧ x < 256) (hl : bs.length = 8) :
    Fn Q 53 [.fo st, .fo (.agg (bs.map u8))] (.one (.own 3 1 false (ints (countF N bs)))) := by
  obtain ⟨rfl, hH, hA, lH, lA⟩ := v
  have o1 := ls_one hH
  have o2 := ls_one hA
  have o3 : ((bs.map u8).map LV.fv).all LV.one = true := by simp [u8, LV.one, FV.one]
  refine fn_intro Go.Proofs.Try.func53 rfl (by kernel_rfl) mix (k53 0) (Nat.le_of_ble_eq_true (by kernel_rfl)) ?_
  refine Abs.walk ?_
  unfold c53 sop
  simp -implicitDefEqProofs only [go_sem, simprocAttr, o1, o2, o3, hl]
  refine lpH 7 [5, 6] 7 [] (fun k : Nat => N.toNat - k) (fun k => k ≤ N.toNat) (fun k ρ h => ρ 6 = .fv (.int k) ∧ ρ 5 = .gl 7 (h.gen 7) ∧ h.gen 7 ≠ 0 ∧ h.obj 7 = some (.list 3 1 false false (ints ((bs.take k).map (·.tmod 6))))) 0 (by omega) ?_ ?_
  · simp -implicitDefEqProofs only [go_sem, simprocAttr, List.take_zero, ints]
  · rintro k ρ h' hk ⟨r6, r5, g7, o7⟩
    by_cases q1 : k < N.toNat
    · have q1' : (k : Int) < N := by omega
      obtain ⟨x, hx⟩ : ∃ x, bs[k]? = some x := ⟨_, List.getElem?_eq_getElem (by omega)⟩
      have hxb := hb x (List.mem_of_getElem? hx)
      have hw : IntKind.i64.wrap ((k : Int) + 1) = ((k + 1 : Nat) : Int) := wr _ (by omega) (by omega)
      have hwx : IntKind.i64.wrap x = x := wr _ (by omega) (by omega)
      have et : bs.take (k + 1) = bs.take k ++ [x] := by rw [List.take_add_one, hx]; rfl
      have k8 : (k : Int) < 8 := by omega
      have hg : partL false 1 (List.drop k ((bs.map u8).map LV.fv)) = some (.fv (u8 x)) := partL_get (by simp [hx])
      simp -implicitDefEqProofs only [go_sem, simprocAttr, r6, r5, q1', k8, hg, u8, hwx]
      refine app_gl (by simp -implicitDefEqProofs only [go_sem, simprocAttr, o7]; rfl) idx_26 (by simp -implicitDefEqProofs only [go_sem, simprocAttr]; rfl) (by simp [FV.cells]) (by simp -implicitDefEqProofs only [go_sem, simprocAttr]) (by simp [byt_3, ints]; omega) (by simp [maxLen, ints]; omega) (by simp) ?_
      simp -implicitDefEqProofs only [go_sem, simprocAttr, r6, hw]
      refine nxt (k + 1) (by omega) (by omega) ?_
      simp -implicitDefEqProofs only [go_sem, simprocAttr, et, ints, List.map_append]
    · have e6 : k = N.toNat := by omega
      have q1' : ¬ (k : Int) < N := by omega
      simp -implicitDefEqProofs only [go_sem, simprocAttr, r6, r5, q1']
      exact ret_own (by simp -implicitDefEqProofs only [go_sem, simprocAttr, g7]) (by simp -implicitDefEqProofs only [go_sem, simprocAttr, o7, countF, e6])
theorem lsF_len (W : List (List Int)) : (lsF W).length = W.length := by simp [lsF]
end S07

