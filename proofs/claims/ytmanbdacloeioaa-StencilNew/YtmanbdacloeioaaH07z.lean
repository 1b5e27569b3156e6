/- A part of the proof: H07z, P07g. -/
import Derived.Test.YtmanbdacloeioaaP07a
set_option linter.unusedVariables false
set_option linter.unusedSimpArgs false
set_option maxRecDepth 20000
set_option linter.unusedSectionVars false
namespace S07
open Go Abs
theorem countF_ok {N : Int} {cs : List Int} (n0 : 1 ≤ N) (n8 : N ≤ 8) (hb : ∀ x ∈ cs, 0 ≤ x ∧ x < 256) (hl : cs.length = 8) : CountOk N (countF N cs) := by
  refine ⟨by simp [countF, hl]; omega, ?_⟩
  intro n hn
  obtain ⟨x, hx, rfl⟩ := List.mem_map.1 hn
  have := hb x (List.mem_of_mem_take hx)
  have y1 := Int.tmod_nonneg 6 this.1
  have y2 := Int.tmod_lt_of_pos x (show (0 : Int) < 6 by decide)
  exact ⟨y1, by omega⟩
theorem wordF_ok {N : Int} {bs : List Int} (n0 : 1 ≤ N) (hb : ∀ x ∈ bs, 0 ≤ x ∧ x < 256) : WordOk N (wordF N bs) := by
  unfold wordF
  by_cases e : bs = []
  · rw [if_pos e]; exact ⟨by simp, by simp, by intro n hn; simp at hn; omega⟩
  · rw [if_neg e]
    have h3 := List.length_pos_iff.2 e
    refine ⟨by simp; omega, by simp; omega, ?_⟩
    intro n hn
    obtain ⟨x, hx, rfl⟩ := List.mem_map.1 hn
    have := hb x (List.mem_of_mem_take hx)
    exact ⟨Int.tmod_nonneg N this.1, Int.tmod_lt_of_pos x (by omega)⟩
theorem isCount_of {N : Int} {c : List Int} (h : CountOk N c) : isCount N c 5 = true := by
  simp only [isCount, Bool.and_eq_true, decide_eq_true_eq, List.all_eq_true, inB_iff]
  exact ⟨h.len, h.bd⟩
theorem isWord_of {N : Int} {w : List Int} (h : WordOk N w) : isWord N w [] = true := by
  simp only [isWord, Bool.and_eq_true, List.all_eq_true, inB_iff, List.contains_nil, Bool.or_false]
  have := h.l1; have := h.l6
  exact ⟨by omega, fun n hn => by have := h.bd n hn; omega⟩
theorem errL_zero {N : Int} {H A : List (Int × Int)} {c : List Int} {W : List (List Int)} (e : errA N H A = 0) (hc : CountOk N c) (hW : ∀ w ∈ W, WordOk N w) (hl : W.length ≤ 5) : errL N H A c W = 0 := by
  unfold errL
  rw [if_neg (by simp [e]), if_neg (by omega), isCount_of hc]
  have : (W.all fun l => isWord N l []) = true := List.all_eq_true.2 fun w hw => isWord_of (hW w hw)
  simp [this]
theorem made_v {b : Int} {hl al : List (Int × Int)} (b0 : 0 ≤ b) : SetV (madeV b hl al) (madeN b) (lstN ((madeH (madeN b) hl).1.map pF)) (lstN ((madeA (madeN b) al).map pF)) (madeH (madeN b) hl).1 (madeA (madeN b) al) := by
  have l1 := (hFold_len (madeN b) (hl.take 6) ([], b8)).2
  have l2 := List.length_filter_le (fun q : Int × Int => decide (q.1 ≠ q.2)) ((al.take 6).map (pN (madeN b)))
  simp only [List.length_nil, List.length_map, List.length_take] at l1 l2
  refine ⟨rfl, lsOf_lstN _, lsOf_lstN _, ?_, ?_⟩
  · show (((hl.take 6).foldl (hStep (madeN b)) ([], b8)).1).length ≤ _; omega
  · unfold madeA; omega
theorem errA_len {N : Int} {H A : List (Int × Int)} (h : errA N H A = 0) : H.length ≤ 8 ∧ A.length ≤ 8 := by
  unfold errA at h
  split at h
  · omega
  · split at h
    · omega
    · omega
theorem unFV_fs (fs : List FV) : unFV (fs.map LV.fv) = some fs := by
  induction fs with
  | nil => rfl
  | cons x xs ih => simp only [List.map_cons, unFV, ih]; rfl
theorem fs_load {fs : List FV} {n : Nat} (hl : fs.length = n) (h0 : n ≠ 0) : partL true n (fs.map LV.fv) = some (.fv (.agg fs)) := by
  cases fs with
  | nil => simp at hl; omega
  | cons x xs =>
    have h1 : ((x :: xs).map LV.fv).take n = (x :: xs).map LV.fv := List.take_of_length_le (by simp at hl ⊢; omega)
    have h2 := unFV_fs (x :: xs)
    simp only [List.map_cons] at h1 h2 ⊢
    rw [partL_agg, if_pos (by simp at hl ⊢; omega), h1]
    unfold mkAgg
    rw [h2]
theorem ints_len (l : List Int) : (ints l).length = l.length := by simp [ints]
theorem eqB (h : AH) (a b : Bool) : eqV Q h 4 (.fv (.val (.bool a))) (.fv (.val (.bool b))) = some (a == b) := by
  have : boolTy Q 4 = true := by kernel_rfl
  simp [eqV, this]
end S07

namespace S07
open Go Abs
theorem hasP_zip (f : Int → Int) (x : Int) : ∀ (a b : List Int) (i : Nat), a.length = b.length → hasP f (List.zipWith (· + ·) a b) i x = hasP f a i x + hasP f b i x
  | [], [], i, _ => by simp [hasP]
  | [], y :: ys, i, h => by simp at h
  | y :: ys, [], i, h => by simp at h
  | m :: a, n :: b, i, h => by
    have := hasP_zip f x a b (i + 1) (by simpa using h)
    simp only [List.zipWith_cons_cons, hasP, this]
    split <;> omega
theorem hasP_ge (f : Int → Int) (x : Int) : ∀ (c : List Int) (i j : Nat) (n : Int), (∀ y ∈ c, 0 ≤ y) → c[j]? = some n → f ((i + j : Nat) : Int) = x → n ≤ hasP f c i x
  | [], i, j, n, _, h, _ => by simp at h
  | m :: c, i, 0, n, h0, h, hf => by
    simp at h; subst h
    have := hasP_nn f x c (i + 1) fun y hy => h0 y (by simp [hy])
    rw [Nat.add_zero] at hf
    simp only [hasP]; rw [if_pos hf]; omega
  | m :: c, i, j + 1, n, h0, h, hf => by
    have := hasP_ge f x c (i + 1) j n (fun y hy => h0 y (by simp [hy])) (by simpa using h) (by rw [show i + 1 + j = i + (j + 1) by omega]; exact hf)
    have := h0 m (by simp)
    simp only [hasP]; split <;> omega
theorem hasP_only (f : Int → Int) (x : Int) : ∀ (c : List Int) (i : Nat) (k : Nat), (∀ (j : Nat) (n : Int), c[j]? = some n → j ≠ k → f ((i + j : Nat) : Int) = x → n = 0) → hasP f c i x = if f ((i + k : Nat) : Int) = x then c.getD k 0 else 0
  | [], i, k, _ => by simp [hasP]
  | m :: c, i, 0, h => by
    have := hasP_only f x c (i + 1) c.length (by
      intro j n hj _ hf
      exact h (j + 1) n (by simpa using hj) (by omega) (by rw [show i + (j + 1) = i + 1 + j by omega]; exact hf))
    simp only [hasP, this, Nat.add_zero, List.getD_cons_zero]
    have e : c.getD c.length 0 = 0 := by simp [List.getD_eq_getElem?_getD]
    rw [e]
    split <;> split <;> omega
  | m :: c, i, k + 1, h => by
    have := hasP_only f x c (i + 1) k (by
      intro j n hj hne hf
      exact h (j + 1) n (by simpa using hj) (by omega) (by rw [show i + (j + 1) = i + 1 + j by omega]; exact hf))
    have h1 := h 0 m (by simp) (by omega)
    rw [Nat.add_zero] at h1
    simp only [hasP, this, List.getD_cons_succ]
    rw [show i + 1 + k = i + (k + 1) by omega]
    by_cases e : f i = x
    · rw [if_pos e, h1 e]; omega
    · rw [if_neg e]; omega
theorem cntP_le (x : Int) : ∀ (w : List Int), cntP x w ≤ w.length
  | [] => by simp [cntP]
  | l :: ls => by have := cntP_le x ls; simp only [cntP, List.length_cons]; split <;> omega
theorem zip_nn {a b : List Int} (ha : ∀ n ∈ a, 0 ≤ n) (hb : ∀ n ∈ b, 0 ≤ n) : ∀ n ∈ List.zipWith (· + ·) a b, 0 ≤ n := by
  intro n hn
  obtain ⟨i, hi⟩ := List.mem_iff_getElem?.1 hn
  rw [List.getElem?_zipWith] at hi
  split at hi
  · rename_i x y e1 e2
    simp at hi
    have := ha _ (List.mem_of_getElem? e1)
    have := hb _ (List.mem_of_getElem? e2)
    omega
  · simp at hi
theorem addAt_nn {a : List Int} {k : Nat} {n : Int} (ha : ∀ n ∈ a, 0 ≤ n) (hk : a[k]? = some n) (h1 : 1 ≤ n) : ∀ x ∈ addAt a (k : Nat) (-1), 0 ≤ x := by
  intro x hx
  unfold addAt at hx
  rcases List.mem_or_eq_of_mem_set hx with hx | rfl
  · exact ha x hx
  · rw [Int.toNat_natCast, List.getD_eq_getElem?_getD, hk]
    show 0 ≤ n + -1; omega
section
variable {N : Int} {H A : List (Int × Int)} (eA : errA N H A = 0) {c : List Int} {W : List (List Int)} (hc : CountOk N c) (hW : ∀ w ∈ W, WordOk N w)
include eA hc hW
theorem cut_len : ((cutR N H A c W).length : Nat) = N := by
  obtain ⟨n0, n8, _⟩ := errA_ok eA
  unfold cutR
  rw [cutF_len]
  simp; omega
theorem cut_has : ∀ x : Int, 0 ≤ x → gI ((alOf N H A).hasF c 0 z8) x = hasP (alOf N H A).pool c 0 x := by
  intro x x0
  obtain ⟨n0, n8, _⟩ := errA_ok eA
  have := hc.len
  rw [hasF_cnt (hdOk eA) c 0 z8 x rfl (by omega) x0, gI_z8 x]; omega
theorem cut_at {t : Int} (t0 : 0 ≤ t) (t1 : t < N) :
    0 ≤ gI (cutR N H A c W) t ∧ gI (cutR N H A c W) t ≤ 6 ∧ ((alOf N H A).top ((alOf N H A).pool t) = t → ∀ w ∈ W, cntP ((alOf N H A).pool t) (w.map (alOf N H A).pool) - hasP (alOf N H A).pool c 0 ((alOf N H A).pool t) ≤ gI (cutR N H A c W) t) ∧
    (gI (cutR N H A c W) t = 0 ∨ ((alOf N H A).top ((alOf N H A).pool t) = t ∧ ∃ w ∈ W, gI (cutR N H A c W) t = cntP ((alOf N H A).pool t) (w.map (alOf N H A).pool) - hasP (alOf N H A).pool c 0 ((alOf N H A).pool t))) := by
  obtain ⟨n0, n8, _⟩ := errA_ok eA
  have hx := cut_has eA hc hW
  have c0 : ∀ n ∈ c, 0 ≤ n := fun n hn => (hc.bd n hn).1
  have pb := pool_bd (q := alOf N H A) (hdOk eA) t0 (show t < 8 by omega)
  have h0 : ∀ i : Int, 0 ≤ i → 0 ≤ gI ((alOf N H A).hasF c 0 z8) i := by
    intro i hi; rw [hx i hi]; exact hasP_nn _ _ _ _ c0
  obtain ⟨g1, g2, g3⟩ := cutF_at (q := alOf N H A) (hdOk eA) n8 h0 t0 t1 W (List.replicate N.toNat 0) (fun w hw n hn => (hW w hw).bd n hn) (by rw [List.length_replicate]; show ((N.toNat : Nat) : Int) = N; omega) (by rw [gI_rep]; exact Int.le_refl _)
  rw [gI_rep] at g1 g3
  rw [hx _ pb.1] at g2 g3
  refine ⟨g1, ?_, g2, g3⟩
  rcases g3 with e | ⟨_, w, hw, e⟩
  · show gI (cutR N H A c W) t ≤ 6
    unfold cutR; dsimp only; omega
  · have h1 := cntP_le ((alOf N H A).pool t) (w.map (alOf N H A).pool)
    have h2 := (hW w hw).l6
    have h3 := hasP_nn (alOf N H A).pool ((alOf N H A).pool t) c 0 c0
    rw [List.length_map] at h1
    unfold cutR; dsimp only; omega
theorem cut_nn : ∀ n ∈ cutR N H A c W, 0 ≤ n := by
  intro n hn
  obtain ⟨i, hi⟩ := List.mem_iff_getElem?.1 hn
  have hl := (List.getElem?_eq_some_iff.1 hi).1
  have cl := cut_len eA hc hW
  have := (cut_at eA hc hW (t := (i : Int)) (by omega) (by omega)).1
  unfold gI at this
  rw [List.getD_eq_getElem?_getD] at this
  simpa [hi] using this
theorem cut_sum (i : Nat) : 0 ≤ ((cutR N H A c W).take i).sum ∧ ((cutR N H A c W).take i).sum ≤ 6 * i := by
  induction i with
  | zero => simp
  | succ i ih =>
    by_cases hi : i < (cutR N H A c W).length
    · have cl := cut_len eA hc hW
      obtain ⟨g0, g6, _⟩ := cut_at eA hc hW (t := (i : Int)) (by omega) (by omega)
      have gx : gI (cutR N H A c W) (i : Nat) = (cutR N H A c W)[i] := by unfold gI; rw [List.getD_eq_getElem?_getD]; simp [List.getElem?_eq_getElem hi]
      rw [List.take_add_one, List.getElem?_eq_getElem hi]
      simp only [Option.toList, List.sum_append, List.sum_cons, List.sum_nil]
      omega
    · have e1 : (cutR N H A c W).take (i + 1) = (cutR N H A c W).take i := by rw [List.take_of_length_le (by omega), List.take_of_length_le (by omega)]
      rw [e1]; omega
/-- With what is cut each word can be laid. -/
theorem new_fine {w : List Int} (hw : w ∈ W) : lackR N H A (List.zipWith (· + ·) c (cutR N H A c W)) w = [] := by
  obtain ⟨n0, n8, _⟩ := errA_ok eA
  have hq := hdOk eA
  have cl := cut_len eA hc hW
  have hcl := hc.len
  have c0 : ∀ n ∈ c, 0 ≤ n := fun n hn => (hc.bd n hn).1
  have z0 : ∀ n ∈ List.zipWith (· + ·) c (cutR N H A c W), 0 ≤ n := by
    intro n hn
    obtain ⟨i, hi⟩ := List.mem_iff_getElem?.1 hn
    rw [List.getElem?_zipWith] at hi
    split at hi
    · rename_i a b e1 e2
      simp at hi
      have := c0 _ (List.mem_of_getElem? e1)
      have := cut_nn eA hc hW _ (List.mem_of_getElem? e2)
      omega
    · simp at hi
  unfold lackR
  dsimp only
  rw [lackR_lk hq n8 (by simp; omega) (hW w hw).bd]
  refine fl0_enough (q := alOf N H A) z0 fun x => ?_
  rw [hasP_zip _ _ _ _ _ (by omega)]
  have hx := hasP_nn (alOf N H A).pool x c 0 c0
  have hy := hasP_nn (alOf N H A).pool x _ 0 (cut_nn eA hc hW)
  by_cases e : 0 < cntP x (w.map (alOf N H A).pool)
  · obtain ⟨l, hl, rfl⟩ := cntP_ex _ _ _ e
    obtain ⟨l0, l1⟩ := (hW w hw).bd l hl
    have pb := pool_bd (q := alOf N H A) hq l0 (show l < 8 by omega)
    have pi := pool_idem (q := alOf N H A) hq n8 l0 l1
    have tb := top_bd (q := alOf N H A) hq n8 (l := (alOf N H A).pool l) pb.1 (show (alOf N H A).pool l < N by omega)
    have pt := pool_top (q := alOf N H A) hq n8 pb.1 (show (alOf N H A).pool l < N by omega) pi
    have h1 := (cut_at eA hc hW tb.1 tb.2).2.2.1 (by rw [pt]) w hw
    rw [pt] at h1
    generalize (alOf N H A).top ((alOf N H A).pool l) = t at *
    have tN : t < N := tb.2
    obtain ⟨n, hn⟩ : ∃ n, (cutR N H A c W)[t.toNat]? = some n := ⟨_, List.getElem?_eq_getElem (by omega)⟩
    have h2 := hasP_ge (alOf N H A).pool ((alOf N H A).pool l) (cutR N H A c W) 0 t.toNat n (cut_nn eA hc hW) hn (by rw [show ((0 + t.toNat : Nat) : Int) = t by omega]; exact pt)
    have h3 : gI (cutR N H A c W) t = n := by unfold gI; rw [List.getD_eq_getElem?_getD, hn]; rfl
    omega
  · omega
/-- With one less some word cannot. -/
theorem new_short {k : Nat} (hk : 0 < gI (cutR N H A c W) (k : Nat)) (kN : (k : Int) < N) : ∃ w ∈ W, lackR N H A (addAt (List.zipWith (· + ·) c (cutR N H A c W)) (k : Nat) (-1)) w ≠ [] := by
  obtain ⟨n0, n8, _⟩ := errA_ok eA
  have hq := hdOk eA
  have cl := cut_len eA hc hW
  have hcl := hc.len
  have c0 : ∀ n ∈ c, 0 ≤ n := fun n hn => (hc.bd n hn).1
  rcases (cut_at eA hc hW (t := (k : Int)) (by omega) kN).2.2.2 with e | ⟨ht, w, hw, e⟩
  · omega
  refine ⟨w, hw, ?_⟩
  unfold lackR
  dsimp only
  rw [lackR_lk hq n8 (by rw [addAt_len]; simp; omega) (hW w hw).bd]
  have zl : (List.zipWith (· + ·) c (cutR N H A c W)).length = c.length := by simp; omega
  have z0 : ∀ n ∈ addAt (List.zipWith (· + ·) c (cutR N H A c W)) (k : Nat) (-1), 0 ≤ n := by
    intro n hn
    unfold addAt at hn
    rcases List.mem_or_eq_of_mem_set hn with hn | rfl
    · obtain ⟨i, hi⟩ := List.mem_iff_getElem?.1 hn
      rw [List.getElem?_zipWith] at hi
      split at hi
      · rename_i a b e1 e2
        simp at hi
        have := c0 _ (List.mem_of_getElem? e1)
        have := cut_nn eA hc hW _ (List.mem_of_getElem? e2)
        omega
      · simp at hi
    · obtain ⟨a, ha⟩ : ∃ a, c[k]? = some a := ⟨_, List.getElem?_eq_getElem (by omega)⟩
      obtain ⟨b, hb⟩ : ∃ b, (cutR N H A c W)[k]? = some b := ⟨_, List.getElem?_eq_getElem (by omega)⟩
      have e1 : (List.zipWith (· + ·) c (cutR N H A c W)).getD ((k : Nat) : Int).toNat 0 = a + b := by
        rw [Int.toNat_natCast, List.getD_eq_getElem?_getD, List.getElem?_zipWith, ha, hb]; rfl
      have e2 : gI (cutR N H A c W) (k : Nat) = b := by unfold gI; rw [List.getD_eq_getElem?_getD]; simp [hb]
      have := c0 _ (List.mem_of_getElem? ha)
      omega
  refine fl0_short (q := alOf N H A) z0 (x := (alOf N H A).pool (k : Nat)) ?_
  unfold addAt
  rw [hasP_add _ _ _ _ _ _ (by simp; omega), hasP_zip _ _ _ _ _ (by omega)]
  have e1 : (((0 + ((k : Nat) : Int).toNat : Nat)) : Int) = (k : Nat) := by omega
  rw [e1, if_pos rfl]
  have e2 := hasP_only (alOf N H A).pool ((alOf N H A).pool (k : Nat)) (cutR N H A c W) 0 k (by
    intro j n hj hne hf
    rw [Nat.zero_add] at hf
    have jl := (List.getElem?_eq_some_iff.1 hj).1
    have gj : gI (cutR N H A c W) (j : Nat) = n := by unfold gI; rw [List.getD_eq_getElem?_getD]; simp [hj]
    rcases (cut_at eA hc hW (t := (j : Int)) (by omega) (by omega)).2.2.2 with e | ⟨ht', _⟩
    · omega
    · rw [hf, ht] at ht'; omega)
  rw [Nat.zero_add, if_pos rfl] at e2
  rw [e2]
  have e3 : gI (cutR N H A c W) (k : Nat) = (cutR N H A c W).getD k 0 := by unfold gI; simp
  omega
end
theorem new_less {N : Int} {H A : List (Int × Int)} (eA : errA N H A = 0) {c w : List Int} {W : List (List Int)} (hc : CountOk N c) (hW : ∀ x ∈ w :: W, WordOk N x) {t : Int} (t0 : 0 ≤ t) (t1 : t < N) :
    gI (cutR N H A c W) t ≤ gI (cutR N H A c (w :: W)) t := by
  obtain ⟨n0, n8, _⟩ := errA_ok eA
  have hx := cut_has eA hc hW
  have c0 : ∀ n ∈ c, 0 ≤ n := fun n hn => (hc.bd n hn).1
  have h0 : ∀ i : Int, 0 ≤ i → 0 ≤ gI ((alOf N H A).hasF c 0 z8) i := by
    intro i hi; rw [hx i hi]; exact hasP_nn _ _ _ _ c0
  unfold cutR
  dsimp only
  rw [Al.cutF]
  refine cutF_mono (q := alOf N H A) (hdOk eA) n8 h0 t0 t1 W _ _ (fun x hx n hn => (hW x (by simp [hx])).bd n hn) (by rw [List.length_replicate]; show ((N.toNat : Nat) : Int) = N; omega) (by rw [cutW_len, List.length_replicate]; show ((N.toNat : Nat) : Int) = N; omega) (by rw [gI_rep]; exact Int.le_refl _) ?_
  rw [cutW_word (q := alOf N H A) (hdOk eA) n8 h0 (hW w (by simp)).bd (by rw [List.length_replicate]; show ((N.toNat : Nat) : Int) = N; omega) (by rw [gI_rep]; exact Int.le_refl _) t0 t1, gI_rep]
  split
  · unfold mx; split <;> omega
  · exact Int.le_refl _
end S07

