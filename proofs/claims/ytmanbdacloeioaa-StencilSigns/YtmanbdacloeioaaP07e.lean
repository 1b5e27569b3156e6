/- A part of the proof: P07e. -/
import Derived.Test.YtmanbdacloeioaaP07c
import Derived.Test.YtmanbdacloeioaaP07a
set_option linter.unusedVariables false
set_option linter.unusedSimpArgs false
namespace S07
open Go Abs
theorem zip_take {α β γ : Type} (f : α → β → γ) {as_ : List α} {bs : List β} {k : Nat} {a : α} {b : β} (ha : as_[k]? = some a) (hb : bs[k]? = some b) : (List.zipWith f as_ bs).take (k + 1) = (List.zipWith f as_ bs).take k ++ [f a b] := by
  rw [List.take_add_one]
  congr 1
  rw [List.getElem?_zipWith, ha, hb]; rfl
theorem zip_get {α β γ : Type} (f : α → β → γ) {as_ : List α} {bs : List β} {k : Nat} {a : α} {b : β} (ha : as_[k]? = some a) (hb : bs[k]? = some b) : (List.zipWith f as_ bs)[k]? = some (f a b) := by
  rw [List.getElem?_zipWith, ha, hb]
theorem sum_snoc (l : List Int) (x : Int) : (l ++ [x]).sum = l.sum + x := by simp
theorem layP_ft (H A : List (Int × Int)) (l b : Int) : 0 ≤ (layP H A l b).2.2.2 ∧ (layP H A l b).2.2.2 ≤ 2 ∧ 0 ≤ (layP H A l b).1 ∧ (layP H A l b).1 ≤ 3 := by
  unfold layP
  dsimp only
  split <;> split <;> simp
theorem ft_bd (H A : List (Int × Int)) : ∀ (w hb : List Int) (k : Nat), 0 ≤ ((ftF H A w hb).take k).sum ∧ ((ftF H A w hb).take k).sum ≤ 2 * k
  | w, hb, 0 => by simp
  | [], hb, k + 1 => by simp [ftF]; omega
  | l :: ls, [], k + 1 => by simp [ftF]; omega
  | l :: ls, b :: bs, k + 1 => by
    obtain ⟨h1, h2⟩ := ft_bd H A ls bs k
    have := layP_ft H A l b
    simp only [ftF, List.zipWith_cons_cons, List.take_succ_cons, List.sum_cons] at h1 h2 ⊢
    omega
theorem costs_bd : ∀ (ks : List Int) (k : Nat), 0 ≤ costs (ks.take k) ∧ costs (ks.take k) ≤ 2 * k
  | ks, 0 => by simp [costs]
  | [], k + 1 => by simp [costs]; omega
  | x :: xs, k + 1 => by
    obtain ⟨h1, h2⟩ := costs_bd xs k
    have := cost_bd x
    simp only [costs, List.take_succ_cons, List.map_cons, List.sum_cons] at h1 h2 ⊢
    omega
theorem costs_snoc {ks : List Int} {k : Nat} {x : Int} (h : ks[k]? = some x) : costs (ks.take (k + 1)) = costs (ks.take k) + cost x := by
  rw [List.take_add_one, h]; simp [costs]
section
variable {N : Int} {H A : List (Int × Int)} (eA : errA N H A = 0)
include eA
theorem lay_rd {l b : Int} (b0 : 0 ≤ b) (l0 : 0 ≤ l) (l1 : l < N) : (layP H A l b).2.2.1 = -1 ∨ (0 ≤ (layP H A l b).2.2.1 ∧ (layP H A l b).2.2.1 < N) := by
  obtain ⟨n0, n1, _⟩ := errA_ok eA
  have hqo := hdOk eA
  have hh : ∀ x, 0 ≤ x → x < N → headF H x = -1 ∨ (0 ≤ headF H x ∧ headF H x < N) := by
    intro x x0 x1
    rw [headF_hd eA x0 (by omega)]
    rcases hqo.hd x x0 (by omega) with e | ⟨q1, q2, _⟩
    · exact .inl e
    · exact .inr ⟨q1, q2⟩
  have hL : ∀ i, i < (aliF A l).length → 0 ≤ (aliF A l).getD i 0 ∧ (aliF A l).getD i 0 < N := by
    intro i hi
    have := ali_ok eA (l := l) (o := (aliF A l).getD i 0) (by
      rw [List.getD_eq_getElem?_getD, List.getElem?_eq_getElem hi]
      exact List.getElem_mem hi)
    exact ⟨this.1, this.2.1⟩
  unfold layP
  dsimp only
  generalize aliF A l = L at *
  have st : 0 ≤ (if (decide (2 ≤ b % 4) && decide (0 < L.length)) = true then L.getD (b / 4 % (L.length : Nat)).toNat 0 else l) ∧ (if (decide (2 ≤ b % 4) && decide (0 < L.length)) = true then L.getD (b / 4 % (L.length : Nat)).toNat 0 else l) < N := by
    split
    · rename_i h
      simp only [Bool.and_eq_true, decide_eq_true_eq] at h
      have m0 := Int.emod_nonneg (b / 4) (show ((L.length : Nat) : Int) ≠ 0 by omega)
      have m1 := Int.emod_lt_of_pos (b / 4) (show (0 : Int) < (L.length : Nat) by omega)
      exact hL _ (by omega)
    · exact ⟨l0, l1⟩
  by_cases h2 : b % 2 = 1
  · rw [if_pos h2]; exact hh _ st.1 st.2
  · rw [if_neg h2]; exact .inr st
theorem sg_bd (w hb : List Int) (hw : ∀ n ∈ w, 0 ≤ n ∧ n < N) (h0 : ∀ n ∈ hb, 0 ≤ n) : ∀ n ∈ sgF H A w hb, n = -1 ∨ (0 ≤ n ∧ n < N) := by
  intro n hn
  unfold sgF at hn
  obtain ⟨i, hi⟩ := List.mem_iff_getElem?.1 hn
  rw [List.getElem?_zipWith] at hi
  split at hi
  · rename_i a b e1 e2
    simp at hi
    subst hi
    exact lay_rd eA (h0 _ (List.mem_of_getElem? e2)) (hw _ (List.mem_of_getElem? e1)).1 (hw _ (List.mem_of_getElem? e1)).2
  · simp at hi
end
theorem sg_word {N : Int} {s : List Int} (h1 : 1 ≤ s.length) (h6 : s.length ≤ 6) (hs : ∀ n ∈ s, n = -1 ∨ (0 ≤ n ∧ n < N)) : isWord N s [-1] = true := by
  simp only [isWord, Bool.and_eq_true, List.all_eq_true, inB_iff, Bool.or_eq_true]
  refine ⟨by omega, fun n hn => ?_⟩
  rcases hs n hn with e | e
  · right; simp [e]
  · left; omega
theorem errR_zero {N : Int} {H A : List (Int × Int)} {w s : List Int} (e : errA N H A = 0) (hw : WordOk N w) (hs : isWord N s [-1] = true) (hl : w.length = s.length) : errR N H A w s = 0 := by
  unfold errR
  rw [if_neg (by simp [e]), isWord_of hw, hs]
  simp [hl]
theorem errM_is {N : Int} {H A : List (Int × Int)} {W : List (List Int)} {s : List Int} {most : Int} (e : errA N H A = 0) (hl : W.length ≤ 5) (hW : ∀ w ∈ W, WordOk N w) (hs : isWord N s [-1] = true) (m0 : 0 ≤ most) (m1 : most ≤ 12) :
    errM N H A W s most = if meantR N H A W s most = [] then 7 else 0 := by
  unfold errM
  rw [if_neg (by simp [e]), if_neg (by omega), hs, inB_ok m0 m1]
  have : (W.all fun l => isWord N l []) = true := List.all_eq_true.2 fun w hw => isWord_of (hW w hw)
  simp [this]
theorem waysR_len (q : Al) : ∀ (w s : List Int), w.length = s.length → (q.waysR w s).length = w.length
  | [], s, _ => by simp [Al.waysR]
  | l :: ls, [], h => by simp at h
  | l :: ls, x :: ss, h => by simp [Al.waysR, waysR_len q ls ss (by simpa using h)]
theorem waysR_get {q : Al} : ∀ (w s : List Int) (i : Nat) (l x : Int), w[i]? = some l → s[i]? = some x → (q.waysR w s)[i]? = some (q.kindsR l x)
  | [], s, i, l, x, h, _ => by simp at h
  | l' :: ls, [], i, l, x, _, h => by simp at h
  | l' :: ls, x' :: ss, 0, l, x, h1, h2 => by simp at h1 h2; subst h1; subst h2; simp [Al.waysR]
  | l' :: ls, x' :: ss, i + 1, l, x, h1, h2 => by
    have := waysR_get (q := q) ls ss i l x (by simpa using h1) (by simpa using h2)
    simpa [Al.waysR] using this
theorem kinds_len {q : Al} (h8 : q.N ≤ 8) (l s : Int) : (q.kindsR l s).length ≤ 1000 := by
  have h1 := reads_len h8 l
  have h2 := compact_len ((q.ways l s).map (·.1))
  have h3 : (q.ways l s).length ≤ (q.reads l).length := by
    unfold Al.ways waysOf
    rw [List.length_map]
    exact List.length_filter_le _ _
  unfold Al.kindsR
  rw [List.length_map] at h2
  omega
end S07

