/- A part of the proof: P07e, P07i, P07j. -/
import Derived.Test.YtmanbdacloeioaaP07c
import Derived.Test.YtmanbdacloeioaaP07a
set_option linter.unusedVariables false
set_option linter.unusedSimpArgs false
namespace S07
open Go Abs
theorem zip_take {α β γ : Type} (f : α → β → γ) {as_ : List α} {bs : List β} {k : Nat} {a : α} {b : β} (ha : as_[k]? = some a) (hb : bs[k]? = some b) : (List.zipWith f as_ bs).take (k + 1) = (List.zipWith f as_ bs).take k ++ [f a b] := by
  rw [List.take_add_one]
  congr 1
  rw [List.getElem?_zipWith, ha, hb]; rfl
theorem zip_get {α β γ : Type} (f : α → β → γ) {as_ : List α} {bs : List β} {k : Nat} {a : α} {b : β} (ha : as_[k]? = some a) (hb : bs[k]? = some b) : (List.zipWith f as_ bs)[k]? = some (f a b) := by
  rw [List.getElem?_zipWith, ha, hb]
theorem sum_snoc (l : List Int) (x : Int) : (l ++ [x]).sum = l.sum + x := by simp
theorem layP_ft (H A : List (Int × Int)) (l b : Int) : 0 ≤ (layP H A l b).2.2.2 ∧ (layP H A l b).2.2.2 ≤ 2 ∧ 0 ≤ (layP H A l b).1 ∧ (layP H A l b).1 ≤ 3 := by
  unfold layP
  dsimp only
  split <;> split <;> simp
theorem ft_bd (H A : List (Int × Int)) : ∀ (w hb : List Int) (k : Nat), 0 ≤ ((ftF H A w hb).take k).sum ∧ ((ftF H A w hb).take k).sum ≤ 2 * k
  | w, hb, 0 => by simp
  | [], hb, k + 1 => by simp [ftF]; omega
  | l :: ls, [], k + 1 => by simp [ftF]; omega
  | l :: ls, b :: bs, k + 1 => by
    obtain ⟨h1, h2⟩ := ft_bd H A ls bs k
    have := layP_ft H A l b
    simp only [ftF, List.zipWith_cons_cons, List.take_succ_cons, List.sum_cons] at h1 h2 ⊢
    omega
theorem costs_bd : ∀ (ks : List Int) (k : Nat), 0 ≤ costs (ks.take k) ∧ costs (ks.take k) ≤ 2 * k
  | ks, 0 => by simp [costs]
  | [], k + 1 => by simp [costs]; omega
  | x :: xs, k + 1 => by
    obtain ⟨h1, h2⟩ := costs_bd xs k
    have := cost_bd x
    simp only [costs, List.take_succ_cons, List.map_cons, List.sum_cons] at h1 h2 ⊢
    omega
theorem costs_snoc {ks : List Int} {k : Nat} {x : Int} (h : ks[k]? = some x) : costs (ks.take (k + 1)) = costs (ks.take k) + cost x := by
  rw [List.take_add_one, h]; simp [costs]
section
variable {N : Int} {H A : List (Int × Int)} (eA : errA N H A = 0)
include eA
theorem lay_rd {l b : Int} (b0 : 0 ≤ b) (l0 : 0 ≤ l) (l1 : l < N) : (layP H A l b).2.2.1 = -1 ∨ (0 ≤ (layP H A l b).2.2.1 ∧ (layP H A l b).2.2.1 < N) := by
  obtain ⟨n0, n1, _⟩ := errA_ok eA
  have hqo := hdOk eA
  have hh : ∀ x, 0 ≤ x → x < N → headF H x = -1 ∨ (0 ≤ headF H x ∧ headF H x < N) := by
    intro x x0 x1
    rw [headF_hd eA x0 (by omega)]
    rcases hqo.hd x x0 (by omega) with e | ⟨q1, q2, _⟩
    · exact .inl e
    · exact .inr ⟨q1, q2⟩
  have hL : ∀ i, i < (aliF A l).length → 0 ≤ (aliF A l).getD i 0 ∧ (aliF A l).getD i 0 < N := by
    intro i hi
    have := ali_ok eA (l := l) (o := (aliF A l).getD i 0) (by
      rw [List.getD_eq_getElem?_getD, List.getElem?_eq_getElem hi]
      exact List.getElem_mem hi)
    exact ⟨this.1, this.2.1⟩
  unfold layP
  dsimp only
  generalize aliF A l = L at *
  have st : 0 ≤ (if (decide (2 ≤ b % 4) && decide (0 < L.length)) = true then L.getD (b / 4 % (L.length : Nat)).toNat 0 else l) ∧ (if (decide (2 ≤ b % 4) && decide (0 < L.length)) = true then L.getD (b / 4 % (L.length : Nat)).toNat 0 else l) < N := by
    split
    · rename_i h
      simp only [Bool.and_eq_true, decide_eq_true_eq] at h
      have m0 := Int.emod_nonneg (b / 4) (show ((L.length : Nat) : Int) ≠ 0 by omega)
      have m1 := Int.emod_lt_of_pos (b / 4) (show (0 : Int) < (L.length : Nat) by omega)
      exact hL _ (by omega)
    · exact ⟨l0, l1⟩
  by_cases h2 : b % 2 = 1
  · rw [if_pos h2]; exact hh _ st.1 st.2
  · rw [if_neg h2]; exact .inr st
theorem sg_bd (w hb : List Int) (hw : ∀ n ∈ w, 0 ≤ n ∧ n < N) (h0 : ∀ n ∈ hb, 0 ≤ n) : ∀ n ∈ sgF H A w hb, n = -1 ∨ (0 ≤ n ∧ n < N) := by
  intro n hn
  unfold sgF at hn
  obtain ⟨i, hi⟩ := List.mem_iff_getElem?.1 hn
  rw [List.getElem?_zipWith] at hi
  split at hi
  · rename_i a b e1 e2
    simp at hi
    subst hi
    exact lay_rd eA (h0 _ (List.mem_of_getElem? e2)) (hw _ (List.mem_of_getElem? e1)).1 (hw _ (List.mem_of_getElem? e1)).2
  · simp at hi
end
theorem sg_word {N : Int} {s : List Int} (h1 : 1 ≤ s.length) (h6 : s.length ≤ 6) (hs : ∀ n ∈ s, n = -1 ∨ (0 ≤ n ∧ n < N)) : isWord N s [-1] = true := by
  simp only [isWord, Bool.and_eq_true, List.all_eq_true, inB_iff, Bool.or_eq_true]
  refine ⟨by omega, fun n hn => ?_⟩
  rcases hs n hn with e | e
  · right; simp [e]
  · left; omega
theorem errR_zero {N : Int} {H A : List (Int × Int)} {w s : List Int} (e : errA N H A = 0) (hw : WordOk N w) (hs : isWord N s [-1] = true) (hl : w.length = s.length) : errR N H A w s = 0 := by
  unfold errR
  rw [if_neg (by simp [e]), isWord_of hw, hs]
  simp [hl]
theorem errM_is {N : Int} {H A : List (Int × Int)} {W : List (List Int)} {s : List Int} {most : Int} (e : errA N H A = 0) (hl : W.length ≤ 5) (hW : ∀ w ∈ W, WordOk N w) (hs : isWord N s [-1] = true) (m0 : 0 ≤ most) (m1 : most ≤ 12) :
    errM N H A W s most = if meantR N H A W s most = [] then 7 else 0 := by
  unfold errM
  rw [if_neg (by simp [e]), if_neg (by omega), hs, inB_ok m0 m1]
  have : (W.all fun l => isWord N l []) = true := List.all_eq_true.2 fun w hw => isWord_of (hW w hw)
  simp [this]
theorem waysR_len (q : Al) : ∀ (w s : List Int), w.length = s.length → (q.waysR w s).length = w.length
  | [], s, _ => by simp [Al.waysR]
  | l :: ls, [], h => by simp at h
  | l :: ls, x :: ss, h => by simp [Al.waysR, waysR_len q ls ss (by simpa using h)]
theorem waysR_get {q : Al} : ∀ (w s : List Int) (i : Nat) (l x : Int), w[i]? = some l → s[i]? = some x → (q.waysR w s)[i]? = some (q.kindsR l x)
  | [], s, i, l, x, h, _ => by simp at h
  | l' :: ls, [], i, l, x, _, h => by simp at h
  | l' :: ls, x' :: ss, 0, l, x, h1, h2 => by simp at h1 h2; subst h1; subst h2; simp [Al.waysR]
  | l' :: ls, x' :: ss, i + 1, l, x, h1, h2 => by
    have := waysR_get (q := q) ls ss i l x (by simpa using h1) (by simpa using h2)
    simpa [Al.waysR] using this
theorem kinds_len {q : Al} (h8 : q.N ≤ 8) (l s : Int) : (q.kindsR l s).length ≤ 1000 := by
  have h1 := reads_len h8 l
  have h2 := compact_len ((q.ways l s).map (·.1))
  have h3 : (q.ways l s).length ≤ (q.reads l).length := by
    unfold Al.ways waysOf
    rw [List.length_map]
    exact List.length_filter_le _ _
  unfold Al.kindsR
  rw [List.length_map] at h2
  omega
end S07

namespace S07
open Go Abs
/-! All ways are laid by some byte. -/
theorem alikeF_ex : ∀ (A : List (Int × Int)) (M : List ((Int × Int) × Bool)) (k : Int × Int), (M.map Prod.fst).Nodup → kGet (alikeF A M) k false = true → kGet M k false = true ∨ k ∈ A ∨ (k.2, k.1) ∈ A
  | [], M, k, nd, h => .inl h
  | p :: ps, M, k, nd, h => by
    have nd1 := kUp_nodup p false true nd
    have h' := alikeF_ex ps _ k (kUp_nodup _ _ _ nd1) h
    rw [kGet_up nd1, kGet_up nd] at h'
    rcases h' with h' | h' | h'
    · by_cases e1 : k = (p.2, p.1)
      · exact .inr (.inr (by rw [e1]; simp))
      · rw [if_neg e1] at h'
        by_cases e2 : k = p
        · exact .inr (.inl (by rw [e2]; simp))
        · rw [if_neg e2] at h'; exact .inl h'
    · exact .inr (.inl (List.mem_cons_of_mem _ h'))
    · exact .inr (.inr (List.mem_cons_of_mem _ h'))
theorem aliF_has : ∀ (A : List (Int × Int)) (l o : Int), ((l, o) ∈ A ∨ (o, l) ∈ A) → o ∈ aliF A l
  | [], l, o, h => by simp at h
  | p :: ps, l, o, h => by
    have ih := aliF_has ps l o
    unfold aliF
    split
    · rename_i e
      rcases h with h | h
      · rcases List.mem_cons.1 h with h | h
        · rw [← h]; simp
        · exact List.mem_cons_of_mem _ (ih (.inl h))
      · rcases List.mem_cons.1 h with h | h
        · rw [← h] at e ⊢; simp at e; simp [e]
        · exact List.mem_cons_of_mem _ (ih (.inr h))
    · rename_i e
      split
      · rename_i e2
        rcases h with h | h
        · rcases List.mem_cons.1 h with h | h
          · rw [← h] at e; exact absurd rfl e
          · exact List.mem_cons_of_mem _ (ih (.inl h))
        · rcases List.mem_cons.1 h with h | h
          · rw [← h]; simp
          · exact List.mem_cons_of_mem _ (ih (.inr h))
      · rename_i e2
        rcases h with h | h
        · rcases List.mem_cons.1 h with h | h
          · rw [← h] at e; exact absurd rfl e
          · exact ih (.inl h)
        · rcases List.mem_cons.1 h with h | h
          · rw [← h] at e2; exact absurd rfl e2
          · exact ih (.inr h)
theorem readK_all {q : Al} {l kd : Int} : ∀ (n o : Nat) (x : Int × Int × Int), x ∈ q.readK l kd o n → ∃ st : Nat, o ≤ st ∧ st < o + n ∧ q.al l (st : Nat) = true ∧ x = (kd, (st : Int), if kd = 3 then q.hd (st : Nat) else (st : Int))
  | 0, o, x, h => by simp [Al.readK] at h
  | n + 1, o, x, h => by
    unfold Al.readK at h
    split at h
    · rename_i ha
      rcases List.mem_cons.1 h with rfl | h
      · exact ⟨o, by omega, by omega, ha, rfl⟩
      · obtain ⟨st, h1, h2, h3, h4⟩ := readK_all n (o + 1) x h
        exact ⟨st, by omega, by omega, h3, h4⟩
    · obtain ⟨st, h1, h2, h3, h4⟩ := readK_all n (o + 1) x h
      exact ⟨st, by omega, by omega, h3, h4⟩
section
variable {N : Int} {H A : List (Int × Int)} (eA : errA N H A = 0)
include eA
theorem way_lay {l s k st : Int} (hA : A.length ≤ 16) (l0 : 0 ≤ l) (l1 : l < N) (h : (k, st) ∈ (alOf N H A).ways l s) : ∃ b : Nat, b < 64 ∧ layP H A l (b : Nat) = (k, st, s, cost k) := by
  obtain ⟨n0, n8, _⟩ := errA_ok eA
  have h := ways_in.1 h
  have hal : ∀ o : Nat, (alOf N H A).al l (o : Nat) = true → ∃ j : Nat, j < (aliF A l).length ∧ (aliF A l).getD j 0 = (o : Int) := by
    intro o ho
    have hm : ((o : Nat) : Int) ∈ aliF A l := by
      refine aliF_has A l o ?_
      rcases alikeF_ex A [] (l, (o : Int)) (by simp) ho with h | h
      · simp [kGet] at h
      · exact h
    obtain ⟨j, hj, e⟩ := List.mem_iff_getElem.1 hm
    exact ⟨j, hj, by rw [List.getD_eq_getElem?_getD, List.getElem?_eq_getElem hj, e]; rfl⟩
  have hlen := aliF_len A l
  unfold Al.reads at h
  simp only [List.mem_cons, List.mem_append] at h
  rcases h with h | h | h | h
  · simp only [Prod.mk.injEq] at h
    obtain ⟨rfl, rfl, rfl⟩ := h
    exact ⟨0, by omega, by simp [layP, cost]⟩
  · simp only [Prod.mk.injEq] at h
    obtain ⟨rfl, rfl, rfl⟩ := h
    refine ⟨1, by omega, ?_⟩
    rw [← headF_hd eA l0 (by omega)]
    simp [layP, cost]
  · obtain ⟨o, _, _, h3, h4⟩ := readK_all _ _ _ h
    simp only [Prod.mk.injEq] at h4
    obtain ⟨rfl, rfl, rfl⟩ := h4
    obtain ⟨j, hj, e⟩ := hal o h3
    refine ⟨4 * j + 2, by omega, ?_⟩
    unfold layP
    dsimp only
    generalize aliF A l = L at *
    have m4 : ((4 * j + 2 : Nat) : Int) % 4 = 2 := by omega
    have m2 : ¬ ((4 * j + 2 : Nat) : Int) % 2 = 1 := by omega
    have d4 : ((4 * j + 2 : Nat) : Int) / 4 = j := by omega
    have tk : (decide (2 ≤ ((4 * j + 2 : Nat) : Int) % 4) && decide (0 < L.length)) = true := by rw [m4]; simp; omega
    have jm : ((j : Int) % (L.length : Nat)).toNat = j := by rw [Int.emod_eq_of_lt (by omega) (by omega)]; omega
    rw [if_neg m2, tk, d4, jm, e]
    simp [cost]
  · obtain ⟨o, _, hon, h3, h4⟩ := readK_all _ _ _ h
    simp only [Prod.mk.injEq] at h4
    obtain ⟨rfl, rfl, rfl⟩ := h4
    obtain ⟨j, hj, e⟩ := hal o h3
    have hq : (alOf N H A).N = N := rfl
    refine ⟨4 * j + 3, by omega, ?_⟩
    have hh : headF H (o : Nat) = (alOf N H A).hd (o : Nat) := headF_hd eA (by omega) (by rw [hq] at hon; omega)
    rw [if_pos trivial, ← hh]
    unfold layP
    dsimp only
    generalize aliF A l = L at *
    have m4 : ((4 * j + 3 : Nat) : Int) % 4 = 3 := by omega
    have m2 : ((4 * j + 3 : Nat) : Int) % 2 = 1 := by omega
    have d4 : ((4 * j + 3 : Nat) : Int) / 4 = j := by omega
    have tk : (decide (2 ≤ ((4 * j + 3 : Nat) : Int) % 4) && decide (0 < L.length)) = true := by rw [m4]; simp; omega
    have jm : ((j : Int) % (L.length : Nat)).toNat = j := by rw [Int.emod_eq_of_lt (by omega) (by omega)]; omega
    rw [if_pos m2, tk, d4, jm, e]
    simp [cost]
end
/-! What can. -/
def lstF (H A : List (Int × Int)) (l s : Int) (p : Int → Bool) : Nat → Int
  | 0 => 9
  | k + 1 => let y := layP H A l (k : Nat); if y.2.2.1 = s ∧ p y.2.1 = true then min (lstF H A l s p k) y.2.2.2 else lstF H A l s p k
def atF (place letter : Int) (i : Nat) (st : Int) : Bool := decide ((i : Int) ≠ place) || decide (st = letter)
def allF (H A : List (Int × Int)) (w s : List Int) (place letter : Int) : Nat → Int
  | 0 => 0
  | i + 1 => allF H A w s place letter i + lstF H A (gI w (i : Nat)) (gI s (i : Nat)) (atF place letter i) 64
def canR (H A : List (Int × Int)) (w s : List Int) (most place letter : Int) : Bool := decide (allF H A w s place letter w.length ≤ most)
theorem lst_bd (H A : List (Int × Int)) (l s : Int) (p : Int → Bool) : ∀ k, 0 ≤ lstF H A l s p k ∧ lstF H A l s p k ≤ 9
  | 0 => by simp [lstF]
  | k + 1 => by
    have := lst_bd H A l s p k
    have := layP_ft H A l (k : Nat)
    simp only [lstF]
    split <;> omega
theorem all_bd (H A : List (Int × Int)) (w s : List Int) (place letter : Int) : ∀ i : Nat, 0 ≤ allF H A w s place letter i ∧ allF H A w s place letter i ≤ 9 * (i : Int)
  | 0 => by simp [allF]
  | i + 1 => by
    have := all_bd H A w s place letter i
    have := lst_bd H A (gI w (i : Nat)) (gI s (i : Nat)) (atF place letter i) 64
    simp only [allF]
    push_cast
    omega
theorem lst_le (H A : List (Int × Int)) (l s : Int) (p : Int → Bool) : ∀ (n k : Nat), k < n → (layP H A l (k : Nat)).2.2.1 = s → p (layP H A l (k : Nat)).2.1 = true → lstF H A l s p n ≤ (layP H A l (k : Nat)).2.2.2
  | 0, k, h, _, _ => by omega
  | n + 1, k, h, h1, h2 => by
    simp only [lstF]
    by_cases e : k = n
    · subst e; rw [if_pos ⟨h1, h2⟩]; omega
    · have := lst_le H A l s p n k (by omega) h1 h2
      split <;> omega
theorem lst_ex (H A : List (Int × Int)) (l s : Int) (p : Int → Bool) : ∀ (n : Nat), lstF H A l s p n = 9 ∨ ∃ k : Nat, k < n ∧ (layP H A l (k : Nat)).2.2.1 = s ∧ p (layP H A l (k : Nat)).2.1 = true ∧ lstF H A l s p n = (layP H A l (k : Nat)).2.2.2
  | 0 => .inl rfl
  | n + 1 => by
    have ih := lst_ex H A l s p n
    simp only [lstF]
    split
    · rename_i h
      by_cases c : lstF H A l s p n ≤ (layP H A l (n : Nat)).2.2.2
      · rw [Int.min_eq_left c]
        rcases ih with ih | ⟨k, h1, h2⟩
        · exact .inl ih
        · exact .inr ⟨k, by omega, h2⟩
      · rw [Int.min_eq_right (by omega)]
        exact .inr ⟨n, by omega, h.1, h.2, rfl⟩
    · rcases ih with ih | ⟨k, h1, h2⟩
      · exact .inl ih
      · exact .inr ⟨k, by omega, h2⟩
theorem costs_at : ∀ (ks : List Int) (p : Nat) (x : Int), ks[p]? = some x → cost x ≤ costs ks
  | [], p, x, h => by simp at h
  | k :: ks, 0, x, h => by
    simp at h; subst h
    have := (costs_bd ks ks.length).1
    rw [List.take_length] at this
    simp only [costs, List.map_cons, List.sum_cons] at this ⊢
    omega
  | k :: ks, p + 1, x, h => by
    have := costs_at ks p x (by simpa using h)
    have := cost_bd k
    simp only [costs, List.map_cons, List.sum_cons] at this ⊢
    simp only [costs] at *
    omega
section
variable {N : Int} {H A : List (Int × Int)} (eA : errA N H A = 0) (hA : A.length ≤ 16)
include eA hA
theorem lst_free {l s : Int} {b : Int × Int} {p : Int → Bool} (l0 : 0 ≤ l) (l1 : l < N) (h : (alOf N H A).best l s = some b) (hp : ∀ x, p x = true) : lstF H A l s p 64 = cost b.1 := by
  obtain ⟨h1, h2⟩ := best_is h
  obtain ⟨k, k64, e⟩ := way_lay eA hA l0 l1 (k := b.1) (st := b.2) h1
  have u := lst_le H A l s p 64 k k64 (by rw [e]) (hp _)
  rw [e] at u
  dsimp only at u
  rcases lst_ex H A l s p 64 with h9 | ⟨j, j64, e1, e2, e3⟩
  · have := cost_bd b.1; omega
  · obtain ⟨w1, w2⟩ := lay_ways (H := H) (b := (j : Nat)) eA (by omega) l0 l1
    rw [e1] at w1
    have := h2 _ w1
    dsimp only at this
    omega
theorem all_is {w s ks : List Int} {n : Int} {p : Nat} {letter : Int} (hl : w.length = s.length) (hw : ∀ x ∈ w, 0 ≤ x ∧ x < N) (hf : (alOf N H A).fewF w s = some (ks, n)) (hp : p < w.length) : ∀ i : Nat, i ≤ w.length →
    allF H A w s (p : Nat) letter i = costs (ks.take i) + if p < i then lstF H A (gI w (p : Nat)) (gI s (p : Nat)) (fun st => decide (st = letter)) 64 - cost (gI ks (p : Nat)) else 0
  | 0, _ => by simp [allF, costs]
  | i + 1, hi => by
    obtain ⟨f1, f2, f3⟩ := few_at w s ks n hl hf
    have ih := all_is hl hw hf hp (letter := letter) i (by omega)
    have hwi : w[i]? = some (gI w (i : Nat)) := by have := gI_get (p := w) (i := (i : Int)) (by omega) (by omega); simpa using this
    have hsi : s[i]? = some (gI s (i : Nat)) := by have := gI_get (p := s) (i := (i : Int)) (by omega) (by omega); simpa using this
    have hki : ks[i]? = some (gI ks (i : Nat)) := by have := gI_get (p := ks) (i := (i : Int)) (by omega) (by omega); simpa using this
    obtain ⟨b, hb, eb⟩ := f3 i _ _ _ hwi hsi hki
    have hwb := hw _ (List.mem_of_getElem? hwi)
    rw [allF, ih, costs_snoc hki]
    by_cases e : i = p
    · subst e
      rw [if_neg (by omega), if_pos (by omega)]
      have : atF (i : Nat) letter i = fun st => decide (st = letter) := by funext st; simp [atF]
      rw [this]; omega
    · have hfr := lst_free eA hA hwb.1 hwb.2 hb (p := atF (p : Nat) letter i) (fun x => by simp [atF]; left; omega)
      rw [hfr, eb]
      by_cases c : p < i
      · rw [if_pos c, if_pos (by omega)]; omega
      · rw [if_neg c, if_neg (by omega)]; omega
theorem can_lies {w s ks : List Int} {n most : Int} {p : Nat} {letter : Int} (hl : w.length = s.length) (hw : ∀ x ∈ w, 0 ≤ x ∧ x < N) (hf : (alOf N H A).fewF w s = some (ks, n)) (hp : p < w.length) (hm : most ≤ 8) :
    canR H A w s most (p : Nat) letter = (alOf N H A).lies s most p w letter := by
  obtain ⟨f1, f2, f3⟩ := few_at w s ks n hl hf
  have ha := all_is eA hA hl hw hf hp (letter := letter) w.length (Nat.le_refl _)
  rw [if_pos hp, List.take_of_length_le (by omega), ← f2] at ha
  have hwi : w[p]? = some (gI w (p : Nat)) := by have := gI_get (p := w) (i := (p : Int)) (by omega) (by omega); simpa using this
  have hsi : s[p]? = some (gI s (p : Nat)) := by have := gI_get (p := s) (i := (p : Int)) (by omega) (by omega); simpa using this
  have hki : ks[p]? = some (gI ks (p : Nat)) := by have := gI_get (p := ks) (i := (p : Int)) (by omega) (by omega); simpa using this
  obtain ⟨b, hb, eb⟩ := f3 p _ _ _ hwi hsi hki
  have hwb := hw _ (List.mem_of_getElem? hwi)
  have hc := costs_at ks p _ hki
  have hr : (alOf N H A).rest w s p = n - cost (gI ks (p : Nat)) := by
    unfold Al.rest
    rw [hf]
    have : (alOf N H A).fewF [gI w (p : Nat)] [gI s (p : Nat)] = some ([b.1], cost b.1) := by
      simp [Al.fewF, hb]
    rw [this, ← eb]
    rfl
  rw [Bool.eq_iff_iff]
  unfold canR Al.lies
  rw [ha, hr, decide_eq_true_eq, List.any_eq_true]
  rw [← f2] at hc
  constructor
  · intro h
    rcases lst_ex H A (gI w (p : Nat)) (gI s (p : Nat)) (fun st => decide (st = letter)) 64 with h9 | ⟨j, j64, e1, e2, e3⟩
    · omega
    · obtain ⟨w1, w2⟩ := lay_ways (H := H) (b := (j : Nat)) eA (by omega) hwb.1 hwb.2
      rw [e1] at w1
      refine ⟨_, w1, ?_⟩
      simp only [decide_eq_true_eq] at e2
      simp [e2]
      omega
  · rintro ⟨⟨k, st⟩, hx, hy⟩
    simp only [Bool.and_eq_true, beq_iff_eq, decide_eq_true_eq] at hy
    obtain ⟨rfl, hy⟩ := hy
    obtain ⟨j, j64, e⟩ := way_lay eA hA hwb.1 hwb.2 hx
    have := lst_le H A (gI w (p : Nat)) (gI s (p : Nat)) (fun x => decide (x = st)) 64 j j64 (by rw [e]) (by rw [e]; simp)
    rw [e] at this
    dsimp only at this
    omega
end
end S07

namespace S07
open Go Abs
theorem madeA_len (N : Int) (l : List (Int × Int)) : (madeA N l).length ≤ 6 := by
  unfold madeA
  refine Nat.le_trans (List.length_filter_le _ _) ?_
  simp; omega
theorem askF_is (f : Nat → Int) : ∀ (n p : Nat) (r : Int × Int), (askF f n p r).2 ≤ r.2 ∧ (∀ i, p ≤ i → i < p + n → (askF f n p r).2 ≤ f i) ∧
    (askF f n p r = r ∨ ∃ i : Nat, p ≤ i ∧ i < p + n ∧ (askF f n p r).1 = i ∧ (askF f n p r).2 = f i ∧ (askF f n p r).2 < r.2 ∧ ∀ j, p ≤ j → j < i → (askF f n p r).2 < f j)
  | 0, p, r => ⟨Int.le_refl _, fun i h1 h2 => by omega, .inl rfl⟩
  | n + 1, p, r => by
    simp only [askF]
    obtain ⟨r1, hr1⟩ : ∃ r1, (if f p < r.2 then ((p : Int), f p) else r) = r1 := ⟨_, rfl⟩
    rw [hr1]
    obtain ⟨h1, h2, h3⟩ := askF_is f n (p + 1) r1
    have hp : r1.2 ≤ r.2 ∧ r1.2 ≤ f p ∧ ((f p < r.2 ∧ r1 = ((p : Int), f p)) ∨ r1 = r) := by
      by_cases c : f p < r.2
      · rw [if_pos c] at hr1
        rw [← hr1]; exact ⟨by dsimp only; omega, Int.le_refl _, .inl ⟨c, rfl⟩⟩
      · rw [if_neg c] at hr1
        rw [← hr1]; exact ⟨Int.le_refl _, by omega, .inr rfl⟩
    obtain ⟨p1, p2, p3⟩ := hp
    refine ⟨by omega, fun i hi1 hi2 => ?_, ?_⟩
    · by_cases e : i = p
      · subst e; omega
      · exact h2 i (by omega) (by omega)
    · rcases h3 with h3 | ⟨i, i1, i2, i3, i4, i5, i6⟩
      · rcases p3 with ⟨c, p3⟩ | p3
        · right
          refine ⟨p, by omega, by omega, by rw [h3, p3], by rw [h3, p3], by rw [h3, p3]; exact c, fun j j1 j2 => by omega⟩
        · left; rw [h3, p3]
      · right
        refine ⟨i, by omega, by omega, i3, i4, by omega, fun j j1 j2 => ?_⟩
        by_cases e : j = p
        · subst e; omega
        · exact i6 j (by omega) j2
theorem meantF_in {q : Al} {s : List Int} {most : Int} : ∀ (W : List (List Int)) (k i : Nat) (w : List Int), W[i]? = some w → q.isMeant s most w = true → ((k + i : Nat) : Int) ∈ q.meantF s most W k
  | [], k, i, w, h, _ => by simp at h
  | x :: xs, k, 0, w, h, hm => by
    simp at h; subst h
    unfold Al.meantF
    rw [if_pos hm]; simp
  | x :: xs, k, i + 1, w, h, hm => by
    have := meantF_in xs (k + 1) i w (by simpa using h) hm
    rw [show k + 1 + i = k + (i + 1) by omega] at this
    unfold Al.meantF
    split
    · exact List.mem_cons_of_mem _ this
    · exact this
theorem meantF_pair {q : Al} {s : List Int} {most : Int} : ∀ (W : List (List Int)) (k : Nat), (q.meantF s most W k).Pairwise (· < ·)
  | [], k => by simp [Al.meantF]
  | x :: xs, k => by
    have ih := meantF_pair (q := q) (s := s) (most := most) xs (k + 1)
    unfold Al.meantF
    split
    · refine List.pairwise_cons.2 ⟨fun y hy => ?_, ih⟩
      have := (meantF_mem xs (k + 1) y hy).1
      omega
    · exact ih
theorem sum_pt : ∀ (a b : List Int), a.length = b.length → (∀ i : Nat, i < a.length → gI a (i : Nat) ≤ gI b (i : Nat)) → a.sum ≤ b.sum ∧ ∀ p : Nat, p < a.length → a.sum - gI a (p : Nat) ≤ b.sum - gI b (p : Nat)
  | [], [], _, _ => ⟨Int.le_refl _, fun p h => by simp at h⟩
  | [], _ :: _, h, _ => by simp at h
  | _ :: _, [], h, _ => by simp at h
  | x :: a, y :: b, h, hp => by
    have h0 : x ≤ y := by have := hp 0 (by simp); simpa [gI] using this
    obtain ⟨h1, h2⟩ := sum_pt a b (by simpa using h) (fun i hi => by have := hp (i + 1) (by simpa using hi); simpa [gI] using this)
    simp only [List.sum_cons]
    refine ⟨by omega, fun p hp => ?_⟩
    cases p with
    | zero => simp [gI]; omega
    | succ p =>
      have := h2 p (by simpa using hp)
      have e1 : gI (x :: a) ((p + 1 : Nat) : Int) = gI a (p : Nat) := by simp [gI]
      have e2 : gI (y :: b) ((p + 1 : Nat) : Int) = gI b (p : Nat) := by simp [gI]
      rw [e1, e2]; omega
theorem zipWith_gI (f : Int → Int → Int) {a b : List Int} {p : Nat} (ha : p < a.length) (hb : p < b.length) : gI (List.zipWith f a b) (p : Nat) = f (gI a (p : Nat)) (gI b (p : Nat)) := by
  have h1 : a[p]? = some (gI a (p : Nat)) := by have := gI_get (p := a) (i := (p : Int)) (by omega) (by omega); simpa using this
  have h2 : b[p]? = some (gI b (p : Nat)) := by have := gI_get (p := b) (i := (p : Int)) (by omega) (by omega); simpa using this
  have := zip_get f h1 h2
  unfold gI at this ⊢
  rw [List.getD_eq_getElem?_getD]
  simp only [Int.toNat_natCast]
  rw [this]; rfl
section
variable {N : Int} {H A : List (Int × Int)} (eA : errA N H A = 0)
include eA
theorem true_few {w hb : List Int} (hw : ∀ n ∈ w, 0 ≤ n ∧ n < N) (h0 : ∀ n ∈ hb, 0 ≤ n) (hl : w.length = hb.length) : (alOf N H A).isMeant (sgF H A w hb) (ftF H A w hb).sum w = true := by
  obtain ⟨ks, n, h1, h2, h3, h4⟩ := few_le eA w hb hw h0 (by omega)
  unfold Al.isMeant
  rw [h1]
  have : w.length = (sgF H A w hb).length := by unfold sgF; rw [List.length_zipWith]; omega
  simp [← this, h3]
theorem true_lies {w hb : List Int} {p : Nat} (hw : ∀ n ∈ w, 0 ≤ n ∧ n < N) (h0 : ∀ n ∈ hb, 0 ≤ n) (hl : w.length = hb.length) (hp : p < w.length) :
    (alOf N H A).lies (sgF H A w hb) (ftF H A w hb).sum p w (layP H A (gI w (p : Nat)) (gI hb (p : Nat))).2.1 = true := by
  obtain ⟨ks, n, h1, h2, h3, h4⟩ := few_le eA w hb hw h0 (by omega)
  have sl : w.length = (sgF H A w hb).length := by unfold sgF; rw [List.length_zipWith]; omega
  obtain ⟨f1, f2, f3⟩ := few_at w _ ks n sl h1
  have gw : ∀ i : Nat, i < w.length → w[i]? = some (gI w (i : Nat)) := fun i hi => by have := gI_get (p := w) (i := (i : Int)) (by omega) (by omega); simpa using this
  have gs : ∀ i : Nat, i < w.length → (sgF H A w hb)[i]? = some (gI (sgF H A w hb) (i : Nat)) := fun i hi => by have := gI_get (p := sgF H A w hb) (i := (i : Int)) (by omega) (by omega); simpa using this
  have gk : ∀ i : Nat, i < w.length → ks[i]? = some (gI ks (i : Nat)) := fun i hi => by have := gI_get (p := ks) (i := (i : Int)) (by omega) (by omega); simpa using this
  have sg : ∀ i : Nat, i < w.length → gI (sgF H A w hb) (i : Nat) = (layP H A (gI w (i : Nat)) (gI hb (i : Nat))).2.2.1 := fun i hi => zipWith_gI _ hi (by omega)
  have fg : ∀ i : Nat, i < w.length → gI (ftF H A w hb) (i : Nat) = (layP H A (gI w (i : Nat)) (gI hb (i : Nat))).2.2.2 := fun i hi => zipWith_gI _ hi (by omega)
  have kg : ∀ i : Nat, i < w.length → gI (ks.map cost) (i : Nat) = cost (gI ks (i : Nat)) := fun i hi => by
    have := gk i hi
    unfold gI at this ⊢
    simp only [Int.toNat_natCast, List.getD_eq_getElem?_getD, List.getElem?_map] at this ⊢
    rw [this]; rfl
  have key : ∀ i : Nat, i < w.length → ((layP H A (gI w (i : Nat)) (gI hb (i : Nat))).1, (layP H A (gI w (i : Nat)) (gI hb (i : Nat))).2.1) ∈ (alOf N H A).ways (gI w (i : Nat)) (gI (sgF H A w hb) (i : Nat)) ∧ cost (layP H A (gI w (i : Nat)) (gI hb (i : Nat))).1 = gI (ftF H A w hb) (i : Nat) := fun i hi => by
    have hwi := hw _ (gI_mem hi)
    have := lay_ways (H := H) (b := gI hb (i : Nat)) eA (h0 _ (gI_mem (by omega))) hwi.1 hwi.2
    rw [sg i hi, fg i hi]; exact this
  have hpt := sum_pt (ks.map cost) (ftF H A w hb) (by unfold ftF; rw [List.length_map, List.length_zipWith]; omega) (fun i hi => by
    rw [List.length_map, f1] at hi
    obtain ⟨b, hb1, hb2⟩ := f3 i _ _ _ (gw i hi) (gs i hi) (gk i hi)
    obtain ⟨k1, k2⟩ := key i hi
    have := (best_is hb1).2 _ k1
    rw [kg i hi, ← hb2, ← k2]; exact this)
  have hpp := hpt.2 p (by rw [List.length_map]; omega)
  rw [kg p hp] at hpp
  obtain ⟨b, hb1, hb2⟩ := f3 p _ _ _ (gw p hp) (gs p hp) (gk p hp)
  have hr : (alOf N H A).rest w (sgF H A w hb) p = n - cost (gI ks (p : Nat)) := by
    unfold Al.rest
    rw [h1]
    have : (alOf N H A).fewF [gI w (p : Nat)] [gI (sgF H A w hb) (p : Nat)] = some ([b.1], cost b.1) := by
      simp [Al.fewF, hb1]
    rw [this, ← hb2]
    rfl
  unfold Al.lies
  rw [List.any_eq_true]
  obtain ⟨k1, k2⟩ := key p hp
  refine ⟨_, k1, ?_⟩
  rw [hr, k2]
  simp only [beq_self_eq_true, Bool.true_and, decide_eq_true_eq]
  have : costs ks = (ks.map cost).sum := rfl
  omega
end
theorem cnt_pos {q : Al} {W : List (List Int)} {s : List Int} {most : Int} {p : Nat} {st : Int} : ∀ (M : List Int) (i : Int), i ∈ M → q.lies s most p (W.getD i.toNat []) st = true → 1 ≤ q.cnt W s most p st M
  | [], i, h, _ => by simp at h
  | m :: M, i, h, hl => by
    have h0 := cnt_bd q W s most p st M
    simp only [Al.cnt]
    rcases List.mem_cons.1 h with rfl | h
    · rw [if_pos hl]; omega
    · have := cnt_pos M i h hl
      split <;> omega
end S07

