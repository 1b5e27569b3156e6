/- A part of the proof: P07e, P07i, P07k. -/
import Derived.Test.YtmanbdacloeioaaP07ab
import Derived.Test.YtmanbdacloeioaaH07z0
import Derived.Test.YtmanbdacloeioaaG07y
set_option linter.unusedVariables false
set_option linter.unusedSimpArgs false
namespace S07
open Go Abs
theorem zip_take {α β γ : Type} (f : α → β → γ) {as_ : List α} {bs : List β} {k : Nat} {a : α} {b : β} (ha : as_[k]? = some a) (hb : bs[k]? = some b) : (List.zipWith f as_ bs).take (k + 1) = (List.zipWith f as_ bs).take k ++ [f a b] := by
  rw [List.take_add_one]
  congr 1
  rw [List.getElem?_zipWith, ha, hb]; rfl
theorem zip_get {α β γ : Type} (f : α → β → γ) {as_ : List α} {bs : List β} {k : Nat} {a : α} {b : β} (ha : as_[k]? = some a) (hb : bs[k]? = some b) : (List.zipWith f as_ bs)[k]? = some (f a b) := by
  rw [List.getElem?_zipWith, ha, hb]
theorem sum_snoc (l : List Int) (x : Int) : (l ++ [x]).sum = l.sum + x := by simp
theorem layP_ft (H A : List (Int × Int)) (l b : Int) : 0 ≤ (layP H A l b).2.2.2 ∧ (layP H A l b).2.2.2 ≤ 2 ∧ 0 ≤ (layP H A l b).1 ∧ (layP H A l b).1 ≤ 3 := by
  unfold layP
  dsimp only
  split <;> split <;> simp
theorem ft_bd (H A : List (Int × Int)) : ∀ (w hb : List Int) (k : Nat), 0 ≤ ((ftF H A w hb).take k).sum ∧ ((ftF H A w hb).take k).sum ≤ 2 * k
  | w, hb, 0 => by simp
  | [], hb, k + 1 => by simp [ftF]; omega
  | l :: ls, [], k + 1 => by simp [ftF]; omega
  | l :: ls, b :: bs, k + 1 => by
    obtain ⟨h1, h2⟩ := ft_bd H A ls bs k
    have := layP_ft H A l b
    simp only [ftF, List.zipWith_cons_cons, List.take_succ_cons, List.sum_cons] at h1 h2 ⊢
    omega
theorem costs_bd : ∀ (ks : List Int) (k : Nat), 0 ≤ costs (ks.take k) ∧ costs (ks.take k) ≤ 2 * k
  | ks, 0 => by simp [costs]
  | [], k + 1 => by simp [costs]; omega
  | x :: xs, k + 1 => by
    obtain ⟨h1, h2⟩ := costs_bd xs k
    have := cost_bd x
    simp only [costs, List.take_succ_cons, List.map_cons, List.sum_cons] at h1 h2 ⊢
    omega
theorem costs_snoc {ks : List Int} {k : Nat} {x : Int} (h : ks[k]? = some x) : costs (ks.take (k + 1)) = costs (ks.take k) + cost x := by
  rw [List.take_add_one, h]; simp [costs]
section
variable {N : Int} {H A : List (Int × Int)} (eA : errA N H A = 0)
include eA
theorem lay_rd {l b : Int} (b0 : 0 ≤ b) (l0 : 0 ≤ l) (l1 : l < N) : (layP H A l b).2.2.1 = -1 ∨ (0 ≤ (layP H A l b).2.2.1 ∧ (layP H A l b).2.2.1 < N) := by
  obtain ⟨n0, n1, _⟩ := errA_ok eA
  have hqo := hdOk eA
  have hh : ∀ x, 0 ≤ x → x < N → headF H x = -1 ∨ (0 ≤ headF H x ∧ headF H x < N) := by
    intro x x0 x1
    rw [headF_hd eA x0 (by omega)]
    rcases hqo.hd x x0 (by omega) with e | ⟨q1, q2, _⟩
    · exact .inl e
    · exact .inr ⟨q1, q2⟩
  have hL : ∀ i, i < (aliF A l).length → 0 ≤ (aliF A l).getD i 0 ∧ (aliF A l).getD i 0 < N := by
    intro i hi
    have := ali_ok eA (l := l) (o := (aliF A l).getD i 0) (by
      rw [List.getD_eq_getElem?_getD, List.getElem?_eq_getElem hi]
      exact List.getElem_mem hi)
    exact ⟨this.1, this.2.1⟩
  unfold layP
  dsimp only
  generalize aliF A l = L at *
  have st : 0 ≤ (if (decide (2 ≤ b % 4) && decide (0 < L.length)) = true then L.getD (b / 4 % (L.length : Nat)).toNat 0 else l) ∧ (if (decide (2 ≤ b % 4) && decide (0 < L.length)) = true then L.getD (b / 4 % (L.length : Nat)).toNat 0 else l) < N := by
    split
    · rename_i h
      simp only [Bool.and_eq_true, decide_eq_true_eq] at h
      have m0 := Int.emod_nonneg (b / 4) (show ((L.length : Nat) : Int) ≠ 0 by omega)
      have m1 := Int.emod_lt_of_pos (b / 4) (show (0 : Int) < (L.length : Nat) by omega)
      exact hL _ (by omega)
    · exact ⟨l0, l1⟩
  by_cases h2 : b % 2 = 1
  · rw [if_pos h2]; exact hh _ st.1 st.2
  · rw [if_neg h2]; exact .inr st
theorem sg_bd (w hb : List Int) (hw : ∀ n ∈ w, 0 ≤ n ∧ n < N) (h0 : ∀ n ∈ hb, 0 ≤ n) : ∀ n ∈ sgF H A w hb, n = -1 ∨ (0 ≤ n ∧ n < N) := by
  intro n hn
  unfold sgF at hn
  obtain ⟨i, hi⟩ := List.mem_iff_getElem?.1 hn
  rw [List.getElem?_zipWith] at hi
  split at hi
  · rename_i a b e1 e2
    simp at hi
    subst hi
    exact lay_rd eA (h0 _ (List.mem_of_getElem? e2)) (hw _ (List.mem_of_getElem? e1)).1 (hw _ (List.mem_of_getElem? e1)).2
  · simp at hi
end
theorem sg_word {N : Int} {s : List Int} (h1 : 1 ≤ s.length) (h6 : s.length ≤ 6) (hs : ∀ n ∈ s, n = -1 ∨ (0 ≤ n ∧ n < N)) : isWord N s [-1] = true := by
  simp only [isWord, Bool.and_eq_true, List.all_eq_true, inB_iff, Bool.or_eq_true]
  refine ⟨by omega, fun n hn => ?_⟩
  rcases hs n hn with e | e
  · right; simp [e]
  · left; omega
theorem errR_zero {N : Int} {H A : List (Int × Int)} {w s : List Int} (e : errA N H A = 0) (hw : WordOk N w) (hs : isWord N s [-1] = true) (hl : w.length = s.length) : errR N H A w s = 0 := by
  unfold errR
  rw [if_neg (by simp [e]), isWord_of hw, hs]
  simp [hl]
theorem errM_is {N : Int} {H A : List (Int × Int)} {W : List (List Int)} {s : List Int} {most : Int} (e : errA N H A = 0) (hl : W.length ≤ 5) (hW : ∀ w ∈ W, WordOk N w) (hs : isWord N s [-1] = true) (m0 : 0 ≤ most) (m1 : most ≤ 12) :
    errM N H A W s most = if meantR N H A W s most = [] then 7 else 0 := by
  unfold errM
  rw [if_neg (by simp [e]), if_neg (by omega), hs, inB_ok m0 m1]
  have : (W.all fun l => isWord N l []) = true := List.all_eq_true.2 fun w hw => isWord_of (hW w hw)
  simp [this]
theorem waysR_len (q : Al) : ∀ (w s : List Int), w.length = s.length → (q.waysR w s).length = w.length
  | [], s, _ => by simp [Al.waysR]
  | l :: ls, [], h => by simp at h
  | l :: ls, x :: ss, h => by simp [Al.waysR, waysR_len q ls ss (by simpa using h)]
theorem waysR_get {q : Al} : ∀ (w s : List Int) (i : Nat) (l x : Int), w[i]? = some l → s[i]? = some x → (q.waysR w s)[i]? = some (q.kindsR l x)
  | [], s, i, l, x, h, _ => by simp at h
  | l' :: ls, [], i, l, x, _, h => by simp at h
  | l' :: ls, x' :: ss, 0, l, x, h1, h2 => by simp at h1 h2; subst h1; subst h2; simp [Al.waysR]
  | l' :: ls, x' :: ss, i + 1, l, x, h1, h2 => by
    have := waysR_get (q := q) ls ss i l x (by simpa using h1) (by simpa using h2)
    simpa [Al.waysR] using this
theorem kinds_len {q : Al} (h8 : q.N ≤ 8) (l s : Int) : (q.kindsR l s).length ≤ 1000 := by
  have h1 := reads_len h8 l
  have h2 := compact_len ((q.ways l s).map (·.1))
  have h3 : (q.ways l s).length ≤ (q.reads l).length := by
    unfold Al.ways waysOf
    rw [List.length_map]
    exact List.length_filter_le _ _
  unfold Al.kindsR
  rw [List.length_map] at h2
  omega
end S07

namespace S07
open Go Abs
/-! All ways are laid by some byte. -/
theorem alikeF_ex : ∀ (A : List (Int × Int)) (M : List ((Int × Int) × Bool)) (k : Int × Int), (M.map Prod.fst).Nodup → kGet (alikeF A M) k false = true → kGet M k false = true ∨ k ∈ A ∨ (k.2, k.1) ∈ A
  | [], M, k, nd, h => .inl h
  | p :: ps, M, k, nd, h => by
    have nd1 := kUp_nodup p false true nd
    have h' := alikeF_ex ps _ k (kUp_nodup _ _ _ nd1) h
    rw [kGet_up nd1, kGet_up nd] at h'
    rcases h' with h' | h' | h'
    · by_cases e1 : k = (p.2, p.1)
      · exact .inr (.inr (by rw [e1]; simp))
      · rw [if_neg e1] at h'
        by_cases e2 : k = p
        · exact .inr (.inl (by rw [e2]; simp))
        · rw [if_neg e2] at h'; exact .inl h'
    · exact .inr (.inl (List.mem_cons_of_mem _ h'))
    · exact .inr (.inr (List.mem_cons_of_mem _ h'))
theorem aliF_has : ∀ (A : List (Int × Int)) (l o : Int), ((l, o) ∈ A ∨ (o, l) ∈ A) → o ∈ aliF A l
  | [], l, o, h => by simp at h
  | p :: ps, l, o, h => by
    have ih := aliF_has ps l o
    unfold aliF
    split
    · rename_i e
      rcases h with h | h
      · rcases List.mem_cons.1 h with h | h
        · rw [← h]; simp
        · exact List.mem_cons_of_mem _ (ih (.inl h))
      · rcases List.mem_cons.1 h with h | h
        · rw [← h] at e ⊢; simp at e; simp [e]
        · exact List.mem_cons_of_mem _ (ih (.inr h))
    · rename_i e
      split
      · rename_i e2
        rcases h with h | h
        · rcases List.mem_cons.1 h with h | h
          · rw [← h] at e; exact absurd rfl e
          · exact List.mem_cons_of_mem _ (ih (.inl h))
        · rcases List.mem_cons.1 h with h | h
          · rw [← h]; simp
          · exact List.mem_cons_of_mem _ (ih (.inr h))
      · rename_i e2
        rcases h with h | h
        · rcases List.mem_cons.1 h with h | h
          · rw [← h] at e; exact absurd rfl e
          · exact ih (.inl h)
        · rcases List.mem_cons.1 h with h | h
          · rw [← h] at e2; exact absurd rfl e2
          · exact ih (.inr h)
theorem readK_all {q : Al} {l kd : Int} : ∀ (n o : Nat) (x : Int × Int × Int), x ∈ q.readK l kd o n → ∃ st : Nat, o ≤ st ∧ st < o + n ∧ q.al l (st : Nat) = true ∧ x = (kd, (st : Int), if kd = 3 then q.hd (st : Nat) else (st : Int))
  | 0, o, x, h => by simp [Al.readK] at h
  | n + 1, o, x, h => by
    unfold Al.readK at h
    split at h
    · rename_i ha
      rcases List.mem_cons.1 h with rfl | h
      · exact ⟨o, by omega, by omega, ha, rfl⟩
      · obtain ⟨st, h1, h2, h3, h4⟩ := readK_all n (o + 1) x h
        exact ⟨st, by omega, by omega, h3, h4⟩
    · obtain ⟨st, h1, h2, h3, h4⟩ := readK_all n (o + 1) x h
      exact ⟨st, by omega, by omega, h3, h4⟩
section
variable {N : Int} {H A : List (Int × Int)} (eA : errA N H A = 0)
include eA
theorem way_lay {l s k st : Int} (hA : A.length ≤ 16) (l0 : 0 ≤ l) (l1 : l < N) (h : (k, st) ∈ (alOf N H A).ways l s) : ∃ b : Nat, b < 64 ∧ layP H A l (b : Nat) = (k, st, s, cost k) := by
  obtain ⟨n0, n8, _⟩ := errA_ok eA
  have h := ways_in.1 h
  have hal : ∀ o : Nat, (alOf N H A).al l (o : Nat) = true → ∃ j : Nat, j < (aliF A l).length ∧ (aliF A l).getD j 0 = (o : Int) := by
    intro o ho
    have hm : ((o : Nat) : Int) ∈ aliF A l := by
      refine aliF_has A l o ?_
      rcases alikeF_ex A [] (l, (o : Int)) (by simp) ho with h | h
      · simp [kGet] at h
      · exact h
    obtain ⟨j, hj, e⟩ := List.mem_iff_getElem.1 hm
    exact ⟨j, hj, by rw [List.getD_eq_getElem?_getD, List.getElem?_eq_getElem hj, e]; rfl⟩
  have hlen := aliF_len A l
  unfold Al.reads at h
  simp only [List.mem_cons, List.mem_append] at h
  rcases h with h | h | h | h
  · simp only [Prod.mk.injEq] at h
    obtain ⟨rfl, rfl, rfl⟩ := h
    exact ⟨0, by omega, by simp [layP, cost]⟩
  · simp only [Prod.mk.injEq] at h
    obtain ⟨rfl, rfl, rfl⟩ := h
    refine ⟨1, by omega, ?_⟩
    rw [← headF_hd eA l0 (by omega)]
    simp [layP, cost]
  · obtain ⟨o, _, _, h3, h4⟩ := readK_all _ _ _ h
    simp only [Prod.mk.injEq] at h4
    obtain ⟨rfl, rfl, rfl⟩ := h4
    obtain ⟨j, hj, e⟩ := hal o h3
    refine ⟨4 * j + 2, by omega, ?_⟩
    unfold layP
    dsimp only
    generalize aliF A l = L at *
    have m4 : ((4 * j + 2 : Nat) : Int) % 4 = 2 := by omega
    have m2 : ¬ ((4 * j + 2 : Nat) : Int) % 2 = 1 := by omega
    have d4 : ((4 * j + 2 : Nat) : Int) / 4 = j := by omega
    have tk : (decide (2 ≤ ((4 * j + 2 : Nat) : Int) % 4) && decide (0 < L.length)) = true := by rw [m4]; simp; omega
    have jm : ((j : Int) % (L.length : Nat)).toNat = j := by rw [Int.emod_eq_of_lt (by omega) (by omega)]; omega
    rw [if_neg m2, tk, d4, jm, e]
    simp [cost]
  · obtain ⟨o, _, hon, h3, h4⟩ := readK_all _ _ _ h
    simp only [Prod.mk.injEq] at h4
    obtain ⟨rfl, rfl, rfl⟩ := h4
    obtain ⟨j, hj, e⟩ := hal o h3
    have hq : (alOf N H A).N = N := rfl
    refine ⟨4 * j + 3, by omega, ?_⟩
    have hh : headF H (o : Nat) = (alOf N H A).hd (o : Nat) := headF_hd eA (by omega) (by rw [hq] at hon; omega)
    rw [if_pos trivial, ← hh]
    unfold layP
    dsimp only
    generalize aliF A l = L at *
    have m4 : ((4 * j + 3 : Nat) : Int) % 4 = 3 := by omega
    have m2 : ((4 * j + 3 : Nat) : Int) % 2 = 1 := by omega
    have d4 : ((4 * j + 3 : Nat) : Int) / 4 = j := by omega
    have tk : (decide (2 ≤ ((4 * j + 3 : Nat) : Int) % 4) && decide (0 < L.length)) = true := by rw [m4]; simp; omega
    have jm : ((j : Int) % (L.length : Nat)).toNat = j := by rw [Int.emod_eq_of_lt (by omega) (by omega)]; omega
    rw [if_pos m2, tk, d4, jm, e]
    simp [cost]
end
/-! What can. -/
def lstF (H A : List (Int × Int)) (l s : Int) (p : Int → Bool) : Nat → Int
  | 0 => 9
  | k + 1 => let y := layP H A l (k : Nat); if y.2.2.1 = s ∧ p y.2.1 = true then min (lstF H A l s p k) y.2.2.2 else lstF H A l s p k
def atF (place letter : Int) (i : Nat) (st : Int) : Bool := decide ((i : Int) ≠ place) || decide (st = letter)
def allF (H A : List (Int × Int)) (w s : List Int) (place letter : Int) : Nat → Int
  | 0 => 0
  | i + 1 => allF H A w s place letter i + lstF H A (gI w (i : Nat)) (gI s (i : Nat)) (atF place letter i) 64
def canR (H A : List (Int × Int)) (w s : List Int) (most place letter : Int) : Bool := decide (allF H A w s place letter w.length ≤ most)
theorem lst_bd (H A : List (Int × Int)) (l s : Int) (p : Int → Bool) : ∀ k, 0 ≤ lstF H A l s p k ∧ lstF H A l s p k ≤ 9
  | 0 => by simp [lstF]
  | k + 1 => by
    have := lst_bd H A l s p k
    have := layP_ft H A l (k : Nat)
    simp only [lstF]
    split <;> omega
theorem all_bd (H A : List (Int × Int)) (w s : List Int) (place letter : Int) : ∀ i : Nat, 0 ≤ allF H A w s place letter i ∧ allF H A w s place letter i ≤ 9 * (i : Int)
  | 0 => by simp [allF]
  | i + 1 => by
    have := all_bd H A w s place letter i
    have := lst_bd H A (gI w (i : Nat)) (gI s (i : Nat)) (atF place letter i) 64
    simp only [allF]
    push_cast
    omega
theorem lst_le (H A : List (Int × Int)) (l s : Int) (p : Int → Bool) : ∀ (n k : Nat), k < n → (layP H A l (k : Nat)).2.2.1 = s → p (layP H A l (k : Nat)).2.1 = true → lstF H A l s p n ≤ (layP H A l (k : Nat)).2.2.2
  | 0, k, h, _, _ => by omega
  | n + 1, k, h, h1, h2 => by
    simp only [lstF]
    by_cases e : k = n
    · subst e; rw [if_pos ⟨h1, h2⟩]; omega
    · have := lst_le H A l s p n k (by omega) h1 h2
      split <;> omega
theorem lst_ex (H A : List (Int × Int)) (l s : Int) (p : Int → Bool) : ∀ (n : Nat), lstF H A l s p n = 9 ∨ ∃ k : Nat, k < n ∧ (layP H A l (k : Nat)).2.2.1 = s ∧ p (layP H A l (k : Nat)).2.1 = true ∧ lstF H A l s p n = (layP H A l (k : Nat)).2.2.2
  | 0 => .inl rfl
  | n + 1 => by
    have ih := lst_ex H A l s p n
    simp only [lstF]
    split
    · rename_i h
      by_cases c : lstF H A l s p n ≤ (layP H A l (n : Nat)).2.2.2
      · rw [Int.min_eq_left c]
        rcases ih with ih | ⟨k, h1, h2⟩
        · exact .inl ih
        · exact .inr ⟨k, by omega, h2⟩
      · rw [Int.min_eq_right (by omega)]
        exact .inr ⟨n, by omega, h.1, h.2, rfl⟩
    · rcases ih with ih | ⟨k, h1, h2⟩
      · exact .inl ih
      · exact .inr ⟨k, by omega, h2⟩
theorem costs_at : ∀ (ks : List Int) (p : Nat) (x : Int), ks[p]? = some x → cost x ≤ costs ks
  | [], p, x, h => by simp at h
  | k :: ks, 0, x, h => by
    simp at h; subst h
    have := (costs_bd ks ks.length).1
    rw [List.take_length] at this
    simp only [costs, List.map_cons, List.sum_cons] at this ⊢
    omega
  | k :: ks, p + 1, x, h => by
    have := costs_at ks p x (by simpa using h)
    have := cost_bd k
    simp only [costs, List.map_cons, List.sum_cons] at this ⊢
    simp only [costs] at *
    omega
section
variable {N : Int} {H A : List (Int × Int)} (eA : errA N H A = 0) (hA : A.length ≤ 16)
include eA hA
theorem lst_free {l s : Int} {b : Int × Int} {p : Int → Bool} (l0 : 0 ≤ l) (l1 : l < N) (h : (alOf N H A).best l s = some b) (hp : ∀ x, p x = true) : lstF H A l s p 64 = cost b.1 := by
  obtain ⟨h1, h2⟩ := best_is h
  obtain ⟨k, k64, e⟩ := way_lay eA hA l0 l1 (k := b.1) (st := b.2) h1
  have u := lst_le H A l s p 64 k k64 (by rw [e]) (hp _)
  rw [e] at u
  dsimp only at u
  rcases lst_ex H A l s p 64 with h9 | ⟨j, j64, e1, e2, e3⟩
  · have := cost_bd b.1; omega
  · obtain ⟨w1, w2⟩ := lay_ways (H := H) (b := (j : Nat)) eA (by omega) l0 l1
    rw [e1] at w1
    have := h2 _ w1
    dsimp only at this
    omega
theorem all_is {w s ks : List Int} {n : Int} {p : Nat} {letter : Int} (hl : w.length = s.length) (hw : ∀ x ∈ w, 0 ≤ x ∧ x < N) (hf : (alOf N H A).fewF w s = some (ks, n)) (hp : p < w.length) : ∀ i : Nat, i ≤ w.length →
    allF H A w s (p : Nat) letter i = costs (ks.take i) + if p < i then lstF H A (gI w (p : Nat)) (gI s (p : Nat)) (fun st => decide (st = letter)) 64 - cost (gI ks (p : Nat)) else 0
  | 0, _ => by simp [allF, costs]
  | i + 1, hi => by
    obtain ⟨f1, f2, f3⟩ := few_at w s ks n hl hf
    have ih := all_is hl hw hf hp (letter := letter) i (by omega)
    have hwi : w[i]? = some (gI w (i : Nat)) := by have := gI_get (p := w) (i := (i : Int)) (by omega) (by omega); simpa using this
    have hsi : s[i]? = some (gI s (i : Nat)) := by have := gI_get (p := s) (i := (i : Int)) (by omega) (by omega); simpa using this
    have hki : ks[i]? = some (gI ks (i : Nat)) := by have := gI_get (p := ks) (i := (i : Int)) (by omega) (by omega); simpa using this
    obtain ⟨b, hb, eb⟩ := f3 i _ _ _ hwi hsi hki
    have hwb := hw _ (List.mem_of_getElem? hwi)
    rw [allF, ih, costs_snoc hki]
    by_cases e : i = p
    · subst e
      rw [if_neg (by omega), if_pos (by omega)]
      have : atF (i : Nat) letter i = fun st => decide (st = letter) := by funext st; simp [atF]
      rw [this]; omega
    · have hfr := lst_free eA hA hwb.1 hwb.2 hb (p := atF (p : Nat) letter i) (fun x => by simp [atF]; left; omega)
      rw [hfr, eb]
      by_cases c : p < i
      · rw [if_pos c, if_pos (by omega)]; omega
      · rw [if_neg c, if_neg (by omega)]; omega
theorem can_lies {w s ks : List Int} {n most : Int} {p : Nat} {letter : Int} (hl : w.length = s.length) (hw : ∀ x ∈ w, 0 ≤ x ∧ x < N) (hf : (alOf N H A).fewF w s = some (ks, n)) (hp : p < w.length) (hm : most ≤ 8) :
    canR H A w s most (p : Nat) letter = (alOf N H A).lies s most p w letter := by
  obtain ⟨f1, f2, f3⟩ := few_at w s ks n hl hf
  have ha := all_is eA hA hl hw hf hp (letter := letter) w.length (Nat.le_refl _)
  rw [if_pos hp, List.take_of_length_le (by omega), ← f2] at ha
  have hwi : w[p]? = some (gI w (p : Nat)) := by have := gI_get (p := w) (i := (p : Int)) (by omega) (by omega); simpa using this
  have hsi : s[p]? = some (gI s (p : Nat)) := by have := gI_get (p := s) (i := (p : Int)) (by omega) (by omega); simpa using this
  have hki : ks[p]? = some (gI ks (p : Nat)) := by have := gI_get (p := ks) (i := (p : Int)) (by omega) (by omega); simpa using this
  obtain ⟨b, hb, eb⟩ := f3 p _ _ _ hwi hsi hki
  have hwb := hw _ (List.mem_of_getElem? hwi)
  have hc := costs_at ks p _ hki
  have hr : (alOf N H A).rest w s p = n - cost (gI ks (p : Nat)) := by
    unfold Al.rest
    rw [hf]
    have : (alOf N H A).fewF [gI w (p : Nat)] [gI s (p : Nat)] = some ([b.1], cost b.1) := by
      simp [Al.fewF, hb]
    rw [this, ← eb]
    rfl
  rw [Bool.eq_iff_iff]
  unfold canR Al.lies
  rw [ha, hr, decide_eq_true_eq, List.any_eq_true]
  rw [← f2] at hc
  constructor
  · intro h
    rcases lst_ex H A (gI w (p : Nat)) (gI s (p : Nat)) (fun st => decide (st = letter)) 64 with h9 | ⟨j, j64, e1, e2, e3⟩
    · omega
    · obtain ⟨w1, w2⟩ := lay_ways (H := H) (b := (j : Nat)) eA (by omega) hwb.1 hwb.2
      rw [e1] at w1
      refine ⟨_, w1, ?_⟩
      simp only [decide_eq_true_eq] at e2
      simp [e2]
      omega
  · rintro ⟨⟨k, st⟩, hx, hy⟩
    simp only [Bool.and_eq_true, beq_iff_eq, decide_eq_true_eq] at hy
    obtain ⟨rfl, hy⟩ := hy
    obtain ⟨j, j64, e⟩ := way_lay eA hA hwb.1 hwb.2 hx
    have := lst_le H A (gI w (p : Nat)) (gI s (p : Nat)) (fun x => decide (x = st)) 64 j j64 (by rw [e]) (by rw [e]; simp)
    rw [e] at this
    dsimp only at this
    omega
end
end S07

namespace S07
open Go Abs
theorem take_iff (A : List (Int × Int)) (a b : Int) : takF A a b = true ↔ (a, b) ∈ A ∨ (b, a) ∈ A := by
  simp only [takF, List.any_eq_true, Bool.or_eq_true, Bool.and_eq_true, beq_iff_eq]
  constructor
  · rintro ⟨⟨x, y⟩, hm, ⟨rfl, rfl⟩ | ⟨rfl, rfl⟩⟩
    · exact .inl hm
    · exact .inr hm
  · rintro (h | h)
    · exact ⟨_, h, .inl ⟨rfl, rfl⟩⟩
    · exact ⟨_, h, .inr ⟨rfl, rfl⟩⟩
theorem take_al {N : Int} {H A : List (Int × Int)} (a b : Int) : (alOf N H A).al a b = true ↔ takF A a b = true := by
  rw [take_iff]
  constructor
  · intro h
    rcases alikeF_ex A [] (a, b) (by simp) h with h | h
    · simp [kGet] at h
    · exact h
  · intro h
    exact alikeF_get A [] (a, b) (by simp) (.inr h)
section
variable {N : Int} {H A : List (Int × Int)} (eA : errA N H A = 0)
include eA
theorem ex_iff {l s kd st : Int} (l0 : 0 ≤ l) (l1 : l < N) (k0 : 0 ≤ kd) (k3 : kd ≤ 3) (s0 : 0 ≤ st) (s1 : st < N) : exF H A l s kd st = true ↔ (kd, st) ∈ (alOf N H A).ways l s := by
  obtain ⟨n0, n8, _⟩ := errA_ok eA
  rw [ways_in]
  have hq : (alOf N H A).N = N := rfl
  have hh : headF H st = (alOf N H A).hd st := headF_hd eA s0 (by omega)
  have est : ((st.toNat : Nat) : Int) = st := by omega
  have key : ∀ k : Int, (k = 2 ∨ k = 3) → ((k, st, s) ∈ (alOf N H A).readK l k 0 (alOf N H A).N.toNat ↔ takF A l st = true ∧ s = if k = 3 then headF H st else st) := by
    intro k hk
    constructor
    · intro h
      obtain ⟨st', h1, h2, h3, h4⟩ := readK_all _ _ _ h
      simp only [Prod.mk.injEq, true_and] at h4
      obtain ⟨rfl, h4⟩ := h4
      exact ⟨(take_al _ _).1 h3, by rw [hh]; exact h4⟩
    · rintro ⟨h1, h2⟩
      have := readK_in (q := alOf N H A) (l := l) (kd := k) (alOf N H A).N.toNat 0 st.toNat (by omega) (by omega) (by rw [est]; exact (take_al _ _).2 h1)
      rw [est, ← hh, ← h2] at this
      exact this
  unfold Al.reads
  simp only [List.mem_cons, List.mem_append, Prod.mk.injEq]
  have h2 := key 2 (.inl rfl)
  have h3 := key 3 (.inr rfl)
  have : kd = 0 ∨ kd = 1 ∨ kd = 2 ∨ kd = 3 := by omega
  rcases this with rfl | rfl | rfl | rfl
  · have n2 : ¬ (0, st, s) ∈ (alOf N H A).readK l 2 0 (alOf N H A).N.toNat := fun h => by have := readK_fst _ _ _ h; simp at this
    have n3 : ¬ (0, st, s) ∈ (alOf N H A).readK l 3 0 (alOf N H A).N.toNat := fun h => by have := readK_fst _ _ _ h; simp at this
    simp only [n2, n3, or_false]
    by_cases e : st = l
    · subst e; simp [exF]; exact ⟨fun h => h.symm, fun h => h.symm⟩
    · simp [exF, e]
  · have n2 : ¬ (1, st, s) ∈ (alOf N H A).readK l 2 0 (alOf N H A).N.toNat := fun h => by have := readK_fst _ _ _ h; simp at this
    have n3 : ¬ (1, st, s) ∈ (alOf N H A).readK l 3 0 (alOf N H A).N.toNat := fun h => by have := readK_fst _ _ _ h; simp at this
    simp only [n2, n3, or_false]
    by_cases e : st = l
    · subst e; simp [exF, hh]; exact ⟨fun h => h.symm, fun h => h.symm⟩
    · simp [exF, e]
  · have n3 : ¬ (2, st, s) ∈ (alOf N H A).readK l 3 0 (alOf N H A).N.toNat := fun h => by have := readK_fst _ _ _ h; simp at this
    rw [h2]
    simp only [n3, or_false]
    cases t : takF A l st
    · simp [exF, t]
    · simp [exF, t]; exact ⟨fun h => h.symm, fun h => h.symm⟩
  · have n2 : ¬ (3, st, s) ∈ (alOf N H A).readK l 2 0 (alOf N H A).N.toNat := fun h => by have := readK_fst _ _ _ h; simp at this
    rw [h3]
    simp only [n2, false_or]
    cases t : takF A l st
    · simp [exF, t]
    · simp [exF, t]; exact ⟨fun h => h.symm, fun h => h.symm⟩
theorem fnd_iff {l s : Int} {kd : Nat} (l0 : 0 ≤ l) (l1 : l < N) (k3 : kd ≤ 3) : fndF N H A l s kd N.toNat = true ↔ (kd : Int) ∈ (alOf N H A).kindsR l s := by
  rw [kinds_mem]
  simp only [fndF, List.any_eq_true, List.mem_range]
  constructor
  · rintro ⟨st, h1, h2⟩
    exact ⟨st, (ex_iff eA l0 l1 (by omega) (by omega) (by omega) (by omega)).1 h2⟩
  · rintro ⟨st, h⟩
    have hb := ways_mem (q := alOf N H A) l0 l1 h
    have hN : (alOf N H A).N = N := rfl
    have e : ((st.toNat : Nat) : Int) = st := by omega
    exact ⟨st.toNat, by omega, by rw [e]; exact (ex_iff eA l0 l1 (by omega) (by omega) (by omega) (by omega)).2 h⟩
end
theorem sorted_ext : ∀ (a b : List Int), a.Pairwise (· < ·) → b.Pairwise (· < ·) → (∀ x, x ∈ a ↔ x ∈ b) → a = b
  | [], [], _, _, _ => rfl
  | [], y :: b, _, _, h => by have := (h y).2 (by simp); simp at this
  | x :: a, [], _, _, h => by have := (h x).1 (by simp); simp at this
  | x :: a, y :: b, ha, hb, h => by
    rw [List.pairwise_cons] at ha hb
    have e : x = y := by
      have h1 := (h x).1 (by simp)
      have h2 := (h y).2 (by simp)
      rcases List.mem_cons.1 h1 with h1 | h1
      · exact h1
      · rcases List.mem_cons.1 h2 with h2 | h2
        · exact h2.symm
        · have := hb.1 x h1; have := ha.1 y h2; omega
    subst e
    rw [sorted_ext a b ha.2 hb.2 fun z => ?_]
    have hz := h z
    simp only [List.mem_cons] at hz
    constructor
    · intro hm
      rcases hz.1 (.inr hm) with h1 | h1
      · have := ha.1 z hm; omega
      · exact h1
    · intro hm
      rcases hz.2 (.inr hm) with h1 | h1
      · have := hb.1 z hm; omega
      · exact h1
theorem kx_mem (N : Int) (H A : List (Int × Int)) (l s : Int) : ∀ (k : Nat), (kxF N H A l s k).Pairwise (· < ·) ∧ ∀ x, x ∈ kxF N H A l s k ↔ ∃ j : Nat, j < k ∧ x = j ∧ fndF N H A l s j N.toNat = true
  | 0 => ⟨.nil, by simp [kxF]⟩
  | k + 1 => by
    obtain ⟨h1, h2⟩ := kx_mem N H A l s k
    have hb : ∀ x ∈ kxF N H A l s k, x < (k : Int) := fun x hx => by obtain ⟨j, j1, j2, _⟩ := (h2 x).1 hx; omega
    simp only [kxF]
    refine ⟨List.pairwise_append.2 ⟨h1, by split <;> simp, fun a ha b hb' => ?_⟩, fun x => ?_⟩
    · split at hb'
      · simp at hb'; subst hb'; exact hb a ha
      · simp at hb'
    · rw [List.mem_append, h2]
      constructor
      · rintro (⟨j, j1, j2, j3⟩ | h)
        · exact ⟨j, by omega, j2, j3⟩
        · split at h
          · rename_i hf; simp at h; exact ⟨k, by omega, h, hf⟩
          · simp at h
      · rintro ⟨j, j1, j2, j3⟩
        by_cases e : j = k
        · subst e; right; rw [if_pos j3, j2]; simp
        · left; exact ⟨j, by omega, j2, j3⟩
/-- The references' kinds are the program's. -/
theorem kx_is {N : Int} {H A : List (Int × Int)} (eA : errA N H A = 0) {l s : Int} (l0 : 0 ≤ l) (l1 : l < N) : kxF N H A l s 4 = (alOf N H A).kindsR l s := by
  obtain ⟨h1, h2⟩ := kx_mem N H A l s 4
  refine sorted_ext _ _ h1 (kinds_sorted _ _ _) fun x => ?_
  rw [h2]
  constructor
  · rintro ⟨j, j1, rfl, j3⟩
    exact (fnd_iff eA l0 l1 (by omega)).1 j3
  · intro h
    have hb := kinds_bd h
    have e : ((x.toNat : Nat) : Int) = x := by omega
    exact ⟨x.toNat, by omega, e.symm, (fnd_iff eA l0 l1 (by omega)).2 (by rw [e]; exact h)⟩
theorem cost_mono {a b : Int} (a0 : 0 ≤ a) (h : a ≤ b) (b3 : b ≤ 3) : cost a ≤ cost b := by
  unfold cost
  repeat' split
  all_goals omega
/-- The best is the first kind. -/
theorem best_kind {q : Al} {l s : Int} {b : Int × Int} (h : q.best l s = some b) : ∃ ks, q.kindsR l s = b.1 :: ks := by
  obtain ⟨h1, h2⟩ := best_is h
  have hm : b.1 ∈ q.kindsR l s := kinds_mem.2 ⟨b.2, h1⟩
  cases e : q.kindsR l s with
  | nil => rw [e] at hm; simp at hm
  | cons k ks =>
    refine ⟨ks, ?_⟩
    have hs := kinds_sorted q l s
    have hk : k ∈ q.kindsR l s := by rw [e]; simp
    rw [e] at hs hm
    rw [List.pairwise_cons] at hs
    rcases List.mem_cons.1 hm with hm | hm
    · rw [hm]
    · exfalso
      have hlt := hs.1 _ hm
      -- the first way has the first kind
      unfold Al.best at h
      split at h
      · simp at h
      · rename_i x xs ew
        simp only [Option.some.injEq] at h
        have hx : x.1 ≤ k := by
          obtain ⟨st, hst⟩ := kinds_mem.1 hk
          have hsrt : ((q.ways l s).map (·.1)).Pairwise (· ≤ ·) := by
            unfold Al.ways waysOf
            rw [List.map_map, List.pairwise_map]
            exact (reads_sorted q l).filter _
          rw [ew, List.map_cons, List.pairwise_cons] at hsrt
          rw [ew] at hst
          rcases List.mem_cons.1 hst with hst | hst
          · rw [← hst]; exact Int.le_refl _
          · exact hsrt.1 k (List.mem_map.2 ⟨_, hst, rfl⟩)
        have hfirst : ∀ (ys : List (Int × Int)) (c : Int × Int), (∀ y ∈ ys, cost c.1 ≤ cost y.1) → minF ys c = c := by
          intro ys
          induction ys with
          | nil => intro c _; rfl
          | cons y ys ih =>
            intro c hc
            have := hc y (by simp)
            rw [minF, if_neg (by omega)]
            exact ih c fun z hz => hc z (by simp [hz])
        have hxw : x ∈ q.ways l s := by rw [ew]; simp
        have hxb := kinds_bd (kinds_mem.2 ⟨x.2, hxw⟩)
        have hmin : minF xs x = x := hfirst xs x fun y hy => by
          have hsrt : ((q.ways l s).map (·.1)).Pairwise (· ≤ ·) := by
            unfold Al.ways waysOf
            rw [List.map_map, List.pairwise_map]
            exact (reads_sorted q l).filter _
          rw [ew, List.map_cons, List.pairwise_cons] at hsrt
          have hyb := kinds_bd (kinds_mem.2 ⟨y.2, show (y.1, y.2) ∈ q.ways l s by rw [ew]; exact List.mem_cons_of_mem _ hy⟩)
          exact cost_mono hxb.1 (hsrt.1 _ (List.mem_map.2 ⟨y, hy, rfl⟩)) hyb.2.1
        rw [hmin] at h
        rw [← h] at hlt
        omega
theorem best_none {q : Al} {l s : Int} : q.best l s = none ↔ q.kindsR l s = [] := by
  constructor
  · intro h
    cases e : q.kindsR l s with
    | nil => rfl
    | cons k ks =>
      obtain ⟨st, hst⟩ := kinds_mem.1 (show k ∈ q.kindsR l s by rw [e]; simp)
      obtain ⟨b, hb⟩ := best_some hst
      rw [h] at hb; simp at hb
  · intro h
    cases e : q.best l s with
    | none => rfl
    | some b => obtain ⟨ks, hk⟩ := best_kind e; rw [h] at hk; simp at hk
/-! Letters that are named twice. -/
def clash (p q : Int × Int) : Bool := (p.1 == q.1) || (p.1 == q.2) || (p.2 == q.1) || (p.2 == q.2)
def twP (p : Int × Int) (l : List (Int × Int)) : Bool := l.any (clash p)
def twI (H : List (Int × Int)) : Nat → Bool
  | 0 => false
  | i + 1 => twI H i || (match H[i]? with | some p => twP p (H.take i) | none => false)
theorem heads_tw : ∀ (T : List (Int × Int)) (D : List (Int × Int)) (arr : List Int), arr.length = 8 → (∀ p ∈ T, 0 ≤ p.1 ∧ p.1 < 8 ∧ 0 ≤ p.2 ∧ p.2 < 8) → (∀ x : Int, 0 ≤ x → x < 8 → (gI arr x = -1 ↔ ∀ q ∈ D, q.1 ≠ x ∧ q.2 ≠ x)) →
    (headsF T arr = none ↔ ∃ i p, T[i]? = some p ∧ twP p (D ++ T.take i) = true)
  | [], D, arr, _, _, _ => by simp [headsF]
  | p :: T, D, arr, hl, hb, ha => by
    obtain ⟨b1, b2, b3, b4⟩ := hb p (by simp)
    have u1 := ha p.1 b1 b2
    have u2 := ha p.2 b3 b4
    have hfree : twP p D = false ↔ (gI arr p.1 = -1 ∧ gI arr p.2 = -1) := by
      rw [u1, u2]
      simp only [twP, List.any_eq_false, clash, Bool.or_eq_true, beq_iff_eq, not_or]
      constructor
      · intro h
        exact ⟨fun q hq => by obtain ⟨⟨⟨h1, h2⟩, h3⟩, h4⟩ := h q hq; exact ⟨fun e => h1 e.symm, fun e => h2 e.symm⟩, fun q hq => by obtain ⟨⟨⟨h1, h2⟩, h3⟩, h4⟩ := h q hq; exact ⟨fun e => h3 e.symm, fun e => h4 e.symm⟩⟩
      · rintro ⟨h1, h2⟩ q hq
        obtain ⟨x1, x2⟩ := h1 q hq
        obtain ⟨y1, y2⟩ := h2 q hq
        exact ⟨⟨⟨fun e => x1 e.symm, fun e => x2 e.symm⟩, fun e => y1 e.symm⟩, fun e => y2 e.symm⟩
    by_cases hf : gI arr p.1 = -1 ∧ gI arr p.2 = -1
    · have e : headsF (p :: T) arr = headsF T ((arr.set p.1.toNat p.2).set p.2.toNat p.1) := by
        rw [headsF, if_pos hf]
      rw [e]
      have ih := heads_tw T (D ++ [p]) ((arr.set p.1.toNat p.2).set p.2.toNat p.1) (by simpa using hl) (fun q hq => hb q (by simp [hq])) ?_
      · rw [ih]
        have h0 := hfree.2 hf
        constructor
        · rintro ⟨i, q, h1, h2⟩
          exact ⟨i + 1, q, by simpa using h1, by simpa using h2⟩
        · rintro ⟨i, q, h1, h2⟩
          cases i with
          | zero => simp at h1 h2; subst h1; rw [h2] at h0; simp at h0
          | succ i => exact ⟨i, q, by simpa using h1, by simpa using h2⟩
      · intro x x0 x8
        rw [gI_set b3 (by simp; omega) x0]
        by_cases e2 : x = p.2
        · rw [if_pos e2]
          constructor
          · intro h; omega
          · intro h; have := (h p (by simp)).2; exact absurd e2.symm this
        · rw [if_neg e2, gI_set b1 (by omega) x0]
          by_cases e1 : x = p.1
          · rw [if_pos e1]
            constructor
            · intro h; omega
            · intro h; have := (h p (by simp)).1; exact absurd e1.symm this
          · rw [if_neg e1, ha x x0 x8]
            constructor
            · intro h q hq
              rcases List.mem_append.1 hq with hq | hq
              · exact h q hq
              · simp at hq; subst hq; exact ⟨fun e => e1 e.symm, fun e => e2 e.symm⟩
            · intro h q hq
              exact h q (by simp [hq])
    · have e : headsF (p :: T) arr = none := by rw [headsF, if_neg hf]
      rw [e]
      refine iff_of_true rfl ⟨0, p, rfl, ?_⟩
      cases c : twP p D with
      | true => simpa using c
      | false => exact absurd (hfree.1 c) hf
theorem twI_iff (H : List (Int × Int)) : ∀ n : Nat, twI H n = true ↔ ∃ i p, i < n ∧ H[i]? = some p ∧ twP p (H.take i) = true
  | 0 => by simp [twI]
  | n + 1 => by
    have ih := twI_iff H n
    simp only [twI, Bool.or_eq_true, ih]
    constructor
    · rintro (⟨i, p, h1, h2⟩ | h)
      · exact ⟨i, p, by omega, h2⟩
      · split at h
        · rename_i p hp; exact ⟨n, p, by omega, hp, h⟩
        · simp at h
    · rintro ⟨i, p, h1, h2, h3⟩
      by_cases e : i = n
      · subst e; right; rw [h2]; exact h3
      · left; exact ⟨i, p, by omega, h2, h3⟩
theorem tw_heads {N : Int} {H : List (Int × Int)} (n8 : N ≤ 8) (hb : H.any (badP N) = false) : headsF H arr0 = none ↔ twI H H.length = true := by
  have bH : ∀ p ∈ H, 0 ≤ p.1 ∧ p.1 < 8 ∧ 0 ≤ p.2 ∧ p.2 < 8 := fun p hp => by have := not_bad (not_any hb hp); omega
  rw [heads_tw H [] arr0 rfl bH (fun x x0 x8 => by
    have : x = 0 ∨ x = 1 ∨ x = 2 ∨ x = 3 ∨ x = 4 ∨ x = 5 ∨ x = 6 ∨ x = 7 := by omega
    rcases this with rfl | rfl | rfl | rfl | rfl | rfl | rfl | rfl <;> simp [gI, arr0]), twI_iff]
  constructor
  · rintro ⟨i, p, h1, h2⟩
    exact ⟨i, p, (List.getElem?_eq_some_iff.1 h1).1, h1, by simpa using h2⟩
  · rintro ⟨i, p, _, h1, h2⟩
    exact ⟨i, p, h1, by simpa using h2⟩
end S07

