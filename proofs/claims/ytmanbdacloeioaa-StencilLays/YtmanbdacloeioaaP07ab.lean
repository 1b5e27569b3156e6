/- A part of the proof: P07ab, P07c, P07d. -/
import Derived.Test.YtmanbdacloeioaaH07a
set_option linter.unusedVariables false
set_option linter.unusedSimpArgs false
set_option maxRecDepth 20000
namespace S07
open Go Abs
/-! How letters read on their heads. -/
theorem headF_used : ∀ (H : List (Int × Int)) (arr a : List Int) (x : Int), 0 ≤ x → arr.length = 8 → (∀ p ∈ H, 0 ≤ p.1 ∧ p.1 < 8 ∧ 0 ≤ p.2 ∧ p.2 < 8) → gI arr x ≠ -1 → headsF H arr = some a → headF H x = -1 ∧ gI a x = gI arr x
  | [], arr, a, x, _, _, _, _, h => by simp [headsF] at h; subst h; exact ⟨rfl, rfl⟩
  | p :: ps, arr, a, x, x0, la, hb, hg, h => by
    have bp := hb p (by simp)
    unfold headsF at h
    split at h
    · rename_i hc
      have f1 : x ≠ p.1 := by rintro rfl; exact hg hc.1
      have f2 : x ≠ p.2 := by rintro rfl; exact hg hc.2
      have e : gI ((arr.set p.1.toNat p.2).set p.2.toNat p.1) x = gI arr x := by
        rw [gI_set (by omega) (by simp; omega) x0, if_neg f2, gI_set (by omega) (by omega) x0, if_neg f1]
      obtain ⟨g1, g2⟩ := headF_used ps _ a x x0 (by simp [la]) (fun q hq => hb q (by simp [hq])) (by rw [e]; exact hg) h
      exact ⟨by simp [headF, f1, f2, g1], by rw [g2, e]⟩
    · simp at h
theorem headF_is : ∀ (H : List (Int × Int)) (arr a : List Int) (x : Int), 0 ≤ x → arr.length = 8 → (∀ p ∈ H, 0 ≤ p.1 ∧ p.1 < 8 ∧ 0 ≤ p.2 ∧ p.2 < 8) → gI arr x = -1 → headsF H arr = some a → headF H x = gI a x
  | [], arr, a, x, _, _, _, hg, h => by simp [headsF] at h; subst h; simp [headF, hg]
  | p :: ps, arr, a, x, x0, la, hb, hg, h => by
    have bp := hb p (by simp)
    unfold headsF at h
    split at h
    · rename_i hc
      have e : gI ((arr.set p.1.toNat p.2).set p.2.toNat p.1) x = if x = p.2 then p.1 else if x = p.1 then p.2 else gI arr x := by
        rw [gI_set (by omega) (by simp; omega) x0, gI_set (by omega) (by omega) x0]
      by_cases f1 : x = p.1
      · by_cases f2 : x = p.2
        · have := (headF_used ps _ a x x0 (by simp [la]) (fun q hq => hb q (by simp [hq])) (by rw [e, if_pos f2]; omega) h).2
          rw [this, e, if_pos f2]
          simp only [headF]; rw [if_pos f1, ← f2, f1]
        · have := (headF_used ps _ a x x0 (by simp [la]) (fun q hq => hb q (by simp [hq])) (by rw [e, if_neg f2, if_pos f1]; omega) h).2
          rw [this, e, if_neg f2, if_pos f1]
          simp only [headF]; rw [if_pos f1]
      · by_cases f2 : x = p.2
        · have := (headF_used ps _ a x x0 (by simp [la]) (fun q hq => hb q (by simp [hq])) (by rw [e, if_pos f2]; omega) h).2
          rw [this, e, if_pos f2]
          simp only [headF]; rw [if_neg f1, if_pos f2]
        · have := headF_is ps _ a x x0 (by simp [la]) (fun q hq => hb q (by simp [hq])) (by rw [e, if_neg f2, if_neg f1]; exact hg) h
          simp only [headF]; rw [if_neg f1, if_neg f2, this]
    · simp at h
theorem headF_hd {N : Int} {H A : List (Int × Int)} (h : errA N H A = 0) {x : Int} (x0 : 0 ≤ x) (x1 : x < 8) : headF H x = (alOf N H A).hd x := by
  obtain ⟨n0, n1, h3, h4, arr, e⟩ := errA_ok h
  have bH : ∀ p ∈ H, 0 ≤ p.1 ∧ p.1 < 8 ∧ 0 ≤ p.2 ∧ p.2 < 8 := fun p hp => by have := not_bad (not_any h3 hp); omega
  have : gI arr0 x = -1 := by
    have : x = 0 ∨ x = 1 ∨ x = 2 ∨ x = 3 ∨ x = 4 ∨ x = 5 ∨ x = 6 ∨ x = 7 := by omega
    rcases this with rfl | rfl | rfl | rfl | rfl | rfl | rfl | rfl <;> rfl
  rw [headF_is H arr0 arr x x0 rfl bH this e]
  simp [Al.hd, alOf, e]
end S07

namespace S07
open Go Abs
/-! slices.Compact. -/
theorem arr_at (l : List Int) (j : Nat) : l.toArray[j]! = l.getD j 0 := by
  simp [List.getElem!_toArray, List.getD_eq_getElem?_getD]
theorem keeps_iff (l : List Int) (j : Nat) : Lib.keeps l.toArray j = true ↔ j = 0 ∨ l.getD j 0 ≠ l.getD (j - 1) 0 := by
  simp [Lib.keeps, arr_at]
theorem mem_compact (l : List Int) (x : Int) : x ∈ Lib.compact l ↔ x ∈ l := by
  unfold Lib.compact Lib.compactUpTo
  constructor
  · intro h
    obtain ⟨j, hj, rfl⟩ := List.mem_map.1 h
    have hj' : j < l.length := List.mem_range.1 (List.mem_filter.1 hj).1
    rw [arr_at, List.getD_eq_getElem?_getD, List.getElem?_eq_getElem hj']
    exact List.getElem_mem hj'
  · intro h
    obtain ⟨j, hj⟩ := List.mem_iff_getElem?.1 h
    have key : ∀ j : Nat, l[j]? = some x → ∃ i, i < l.length ∧ Lib.keeps l.toArray i = true ∧ l.getD i 0 = x := by
      intro j
      induction j with
      | zero => intro h0; exact ⟨0, (List.getElem?_eq_some_iff.1 h0).1, (keeps_iff l 0).2 (.inl rfl), by simp [List.getD_eq_getElem?_getD, h0]⟩
      | succ j ih =>
        intro h1
        have hl := (List.getElem?_eq_some_iff.1 h1).1
        have e1 : l.getD (j + 1) 0 = x := by simp [List.getD_eq_getElem?_getD, h1]
        by_cases e : l.getD j 0 = x
        · refine ih ?_
          rw [List.getD_eq_getElem?_getD, List.getElem?_eq_getElem (by omega)] at e
          rw [List.getElem?_eq_getElem (by omega)]
          simpa using e
        · exact ⟨j + 1, hl, (keeps_iff l _).2 (.inr (by rw [e1]; exact fun h => e h.symm)), e1⟩
    obtain ⟨i, h1, h2, h3⟩ := key j hj
    exact List.mem_map.2 ⟨i, List.mem_filter.2 ⟨List.mem_range.2 h1, h2⟩, by rw [arr_at]; exact h3⟩
theorem compact_sorted (l : List Int) (h : l.Pairwise (· ≤ ·)) : (Lib.compact l).Pairwise (· < ·) := by
  unfold Lib.compact Lib.compactUpTo
  rw [List.pairwise_map]
  refine List.Pairwise.imp_of_mem ?_ ((List.pairwise_lt_range).filter _)
  intro i j hi hj hij
  have hj1 := List.mem_filter.1 hj
  have hjl := List.mem_range.1 hj1.1
  have hk := (keeps_iff l j).1 hj1.2
  rw [arr_at, arr_at]
  have g : ∀ a b : Nat, a < b → b < l.length → l.getD a 0 ≤ l.getD b 0 := by
    intro a b hab hb
    have := List.pairwise_iff_getElem.1 h a b (by omega) hb hab
    simpa [List.getD_eq_getElem?_getD, List.getElem?_eq_getElem hb, List.getElem?_eq_getElem (show a < l.length by omega)] using this
  have h1 := g (j - 1) j (by omega) hjl
  have h2 : l.getD i 0 ≤ l.getD (j - 1) 0 := by
    by_cases e : i = j - 1
    · subst e; exact Int.le_refl _
    · exact g i (j - 1) (by omega) (by omega)
  omega
/-! Alike. -/
theorem alikeF_get : ∀ (A : List (Int × Int)) (M : List ((Int × Int) × Bool)) (k : Int × Int), (M.map Prod.fst).Nodup → (kGet M k false = true ∨ k ∈ A ∨ (k.2, k.1) ∈ A) → kGet (alikeF A M) k false = true
  | [], M, k, nd, h => by simpa [alikeF] using h
  | p :: ps, M, k, nd, h => by
    have nd1 := kUp_nodup p false true nd
    refine alikeF_get ps _ k (kUp_nodup _ _ _ nd1) ?_
    rw [kGet_up nd1, kGet_up nd]
    by_cases e1 : k = (p.2, p.1)
    · rw [if_pos e1]; exact .inl rfl
    · rw [if_neg e1]
      by_cases e2 : k = p
      · rw [if_pos e2]; exact .inl rfl
      · rw [if_neg e2]
        rcases h with h | h | h
        · exact .inl h
        · rcases List.mem_cons.1 h with h | h
          · exact absurd h e2
          · exact .inr (.inl h)
        · rcases List.mem_cons.1 h with h | h
          · exact absurd (by rw [← h]) e1
          · exact .inr (.inr h)
def aliF (A : List (Int × Int)) (l : Int) : List Int :=
  match A with
  | [] => []
  | p :: ps => if l = p.1 then p.2 :: aliF ps l else if l = p.2 then p.1 :: aliF ps l else aliF ps l
theorem aliF_mem : ∀ (A : List (Int × Int)) (l o : Int), o ∈ aliF A l → (l, o) ∈ A ∨ (o, l) ∈ A
  | [], l, o, h => by simp [aliF] at h
  | p :: ps, l, o, h => by
    unfold aliF at h
    split at h
    · rename_i e
      rcases List.mem_cons.1 h with h | h
      · exact .inl (by rw [e, h]; simp)
      · rcases aliF_mem ps l o h with h | h
        · exact .inl (List.mem_cons_of_mem _ h)
        · exact .inr (List.mem_cons_of_mem _ h)
    · split at h
      · rename_i e
        rcases List.mem_cons.1 h with h | h
        · exact .inr (by rw [e, h]; simp)
        · rcases aliF_mem ps l o h with h | h
          · exact .inl (List.mem_cons_of_mem _ h)
          · exact .inr (List.mem_cons_of_mem _ h)
      · rcases aliF_mem ps l o h with h | h
        · exact .inl (List.mem_cons_of_mem _ h)
        · exact .inr (List.mem_cons_of_mem _ h)
theorem aliF_len : ∀ (A : List (Int × Int)) (l : Int), (aliF A l).length ≤ A.length
  | [], l => by simp [aliF]
  | p :: ps, l => by
    have := aliF_len ps l
    unfold aliF
    split
    · simp; omega
    · split <;> simp <;> omega
/-- How a letter is laid by a byte: the kind, the stencil, what it reads as, the faults. -/
def layP (H A : List (Int × Int)) (l b : Int) : Int × Int × Int × Int :=
  let L := aliF A l
  let tk := decide (2 ≤ b % 4) && decide (0 < L.length)
  let st := if tk then L.getD ((b / 4) % L.length).toNat 0 else l
  if b % 2 = 1 then ((if tk then 3 else 1), st, headF H st, (if tk then 2 else 1)) else ((if tk then 2 else 0), st, st, (if tk then 1 else 0))
section
variable {N : Int} {H A : List (Int × Int)} (eA : errA N H A = 0)
include eA
theorem ali_ok {l o : Int} (h : o ∈ aliF A l) : 0 ≤ o ∧ o < N ∧ (alOf N H A).al l o = true := by
  obtain ⟨n0, n1, h3, h4, arr, e⟩ := errA_ok eA
  have bA : ∀ p ∈ A, 0 ≤ p.1 ∧ p.1 < N ∧ 0 ≤ p.2 ∧ p.2 < N := by
    intro p hp
    have := not_any h4 hp
    unfold badQ at this
    exact not_bad (by simp at this; exact this.1)
  have hm := aliF_mem A l o h
  refine ⟨?_, ?_, ?_⟩
  · rcases hm with h | h
    · exact (bA _ h).2.2.1
    · exact (bA _ h).1
  · rcases hm with h | h
    · exact (bA _ h).2.2.2
    · exact (bA _ h).2.1
  · exact alikeF_get A [] (l, o) (by simp) (.inr hm)
omit eA in
theorem readK_in {q : Al} {l kd : Int} : ∀ (n o : Nat) (x : Nat), o ≤ x → x < o + n → q.al l (x : Nat) = true → (kd, (x : Int), if kd = 3 then q.hd (x : Nat) else (x : Int)) ∈ q.readK l kd o n
  | 0, o, x, h1, h2, _ => by omega
  | n + 1, o, x, h1, h2, h => by
    unfold Al.readK
    by_cases e : x = o
    · subst e; rw [if_pos h]; simp
    · have := readK_in (kd := kd) n (o + 1) x (by omega) (by omega) h
      split
      · exact List.mem_cons_of_mem _ this
      · exact this
/-- What is laid is among the ways. -/
theorem lay_ways {l b : Int} (b0 : 0 ≤ b) (l0 : 0 ≤ l) (l1 : l < N) : ((layP H A l b).1, (layP H A l b).2.1) ∈ (alOf N H A).ways l (layP H A l b).2.2.1 ∧ cost (layP H A l b).1 = (layP H A l b).2.2.2 := by
  obtain ⟨n0, n1, _⟩ := errA_ok eA
  generalize hq : alOf N H A = q
  have key : ((layP H A l b).1, (layP H A l b).2.1, (layP H A l b).2.2.1) ∈ q.reads l ∧ cost (layP H A l b).1 = (layP H A l b).2.2.2 := by
    have hL : ∀ i, i < (aliF A l).length → 0 ≤ (aliF A l).getD i 0 ∧ (aliF A l).getD i 0 < N ∧ q.al l ((aliF A l).getD i 0) = true := by
      intro i hi
      rw [← hq]
      refine ali_ok eA ?_
      rw [List.getD_eq_getElem?_getD, List.getElem?_eq_getElem hi]
      exact List.getElem_mem hi
    unfold layP
    dsimp only
    generalize aliF A l = L at *
    by_cases hb : 2 ≤ b % 4 ∧ 0 < L.length
    · have tk : (decide (2 ≤ b % 4) && decide (0 < L.length)) = true := by simp [hb.1, hb.2]
      rw [tk]
      have m0 := Int.emod_nonneg (b / 4) (show ((L.length : Nat) : Int) ≠ 0 by omega)
      have m1 := Int.emod_lt_of_pos (b / 4) (show (0 : Int) < (L.length : Nat) by omega)
      obtain ⟨g0, g1, g2⟩ := hL (b / 4 % (L.length : Nat)).toNat (by omega)
      generalize L.getD (b / 4 % (L.length : Nat)).toNat 0 = o at *
      have hqN : q.N = N := by rw [← hq]; rfl
      have hh : headF H o = q.hd o := by rw [← hq]; exact headF_hd eA g0 (by omega)
      have eo : ((o.toNat : Nat) : Int) = o := by omega
      have r2 := readK_in (q := q) (l := l) (kd := 2) q.N.toNat 0 o.toNat (by omega) (by omega) (by rw [eo]; exact g2)
      have r3 := readK_in (q := q) (l := l) (kd := 3) q.N.toNat 0 o.toNat (by omega) (by omega) (by rw [eo]; exact g2)
      rw [eo] at r2 r3
      split
      · refine ⟨?_, rfl⟩
        simp only [if_true]
        rw [hh]
        unfold Al.reads
        simp only [if_true] at r3
        simp only [List.mem_cons, List.mem_append]
        exact .inr (.inr (.inr r3))
      · refine ⟨?_, rfl⟩
        simp only [if_true]
        unfold Al.reads
        rw [if_neg (by decide)] at r2
        simp only [List.mem_cons, List.mem_append]
        exact .inr (.inr (.inl r2))
    · have tk : (decide (2 ≤ b % 4) && decide (0 < L.length)) = false := by
        rw [Bool.and_eq_false_iff]
        by_cases h1 : 2 ≤ b % 4
        · right
          have : ¬ 0 < L.length := fun h => hb ⟨h1, h⟩
          simpa using this
        · left; simpa using h1
      rw [tk]
      have hqN : q.N = N := by rw [← hq]; rfl
      split
      · refine ⟨?_, rfl⟩
        have hh : headF H l = q.hd l := by rw [← hq]; exact headF_hd eA l0 (by omega)
        simp only [Bool.false_eq_true, if_false]
        rw [hh]
        unfold Al.reads
        simp
      · refine ⟨?_, rfl⟩
        simp only [Bool.false_eq_true, if_false]
        unfold Al.reads
        simp
  refine ⟨?_, key.2⟩
  unfold Al.ways waysOf
  exact List.mem_map.2 ⟨_, List.mem_filter.2 ⟨key.1, by simp⟩, rfl⟩
end
end S07

namespace S07
open Go Abs
theorem readK_fst {q : Al} {l kd : Int} : ∀ (n o : Nat) (x : Int × Int × Int), x ∈ q.readK l kd o n → x.1 = kd
  | 0, o, x, h => by simp [Al.readK] at h
  | n + 1, o, x, h => by
    unfold Al.readK at h
    split at h
    · rcases List.mem_cons.1 h with rfl | h
      · rfl
      · exact readK_fst n _ x h
    · exact readK_fst n _ x h
theorem reads_cases {q : Al} {l : Int} {x : Int × Int × Int} (h : x ∈ q.reads l) : x = (0, l, l) ∨ x = (1, l, q.hd l) ∨ x.1 = 2 ∨ x.1 = 3 := by
  unfold Al.reads at h
  simp only [List.mem_cons, List.mem_append] at h
  rcases h with h | h | h | h
  · exact .inl h
  · exact .inr (.inl h)
  · exact .inr (.inr (.inl (readK_fst _ _ _ h)))
  · exact .inr (.inr (.inr (readK_fst _ _ _ h)))
theorem reads_sorted (q : Al) (l : Int) : (q.reads l).Pairwise fun x y => x.1 ≤ y.1 := by
  unfold Al.reads
  refine List.pairwise_cons.2 ⟨?_, List.pairwise_cons.2 ⟨?_, List.pairwise_append.2 ⟨?_, ?_, ?_⟩⟩⟩
  · intro y hy
    rcases List.mem_cons.1 hy with rfl | hy
    · show (0 : Int) ≤ 1; omega
    · rcases List.mem_append.1 hy with hy | hy <;> rw [readK_fst _ _ _ hy]
      · show (0 : Int) ≤ 2; omega
      · show (0 : Int) ≤ 3; omega
  · intro y hy
    rcases List.mem_append.1 hy with hy | hy <;> rw [readK_fst _ _ _ hy]
    · show (1 : Int) ≤ 2; omega
    · show (1 : Int) ≤ 3; omega
  · refine List.pairwise_iff_getElem.2 fun i j hi hj _ => ?_
    rw [readK_fst _ _ _ (List.getElem_mem hi), readK_fst _ _ _ (List.getElem_mem hj)]; exact Int.le_refl _
  · refine List.pairwise_iff_getElem.2 fun i j hi hj _ => ?_
    rw [readK_fst _ _ _ (List.getElem_mem hi), readK_fst _ _ _ (List.getElem_mem hj)]; exact Int.le_refl _
  · intro x hx y hy
    rw [readK_fst _ _ _ hx, readK_fst _ _ _ hy]; decide
theorem ways_in {q : Al} {l s k st : Int} : (k, st) ∈ q.ways l s ↔ (k, st, s) ∈ q.reads l := by
  unfold Al.ways waysOf
  constructor
  · intro h
    obtain ⟨x, hx, e⟩ := List.mem_map.1 h
    obtain ⟨h1, h2⟩ := List.mem_filter.1 hx
    obtain ⟨a, b, c⟩ := x
    simp at e h2
    obtain ⟨rfl, rfl⟩ := e
    subst h2
    exact h1
  · intro h
    exact List.mem_map.2 ⟨(k, st, s), List.mem_filter.2 ⟨h, by simp⟩, rfl⟩
theorem kinds_mem {q : Al} {l s k : Int} : k ∈ q.kindsR l s ↔ ∃ st, (k, st) ∈ q.ways l s := by
  unfold Al.kindsR
  rw [mem_compact]
  constructor
  · intro h
    obtain ⟨⟨a, b⟩, h1, rfl⟩ := List.mem_map.1 h
    exact ⟨b, h1⟩
  · rintro ⟨st, h⟩
    exact List.mem_map.2 ⟨(k, st), h, rfl⟩
theorem kinds_sorted (q : Al) (l s : Int) : (q.kindsR l s).Pairwise (· < ·) := by
  unfold Al.kindsR
  refine compact_sorted _ ?_
  unfold Al.ways waysOf
  rw [List.map_map, List.pairwise_map]
  exact (reads_sorted q l).filter _
theorem kinds_bd {q : Al} {l s k : Int} (h : k ∈ q.kindsR l s) : 0 ≤ k ∧ k ≤ 3 ∧ (k = 0 → s = l) ∧ (k = 1 → s = q.hd l) := by
  obtain ⟨st, h⟩ := kinds_mem.1 h
  rcases reads_cases (ways_in.1 h) with e | e | e | e
  · simp only [Prod.mk.injEq] at e; obtain ⟨rfl, _, rfl⟩ := e; exact ⟨by omega, by omega, fun _ => rfl, fun h => by omega⟩
  · simp only [Prod.mk.injEq] at e; obtain ⟨rfl, _, rfl⟩ := e; exact ⟨by omega, by omega, fun h => by omega, fun _ => rfl⟩
  · dsimp only at e; exact ⟨by omega, by omega, fun h => by omega, fun h => by omega⟩
  · dsimp only at e; exact ⟨by omega, by omega, fun h => by omega, fun h => by omega⟩
theorem minF_is : ∀ (xs : List (Int × Int)) (b : Int × Int), minF xs b ∈ b :: xs ∧ ∀ x ∈ b :: xs, cost (minF xs b).1 ≤ cost x.1
  | [], b => by simp [minF]
  | y :: ys, b => by
    unfold minF
    split
    · rename_i hc
      obtain ⟨h1, h2⟩ := minF_is ys y
      refine ⟨List.mem_cons_of_mem _ h1, ?_⟩
      intro x hx
      rcases List.mem_cons.1 hx with rfl | hx
      · have := h2 y (by simp); omega
      · exact h2 x hx
    · rename_i hc
      obtain ⟨h1, h2⟩ := minF_is ys b
      refine ⟨?_, ?_⟩
      · rcases List.mem_cons.1 h1 with h1 | h1
        · rw [h1]; simp
        · exact List.mem_cons_of_mem _ (List.mem_cons_of_mem _ h1)
      · intro x hx
        rcases List.mem_cons.1 hx with rfl | hx
        · exact h2 x (by simp)
        · rcases List.mem_cons.1 hx with rfl | hx
          · have := h2 b (by simp); omega
          · exact h2 x (by simp [hx])
theorem best_is {q : Al} {l s : Int} {b : Int × Int} (h : q.best l s = some b) : b ∈ q.ways l s ∧ ∀ x ∈ q.ways l s, cost b.1 ≤ cost x.1 := by
  unfold Al.best at h
  split at h
  · simp at h
  · rename_i x xs e
    simp at h
    subst h
    rw [e]
    exact minF_is xs x
theorem best_some {q : Al} {l s : Int} {x : Int × Int} (h : x ∈ q.ways l s) : ∃ b, q.best l s = some b := by
  unfold Al.best
  split
  · rename_i e; rw [e] at h; simp at h
  · exact ⟨_, rfl⟩
theorem best_zero {q : Al} {l : Int} {b : Int × Int} (h : q.best l l = some b) : b.1 = 0 := by
  obtain ⟨h1, h2⟩ := best_is h
  have h3 := h2 (0, l) (ways_in.2 (by unfold Al.reads; simp))
  have h4 := kinds_bd (kinds_mem.2 ⟨b.2, h1⟩)
  simp only [cost] at h3
  rw [if_pos trivial] at h3
  split at h3
  · assumption
  · split at h3 <;> omega
/-- What is laid: what it reads as, the kinds, the faults. -/
def sgF (H A : List (Int × Int)) (w hb : List Int) : List Int := List.zipWith (fun l b => (layP H A l b).2.2.1) w hb
def wyF (H A : List (Int × Int)) (w hb : List Int) : List Int := List.zipWith (fun l b => (layP H A l b).1) w hb
def ftF (H A : List (Int × Int)) (w hb : List Int) : List Int := List.zipWith (fun l b => (layP H A l b).2.2.2) w hb
def costs (ks : List Int) : Int := (ks.map cost).sum
theorem few_at {q : Al} : ∀ (w s ks : List Int) (n : Int), w.length = s.length → q.fewF w s = some (ks, n) → ks.length = w.length ∧ n = costs ks ∧ ∀ (i : Nat) (l x k : Int), w[i]? = some l → s[i]? = some x → ks[i]? = some k → ∃ b, q.best l x = some b ∧ b.1 = k
  | [], s, ks, n, hl, h => by
    simp [Al.fewF] at h
    obtain ⟨rfl, rfl⟩ := h
    exact ⟨rfl, rfl, fun i l x k h => by simp at h⟩
  | l :: ls, [], ks, n, hl, h => by simp at hl
  | l :: ls, x :: ss, ks, n, hl, h => by
    unfold Al.fewF at h
    split at h
    · simp at h
    · rename_i b hb
      rw [Option.map_eq_some_iff] at h
      obtain ⟨⟨ks', n'⟩, h1, h2⟩ := h
      simp only [Prod.mk.injEq] at h2
      obtain ⟨rfl, rfl⟩ := h2
      obtain ⟨g1, g2, g3⟩ := few_at ls ss ks' n' (by simpa using hl) h1
      refine ⟨by simp [g1], by simp [costs, g2], ?_⟩
      intro i l' x' k' e1 e2 e3
      cases i with
      | zero => simp at e1 e2 e3; subst e1; subst e2; subst e3; exact ⟨b, hb, rfl⟩
      | succ i => exact g3 i l' x' k' (by simpa using e1) (by simpa using e2) (by simpa using e3)
section
variable {N : Int} {H A : List (Int × Int)} (eA : errA N H A = 0)
include eA
theorem few_le : ∀ (w hb : List Int), (∀ n ∈ w, 0 ≤ n ∧ n < N) → (∀ n ∈ hb, 0 ≤ n) → w.length ≤ hb.length → ∃ ks n, (alOf N H A).fewF w (sgF H A w hb) = some (ks, n) ∧ 0 ≤ n ∧ n ≤ (ftF H A w hb).sum ∧ n ≤ 2 * w.length
  | [], hb, _, _, _ => ⟨[], 0, by simp [Al.fewF], by omega, by simp [ftF], by omega⟩
  | l :: ls, [], _, _, h => by simp at h
  | l :: ls, b :: bs, hw, hb, hl => by
    obtain ⟨l0, l1⟩ := hw l (by simp)
    have b0 := hb b (by simp)
    obtain ⟨g1, g2⟩ := lay_ways eA (b := b) b0 l0 l1
    obtain ⟨ks, n, h1, h2, h3, h4⟩ := few_le ls bs (fun x hx => hw x (by simp [hx])) (fun x hx => hb x (by simp [hx])) (by simpa using hl)
    obtain ⟨c, hc⟩ := best_some g1
    have hm := (best_is hc).2 _ g1
    dsimp only at hm
    have cb := cost_bd c.1
    refine ⟨c.1 :: ks, cost c.1 + n, ?_, by omega, ?_, by simp only [List.length_cons]; omega⟩
    · simp only [sgF, List.zipWith_cons_cons, Al.fewF, hc]
      rw [show List.zipWith (fun l b => (layP H A l b).2.2.1) ls bs = sgF H A ls bs from rfl, h1]; rfl
    · simp only [ftF, List.zipWith_cons_cons, List.sum_cons] at h3 ⊢
      omega
end
end S07

