/- A part of the proof: P07h, P07b. -/
import Derived.Test.YtmanbdacloeioaaP07aa
import Derived.Test.YtmanbdacloeioaaH07z0
set_option linter.unusedVariables false
set_option linter.unusedSimpArgs false
namespace S07
open Go Abs
/-! A heap: of which cases it can be. -/
def sumS : List (List Int) → List Bool → List Int → List Int
  | x :: xs, b :: bs, all => if b then sumS xs bs (addI x 0 all) else sumS xs bs all
  | _, _, all => all
theorem sumS_none : ∀ (xs : List (List Int)) (bs : List Bool) (all : List Int) (k : Nat), idxT k bs = [] → sumS xs bs all = all
  | [], bs, all, k, _ => by cases bs <;> rfl
  | x :: xs, [], all, k, _ => rfl
  | x :: xs, b :: bs, all, k, h => by
    cases b with
    | true => simp [idxT] at h
    | false =>
      simp only [idxT, Bool.false_eq_true, if_false] at h
      simp only [sumS, Bool.false_eq_true, if_false]
      exact sumS_none xs bs all (k + 1) h
theorem loopG_in (c : List Int) (lost : Int) : ∀ (W : List (List Int)) (bs : List Bool) (l all : List Int) (k : Nat), bs.length = W.length → idxT k bs ≠ [] → isOfF c 0 (sumS W bs all) 0 lost = true → l ++ idxT k bs ∈ loopG c lost W l all k
  | [], [], _, _, _, _, h, _ => absurd rfl h
  | [], _ :: _, _, _, _, h, _, _ => by simp at h
  | _ :: _, [], _, _, _, h, _, _ => by simp at h
  | x :: xs, b :: bs, l, all, k, hl, hne, h => by
    have hl' : bs.length = xs.length := by simpa using hl
    cases b with
    | true =>
      simp only [idxT, if_true, sumS] at hne h ⊢
      simp only [loopG, List.mem_append]
      by_cases e : idxT (k + 1) bs = []
      · left; left
        rw [sumS_none xs bs _ (k + 1) e] at h
        rw [e]
        simp [own1, h]
      · left; right
        have := loopG_in c lost xs bs (l ++ [(k : Int)]) (addI x 0 all) (k + 1) hl' e h
        simpa using this
    | false =>
      simp only [idxT, sumS, Bool.false_eq_true, if_false] at hne h ⊢
      simp only [loopG, List.mem_append]
      right
      exact loopG_in c lost xs bs l all (k + 1) hl' hne h
theorem loopG_sorted (c : List Int) (lost : Int) : ∀ (W : List (List Int)) (l all : List Int) (k : Nat), l.Pairwise (· < ·) → (∀ n ∈ l, n < (k : Int)) → ∀ r ∈ loopG c lost W l all k, r.Pairwise (· < ·)
  | [], _, _, _, _, _, r, h => by simp [loopG] at h
  | x :: xs, l, all, k, hp, hl, r, hr => by
    have hp' : (l ++ [(k : Int)]).Pairwise (· < ·) := List.pairwise_append.2 ⟨hp, by simp, fun a ha b hb => by simp at hb; subst hb; exact hl a ha⟩
    have hl' : ∀ n ∈ l ++ [(k : Int)], n < ((k + 1 : Nat) : Int) := by
      intro n hn
      rcases List.mem_append.1 hn with hn | hn
      · have := hl n hn; omega
      · simp at hn; omega
    simp only [loopG, List.mem_append] at hr
    rcases hr with (hr | hr) | hr
    · unfold own1 at hr
      split at hr
      · simp at hr; subst hr; exact hp'
      · simp at hr
    · exact loopG_sorted c lost xs _ _ (k + 1) hp' hl' r hr
    · exact loopG_sorted c lost xs _ _ (k + 1) hp (fun n hn => by have := hl n hn; omega) r hr
/-! Counts of what is in lists. -/
theorem cnt1_at (x : Int) : ∀ (l p : List Int), (∀ n ∈ l, 0 ≤ n ∧ n < (p.length : Nat)) → 0 ≤ x → gI (cnt1F l p) x = gI p x + cntP x l
  | [], p, _, _ => by simp [cnt1F, cntP]
  | n :: ns, p, h, x0 => by
    have hn := h n (by simp)
    have := cnt1_at x ns (addAt p n 1) (fun y hy => by rw [addAt_len]; exact h y (by simp [hy])) x0
    rw [cnt1F, this, gI_addAt hn.1 hn.2 x0]
    simp only [cntP]
    by_cases e : x = n
    · subst e; simp; omega
    · rw [if_neg e, if_neg (fun h => e h.symm)]; omega
def sumC (x : Int) : List (List Int) → Int
  | [] => 0
  | l :: ls => cntP x l + sumC x ls
theorem cntF_at (x : Int) : ∀ (L : List (List Int)) (p : List Int), (∀ l ∈ L, ∀ n ∈ l, 0 ≤ n ∧ n < (p.length : Nat)) → 0 ≤ x → gI (cntF L p) x = gI p x + sumC x L ∧ (cntF L p).length = p.length
  | [], p, _, _ => by simp [cntF, sumC]
  | l :: ls, p, h, x0 => by
    have h1 := cnt1_at x l p (h l (by simp)) x0
    have h2 := cnt1F_len l p
    obtain ⟨h3, h4⟩ := cntF_at x ls (cnt1F l p) (fun l' hl' n hn => by rw [h2]; exact h l' (by simp [hl']) n hn) x0
    rw [cntF]
    refine ⟨?_, by rw [h4, h2]⟩
    rw [h3, h1]; simp only [sumC]; omega
theorem cntP_not (x : Int) : ∀ (l : List Int), x ∉ l → cntP x l = 0
  | [], _ => rfl
  | n :: ns, h => by
    have := cntP_not x ns (fun e => h (by simp [e]))
    have : n ≠ x := fun e => h (by simp [e])
    simp [cntP, *]
theorem cntP_in (x : Int) : ∀ (l : List Int), x ∈ l → 1 ≤ cntP x l
  | [], h => by simp at h
  | n :: ns, h => by
    have h0 := cntP_nn x ns
    simp only [cntP]
    by_cases e : n = x
    · rw [if_pos e]; omega
    · rcases List.mem_cons.1 h with h | h
      · exact absurd h.symm e
      · have := cntP_in x ns h
        rw [if_neg e]; omega
theorem cntP_one (x : Int) : ∀ (l : List Int), l.Pairwise (· < ·) → cntP x l ≤ 1
  | [], _ => by simp [cntP]
  | n :: ns, h => by
    rw [List.pairwise_cons] at h
    simp only [cntP]
    by_cases e : n = x
    · have : cntP x ns = 0 := cntP_not x ns fun hx => by have := h.1 x hx; omega
      rw [if_pos e, this]; decide
    · have := cntP_one x ns h.2
      rw [if_neg e]; omega
theorem sumC_le (x : Int) : ∀ (L : List (List Int)), (∀ l ∈ L, l.Pairwise (· < ·)) → sumC x L ≤ L.length
  | [], _ => by simp [sumC]
  | l :: ls, h => by
    have h1 := cntP_one x l (h l (by simp))
    have h2 := sumC_le x ls fun y hy => h y (by simp [hy])
    simp only [sumC, List.length_cons]; omega
theorem sumC_all (x : Int) : ∀ (L : List (List Int)), (∀ l ∈ L, l.Pairwise (· < ·)) → sumC x L = L.length → ∀ l ∈ L, x ∈ l
  | [], _, _, l, h => by simp at h
  | l :: ls, h, hs, r, hr => by
    have h1 := cntP_one x l (h l (by simp))
    have h2 := sumC_le x ls fun y hy => h y (by simp [hy])
    simp only [sumC, List.length_cons] at hs
    rcases List.mem_cons.1 hr with rfl | hr
    · refine Classical.byContradiction fun hx => ?_
      have := cntP_not x r hx
      omega
    · exact sumC_all x ls (fun y hy => h y (by simp [hy])) (by omega) r hr
theorem sumC_nn (x : Int) : ∀ (L : List (List Int)), 0 ≤ sumC x L
  | [] => by simp [sumC]
  | l :: ls => by have := sumC_nn x ls; have := cntP_nn x l; simp only [sumC]; omega
theorem sumC_in (x : Int) : ∀ (L : List (List Int)) (l : List Int), l ∈ L → x ∈ l → 1 ≤ sumC x L
  | [], _, h, _ => by simp at h
  | l :: ls, r, hr, hx => by
    have h0 := cntP_nn x l
    have h2 := sumC_nn x ls
    simp only [sumC]
    rcases List.mem_cons.1 hr with rfl | hr
    · have := cntP_in x r hx; omega
    · have := sumC_in x ls r hr hx; omega
theorem sumC_ex (x : Int) : ∀ (L : List (List Int)), 0 < sumC x L → ∃ l ∈ L, x ∈ l
  | [], h => by simp [sumC] at h
  | l :: ls, h => by
    by_cases e : x ∈ l
    · exact ⟨l, by simp, e⟩
    · have := cntP_not x l e
      simp only [sumC] at h
      obtain ⟨r, h1, h2⟩ := sumC_ex x ls (by omega)
      exact ⟨r, by simp [h1], h2⟩
theorem surF_mem (many x : Int) : ∀ (p : List Int) (k : Nat), x ∈ surF many p k ↔ ∃ j : Nat, x = ((k + j : Nat) : Int) ∧ p[j]? = some many
  | [], k => by simp [surF]
  | n :: ns, k => by
    have ih := surF_mem many x ns (k + 1)
    have key : (∃ j : Nat, x = ((k + j : Nat) : Int) ∧ (n :: ns)[j]? = some many) ↔ (x = (k : Nat) ∧ n = many) ∨ ∃ j : Nat, x = ((k + 1 + j : Nat) : Int) ∧ ns[j]? = some many := by
      constructor
      · rintro ⟨j, h1, h2⟩
        cases j with
        | zero => exact .inl ⟨by simpa using h1, by simpa using h2⟩
        | succ j => exact .inr ⟨j, by omega, by simpa using h2⟩
      · rintro (⟨h1, h2⟩ | ⟨j, h1, h2⟩)
        · exact ⟨0, by simpa using h1, by simp [h2]⟩
        · exact ⟨j + 1, by omega, by simpa using h2⟩
    rw [key, ← ih]
    by_cases e : n = many <;> simp [surF, e]
theorem posF_mem (x : Int) : ∀ (p : List Int) (k : Nat), x ∈ posF p k ↔ ∃ (j : Nat) (n : Int), x = ((k + j : Nat) : Int) ∧ p[j]? = some n ∧ 0 < n
  | [], k => by simp [posF]
  | n :: ns, k => by
    have ih := posF_mem x ns (k + 1)
    have key : (∃ (j : Nat) (m : Int), x = ((k + j : Nat) : Int) ∧ (n :: ns)[j]? = some m ∧ 0 < m) ↔ (x = (k : Nat) ∧ 0 < n) ∨ ∃ (j : Nat) (m : Int), x = ((k + 1 + j : Nat) : Int) ∧ ns[j]? = some m ∧ 0 < m := by
      constructor
      · rintro ⟨j, m, h1, h2, h3⟩
        cases j with
        | zero => exact .inl ⟨by simpa using h1, by simp at h2; omega⟩
        | succ j => exact .inr ⟨j, m, by omega, by simpa using h2, h3⟩
      · rintro (⟨h1, h2⟩ | ⟨j, m, h1, h2, h3⟩)
        · exact ⟨0, n, by simpa using h1, by simp, h2⟩
        · exact ⟨j + 1, m, by omega, by simpa using h2, h3⟩
    rw [key, ← ih]
    by_cases e : 0 < n <;> simp [posF, e]
theorem surF_len (many : Int) : ∀ (p : List Int) (k : Nat), (surF many p k).length ≤ p.length
  | [], _ => Nat.le_refl _
  | n :: ns, k => by
    have := surF_len many ns (k + 1)
    simp only [surF]
    split <;> simp only [List.length_cons] <;> omega
theorem posF_len : ∀ (p : List Int) (k : Nat), (posF p k).length ≤ p.length
  | [], _ => Nat.le_refl _
  | n :: ns, k => by
    have := posF_len ns (k + 1)
    simp only [posF]
    split <;> simp only [List.length_cons] <;> omega
theorem cntF_len : ∀ (L : List (List Int)) (p : List Int), (cntF L p).length = p.length
  | [], _ => rfl
  | l :: ls, p => by rw [cntF, cntF_len ls, cnt1F_len]
theorem mix_len (L : List (List Int)) : (mixS L).length ≤ 4 ∧ (mixP L).length ≤ 4 := by
  have h := cntF_len L z4
  have h1 := surF_len (L.length : Nat) (cntF L z4) 0
  have h2 := posF_len (cntF L z4) 0
  unfold mixS mixP
  simp only [z4, List.length_cons, List.length_nil] at *
  omega
structure LL (L : List (List Int)) : Prop where
  s : ∀ l ∈ L, l.Pairwise (· < ·)
  b : ∀ l ∈ L, ∀ n ∈ l, 0 ≤ n ∧ n < 4
theorem sur_iff {L : List (List Int)} (h : LL L) (x : Int) : x ∈ mixS L ↔ 0 ≤ x ∧ x < 4 ∧ ∀ l ∈ L, x ∈ l := by
  unfold mixS
  rw [surF_mem]
  constructor
  · rintro ⟨j, h1, h2⟩
    obtain ⟨c1, c2⟩ := cntF_at x L z4 h.b (by omega)
    have hj := (List.getElem?_eq_some_iff.1 h2).1
    rw [c2] at hj
    have e : gI (cntF L z4) x = (L.length : Nat) := by
      unfold gI; rw [List.getD_eq_getElem?_getD, h1]; simp [h2]
    rw [gI_z4, e] at c1
    exact ⟨by omega, by simp [z4] at hj; omega, sumC_all x L h.s (by omega)⟩
  · rintro ⟨x0, x4, hx⟩
    obtain ⟨c1, c2⟩ := cntF_at x L z4 h.b x0
    have hs : sumC x L = L.length := by
      have h1 := sumC_le x L h.s
      have h2 : (L.length : Int) ≤ sumC x L := by
        clear c1 c2 h h1
        induction L with
        | nil => simp [sumC]
        | cons l ls ih =>
          have := cntP_in x l (hx l (by simp))
          have := ih fun y hy => hx y (by simp [hy])
          simp only [sumC, List.length_cons]; omega
      omega
    refine ⟨x.toNat, by omega, ?_⟩
    have := gI_get (p := cntF L z4) x0 (by rw [c2]; simp [z4]; omega)
    rw [this, c1, gI_z4, hs]; simp
theorem pos_iff {L : List (List Int)} (h : LL L) (x : Int) : x ∈ mixP L ↔ ∃ l ∈ L, x ∈ l := by
  unfold mixP
  rw [posF_mem]
  constructor
  · rintro ⟨j, n, h1, h2, h3⟩
    obtain ⟨c1, c2⟩ := cntF_at x L z4 h.b (by omega)
    have e : gI (cntF L z4) x = n := by
      unfold gI; rw [List.getD_eq_getElem?_getD, h1]; simp [h2]
    rw [gI_z4, e] at c1
    exact sumC_ex x L (by omega)
  · rintro ⟨l, h1, h2⟩
    have hb := h.b l h1 x h2
    obtain ⟨c1, c2⟩ := cntF_at x L z4 h.b hb.1
    have := gI_get (p := cntF L z4) hb.1 (by rw [c2]; simp [z4]; omega)
    rw [gI_z4] at c1
    have := sumC_in x L l h1 h2
    exact ⟨x.toNat, _, by omega, by assumption, by omega⟩
/-! What StencilOwners makes. -/
structure Off (N : Nat) (all hp : List Int) (lost : Int) (k : Nat) : Prop where
  la : all.length = N
  lh : hp.length = N
  h0 : ∀ i : Nat, i < N → 0 ≤ gI hp (i : Nat) ∧ gI hp (i : Nat) ≤ gI all (i : Nat)
  sm : all.sum - hp.sum = lost
  l0 : 0 ≤ lost ∧ lost ≤ 12
def sameF (ow r : List Int) (k : Nat) : Bool := decide (r.length = ow.length) && (List.range k).all fun j => decide (gI r (j : Nat) = gI ow (min (j : Int) ((ow.length : Nat) - 1)))
section
variable {N : Int} {H A : List (Int × Int)} (eA : errA N H A = 0) {W : List (List Int)} {hp : List Int} {lost : Int} {bs : List Bool}
variable (W4 : W.length ≤ 4) (hW : ∀ w ∈ W, CountOk N w) (hb : bs.length = W.length)
include W4
theorem own_LL : LL (whoseR N W hp lost) :=
  ⟨fun l hl => loopG_sorted _ _ _ _ _ _ .nil (by simp) l hl, fun l hl n hn => by
    have := (loopG_mem hp lost W [] _ 0 (by simp) (by simp) l hl).1 n hn
    omega⟩
end
end S07

namespace S07
open Go Abs
structure LayI (q : Al) (ws left : List Int) : Prop where
  len : (left.length : Nat) = q.N
  nn : ∀ n ∈ left, 0 ≤ n ∧ n ≤ 20
  en : ∀ x, cntP x (ws.map q.pool) ≤ hasP q.pool left 0 x
section
variable {q : Al} (hq : HdOk q.N q.arr) (n0 : 1 ≤ q.N) (h8 : q.N ≤ 8)
include hq n0 h8
end
end S07

