/- A part of the proof: P07h. -/
import Derived.Test.YtmanbdacloeioaaP07a
import Derived.Test.YtmanbdacloeioaaH07z
set_option linter.unusedVariables false
set_option linter.unusedSimpArgs false
namespace S07
open Go Abs
/-! A heap: of which cases it can be. -/
def sumS : List (List Int) → List Bool → List Int → List Int
  | x :: xs, b :: bs, all => if b then sumS xs bs (addI x 0 all) else sumS xs bs all
  | _, _, all => all
theorem sumS_none : ∀ (xs : List (List Int)) (bs : List Bool) (all : List Int) (k : Nat), idxT k bs = [] → sumS xs bs all = all
  | [], bs, all, k, _ => by cases bs <;> rfl
  | x :: xs, [], all, k, _ => rfl
  | x :: xs, b :: bs, all, k, h => by
    cases b with
    | true => simp [idxT] at h
    | false =>
      simp only [idxT, Bool.false_eq_true, if_false] at h
      simp only [sumS, Bool.false_eq_true, if_false]
      exact sumS_none xs bs all (k + 1) h
theorem loopG_in (c : List Int) (lost : Int) : ∀ (W : List (List Int)) (bs : List Bool) (l all : List Int) (k : Nat), bs.length = W.length → idxT k bs ≠ [] → isOfF c 0 (sumS W bs all) 0 lost = true → l ++ idxT k bs ∈ loopG c lost W l all k
  | [], [], _, _, _, _, h, _ => absurd rfl h
  | [], _ :: _, _, _, _, h, _, _ => by simp at h
  | _ :: _, [], _, _, _, h, _, _ => by simp at h
  | x :: xs, b :: bs, l, all, k, hl, hne, h => by
    have hl' : bs.length = xs.length := by simpa using hl
    cases b with
    | true =>
      simp only [idxT, if_true, sumS] at hne h ⊢
      simp only [loopG, List.mem_append]
      by_cases e : idxT (k + 1) bs = []
      · left; left
        rw [sumS_none xs bs _ (k + 1) e] at h
        rw [e]
        simp [own1, h]
      · left; right
        have := loopG_in c lost xs bs (l ++ [(k : Int)]) (addI x 0 all) (k + 1) hl' e h
        simpa using this
    | false =>
      simp only [idxT, sumS, Bool.false_eq_true, if_false] at hne h ⊢
      simp only [loopG, List.mem_append]
      right
      exact loopG_in c lost xs bs l all (k + 1) hl' hne h
theorem loopG_sorted (c : List Int) (lost : Int) : ∀ (W : List (List Int)) (l all : List Int) (k : Nat), l.Pairwise (· < ·) → (∀ n ∈ l, n < (k : Int)) → ∀ r ∈ loopG c lost W l all k, r.Pairwise (· < ·)
  | [], _, _, _, _, _, r, h => by simp [loopG] at h
  | x :: xs, l, all, k, hp, hl, r, hr => by
    have hp' : (l ++ [(k : Int)]).Pairwise (· < ·) := List.pairwise_append.2 ⟨hp, by simp, fun a ha b hb => by simp at hb; subst hb; exact hl a ha⟩
    have hl' : ∀ n ∈ l ++ [(k : Int)], n < ((k + 1 : Nat) : Int) := by
      intro n hn
      rcases List.mem_append.1 hn with hn | hn
      · have := hl n hn; omega
      · simp at hn; omega
    simp only [loopG, List.mem_append] at hr
    rcases hr with (hr | hr) | hr
    · unfold own1 at hr
      split at hr
      · simp at hr; subst hr; exact hp'
      · simp at hr
    · exact loopG_sorted c lost xs _ _ (k + 1) hp' hl' r hr
    · exact loopG_sorted c lost xs _ _ (k + 1) hp (fun n hn => by have := hl n hn; omega) r hr
theorem isOf_more : ∀ (c : List Int) (i : Nat) (all : List Int) (m lost : Int), isOfF c i all m lost = true → isOfF c i all m (lost + 1) = true
  | [], _, _, m, lost, h => by simp only [isOfF, decide_eq_true_eq] at h ⊢; omega
  | n :: ns, i, all, m, lost, h => by
    simp only [isOfF] at h ⊢
    split at h
    · simp at h
    · rename_i e
      rw [if_neg e]
      exact isOf_more ns (i + 1) all _ lost h
theorem loopG_more (c : List Int) (lost : Int) : ∀ (W : List (List Int)) (l all : List Int) (k : Nat), (loopG c lost W l all k).length ≤ (loopG c (lost + 1) W l all k).length
  | [], _, _, _ => Nat.le_refl _
  | x :: xs, l, all, k => by
    have h1 := loopG_more c lost xs (l ++ [(k : Int)]) (addI x 0 all) (k + 1)
    have h2 := loopG_more c lost xs l all (k + 1)
    have h3 : (own1 c lost (l ++ [(k : Int)]) (addI x 0 all)).length ≤ (own1 c (lost + 1) (l ++ [(k : Int)]) (addI x 0 all)).length := by
      unfold own1
      cases e : isOfF c 0 (addI x 0 all) 0 lost with
      | true => rw [isOf_more c 0 _ 0 lost e]; simp
      | false => simp
    simp only [loopG, List.length_append]
    omega
theorem isOf_of : ∀ (c : List Int) (i : Nat) (all ds : List Int) (m lost : Int), all.drop i = ds → ds.length = c.length → (∀ j : Nat, j < c.length → gI c (j : Nat) ≤ gI ds (j : Nat)) → m + (ds.sum - c.sum) ≤ lost → isOfF c i all m lost = true
  | [], i, all, ds, m, lost, _, hl, _, h => by
    obtain rfl : ds = [] := by cases ds <;> simp_all
    simp at h
    simp [isOfF]; omega
  | n :: ns, i, all, [], m, lost, _, hl, _, _ => by simp at hl
  | n :: ns, i, all, d :: ds, m, lost, hd, hl, hp, h => by
    obtain ⟨d1, d2, d3, d4⟩ := drop_tail hd
    have e : gI all (i : Nat) = d := by unfold gI; rw [List.getD_eq_getElem?_getD]; simp [d2]
    have h0 := hp 0 (by simp)
    have h0' : n ≤ d := by simpa [gI] using h0
    simp only [isOfF]
    rw [e, if_neg (by omega)]
    refine isOf_of ns (i + 1) all ds _ lost d1 (by simpa using hl) (fun j hj => by have := hp (j + 1) (by simpa using hj); simpa [gI] using this) ?_
    simp only [List.sum_cons] at h
    omega
/-! Counts of what is in lists. -/
theorem cnt1_at (x : Int) : ∀ (l p : List Int), (∀ n ∈ l, 0 ≤ n ∧ n < (p.length : Nat)) → 0 ≤ x → gI (cnt1F l p) x = gI p x + cntP x l
  | [], p, _, _ => by simp [cnt1F, cntP]
  | n :: ns, p, h, x0 => by
    have hn := h n (by simp)
    have := cnt1_at x ns (addAt p n 1) (fun y hy => by rw [addAt_len]; exact h y (by simp [hy])) x0
    rw [cnt1F, this, gI_addAt hn.1 hn.2 x0]
    simp only [cntP]
    by_cases e : x = n
    · subst e; simp; omega
    · rw [if_neg e, if_neg (fun h => e h.symm)]; omega
def sumC (x : Int) : List (List Int) → Int
  | [] => 0
  | l :: ls => cntP x l + sumC x ls
theorem cntF_at (x : Int) : ∀ (L : List (List Int)) (p : List Int), (∀ l ∈ L, ∀ n ∈ l, 0 ≤ n ∧ n < (p.length : Nat)) → 0 ≤ x → gI (cntF L p) x = gI p x + sumC x L ∧ (cntF L p).length = p.length
  | [], p, _, _ => by simp [cntF, sumC]
  | l :: ls, p, h, x0 => by
    have h1 := cnt1_at x l p (h l (by simp)) x0
    have h2 := cnt1F_len l p
    obtain ⟨h3, h4⟩ := cntF_at x ls (cnt1F l p) (fun l' hl' n hn => by rw [h2]; exact h l' (by simp [hl']) n hn) x0
    rw [cntF]
    refine ⟨?_, by rw [h4, h2]⟩
    rw [h3, h1]; simp only [sumC]; omega
theorem cntP_not (x : Int) : ∀ (l : List Int), x ∉ l → cntP x l = 0
  | [], _ => rfl
  | n :: ns, h => by
    have := cntP_not x ns (fun e => h (by simp [e]))
    have : n ≠ x := fun e => h (by simp [e])
    simp [cntP, *]
theorem cntP_in (x : Int) : ∀ (l : List Int), x ∈ l → 1 ≤ cntP x l
  | [], h => by simp at h
  | n :: ns, h => by
    have h0 := cntP_nn x ns
    simp only [cntP]
    by_cases e : n = x
    · rw [if_pos e]; omega
    · rcases List.mem_cons.1 h with h | h
      · exact absurd h.symm e
      · have := cntP_in x ns h
        rw [if_neg e]; omega
theorem cntP_one (x : Int) : ∀ (l : List Int), l.Pairwise (· < ·) → cntP x l ≤ 1
  | [], _ => by simp [cntP]
  | n :: ns, h => by
    rw [List.pairwise_cons] at h
    simp only [cntP]
    by_cases e : n = x
    · have : cntP x ns = 0 := cntP_not x ns fun hx => by have := h.1 x hx; omega
      rw [if_pos e, this]; decide
    · have := cntP_one x ns h.2
      rw [if_neg e]; omega
theorem sumC_le (x : Int) : ∀ (L : List (List Int)), (∀ l ∈ L, l.Pairwise (· < ·)) → sumC x L ≤ L.length
  | [], _ => by simp [sumC]
  | l :: ls, h => by
    have h1 := cntP_one x l (h l (by simp))
    have h2 := sumC_le x ls fun y hy => h y (by simp [hy])
    simp only [sumC, List.length_cons]; omega
theorem sumC_all (x : Int) : ∀ (L : List (List Int)), (∀ l ∈ L, l.Pairwise (· < ·)) → sumC x L = L.length → ∀ l ∈ L, x ∈ l
  | [], _, _, l, h => by simp at h
  | l :: ls, h, hs, r, hr => by
    have h1 := cntP_one x l (h l (by simp))
    have h2 := sumC_le x ls fun y hy => h y (by simp [hy])
    simp only [sumC, List.length_cons] at hs
    rcases List.mem_cons.1 hr with rfl | hr
    · refine Classical.byContradiction fun hx => ?_
      have := cntP_not x r hx
      omega
    · exact sumC_all x ls (fun y hy => h y (by simp [hy])) (by omega) r hr
theorem sumC_nn (x : Int) : ∀ (L : List (List Int)), 0 ≤ sumC x L
  | [] => by simp [sumC]
  | l :: ls => by have := sumC_nn x ls; have := cntP_nn x l; simp only [sumC]; omega
theorem sumC_in (x : Int) : ∀ (L : List (List Int)) (l : List Int), l ∈ L → x ∈ l → 1 ≤ sumC x L
  | [], _, h, _ => by simp at h
  | l :: ls, r, hr, hx => by
    have h0 := cntP_nn x l
    have h2 := sumC_nn x ls
    simp only [sumC]
    rcases List.mem_cons.1 hr with rfl | hr
    · have := cntP_in x r hx; omega
    · have := sumC_in x ls r hr hx; omega
theorem sumC_ex (x : Int) : ∀ (L : List (List Int)), 0 < sumC x L → ∃ l ∈ L, x ∈ l
  | [], h => by simp [sumC] at h
  | l :: ls, h => by
    by_cases e : x ∈ l
    · exact ⟨l, by simp, e⟩
    · have := cntP_not x l e
      simp only [sumC] at h
      obtain ⟨r, h1, h2⟩ := sumC_ex x ls (by omega)
      exact ⟨r, by simp [h1], h2⟩
theorem surF_mem (many x : Int) : ∀ (p : List Int) (k : Nat), x ∈ surF many p k ↔ ∃ j : Nat, x = ((k + j : Nat) : Int) ∧ p[j]? = some many
  | [], k => by simp [surF]
  | n :: ns, k => by
    have ih := surF_mem many x ns (k + 1)
    have key : (∃ j : Nat, x = ((k + j : Nat) : Int) ∧ (n :: ns)[j]? = some many) ↔ (x = (k : Nat) ∧ n = many) ∨ ∃ j : Nat, x = ((k + 1 + j : Nat) : Int) ∧ ns[j]? = some many := by
      constructor
      · rintro ⟨j, h1, h2⟩
        cases j with
        | zero => exact .inl ⟨by simpa using h1, by simpa using h2⟩
        | succ j => exact .inr ⟨j, by omega, by simpa using h2⟩
      · rintro (⟨h1, h2⟩ | ⟨j, h1, h2⟩)
        · exact ⟨0, by simpa using h1, by simp [h2]⟩
        · exact ⟨j + 1, by omega, by simpa using h2⟩
    rw [key, ← ih]
    by_cases e : n = many <;> simp [surF, e]
theorem posF_mem (x : Int) : ∀ (p : List Int) (k : Nat), x ∈ posF p k ↔ ∃ (j : Nat) (n : Int), x = ((k + j : Nat) : Int) ∧ p[j]? = some n ∧ 0 < n
  | [], k => by simp [posF]
  | n :: ns, k => by
    have ih := posF_mem x ns (k + 1)
    have key : (∃ (j : Nat) (m : Int), x = ((k + j : Nat) : Int) ∧ (n :: ns)[j]? = some m ∧ 0 < m) ↔ (x = (k : Nat) ∧ 0 < n) ∨ ∃ (j : Nat) (m : Int), x = ((k + 1 + j : Nat) : Int) ∧ ns[j]? = some m ∧ 0 < m := by
      constructor
      · rintro ⟨j, m, h1, h2, h3⟩
        cases j with
        | zero => exact .inl ⟨by simpa using h1, by simp at h2; omega⟩
        | succ j => exact .inr ⟨j, m, by omega, by simpa using h2, h3⟩
      · rintro (⟨h1, h2⟩ | ⟨j, m, h1, h2, h3⟩)
        · exact ⟨0, n, by simpa using h1, by simp, h2⟩
        · exact ⟨j + 1, m, by omega, by simpa using h2, h3⟩
    rw [key, ← ih]
    by_cases e : 0 < n <;> simp [posF, e]
theorem surF_len (many : Int) : ∀ (p : List Int) (k : Nat), (surF many p k).length ≤ p.length
  | [], _ => Nat.le_refl _
  | n :: ns, k => by
    have := surF_len many ns (k + 1)
    simp only [surF]
    split <;> simp only [List.length_cons] <;> omega
theorem posF_len : ∀ (p : List Int) (k : Nat), (posF p k).length ≤ p.length
  | [], _ => Nat.le_refl _
  | n :: ns, k => by
    have := posF_len ns (k + 1)
    simp only [posF]
    split <;> simp only [List.length_cons] <;> omega
theorem cntF_len : ∀ (L : List (List Int)) (p : List Int), (cntF L p).length = p.length
  | [], _ => rfl
  | l :: ls, p => by rw [cntF, cntF_len ls, cnt1F_len]
theorem mix_len (L : List (List Int)) : (mixS L).length ≤ 4 ∧ (mixP L).length ≤ 4 := by
  have h := cntF_len L z4
  have h1 := surF_len (L.length : Nat) (cntF L z4) 0
  have h2 := posF_len (cntF L z4) 0
  unfold mixS mixP
  simp only [z4, List.length_cons, List.length_nil] at *
  omega
/-- Lists of cases. -/
structure LL (L : List (List Int)) : Prop where
  s : ∀ l ∈ L, l.Pairwise (· < ·)
  b : ∀ l ∈ L, ∀ n ∈ l, 0 ≤ n ∧ n < 4
theorem sur_iff {L : List (List Int)} (h : LL L) (x : Int) : x ∈ mixS L ↔ 0 ≤ x ∧ x < 4 ∧ ∀ l ∈ L, x ∈ l := by
  unfold mixS
  rw [surF_mem]
  constructor
  · rintro ⟨j, h1, h2⟩
    obtain ⟨c1, c2⟩ := cntF_at x L z4 h.b (by omega)
    have hj := (List.getElem?_eq_some_iff.1 h2).1
    rw [c2] at hj
    have e : gI (cntF L z4) x = (L.length : Nat) := by
      unfold gI; rw [List.getD_eq_getElem?_getD, h1]; simp [h2]
    rw [gI_z4, e] at c1
    exact ⟨by omega, by simp [z4] at hj; omega, sumC_all x L h.s (by omega)⟩
  · rintro ⟨x0, x4, hx⟩
    obtain ⟨c1, c2⟩ := cntF_at x L z4 h.b x0
    have hs : sumC x L = L.length := by
      have h1 := sumC_le x L h.s
      have h2 : (L.length : Int) ≤ sumC x L := by
        clear c1 c2 h h1
        induction L with
        | nil => simp [sumC]
        | cons l ls ih =>
          have := cntP_in x l (hx l (by simp))
          have := ih fun y hy => hx y (by simp [hy])
          simp only [sumC, List.length_cons]; omega
      omega
    refine ⟨x.toNat, by omega, ?_⟩
    have := gI_get (p := cntF L z4) x0 (by rw [c2]; simp [z4]; omega)
    rw [this, c1, gI_z4, hs]; simp
theorem pos_iff {L : List (List Int)} (h : LL L) (x : Int) : x ∈ mixP L ↔ ∃ l ∈ L, x ∈ l := by
  unfold mixP
  rw [posF_mem]
  constructor
  · rintro ⟨j, n, h1, h2, h3⟩
    obtain ⟨c1, c2⟩ := cntF_at x L z4 h.b (by omega)
    have e : gI (cntF L z4) x = n := by
      unfold gI; rw [List.getD_eq_getElem?_getD, h1]; simp [h2]
    rw [gI_z4, e] at c1
    exact sumC_ex x L (by omega)
  · rintro ⟨l, h1, h2⟩
    have hb := h.b l h1 x h2
    obtain ⟨c1, c2⟩ := cntF_at x L z4 h.b hb.1
    have := gI_get (p := cntF L z4) hb.1 (by rw [c2]; simp [z4]; omega)
    rw [gI_z4] at c1
    have := sumC_in x L l h1 h2
    exact ⟨x.toNat, _, by omega, by assumption, by omega⟩
/-! What StencilOwners makes. -/
theorem idxT_snoc : ∀ (i : Nat) (bs : List Bool) (b : Bool), idxT i (bs ++ [b]) = idxT i bs ++ if b then [((i + bs.length : Nat) : Int)] else []
  | i, [], b => by cases b <;> simp [idxT]
  | i, a :: bs, b => by
    have ih := idxT_snoc (i + 1) bs b
    have e : i + 1 + bs.length = i + (a :: bs).length := by simp; omega
    rw [e] at ih
    cases a <;> simp only [List.cons_append, idxT, if_true, if_false, Bool.false_eq_true, ih]
theorem sumS_snoc : ∀ (W : List (List Int)) (bs : List Bool) (x : List Int) (b : Bool) (all : List Int), bs.length = W.length → sumS (W ++ [x]) (bs ++ [b]) all = if b then addI x 0 (sumS W bs all) else sumS W bs all
  | [], [], x, b, all, _ => by cases b <;> simp [sumS]
  | [], _ :: _, _, _, _, h => by simp at h
  | _ :: _, [], _, _, _, h => by simp at h
  | y :: W, a :: bs, x, b, all, h => by
    have ih := fun all => sumS_snoc W bs x b all (by simpa using h)
    cases a <;> simp [sumS, ih]
theorem addI_snoc : ∀ (x : List Int) (n : Int) (k : Nat) (m : List Int), addI (x ++ [n]) k m = (addI x k m).set (k + x.length) (gI (addI x k m) ((k + x.length : Nat) : Int) + n)
  | [], n, k, m => by simp [addI]
  | a :: x, n, k, m => by
    have ih := addI_snoc x n (k + 1) (m.set k (gI m (k : Nat) + a))
    rw [List.cons_append, addI, addI, ih]
    simp only [List.length_cons]
    rw [show k + 1 + x.length = k + (x.length + 1) by omega]
theorem addI_le {b : Int} (x : List Int) (j : Nat) (m : List Int) (hl : x.length ≤ m.length) (hx : ∀ n ∈ x, 0 ≤ n ∧ n ≤ 5) (hm : ∀ n ∈ m, 0 ≤ n ∧ n ≤ b) (b0 : 0 ≤ b) : ∀ n ∈ addI (x.take j) 0 m, 0 ≤ n ∧ n ≤ b + 5 :=
  addI_bd (x.take j) 0 m (by simp; omega) (fun n hn => hx n (List.mem_of_mem_take hn)) (fun i hi => by rw [if_neg (Nat.not_lt_zero i)]; exact hm _ (gI_mem hi)) b0
theorem addI_after : ∀ (x : List Int) (k : Nat) (m : List Int) (i : Nat), k + x.length ≤ i → i < m.length → gI (addI x k m) (i : Nat) = gI m (i : Nat)
  | [], _, _, _, _, _ => rfl
  | a :: x, k, m, i, h, hi => by
    simp only [List.length_cons] at h
    have ih := addI_after x (k + 1) (m.set k (gI m (k : Nat) + a)) i (by omega) (by simpa using hi)
    rw [addI, ih]
    have := gI_set (p := m) (i := (i : Int)) (j := (k : Int)) (v := gI m (k : Nat) + a) (by omega) (by omega) (by omega)
    rw [if_neg (by omega)] at this
    simpa using this
/-- What is taken off a count. -/
structure Off (N : Nat) (all hp : List Int) (lost : Int) (k : Nat) : Prop where
  la : all.length = N
  lh : hp.length = N
  h0 : ∀ i : Nat, i < N → 0 ≤ gI hp (i : Nat) ∧ gI hp (i : Nat) ≤ gI all (i : Nat)
  sm : all.sum - hp.sum = lost
  l0 : 0 ≤ lost ∧ lost ≤ 12
theorem sum_set : ∀ (l : List Int) (i : Nat) (v : Int), i < l.length → (l.set i v).sum = l.sum - gI l (i : Nat) + v
  | [], _, _, h => by simp at h
  | x :: l, 0, v, _ => by simp [gI]; omega
  | x :: l, i + 1, v, h => by
    have := sum_set l i v (by simpa using h)
    have e : gI (x :: l) ((i + 1 : Nat) : Int) = gI l (i : Nat) := by simp [gI]
    rw [e]
    simp only [List.set_cons_succ, List.sum_cons, this]; omega
theorem off_step {N : Nat} {all hp : List Int} {lost : Int} {k : Nat} (h : Off N all hp lost k) (hk : k < N) {n : Int} (n0 : 0 ≤ n) (h1 : n ≤ gI hp (k : Nat)) (h2 : lost + n ≤ 12) : Off N all (hp.set k (gI hp (k : Nat) - n)) (lost + n) (k + 1) := by
  obtain ⟨la, lh, h0, sm, l0⟩ := h
  refine ⟨la, by simpa using lh, fun i hi => ?_, ?_, by omega⟩
  · have := gI_set (p := hp) (i := (i : Int)) (j := (k : Int)) (v := gI hp (k : Nat) - n) (by omega) (by omega) (by omega)
    rw [Int.toNat_natCast] at this
    rw [this]
    have := h0 i hi
    split
    · rename_i e
      have : i = k := by omega
      subst this; omega
    · exact this
  · rw [sum_set hp k _ (by omega)]; omega
theorem off_next {N : Nat} {all hp : List Int} {lost : Int} {k : Nat} (h : Off N all hp lost k) : Off N all hp lost (k + 1) := ⟨h.la, h.lh, h.h0, h.sm, h.l0⟩
theorem off_start {N : Nat} {all : List Int} (la : all.length = N) (h : ∀ n ∈ all, 0 ≤ n) : Off N all all 0 0 :=
  ⟨la, la, fun i hi => ⟨h _ (gI_mem (by omega)), Int.le_refl _⟩, by omega, by omega⟩
/-- What a list says of the own one. -/
def sameF (ow r : List Int) (k : Nat) : Bool := decide (r.length = ow.length) && (List.range k).all fun j => decide (gI r (j : Nat) = gI ow (min (j : Int) ((ow.length : Nat) - 1)))
theorem same_self (ow : List Int) : sameF ow ow ow.length = true := by
  simp only [sameF, decide_true, Bool.true_and, List.all_eq_true, decide_eq_true_eq, List.mem_range]
  intro j hj
  congr 1
  omega
theorem sameF_succ (ow r : List Int) (k : Nat) : sameF ow r (k + 1) = (sameF ow r k && decide (gI r (k : Nat) = gI ow (min (k : Int) ((ow.length : Nat) - 1)))) := by
  simp [sameF, List.range_succ, Bool.and_assoc]
section
variable {N : Int} {H A : List (Int × Int)} (eA : errA N H A = 0) {W : List (List Int)} {hp : List Int} {lost : Int} {bs : List Bool}
variable (W4 : W.length ≤ 4) (hW : ∀ w ∈ W, CountOk N w) (hb : bs.length = W.length)
include W4
theorem own_LL : LL (whoseR N W hp lost) :=
  ⟨fun l hl => loopG_sorted _ _ _ _ _ _ .nil (by simp) l hl, fun l hl n hn => by
    have := (loopG_mem hp lost W [] _ 0 (by simp) (by simp) l hl).1 n hn
    omega⟩
include eA hW in
theorem own_err (hl : (hp.length : Nat) = N) (h20 : ∀ n ∈ hp, 0 ≤ n ∧ n ≤ 20) (l0 : 0 ≤ lost) (l1 : lost ≤ 20) : errH N H A W hp lost = 0 := by
  unfold errH
  have h1 : (W.any fun l => !isCount N l 5) = false := by
    rw [List.any_eq_false]
    intro l hl
    simp [isCount_of (hW l hl)]
  have h2 : isCount N hp 20 = true := by
    simp only [isCount, Bool.and_eq_true, decide_eq_true_eq, List.all_eq_true, inB_iff]
    exact ⟨hl, h20⟩
  have h3 : inB 0 20 lost = true := inB_iff.2 ⟨l0, l1⟩
  rw [if_neg (by simpa using eA), if_neg (by omega), if_neg (by simp [h1, h2]), if_neg (by simp [h3])]
omit W4 in
include hb in
theorem own_in (hne : idxT 0 bs ≠ []) (ho : Off N.toNat (sumS W bs (List.replicate N.toNat 0)) hp lost N.toNat) : idxT 0 bs ∈ whoseR N W hp lost := by
  have := loopG_in hp lost W bs [] (List.replicate N.toNat 0) 0 hb hne (isOf_of hp 0 _ _ 0 lost rfl (by rw [List.drop_zero, ho.la, ho.lh]) (fun j hj => by
    rw [List.drop_zero]; exact (ho.h0 j (by rw [← ho.lh]; exact hj)).2) (by rw [List.drop_zero]; have := ho.sm; omega))
  simpa [whoseR] using this
end
end S07

