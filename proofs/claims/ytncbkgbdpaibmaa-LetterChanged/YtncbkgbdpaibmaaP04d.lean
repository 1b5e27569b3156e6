/- A part of the proof: P04d, P04n. -/
import Derived.Test.YtncbkgbdpaibmaaP04b
import Derived.Test.YtncbkgbdpaibmaaG04z
set_option linter.unusedVariables false
set_option linter.unusedSimpArgs false
namespace S04
open Go Abs
def idxT : Nat → List Bool → List Int
  | _, [] => []
  | i, b :: bs => if b then (i : Int) :: idxT (i + 1) bs else idxT (i + 1) bs
def maskF (s k : Nat) : List Bool := (List.range k).map (fun i => Nat.testBit s i)
/-! Lists of numbers, by length and order. -/
def sl (a b : List Int) : Prop := a.length < b.length ∨ (a.length = b.length ∧ cmpL a b ≤ 0)
theorem sl_refl (a : List Int) : sl a a := .inr ⟨rfl, by rw [cmpL_refl]; exact Int.le_refl _⟩
def SM (S : List Int → Prop) (o : Option (List Int)) : Prop := match o with | none => ∀ x, ¬ S x | some l => S l ∧ ∀ x, S x → sl l x
theorem SM.congr {S T : List Int → Prop} {o : Option (List Int)} (e : ∀ x, S x ↔ T x) (h : SM S o) : SM T o := by
  cases o with
  | none => exact fun x hx => h x ((e x).2 hx)
  | some l => exact ⟨(e l).1 h.1, fun x hx => h.2 x ((e x).2 hx)⟩
/-! All sets of numbers. -/
theorem mem_setsF : ∀ (m : Nat) (l x : List Int), x ∈ setsF m l ↔ x.Sublist l ∧ x.length = m
  | 0, l, x => by
    simp only [setsF, List.mem_singleton]
    constructor
    · rintro rfl; exact ⟨List.nil_sublist _, rfl⟩
    · rintro ⟨_, h⟩; exact List.eq_nil_of_length_eq_zero h
  | m + 1, [], x => by
    simp only [setsF, List.not_mem_nil, false_iff, not_and]
    intro h e
    have := List.sublist_nil.1 h
    subst this
    simp at e
  | m + 1, a :: l, x => by
    simp only [setsF, List.mem_append, List.mem_map, mem_setsF m l, mem_setsF (m + 1) l]
    constructor
    · rintro (⟨y, ⟨h1, h2⟩, rfl⟩ | ⟨h1, h2⟩)
      · exact ⟨h1.cons_cons a, by simp [h2]⟩
      · exact ⟨h1.cons a, h2⟩
    · rintro ⟨h1, h2⟩
      cases h1 with
      | cons _ h => exact .inr ⟨h, h2⟩
      | cons_cons _ h => exact .inl ⟨_, ⟨h, by simpa using h2⟩, rfl⟩
theorem setsF_pw : ∀ (m : Nat) (l : List Int), l.Pairwise (· < ·) → (setsF m l).Pairwise fun a b => cmpL a b ≤ 0
  | 0, l, _ => by simp [setsF]
  | m + 1, [], _ => by simp [setsF]
  | m + 1, a :: l, h => by
    rw [List.pairwise_cons] at h
    rw [setsF, List.pairwise_append]
    refine ⟨?_, setsF_pw (m + 1) l h.2, ?_⟩
    · rw [List.pairwise_map]
      refine (setsF_pw m l h.2).imp fun {x y} hxy => ?_
      simp only [cmpL, cmpI_eq, ne_eq, not_true, if_false]
      exact hxy
    · intro x hx y hy
      obtain ⟨x', hx', rfl⟩ := List.mem_map.1 hx
      obtain ⟨h1, h2⟩ := (mem_setsF (m + 1) l y).1 hy
      cases y with
      | nil => simp at h2
      | cons b y =>
        have hb : b ∈ l := h1.subset (by simp)
        simp only [cmpL, cmpI_lt (h.1 b hb)]
        simp
theorem numF_pw (n : Nat) : (numF n).Pairwise (· < ·) := by
  unfold numF
  rw [List.pairwise_map]
  refine List.pairwise_lt_range.imp fun {a b} h => ?_
  exact_mod_cast h
theorem mem_allF {n : Nat} : ∀ (k m : Nat) (x : List Int), x ∈ allF n m k ↔ x.Sublist (numF n) ∧ m ≤ x.length ∧ x.length < m + k
  | 0, m, x => by simp only [allF, List.not_mem_nil, false_iff]; omega
  | k + 1, m, x => by
    simp only [allF, List.mem_append, mem_setsF, mem_allF k (m + 1)]
    constructor
    · rintro (⟨h1, h2⟩ | ⟨h1, h2, h3⟩)
      · exact ⟨h1, by omega, by omega⟩
      · exact ⟨h1, by omega, by omega⟩
    · rintro ⟨h1, h2, h3⟩
      by_cases e : x.length = m
      · exact .inl ⟨h1, e⟩
      · exact .inr ⟨h1, by omega, by omega⟩
theorem allF_pw {n : Nat} : ∀ (k m : Nat), (allF n m k).Pairwise sl
  | 0, m => by simp [allF]
  | k + 1, m => by
    rw [allF, List.pairwise_append]
    refine ⟨?_, allF_pw k (m + 1), ?_⟩
    · refine List.Pairwise.imp_of_mem ?_ (setsF_pw m (numF n) (numF_pw n))
      intro a b ha hb h
      exact .inr ⟨by rw [((mem_setsF m _ a).1 ha).2, ((mem_setsF m _ b).1 hb).2], h⟩
    · intro x hx y hy
      have h1 := ((mem_setsF m _ x).1 hx).2
      have h2 := ((mem_allF k (m + 1) y).1 hy).2.1
      exact .inl (by omega)
theorem find_pw {α : Type} {R : α → α → Prop} {p : α → Bool} (hr : ∀ a, R a a) : ∀ {l : List α} {x : α}, l.Pairwise R → l.find? p = some x → ∀ y ∈ l, p y = true → R x y
  | [], x, _, h, y, hy, _ => by simp at hy
  | a :: l, x, hp, h, y, hy, py => by
    rw [List.pairwise_cons] at hp
    rw [List.find?_cons] at h
    cases e : p a with
    | true =>
      rw [e] at h
      simp only [Option.some.injEq] at h
      subst h
      rcases List.mem_cons.1 hy with rfl | hy
      · exact hr _
      · exact hp.1 y hy
    | false =>
      rw [e] at h
      rcases List.mem_cons.1 hy with rfl | hy
      · rw [e] at py; simp at py
      · exact find_pw hr hp.2 h y hy py
theorem fewF_SM (n : Nat) (p : List Int → Bool) : SM (fun x => x.Sublist (numF n) ∧ p x = true) (fewF n p) := by
  unfold fewF
  cases h : (allF n 0 (n + 1)).find? p with
  | none =>
    rintro x ⟨h1, h2⟩
    have := List.find?_eq_none.1 h x ((mem_allF (n + 1) 0 x).2 ⟨h1, by omega, by have := h1.length_le; rw [numF_len] at this; omega⟩)
    exact this h2
  | some l =>
    have hm := (mem_allF (n + 1) 0 l).1 (List.mem_of_find?_eq_some h)
    refine ⟨⟨hm.1, by have := List.find?_some h; exact this⟩, ?_⟩
    rintro x ⟨h1, h2⟩
    exact find_pw sl_refl (allF_pw _ _) h x ((mem_allF (n + 1) 0 x).2 ⟨h1, by omega, by have := h1.length_le; rw [numF_len] at this; omega⟩) h2
/-! Sets by bits. -/
def setL (n s : Nat) : List Int := idxT 0 (maskF s n)
def numFrom (i n : Nat) : List Int := (List.range' i n).map fun (k : Nat) => (k : Int)
def shB : Option (List Int) → List Int → Bool
  | none, _ => true
  | some x, l => decide (l.length < x.length ∨ l.length = x.length ∧ cmpL l x < 0)
def refS (n : Nat) (p : List Int → Bool) : Nat → Nat → Option (List Int) → Option (List Int)
  | 0, _, b => b
  | k + 1, s, b => refS n p k (s + 1) (if shB b (setL n s) && p (setL n s) then some (setL n s) else b)
/-! What is left of a list. -/
def falB : List Int → List Bool → List Int
  | l :: ls, b :: bs => if b then falB ls bs else l :: falB ls bs
  | _, _ => []
end S04

namespace S04
open Go Abs
/-! Gaps that must be wrong. -/
theorem woF_snoc (x : List Int) (y : Int) : ∀ (l : List Int) (k : Nat), woF x (l ++ [y]) k = woF x l k ++ (if x.contains ((k + l.length : Nat) : Int) then [] else [y])
  | [], k => by simp [woF]
  | z :: l, k => by
    rw [List.cons_append, woF, woF, woF_snoc x y l (k + 1), List.length_cons, show k + 1 + l.length = k + (l.length + 1) by omega]
    by_cases h : x.contains (k : Int) = true
    · rw [if_pos h, if_pos h]
    · rw [if_neg h, if_neg h]; simp
theorem woF_ext {x x' : List Int} : ∀ (l l' : List Int) (k : Nat), l.length = l'.length → (∀ i : Nat, i < l.length → x.contains ((k + i : Nat) : Int) = x'.contains ((k + i : Nat) : Int) ∧ (x.contains ((k + i : Nat) : Int) = false → l[i]? = l'[i]?)) → woF x l k = woF x' l' k
  | [], [], k, _, _ => by simp [woF]
  | [], _ :: _, k, h, _ => by simp at h
  | _ :: _, [], k, h, _ => by simp at h
  | a :: l, b :: l', k, hl, h => by
    have h0 := h 0 (by simp)
    rw [Nat.add_zero] at h0
    have ih := woF_ext l l' (k + 1) (by simpa using hl) fun i hi => by
      have := h (i + 1) (by simp; omega)
      rw [show k + (i + 1) = k + 1 + i by omega] at this
      simpa using this
    rw [woF, woF, h0.1, ih]
    cases e : x'.contains (k : Int)
    · have := h0.2 (by rw [h0.1]; exact e)
      simp at this
      simp [this]
    · simp
theorem woF_none {x : List Int} : ∀ (l : List Int) (k : Nat), (∀ i : Nat, i < l.length → x.contains ((k + i : Nat) : Int) = true) → woF x l k = []
  | [], k, _ => by simp [woF]
  | a :: l, k, h => by
    have h0 := h 0 (by simp)
    rw [Nat.add_zero] at h0
    rw [woF, if_pos h0]
    exact woF_none l (k + 1) fun i hi => by
      have := h (i + 1) (by simp; omega)
      rwa [show k + (i + 1) = k + 1 + i by omega] at this
theorem numF_mem {n : Nat} {x : Int} : x ∈ numF n ↔ 0 ≤ x ∧ x < n := by
  unfold numF
  rw [List.mem_map]
  constructor
  · rintro ⟨i, hi, rfl⟩
    have := List.mem_range.1 hi
    omega
  · intro h
    exact ⟨x.toNat, List.mem_range.2 (by omega), by omega⟩
theorem filter_few : ∀ (l m : List Int), l.Pairwise (· < ·) → (l.filter (m.contains ·)).length ≤ m.length
  | [], m, _ => by simp
  | a :: l, m, h => by
    rw [List.pairwise_cons] at h
    rw [List.filter_cons]
    by_cases hm : m.contains a = true
    · rw [if_pos hm]
      have e : l.filter (m.contains ·) = l.filter ((m.erase a).contains ·) := by
        refine List.filter_congr fun y hy => ?_
        have hya : y ≠ a := by have := h.1 y hy; omega
        rw [Bool.eq_iff_iff]
        simp only [List.contains_eq_mem, decide_eq_true_eq]
        rw [List.mem_erase_of_ne hya]
      have := filter_few l (m.erase a) h.2
      have hma : a ∈ m := by simpa using hm
      rw [List.length_erase_of_mem hma] at this
      have := List.length_pos_of_mem hma
      rw [e, List.length_cons]; omega
    · rw [if_neg hm]
      exact filter_few l m h.2
structure WgI (lk : List Int) (most : Int) (x : List Int) : Prop where
  s : x.Sublist (numF lk.length)
  p : sprF (woF x lk 0) ≤ most
  m : ∀ y : List Int, y.Sublist (numF lk.length) → sprF (woF y lk 0) ≤ most → x.length ≤ y.length
theorem wg_is {c : Cs} {w g : List Int} {most : Int} (m0 : 0 ≤ most) : WgI (c.lk w g) most (wgL (c.wg w g most)) := by
  have h := fewF_SM (c.lk w g).length fun out => decide (sprF (woF out (c.lk w g) 0) ≤ most)
  unfold Cs.wg
  generalize hf : fewF (c.lk w g).length (fun out => decide (sprF (woF out (c.lk w g) 0) ≤ most)) = o at *
  cases o with
  | none =>
    refine absurd ⟨List.Sublist.refl _, ?_⟩ (h (numF (c.lk w g).length))
    rw [woF_none (c.lk w g) 0 fun i hi => by
      have : ((0 + i : Nat) : Int) ∈ numF (c.lk w g).length := numF_mem.2 (by omega)
      simpa using this]
    have e : sprF [] = 0 := rfl
    simpa [e] using m0
  | some x =>
    obtain ⟨⟨h1, h2⟩, h3⟩ := h
    refine ⟨h1, by simpa [wgL] using h2, fun y hy hp => ?_⟩
    rcases h3 y ⟨hy, by simpa using hp⟩ with h | h
    · simp only [wgL]; omega
    · simp only [wgL]; omega
theorem lks_at' : ∀ (ms g : List Int) (i : Nat), g.length = ms.length → ∀ x, g[i]? = some x → (lks ms g)[i]? = some (x + gI ms (i : Nat))
  | m :: ms, y :: g, 0, _, x, h => by simp at h; subst h; simp [lks, gI]
  | m :: ms, y :: g, i + 1, hl, x, h => by
    have := lks_at' ms g i (by simpa using hl) x (by simpa using h)
    rw [lks, List.getElem?_cons_succ, this]
    simp only [gI, Int.toNat_natCast, List.getD_cons_succ]
  | _, [], i, _, x, h => by simp at h
theorem lks_same {ms g g' : List Int} (h1 : g.length = ms.length) (h2 : g'.length = ms.length) {i : Nat} (h : g[i]? = g'[i]?) : (lks ms g)[i]? = (lks ms g')[i]? := by
  have l1 := lks_len ms g h1
  have l2 := lks_len ms g' h2
  by_cases hi : i < ms.length
  · obtain ⟨x, hx⟩ : ∃ x, g[i]? = some x := ⟨_, List.getElem?_eq_getElem (by omega)⟩
    rw [lks_at' ms g i h1 x hx, lks_at' ms g' i h2 x (by rw [← h]; exact hx)]
  · rw [List.getElem?_eq_none (by omega), List.getElem?_eq_none (by omega)]
theorem wg_few {ms g b ch x : List Int} {most : Int} (hg : g.length = ms.length) (hb : b.length = ms.length) (hs : sprF (lks ms g) ≤ most) (m0 : 0 ≤ most) (hc : ∀ i : Nat, (i : Int) ∉ ch → b[i]? = g[i]?) (hx : WgI (lks ms b) most x) : x.length ≤ ch.length := by
  have lb := lks_len ms b hb
  have lg := lks_len ms g hg
  refine Nat.le_trans (hx.m ((numF (lks ms b).length).filter (ch.contains ·)) List.filter_sublist ?_) (filter_few _ _ (numF_pw _))
  rw [woF_ext (x' := (numF (lks ms b).length).filter (ch.contains ·)) (lks ms b) (lks ms g) 0 (by omega)]
  · have hm := (woF_mem (pl := (numF (lks ms b).length).filter (ch.contains ·)) (lks ms g) 0).1
    refine Int.le_trans ?_ hs
    exact spr_is _ (spr_nn _) fun p hp q hq => spr_ge (hm p hp) (hm q hq)
  · intro i hi
    refine ⟨rfl, fun h => ?_⟩
    rw [Nat.zero_add] at h
    refine lks_same hb hg (hc i fun hi2 => ?_)
    have : (i : Int) ∈ (numF (lks ms b).length).filter (ch.contains ·) := List.mem_filter.2 ⟨numF_mem.2 (by omega), by simpa using hi2⟩
    rw [List.contains_eq_mem, decide_eq_false_iff_not] at h
    exact h this
theorem maxL_snoc (l : List Int) (y : Int) : maxL (l ++ [y]) = if l = [] then y else max (maxL l) y := by
  cases l with
  | nil => rfl
  | cons x xs => rw [if_neg (by simp), List.cons_append]; simp only [maxL, List.foldl_append, List.foldl_cons, List.foldl_nil]
theorem minL_snoc (l : List Int) (y : Int) : minL (l ++ [y]) = if l = [] then y else min (minL l) y := by
  cases l with
  | nil => rfl
  | cons x xs => rw [if_neg (by simp), List.cons_append]; simp only [minL, List.foldl_append, List.foldl_cons, List.foldl_nil]
theorem wg_one {lk x : List Int} {most : Int} (hx : WgI lk most x) {s : Nat} (hs : s < x.length) : most < sprF (woF (x.eraseIdx s) lk 0) := by
  refine Classical.byContradiction fun h => ?_
  have h1 := hx.m (x.eraseIdx s) ((List.eraseIdx_sublist x s).trans hx.s) (by omega)
  rw [List.length_eraseIdx_of_lt hs] at h1
  omega
theorem erase_contains {x : List Int} (hp : x.Pairwise (· < ·)) {s : Nat} {y : Int} (hs : x[s]? = some y) (z : Int) : (x.eraseIdx s).contains z = (x.contains z && decide (y ≠ z)) := by
  rw [Bool.eq_iff_iff]
  simp only [List.contains_eq_mem, Bool.and_eq_true, decide_eq_true_eq]
  rw [List.mem_eraseIdx_iff_getElem?]
  have key : ∀ i : Nat, x[i]? = some y → i = s := by
    intro i hi
    obtain ⟨h1, e1⟩ := List.getElem?_eq_some_iff.1 hs
    obtain ⟨h2, e2⟩ := List.getElem?_eq_some_iff.1 hi
    rcases Nat.lt_trichotomy i s with h | h | h
    · have := List.pairwise_iff_getElem.1 hp i s h2 h1 h; omega
    · exact h
    · have := List.pairwise_iff_getElem.1 hp s i h1 h2 h; omega
  constructor
  · rintro ⟨i, h1, h2⟩
    exact ⟨List.mem_of_getElem? h2, fun e => h1 (key i (by rw [h2, e]))⟩
  · rintro ⟨h1, h2⟩
    obtain ⟨i, hi⟩ := List.mem_iff_getElem?.1 h1
    refine ⟨i, fun e => ?_, hi⟩
    subst e
    rw [hs] at hi
    simp at hi
    exact h2 hi
end S04

