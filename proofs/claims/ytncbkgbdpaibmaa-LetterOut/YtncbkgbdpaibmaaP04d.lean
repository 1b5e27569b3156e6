/- A part of the proof: P04d, P04n, P04e. -/
import Derived.Test.YtncbkgbdpaibmaaP04b
import Derived.Test.YtncbkgbdpaibmaaG04z
import Derived.Test.YtncbkgbdpaibmaaH04h
set_option linter.unusedVariables false
set_option linter.unusedSimpArgs false
namespace S04
open Go Abs
def idxT : Nat → List Bool → List Int
  | _, [] => []
  | i, b :: bs => if b then (i : Int) :: idxT (i + 1) bs else idxT (i + 1) bs
def maskF (s k : Nat) : List Bool := (List.range k).map (fun i => Nat.testBit s i)
/-! Lists of numbers, by length and order. -/
def sl (a b : List Int) : Prop := a.length < b.length ∨ (a.length = b.length ∧ cmpL a b ≤ 0)
theorem sl_refl (a : List Int) : sl a a := .inr ⟨rfl, by rw [cmpL_refl]; exact Int.le_refl _⟩
def SM (S : List Int → Prop) (o : Option (List Int)) : Prop := match o with | none => ∀ x, ¬ S x | some l => S l ∧ ∀ x, S x → sl l x
theorem SM.congr {S T : List Int → Prop} {o : Option (List Int)} (e : ∀ x, S x ↔ T x) (h : SM S o) : SM T o := by
  cases o with
  | none => exact fun x hx => h x ((e x).2 hx)
  | some l => exact ⟨(e l).1 h.1, fun x hx => h.2 x ((e x).2 hx)⟩
/-! All sets of numbers. -/
theorem mem_setsF : ∀ (m : Nat) (l x : List Int), x ∈ setsF m l ↔ x.Sublist l ∧ x.length = m
  | 0, l, x => by
    simp only [setsF, List.mem_singleton]
    constructor
    · rintro rfl; exact ⟨List.nil_sublist _, rfl⟩
    · rintro ⟨_, h⟩; exact List.eq_nil_of_length_eq_zero h
  | m + 1, [], x => by
    simp only [setsF, List.not_mem_nil, false_iff, not_and]
    intro h e
    have := List.sublist_nil.1 h
    subst this
    simp at e
  | m + 1, a :: l, x => by
    simp only [setsF, List.mem_append, List.mem_map, mem_setsF m l, mem_setsF (m + 1) l]
    constructor
    · rintro (⟨y, ⟨h1, h2⟩, rfl⟩ | ⟨h1, h2⟩)
      · exact ⟨h1.cons_cons a, by simp [h2]⟩
      · exact ⟨h1.cons a, h2⟩
    · rintro ⟨h1, h2⟩
      cases h1 with
      | cons _ h => exact .inr ⟨h, h2⟩
      | cons_cons _ h => exact .inl ⟨_, ⟨h, by simpa using h2⟩, rfl⟩
theorem setsF_pw : ∀ (m : Nat) (l : List Int), l.Pairwise (· < ·) → (setsF m l).Pairwise fun a b => cmpL a b ≤ 0
  | 0, l, _ => by simp [setsF]
  | m + 1, [], _ => by simp [setsF]
  | m + 1, a :: l, h => by
    rw [List.pairwise_cons] at h
    rw [setsF, List.pairwise_append]
    refine ⟨?_, setsF_pw (m + 1) l h.2, ?_⟩
    · rw [List.pairwise_map]
      refine (setsF_pw m l h.2).imp fun {x y} hxy => ?_
      simp only [cmpL, cmpI_eq, ne_eq, not_true, if_false]
      exact hxy
    · intro x hx y hy
      obtain ⟨x', hx', rfl⟩ := List.mem_map.1 hx
      obtain ⟨h1, h2⟩ := (mem_setsF (m + 1) l y).1 hy
      cases y with
      | nil => simp at h2
      | cons b y =>
        have hb : b ∈ l := h1.subset (by simp)
        simp only [cmpL, cmpI_lt (h.1 b hb)]
        simp
theorem numF_pw (n : Nat) : (numF n).Pairwise (· < ·) := by
  unfold numF
  rw [List.pairwise_map]
  refine List.pairwise_lt_range.imp fun {a b} h => ?_
  exact_mod_cast h
theorem mem_allF {n : Nat} : ∀ (k m : Nat) (x : List Int), x ∈ allF n m k ↔ x.Sublist (numF n) ∧ m ≤ x.length ∧ x.length < m + k
  | 0, m, x => by simp only [allF, List.not_mem_nil, false_iff]; omega
  | k + 1, m, x => by
    simp only [allF, List.mem_append, mem_setsF, mem_allF k (m + 1)]
    constructor
    · rintro (⟨h1, h2⟩ | ⟨h1, h2, h3⟩)
      · exact ⟨h1, by omega, by omega⟩
      · exact ⟨h1, by omega, by omega⟩
    · rintro ⟨h1, h2, h3⟩
      by_cases e : x.length = m
      · exact .inl ⟨h1, e⟩
      · exact .inr ⟨h1, by omega, by omega⟩
theorem allF_pw {n : Nat} : ∀ (k m : Nat), (allF n m k).Pairwise sl
  | 0, m => by simp [allF]
  | k + 1, m => by
    rw [allF, List.pairwise_append]
    refine ⟨?_, allF_pw k (m + 1), ?_⟩
    · refine List.Pairwise.imp_of_mem ?_ (setsF_pw m (numF n) (numF_pw n))
      intro a b ha hb h
      exact .inr ⟨by rw [((mem_setsF m _ a).1 ha).2, ((mem_setsF m _ b).1 hb).2], h⟩
    · intro x hx y hy
      have h1 := ((mem_setsF m _ x).1 hx).2
      have h2 := ((mem_allF k (m + 1) y).1 hy).2.1
      exact .inl (by omega)
theorem find_pw {α : Type} {R : α → α → Prop} {p : α → Bool} (hr : ∀ a, R a a) : ∀ {l : List α} {x : α}, l.Pairwise R → l.find? p = some x → ∀ y ∈ l, p y = true → R x y
  | [], x, _, h, y, hy, _ => by simp at hy
  | a :: l, x, hp, h, y, hy, py => by
    rw [List.pairwise_cons] at hp
    rw [List.find?_cons] at h
    cases e : p a with
    | true =>
      rw [e] at h
      simp only [Option.some.injEq] at h
      subst h
      rcases List.mem_cons.1 hy with rfl | hy
      · exact hr _
      · exact hp.1 y hy
    | false =>
      rw [e] at h
      rcases List.mem_cons.1 hy with rfl | hy
      · rw [e] at py; simp at py
      · exact find_pw hr hp.2 h y hy py
theorem fewF_SM (n : Nat) (p : List Int → Bool) : SM (fun x => x.Sublist (numF n) ∧ p x = true) (fewF n p) := by
  unfold fewF
  cases h : (allF n 0 (n + 1)).find? p with
  | none =>
    rintro x ⟨h1, h2⟩
    have := List.find?_eq_none.1 h x ((mem_allF (n + 1) 0 x).2 ⟨h1, by omega, by have := h1.length_le; rw [numF_len] at this; omega⟩)
    exact this h2
  | some l =>
    have hm := (mem_allF (n + 1) 0 l).1 (List.mem_of_find?_eq_some h)
    refine ⟨⟨hm.1, by have := List.find?_some h; exact this⟩, ?_⟩
    rintro x ⟨h1, h2⟩
    exact find_pw sl_refl (allF_pw _ _) h x ((mem_allF (n + 1) 0 x).2 ⟨h1, by omega, by have := h1.length_le; rw [numF_len] at this; omega⟩) h2
/-! Sets by bits. -/
def setL (n s : Nat) : List Int := idxT 0 (maskF s n)
def numFrom (i n : Nat) : List Int := (List.range' i n).map fun (k : Nat) => (k : Int)
def shB : Option (List Int) → List Int → Bool
  | none, _ => true
  | some x, l => decide (l.length < x.length ∨ l.length = x.length ∧ cmpL l x < 0)
def refS (n : Nat) (p : List Int → Bool) : Nat → Nat → Option (List Int) → Option (List Int)
  | 0, _, b => b
  | k + 1, s, b => refS n p k (s + 1) (if shB b (setL n s) && p (setL n s) then some (setL n s) else b)
/-! What is left of a list. -/
def falB : List Int → List Bool → List Int
  | l :: ls, b :: bs => if b then falB ls bs else l :: falB ls bs
  | _, _ => []
end S04

namespace S04
open Go Abs
/-! Gaps that must be wrong. -/
theorem woF_snoc (x : List Int) (y : Int) : ∀ (l : List Int) (k : Nat), woF x (l ++ [y]) k = woF x l k ++ (if x.contains ((k + l.length : Nat) : Int) then [] else [y])
  | [], k => by simp [woF]
  | z :: l, k => by
    rw [List.cons_append, woF, woF, woF_snoc x y l (k + 1), List.length_cons, show k + 1 + l.length = k + (l.length + 1) by omega]
    by_cases h : x.contains (k : Int) = true
    · rw [if_pos h, if_pos h]
    · rw [if_neg h, if_neg h]; simp
theorem woF_none {x : List Int} : ∀ (l : List Int) (k : Nat), (∀ i : Nat, i < l.length → x.contains ((k + i : Nat) : Int) = true) → woF x l k = []
  | [], k, _ => by simp [woF]
  | a :: l, k, h => by
    have h0 := h 0 (by simp)
    rw [Nat.add_zero] at h0
    rw [woF, if_pos h0]
    exact woF_none l (k + 1) fun i hi => by
      have := h (i + 1) (by simp; omega)
      rwa [show k + (i + 1) = k + 1 + i by omega] at this
theorem numF_mem {n : Nat} {x : Int} : x ∈ numF n ↔ 0 ≤ x ∧ x < n := by
  unfold numF
  rw [List.mem_map]
  constructor
  · rintro ⟨i, hi, rfl⟩
    have := List.mem_range.1 hi
    omega
  · intro h
    exact ⟨x.toNat, List.mem_range.2 (by omega), by omega⟩
theorem filter_few : ∀ (l m : List Int), l.Pairwise (· < ·) → (l.filter (m.contains ·)).length ≤ m.length
  | [], m, _ => by simp
  | a :: l, m, h => by
    rw [List.pairwise_cons] at h
    rw [List.filter_cons]
    by_cases hm : m.contains a = true
    · rw [if_pos hm]
      have e : l.filter (m.contains ·) = l.filter ((m.erase a).contains ·) := by
        refine List.filter_congr fun y hy => ?_
        have hya : y ≠ a := by have := h.1 y hy; omega
        rw [Bool.eq_iff_iff]
        simp only [List.contains_eq_mem, decide_eq_true_eq]
        rw [List.mem_erase_of_ne hya]
      have := filter_few l (m.erase a) h.2
      have hma : a ∈ m := by simpa using hm
      rw [List.length_erase_of_mem hma] at this
      have := List.length_pos_of_mem hma
      rw [e, List.length_cons]; omega
    · rw [if_neg hm]
      exact filter_few l m h.2
structure WgI (lk : List Int) (most : Int) (x : List Int) : Prop where
  s : x.Sublist (numF lk.length)
  p : sprF (woF x lk 0) ≤ most
  m : ∀ y : List Int, y.Sublist (numF lk.length) → sprF (woF y lk 0) ≤ most → x.length ≤ y.length
theorem erase_contains {x : List Int} (hp : x.Pairwise (· < ·)) {s : Nat} {y : Int} (hs : x[s]? = some y) (z : Int) : (x.eraseIdx s).contains z = (x.contains z && decide (y ≠ z)) := by
  rw [Bool.eq_iff_iff]
  simp only [List.contains_eq_mem, Bool.and_eq_true, decide_eq_true_eq]
  rw [List.mem_eraseIdx_iff_getElem?]
  have key : ∀ i : Nat, x[i]? = some y → i = s := by
    intro i hi
    obtain ⟨h1, e1⟩ := List.getElem?_eq_some_iff.1 hs
    obtain ⟨h2, e2⟩ := List.getElem?_eq_some_iff.1 hi
    rcases Nat.lt_trichotomy i s with h | h | h
    · have := List.pairwise_iff_getElem.1 hp i s h2 h1 h; omega
    · exact h
    · have := List.pairwise_iff_getElem.1 hp s i h1 h2 h; omega
  constructor
  · rintro ⟨i, h1, h2⟩
    exact ⟨List.mem_of_getElem? h2, fun e => h1 (key i (by rw [h2, e]))⟩
  · rintro ⟨h1, h2⟩
    obtain ⟨i, hi⟩ := List.mem_iff_getElem?.1 h1
    refine ⟨i, fun e => ?_, hi⟩
    subst e
    rw [hs] at hi
    simp at hi
    exact h2 hi
end S04

namespace S04
open Go Abs
/-! A letter without pairs, in a place of a word. -/
theorem ws_app (c : Cs) : ∀ a b : List Int, c.ws (a ++ b) = c.ws a + c.ws b
  | [], b => by simp [Cs.ws]
  | x :: a, b => by simp [Cs.ws, ws_app c a b, Int.add_assoc]
theorem clo_app (L : Int) : ∀ a b : List Int, clo L (a ++ b) = clo L a + clo L b
  | [], b => by simp [clo]
  | x :: a, b => by simp [clo, clo_app L a b, Int.add_assoc]
def Cs.wid (c : Cs) (z : Int) : Cs := ⟨c.W ++ [z], c.P, c.R, c.L, 0⟩
theorem wid_mo (c : Cs) (z a b : Int) : (c.wid z).mo a b = c.mo a b := rfl
theorem wid_loo (c : Cs) (z : Int) : ∀ w : List Int, (c.wid z).loo w = c.loo w
  | [] => rfl
  | [_] => rfl
  | a :: b :: w => by simp [Cs.loo, wid_mo, wid_loo c z (b :: w)]
theorem wid_rk {c : Cs} (ok : c.Ok) {z : Int} (z0 : 1 ≤ z) (z1 : z ≤ 30) : Rk (c.wid z) := by
  refine ⟨fun x hx => ?_, ok.r0, ok.r1, ok.l0, ok.l1, fun a b => ?_, fun a b => ?_⟩
  · simp only [Cs.wid, List.mem_append, List.mem_singleton] at hx
    rcases hx with hx | rfl
    · exact ok.w x hx
    · exact ⟨z0, z1⟩
  · rw [wid_mo]; exact ok.moR a b
  · rw [wid_mo]; exact ok.mo a b
theorem wid_ws {c : Cs} {z : Int} : ∀ w : List Int, (∀ x ∈ w, 0 ≤ x ∧ x < c.W.length) → (c.wid z).ws w = c.ws w
  | [], _ => rfl
  | x :: w, h => by
    have h1 := h x (by simp)
    have : gI (c.W ++ [z]) x = gI c.W x := by
      unfold gI
      have hx : x.toNat < c.W.length := by omega
      simp [List.getD, List.getElem?_append_left hx]
    simp only [Cs.ws, wid_ws w fun y hy => h y (by simp [hy])]
    show gI (c.W ++ [z]) x + _ = _
    rw [this]
theorem mo_new {c : Cs} (ok : c.Ok) (a : Int) : c.mo a (c.W.length : Nat) = 0 ∧ c.mo (c.W.length : Nat) a = 0 := by
  have key : ∀ (P : List (Int × Int × Int)), (∀ p ∈ P, p.1 < c.W.length ∧ p.2.1 < c.W.length) → moR P a (c.W.length : Nat) = 0 ∧ moR P (c.W.length : Nat) a = 0 := by
    intro P
    induction P with
    | nil => intro _; exact ⟨rfl, rfl⟩
    | cons p P ih =>
      intro h
      have h1 := h p (by simp)
      obtain ⟨i1, i2⟩ := ih fun q hq => h q (by simp [hq])
      simp only [moR]
      rw [if_neg (by omega), if_neg (by omega)]
      exact ⟨i1, i2⟩
  have := key c.P fun p hp => by have := ok.pb p hp; omega
  rw [ok.moR, ok.moR] at this
  exact this
theorem loo_mid {c : Cs} (N : Int) (h : ∀ a, c.mo a N = 0 ∧ c.mo N a = 0) : ∀ (A B : List Int), c.loo (A ++ N :: B) = c.loo A ++ ((if A = [] then [] else [0]) ++ ((if B = [] then [] else [0]) ++ c.loo B))
  | [], [] => by simp [Cs.loo]
  | [], b :: B => by simp [Cs.loo, (h b).2]
  | [a], B => by
    have := loo_mid N h [] B
    simp only [List.nil_append] at this
    simp only [List.cons_append, List.nil_append, Cs.loo, (h a).1, this]
    simp
  | a :: a' :: A, B => by
    have := loo_mid N h (a' :: A) B
    simp only [List.cons_append] at this
    simp only [List.cons_append, Cs.loo, this]
    simp
theorem wid_nd {c : Cs} (ok : c.Ok) {w : List Int} (hw : ∀ x ∈ w, 0 ≤ x ∧ x < c.W.length) {at' : Int} (a0 : 0 ≤ at') (a1 : at' < w.length) {z : Int} (z0 : 1 ≤ z) (z1 : z ≤ 30) : (c.wid z).nd (w.set at'.toNat (c.W.length : Nat)) = c.side w at' + z := by
  have hk : at'.toNat < w.length := by omega
  have es : w.set at'.toNat ((c.W.length : Nat) : Int) = w.take at'.toNat ++ ((c.W.length : Nat) : Int) :: w.drop (at'.toNat + 1) := by rw [List.set_eq_take_append_cons_drop, if_pos hk]
  have hA : ∀ x ∈ w.take at'.toNat, 0 ≤ x ∧ x < c.W.length := fun x hx => hw x (List.mem_of_mem_take hx)
  have hB : ∀ x ∈ w.drop (at'.toNat + 1), 0 ≤ x ∧ x < c.W.length := fun x hx => hw x (List.mem_of_mem_drop hx)
  have gz : gI (c.W ++ [z]) ((c.W.length : Nat) : Int) = z := by simp [gI, List.getD]
  have eA : w.take at'.toNat = [] ↔ ¬ 0 < at' := by
    rw [← List.length_eq_zero_iff, List.length_take]; omega
  have eB : w.drop (at'.toNat + 1) = [] ↔ ¬ at' < (w.length : Int) - 1 := by
    rw [← List.length_eq_zero_iff, List.length_drop]; omega
  rw [es]
  unfold Cs.nd
  rw [wid_loo, loo_mid _ (mo_new ok)]
  unfold Cs.wd
  rw [ws_app, Cs.ws, wid_ws _ hA, wid_ws _ hB]
  rw [show gI (c.wid z).W ((c.W.length : Nat) : Int) = z from gz]
  simp only [clo_app]
  have l0 := ok.l0
  unfold Cs.side Cs.sideA Cs.sideB Cs.nd Cs.wd
  show 2 * c.R + _ + (clo c.L _ + _) = _
  generalize w.take at'.toNat = A at *
  generalize w.drop (at'.toNat + 1) = B at *
  have cz : clo c.L [0] = c.L := by simp [clo]; omega
  have cn : clo c.L [] = 0 := rfl
  by_cases hA0 : 0 < at'
  · have nA : A ≠ [] := fun e => (eA.1 e) hA0
    rw [if_neg nA, if_pos hA0]
    by_cases hB0 : at' < (w.length : Int) - 1
    · have nB : B ≠ [] := fun e => (eB.1 e) hB0
      rw [if_neg nB, if_pos hB0]
      show 2 * c.R + (c.ws A + (z + c.ws B)) + (clo c.L (c.loo A) + (clo c.L [0] + (clo c.L [0] + clo c.L (c.loo B)))) = _
      rw [cz]; omega
    · have nB : B = [] := eB.2 hB0
      subst nB
      rw [if_pos rfl, if_neg hB0]
      show 2 * c.R + (c.ws A + (z + 0)) + (clo c.L (c.loo A) + (clo c.L [0] + (clo c.L [] + clo c.L []))) = _
      rw [cz, cn]; omega
  · have nA : A = [] := eA.2 hA0
    subst nA
    rw [if_pos rfl, if_neg hA0]
    by_cases hB0 : at' < (w.length : Int) - 1
    · have nB : B ≠ [] := fun e => (eB.1 e) hB0
      rw [if_neg nB, if_pos hB0]
      show 2 * c.R + (0 + (z + c.ws B)) + (clo c.L [] + (clo c.L [] + (clo c.L [0] + clo c.L (c.loo B)))) = _
      rw [cz, cn]; omega
    · have nB : B = [] := eB.2 hB0
      subst nB
      rw [if_pos rfl, if_neg hB0]
      show 2 * c.R + (0 + (z + 0)) + (clo c.L [] + (clo c.L [] + (clo c.L [] + clo c.L []))) = _
      rw [cn]; omega
end S04

