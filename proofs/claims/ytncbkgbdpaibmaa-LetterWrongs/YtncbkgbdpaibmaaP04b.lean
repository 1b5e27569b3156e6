/- A part of the proof: P04b, P04c, P04d. -/
import Derived.Test.YtncbkgbdpaibmaaP04a
set_option linter.unusedVariables false
set_option linter.unusedSimpArgs false
namespace S04
open Go Abs
/-! Lists between bounds. -/
def Btw : List Int → List Int → List Int → Prop
  | [], [], [] => True
  | a :: as', b :: bs, x :: xs => a ≤ x ∧ x ≤ b ∧ Btw as' bs xs
  | _, _, _ => False
theorem Btw.len : ∀ {a b x : List Int}, Btw a b x → a.length = x.length ∧ b.length = x.length
  | [], [], [], _ => ⟨rfl, rfl⟩
  | a :: u, b :: t, x :: xs, h => by
    have := Btw.len h.2.2
    simp [this.1, this.2]
def Leq : List Int → List Int → Prop
  | [], [] => True
  | a :: u, b :: t => a ≤ b ∧ Leq u t
  | _, _ => False
theorem Btw.leq : ∀ {a b x : List Int}, Btw a b x → Leq a b
  | [], [], [], _ => trivial
  | a :: u, b :: t, x :: xs, h => ⟨Int.le_trans h.1 h.2.1, Btw.leq h.2.2⟩
theorem cmpL_refl : ∀ a : List Int, cmpL a a = 0
  | [] => rfl
  | x :: a => by simp [cmpL, cmpI, cmpL_refl a]
def Fea (ms : List Int) (lo hi all : Int) (x : List Int) : Prop := Btw (gl lo ms) (gm hi ms) x ∧ sumI x = all
/-! An order. -/
theorem cmpI_lt {a b : Int} (h : a < b) : cmpI a b = -1 := by simp [cmpI, h]
theorem cmpI_gt {a b : Int} (h : b < a) : cmpI a b = 1 := by
  have : ¬ a < b := by omega
  simp [cmpI, h, this]
theorem cmpI_eq (a : Int) : cmpI a a = 0 := by simp [cmpI]
theorem cmpL_flip : ∀ a b : List Int, cmpL b a = - cmpL a b
  | [], [] => rfl
  | [], _ :: _ => rfl
  | _ :: _, [] => rfl
  | x :: a, y :: b => by
    have ih := cmpL_flip a b
    simp only [cmpL]
    rcases Int.lt_trichotomy x y with h | rfl | h
    · simp [cmpI_lt h, cmpI_gt h]
    · simp [cmpI_eq, ih]
    · simp [cmpI_lt h, cmpI_gt h]
theorem cmpL_trans : ∀ {a b c : List Int}, cmpL a b ≤ 0 → cmpL b c ≤ 0 → cmpL a c ≤ 0
  | [], [], [], _, _ => by simp [cmpL]
  | [], [], _ :: _, _, _ => by simp [cmpL]
  | [], _ :: _, [], _, h => by simp [cmpL] at h
  | [], _ :: _, _ :: _, _, _ => by simp [cmpL]
  | _ :: _, [], _, h, _ => by simp [cmpL] at h
  | _ :: _, _ :: _, [], _, h => by simp [cmpL] at h
  | x :: a, y :: b, z :: c, h1, h2 => by
    simp only [cmpL] at h1 h2 ⊢
    rcases Int.lt_trichotomy x y with h | rfl | h
    · rcases Int.lt_trichotomy y z with g | rfl | g
      · rw [cmpI_lt (show x < z by omega)]; simp
      · rw [cmpI_lt h]; simp
      · rw [cmpI_gt g] at h2; simp at h2
    · rcases Int.lt_trichotomy x z with g | rfl | g
      · rw [cmpI_lt g]; simp
      · simp only [cmpI_eq, ne_eq, not_true, if_false] at h1 h2 ⊢
        exact cmpL_trans h1 h2
      · rw [cmpI_gt g] at h2; simp at h2
    · rw [cmpI_gt h] at h1; simp at h1
theorem cmpL_eq : ∀ {a b : List Int}, cmpL a b = 0 → a = b
  | [], [], _ => rfl
  | [], _ :: _, h => by simp [cmpL] at h
  | _ :: _, [], h => by simp [cmpL] at h
  | x :: a, y :: b, h => by
    simp only [cmpL] at h
    rcases Int.lt_trichotomy x y with g | rfl | g
    · rw [cmpI_lt g] at h; simp at h
    · simp only [cmpI_eq, ne_eq, not_true, if_false] at h
      rw [cmpL_eq h]
    · rw [cmpI_gt g] at h; simp at h
theorem cmpL_le {a b : List Int} (h1 : cmpL a b ≤ 0) (h2 : cmpL b a ≤ 0) : a = b := by
  have := cmpL_flip a b
  exact cmpL_eq (by omega)
def Lm (S : List Int → Prop) (o : Option (List Int)) : Prop := match o with | none => ∀ x, ¬ S x | some l => S l ∧ ∀ x, S x → cmpL l x ≤ 0
theorem Lm.uniq {S : List Int → Prop} {o o' : Option (List Int)} (h : Lm S o) (h' : Lm S o') : o = o' := by
  cases o with
  | none => cases o' with
    | none => rfl
    | some l => exact absurd h'.1 (h l)
  | some l => cases o' with
    | none => exact absurd h.1 (h' l)
    | some l' => exact congrArg some (cmpL_le (h.2 l' h'.1) (h'.2 l h.1))
theorem Lm.congr {S T : List Int → Prop} {o : Option (List Int)} (e : ∀ x, S x ↔ T x) (h : Lm S o) : Lm T o := by
  cases o with
  | none => exact fun x hx => h x ((e x).2 hx)
  | some l => exact ⟨(e l).1 h.1, fun x hx => h.2 x ((e x).2 hx)⟩
def Lays (ms : List Int) (L all wide : Int) (x : List Int) : Prop := ∃ low, L ≤ low ∧ low ≤ all + 5 ∧ Fea ms low (low + wide) all x
end S04

namespace S04
open Go Abs
/-! Looks and windows. -/
def glR (L lo : Int) (ms : List Int) : List Int := ms.map fun m => max (max 0 (L - m)) (lo - m)
def FeaR (ms : List Int) (L lo hi all : Int) (x : List Int) : Prop := Btw (glR L lo ms) (gm hi ms) x ∧ sumI x = all
/-! The first spread. -/
theorem least (p : Nat → Prop) : ∀ n, p n → ∃ m, m ≤ n ∧ p m ∧ ∀ k, k < m → ¬ p k := by
  intro n
  induction n using Nat.strongRecOn with
  | ind n ih =>
    intro hn
    by_cases h : ∃ k, k < n ∧ p k
    · obtain ⟨k, hk, hp⟩ := h
      obtain ⟨m, h1, h2, h3⟩ := ih k hk hp
      exact ⟨m, by omega, h2, h3⟩
    · exact ⟨n, Nat.le_refl _, hn, fun k hk hp => h ⟨k, hk, hp⟩⟩
def wideG (L : Int) : List Int → Int → List Int
  | [], _ => []
  | [m], r => [max 0 (L - m) + r]
  | m :: m' :: ms, r => max 0 (L - m) :: wideG L (m' :: ms) r
/-! The reference's search. -/
def tryR (f : Int → Option (List Int)) : Nat → Int → Option (List Int)
  | 0, _ => none
  | k + 1, n => match f n with | some l => some l | none => tryR f k (n + 1)
def fillR (L lo hi : Int) : List Int → List Int → Int → Option (List Int)
  | [], b, all => if all = 0 then some b else none
  | m :: ms, b, all => tryR (fun n => if sumI (gm hi ms) < all - n ∨ all - n < sumI (glR L lo ms) then none else fillR L lo hi ms (b ++ [n]) (all - n)) (hi - m + 1 - max (max 0 (L - m)) (lo - m)).toNat (max (max 0 (L - m)) (lo - m))
def refN (ms : List Int) (L all wide : Int) : Nat → Int → Option (List Int) → Option (List Int)
  | 0, _, b => b
  | n + 1, low, b => refN ms L all wide n (low + 1) (best1 b (fillR L low (low + wide) ms [] all))
end S04

namespace S04
open Go Abs
def idxT : Nat → List Bool → List Int
  | _, [] => []
  | i, b :: bs => if b then (i : Int) :: idxT (i + 1) bs else idxT (i + 1) bs
theorem idxT_len : ∀ (i : Nat) (bs : List Bool), (idxT i bs).length = (bs.filter id).length
  | _, [] => rfl
  | i, b :: bs => by
    have := idxT_len (i + 1) bs
    cases b <;> simp [idxT, this]
def maskF (s k : Nat) : List Bool := (List.range k).map (fun i => Nat.testBit s i)
theorem mask_len (s k : Nat) : (maskF s k).length = k := by simp [maskF]
theorem mask_succ (s k : Nat) : maskF s (k + 1) = maskF s k ++ [Nat.testBit s k] := by simp [maskF, List.range_succ]
theorem mask_surj : ∀ (bs : List Bool), ∃ s, s < 2 ^ bs.length ∧ maskF s bs.length = bs
  | [] => ⟨0, by simp, rfl⟩
  | b :: bs => by
    obtain ⟨s, h1, h2⟩ := mask_surj bs
    refine ⟨2 * s + b.toNat, ?_, ?_⟩
    · simp only [List.length_cons, Nat.pow_succ]
      cases b <;> simp <;> omega
    · have h0 : Nat.testBit (2 * s + b.toNat) 0 = b := by
        cases b <;> simp [Nat.testBit_zero] <;> omega
      have hs : ∀ i, Nat.testBit (2 * s + b.toNat) (i + 1) = Nat.testBit s i := by
        intro i
        rw [Nat.testBit_succ]
        congr 1
        cases b <;> simp <;> omega
      unfold maskF at h2 ⊢
      rw [List.length_cons, List.range_succ_eq_map, List.map_cons, List.map_map, h0]
      congr 1
      rw [← h2]
      simp only [List.length_map, List.length_range]
      refine List.map_congr_left fun i _ => ?_
      exact hs i
theorem bit_int (s k : Nat) : ((s : Int) / 2 ^ k) % 2 = if Nat.testBit s k then 1 else 0 := by
  rw [Nat.testBit_eq_decide_div_mod_eq]
  have : ((s : Int) / 2 ^ k) % 2 = ((s / 2 ^ k % 2 : Nat) : Int) := by push_cast; rfl
  rw [this]
  have := Nat.mod_lt (s / 2 ^ k) (show 0 < 2 by decide)
  by_cases h : s / 2 ^ k % 2 = 1
  · simp [h]
  · simp [h]; omega
theorem idxT_app : ∀ (i : Nat) (bs : List Bool) (b : Bool), idxT i (bs ++ [b]) = idxT i bs ++ if b then [((i + bs.length : Nat) : Int)] else []
  | i, [], b => by cases b <;> simp [idxT]
  | i, a :: bs, b => by
    have ih := idxT_app (i + 1) bs b
    have e : i + 1 + bs.length = i + (a :: bs).length := by simp; omega
    rw [e] at ih
    cases a <;> simp only [List.cons_append, idxT, if_true, if_false, Bool.false_eq_true, ih]
/-! Lists of numbers, by length and order. -/
def sl (a b : List Int) : Prop := a.length < b.length ∨ (a.length = b.length ∧ cmpL a b ≤ 0)
theorem sl_trans {a b c : List Int} (h1 : sl a b) (h2 : sl b c) : sl a c := by
  unfold sl at *
  rcases h1 with h1 | ⟨h1, g1⟩ <;> rcases h2 with h2 | ⟨h2, g2⟩
  · exact .inl (by omega)
  · exact .inl (by omega)
  · exact .inl (by omega)
  · exact .inr ⟨by omega, cmpL_trans g1 g2⟩
theorem sl_refl (a : List Int) : sl a a := .inr ⟨rfl, by rw [cmpL_refl]; exact Int.le_refl _⟩
theorem sl_anti {a b : List Int} (h1 : sl a b) (h2 : sl b a) : a = b := by
  unfold sl at *
  rcases h1 with h1 | ⟨h1, g1⟩ <;> rcases h2 with h2 | ⟨h2, g2⟩
  · omega
  · omega
  · omega
  · exact cmpL_le g1 g2
def SM (S : List Int → Prop) (o : Option (List Int)) : Prop := match o with | none => ∀ x, ¬ S x | some l => S l ∧ ∀ x, S x → sl l x
theorem SM.uniq {S : List Int → Prop} {o o' : Option (List Int)} (h : SM S o) (h' : SM S o') : o = o' := by
  cases o with
  | none => cases o' with
    | none => rfl
    | some l => exact absurd h'.1 (h l)
  | some l => cases o' with
    | none => exact absurd h.1 (h' l)
    | some l' => exact congrArg some (sl_anti (h.2 l' h'.1) (h'.2 l h.1))
theorem SM.congr {S T : List Int → Prop} {o : Option (List Int)} (e : ∀ x, S x ↔ T x) (h : SM S o) : SM T o := by
  cases o with
  | none => exact fun x hx => h x ((e x).2 hx)
  | some l => exact ⟨(e l).1 h.1, fun x hx => h.2 x ((e x).2 hx)⟩
/-! All sets of numbers. -/
theorem mem_setsF : ∀ (m : Nat) (l x : List Int), x ∈ setsF m l ↔ x.Sublist l ∧ x.length = m
  | 0, l, x => by
    simp only [setsF, List.mem_singleton]
    constructor
    · rintro rfl; exact ⟨List.nil_sublist _, rfl⟩
    · rintro ⟨_, h⟩; exact List.eq_nil_of_length_eq_zero h
  | m + 1, [], x => by
    simp only [setsF, List.not_mem_nil, false_iff, not_and]
    intro h e
    have := List.sublist_nil.1 h
    subst this
    simp at e
  | m + 1, a :: l, x => by
    simp only [setsF, List.mem_append, List.mem_map, mem_setsF m l, mem_setsF (m + 1) l]
    constructor
    · rintro (⟨y, ⟨h1, h2⟩, rfl⟩ | ⟨h1, h2⟩)
      · exact ⟨h1.cons_cons a, by simp [h2]⟩
      · exact ⟨h1.cons a, h2⟩
    · rintro ⟨h1, h2⟩
      cases h1 with
      | cons _ h => exact .inr ⟨h, h2⟩
      | cons_cons _ h => exact .inl ⟨_, ⟨h, by simpa using h2⟩, rfl⟩
theorem setsF_pw : ∀ (m : Nat) (l : List Int), l.Pairwise (· < ·) → (setsF m l).Pairwise fun a b => cmpL a b ≤ 0
  | 0, l, _ => by simp [setsF]
  | m + 1, [], _ => by simp [setsF]
  | m + 1, a :: l, h => by
    rw [List.pairwise_cons] at h
    rw [setsF, List.pairwise_append]
    refine ⟨?_, setsF_pw (m + 1) l h.2, ?_⟩
    · rw [List.pairwise_map]
      refine (setsF_pw m l h.2).imp fun {x y} hxy => ?_
      simp only [cmpL, cmpI_eq, ne_eq, not_true, if_false]
      exact hxy
    · intro x hx y hy
      obtain ⟨x', hx', rfl⟩ := List.mem_map.1 hx
      obtain ⟨h1, h2⟩ := (mem_setsF (m + 1) l y).1 hy
      cases y with
      | nil => simp at h2
      | cons b y =>
        have hb : b ∈ l := h1.subset (by simp)
        simp only [cmpL, cmpI_lt (h.1 b hb)]
        simp
theorem numF_pw (n : Nat) : (numF n).Pairwise (· < ·) := by
  unfold numF
  rw [List.pairwise_map]
  refine List.pairwise_lt_range.imp fun {a b} h => ?_
  exact_mod_cast h
theorem mem_allF {n : Nat} : ∀ (k m : Nat) (x : List Int), x ∈ allF n m k ↔ x.Sublist (numF n) ∧ m ≤ x.length ∧ x.length < m + k
  | 0, m, x => by simp only [allF, List.not_mem_nil, false_iff]; omega
  | k + 1, m, x => by
    simp only [allF, List.mem_append, mem_setsF, mem_allF k (m + 1)]
    constructor
    · rintro (⟨h1, h2⟩ | ⟨h1, h2, h3⟩)
      · exact ⟨h1, by omega, by omega⟩
      · exact ⟨h1, by omega, by omega⟩
    · rintro ⟨h1, h2, h3⟩
      by_cases e : x.length = m
      · exact .inl ⟨h1, e⟩
      · exact .inr ⟨h1, by omega, by omega⟩
theorem allF_pw {n : Nat} : ∀ (k m : Nat), (allF n m k).Pairwise sl
  | 0, m => by simp [allF]
  | k + 1, m => by
    rw [allF, List.pairwise_append]
    refine ⟨?_, allF_pw k (m + 1), ?_⟩
    · refine List.Pairwise.imp_of_mem ?_ (setsF_pw m (numF n) (numF_pw n))
      intro a b ha hb h
      exact .inr ⟨by rw [((mem_setsF m _ a).1 ha).2, ((mem_setsF m _ b).1 hb).2], h⟩
    · intro x hx y hy
      have h1 := ((mem_setsF m _ x).1 hx).2
      have h2 := ((mem_allF k (m + 1) y).1 hy).2.1
      exact .inl (by omega)
theorem find_pw {α : Type} {R : α → α → Prop} {p : α → Bool} (hr : ∀ a, R a a) : ∀ {l : List α} {x : α}, l.Pairwise R → l.find? p = some x → ∀ y ∈ l, p y = true → R x y
  | [], x, _, h, y, hy, _ => by simp at hy
  | a :: l, x, hp, h, y, hy, py => by
    rw [List.pairwise_cons] at hp
    rw [List.find?_cons] at h
    cases e : p a with
    | true =>
      rw [e] at h
      simp only [Option.some.injEq] at h
      subst h
      rcases List.mem_cons.1 hy with rfl | hy
      · exact hr _
      · exact hp.1 y hy
    | false =>
      rw [e] at h
      rcases List.mem_cons.1 hy with rfl | hy
      · rw [e] at py; simp at py
      · exact find_pw hr hp.2 h y hy py
theorem fewF_SM (n : Nat) (p : List Int → Bool) : SM (fun x => x.Sublist (numF n) ∧ p x = true) (fewF n p) := by
  unfold fewF
  cases h : (allF n 0 (n + 1)).find? p with
  | none =>
    rintro x ⟨h1, h2⟩
    have := List.find?_eq_none.1 h x ((mem_allF (n + 1) 0 x).2 ⟨h1, by omega, by have := h1.length_le; rw [numF_len] at this; omega⟩)
    exact this h2
  | some l =>
    have hm := (mem_allF (n + 1) 0 l).1 (List.mem_of_find?_eq_some h)
    refine ⟨⟨hm.1, by have := List.find?_some h; exact this⟩, ?_⟩
    rintro x ⟨h1, h2⟩
    exact find_pw sl_refl (allF_pw _ _) h x ((mem_allF (n + 1) 0 x).2 ⟨h1, by omega, by have := h1.length_le; rw [numF_len] at this; omega⟩) h2
/-! Sets by bits. -/
def setL (n s : Nat) : List Int := idxT 0 (maskF s n)
def numFrom (i n : Nat) : List Int := (List.range' i n).map fun (k : Nat) => (k : Int)
theorem idxT_sub : ∀ (bs : List Bool) (i : Nat), (idxT i bs).Sublist (numFrom i bs.length)
  | [], i => by simp [idxT, numFrom]
  | b :: bs, i => by
    have ih := idxT_sub bs (i + 1)
    have e : numFrom i (b :: bs).length = (i : Int) :: numFrom (i + 1) bs.length := by simp [numFrom, List.range'_succ]
    rw [e]
    cases b
    · exact ih.cons _
    · exact ih.cons_cons _
theorem sub_idxT : ∀ (n i : Nat) (x : List Int), x.Sublist (numFrom i n) → ∃ bs, bs.length = n ∧ idxT i bs = x
  | 0, i, x, h => ⟨[], rfl, by have : numFrom i 0 = [] := rfl; rw [this] at h; rw [List.sublist_nil.1 h]; rfl⟩
  | n + 1, i, x, h => by
    have e : numFrom i (n + 1) = (i : Int) :: numFrom (i + 1) n := by simp [numFrom, List.range'_succ]
    rw [e] at h
    cases h with
    | cons _ h =>
      obtain ⟨bs, h1, h2⟩ := sub_idxT n (i + 1) x h
      exact ⟨false :: bs, by simp [h1], by simpa [idxT] using h2⟩
    | cons_cons _ h =>
      obtain ⟨bs, h1, h2⟩ := sub_idxT n (i + 1) _ h
      exact ⟨true :: bs, by simp [h1], by simp [idxT, h2]⟩
theorem numF_from (n : Nat) : numF n = numFrom 0 n := by unfold numF numFrom; rw [List.range_eq_range']
theorem setL_sub (n s : Nat) : (setL n s).Sublist (numF n) := by
  have := idxT_sub (maskF s n) 0
  rw [mask_len] at this
  rw [numF_from]
  exact this
theorem sub_setL {n : Nat} {x : List Int} (h : x.Sublist (numF n)) : ∃ s, s < 2 ^ n ∧ x = setL n s := by
  rw [numF_from] at h
  obtain ⟨bs, h1, h2⟩ := sub_idxT n 0 x h
  obtain ⟨s, h3, h4⟩ := mask_surj bs
  rw [h1] at h3 h4
  exact ⟨s, h3, by rw [setL, h4, h2]⟩
def shB : Option (List Int) → List Int → Bool
  | none, _ => true
  | some x, l => decide (l.length < x.length ∨ l.length = x.length ∧ cmpL l x < 0)
def refS (n : Nat) (p : List Int → Bool) : Nat → Nat → Option (List Int) → Option (List Int)
  | 0, _, b => b
  | k + 1, s, b => refS n p k (s + 1) (if shB b (setL n s) && p (setL n s) then some (setL n s) else b)
theorem refS_SM {n : Nat} {p : List Int → Bool} : ∀ (k s : Nat) (b : Option (List Int)) (S : List Int → Prop), SM S b → SM (fun x => S x ∨ ∃ t, s ≤ t ∧ t < s + k ∧ x = setL n t ∧ p x = true) (refS n p k s b)
  | 0, s, b, S, h => h.congr fun x => by
    constructor
    · exact .inl
    · rintro (h | ⟨t, h1, h2, _⟩)
      · exact h
      · omega
  | k + 1, s, b, S, h => by
    have step : SM (fun x => S x ∨ (x = setL n s ∧ p x = true)) (if shB b (setL n s) && p (setL n s) then some (setL n s) else b) := by
      cases hp : p (setL n s) with
      | false =>
        rw [Bool.and_false, if_neg (by simp)]
        refine h.congr fun x => ⟨.inl, ?_⟩
        rintro (h | ⟨rfl, h⟩)
        · exact h
        · rw [hp] at h; simp at h
      | true =>
        cases b with
        | none =>
          simp only [shB, Bool.and_self, if_true]
          refine ⟨.inr ⟨rfl, hp⟩, ?_⟩
          rintro x (hx | ⟨rfl, _⟩)
          · exact absurd hx (h x)
          · exact sl_refl _
        | some y =>
          simp only [shB, Bool.and_true, decide_eq_true_eq]
          split
          · rename_i hc
            have hsy : sl (setL n s) y := by
              rcases hc with hc | hc
              · exact .inl hc
              · exact .inr ⟨hc.1, by omega⟩
            refine ⟨.inr ⟨rfl, hp⟩, ?_⟩
            rintro x (hx | ⟨rfl, _⟩)
            · exact sl_trans hsy (h.2 x hx)
            · exact sl_refl _
          · rename_i hc
            have hys : sl y (setL n s) := by
              unfold sl
              have := cmpL_flip (setL n s) y
              by_cases e : (setL n s).length = y.length
              · exact .inr ⟨e.symm, by omega⟩
              · exact .inl (by omega)
            refine ⟨.inl h.1, ?_⟩
            rintro x (hx | ⟨rfl, _⟩)
            · exact h.2 x hx
            · exact hys
    refine (refS_SM k (s + 1) _ _ step).congr fun x => ?_
    constructor
    · rintro ((h | ⟨h1, h2⟩) | ⟨t, h1, h2, h3⟩)
      · exact .inl h
      · exact .inr ⟨s, by omega, by omega, h1, h2⟩
      · exact .inr ⟨t, by omega, by omega, h3⟩
    · rintro (h | ⟨t, h1, h2, h3⟩)
      · exact .inl (.inl h)
      · by_cases e : t = s
        · subst e; exact .inl (.inr h3)
        · exact .inr ⟨t, by omega, by omega, h3⟩
theorem ref_few {n : Nat} {p : List Int → Bool} : refS n p (2 ^ n) 0 none = fewF n p := by
  refine SM.uniq ((refS_SM (n := n) (p := p) (2 ^ n) 0 none (fun _ => False) (fun _ h => h)).congr fun x => ?_) (fewF_SM n p)
  constructor
  · rintro (h | ⟨t, _, _, rfl, h⟩)
    · exact h.elim
    · exact ⟨setL_sub n t, h⟩
  · rintro ⟨h1, h2⟩
    obtain ⟨s, h3, h4⟩ := sub_setL h1
    exact .inr ⟨s, by omega, by omega, h4, h2⟩
/-! What is left of a list. -/
def falB : List Int → List Bool → List Int
  | l :: ls, b :: bs => if b then falB ls bs else l :: falB ls bs
  | _, _ => []
end S04

