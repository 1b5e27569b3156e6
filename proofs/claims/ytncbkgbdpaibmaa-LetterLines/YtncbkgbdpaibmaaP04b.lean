/- A part of the proof: P04b, P04c, P04d, P04g. -/
import Derived.Test.YtncbkgbdpaibmaaP04a
import Derived.Test.YtncbkgbdpaibmaaG04v
set_option linter.unusedVariables false
set_option linter.unusedSimpArgs false
namespace S04
open Go Abs
/-! Lists between bounds. -/
def Btw : List Int → List Int → List Int → Prop
  | [], [], [] => True
  | a :: as', b :: bs, x :: xs => a ≤ x ∧ x ≤ b ∧ Btw as' bs xs
  | _, _, _ => False
theorem Btw.len : ∀ {a b x : List Int}, Btw a b x → a.length = x.length ∧ b.length = x.length
  | [], [], [], _ => ⟨rfl, rfl⟩
  | a :: u, b :: t, x :: xs, h => by
    have := Btw.len h.2.2
    simp [this.1, this.2]
def Leq : List Int → List Int → Prop
  | [], [] => True
  | a :: u, b :: t => a ≤ b ∧ Leq u t
  | _, _ => False
theorem Btw.leq : ∀ {a b x : List Int}, Btw a b x → Leq a b
  | [], [], [], _ => trivial
  | a :: u, b :: t, x :: xs, h => ⟨Int.le_trans h.1 h.2.1, Btw.leq h.2.2⟩
theorem cmpL_refl : ∀ a : List Int, cmpL a a = 0
  | [] => rfl
  | x :: a => by simp [cmpL, cmpI, cmpL_refl a]
def Fea (ms : List Int) (lo hi all : Int) (x : List Int) : Prop := Btw (gl lo ms) (gm hi ms) x ∧ sumI x = all
/-! An order. -/
theorem cmpI_lt {a b : Int} (h : a < b) : cmpI a b = -1 := by simp [cmpI, h]
theorem cmpI_gt {a b : Int} (h : b < a) : cmpI a b = 1 := by
  have : ¬ a < b := by omega
  simp [cmpI, h, this]
theorem cmpI_eq (a : Int) : cmpI a a = 0 := by simp [cmpI]
theorem cmpL_flip : ∀ a b : List Int, cmpL b a = - cmpL a b
  | [], [] => rfl
  | [], _ :: _ => rfl
  | _ :: _, [] => rfl
  | x :: a, y :: b => by
    have ih := cmpL_flip a b
    simp only [cmpL]
    rcases Int.lt_trichotomy x y with h | rfl | h
    · simp [cmpI_lt h, cmpI_gt h]
    · simp [cmpI_eq, ih]
    · simp [cmpI_lt h, cmpI_gt h]
theorem cmpL_trans : ∀ {a b c : List Int}, cmpL a b ≤ 0 → cmpL b c ≤ 0 → cmpL a c ≤ 0
  | [], [], [], _, _ => by simp [cmpL]
  | [], [], _ :: _, _, _ => by simp [cmpL]
  | [], _ :: _, [], _, h => by simp [cmpL] at h
  | [], _ :: _, _ :: _, _, _ => by simp [cmpL]
  | _ :: _, [], _, h, _ => by simp [cmpL] at h
  | _ :: _, _ :: _, [], _, h => by simp [cmpL] at h
  | x :: a, y :: b, z :: c, h1, h2 => by
    simp only [cmpL] at h1 h2 ⊢
    rcases Int.lt_trichotomy x y with h | rfl | h
    · rcases Int.lt_trichotomy y z with g | rfl | g
      · rw [cmpI_lt (show x < z by omega)]; simp
      · rw [cmpI_lt h]; simp
      · rw [cmpI_gt g] at h2; simp at h2
    · rcases Int.lt_trichotomy x z with g | rfl | g
      · rw [cmpI_lt g]; simp
      · simp only [cmpI_eq, ne_eq, not_true, if_false] at h1 h2 ⊢
        exact cmpL_trans h1 h2
      · rw [cmpI_gt g] at h2; simp at h2
    · rw [cmpI_gt h] at h1; simp at h1
theorem cmpL_eq : ∀ {a b : List Int}, cmpL a b = 0 → a = b
  | [], [], _ => rfl
  | [], _ :: _, h => by simp [cmpL] at h
  | _ :: _, [], h => by simp [cmpL] at h
  | x :: a, y :: b, h => by
    simp only [cmpL] at h
    rcases Int.lt_trichotomy x y with g | rfl | g
    · rw [cmpI_lt g] at h; simp at h
    · simp only [cmpI_eq, ne_eq, not_true, if_false] at h
      rw [cmpL_eq h]
    · rw [cmpI_gt g] at h; simp at h
theorem cmpL_le {a b : List Int} (h1 : cmpL a b ≤ 0) (h2 : cmpL b a ≤ 0) : a = b := by
  have := cmpL_flip a b
  exact cmpL_eq (by omega)
def Lm (S : List Int → Prop) (o : Option (List Int)) : Prop := match o with | none => ∀ x, ¬ S x | some l => S l ∧ ∀ x, S x → cmpL l x ≤ 0
theorem Lm.uniq {S : List Int → Prop} {o o' : Option (List Int)} (h : Lm S o) (h' : Lm S o') : o = o' := by
  cases o with
  | none => cases o' with
    | none => rfl
    | some l => exact absurd h'.1 (h l)
  | some l => cases o' with
    | none => exact absurd h.1 (h' l)
    | some l' => exact congrArg some (cmpL_le (h.2 l' h'.1) (h'.2 l h.1))
theorem Lm.congr {S T : List Int → Prop} {o : Option (List Int)} (e : ∀ x, S x ↔ T x) (h : Lm S o) : Lm T o := by
  cases o with
  | none => exact fun x hx => h x ((e x).2 hx)
  | some l => exact ⟨(e l).1 h.1, fun x hx => h.2 x ((e x).2 hx)⟩
def Lays (ms : List Int) (L all wide : Int) (x : List Int) : Prop := ∃ low, L ≤ low ∧ low ≤ all + 5 ∧ Fea ms low (low + wide) all x
end S04

namespace S04
open Go Abs
/-! Looks and windows. -/
def glR (L lo : Int) (ms : List Int) : List Int := ms.map fun m => max (max 0 (L - m)) (lo - m)
def FeaR (ms : List Int) (L lo hi all : Int) (x : List Int) : Prop := Btw (glR L lo ms) (gm hi ms) x ∧ sumI x = all
/-! The first spread. -/
theorem least (p : Nat → Prop) : ∀ n, p n → ∃ m, m ≤ n ∧ p m ∧ ∀ k, k < m → ¬ p k := by
  intro n
  induction n using Nat.strongRecOn with
  | ind n ih =>
    intro hn
    by_cases h : ∃ k, k < n ∧ p k
    · obtain ⟨k, hk, hp⟩ := h
      obtain ⟨m, h1, h2, h3⟩ := ih k hk hp
      exact ⟨m, by omega, h2, h3⟩
    · exact ⟨n, Nat.le_refl _, hn, fun k hk hp => h ⟨k, hk, hp⟩⟩
def wideG (L : Int) : List Int → Int → List Int
  | [], _ => []
  | [m], r => [max 0 (L - m) + r]
  | m :: m' :: ms, r => max 0 (L - m) :: wideG L (m' :: ms) r
/-! The reference's search. -/
def tryR (f : Int → Option (List Int)) : Nat → Int → Option (List Int)
  | 0, _ => none
  | k + 1, n => match f n with | some l => some l | none => tryR f k (n + 1)
def fillR (L lo hi : Int) : List Int → List Int → Int → Option (List Int)
  | [], b, all => if all = 0 then some b else none
  | m :: ms, b, all => tryR (fun n => if sumI (gm hi ms) < all - n ∨ all - n < sumI (glR L lo ms) then none else fillR L lo hi ms (b ++ [n]) (all - n)) (hi - m + 1 - max (max 0 (L - m)) (lo - m)).toNat (max (max 0 (L - m)) (lo - m))
def refN (ms : List Int) (L all wide : Int) : Nat → Int → Option (List Int) → Option (List Int)
  | 0, _, b => b
  | n + 1, low, b => refN ms L all wide n (low + 1) (best1 b (fillR L low (low + wide) ms [] all))
end S04

namespace S04
open Go Abs
def idxT : Nat → List Bool → List Int
  | _, [] => []
  | i, b :: bs => if b then (i : Int) :: idxT (i + 1) bs else idxT (i + 1) bs
theorem idxT_len : ∀ (i : Nat) (bs : List Bool), (idxT i bs).length = (bs.filter id).length
  | _, [] => rfl
  | i, b :: bs => by
    have := idxT_len (i + 1) bs
    cases b <;> simp [idxT, this]
def maskF (s k : Nat) : List Bool := (List.range k).map (fun i => Nat.testBit s i)
theorem mask_len (s k : Nat) : (maskF s k).length = k := by simp [maskF]
theorem mask_succ (s k : Nat) : maskF s (k + 1) = maskF s k ++ [Nat.testBit s k] := by simp [maskF, List.range_succ]
theorem mask_surj : ∀ (bs : List Bool), ∃ s, s < 2 ^ bs.length ∧ maskF s bs.length = bs
  | [] => ⟨0, by simp, rfl⟩
  | b :: bs => by
    obtain ⟨s, h1, h2⟩ := mask_surj bs
    refine ⟨2 * s + b.toNat, ?_, ?_⟩
    · simp only [List.length_cons, Nat.pow_succ]
      cases b <;> simp <;> omega
    · have h0 : Nat.testBit (2 * s + b.toNat) 0 = b := by
        cases b <;> simp [Nat.testBit_zero] <;> omega
      have hs : ∀ i, Nat.testBit (2 * s + b.toNat) (i + 1) = Nat.testBit s i := by
        intro i
        rw [Nat.testBit_succ]
        congr 1
        cases b <;> simp <;> omega
      unfold maskF at h2 ⊢
      rw [List.length_cons, List.range_succ_eq_map, List.map_cons, List.map_map, h0]
      congr 1
      rw [← h2]
      simp only [List.length_map, List.length_range]
      refine List.map_congr_left fun i _ => ?_
      exact hs i
theorem bit_int (s k : Nat) : ((s : Int) / 2 ^ k) % 2 = if Nat.testBit s k then 1 else 0 := by
  rw [Nat.testBit_eq_decide_div_mod_eq]
  have : ((s : Int) / 2 ^ k) % 2 = ((s / 2 ^ k % 2 : Nat) : Int) := by push_cast; rfl
  rw [this]
  have := Nat.mod_lt (s / 2 ^ k) (show 0 < 2 by decide)
  by_cases h : s / 2 ^ k % 2 = 1
  · simp [h]
  · simp [h]; omega
theorem idxT_app : ∀ (i : Nat) (bs : List Bool) (b : Bool), idxT i (bs ++ [b]) = idxT i bs ++ if b then [((i + bs.length : Nat) : Int)] else []
  | i, [], b => by cases b <;> simp [idxT]
  | i, a :: bs, b => by
    have ih := idxT_app (i + 1) bs b
    have e : i + 1 + bs.length = i + (a :: bs).length := by simp; omega
    rw [e] at ih
    cases a <;> simp only [List.cons_append, idxT, if_true, if_false, Bool.false_eq_true, ih]
/-! Lists of numbers, by length and order. -/
def sl (a b : List Int) : Prop := a.length < b.length ∨ (a.length = b.length ∧ cmpL a b ≤ 0)
theorem sl_anti {a b : List Int} (h1 : sl a b) (h2 : sl b a) : a = b := by
  unfold sl at *
  rcases h1 with h1 | ⟨h1, g1⟩ <;> rcases h2 with h2 | ⟨h2, g2⟩
  · omega
  · omega
  · omega
  · exact cmpL_le g1 g2
def SM (S : List Int → Prop) (o : Option (List Int)) : Prop := match o with | none => ∀ x, ¬ S x | some l => S l ∧ ∀ x, S x → sl l x
theorem SM.uniq {S : List Int → Prop} {o o' : Option (List Int)} (h : SM S o) (h' : SM S o') : o = o' := by
  cases o with
  | none => cases o' with
    | none => rfl
    | some l => exact absurd h'.1 (h l)
  | some l => cases o' with
    | none => exact absurd h.1 (h' l)
    | some l' => exact congrArg some (sl_anti (h.2 l' h'.1) (h'.2 l h.1))
theorem SM.congr {S T : List Int → Prop} {o : Option (List Int)} (e : ∀ x, S x ↔ T x) (h : SM S o) : SM T o := by
  cases o with
  | none => exact fun x hx => h x ((e x).2 hx)
  | some l => exact ⟨(e l).1 h.1, fun x hx => h.2 x ((e x).2 hx)⟩
/-! All sets of numbers. -/
theorem mem_setsF : ∀ (m : Nat) (l x : List Int), x ∈ setsF m l ↔ x.Sublist l ∧ x.length = m
  | 0, l, x => by
    simp only [setsF, List.mem_singleton]
    constructor
    · rintro rfl; exact ⟨List.nil_sublist _, rfl⟩
    · rintro ⟨_, h⟩; exact List.eq_nil_of_length_eq_zero h
  | m + 1, [], x => by
    simp only [setsF, List.not_mem_nil, false_iff, not_and]
    intro h e
    have := List.sublist_nil.1 h
    subst this
    simp at e
  | m + 1, a :: l, x => by
    simp only [setsF, List.mem_append, List.mem_map, mem_setsF m l, mem_setsF (m + 1) l]
    constructor
    · rintro (⟨y, ⟨h1, h2⟩, rfl⟩ | ⟨h1, h2⟩)
      · exact ⟨h1.cons_cons a, by simp [h2]⟩
      · exact ⟨h1.cons a, h2⟩
    · rintro ⟨h1, h2⟩
      cases h1 with
      | cons _ h => exact .inr ⟨h, h2⟩
      | cons_cons _ h => exact .inl ⟨_, ⟨h, by simpa using h2⟩, rfl⟩
theorem setsF_pw : ∀ (m : Nat) (l : List Int), l.Pairwise (· < ·) → (setsF m l).Pairwise fun a b => cmpL a b ≤ 0
  | 0, l, _ => by simp [setsF]
  | m + 1, [], _ => by simp [setsF]
  | m + 1, a :: l, h => by
    rw [List.pairwise_cons] at h
    rw [setsF, List.pairwise_append]
    refine ⟨?_, setsF_pw (m + 1) l h.2, ?_⟩
    · rw [List.pairwise_map]
      refine (setsF_pw m l h.2).imp fun {x y} hxy => ?_
      simp only [cmpL, cmpI_eq, ne_eq, not_true, if_false]
      exact hxy
    · intro x hx y hy
      obtain ⟨x', hx', rfl⟩ := List.mem_map.1 hx
      obtain ⟨h1, h2⟩ := (mem_setsF (m + 1) l y).1 hy
      cases y with
      | nil => simp at h2
      | cons b y =>
        have hb : b ∈ l := h1.subset (by simp)
        simp only [cmpL, cmpI_lt (h.1 b hb)]
        simp
/-! Sets by bits. -/
def setL (n s : Nat) : List Int := idxT 0 (maskF s n)
def numFrom (i n : Nat) : List Int := (List.range' i n).map fun (k : Nat) => (k : Int)
theorem idxT_sub : ∀ (bs : List Bool) (i : Nat), (idxT i bs).Sublist (numFrom i bs.length)
  | [], i => by simp [idxT, numFrom]
  | b :: bs, i => by
    have ih := idxT_sub bs (i + 1)
    have e : numFrom i (b :: bs).length = (i : Int) :: numFrom (i + 1) bs.length := by simp [numFrom, List.range'_succ]
    rw [e]
    cases b
    · exact ih.cons _
    · exact ih.cons_cons _
theorem sub_idxT : ∀ (n i : Nat) (x : List Int), x.Sublist (numFrom i n) → ∃ bs, bs.length = n ∧ idxT i bs = x
  | 0, i, x, h => ⟨[], rfl, by have : numFrom i 0 = [] := rfl; rw [this] at h; rw [List.sublist_nil.1 h]; rfl⟩
  | n + 1, i, x, h => by
    have e : numFrom i (n + 1) = (i : Int) :: numFrom (i + 1) n := by simp [numFrom, List.range'_succ]
    rw [e] at h
    cases h with
    | cons _ h =>
      obtain ⟨bs, h1, h2⟩ := sub_idxT n (i + 1) x h
      exact ⟨false :: bs, by simp [h1], by simpa [idxT] using h2⟩
    | cons_cons _ h =>
      obtain ⟨bs, h1, h2⟩ := sub_idxT n (i + 1) _ h
      exact ⟨true :: bs, by simp [h1], by simp [idxT, h2]⟩
theorem numF_from (n : Nat) : numF n = numFrom 0 n := by unfold numF numFrom; rw [List.range_eq_range']
theorem setL_sub (n s : Nat) : (setL n s).Sublist (numF n) := by
  have := idxT_sub (maskF s n) 0
  rw [mask_len] at this
  rw [numF_from]
  exact this
theorem sub_setL {n : Nat} {x : List Int} (h : x.Sublist (numF n)) : ∃ s, s < 2 ^ n ∧ x = setL n s := by
  rw [numF_from] at h
  obtain ⟨bs, h1, h2⟩ := sub_idxT n 0 x h
  obtain ⟨s, h3, h4⟩ := mask_surj bs
  rw [h1] at h3 h4
  exact ⟨s, h3, by rw [setL, h4, h2]⟩
def shB : Option (List Int) → List Int → Bool
  | none, _ => true
  | some x, l => decide (l.length < x.length ∨ l.length = x.length ∧ cmpL l x < 0)
def refS (n : Nat) (p : List Int → Bool) : Nat → Nat → Option (List Int) → Option (List Int)
  | 0, _, b => b
  | k + 1, s, b => refS n p k (s + 1) (if shB b (setL n s) && p (setL n s) then some (setL n s) else b)
/-! What is left of a list. -/
def falB : List Int → List Bool → List Int
  | l :: ls, b :: bs => if b then falB ls bs else l :: falB ls bs
  | _, _ => []
end S04

namespace S04
open Go Abs
/-! The rests of lines that begin so. -/
def Cs.rsO (c : Cs) (n : Int) (W : List (List Int)) : Nat → List Int → Option Int
  | a, [] => if 0 ≤ c.rest n ((W.take W.length).drop a) then some (c.rest n ((W.take W.length).drop a)) else none
  | a, b :: t => if c.rest n ((W.take b.toNat).drop a) < 0 then none else (c.rsO n W b.toNat t).map (max (c.rest n ((W.take b.toNat).drop a)))
theorem ln_app (c : Cs) : ∀ A B : List (List Int), c.ln (A ++ B) = c.ln A + c.ln B
  | [], B => by simp [Cs.ln]
  | x :: A, B => by simp [Cs.ln, ln_app c A B, Int.add_assoc]
theorem rest_mono {c : Cs} {n : Int} {W : List (List Int)} (h : ∀ w ∈ W, 0 ≤ c.nd w - 2 * c.R + c.B) {a b b' : Nat} (hb : b ≤ b') : c.rest n ((W.take b').drop a) ≤ c.rest n ((W.take b).drop a) := by
  unfold Cs.rest
  have key : ∀ L : List (List Int), (∀ w ∈ L, w ∈ W) → 0 ≤ c.ln L := by
    intro L
    induction L with
    | nil => intro _; simp [Cs.ln]
    | cons w L ih =>
      intro hL
      have := ih fun x hx => hL x (by simp [hx])
      have := h w (hL w (by simp))
      simp only [Cs.ln]; omega
  have e : W.take b' = W.take b ++ (W.take b').drop b := by
    have := List.take_append_drop b (W.take b')
    rw [List.take_take, Nat.min_eq_left hb] at this
    exact this.symm
  rw [e, List.drop_append]
  rw [ln_app]
  have := key (((W.take b').drop b).drop (a - (W.take b).length)) fun w hw => List.mem_of_mem_take (List.mem_of_mem_drop (List.mem_of_mem_drop hw))
  omega
theorem numFrom_succ (i n : Nat) : numFrom i (n + 1) = (i : Int) :: numFrom (i + 1) n := by simp [numFrom, List.range'_succ]
theorem brk_eq {c : Cs} {n : Int} {W : List (List Int)} (h : ∀ w ∈ W, 0 ≤ c.nd w - 2 * c.R + c.B) : ∀ (L a : Nat), c.brk n W (L + 1) a = (setsF L (numFrom (a + 1) (W.length - (a + 1)))).filterMap fun t => (c.rsO n W a t).map fun r => ((a : Int) :: t, r)
  | 0, a => by
    simp only [Cs.brk, setsF, List.filterMap_cons, List.filterMap_nil, Cs.rsO]
    split <;> rfl
  | L + 1, a => by
    have ih := brk_eq (n := n) h L
    rw [Cs.brk]
    have key : ∀ (k to' : Nat), to' + k = W.length → c.stepG n W (c.brk n W (L + 1)) a k to' = (setsF (L + 1) (numFrom to' k)).filterMap fun t => (c.rsO n W a t).map fun r => ((a : Int) :: t, r) := by
      intro k
      induction k with
      | zero => intro to' _; simp [Cs.stepG, numFrom, setsF]
      | succ k ihk =>
        intro to' hto
        rw [numFrom_succ, setsF, List.filterMap_append, Cs.stepG]
        by_cases hr : c.rest n ((W.take to').drop a) < 0
        · rw [if_pos hr]
          have n1 : ((setsF L (numFrom (to' + 1) k)).map ((to' : Int) :: ·)).filterMap (fun t => (c.rsO n W a t).map fun r => ((a : Int) :: t, r)) = [] := by
            rw [List.filterMap_eq_nil_iff]
            intro t ht
            obtain ⟨t', _, rfl⟩ := List.mem_map.1 ht
            simp [Cs.rsO, hr]
          have n2 : (setsF (L + 1) (numFrom (to' + 1) k)).filterMap (fun t => (c.rsO n W a t).map fun r => ((a : Int) :: t, r)) = [] := by
            rw [List.filterMap_eq_nil_iff]
            intro t ht
            obtain ⟨h1, h2⟩ := (mem_setsF _ _ _).1 ht
            cases t with
            | nil => simp at h2
            | cons b t =>
              have hb : b ∈ numFrom (to' + 1) k := h1.subset (by simp)
              simp only [numFrom, List.mem_map, List.mem_range'_1] at hb
              obtain ⟨j, hj, rfl⟩ := hb
              have := rest_mono (n := n) h (a := a) (show to' ≤ j by omega)
              simp only [Cs.rsO, Int.toNat_natCast]
              rw [if_pos (by omega)]
              rfl
          rw [n1, n2]
          rfl
        · rw [if_neg hr, ihk (to' + 1) (by omega), ih to', show W.length - (to' + 1) = k by omega]
          congr 1
          rw [List.filterMap_map, List.map_filterMap]
          refine congrArg (fun f => (setsF L (numFrom (to' + 1) k)).filterMap f) (funext fun t => ?_)
          simp only [Function.comp, Cs.rsO, Int.toNat_natCast]
          rw [if_neg hr]
          cases c.rsO n W to' t <;> rfl
    by_cases ha : a + 1 ≤ W.length
    · exact key _ _ (by omega)
    · have e0 : W.length - (a + 1) = 0 := by omega
      rw [e0]
      simp [Cs.stepG, numFrom, setsF]
/-! The best lines. -/
def kle (x y : List Int × Int) : Prop := x.1.length < y.1.length ∨ (x.1.length = y.1.length ∧ (x.2 < y.2 ∨ (x.2 = y.2 ∧ cmpL x.1 y.1 ≤ 0)))
theorem kle_refl (x : List Int × Int) : kle x x := .inr ⟨rfl, .inr ⟨rfl, by rw [cmpL_refl]; exact Int.le_refl _⟩⟩
theorem kle_trans {x y z : List Int × Int} (h1 : kle x y) (h2 : kle y z) : kle x z := by
  unfold kle at *
  rcases h1 with h1 | ⟨h1, g1⟩ <;> rcases h2 with h2 | ⟨h2, g2⟩
  · exact .inl (by omega)
  · exact .inl (by omega)
  · exact .inl (by omega)
  · refine .inr ⟨by omega, ?_⟩
    rcases g1 with g1 | ⟨g1, k1⟩ <;> rcases g2 with g2 | ⟨g2, k2⟩
    · exact .inl (by omega)
    · exact .inl (by omega)
    · exact .inl (by omega)
    · exact .inr ⟨by omega, cmpL_trans k1 k2⟩
theorem kle_anti {x y : List Int × Int} (h1 : kle x y) (h2 : kle y x) : x = y := by
  unfold kle at *
  rcases h1 with h1 | ⟨h1, g1⟩ <;> rcases h2 with h2 | ⟨h2, g2⟩
  · omega
  · omega
  · omega
  · rcases g1 with g1 | ⟨g1, k1⟩ <;> rcases g2 with g2 | ⟨g2, k2⟩
    · omega
    · omega
    · omega
    · exact Prod.ext (cmpL_le k1 k2) g1
def KM (S : List Int × Int → Prop) (o : Option (List Int × Int)) : Prop := match o with | none => ∀ x, ¬ S x | some l => S l ∧ ∀ x, S x → kle l x
theorem KM.uniq {S : List Int × Int → Prop} {o o' : Option (List Int × Int)} (h : KM S o) (h' : KM S o') : o = o' := by
  cases o with
  | none => cases o' with
    | none => rfl
    | some l => exact absurd h'.1 (h l)
  | some l => cases o' with
    | none => exact absurd h.1 (h' l)
    | some l' => exact congrArg some (kle_anti (h.2 l' h'.1) (h'.2 l h.1))
theorem KM.congr {S T : List Int × Int → Prop} {o : Option (List Int × Int)} (e : ∀ x, S x ↔ T x) (h : KM S o) : KM T o := by
  cases o with
  | none => exact fun x hx => h x ((e x).2 hx)
  | some l => exact ⟨(e l).1 h.1, fun x hx => h.2 x ((e x).2 hx)⟩
def Cs.Ls (c : Cs) (n : Int) (W : List (List Int)) (x : List Int × Int) : Prop := ∃ t : List Int, t.Sublist (numFrom 1 (W.length - 1)) ∧ c.rsO n W 0 t = some x.2 ∧ x.1 = 0 :: t
theorem best2_min : ∀ (A : List (List Int × Int)) (b : List Int × Int) (N : Nat), (∀ x ∈ b :: A, x.1.length = N) → (b :: A).Pairwise (fun x y => cmpL x.1 y.1 ≤ 0) → ∃ r, A.foldl best2 (some b) = some r ∧ r ∈ b :: A ∧ ∀ x ∈ b :: A, kle r x
  | [], b, N, hN, hp => ⟨b, rfl, by simp, fun x hx => by simp at hx; subst hx; exact kle_refl _⟩
  | a :: A, b, N, hN, hp => by
    rw [List.pairwise_cons] at hp
    have hba := hp.1 a (by simp)
    have la := hN a (by simp)
    have lb := hN b (by simp)
    rw [List.foldl_cons]
    simp only [best2]
    by_cases h : a.2 < b.2
    · rw [if_pos h]
      obtain ⟨r, h1, h2, h3⟩ := best2_min A a N (fun x hx => hN x (List.mem_cons_of_mem _ hx)) hp.2
      refine ⟨r, h1, List.mem_cons_of_mem _ h2, fun x hx => ?_⟩
      rcases List.mem_cons.1 hx with rfl | hx
      · exact kle_trans (h3 a (by simp)) (.inr ⟨by omega, .inl h⟩)
      · exact h3 x hx
    · rw [if_neg h]
      have hp2 : (b :: A).Pairwise (fun x y => cmpL x.1 y.1 ≤ 0) := by
        rw [List.pairwise_cons]
        rw [List.pairwise_cons] at hp
        exact ⟨fun x hx => hp.1 x (List.mem_cons_of_mem _ hx), hp.2.2⟩
      obtain ⟨r, h1, h2, h3⟩ := best2_min A b N (fun x hx => by
        rcases List.mem_cons.1 hx with rfl | hx
        · exact lb
        · exact hN x (by simp [hx])) hp2
      refine ⟨r, h1, ?_, fun x hx => ?_⟩
      · rcases List.mem_cons.1 h2 with rfl | h2
        · simp
        · simp [h2]
      · rcases List.mem_cons.1 hx with rfl | hx
        · exact h3 x (by simp)
        · rcases List.mem_cons.1 hx with rfl | hx
          · refine kle_trans (h3 b (by simp)) (.inr ⟨by omega, ?_⟩)
            by_cases e : b.2 = x.2
            · exact .inr ⟨e, hba⟩
            · exact .inl (by omega)
          · exact h3 x (by simp [hx])
theorem numFrom_pw (i n : Nat) : (numFrom i n).Pairwise (· < ·) := by
  unfold numFrom
  rw [List.pairwise_map]
  have : ∀ (n i : Nat), (List.range' i n).Pairwise (· < ·) := by
    intro n
    induction n with
    | zero => intro i; simp
    | succ n ih =>
      intro i
      rw [List.range'_succ, List.pairwise_cons]
      refine ⟨fun x hx => ?_, ih (i + 1)⟩
      rw [List.mem_range'_1] at hx
      omega
  refine (this n i).imp fun {a b} h => ?_
  exact_mod_cast h
theorem lines_KM {c : Cs} {n : Int} {W : List (List Int)} (h : ∀ w ∈ W, 0 ≤ c.nd w - 2 * c.R + c.B) {r : List Int × Int} (hr : LinesIs c n W r) : KM (c.Ls n W) (some r) := by
  obtain ⟨L, L1, L10, H1, H2⟩ := hr
  obtain ⟨L', rfl⟩ : ∃ L', L = L' + 1 := ⟨L - 1, by omega⟩
  have hb := brk_eq (n := n) h L' 0
  have hlen := brk_len c n W (L' + 1) 0
  have hpw : (c.brk n W (L' + 1) 0).Pairwise (fun x y => cmpL x.1 y.1 ≤ 0) := by
    rw [hb, List.pairwise_filterMap]
    refine (setsF_pw L' _ (numFrom_pw _ _)).imp fun {t t'} ht x hx y hy => ?_
    simp only [Option.map_eq_some_iff] at hx hy
    obtain ⟨r1, _, rfl⟩ := hx
    obtain ⟨r2, _, rfl⟩ := hy
    simp only [cmpL, cmpI_eq, ne_eq, not_true, if_false]
    exact ht
  cases hA : c.brk n W (L' + 1) 0 with
  | nil => rw [hA] at H1; simp at H1
  | cons b A =>
    rw [hA] at H1 hlen hpw
    rw [List.foldl_cons] at H1
    obtain ⟨r', g1, g2, g3⟩ := best2_min A b (L' + 1) hlen hpw
    have e : r' = r := by
      have : A.foldl best2 (best2 none b) = A.foldl best2 (some b) := rfl
      rw [this, g1] at H1
      simpa using H1
    subst e
    have mem : ∀ x, x ∈ b :: A ↔ c.Ls n W x ∧ x.1.length = L' + 1 := by
      intro x
      rw [← hA, hb, List.mem_filterMap]
      simp only [mem_setsF, Option.map_eq_some_iff]
      constructor
      · rintro ⟨t, ⟨h1, h2⟩, r1, h3, rfl⟩
        exact ⟨⟨t, by simpa using h1, h3, rfl⟩, by simp [h2]⟩
      · rintro ⟨⟨t, h1, h3, h4⟩, h5⟩
        refine ⟨t, ⟨by simpa using h1, by rw [h4] at h5; simpa using h5⟩, x.2, h3, ?_⟩
        rw [show ((0 : Nat) : Int) = 0 from rfl, ← h4]
    refine ⟨((mem r').1 g2).1, fun x hx => ?_⟩
    have lr := ((mem r').1 g2).2
    rcases Nat.lt_trichotomy x.1.length (L' + 1) with hl | hl | hl
    · exfalso
      have hx0 := hx
      obtain ⟨t, h1, h3, h4⟩ := hx
      obtain ⟨k, hk⟩ : ∃ k, x.1.length = k + 1 := ⟨t.length, by rw [h4]; simp⟩
      have := H2 (k + 1) (by omega) (by omega)
      have hb2 := brk_eq (n := n) h k 0
      rw [this] at hb2
      have hm : x ∈ (setsF k (numFrom (0 + 1) (W.length - (0 + 1)))).filterMap fun t => (c.rsO n W 0 t).map fun r => (((0 : Nat) : Int) :: t, r) := by
        rw [List.mem_filterMap]
        refine ⟨t, (mem_setsF _ _ _).2 ⟨by simpa using h1, by rw [h4] at hk; simpa using hk⟩, ?_⟩
        simp only [Option.map_eq_some_iff]
        exact ⟨x.2, h3, by rw [show ((0 : Nat) : Int) = 0 from rfl, ← h4]⟩
      rw [← hb2] at hm
      simp at hm
    · exact g3 x ((mem x).2 ⟨hx, hl⟩)
    · exact .inl (by omega)
theorem lines_ex {c : Cs} {n : Int} {W : List (List Int)} (h : ∀ w ∈ W, 0 ≤ c.nd w - 2 * c.R + c.B) (hn : ∀ w ∈ W, c.nd w ≤ n) (w0 : W ≠ []) (w5 : W.length ≤ 5) : ∃ r, LinesIs c n W r := by
  have pos : 0 < W.length := List.length_pos_iff.2 w0
  have single : ∀ (k a : Nat), a + k + 1 = W.length → c.rsO n W a (numFrom (a + 1) k) ≠ none := by
    intro k
    induction k with
    | zero =>
      intro a ha
      have e : (W.take W.length).drop a = [W[a]] := by
        rw [List.take_length, List.drop_eq_getElem_cons (by omega), List.drop_of_length_le (by omega)]
      simp only [numFrom, List.range'_zero, List.map_nil, Cs.rsO, e]
      have := hn W[a] (List.getElem_mem _)
      rw [if_pos (by simp only [Cs.rest, Cs.ln]; omega)]
      simp
    | succ k ih =>
      intro a ha
      rw [numFrom_succ, Cs.rsO]
      have e : (W.take (((a + 1 : Nat) : Int).toNat)).drop a = [W[a]] := by
        rw [Int.toNat_natCast, List.take_add_one, List.getElem?_eq_getElem (by omega), List.drop_append_of_le_length (by simp; omega), List.drop_of_length_le (by simp; omega)]
        rfl
      rw [e]
      have := hn W[a] (List.getElem_mem _)
      rw [if_neg (by simp only [Cs.rest, Cs.ln]; omega)]
      have := ih (a + 1) (by omega)
      intro hx
      rw [Option.map_eq_none_iff] at hx
      exact this (by rw [Int.toNat_natCast] at hx; exact hx)
  have hne : c.brk n W (W.length - 1 + 1) 0 ≠ [] := by
    rw [brk_eq h]
    have hs := single (W.length - 1) 0 (by omega)
    obtain ⟨r, hr⟩ := Option.ne_none_iff_exists'.1 hs
    intro hx
    rw [List.filterMap_eq_nil_iff] at hx
    have := hx (numFrom (0 + 1) (W.length - 1)) ((mem_setsF _ _ _).2 ⟨by simp, by simp [numFrom]⟩)
    rw [hr] at this
    simp at this
  obtain ⟨m, hm, h2, h3⟩ := least (fun k => c.brk n W (k + 1) 0 ≠ []) (W.length - 1) hne
  cases hA : c.brk n W (m + 1) 0 with
  | nil => exact absurd hA h2
  | cons b A =>
    have : ∃ r, A.foldl best2 (some b) = some r := by
      have : ∀ (A : List (List Int × Int)) (b : List Int × Int), ∃ r, A.foldl best2 (some b) = some r := by
        intro A
        induction A with
        | nil => intro b; exact ⟨b, rfl⟩
        | cons a A ih =>
          intro b
          rw [List.foldl_cons]
          simp only [best2]
          split
          · exact ih a
          · exact ih b
      exact this A b
    obtain ⟨r, hr⟩ := this
    refine ⟨r, m + 1, by omega, by omega, by rw [hA]; exact hr, fun k k1 k2 => ?_⟩
    have := h3 (k - 1) (by omega)
    rw [show k - 1 + 1 = k by omega] at this
    exact Classical.byContradiction this
/-! The reference. -/
def setM (N s : Nat) : List Int := (setL N s).map (· + 1)
theorem setM_sub (N s : Nat) : (setM N s).Sublist (numFrom 1 N) := by
  have := (setL_sub N s).map (· + 1)
  have e : (numF N).map (· + 1) = numFrom 1 N := by
    rw [numF_from]
    unfold numFrom
    rw [List.map_map, List.range'_eq_map_range, List.range'_eq_map_range, List.map_map, List.map_map]
    refine List.map_congr_left fun k _ => ?_
    simp only [Function.comp]
    omega
  rw [e] at this
  exact this
theorem sub_setM {N : Nat} {x : List Int} (h : x.Sublist (numFrom 1 N)) : ∃ s, s < 2 ^ N ∧ x = setM N s := by
  have e : numF N = (numFrom 1 N).map (· - 1) := by
    rw [numF_from]
    unfold numFrom
    rw [List.map_map, List.range'_eq_map_range, List.range'_eq_map_range, List.map_map, List.map_map]
    refine List.map_congr_left fun k _ => ?_
    simp only [Function.comp]
    omega
  obtain ⟨s, h1, h2⟩ := sub_setL (n := N) (x := x.map (· - 1)) (by rw [e]; exact h.map _)
  refine ⟨s, h1, ?_⟩
  unfold setM
  rw [← h2, List.map_map]
  conv => lhs; rw [← List.map_id x]
  refine List.map_congr_left fun y _ => ?_
  simp only [Function.comp, id]
  omega
def betL (l : List Int) (r : Int) : Option (List Int × Int) → Bool
  | none => true
  | some x => decide (l.length < x.1.length ∨ l.length = x.1.length ∧ (r < x.2 ∨ r = x.2 ∧ cmpL l x.1 < 0))
def upL (b : Option (List Int × Int)) (l : List Int) (o : Option Int) : Option (List Int × Int) := match o with
  | none => b
  | some r => if betL l r b then some (l, r) else b
def rfS (val : List Int → Option Int) (N : Nat) : Nat → Nat → Option (List Int × Int) → Option (List Int × Int)
  | 0, _, b => b
  | k + 1, s, b => rfS val N k (s + 1) (upL b (0 :: setM N s) (val (setM N s)))
theorem rfS_KM {val : List Int → Option Int} {N : Nat} : ∀ (k s : Nat) (b : Option (List Int × Int)) (S : List Int × Int → Prop), KM S b → KM (fun x => S x ∨ ∃ t, s ≤ t ∧ t < s + k ∧ x.1 = 0 :: setM N t ∧ val (setM N t) = some x.2) (rfS val N k s b)
  | 0, s, b, S, h => h.congr fun x => by
    constructor
    · exact .inl
    · rintro (h | ⟨t, h1, h2, _⟩)
      · exact h
      · omega
  | k + 1, s, b, S, h => by
    have step : KM (fun x => S x ∨ (x.1 = 0 :: setM N s ∧ val (setM N s) = some x.2)) (upL b (0 :: setM N s) (val (setM N s))) := by
      generalize (0 :: setM N s) = l
      cases hv : val (setM N s) with
      | none =>
        refine h.congr fun x => ⟨.inl, ?_⟩
        rintro (h | ⟨_, h⟩)
        · exact h
        · simp at h
      | some r =>
        simp only [upL]
        have key : ∀ x : List Int × Int, (x.1 = l ∧ some r = some x.2) ↔ x = (l, r) := fun x => by
          constructor
          · rintro ⟨h1, h2⟩; exact Prod.ext h1 (by simpa using h2.symm)
          · rintro rfl; exact ⟨rfl, rfl⟩
        cases b with
        | none =>
          simp only [betL, if_true]
          refine ⟨.inr ⟨rfl, rfl⟩, ?_⟩
          rintro x (hx | hx)
          · exact absurd hx (h x)
          · rw [(key x).1 hx]; exact kle_refl _
        | some y =>
          simp only [betL, decide_eq_true_eq]
          split
          · rename_i hc
            have hly : kle (l, r) y := by
              rcases hc with hc | ⟨hc, hd | ⟨hd, he⟩⟩
              · exact .inl hc
              · exact .inr ⟨hc, .inl hd⟩
              · exact .inr ⟨hc, .inr ⟨hd, by dsimp only; omega⟩⟩
            refine ⟨.inr ⟨rfl, rfl⟩, ?_⟩
            rintro x (hx | hx)
            · exact kle_trans hly (h.2 x hx)
            · rw [(key x).1 hx]; exact kle_refl _
          · rename_i hc
            have hyl : kle y (l, r) := by
              unfold kle
              have hf := cmpL_flip l y.1
              by_cases e : l.length = y.1.length
              · refine .inr ⟨e.symm, ?_⟩
                by_cases e2 : r = y.2
                · exact .inr ⟨e2.symm, by dsimp only; omega⟩
                · exact .inl (by dsimp only; omega)
              · exact .inl (by dsimp only; omega)
            refine ⟨.inl h.1, ?_⟩
            rintro x (hx | hx)
            · exact h.2 x hx
            · rw [(key x).1 hx]; exact hyl
    refine (rfS_KM k (s + 1) _ _ step).congr fun x => ?_
    constructor
    · rintro ((h | h1) | ⟨t, h1, h2, h3⟩)
      · exact .inl h
      · exact .inr ⟨s, by omega, by omega, h1⟩
      · exact .inr ⟨t, by omega, by omega, h3⟩
    · rintro (h | ⟨t, h1, h2, h3⟩)
      · exact .inl (.inl h)
      · by_cases e : t = s
        · subst e; exact .inl (.inr h3)
        · exact .inr ⟨t, by omega, by omega, h3⟩
theorem ref_lines {c : Cs} {n : Int} {W : List (List Int)} (h : ∀ w ∈ W, 0 ≤ c.nd w - 2 * c.R + c.B) {r : List Int × Int} (hr : LinesIs c n W r) : rfS (c.rsO n W 0) (W.length - 1) (2 ^ (W.length - 1)) 0 none = some r := by
  refine KM.uniq ((rfS_KM (val := c.rsO n W 0) (N := W.length - 1) (2 ^ (W.length - 1)) 0 none (fun _ => False) (fun _ h => h)).congr fun x => ?_) (lines_KM h hr)
  constructor
  · rintro (h | ⟨t, _, _, h1, h2⟩)
    · exact h.elim
    · exact ⟨setM (W.length - 1) t, setM_sub _ t, h2, h1⟩
  · rintro ⟨t, h1, h2, h3⟩
    obtain ⟨s, h4, rfl⟩ := sub_setM h1
    exact .inr ⟨s, by omega, by omega, h3, h2⟩
end S04

