/- A part of the proof: P04b. -/
import Derived.Test.YtncbkgbdpaibmaaP04a
set_option linter.unusedVariables false
set_option linter.unusedSimpArgs false
namespace S04
open Go Abs
/-! Lists between bounds. -/
def Btw : List Int → List Int → List Int → Prop
  | [], [], [] => True
  | a :: as', b :: bs, x :: xs => a ≤ x ∧ x ≤ b ∧ Btw as' bs xs
  | _, _, _ => False
theorem Btw.len : ∀ {a b x : List Int}, Btw a b x → a.length = x.length ∧ b.length = x.length
  | [], [], [], _ => ⟨rfl, rfl⟩
  | a :: u, b :: t, x :: xs, h => by
    have := Btw.len h.2.2
    simp [this.1, this.2]
theorem Btw.sum : ∀ {a b x : List Int}, Btw a b x → sumI a ≤ sumI x ∧ sumI x ≤ sumI b
  | [], [], [], _ => by simp
  | a :: u, b :: t, x :: xs, h => by
    have := Btw.sum h.2.2
    have h1 := h.1
    have h2 := h.2.1
    simp only [sumI]
    omega
def Leq : List Int → List Int → Prop
  | [], [] => True
  | a :: u, b :: t => a ≤ b ∧ Leq u t
  | _, _ => False
theorem Btw.leq : ∀ {a b x : List Int}, Btw a b x → Leq a b
  | [], [], [], _ => trivial
  | a :: u, b :: t, x :: xs, h => ⟨Int.le_trans h.1 h.2.1, Btw.leq h.2.2⟩
theorem Leq.sum : ∀ {a b : List Int}, Leq a b → sumI a ≤ sumI b
  | [], [], _ => by simp [sumI]
  | a :: u, b :: t, h => by
    have := Leq.sum h.2
    have := h.1
    simp only [sumI]
    omega
theorem cmpL_refl : ∀ a : List Int, cmpL a a = 0
  | [] => rfl
  | x :: a => by simp [cmpL, cmpI, cmpL_refl a]
theorem addR_spec : ∀ (a b : List Int) (r : Int), Leq a b → 0 ≤ r →
    Btw a b (addR a b r).1 ∧ sumI (addR a b r).1 = sumI a + min r (sumI b - sumI a) ∧ (addR a b r).2 = r - min r (sumI b - sumI a) ∧ ∀ x, Btw a b x → sumI x = sumI a + min r (sumI b - sumI a) → cmpL (addR a b r).1 x ≤ 0
  | [], [], r, _, h0 => by
    refine ⟨trivial, by simp [addR, sumI]; omega, by simp [addR, sumI]; omega, fun x hx _ => ?_⟩
    cases x with
    | nil => simp [addR, cmpL]
    | cons => exact hx.elim
  | a :: u, b :: t, r, h, h0 => by
    obtain ⟨i1, i2, i3, i4⟩ := addR_spec u t r h.2 h0
    have hl := h.1
    have hs := h.2.sum
    simp only [addR, sumI]
    refine ⟨⟨by omega, by omega, i1⟩, by omega, by omega, fun x hx hsx => ?_⟩
    cases x with
    | nil => exact hx.elim
    | cons y ys =>
      obtain ⟨h1, h2, h3⟩ := hx
      have := h3.sum
      simp only [sumI] at hsx
      simp only [cmpL]
      by_cases e : y = a + min (b - a) (addR u t r).2
      · have e' : cmpI (a + min (b - a) (addR u t r).2) y = 0 := by rw [e]; simp [cmpI]
        rw [e', if_neg (by simp)]
        exact i4 ys h3 (by omega)
      · have lt : a + min (b - a) (addR u t r).2 < y := by omega
        have e' : cmpI (a + min (b - a) (addR u t r).2) y = -1 := by simp [cmpI, lt]
        rw [e', if_pos (by simp)]
        omega
theorem fillOk_leq {lo hi : Int} : ∀ ms : List Int, fillOk lo hi ms = true ↔ Leq (gl lo ms) (gm hi ms)
  | [] => by simp [fillOk, gl, gm, Leq]
  | m :: ms => by
    have := fillOk_leq (lo := lo) (hi := hi) ms
    simp only [fillOk, gl, gm, List.all_cons, List.map_cons, Leq, Bool.and_eq_true, decide_eq_true_eq] at this ⊢
    rw [this]
def Fea (ms : List Int) (lo hi all : Int) (x : List Int) : Prop := Btw (gl lo ms) (gm hi ms) x ∧ sumI x = all
theorem fillF_some {ms l : List Int} {lo hi all : Int} (h : fillF ms lo hi all = some l) : Fea ms lo hi all l ∧ ∀ x, Fea ms lo hi all x → cmpL l x ≤ 0 := by
  unfold fillF at h
  split at h
  · rename_i hc
    obtain ⟨h1, h2, h3⟩ := hc
    simp only [Option.some.injEq] at h
    subst h
    obtain ⟨s1, s2, s3, s4⟩ := addR_spec (gl lo ms) (gm hi ms) (all - sumI (gl lo ms)) ((fillOk_leq ms).1 h1) (by omega)
    refine ⟨⟨s1, by omega⟩, fun x hx => s4 x hx.1 ?_⟩
    have := hx.2
    omega
  · simp at h
theorem fillF_none {ms : List Int} {lo hi all : Int} (h : fillF ms lo hi all = none) (x : List Int) : ¬ Fea ms lo hi all x := by
  rintro ⟨h1, h2⟩
  unfold fillF at h
  split at h
  · simp at h
  · rename_i hc
    have := h1.sum
    exact hc ⟨(fillOk_leq ms).2 h1.leq, by omega, by omega⟩
/-! An order. -/
theorem cmpI_lt {a b : Int} (h : a < b) : cmpI a b = -1 := by simp [cmpI, h]
theorem cmpI_gt {a b : Int} (h : b < a) : cmpI a b = 1 := by
  have : ¬ a < b := by omega
  simp [cmpI, h, this]
theorem cmpI_eq (a : Int) : cmpI a a = 0 := by simp [cmpI]
theorem cmpL_flip : ∀ a b : List Int, cmpL b a = - cmpL a b
  | [], [] => rfl
  | [], _ :: _ => rfl
  | _ :: _, [] => rfl
  | x :: a, y :: b => by
    have ih := cmpL_flip a b
    simp only [cmpL]
    rcases Int.lt_trichotomy x y with h | rfl | h
    · simp [cmpI_lt h, cmpI_gt h]
    · simp [cmpI_eq, ih]
    · simp [cmpI_lt h, cmpI_gt h]
theorem cmpL_trans : ∀ {a b c : List Int}, cmpL a b ≤ 0 → cmpL b c ≤ 0 → cmpL a c ≤ 0
  | [], [], [], _, _ => by simp [cmpL]
  | [], [], _ :: _, _, _ => by simp [cmpL]
  | [], _ :: _, [], _, h => by simp [cmpL] at h
  | [], _ :: _, _ :: _, _, _ => by simp [cmpL]
  | _ :: _, [], _, h, _ => by simp [cmpL] at h
  | _ :: _, _ :: _, [], _, h => by simp [cmpL] at h
  | x :: a, y :: b, z :: c, h1, h2 => by
    simp only [cmpL] at h1 h2 ⊢
    rcases Int.lt_trichotomy x y with h | rfl | h
    · rcases Int.lt_trichotomy y z with g | rfl | g
      · rw [cmpI_lt (show x < z by omega)]; simp
      · rw [cmpI_lt h]; simp
      · rw [cmpI_gt g] at h2; simp at h2
    · rcases Int.lt_trichotomy x z with g | rfl | g
      · rw [cmpI_lt g]; simp
      · simp only [cmpI_eq, ne_eq, not_true, if_false] at h1 h2 ⊢
        exact cmpL_trans h1 h2
      · rw [cmpI_gt g] at h2; simp at h2
    · rw [cmpI_gt h] at h1; simp at h1
theorem cmpL_eq : ∀ {a b : List Int}, cmpL a b = 0 → a = b
  | [], [], _ => rfl
  | [], _ :: _, h => by simp [cmpL] at h
  | _ :: _, [], h => by simp [cmpL] at h
  | x :: a, y :: b, h => by
    simp only [cmpL] at h
    rcases Int.lt_trichotomy x y with g | rfl | g
    · rw [cmpI_lt g] at h; simp at h
    · simp only [cmpI_eq, ne_eq, not_true, if_false] at h
      rw [cmpL_eq h]
    · rw [cmpI_gt g] at h; simp at h
theorem cmpL_le {a b : List Int} (h1 : cmpL a b ≤ 0) (h2 : cmpL b a ≤ 0) : a = b := by
  have := cmpL_flip a b
  exact cmpL_eq (by omega)
def Lm (S : List Int → Prop) (o : Option (List Int)) : Prop := match o with | none => ∀ x, ¬ S x | some l => S l ∧ ∀ x, S x → cmpL l x ≤ 0
theorem Lm.uniq {S : List Int → Prop} {o o' : Option (List Int)} (h : Lm S o) (h' : Lm S o') : o = o' := by
  cases o with
  | none => cases o' with
    | none => rfl
    | some l => exact absurd h'.1 (h l)
  | some l => cases o' with
    | none => exact absurd h.1 (h' l)
    | some l' => exact congrArg some (cmpL_le (h.2 l' h'.1) (h'.2 l h.1))
theorem Lm.congr {S T : List Int → Prop} {o : Option (List Int)} (e : ∀ x, S x ↔ T x) (h : Lm S o) : Lm T o := by
  cases o with
  | none => exact fun x hx => h x ((e x).2 hx)
  | some l => exact ⟨(e l).1 h.1, fun x hx => h.2 x ((e x).2 hx)⟩
theorem fillF_Lm (ms : List Int) (lo hi all : Int) : Lm (Fea ms lo hi all) (fillF ms lo hi all) := by
  cases h : fillF ms lo hi all with
  | none => exact fillF_none h
  | some l => exact fillF_some h
theorem best1_Lm {S T : List Int → Prop} {b o : Option (List Int)} (hb : Lm S b) (ho : Lm T o) : Lm (fun x => S x ∨ T x) (best1 b o) := by
  cases b with
  | none =>
    cases o with
    | none => rintro x (h | h); exact hb x h; exact ho x h
    | some l => exact ⟨.inr ho.1, fun x hx => by rcases hx with h | h; exact absurd h (hb x); exact ho.2 x h⟩
  | some l =>
    cases o with
    | none => exact ⟨.inl hb.1, fun x hx => by rcases hx with h | h; exact hb.2 x h; exact absurd h (ho x)⟩
    | some l' =>
      simp only [best1]
      split
      · rename_i hc
        exact ⟨.inr ho.1, fun x hx => by rcases hx with h | h; exact cmpL_trans (Int.le_of_lt hc) (hb.2 x h); exact ho.2 x h⟩
      · rename_i hc
        have := cmpL_flip l' l
        exact ⟨.inl hb.1, fun x hx => by rcases hx with h | h; exact hb.2 x h; exact cmpL_trans (by omega) (ho.2 x h)⟩
theorem layN_Lm {ms : List Int} {all wide : Int} : ∀ (n : Nat) (low : Int) (b : Option (List Int)) (S : List Int → Prop), Lm S b → Lm (fun x => S x ∨ ∃ k : Nat, k < n ∧ Fea ms (low + k) (low + k + wide) all x) (layN ms all wide n low b)
  | 0, low, b, S, h => h.congr fun x => by simp
  | n + 1, low, b, S, h => by
    have := layN_Lm (ms := ms) (all := all) (wide := wide) n (low + 1) _ _ (best1_Lm h (fillF_Lm ms low (low + wide) all))
    refine this.congr fun x => ?_
    constructor
    · rintro ((h1 | h1) | ⟨k, hk, h1⟩)
      · exact .inl h1
      · exact .inr ⟨0, by omega, by simpa using h1⟩
      · refine .inr ⟨k + 1, by omega, ?_⟩
        rw [show low + ((k + 1 : Nat) : Int) = low + 1 + (k : Int) by omega]
        exact h1
    · rintro (h1 | ⟨k, hk, h1⟩)
      · exact .inl (.inl h1)
      · cases k with
        | zero => exact .inl (.inr (by simpa using h1))
        | succ k =>
          refine .inr ⟨k, by omega, ?_⟩
          rw [show low + ((k + 1 : Nat) : Int) = low + 1 + (k : Int) by omega] at h1
          exact h1
def Lays (ms : List Int) (L all wide : Int) (x : List Int) : Prop := ∃ low, L ≤ low ∧ low ≤ all + 5 ∧ Fea ms low (low + wide) all x
theorem layW_Lm (ms : List Int) (L all wide : Int) : Lm (Lays ms L all wide) (layW ms L all wide) := by
  unfold layW
  refine (layN_Lm (ms := ms) (all := all) (wide := wide) (all + 6 - L).toNat L none (fun _ => False) (fun _ h => h)).congr fun x => ?_
  constructor
  · rintro (h | ⟨k, hk, h⟩)
    · exact h.elim
    · exact ⟨L + k, by omega, by omega, h⟩
  · rintro ⟨low, h1, h2, h⟩
    refine .inr ⟨(low - L).toNat, by omega, ?_⟩
    rw [show L + ((low - L).toNat : Int) = low by omega]
    exact h
end S04

