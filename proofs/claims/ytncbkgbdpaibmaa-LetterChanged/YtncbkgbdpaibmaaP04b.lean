/- A part of the proof: P04b, P04c. -/
import Derived.Test.YtncbkgbdpaibmaaP04a
set_option linter.unusedVariables false
set_option linter.unusedSimpArgs false
namespace S04
open Go Abs
/-! Lists between bounds. -/
def Btw : List Int → List Int → List Int → Prop
  | [], [], [] => True
  | a :: as', b :: bs, x :: xs => a ≤ x ∧ x ≤ b ∧ Btw as' bs xs
  | _, _, _ => False
theorem Btw.len : ∀ {a b x : List Int}, Btw a b x → a.length = x.length ∧ b.length = x.length
  | [], [], [], _ => ⟨rfl, rfl⟩
  | a :: u, b :: t, x :: xs, h => by
    have := Btw.len h.2.2
    simp [this.1, this.2]
theorem Btw.sum : ∀ {a b x : List Int}, Btw a b x → sumI a ≤ sumI x ∧ sumI x ≤ sumI b
  | [], [], [], _ => by simp
  | a :: u, b :: t, x :: xs, h => by
    have := Btw.sum h.2.2
    have h1 := h.1
    have h2 := h.2.1
    simp only [sumI]
    omega
def Leq : List Int → List Int → Prop
  | [], [] => True
  | a :: u, b :: t => a ≤ b ∧ Leq u t
  | _, _ => False
theorem Btw.leq : ∀ {a b x : List Int}, Btw a b x → Leq a b
  | [], [], [], _ => trivial
  | a :: u, b :: t, x :: xs, h => ⟨Int.le_trans h.1 h.2.1, Btw.leq h.2.2⟩
theorem Leq.sum : ∀ {a b : List Int}, Leq a b → sumI a ≤ sumI b
  | [], [], _ => by simp [sumI]
  | a :: u, b :: t, h => by
    have := Leq.sum h.2
    have := h.1
    simp only [sumI]
    omega
theorem cmpL_refl : ∀ a : List Int, cmpL a a = 0
  | [] => rfl
  | x :: a => by simp [cmpL, cmpI, cmpL_refl a]
theorem addR_spec : ∀ (a b : List Int) (r : Int), Leq a b → 0 ≤ r →
    Btw a b (addR a b r).1 ∧ sumI (addR a b r).1 = sumI a + min r (sumI b - sumI a) ∧ (addR a b r).2 = r - min r (sumI b - sumI a) ∧ ∀ x, Btw a b x → sumI x = sumI a + min r (sumI b - sumI a) → cmpL (addR a b r).1 x ≤ 0
  | [], [], r, _, h0 => by
    refine ⟨trivial, by simp [addR, sumI]; omega, by simp [addR, sumI]; omega, fun x hx _ => ?_⟩
    cases x with
    | nil => simp [addR, cmpL]
    | cons => exact hx.elim
  | a :: u, b :: t, r, h, h0 => by
    obtain ⟨i1, i2, i3, i4⟩ := addR_spec u t r h.2 h0
    have hl := h.1
    have hs := h.2.sum
    simp only [addR, sumI]
    refine ⟨⟨by omega, by omega, i1⟩, by omega, by omega, fun x hx hsx => ?_⟩
    cases x with
    | nil => exact hx.elim
    | cons y ys =>
      obtain ⟨h1, h2, h3⟩ := hx
      have := h3.sum
      simp only [sumI] at hsx
      simp only [cmpL]
      by_cases e : y = a + min (b - a) (addR u t r).2
      · have e' : cmpI (a + min (b - a) (addR u t r).2) y = 0 := by rw [e]; simp [cmpI]
        rw [e', if_neg (by simp)]
        exact i4 ys h3 (by omega)
      · have lt : a + min (b - a) (addR u t r).2 < y := by omega
        have e' : cmpI (a + min (b - a) (addR u t r).2) y = -1 := by simp [cmpI, lt]
        rw [e', if_pos (by simp)]
        omega
theorem fillOk_leq {lo hi : Int} : ∀ ms : List Int, fillOk lo hi ms = true ↔ Leq (gl lo ms) (gm hi ms)
  | [] => by simp [fillOk, gl, gm, Leq]
  | m :: ms => by
    have := fillOk_leq (lo := lo) (hi := hi) ms
    simp only [fillOk, gl, gm, List.all_cons, List.map_cons, Leq, Bool.and_eq_true, decide_eq_true_eq] at this ⊢
    rw [this]
def Fea (ms : List Int) (lo hi all : Int) (x : List Int) : Prop := Btw (gl lo ms) (gm hi ms) x ∧ sumI x = all
theorem fillF_some {ms l : List Int} {lo hi all : Int} (h : fillF ms lo hi all = some l) : Fea ms lo hi all l ∧ ∀ x, Fea ms lo hi all x → cmpL l x ≤ 0 := by
  unfold fillF at h
  split at h
  · rename_i hc
    obtain ⟨h1, h2, h3⟩ := hc
    simp only [Option.some.injEq] at h
    subst h
    obtain ⟨s1, s2, s3, s4⟩ := addR_spec (gl lo ms) (gm hi ms) (all - sumI (gl lo ms)) ((fillOk_leq ms).1 h1) (by omega)
    refine ⟨⟨s1, by omega⟩, fun x hx => s4 x hx.1 ?_⟩
    have := hx.2
    omega
  · simp at h
theorem fillF_none {ms : List Int} {lo hi all : Int} (h : fillF ms lo hi all = none) (x : List Int) : ¬ Fea ms lo hi all x := by
  rintro ⟨h1, h2⟩
  unfold fillF at h
  split at h
  · simp at h
  · rename_i hc
    have := h1.sum
    exact hc ⟨(fillOk_leq ms).2 h1.leq, by omega, by omega⟩
/-! An order. -/
theorem cmpI_lt {a b : Int} (h : a < b) : cmpI a b = -1 := by simp [cmpI, h]
theorem cmpI_gt {a b : Int} (h : b < a) : cmpI a b = 1 := by
  have : ¬ a < b := by omega
  simp [cmpI, h, this]
theorem cmpI_eq (a : Int) : cmpI a a = 0 := by simp [cmpI]
theorem cmpL_flip : ∀ a b : List Int, cmpL b a = - cmpL a b
  | [], [] => rfl
  | [], _ :: _ => rfl
  | _ :: _, [] => rfl
  | x :: a, y :: b => by
    have ih := cmpL_flip a b
    simp only [cmpL]
    rcases Int.lt_trichotomy x y with h | rfl | h
    · simp [cmpI_lt h, cmpI_gt h]
    · simp [cmpI_eq, ih]
    · simp [cmpI_lt h, cmpI_gt h]
theorem cmpL_trans : ∀ {a b c : List Int}, cmpL a b ≤ 0 → cmpL b c ≤ 0 → cmpL a c ≤ 0
  | [], [], [], _, _ => by simp [cmpL]
  | [], [], _ :: _, _, _ => by simp [cmpL]
  | [], _ :: _, [], _, h => by simp [cmpL] at h
  | [], _ :: _, _ :: _, _, _ => by simp [cmpL]
  | _ :: _, [], _, h, _ => by simp [cmpL] at h
  | _ :: _, _ :: _, [], _, h => by simp [cmpL] at h
  | x :: a, y :: b, z :: c, h1, h2 => by
    simp only [cmpL] at h1 h2 ⊢
    rcases Int.lt_trichotomy x y with h | rfl | h
    · rcases Int.lt_trichotomy y z with g | rfl | g
      · rw [cmpI_lt (show x < z by omega)]; simp
      · rw [cmpI_lt h]; simp
      · rw [cmpI_gt g] at h2; simp at h2
    · rcases Int.lt_trichotomy x z with g | rfl | g
      · rw [cmpI_lt g]; simp
      · simp only [cmpI_eq, ne_eq, not_true, if_false] at h1 h2 ⊢
        exact cmpL_trans h1 h2
      · rw [cmpI_gt g] at h2; simp at h2
    · rw [cmpI_gt h] at h1; simp at h1
def Lm (S : List Int → Prop) (o : Option (List Int)) : Prop := match o with | none => ∀ x, ¬ S x | some l => S l ∧ ∀ x, S x → cmpL l x ≤ 0
theorem Lm.congr {S T : List Int → Prop} {o : Option (List Int)} (e : ∀ x, S x ↔ T x) (h : Lm S o) : Lm T o := by
  cases o with
  | none => exact fun x hx => h x ((e x).2 hx)
  | some l => exact ⟨(e l).1 h.1, fun x hx => h.2 x ((e x).2 hx)⟩
theorem fillF_Lm (ms : List Int) (lo hi all : Int) : Lm (Fea ms lo hi all) (fillF ms lo hi all) := by
  cases h : fillF ms lo hi all with
  | none => exact fillF_none h
  | some l => exact fillF_some h
theorem best1_Lm {S T : List Int → Prop} {b o : Option (List Int)} (hb : Lm S b) (ho : Lm T o) : Lm (fun x => S x ∨ T x) (best1 b o) := by
  cases b with
  | none =>
    cases o with
    | none => rintro x (h | h); exact hb x h; exact ho x h
    | some l => exact ⟨.inr ho.1, fun x hx => by rcases hx with h | h; exact absurd h (hb x); exact ho.2 x h⟩
  | some l =>
    cases o with
    | none => exact ⟨.inl hb.1, fun x hx => by rcases hx with h | h; exact hb.2 x h; exact absurd h (ho x)⟩
    | some l' =>
      simp only [best1]
      split
      · rename_i hc
        exact ⟨.inr ho.1, fun x hx => by rcases hx with h | h; exact cmpL_trans (Int.le_of_lt hc) (hb.2 x h); exact ho.2 x h⟩
      · rename_i hc
        have := cmpL_flip l' l
        exact ⟨.inl hb.1, fun x hx => by rcases hx with h | h; exact hb.2 x h; exact cmpL_trans (by omega) (ho.2 x h)⟩
theorem layN_Lm {ms : List Int} {all wide : Int} : ∀ (n : Nat) (low : Int) (b : Option (List Int)) (S : List Int → Prop), Lm S b → Lm (fun x => S x ∨ ∃ k : Nat, k < n ∧ Fea ms (low + k) (low + k + wide) all x) (layN ms all wide n low b)
  | 0, low, b, S, h => h.congr fun x => by simp
  | n + 1, low, b, S, h => by
    have := layN_Lm (ms := ms) (all := all) (wide := wide) n (low + 1) _ _ (best1_Lm h (fillF_Lm ms low (low + wide) all))
    refine this.congr fun x => ?_
    constructor
    · rintro ((h1 | h1) | ⟨k, hk, h1⟩)
      · exact .inl h1
      · exact .inr ⟨0, by omega, by simpa using h1⟩
      · refine .inr ⟨k + 1, by omega, ?_⟩
        rw [show low + ((k + 1 : Nat) : Int) = low + 1 + (k : Int) by omega]
        exact h1
    · rintro (h1 | ⟨k, hk, h1⟩)
      · exact .inl (.inl h1)
      · cases k with
        | zero => exact .inl (.inr (by simpa using h1))
        | succ k =>
          refine .inr ⟨k, by omega, ?_⟩
          rw [show low + ((k + 1 : Nat) : Int) = low + 1 + (k : Int) by omega] at h1
          exact h1
def Lays (ms : List Int) (L all wide : Int) (x : List Int) : Prop := ∃ low, L ≤ low ∧ low ≤ all + 5 ∧ Fea ms low (low + wide) all x
theorem layW_Lm (ms : List Int) (L all wide : Int) : Lm (Lays ms L all wide) (layW ms L all wide) := by
  unfold layW
  refine (layN_Lm (ms := ms) (all := all) (wide := wide) (all + 6 - L).toNat L none (fun _ => False) (fun _ h => h)).congr fun x => ?_
  constructor
  · rintro (h | ⟨k, hk, h⟩)
    · exact h.elim
    · exact ⟨L + k, by omega, by omega, h⟩
  · rintro ⟨low, h1, h2, h⟩
    refine .inr ⟨(low - L).toNat, by omega, ?_⟩
    rw [show L + ((low - L).toNat : Int) = low by omega]
    exact h
end S04

namespace S04
open Go Abs
/-! Looks and windows. -/
theorem btw_looks {lo hi : Int} : ∀ {ms x : List Int}, Btw (gl lo ms) (gm hi ms) x ↔ x.length = ms.length ∧ (∀ y ∈ lks ms x, lo ≤ y ∧ y ≤ hi) ∧ ∀ y ∈ x, 0 ≤ y
  | [], [] => by simp [gl, gm, Btw, lks]
  | [], _ :: _ => by simp [gl, gm, Btw]
  | _ :: _, [] => by simp [gl, gm, Btw]
  | m :: ms, x :: xs => by
    have ih := btw_looks (lo := lo) (hi := hi) (ms := ms) (x := xs)
    simp only [gl, gm] at ih
    simp only [gl, gm, List.map_cons, Btw, lks, List.length_cons, List.mem_cons, forall_eq_or_imp, ih]
    exact ⟨fun ⟨h1, h2, h3, h4, h5⟩ => ⟨by omega, ⟨by omega, h4⟩, by omega, h5⟩, fun ⟨h1, ⟨h2, h3⟩, h4, h5⟩ => ⟨by omega, by omega, by omega, h3, h5⟩⟩
def glR (L lo : Int) (ms : List Int) : List Int := ms.map fun m => max (max 0 (L - m)) (lo - m)
def FeaR (ms : List Int) (L lo hi all : Int) (x : List Int) : Prop := Btw (glR L lo ms) (gm hi ms) x ∧ sumI x = all
theorem sum_ge : ∀ {x : List Int}, (∀ y ∈ x, 0 ≤ y) → 0 ≤ sumI x ∧ ∀ y ∈ x, y ≤ sumI x
  | [], _ => by simp [sumI]
  | a :: x, h => by
    obtain ⟨h1, h2⟩ := sum_ge (x := x) fun y hy => h y (by simp [hy])
    have h0 := h a (by simp)
    simp only [sumI]
    refine ⟨by omega, fun y hy => ?_⟩
    rcases List.mem_cons.1 hy with rfl | hy
    · omega
    · have := h2 y hy; omega
theorem look_mem : ∀ {ms x : List Int} {y : Int}, y ∈ lks ms x → ∃ g ∈ x, ∃ m ∈ ms, y = g + m
  | m :: ms, g :: x, y, h => by
    simp only [lks, List.mem_cons] at h
    rcases h with rfl | h
    · exact ⟨g, by simp, m, by simp, rfl⟩
    · obtain ⟨g', h1, m', h2, h3⟩ := look_mem h
      exact ⟨g', by simp [h1], m', by simp [h2], h3⟩
  | [], _, y, h => by simp [lks] at h
  | _ :: _, [], y, h => by simp [lks] at h
theorem looks_le {ms x : List Int} {all : Int} (hm : bdd 5 ms) (h0 : ∀ y ∈ x, 0 ≤ y) (hs : sumI x = all) : ∀ y ∈ lks ms x, y ≤ all + 5 := by
  intro y hy
  obtain ⟨g, hg, m, hm', rfl⟩ := look_mem hy
  have := (sum_ge h0).2 g hg
  have := hm m hm'
  omega
/-! The first spread. -/
theorem least (p : Nat → Prop) : ∀ n, p n → ∃ m, m ≤ n ∧ p m ∧ ∀ k, k < m → ¬ p k := by
  intro n
  induction n using Nat.strongRecOn with
  | ind n ih =>
    intro hn
    by_cases h : ∃ k, k < n ∧ p k
    · obtain ⟨k, hk, hp⟩ := h
      obtain ⟨m, h1, h2, h3⟩ := ih k hk hp
      exact ⟨m, by omega, h2, h3⟩
    · exact ⟨n, Nat.le_refl _, hn, fun k hk hp => h ⟨k, hk, hp⟩⟩
def wideG (L : Int) : List Int → Int → List Int
  | [], _ => []
  | [m], r => [max 0 (L - m) + r]
  | m :: m' :: ms, r => max 0 (L - m) :: wideG L (m' :: ms) r
theorem wideG_ok {L : Int} (l0 : 0 ≤ L) (l1 : L ≤ 10) : ∀ (ms : List Int) (r : Int), ms ≠ [] → bdd 5 ms → 0 ≤ r → r ≤ 400 → Btw (gl L ms) (gm (L + 500) ms) (wideG L ms r) ∧ sumI (wideG L ms r) = clo L ms + r
  | [], _, h, _, _, _ => absurd rfl h
  | [m], r, _, hm, r0, r1 => by
    have := hm m (by simp)
    exact ⟨⟨by dsimp only; omega, by dsimp only; omega, trivial⟩, by simp only [wideG, sumI, clo]; omega⟩
  | m :: m' :: ms, r, _, hm, r0, r1 => by
    have := hm m (by simp)
    obtain ⟨h1, h2⟩ := wideG_ok l0 l1 (m' :: ms) r (by simp) (fun x hx => hm x (List.mem_cons_of_mem _ hx)) r0 r1
    refine ⟨⟨Int.le_refl _, by dsimp only; omega, h1⟩, ?_⟩
    simp only [wideG, sumI, clo] at h2 ⊢
    omega
theorem lay_ex {ms : List Int} {L all : Int} (hm : bdd 5 ms) (hne : ms ≠ []) (l0 : 0 ≤ L) (l1 : L ≤ 10) (h0 : clo L ms ≤ all) (h1 : all ≤ 400) :
    ∃ (l : List Int) (W : Int), layW ms L all W = some l ∧ 0 ≤ W ∧ W ≤ 500 ∧ ∀ k, 0 ≤ k → k < W → layW ms L all k = none := by
  have hc := clo_bd l0 l1 ms hm
  have key : layW ms L all ((500 : Nat) : Int) ≠ none := by
    intro h
    have := layW_Lm ms L all ((500 : Nat) : Int)
    rw [h] at this
    obtain ⟨h2, h3⟩ := wideG_ok l0 l1 ms (all - clo L ms) hne hm (by omega) (by omega)
    refine this (wideG L ms (all - clo L ms)) ⟨L, Int.le_refl _, ?_, h2, by omega⟩
    obtain ⟨m, ms', rfl⟩ : ∃ m ms', ms = m :: ms' := by cases ms with | nil => exact absurd rfl hne | cons m ms' => exact ⟨m, ms', rfl⟩
    have := hm m (by simp)
    have := clo_bd l0 l1 ms' fun x hx => hm x (by simp [hx])
    simp only [clo] at h0
    omega
  obtain ⟨W, hW, h2, h3⟩ := least (fun k => layW ms L all (k : Int) ≠ none) 500 key
  obtain ⟨l, hl⟩ := Option.ne_none_iff_exists'.1 h2
  refine ⟨l, W, hl, by omega, by omega, fun k k0 k1 => ?_⟩
  have := h3 k.toNat (by omega)
  rw [Int.toNat_of_nonneg k0] at this
  exact Classical.byContradiction this
theorem lay_spr {ms l : List Int} {L all W : Int} (hm : bdd 5 ms) (hne : ms ≠ []) (h : layW ms L all W = some l) (w0 : 0 ≤ W) (hl : ∀ k, 0 ≤ k → k < W → layW ms L all k = none) : sprF (lks ms l) = W := by
  have hL := layW_Lm ms L all W
  rw [h] at hL
  obtain ⟨⟨low, q1, q2, q3, q4⟩, _⟩ := hL
  rw [btw_looks] at q3
  have up : sprF (lks ms l) ≤ W := spr_is _ w0 fun x hx y hy => by
    have := q3.2.1 x hx
    have := q3.2.1 y hy
    omega
  have s0 := spr_nn (lks ms l)
  refine Classical.byContradiction fun hne2 => ?_
  have hlt : sprF (lks ms l) < W := by omega
  have hn := hl _ s0 hlt
  have hS := layW_Lm ms L all (sprF (lks ms l))
  rw [hn] at hS
  have hk : lks ms l ≠ [] := by
    intro e
    have := congrArg List.length e
    rw [lks_len ms l q3.1, q3.1] at this
    exact hne (List.eq_nil_of_length_eq_zero (by simpa using this))
  have hmm := minL_mem hk
  have hb := q3.2.1 _ hmm
  have hle := looks_le hm q3.2.2 q4 _ hmm
  refine hS l ⟨minL (lks ms l), by omega, hle, btw_looks.2 ⟨q3.1, fun y hy => ?_, q3.2.2⟩, q4⟩
  have a1 := minL_le hy
  have a2 := spr_ge hy hmm
  omega
/-! The reference's search. -/
def tryR (f : Int → Option (List Int)) : Nat → Int → Option (List Int)
  | 0, _ => none
  | k + 1, n => match f n with | some l => some l | none => tryR f k (n + 1)
def fillR (L lo hi : Int) : List Int → List Int → Int → Option (List Int)
  | [], b, all => if all = 0 then some b else none
  | m :: ms, b, all => tryR (fun n => if sumI (gm hi ms) < all - n ∨ all - n < sumI (glR L lo ms) then none else fillR L lo hi ms (b ++ [n]) (all - n)) (hi - m + 1 - max (max 0 (L - m)) (lo - m)).toNat (max (max 0 (L - m)) (lo - m))
def refN (ms : List Int) (L all wide : Int) : Nat → Int → Option (List Int) → Option (List Int)
  | 0, _, b => b
  | n + 1, low, b => refN ms L all wide n (low + 1) (best1 b (fillR L low (low + wide) ms [] all))
end S04

