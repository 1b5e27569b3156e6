/- A part of the proof: P04c. -/
import Derived.Test.YtncbkgbdpaibmaaP04b
set_option linter.unusedVariables false
set_option linter.unusedSimpArgs false
namespace S04
open Go Abs
/-! Looks and windows. -/
theorem btw_looks {lo hi : Int} : ∀ {ms x : List Int}, Btw (gl lo ms) (gm hi ms) x ↔ x.length = ms.length ∧ (∀ y ∈ lks ms x, lo ≤ y ∧ y ≤ hi) ∧ ∀ y ∈ x, 0 ≤ y
  | [], [] => by simp [gl, gm, Btw, lks]
  | [], _ :: _ => by simp [gl, gm, Btw]
  | _ :: _, [] => by simp [gl, gm, Btw]
  | m :: ms, x :: xs => by
    have ih := btw_looks (lo := lo) (hi := hi) (ms := ms) (x := xs)
    simp only [gl, gm] at ih
    simp only [gl, gm, List.map_cons, Btw, lks, List.length_cons, List.mem_cons, forall_eq_or_imp, ih]
    exact ⟨fun ⟨h1, h2, h3, h4, h5⟩ => ⟨by omega, ⟨by omega, h4⟩, by omega, h5⟩, fun ⟨h1, ⟨h2, h3⟩, h4, h5⟩ => ⟨by omega, by omega, by omega, h3, h5⟩⟩
def glR (L lo : Int) (ms : List Int) : List Int := ms.map fun m => max (max 0 (L - m)) (lo - m)
theorem btwR_looks {L lo hi : Int} : ∀ {ms x : List Int}, Btw (glR L lo ms) (gm hi ms) x ↔ x.length = ms.length ∧ (∀ y ∈ lks ms x, L ≤ y ∧ lo ≤ y ∧ y ≤ hi) ∧ ∀ y ∈ x, 0 ≤ y
  | [], [] => by simp [glR, gm, Btw, lks]
  | [], _ :: _ => by simp [glR, gm, Btw]
  | _ :: _, [] => by simp [glR, gm, Btw]
  | m :: ms, x :: xs => by
    have ih := btwR_looks (L := L) (lo := lo) (hi := hi) (ms := ms) (x := xs)
    simp only [glR, gm] at ih
    simp only [glR, gm, List.map_cons, Btw, lks, List.length_cons, List.mem_cons, forall_eq_or_imp, ih]
    exact ⟨fun ⟨h1, h2, h3, h4, h5⟩ => ⟨by omega, ⟨by omega, h4⟩, by omega, h5⟩, fun ⟨h1, ⟨h2, h3⟩, h4, h5⟩ => ⟨by omega, by omega, by omega, h3, h5⟩⟩
def FeaR (ms : List Int) (L lo hi all : Int) (x : List Int) : Prop := Btw (glR L lo ms) (gm hi ms) x ∧ sumI x = all
theorem sum_ge : ∀ {x : List Int}, (∀ y ∈ x, 0 ≤ y) → 0 ≤ sumI x ∧ ∀ y ∈ x, y ≤ sumI x
  | [], _ => by simp [sumI]
  | a :: x, h => by
    obtain ⟨h1, h2⟩ := sum_ge (x := x) fun y hy => h y (by simp [hy])
    have h0 := h a (by simp)
    simp only [sumI]
    refine ⟨by omega, fun y hy => ?_⟩
    rcases List.mem_cons.1 hy with rfl | hy
    · omega
    · have := h2 y hy; omega
theorem look_mem : ∀ {ms x : List Int} {y : Int}, y ∈ lks ms x → ∃ g ∈ x, ∃ m ∈ ms, y = g + m
  | m :: ms, g :: x, y, h => by
    simp only [lks, List.mem_cons] at h
    rcases h with rfl | h
    · exact ⟨g, by simp, m, by simp, rfl⟩
    · obtain ⟨g', h1, m', h2, h3⟩ := look_mem h
      exact ⟨g', by simp [h1], m', by simp [h2], h3⟩
  | [], _, y, h => by simp [lks] at h
  | _ :: _, [], y, h => by simp [lks] at h
theorem looks_le {ms x : List Int} {all : Int} (hm : bdd 5 ms) (h0 : ∀ y ∈ x, 0 ≤ y) (hs : sumI x = all) : ∀ y ∈ lks ms x, y ≤ all + 5 := by
  intro y hy
  obtain ⟨g, hg, m, hm', rfl⟩ := look_mem hy
  have := (sum_ge h0).2 g hg
  have := hm m hm'
  omega
theorem lays_R {ms x : List Int} {L all wide : Int} (hm : bdd 5 ms) (hne : ms ≠ []) (l0 : 0 ≤ L) (w0 : 0 ≤ wide) : Lays ms L all wide x ↔ ∃ low, 0 ≤ low ∧ low ≤ all + 5 ∧ FeaR ms L low (low + wide) all x := by
  unfold Lays Fea FeaR
  constructor
  · rintro ⟨low, h1, h2, h3, h4⟩
    refine ⟨low, by omega, h2, ?_, h4⟩
    rw [btwR_looks]
    rw [btw_looks] at h3
    exact ⟨h3.1, fun y hy => by have := h3.2.1 y hy; omega, h3.2.2⟩
  · rintro ⟨low, h1, h2, h3, h4⟩
    rw [btwR_looks] at h3
    have hle := looks_le hm h3.2.2 h4
    by_cases hl : L ≤ low
    · exact ⟨low, hl, h2, btw_looks.2 ⟨h3.1, fun y hy => by have := h3.2.1 y hy; omega, h3.2.2⟩, h4⟩
    · refine ⟨L, Int.le_refl _, ?_, btw_looks.2 ⟨h3.1, fun y hy => by have := h3.2.1 y hy; omega, h3.2.2⟩, h4⟩
      obtain ⟨m, ms', rfl⟩ : ∃ m ms', ms = m :: ms' := by cases ms with | nil => exact absurd rfl hne | cons m ms' => exact ⟨m, ms', rfl⟩
      obtain ⟨g, x', rfl⟩ : ∃ g x', x = g :: x' := by cases x with | nil => simp at h3 | cons g x' => exact ⟨g, x', rfl⟩
      have a1 := h3.2.1 (g + m) (by simp [lks])
      have a2 := hle (g + m) (by simp [lks])
      omega
/-! The first spread. -/
theorem least (p : Nat → Prop) : ∀ n, p n → ∃ m, m ≤ n ∧ p m ∧ ∀ k, k < m → ¬ p k := by
  intro n
  induction n using Nat.strongRecOn with
  | ind n ih =>
    intro hn
    by_cases h : ∃ k, k < n ∧ p k
    · obtain ⟨k, hk, hp⟩ := h
      obtain ⟨m, h1, h2, h3⟩ := ih k hk hp
      exact ⟨m, by omega, h2, h3⟩
    · exact ⟨n, Nat.le_refl _, hn, fun k hk hp => h ⟨k, hk, hp⟩⟩
def wideG (L : Int) : List Int → Int → List Int
  | [], _ => []
  | [m], r => [max 0 (L - m) + r]
  | m :: m' :: ms, r => max 0 (L - m) :: wideG L (m' :: ms) r
theorem wideG_ok {L : Int} (l0 : 0 ≤ L) (l1 : L ≤ 10) : ∀ (ms : List Int) (r : Int), ms ≠ [] → bdd 5 ms → 0 ≤ r → r ≤ 400 → Btw (gl L ms) (gm (L + 500) ms) (wideG L ms r) ∧ sumI (wideG L ms r) = clo L ms + r
  | [], _, h, _, _, _ => absurd rfl h
  | [m], r, _, hm, r0, r1 => by
    have := hm m (by simp)
    exact ⟨⟨by dsimp only; omega, by dsimp only; omega, trivial⟩, by simp only [wideG, sumI, clo]; omega⟩
  | m :: m' :: ms, r, _, hm, r0, r1 => by
    have := hm m (by simp)
    obtain ⟨h1, h2⟩ := wideG_ok l0 l1 (m' :: ms) r (by simp) (fun x hx => hm x (List.mem_cons_of_mem _ hx)) r0 r1
    refine ⟨⟨Int.le_refl _, by dsimp only; omega, h1⟩, ?_⟩
    simp only [wideG, sumI, clo] at h2 ⊢
    omega
theorem lay_ex {ms : List Int} {L all : Int} (hm : bdd 5 ms) (hne : ms ≠ []) (l0 : 0 ≤ L) (l1 : L ≤ 10) (h0 : clo L ms ≤ all) (h1 : all ≤ 400) :
    ∃ (l : List Int) (W : Int), layW ms L all W = some l ∧ 0 ≤ W ∧ W ≤ 500 ∧ ∀ k, 0 ≤ k → k < W → layW ms L all k = none := by
  have hc := clo_bd l0 l1 ms hm
  have key : layW ms L all ((500 : Nat) : Int) ≠ none := by
    intro h
    have := layW_Lm ms L all ((500 : Nat) : Int)
    rw [h] at this
    obtain ⟨h2, h3⟩ := wideG_ok l0 l1 ms (all - clo L ms) hne hm (by omega) (by omega)
    refine this (wideG L ms (all - clo L ms)) ⟨L, Int.le_refl _, ?_, h2, by omega⟩
    obtain ⟨m, ms', rfl⟩ : ∃ m ms', ms = m :: ms' := by cases ms with | nil => exact absurd rfl hne | cons m ms' => exact ⟨m, ms', rfl⟩
    have := hm m (by simp)
    have := clo_bd l0 l1 ms' fun x hx => hm x (by simp [hx])
    simp only [clo] at h0
    omega
  obtain ⟨W, hW, h2, h3⟩ := least (fun k => layW ms L all (k : Int) ≠ none) 500 key
  obtain ⟨l, hl⟩ := Option.ne_none_iff_exists'.1 h2
  refine ⟨l, W, hl, by omega, by omega, fun k k0 k1 => ?_⟩
  have := h3 k.toNat (by omega)
  rw [Int.toNat_of_nonneg k0] at this
  exact Classical.byContradiction this
theorem lay_spr {ms l : List Int} {L all W : Int} (hm : bdd 5 ms) (hne : ms ≠ []) (h : layW ms L all W = some l) (w0 : 0 ≤ W) (hl : ∀ k, 0 ≤ k → k < W → layW ms L all k = none) : sprF (lks ms l) = W := by
  have hL := layW_Lm ms L all W
  rw [h] at hL
  obtain ⟨⟨low, q1, q2, q3, q4⟩, _⟩ := hL
  rw [btw_looks] at q3
  have up : sprF (lks ms l) ≤ W := spr_is _ w0 fun x hx y hy => by
    have := q3.2.1 x hx
    have := q3.2.1 y hy
    omega
  have s0 := spr_nn (lks ms l)
  refine Classical.byContradiction fun hne2 => ?_
  have hlt : sprF (lks ms l) < W := by omega
  have hn := hl _ s0 hlt
  have hS := layW_Lm ms L all (sprF (lks ms l))
  rw [hn] at hS
  have hk : lks ms l ≠ [] := by
    intro e
    have := congrArg List.length e
    rw [lks_len ms l q3.1, q3.1] at this
    exact hne (List.eq_nil_of_length_eq_zero (by simpa using this))
  have hmm := minL_mem hk
  have hb := q3.2.1 _ hmm
  have hle := looks_le hm q3.2.2 q4 _ hmm
  refine hS l ⟨minL (lks ms l), by omega, hle, btw_looks.2 ⟨q3.1, fun y hy => ?_, q3.2.2⟩, q4⟩
  have a1 := minL_le hy
  have a2 := spr_ge hy hmm
  omega
/-! The reference's search. -/
def tryR (f : Int → Option (List Int)) : Nat → Int → Option (List Int)
  | 0, _ => none
  | k + 1, n => match f n with | some l => some l | none => tryR f k (n + 1)
def fillR (L lo hi : Int) : List Int → List Int → Int → Option (List Int)
  | [], b, all => if all = 0 then some b else none
  | m :: ms, b, all => tryR (fun n => if sumI (gm hi ms) < all - n ∨ all - n < sumI (glR L lo ms) then none else fillR L lo hi ms (b ++ [n]) (all - n)) (hi - m + 1 - max (max 0 (L - m)) (lo - m)).toNat (max (max 0 (L - m)) (lo - m))
theorem tryR_some {f : Int → Option (List Int)} : ∀ (k : Nat) (n : Int) (l : List Int), tryR f k n = some l → ∃ j, n ≤ j ∧ j < n + k ∧ f j = some l ∧ ∀ i, n ≤ i → i < j → f i = none
  | 0, n, l, h => by simp [tryR] at h
  | k + 1, n, l, h => by
    unfold tryR at h
    cases hf : f n with
    | some l' =>
      rw [hf] at h
      simp only [Option.some.injEq] at h
      subst h
      exact ⟨n, Int.le_refl _, by omega, hf, fun i h1 h2 => by omega⟩
    | none =>
      rw [hf] at h
      obtain ⟨j, h1, h2, h3, h4⟩ := tryR_some k (n + 1) l h
      refine ⟨j, by omega, by omega, h3, fun i i1 i2 => ?_⟩
      by_cases e : i = n
      · subst e; exact hf
      · exact h4 i (by omega) i2
theorem tryR_none {f : Int → Option (List Int)} : ∀ (k : Nat) (n : Int), tryR f k n = none → ∀ j, n ≤ j → j < n + k → f j = none
  | 0, n, _, j, h1, h2 => by omega
  | k + 1, n, h, j, h1, h2 => by
    unfold tryR at h
    cases hf : f n with
    | some l' => rw [hf] at h; simp at h
    | none =>
      rw [hf] at h
      by_cases e : j = n
      · subst e; exact hf
      · exact tryR_none k (n + 1) h j (by omega) (by omega)
theorem fillR_spec (L lo hi : Int) : ∀ (ms b : List Int) (all : Int), match fillR L lo hi ms b all with | none => ∀ x, ¬ FeaR ms L lo hi all x | some l => ∃ x, l = b ++ x ∧ FeaR ms L lo hi all x ∧ ∀ y, FeaR ms L lo hi all y → cmpL x y ≤ 0
  | [], b, all => by
    unfold fillR
    by_cases e : all = 0
    · rw [if_pos e]
      refine ⟨[], by simp, ⟨trivial, by simp [sumI, e]⟩, fun y hy => ?_⟩
      cases y with
      | nil => simp [cmpL]
      | cons => exact hy.1.elim
    · rw [if_neg e]
      rintro x ⟨h1, h2⟩
      cases x with
      | nil => exact e (by simpa [sumI] using h2.symm)
      | cons => exact h1.elim
  | m :: ms, b, all => by
    have ih := fun n => fillR_spec L lo hi ms (b ++ [n]) (all - n)
    unfold fillR
    have prune : ∀ n x, FeaR ms L lo hi (all - n) x → ¬ (sumI (gm hi ms) < all - n ∨ all - n < sumI (glR L lo ms)) := fun n x hx => by
      have := hx.1.sum
      have := hx.2
      omega
    split
    · rename_i hn
      rintro x ⟨h1, h2⟩
      cases x with
      | nil => exact h1.elim
      | cons y ys =>
        obtain ⟨a1, a2, a3⟩ := h1
        dsimp only at a1 a2
        simp only [sumI] at h2
        have hF : FeaR ms L lo hi (all - y) ys := ⟨a3, by omega⟩
        have := tryR_none _ _ hn y a1 (by omega)
        rw [if_neg (prune y ys hF)] at this
        have h3 := ih y
        rw [this] at h3
        exact h3 ys hF
    · rename_i l hl
      obtain ⟨j, j1, j2, j3, j4⟩ := tryR_some _ _ _ hl
      split at j3
      · simp at j3
      · have h3 := ih j
        rw [j3] at h3
        obtain ⟨x, rfl, hx, hmin⟩ := h3
        refine ⟨j :: x, by simp, ⟨⟨j1, by dsimp only; omega, hx.1⟩, by have := hx.2; simp only [sumI]; omega⟩, fun y hy => ?_⟩
        cases y with
        | nil => exact hy.1.elim
        | cons z zs =>
          obtain ⟨⟨a1, a2, a3⟩, a4⟩ := hy
          dsimp only at a1 a2
          simp only [sumI] at a4
          have hz : FeaR ms L lo hi (all - z) zs := ⟨a3, by omega⟩
          simp only [cmpL]
          rcases Int.lt_trichotomy j z with h | rfl | h
          · rw [cmpI_lt h]; simp
          · simp only [cmpI_eq, ne_eq, not_true, if_false]
            exact hmin zs hz
          · have := j4 z a1 h
            rw [if_neg (prune z zs hz)] at this
            have h3 := ih z
            rw [this] at h3
            exact absurd hz (h3 zs)
theorem fillR_Lm (L lo hi : Int) (ms : List Int) (all : Int) : Lm (FeaR ms L lo hi all) (fillR L lo hi ms [] all) := by
  have := fillR_spec L lo hi ms [] all
  cases h : fillR L lo hi ms [] all with
  | none => rw [h] at this; exact this
  | some l =>
    rw [h] at this
    obtain ⟨x, rfl, h1, h2⟩ := this
    exact ⟨h1, h2⟩
def refN (ms : List Int) (L all wide : Int) : Nat → Int → Option (List Int) → Option (List Int)
  | 0, _, b => b
  | n + 1, low, b => refN ms L all wide n (low + 1) (best1 b (fillR L low (low + wide) ms [] all))
theorem refN_Lm {ms : List Int} {L all wide : Int} : ∀ (n : Nat) (low : Int) (b : Option (List Int)) (S : List Int → Prop), Lm S b → Lm (fun x => S x ∨ ∃ k : Nat, k < n ∧ FeaR ms L (low + k) (low + k + wide) all x) (refN ms L all wide n low b)
  | 0, low, b, S, h => h.congr fun x => by simp
  | n + 1, low, b, S, h => by
    have := refN_Lm (ms := ms) (L := L) (all := all) (wide := wide) n (low + 1) _ _ (best1_Lm h (fillR_Lm L low (low + wide) ms all))
    refine this.congr fun x => ?_
    constructor
    · rintro ((h1 | h1) | ⟨k, hk, h1⟩)
      · exact .inl h1
      · exact .inr ⟨0, by omega, by simpa using h1⟩
      · refine .inr ⟨k + 1, by omega, ?_⟩
        rw [show low + ((k + 1 : Nat) : Int) = low + 1 + (k : Int) by omega]
        exact h1
    · rintro (h1 | ⟨k, hk, h1⟩)
      · exact .inl (.inl h1)
      · cases k with
        | zero => exact .inl (.inr (by simpa using h1))
        | succ k =>
          refine .inr ⟨k, by omega, ?_⟩
          rw [show low + ((k + 1 : Nat) : Int) = low + 1 + (k : Int) by omega] at h1
          exact h1
theorem ref_lay {ms : List Int} {L all wide : Int} (hm : bdd 5 ms) (hne : ms ≠ []) (l0 : 0 ≤ L) (w0 : 0 ≤ wide) (a0 : -6 ≤ all) : refN ms L all wide (all + 6).toNat 0 none = layW ms L all wide := by
  refine Lm.uniq (S := Lays ms L all wide) ?_ (layW_Lm ms L all wide)
  refine (refN_Lm (ms := ms) (L := L) (all := all) (wide := wide) (all + 6).toNat 0 none (fun _ => False) (fun _ h => h)).congr fun x => ?_
  rw [lays_R hm hne l0 w0]
  constructor
  · rintro (h | ⟨k, hk, h⟩)
    · exact h.elim
    · exact ⟨0 + k, by omega, by omega, h⟩
  · rintro ⟨low, h1, h2, h⟩
    refine .inr ⟨low.toNat, by omega, ?_⟩
    rw [show (0 : Int) + (low.toNat : Int) = low by omega]
    exact h
end S04

