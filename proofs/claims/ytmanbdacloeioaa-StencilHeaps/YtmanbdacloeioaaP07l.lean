/- A part of the proof: P07l, P07m, P07o. -/
import Derived.Test.YtmanbdacloeioaaP07h
import Derived.Test.YtmanbdacloeioaaP07aa
import Derived.Test.YtmanbdacloeioaaG07v
set_option linter.unusedVariables false
set_option linter.unusedSectionVars false
set_option linter.unusedSimpArgs false
namespace S07
open Go Abs
/-! Laying, all stencils tried. -/
def srch {α : Type} (f : Nat → Option α) : Nat → Nat → Option α
  | 0, _ => none
  | n + 1, k => match f k with
    | some r => some r
    | none => srch f n (k + 1)
structure CntB (N : Int) (c : List Int) : Prop where
  len : (c.length : Nat) = N
  bd : ∀ n ∈ c, 0 ≤ n ∧ n ≤ 20
theorem CountOk.b {N : Int} {c : List Int} (h : CountOk N c) : CntB N c := ⟨h.len, fun n hn => by have := h.bd n hn; omega⟩
def layR (N : Int) (H : List (Int × Int)) : List Int → List Int → Option (List Int)
  | [], _ => some []
  | l :: ws, c => srch (fun st : Nat => if ((st : Int) = l ∨ headF H (st : Int) = l) ∧ gI c (st : Nat) ≠ 0 then (layR N H ws (addAt c (st : Nat) (-1))).map ((st : Int) :: ·) else none) N.toNat 0
def enough (q : Al) (ws c : List Int) : Prop := ∀ x, cntP x (ws.map q.pool) ≤ hasP q.pool c 0 x
section
variable {N : Int} {H A : List (Int × Int)} (eA : errA N H A = 0)
include eA
end
/-! The fewest places. -/
def lex : List Int → List Int → Bool
  | [], _ => true
  | _ :: _, [] => false
  | a :: as_, b :: bs => if a = b then lex as_ bs else decide (a < b)
def leL (a b : List Int) : Prop := a.length < b.length ∨ (a.length = b.length ∧ lex a b = true)
section
variable {N : Int} {H A : List (Int × Int)} (eA : errA N H A = 0) {c w : List Int} (hc : CntB N c) (hw : ∀ l ∈ w, 0 ≤ l ∧ l < N)
include eA hc hw
end
end S07

namespace S07
open Go Abs
def maskF (s k : Nat) : List Bool := (List.range k).map (fun i => Nat.testBit s i)
theorem mask_len (s k : Nat) : (maskF s k).length = k := by simp [maskF]
theorem mask_succ (s k : Nat) : maskF s (k + 1) = maskF s k ++ [Nat.testBit s k] := by simp [maskF, List.range_succ]
theorem mask_get {s k i : Nat} (h : i < k) : (maskF s k)[i]? = some (Nat.testBit s i) := by simp [maskF, h]
theorem mask_surj : ∀ (bs : List Bool), ∃ s, s < 2 ^ bs.length ∧ maskF s bs.length = bs
  | [] => ⟨0, by simp, rfl⟩
  | b :: bs => by
    obtain ⟨s, h1, h2⟩ := mask_surj bs
    refine ⟨2 * s + b.toNat, ?_, ?_⟩
    · simp only [List.length_cons, Nat.pow_succ]
      cases b <;> simp <;> omega
    · have h0 : Nat.testBit (2 * s + b.toNat) 0 = b := by
        cases b <;> simp [Nat.testBit_zero] <;> omega
      have hs : ∀ i, Nat.testBit (2 * s + b.toNat) (i + 1) = Nat.testBit s i := by
        intro i
        rw [Nat.testBit_succ]
        congr 1
        cases b <;> simp <;> omega
      unfold maskF at h2 ⊢
      rw [List.length_cons, List.range_succ_eq_map, List.map_cons, List.map_map, h0]
      congr 1
      rw [← h2]
      simp only [List.length_map, List.length_range]
      refine List.map_congr_left fun i _ => ?_
      exact hs i
theorem bit_int (s k : Nat) : ((s : Int) / 2 ^ k) % 2 = if Nat.testBit s k then 1 else 0 := by
  rw [Nat.testBit_eq_decide_div_mod_eq]
  have : ((s : Int) / 2 ^ k) % 2 = ((s / 2 ^ k % 2 : Nat) : Int) := by push_cast; rfl
  rw [this]
  have := Nat.mod_lt (s / 2 ^ k) (show 0 < 2 by decide)
  by_cases h : s / 2 ^ k % 2 = 1
  · simp [h]
  · simp [h]; omega
theorem idxT_app : ∀ (i : Nat) (bs : List Bool) (b : Bool), idxT i (bs ++ [b]) = idxT i bs ++ if b then [((i + bs.length : Nat) : Int)] else []
  | i, [], b => by cases b <;> simp [idxT]
  | i, a :: bs, b => by
    have ih := idxT_app (i + 1) bs b
    have e : i + 1 + bs.length = i + (a :: bs).length := by simp; omega
    rw [e] at ih
    cases a <;> simp only [List.cons_append, idxT, if_true, if_false, Bool.false_eq_true, ih]
theorem idxT_small {bs : List Bool} {m : Nat} (h : bs.length ≤ m) : ∀ n ∈ idxT 0 bs, 0 ≤ n ∧ n < (m : Nat) := by
  intro n hn
  obtain ⟨j, h1, h2⟩ := (idxT_mem 0 bs n).1 hn
  have := (List.getElem?_eq_some_iff.1 h2).1
  omega
end S07

namespace S07
open Go Abs
/-! The lists of cases of a heap, by their order. -/
def lexB : List Int → List Int → Bool
  | [], [] => false
  | [], _ :: _ => true
  | _ :: _, [] => false
  | a :: ac, b :: bs => if a = b then lexB ac bs else decide (a < b)
theorem lexB_irr : ∀ (a : List Int), lexB a a = false
  | [] => rfl
  | a :: ac => by simp [lexB, lexB_irr ac]
theorem lexB_trans : ∀ (a b c : List Int), lexB a b = true → lexB b c = true → lexB a c = true
  | [], [], _, h, _ => by simp [lexB] at h
  | [], _ :: _, [], _, h => by simp [lexB] at h
  | [], _ :: _, _ :: _, _, _ => rfl
  | _ :: _, [], _, h, _ => by simp [lexB] at h
  | _ :: _, _ :: _, [], _, h => by simp [lexB] at h
  | a :: ac, b :: bs, c :: cs, h1, h2 => by
    simp only [lexB] at h1 h2 ⊢
    by_cases e1 : a = b
    · subst e1
      rw [if_pos rfl] at h1
      by_cases e2 : a = c
      · subst e2
        rw [if_pos rfl] at h2 ⊢
        exact lexB_trans ac bs cs h1 h2
      · rw [if_neg e2] at h2 ⊢; exact h2
    · rw [if_neg e1] at h1
      by_cases e2 : b = c
      · subst e2
        rw [if_neg e1]; exact h1
      · rw [if_neg e2] at h2
        simp only [decide_eq_true_eq] at h1 h2
        rw [if_neg (by omega)]
        simp only [decide_eq_true_eq]; omega
theorem lexB_total : ∀ (a b : List Int), a ≠ b → lexB a b = false → lexB b a = true
  | [], [], h, _ => absurd rfl h
  | [], _ :: _, _, h => by simp [lexB] at h
  | _ :: _, [], _, _ => rfl
  | a :: ac, b :: bs, h1, h2 => by
    simp only [lexB] at h2 ⊢
    by_cases e : a = b
    · subst e
      rw [if_pos rfl] at h2 ⊢
      exact lexB_total ac bs (fun h => h1 (by rw [h])) h2
    · rw [if_neg e] at h2
      rw [if_neg (fun h => e h.symm)]
      simp only [decide_eq_true_eq, decide_eq_false_iff_not] at h2 ⊢
      omega
theorem ordF_lex : ∀ (a b : List Int), (∀ n ∈ a, 0 ≤ n ∧ n < 100) → (∀ n ∈ b, 0 ≤ n ∧ n < 100) → decide (ordF a b < 0) = lexB a b
  | [], [], _, _ => by simp [ordF, lexB]
  | [], _ :: _, _, _ => by simp [ordF, lexB] <;> omega
  | _ :: _, [], _, _ => by simp [ordF, lexB] <;> omega
  | a :: ac, b :: bs, ha, hb => by
    have h1 := ha a (by simp)
    have h2 := hb b (by simp)
    have ih := ordF_lex ac bs (fun n hn => ha n (by simp [hn])) (fun n hn => hb n (by simp [hn]))
    simp only [ordF, lexB]
    split
    · exact ih
    · rw [wr _ (by omega) (by omega)]
      congr 1
      apply propext; constructor <;> intro h <;> omega
abbrev Lex (L : List (List Int)) : Prop := L.Pairwise fun a b => lexB a b = true
theorem lex_ext : ∀ (L M : List (List Int)), Lex L → Lex M → (∀ x, x ∈ L ↔ x ∈ M) → L = M
  | [], [], _, _, _ => rfl
  | [], b :: M, _, _, h => by have := (h b).2 (by simp); simp at this
  | a :: L, [], _, _, h => by have := (h a).1 (by simp); simp at this
  | a :: L, b :: M, hL, hM, h => by
    have pL := List.pairwise_cons.1 hL
    have pM := List.pairwise_cons.1 hM
    have e : a = b := by
      rcases List.mem_cons.1 ((h a).1 (by simp)) with h1 | h1
      · exact h1
      · rcases List.mem_cons.1 ((h b).2 (by simp)) with h2 | h2
        · exact h2.symm
        · have := lexB_trans a b a (pL.1 b h2) (pM.1 a h1)
          rw [lexB_irr] at this; simp at this
    subst e
    congr 1
    refine lex_ext L M pL.2 pM.2 fun x => ⟨fun hx => ?_, fun hx => ?_⟩
    · rcases List.mem_cons.1 ((h x).1 (by simp [hx])) with h1 | h1
      · subst h1; have := pL.1 x hx; rw [lexB_irr] at this; simp at this
      · exact h1
    · rcases List.mem_cons.1 ((h x).2 (by simp [hx])) with h1 | h1
      · subst h1; have := pM.1 x hx; rw [lexB_irr] at this; simp at this
      · exact h1
def whF (l : List Int) (out : List (List Int)) : Nat → Nat
  | 0 => 0
  | k + 1 => if ordF l (out.getD k []) < 0 then whF l out k else k + 1
theorem whF_le (l : List Int) (out : List (List Int)) : ∀ k, whF l out k ≤ k
  | 0 => Nat.le_refl _
  | k + 1 => by
    have := whF_le l out k
    simp only [whF]; split <;> omega
theorem whF_after (l : List Int) (out : List (List Int)) : ∀ k j, whF l out k ≤ j → j < k → ordF l (out.getD j []) < 0
  | 0, j, _, h => by omega
  | k + 1, j, h1, h2 => by
    simp only [whF] at h1
    split at h1
    · rename_i h
      by_cases e : j = k
      · subst e; exact h
      · exact whF_after l out k j h1 (by omega)
    · omega
theorem whF_before (l : List Int) (out : List (List Int)) : ∀ k, whF l out k = 0 ∨ ¬ ordF l (out.getD (whF l out k - 1) []) < 0
  | 0 => .inl rfl
  | k + 1 => by
    simp only [whF]
    split
    · exact whF_before l out k
    · rename_i h; right; simpa using h
def insL (l : List Int) (out : List (List Int)) : List (List Int) := out.take (whF l out out.length) ++ [l] ++ out.drop (whF l out out.length)
theorem insL_mem (l : List Int) (out : List (List Int)) (x : List Int) : x ∈ insL l out ↔ x = l ∨ x ∈ out := by
  have : x ∈ out ↔ x ∈ out.take (whF l out out.length) ∨ x ∈ out.drop (whF l out out.length) := by
    rw [← List.mem_append, List.take_append_drop]
  rw [this]
  unfold insL
  simp only [List.mem_append, List.mem_singleton]
  constructor
  · rintro ((h | h) | h)
    · exact .inr (.inl h)
    · exact .inl h
    · exact .inr (.inr h)
  · rintro (h | h | h)
    · exact .inl (.inr h)
    · exact .inl (.inl h)
    · exact .inr h
def Sm (l : List Int) : Prop := ∀ n ∈ l, 0 ≤ n ∧ n < 100
theorem insL_lex {l : List Int} {out : List (List Int)} (hs : Lex out) (hn : l ∉ out) (sl : Sm l) (so : ∀ r ∈ out, Sm r) : Lex (insL l out) := by
  have hle := whF_le l out out.length
  have haf := whF_after l out out.length
  have hbe := whF_before l out out.length
  unfold insL
  generalize whF l out out.length = a at *
  have hs' : Lex (out.take a ++ out.drop a) := by rw [List.take_append_drop]; exact hs
  obtain ⟨p1, p2, p3⟩ := List.pairwise_append.1 hs'
  have get : ∀ j, j < out.length → out[j]? = some (out.getD j []) := fun j hj => by simp [List.getD_eq_getElem?_getD, List.getElem?_eq_getElem hj]
  have after : ∀ x ∈ out.drop a, lexB l x = true := by
    intro x hx
    obtain ⟨j, hj⟩ := List.mem_iff_getElem?.1 hx
    rw [List.getElem?_drop] at hj
    have hlt := (List.getElem?_eq_some_iff.1 hj).1
    have h1 := haf (a + j) (by omega) hlt
    rw [get _ hlt] at hj
    simp only [Option.some.injEq] at hj
    rw [hj] at h1
    have := ordF_lex l x sl (so x (List.mem_of_mem_drop hx))
    rw [← this]; simpa using h1
  have before : ∀ x ∈ out.take a, lexB x l = true := by
    intro x hx
    obtain ⟨j, hj⟩ := List.mem_iff_getElem?.1 hx
    rw [List.getElem?_take] at hj
    split at hj
    · rename_i hja
      have hlt := (List.getElem?_eq_some_iff.1 hj).1
      have hlast : lexB (out.getD (a - 1) []) l = true := by
        have hm : out.getD (a - 1) [] ∈ out := List.mem_of_getElem? (get (a - 1) (by omega))
        rcases hbe with h0 | h0
        · omega
        · refine lexB_total _ _ (fun e => hn (e ▸ hm)) ?_
          have := ordF_lex l (out.getD (a - 1) []) sl (so _ hm)
          rw [← this]; simpa using h0
      by_cases e : j = a - 1
      · subst e
        rw [get _ hlt] at hj
        simp only [Option.some.injEq] at hj
        rw [← hj]; exact hlast
      · refine lexB_trans _ _ _ ?_ hlast
        have hp := List.pairwise_iff_getElem.1 hs j (a - 1) hlt (by omega) (by omega)
        have e1 : out[j] = x := by rw [List.getElem?_eq_getElem hlt] at hj; simpa using hj
        have e2 : out[a - 1]'(by omega) = out.getD (a - 1) [] := by
          have := get (a - 1) (by omega)
          rw [List.getElem?_eq_getElem (by omega)] at this
          simpa using this
        rw [e1, e2] at hp; exact hp
    · simp at hj
  refine List.pairwise_append.2 ⟨List.pairwise_append.2 ⟨p1, by simp, fun x hx y hy => ?_⟩, p2, fun x hx y hy => ?_⟩
  · simp only [List.mem_singleton] at hy; subst hy; exact before x hx
  · rcases List.mem_append.1 hx with hx | hx
    · exact p3 x hx y hy
    · simp only [List.mem_singleton] at hx; subst hx; exact after y hy
def colF (fe : Nat → Bool) (m : Nat) : Nat → List (List Int)
  | 0 => []
  | n + 1 => if n ≠ 0 ∧ fe n = true then insL (idxT 0 (maskF n m)) (colF fe m n) else colF fe m n
theorem idxT_inj : ∀ (a b : List Bool) (i : Nat), a.length = b.length → idxT i a = idxT i b → a = b
  | [], [], _, _, _ => rfl
  | [], _ :: _, _, h, _ => by simp at h
  | _ :: _, [], _, h, _ => by simp at h
  | x :: a, y :: b, i, h, e => by
    have hl : a.length = b.length := by simpa using h
    have lo : ∀ (c : List Bool) (n : Int), n ∈ idxT (i + 1) c → (i : Int) < n := fun c n hn => by
      obtain ⟨j, rfl, _⟩ := (idxT_mem (i + 1) c n).1 hn; omega
    cases x <;> cases y <;> simp only [idxT, if_true, if_false, Bool.false_eq_true, List.nil_append, List.singleton_append] at e
    · rw [idxT_inj a b (i + 1) hl e]
    · have := lo a i (by rw [e]; simp)
      omega
    · have := lo b i (by rw [← e]; simp)
      omega
    · simp only [List.cons.injEq, true_and] at e
      rw [idxT_inj a b (i + 1) hl e]
theorem mask_inj {s t m : Nat} (hs : s < 2 ^ m) (ht : t < 2 ^ m) (h : maskF s m = maskF t m) : s = t := by
  apply Nat.eq_of_testBit_eq
  intro i
  by_cases hi : i < m
  · have h1 := mask_get (s := s) hi
    have h2 := mask_get (s := t) hi
    rw [h] at h1
    rw [h1] at h2
    simpa using h2
  · have hp : 2 ^ m ≤ 2 ^ i := Nat.pow_le_pow_right (by decide) (by omega)
    rw [Nat.testBit_lt_two_pow (by omega), Nat.testBit_lt_two_pow (by omega)]
theorem idxm_inj {s t m : Nat} (hs : s < 2 ^ m) (ht : t < 2 ^ m) (h : idxT 0 (maskF s m) = idxT 0 (maskF t m)) : s = t :=
  mask_inj hs ht (idxT_inj _ _ 0 (by rw [mask_len, mask_len]) h)
theorem idxm_sm {s m : Nat} (hm : m ≤ 100) : Sm (idxT 0 (maskF s m)) := fun n hn => by
  have := idxT_small (m := m) (by rw [mask_len]; exact Nat.le_refl _) n hn
  omega
theorem colF_spec (fe : Nat → Bool) {m : Nat} (hm : m ≤ 100) : ∀ n, n ≤ 2 ^ m → Lex (colF fe m n) ∧ (∀ r ∈ colF fe m n, Sm r) ∧ (∀ x, x ∈ colF fe m n ↔ ∃ s, s < n ∧ s ≠ 0 ∧ fe s = true ∧ x = idxT 0 (maskF s m)) ∧ (colF fe m n).length ≤ n
  | 0, _ => ⟨.nil, by simp [colF], fun x => ⟨fun h => by simp [colF] at h, fun ⟨s, h, _⟩ => by omega⟩, by simp [colF]⟩
  | n + 1, h => by
    obtain ⟨h1, h2, h3, h4⟩ := colF_spec fe hm n (by omega)
    simp only [colF]
    split
    · rename_i hc
      refine ⟨insL_lex h1 (fun hin => ?_) (idxm_sm hm) h2, fun r hr => ?_, fun x => ?_, ?_⟩
      · obtain ⟨s, hs, _, _, e⟩ := (h3 _).1 hin
        have := idxm_inj (by omega) (by omega) e
        omega
      · rcases (insL_mem _ _ _).1 hr with h | h
        · subst h; exact idxm_sm hm
        · exact h2 r h
      · rw [insL_mem, h3]
        constructor
        · rintro (e | ⟨s, hs, h⟩)
          · exact ⟨n, by omega, hc.1, hc.2, e⟩
          · exact ⟨s, by omega, h⟩
        · rintro ⟨s, hs, h5, h6, h7⟩
          by_cases e : s = n
          · subst e; exact .inl h7
          · exact .inr ⟨s, by omega, h5, h6, h7⟩
      · have := whF_le (idxT 0 (maskF n m)) (colF fe m n) (colF fe m n).length
        simp only [insL, List.length_append, List.length_take, List.length_drop, List.length_cons, List.length_nil]
        omega
    · rename_i hc
      refine ⟨h1, h2, fun x => ?_, by omega⟩
      rw [h3]
      constructor
      · rintro ⟨s, hs, h⟩; exact ⟨s, by omega, h⟩
      · rintro ⟨s, hs, h5, h6, h7⟩
        refine ⟨s, ?_, h5, h6, h7⟩
        by_cases e : s = n
        · subst e; exact absurd ⟨h5, h6⟩ hc
        · omega
/-! The lists of a heap are in order. -/
theorem loopG_out (c : List Int) (lost : Int) : ∀ (W : List (List Int)) (l all : List Int) (k : Nat) (r : List Int), r ∈ loopG c lost W l all k → ∃ bs, bs.length = W.length ∧ idxT k bs ≠ [] ∧ r = l ++ idxT k bs ∧ isOfF c 0 (sumS W bs all) 0 lost = true
  | [], _, _, _, _, h => by simp [loopG] at h
  | x :: xs, l, all, k, r, h => by
    simp only [loopG, List.mem_append] at h
    rcases h with (h | h) | h
    · unfold own1 at h
      split at h
      · rename_i hf
        simp only [List.mem_singleton] at h
        have hz : idxT (k + 1) (List.replicate xs.length false) = [] := by
          generalize xs.length = n
          generalize k + 1 = i
          induction n generalizing i with
          | zero => rfl
          | succ n ih => simp [List.replicate_succ, idxT, ih]
        refine ⟨true :: List.replicate xs.length false, by simp, by simp [idxT], by simp [idxT, hz, h], ?_⟩
        simp only [sumS, if_true]
        rw [sumS_none xs _ _ (k + 1) hz]; exact hf
      · simp at h
    · obtain ⟨bs, h1, h2, h3, h4⟩ := loopG_out c lost xs _ _ (k + 1) r h
      exact ⟨true :: bs, by simp [h1], by simp [idxT], by simp [idxT, h3], by simpa [sumS] using h4⟩
    · obtain ⟨bs, h1, h2, h3, h4⟩ := loopG_out c lost xs _ _ (k + 1) r h
      exact ⟨false :: bs, by simp [h1], by simpa [idxT] using h2, by simp [idxT, h3], by simpa [sumS] using h4⟩
theorem lexB_app : ∀ (l a b : List Int), lexB (l ++ a) (l ++ b) = lexB a b
  | [], _, _ => rfl
  | x :: l, a, b => by simp [lexB, lexB_app l a b]
theorem loopG_lex (c : List Int) (lost : Int) : ∀ (W : List (List Int)) (l all : List Int) (k : Nat), Lex (loopG c lost W l all k)
  | [], _, _, _ => .nil
  | x :: xs, l, all, k => by
    have i1 := loopG_lex c lost xs (l ++ [(k : Int)]) (addI x 0 all) (k + 1)
    have i2 := loopG_lex c lost xs l all (k + 1)
    have o1 := loopG_out c lost xs (l ++ [(k : Int)]) (addI x 0 all) (k + 1)
    have o2 := loopG_out c lost xs l all (k + 1)
    have ow : ∀ r ∈ own1 c lost (l ++ [(k : Int)]) (addI x 0 all), r = l ++ [(k : Int)] := by
      intro r hr
      unfold own1 at hr
      split at hr
      · simpa using hr
      · simp at hr
    have late : ∀ r ∈ loopG c lost xs l all (k + 1), ∀ s : List Int, lexB (l ++ (k : Int) :: s) r = true := by
      intro r hr s
      obtain ⟨bs, _, h2, h3, _⟩ := o2 r hr
      subst h3
      rw [lexB_app]
      cases hi : idxT (k + 1) bs with
      | nil => exact absurd hi h2
      | cons y ys =>
        have hy : y ∈ idxT (k + 1) bs := by rw [hi]; simp
        obtain ⟨j, rfl, _⟩ := (idxT_mem (k + 1) bs y).1 hy
        simp only [lexB]
        rw [if_neg (by omega)]
        simp only [decide_eq_true_eq]; omega
    simp only [loopG]
    refine List.pairwise_append.2 ⟨List.pairwise_append.2 ⟨?_, i1, fun a ha b hb => ?_⟩, i2, fun a ha b hb => ?_⟩
    · unfold own1; split <;> simp
    · rw [ow a ha]
      obtain ⟨bs, _, h2, h3, _⟩ := o1 b hb
      subst h3
      have : l ++ [(k : Int)] = (l ++ [(k : Int)]) ++ [] := by simp
      rw [this, List.append_assoc (l ++ [(k : Int)])]
      simp only [List.nil_append]
      rw [lexB_app]
      cases hi : idxT (k + 1) bs with
      | nil => exact absurd hi h2
      | cons y ys => rfl
    · rcases List.mem_append.1 ha with ha | ha
      · rw [ow a ha]
        exact late b hb []
      · obtain ⟨bs, _, h2, h3, _⟩ := o1 a ha
        subst h3
        have := late b hb (idxT (k + 1) bs)
        simpa using this
theorem col_whose {c : List Int} {lost : Int} {W : List (List Int)} {all : List Int} (hm : W.length ≤ 100) {fe : Nat → Bool} (hf : ∀ s, s < 2 ^ W.length → fe s = isOfF c 0 (sumS W (maskF s W.length) all) 0 lost) :
    colF fe W.length (2 ^ W.length) = loopG c lost W [] all 0 := by
  obtain ⟨h1, _, h3, _⟩ := colF_spec fe hm (2 ^ W.length) (Nat.le_refl _)
  refine lex_ext _ _ h1 (loopG_lex c lost W [] all 0) fun x => ?_
  rw [h3]
  constructor
  · rintro ⟨s, hs, hs0, hfe, rfl⟩
    have ne : idxT 0 (maskF s W.length) ≠ [] := by
      intro e
      have e0 : idxT 0 (maskF 0 W.length) = [] := idxT_nil_of fun j hj => by
        have : j < W.length := by have := (List.getElem?_eq_some_iff.1 hj).1; rwa [mask_len] at this
        rw [mask_get this] at hj; simp at hj
      exact hs0 (idxm_inj hs (Nat.two_pow_pos _) (e.trans e0.symm))
    have := loopG_in c lost W (maskF s W.length) [] all 0 (mask_len _ _) ne (by rw [← hf s hs]; exact hfe)
    simpa using this
  · intro hx
    obtain ⟨bs, b1, b2, b3, b4⟩ := loopG_out c lost W [] all 0 x hx
    obtain ⟨s, hs, hm⟩ := mask_surj bs
    rw [b1] at hs hm
    refine ⟨s, hs, ?_, by rw [hf s hs, hm]; exact b4, by rw [hm]; simpa using b3⟩
    rintro rfl
    apply b2
    rw [← hm]
    exact idxT_nil_of fun j hj => by
      have : j < W.length := by have := (List.getElem?_eq_some_iff.1 hj).1; rwa [mask_len] at this
      rw [mask_get this] at hj; simp at hj
end S07

