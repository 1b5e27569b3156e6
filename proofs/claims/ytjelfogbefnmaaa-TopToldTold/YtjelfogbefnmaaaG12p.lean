/- A part of the proof: G12p, G12q. -/
import Derived.Test.YtjelfogbefnmaaaG12n
set_option linter.unusedVariables false
set_option linter.unusedSimpArgs false
namespace S12
open Go Abs
theorem upto_lt : ∀ (l : List Int) (i d : Int), d < 2 * i → upto d (mkM l i) = 0
  | [], _, _, _ => rfl
  | x :: l, i, d, h => by
    have := upto_lt l (i + 1) d (by omega)
    simp only [mkM, upto, this]
    rw [if_neg (by omega)]; rfl
/-- The first day at which L is below nothing. -/
def fst (L : Int → Int) : Nat → Nat → Int
  | _, 0 => -1
  | k, n + 1 => if L k < 0 then (k : Int) else fst L (k + 1) n
theorem fst_none (L : Int → Int) : ∀ (n k : Nat), (∀ d : Int, (k : Int) ≤ d → ¬ L d < 0) → fst L k n = -1
  | 0, _, _ => rfl
  | n + 1, k, h => by
    simp only [fst]
    rw [if_neg (h k (by omega))]
    exact fst_none L n (k + 1) fun d hd => h d (by push_cast at hd; omega)
theorem fst_done (L : Int → Int) (c : Int) : ∀ (l : List Int) (i n : Nat) (r : Int), 0 ≤ r → 2 * l.length ≤ n → (∀ d : Int, 2 * (i : Int) ≤ d → L d = r - upto d (mkM l i) * c) →
    fst L (2 * i) n = if doneF c (l.map nf) r i < i + l.length then 2 * (doneF c (l.map nf) r i : Int) else -1
  | [], i, n, r, hr, hn, hL => by
    rw [fst_none L n (2 * i) fun d hd => ?_]
    · simp [doneF]
    · rw [hL d (by push_cast at hd; omega)]
      simp [mkM, upto]; omega
  | x :: l, i, n, r, hr, hn, hL => by
    obtain ⟨n, rfl⟩ : ∃ m, n = m + 2 := ⟨n - 2, by simp at hn; omega⟩
    have e1 : ∀ d : Int, 2 * (i : Int) ≤ d → L d = r - (nf x + upto d (mkM l (i + 1))) * c := by
      intro d hd
      rw [hL d hd]
      simp only [mkM, upto]
      rw [if_pos hd]
    have z : ∀ d : Int, d < 2 * ((i : Int) + 1) → 2 * (i : Int) ≤ d → L d = r - nf x * c := by
      intro d h1 h2
      rw [e1 d h2, upto_lt l (i + 1) d h1]
      simp
    have z1 := z (2 * i : Nat) (by push_cast; omega) (by push_cast; omega)
    have z2 := z (2 * i + 1 : Nat) (by push_cast; omega) (by push_cast; omega)
    simp only [fst, List.map_cons, doneF]
    by_cases h : r - nf x * c < 0
    · rw [if_pos (by rw [z1]; exact h), if_pos h]
      simp
    · rw [if_neg (by rw [z1]; exact h), if_neg (by rw [z2]; exact h), if_neg h]
      have := fst_done L c l (i + 1) n (r - nf x * c) (by omega) (by simp at hn; omega) (fun d hd => by
        rw [e1 d (by push_cast at hd; omega)]
        push_cast
        rw [Int.add_mul]; omega)
      rw [show 2 * i + 1 + 1 = 2 * (i + 1) by omega, this]
      simp only [List.length_cons]
      rw [show i + 1 + l.length = i + (l.length + 1) by omega]
theorem lowF_fst {st lo hi : Int} {es ms : List (Int × Int)} (h : ∀ d, lowL st lo es ms d < 0 → lowL st hi es ms d < 0) : ∀ (n k : Nat) (p : Int),
    (lowF st lo hi es ms k n p).1 = fst (lowL st lo es ms) k n ∧ (lowF st lo hi es ms k n p).2 = if p = -1 then fst (lowL st hi es ms) k n else p
  | 0, k, p => by
    simp only [lowF, fst, true_and]
    split <;> simp_all
  | n + 1, k, p => by
    simp only [lowF, fst]
    by_cases h1 : lowL st lo es ms k < 0
    · have h2 := h k h1
      simp [h1, h2]
    · by_cases h2 : lowL st hi es ms k < 0
      · by_cases h3 : p = -1
        · subst h3
          have := lowF_fst h n (k + 1) (k : Int)
          have hk : ¬ ((k : Int) = -1) := by omega
          simp [h1, h2, this.1, this.2, hk]
        · have := lowF_fst h n (k + 1) p
          simp [h1, h2, h3, this.1, this.2]
      · have := lowF_fst h n (k + 1) p
        simp [h1, h2, this.1, this.2]
theorem upto_all : ∀ (l : List Int) (i d : Int), 2 * (i + l.length) ≤ d → upto d (mkM l i) = tot (l.map nf)
  | [], _, _, _ => rfl
  | x :: l, i, d, h => by
    simp only [List.length_cons] at h
    push_cast at h
    have := upto_all l (i + 1) d (by omega)
    simp only [mkM, upto, this, List.map_cons, tot]
    rw [if_pos (by omega)]
theorem plain {st lo hi : Int} {l : List Int} (s0 : 0 ≤ st) (l0 : 0 ≤ lo) (lh : lo ≤ hi) (hx : ∀ x ∈ l, 0 ≤ x) (hl : l.length ≤ 6) : Plain st lo hi (l.map nf) (mkM l 0) := by
  have hm : ∀ d, 0 ≤ upto d (mkM l 0) := fun d => upto_nn _ fun e he => by have := mkM_bd l 0 (by omega) hx (by omega) e he; omega
  have h : ∀ d, lowL st lo [] (mkM l 0) d < 0 → lowL st hi [] (mkM l 0) d < 0 := by
    intro d hd
    unfold lowL at hd ⊢
    have := Int.mul_le_mul_of_nonneg_left lh (hm d)
    omega
  have key : ∀ c, fst (lowL st c [] (mkM l 0)) 0 366 = if doneF c (l.map nf) st 0 < (l.map nf).length then 2 * (doneF c (l.map nf) st 0 : Int) else -1 := by
    intro c
    have := fst_done (lowL st c [] (mkM l 0)) c l 0 366 st s0 (by omega) (fun d hd => by simp [lowL, upto])
    simpa using this
  have hf := lowF_fst h 366 0 (-1)
  refine ⟨?_, ?_, ?_⟩
  · have := upto_all l 0 365 (by omega)
    simp only [lft, this, upto]
    simp
  · rw [hf.1, key]
  · rw [hf.2, key]; simp
end S12

namespace S12
open Go Abs
theorem law3 {a b c : Int} {s : FV} {fl : List Int} (hs : lsOf s = some (fl.map u8)) (hf : ∀ x ∈ fl, 0 ≤ x ∧ x < 256) (hl : fl.length ≤ 9223372036854775807) (a0 : 0 ≤ a) (a1 : a < 256) (b0 : 0 ≤ b) (b1 : b < 256) (c0 : 0 ≤ c) (c1 : c < 65536) :
    Fn Q 3 [.fo (.agg [u8 a, u8 b]), .fo s, .fo (.val (.int .u16 c))] (.one (.fx (.bool true))) := by
  refine t3 hs hf hl a0 a1 b0 b1 c0 c1 (plain (Int.tmod_nonneg 9000 c0) (Int.tmod_nonneg 12 a0) ?_ (fun x hx => (hf x (List.mem_of_mem_take hx)).1) (by simp; omega))
  have := Int.tmod_nonneg 8 b0
  omega
end S12

