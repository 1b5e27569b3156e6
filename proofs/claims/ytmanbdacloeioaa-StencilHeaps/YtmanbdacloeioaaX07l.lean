/- A part of the proof: X07l, X07m. -/
import Derived.Test.YtmanbdacloeioaaP07l
import Derived.Test.YtmanbdacloeioaaG07y
import Derived.Test.YtmanbdacloeioaaC07r0
set_option linter.unusedVariables false
set_option linter.unusedSimpArgs false
set_option maxRecDepth 20000
namespace S07
open Go Abs
end S07

namespace S07
open Go Abs
theorem wu {n : Nat} (h : n ≤ 1000) : IntKind.u64.wrap (n : Int) = (n : Int) := by
  unfold IntKind.wrap
  simp [IntKind.signed, IntKind.bits]
  omega
theorem t69 (s : Nat) {m : Nat} (hm : m ≤ 60) : Fn Q 69 [.fo (.int (s : Nat)), .fo (.int (m : Nat))] (.one (.fx (.list false (ints (idxT 0 (maskF s m)))))) := by
  refine w69 ?_
  dsimp only [c69, sop, gop, nop, qmv, qsg, qex, qld, qcl, qln, qix, qbo, qt, qi]
  simp -implicitDefEqProofs only [go_sem, simprocAttr]
  refine lpH 8 [5, 6] 8 [7] (fun k : Nat => m - k) (fun k => k ≤ m) (fun k ρ h => ρ 6 = .fv (.int k) ∧ ρ 5 = .gl 7 (h.gen 7) ∧ h.obj 7 = some (.list 3 1 false false (ints (idxT 0 (maskF s k))))) 0 (by omega) (by simp -implicitDefEqProofs only [go_sem, simprocAttr]; rfl) ?_
  rintro k ρ h hk ⟨r6, r5, o7⟩
  by_cases q : k < m
  · have q' : (k : Int) < (m : Nat) := by omega
    have hwk : IntKind.i64.wrap ((k : Int) + 1) = ((k + 1 : Nat) : Int) := wr _ (by omega) (by omega)
    have k0 : ¬ ((k : Int) < 0) := by omega
    have e6 : min k 64 = k := by omega
    have hb := bit_int s k
    have il : (idxT 0 (maskF s k)).length ≤ k := by rw [idxT_len]; have := List.length_filter_le id (maskF s k); rw [mask_len] at this; exact this
    have es : idxT 0 (maskF s (k + 1)) = idxT 0 (maskF s k) ++ if Nat.testBit s k then [(k : Int)] else [] := by
      rw [mask_succ, idxT_app, mask_len, Nat.zero_add]
    cases b : Nat.testBit s k with
    | true =>
      rw [b] at hb es
      simp only [if_true] at hb es
      simp -implicitDefEqProofs only [go_sem, simprocAttr, r6, q', wu (show k ≤ 1000 by omega), k0, e6, hb, r5]
      refine app_gl (by simp -implicitDefEqProofs only [go_sem, simprocAttr, o7]; rfl) idx_26 (by simp -implicitDefEqProofs only [go_sem, simprocAttr]; rfl) (by simp [FV.cells]) (by simp -implicitDefEqProofs only [go_sem, simprocAttr]) (by simp [byt_3, ints]; omega) (by simp [maxLen, ints]; omega) (by simp) ?_
      simp -implicitDefEqProofs only [go_sem, simprocAttr, r6, hwk]
      refine nxt (k + 1) (by omega) (by omega) ?_
      simp -implicitDefEqProofs only [go_sem, simprocAttr, es, ints, List.map_append]
    | false =>
      rw [b] at hb es
      simp only [Bool.false_eq_true, if_false, List.append_nil] at hb es
      simp -implicitDefEqProofs only [go_sem, simprocAttr, r6, q', wu (show k ≤ 1000 by omega), k0, e6, hb, hwk]
      refine nxt (k + 1) (by omega) (by omega) ?_
      simp -implicitDefEqProofs only [go_sem, simprocAttr, es, r5, o7]
  · obtain rfl : k = m := by omega
    have q' : ¬ ((k : Nat) : Int) < (k : Nat) := by omega
    simp -implicitDefEqProofs only [go_sem, simprocAttr, r6, q', r5]
    exact ret_fx (fun _ => true) (by simp -implicitDefEqProofs only [go_sem, simprocAttr, o7])
def bestV (ρ7 : LV) : Option (List Int) → Prop
  | none => ρ7 = .gl 15 1
  | some b => ρ7 = .fv (.list false (ints b))
end S07

