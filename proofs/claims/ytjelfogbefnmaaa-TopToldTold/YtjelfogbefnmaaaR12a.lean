/- A part of the proof: R12a. -/
import Derived.Test.YtjelfogbefnmaaaG12p
import Derived.Test.YtjelfogbefnmaaaRows
import Derived.WalkKit
import Derived.ProofKit
import Derived.OpenShut
import Derived.ChangeOld
import Derived.Below
import Derived.SizedLaws
set_option linter.unusedVariables false
namespace R12
open Go Go.ChangeShapes Go.WideShapes Go.ChangeAt Go.RowKit Go.Proofs Go.Proofs.Ytjelfogbefnmaaa
theorem own : ownKnob Try.prog.godebug = none := by kernel_rfl
theorem laidOut : laidOutB Try.prog = true := by kernel_rfl
section
variable {H : Type} {enc : TypeId × Value → H} {W : World}
/-- An array of two bytes, opened. -/
theorem open_two {P : Program} {t e : Nat} {r : Reach} {base : Nat} {v : Value} {d : DataW H} {ps : List MemPlace} (ht : P.underlying t = some (.array 2 e)) (he : P.underlying e = some (.int .u8)) (hc : P.cellsOf e = 1) (ht2 : P.cellsOf t = 2)
    (hv : Value.okWide P W r base t v) (h : DataW.Trod enc P W 0 (fun _ => true) true t v d ps) :
    ∃ a b, v = .agg #[.int .u8 a, .int .u8 b] ∧ 0 ≤ a ∧ a < 256 ∧ 0 ≤ b ∧ b < 256 := by
  unfold Value.okWide at hv
  rw [ht] at hv
  obtain ⟨cs, rfl, hs, _⟩ := hv
  obtain ⟨fuel, hf⟩ := h
  obtain ⟨xs, m, _, _, hl, hx, hi⟩ := DataW.trod_array ht hf
  have h0 := hi 0 (by omega)
  have h1 := hi 1 (by omega)
  rw [hc] at h0 h1
  have e0 : xs[0]? = some xs[0] := by simp
  have e1 : xs[1]? = some xs[1] := by simp
  rw [e0] at h0
  rw [e1] at h1
  obtain ⟨a, ha, _, wa⟩ := DataW.trod_int he h0
  obtain ⟨b, hb, _, wb⟩ := DataW.trod_int he h1
  obtain ⟨l⟩ := cs
  have hl2 : l.length = 2 := by simpa [ht2] using hs
  obtain ⟨u, v, rfl⟩ : ∃ u v, l = [u, v] := by
    match l, hl2 with
    | [u, v], _ => exact ⟨u, v, rfl⟩
  simp [Value.cells] at ha hb
  subst ha; subst hb
  simp [Lit.wf, IntKind.min, IntKind.max, IntKind.signed, IntKind.bits] at wa wb
  exact ⟨a, b, rfl, by omega, by omega, by omega, by omega⟩
/-- A slice of bytes, opened. -/
theorem open_bytes {P : Program} {t e : Nat} {a : Option Addr} {len cap : Nat} {d : DataW H} {ps : List MemPlace} (ht : P.underlying t = some (.slice e)) (he : P.underlying e = some (.int .u8)) (hc : P.cellsOf e = 1)
    (h : DataW.Trod enc P W 0 (fun _ => true) true t (.slice a len cap) d ps) :
    ∃ (x : Abs.FV) (fl : List Int), Abs.Rep W (fun b => b < W.heap.size) (.slice a len cap) x ∧ Abs.lsOf x = some (fl.map S12.u8) ∧ (∀ n ∈ fl, 0 ≤ n ∧ n < 256) ∧ fl.length ≤ 9223372036854775807 := by
  obtain ⟨fuel, hf⟩ := h
  rcases open_ints ht he hc hf with ⟨hcs, _⟩ | ⟨y, l, c, zs, hcs, _, hl, hm, hz, _, hcell, hwz⟩
  · simp [Value.cells] at hcs
    obtain ⟨rfl, rfl, rfl⟩ := hcs
    exact ⟨.nil, [], .val _, rfl, by simp, by simp⟩
  · simp [Value.cells] at hcs
    obtain ⟨rfl, rfl, rfl⟩ := hcs
    simp only [if_true] at hz
    by_cases h0 : cap = 0
    · subst h0
      have : len = 0 := by omega
      subst this
      exact ⟨.list false [], [], .empty _ _, rfl, by simp, by simp⟩
    · have hc0 := hcell 0 (by omega)
      have hy : y.spot = none ∧ y.block < W.heap.size := by
        simp only [Addr.add, if_true] at hc0
        unfold World.cell? at hc0
        split at hc0
        · rename_i hh
          split at hc0
          · simp at hc0
          · rename_i hs
            refine ⟨by cases hsp : y.spot <;> simp_all, ?_⟩
            exact (Array.getElem?_eq_some_iff.1 hh).1
        · simp at hc0
      obtain ⟨b, off, spot⟩ := y
      obtain ⟨hsp, hlt⟩ := hy
      dsimp only at hsp hlt
      subst hsp
      have hfl : Abs.FV.flat ((zs.take len).map S12.u8) = (zs.take len).map S12.u8 := by
        generalize zs.take len = l
        induction l with
        | nil => rfl
        | cons x l ih => simp only [Abs.FV.flat, List.map_cons, List.flatMap_cons] at ih ⊢; rw [ih]; rfl
      have hlen : ((zs.take len).map S12.u8).length = len := by simp; omega
      have hget : ∀ (j : Nat) (z : Abs.FV), ((zs.take len).map S12.u8)[j]? = some z → j < zs.length ∧ z = S12.u8 (zs.getD j 0) := by
        intro j z hz'
        simp only [List.getElem?_map, Option.map_eq_some_iff] at hz'
        obtain ⟨n, hn, rfl⟩ := hz'
        rw [List.getElem?_take] at hn
        split at hn
        · have := (List.getElem?_eq_some_iff.1 hn).1
          exact ⟨this, by simp [List.getD, hn]⟩
        · simp at hn
      refine ⟨.list false ((zs.take len).map S12.u8), zs.take len, ?_, rfl, ?_, ?_⟩
      · have := Abs.Rep.list (w := W) (D := fun b => b < W.heap.size) false ((zs.take len).map S12.u8) b off cap 1 (fun j => .int .u8 (zs.getD j 0)) (by omega) hm (by simp) (by omega) ?_ (fun _ => hlt) ?_ ?_
        · rw [hlen] at this; exact this
        · intro x hx
          obtain ⟨n, _, rfl⟩ := List.mem_map.1 hx
          exact ⟨rfl, rfl⟩
        · intro j z hz'
          rw [hfl] at hz'
          have := hcell j (hget j z hz').1
          rw [← this, Abs.lone_add]
        · intro j z hz'
          rw [hfl] at hz'
          obtain ⟨_, rfl⟩ := hget j z hz'
          exact .val _
      · intro n hn
        have := hwz n (List.mem_of_mem_take hn)
        simp [Lit.wf, IntKind.min, IntKind.max, IntKind.signed, IntKind.bits] at this
        omega
      · have : cap ≤ 9223372036854775807 := hm
        simp; omega
end
end R12

