/- A part of the proof: Abs27. -/
import Derived.Test.YtmanbdacloeioaaAbs26
set_option linter.unusedSimpArgs false
set_option linter.unusedVariables false
namespace Abs
open Go
open Go.RowKit (Below)
section
variable {P : Program}

def jumpOf : Exit → Option Code
  | .ret => some .ret
  | .exit id => some (.exit id)
  | .goto t => some (.goto t)
  | _ => none

/-- Between two rounds (y: what is still to come), or behind the last one. -/
structure LoopJ (P : Program) (cx : Cx) (A B : St → (Exit → St → Prop) → Prop) (ρ : Nat → LV) (ps : List Nat) (rec : LoopState → Option Code → Loop) (l : Nat) (mk : List Nat) (Bd : Nat)
    (w0 : World) (D0 : Nat → Prop) (gen0 : Nat → Nat) (an0 : Nat → Value) (Q : Exit → St → Prop) (y : Option (List (List FV))) (W : World) (Y D : Nat → Prop) (h : AH) (an : Nat → Value) (Yc : Nat → Prop) : Prop where
  heap : Heap P (cx.wY Yc) h W D an
  yc : ∀ b, Yc b → b < cx.wi.heap.size → cx.M b
  ext : Ext w0 D0 gen0 an0 W D h.gen an
  yy : ∀ b, Y b ↔ ownBlk h an b ∨ Yc b ∨ b = l
  lD : ¬ D l
  lY : ¬ Yc l
  lB : l < Bd
  BW : Bd ≤ W.heap.size
  lw : cx.wi.heap.size ≤ l
  mks : ∀ r ∈ mk, W.heap[r]? = some (.deferred (some [])) ∧ ¬ D r ∧ ¬ Yc r ∧ r ≠ l ∧ r < Bd
  rest : match y with
    | some rest => W.heap[l]? = some (.loop (rec .ready none)) ∧ aFold A B ρ ps rest h Q
    | none => ∃ e c, jumpOf e = some c ∧ W.heap[l]? = some (.loop (rec .done (some c))) ∧ Q e ⟨ρ, h⟩

variable {cx : Cx} {A B : St → (Exit → St → Prop) → Prop} {ρ : Nat → LV} {ps : List Nat} {rec : LoopState → Option Code → Loop} {l : Nat} {mk : List Nat} {Bd : Nat}
    {w0 : World} {D0 : Nat → Prop} {gen0 : Nat → Nat} {an0 : Nat → Value} {Q : Exit → St → Prop}

theorem LoopJ.stable {y : Option (List (List FV))} {w w' : World} {Y D D' : Nat → Prop} {h : AH} {an : Nat → Value} {Yc : Nat → Prop} (j : LoopJ P cx A B ρ ps rec l mk Bd w0 D0 gen0 an0 Q y w Y D h an Yc)
    (hos : w'.os = w.os) (htp : w'.tape = w.tape) (hou : w'.output = w.output) (hsz : w.heap.size ≤ w'.heap.size) (hk : ∀ b, b < w.heap.size → (b < Bd ∨ Y b ∨ D b) → w'.heap[b]? = w.heap[b]?)
    (hd : ∀ b, D b → D' b) (hn : ∀ b, D' b → D b ∨ (Bd ≤ b ∧ ¬ Y b)) (hlt : ∀ b, D' b → b < w'.heap.size) : LoopJ P cx A B ρ ps rec l mk Bd w0 D0 gen0 an0 Q y w' Y D' h an Yc := by
  have hlw := j.lw
  have hlB := j.lB
  have hBW := j.BW
  refine ⟨j.heap.beside hos htp hou hsz (fun b hlt hc => hk b hlt ?_) hd (fun b hb => ?_) hlt, j.yc, j.ext.trans ⟨hd, fun b hb => hk b (j.heap.lt b hb) (.inr (.inr hb)), fun _ => Nat.le_refl _, fun _ _ => rfl⟩, j.yy, fun hl => ?_, j.lY, j.lB, by omega, j.lw, fun r hr => ?_, ?_⟩
  · rcases hc with hc | hc | hc | hc
    · exact .inl (by have : b < cx.wi.heap.size := hc; omega)
    · exact .inr (.inl ((j.yy b).2 (.inl hc)))
    · exact .inr (.inl ((j.yy b).2 (.inr (.inl hc))))
    · exact .inr (.inr hc)
  · rcases hn b hb with h1 | ⟨h1, h2⟩
    · exact .inl h1
    · exact .inr ⟨by show cx.wi.heap.size ≤ b; omega, fun h3 => h2 ((j.yy b).2 (.inl h3)), fun h3 => h2 ((j.yy b).2 (.inr (.inl h3)))⟩
  · rcases hn l hl with h1 | ⟨h1, h2⟩
    · exact j.lD h1
    · omega
  · obtain ⟨h1, h2, h3, h4, h5⟩ := j.mks r hr
    refine ⟨(hk r (by omega) (.inl h5)).trans h1, fun h6 => ?_, h3, h4, h5⟩
    rcases hn r h6 with h7 | ⟨h7, _⟩
    · exact h2 h7
    · omega
  · have hl := hk l (by omega) (.inl hlB)
    have := j.rest
    cases y with
    | some rest => exact ⟨hl.trans this.1, this.2⟩
    | none => obtain ⟨e, c, h1, h2, h3⟩ := this; exact ⟨e, c, h1, hl.trans h2, h3⟩

/-- The loop, as a yielder. -/
def loopYS (P : Program) (cx : Cx) (A B : St → (Exit → St → Prop) → Prop) (ρ : Nat → LV) (ps : List Nat) (rec : LoopState → Option Code → Loop) (l : Nat) (mk : List Nat) (Bd : Nat)
    (w0 : World) (D0 : Nat → Prop) (gen0 : Nat → Nat) (an0 : Nat → Value) (Q : Exit → St → Prop) : YS where
  J y W Y D := ∃ h an Yc, LoopJ P cx A B ρ ps rec l mk Bd w0 D0 gen0 an0 Q y W Y D h an Yc
  B := Bd
  stable := fun ⟨h, an, Yc, j⟩ h1 h2 h3 h4 h5 h6 h7 h8 => ⟨h, an, Yc, j.stable h1 h2 h3 h4 h5 h6 h7 h8⟩

/-- The relation of a round: the body's walk. -/
def BodyOk (P : Program) (n : Nat) (A : St → (Exit → St → Prop) → Prop) (c : Code) : Prop :=
  ∀ {ro : Option Nat} {m : Nat} {cx : Cx} {σ : St} {a : Act} {w : World} {Q : Exit → St → Prop}, RX P ro cx n σ a w → A σ Q → c.wpIn (FX ro) m P (fun e a w => ∃ σ, Q e σ ∧ RX P ro cx n σ a w) a w

theorem own_not {h : AH} {w : World} {D : Nat → Prop} {an : Nat → Value} (H : Heap P cx h w D an) {b : Nat} {o : Obj} (ho : w.heap[b]? = some o) (hk : Obj.isOwn o = false) : ¬ ownBlk h an b := by
  intro hb
  obtain ⟨o', ho', hk'⟩ := own_kind H hb
  rw [ho] at ho'; simp at ho'; subst ho'; rw [hk] at hk'; simp at hk'

set_option maxHeartbeats 1000000 in
theorem loop_rule {n : Nat} {fn : FuncId} {tmps : Array Value} {params : Array Tmp} {assign body : Code} {dfs : Nat} {h0 : AH} (H00 : HeapY P cx h0 w0 D0 an0) (hA : BodyOk P n A assign) (hB : BodyOk P n B body)
    (hslots : ∀ i, LVRep P w0 D0 h0.gen an0 (tmps.getD i Go.undef) (ρ i)) (htn : tmps.size = n) (hps : ∀ p ∈ params.toList, p < n) :
    YRule P (.func (.yield l) #[] #[]) (loopYS P cx A B ρ params.toList (fun st pe => { state := st, pending := pe, fn, tmps, params, assign, body, defers := dfs }) l mk Bd w0 D0 h0.gen an0 Q) := by
  rintro x rest W Y D vs ⟨h, an, Yc, j⟩ hBd hD hYlt hrep
  obtain ⟨hl, hx, hfold⟩ := j.rest
  have hlw := j.lw
  have hlB := j.lB
  have hBW := j.BW
  have hsv : vs.size = params.size := by rw [hrep.1, hx, Array.length_toList]
  refine .inr ⟨l, fn, _, assign, body, rfl, run_yield hl hsv, fun m => ?_⟩
  refine roundIn_of_wpIn trivial ?_
  have HY : HeapY P cx h W D an := H00.next j.ext j.yc j.heap
  have hlo : ¬ ownBlk h an l := own_not j.heap hl rfl
  have hlM : ¬ (ownBlk h an l ∨ Yc l) := fun hc => hc.elim hlo j.lY
  have hfe : (params.zip vs).foldl (fun tmps x => tmps.setIfInBounds x.1 x.2) tmps = (params.toList.zip vs.toList).foldl (fun t p => t.setIfInBounds p.1 p.2) tmps := by
    rw [← Array.foldl_toList, Array.toList_zip]
  obtain ⟨hts, htr⟩ := setps_sound (P := P) (w := W) (D := D) (gen := h.gen) (an := an) params.toList x vs.toList tmps ρ (fun p hp => by rw [htn]; exact hps p hp) hx (by simpa using hsv) (fun i => (hslots i).ext j.ext) (fun k y v hy hv => hrep.2 k y v hy (by simpa using hv))
  have r1 : RS P (some l) (cx.re j.heap) n ⟨setps ρ params.toList x, h⟩ { tmps := (params.zip vs).foldl (fun tmps x => tmps.setIfInBounds x.1 x.2) tmps, defers := [] } W D an := by
    refine ⟨HY.re j.heap, ?_, ⟨[], rfl, List.nodup_nil, fun _ => rfl, by simp⟩, ?_, ?_⟩
    · rw [hfe]; exact htr
    · intro l' e; simp at e; subst e; exact ⟨by show l < W.heap.size; omega, hlM, _, hl⟩
    · rw [hfe]; exact hts.trans htn
  refine wpIn_mono (hA (ro := some l) ⟨_, D, an, Cx.le_refl _ _, r1⟩ hfold) ?_
  rintro e a1 W1 ⟨σ1, hq, cx3, D1, an1, hle3, r3⟩
  cases e <;> simp only at hq <;> try exact hq.elim
  simp only [Exit.then]
  have K2 := hle3.hy _ _ _ _ r3.heap
  have E1 := HeapY.ext_re j.heap K2
  obtain ⟨Y2, hY2, G2⟩ := K2.heap
  have keep1 : ∀ r, r < W.heap.size → ¬ (ownBlk h an r ∨ Yc r) → W1.heap[r]? = W.heap[r]? := fun r h1 h2 => G2.below.block r h1 h2
  have hl1 := (keep1 l (by omega) hlM).trans hl
  have nD1 : ∀ r, r < W.heap.size → ¬ D r → ¬ (ownBlk h an r ∨ Yc r) → ¬ D1 r := by
    intro r h1 h2 h3 h4
    rcases G2.new r h4 with h5 | h5 | h5
    · exact h2 h5
    · have : W.heap.size ≤ r := h5; omega
    · exact h3 h5
  have nY2 : ∀ r, r < W.heap.size → ¬ (ownBlk h an r ∨ Yc r) → ¬ Y2 r := fun r h1 h2 h3 => h2 (hY2 r h3 h1)
  obtain ⟨G1, hY1⟩ := Heap.unre j.yc j.heap hY2 G2
  have hlD1 := nD1 l (by omega) j.lD hlM
  have hlY2 := nY2 l (by omega) hlM
  obtain ⟨W2, hW2⟩ : ∃ W2, W1.putObj l (.loop { state := .busy, pending := none, fn, tmps, params, assign, body, defers := dfs }) = W2 := ⟨_, rfl⟩
  have hsz1 : W.heap.size ≤ W1.heap.size := G2.below.size
  have hbr : (Instr.beginRound l).run P W1 = .ok () W2 := by rw [← hW2]; exact run_beginRound hl1 rfl
  have hl2 : W2.heap[l]? = some (.loop { state := .busy, pending := none, fn, tmps, params, assign, body, defers := dfs }) := by rw [← hW2]; exact World.putObj_heap_same (by omega)
  have hw2 : ∀ b, b ≠ l → W2.heap[b]? = W1.heap[b]? := fun b hb => by rw [← hW2]; exact World.putObj_heap_other hb
  have hs2 : W2.heap.size = W1.heap.size := by rw [← hW2]; simp
  have G1' : Heap P (cx.wY Y2) σ1.h W2 D1 an1 := by
    rw [← hW2]
    exact G1.other (putObj_below _ _ _) j.lw (own_not G1 hl1 rfl) hlD1 hlY2
  have E2 : Ext W1 D1 σ1.h.gen an1 W2 D1 σ1.h.gen an1 := ⟨fun _ h => h, fun b hb => hw2 b fun e => hlD1 (e ▸ hb), fun _ => Nat.le_refl _, fun _ _ => rfl⟩
  have EW2 : Ext w0 D0 h0.gen an0 W2 D1 σ1.h.gen an1 := (j.ext.trans E1).trans E2
  have K4' : HeapY P cx σ1.h W2 D1 an1 := H00.next EW2 hY1 G1'
  have hlM2 : ¬ (ownBlk σ1.h an1 l ∨ Y2 l) := fun hc => hc.elim (own_not G1' hl2 rfl) hlY2
  have r4 : RS P (some l) (cx.re G1') n σ1 a1 W2 D1 an1 := by
    refine ⟨K4'.re G1', fun i => (r3.slots i).ext E2, ?_, ?_, r3.size⟩
    · obtain ⟨ms, q1, q2, q3, q4⟩ := r3.marks
      have := q3 rfl
      subst this
      exact ⟨[], q1, q2, fun _ => rfl, by simp⟩
    · intro l' e; simp at e; subst e; exact ⟨by show l < W2.heap.size; omega, hlM2, _, hl2⟩
  refine ⟨W2, hbr, wpIn_mono (hB (ro := some l) ⟨_, D1, an1, Cx.le_refl _ _, r4⟩ hq) ?_⟩
  clear hq hfold r1 r4
  rintro e a2 W3 ⟨σ2, hq, cx5, D2, an2, hle5, r5⟩
  have K4 := hle5.hy _ _ _ _ r5.heap
  have E3 := HeapY.ext_re G1' K4
  obtain ⟨Y3, hY3, G4⟩ := K4.heap
  have hsz3 : W2.heap.size ≤ W3.heap.size := G4.below.size
  have keep3 : ∀ r, r < W2.heap.size → ¬ (ownBlk σ1.h an1 r ∨ Y2 r) → W3.heap[r]? = W2.heap[r]? := fun r h1 h2 => G4.below.block r h1 h2
  have hl3 := (keep3 l (by omega) hlM2).trans hl2
  have nD2 : ∀ r, r < W2.heap.size → ¬ D1 r → ¬ (ownBlk σ1.h an1 r ∨ Y2 r) → ¬ D2 r := by
    intro r h1 h2 h3 h4
    rcases G4.new r h4 with h5 | h5 | h5
    · exact h2 h5
    · have : W2.heap.size ≤ r := h5; omega
    · exact h3 h5
  have nY3 : ∀ r, r < W2.heap.size → ¬ (ownBlk σ1.h an1 r ∨ Y2 r) → ¬ Y3 r := fun r h1 h2 h3 => h2 (hY3 r h3 h1)
  obtain ⟨G3, hY3'⟩ := Heap.unre hY1 G1' hY3 G4
  have hlD2 := nD2 l (by omega) hlD1 hlM2
  have hlY3 := nY3 l (by omega) hlM2
  have EW3 : Ext w0 D0 h0.gen an0 W3 D2 σ2.h.gen an2 := EW2.trans E3
  -- the round's end
  have fin : ∀ (jump : Option Code) (y' : Option (List (List FV))),
      (match y' with
        | some rest => jump = none ∧ aFold A B ρ params.toList rest σ2.h Q
        | none => ∃ e c, jumpOf e = some c ∧ jump = some c ∧ Q e ⟨ρ, σ2.h⟩) →
      ∃ v w', (Instr.endRound l jump).run P W3 = .ok v w' ∧ v = .bool jump.isNone ∧ ∃ Y', YStep W Y D w' Y' D2 ∧ ∃ h an Yc, LoopJ P cx A B ρ params.toList (fun st pe => { state := st, pending := pe, fn, tmps, params, assign, body, defers := dfs }) l mk Bd w0 D0 h0.gen an0 Q y' w' Y' D2 h an Yc := by
    intro jump y' hy'
    have hend := run_endRound (P := P) jump hl3
    refine ⟨_, _, hend, rfl, fun b => ownBlk σ2.h an2 b ∨ Y3 b ∨ b = l, ?_⟩
    obtain ⟨W4, hW4⟩ : ∃ W4, W3.putObj l (.loop { state := if jump.isNone then .ready else .done, pending := jump, fn, tmps, params, assign, body, defers := dfs }) = W4 := ⟨_, rfl⟩
    have hW4' : W3.putObj l (.loop { ({ state := .busy, pending := none, fn, tmps, params, assign, body, defers := dfs } : Loop) with state := if jump.isNone then .ready else .done, pending := jump }) = W4 := hW4
    rw [hW4']
    have hl4 : W4.heap[l]? = some (.loop { state := if jump.isNone then .ready else .done, pending := jump, fn, tmps, params, assign, body, defers := dfs }) := by rw [← hW4]; exact World.putObj_heap_same (by omega)
    have hw4 : ∀ b, b ≠ l → W4.heap[b]? = W3.heap[b]? := fun b hb => by rw [← hW4]; exact World.putObj_heap_other hb
    have hs4 : W4.heap.size = W3.heap.size := by rw [← hW4]; simp
    have G5 : Heap P (cx.wY Y3) σ2.h W4 D2 an2 := by
      rw [← hW4]
      exact G3.other (putObj_below _ _ _) j.lw (own_not G3 hl3 rfl) hlD2 hlY3
    have E4 : Ext W3 D2 σ2.h.gen an2 W4 D2 σ2.h.gen an2 := ⟨fun _ h => h, fun b hb => hw4 b fun e => hlD2 (e ▸ hb), fun _ => Nat.le_refl _, fun _ _ => rfl⟩
    have EE : Ext W D h.gen an W4 D2 σ2.h.gen an2 := ((E1.trans E2).trans E3).trans E4
    -- blocks of W
    have same : ∀ b, b < W.heap.size → ¬ Y b → W4.heap[b]? = W.heap[b]? ∧ ¬ (ownBlk h an b ∨ Yc b) ∧ b ≠ l ∧ ¬ (ownBlk σ1.h an1 b ∨ Y2 b) := by
      intro b hb hy
      have hne : b ≠ l := fun e => hy ((j.yy b).2 (.inr (.inr e)))
      have h1 : ¬ (ownBlk h an b ∨ Yc b) := fun hc => hy ((j.yy b).2 (hc.elim .inl fun h => .inr (.inl h)))
      have h2 : ¬ (ownBlk σ1.h an1 b ∨ Y2 b) := by
        rintro (⟨o, ob, ho, hbk⟩ | hc)
        · rcases G2.ow o ob b ho hbk with h3 | h3
          · have : W.heap.size ≤ b := h3; omega
          · exact h1 (.inl h3)
        · exact nY2 b hb h1 hc
      exact ⟨(hw4 b hne).trans ((keep3 b (by omega) h2).trans ((hw2 b hne).trans (keep1 b hb h1))), h1, hne, h2⟩
    have hos3 := G4.below.os
    have hos1 := G2.below.os
    refine ⟨⟨⟨?_, ?_, ?_, by omega, fun b hb hy => (same b hb hy).1⟩, EE.keep, EE.dd, fun b hb => ?_, fun b hb => by have := G3.lt b hb; omega, fun b hb => ?_, fun b hb => ?_⟩, σ2.h, an2, Y3, G5, hY3', (EW3.trans E4), fun b => Iff.rfl, hlD2, hlY3, hlB, by omega, hlw, fun r hr => ?_, ?_⟩
    · rw [← hW4]; show W3.os = W.os; rw [show W3.os = W2.os from G4.below.os, ← hW2]; exact G2.below.os
    · rw [← hW4]; show W3.tape = W.tape; rw [show W3.tape = W2.tape from G4.below.tape, ← hW2]; exact G2.below.tape
    · rw [← hW4]; show W3.output = W.output; rw [show W3.output = W2.output from G4.below.output, ← hW2]; exact G2.below.output
    · by_cases hlt : b < W.heap.size
      · by_cases hy : Y b
        · exact .inr (.inl hy)
        · obtain ⟨_, q1, q2, q3⟩ := same b hlt hy
          by_cases hd : D b
          · exact .inl hd
          · exact absurd hb (nD2 b (by omega) (nD1 b hlt hd q1) q3)
      · exact .inr (.inr (by omega))
    · by_cases hlt : b < W.heap.size
      · by_cases hy : Y b
        · exact .inl hy
        · obtain ⟨_, q1, q2, q3⟩ := same b hlt hy
          exfalso
          rcases hb with ⟨o, ob, ho, hbk⟩ | hb | hb
          · rcases G4.ow o ob b ho hbk with h3 | h3
            · have : W2.heap.size ≤ b := h3; omega
            · exact q3 (.inl h3)
          · exact nY3 b (by omega) q3 hb
          · exact q2 hb
      · exact .inr (by omega)
    · rcases hb with ⟨o, ob, ho, hbk⟩ | hb | hb
      · exact G5.blk_lt ho hbk
      · exact G5.ylt b hb
      · omega
    · obtain ⟨q1, q2, q3, q4, q5⟩ := j.mks r hr
      have hrW : r < W.heap.size := (Array.getElem?_eq_some_iff.1 q1).1
      have hry : ¬ Y r := fun hy => by
        rcases (j.yy r).1 hy with h1 | h1 | h1
        · exact own_not j.heap q1 rfl h1
        · exact q3 h1
        · exact q4 h1
      obtain ⟨p1, p2, p3, p4⟩ := same r hrW hry
      exact ⟨p1.trans q1, nD2 r (by omega) (nD1 r hrW q2 p2) p4, nY3 r (by omega) p4, q4, q5⟩
    · cases y' with
      | some rest' => obtain ⟨rfl, h2⟩ := hy'; exact ⟨hl4, h2⟩
      | none => obtain ⟨e, c, h1, rfl, h3⟩ := hy'; exact ⟨e, c, h1, hl4, h3⟩
  cases e with
  | normal =>
    obtain ⟨v, w', h1, rfl, Y', h2, h3⟩ := fin none (some rest) ⟨rfl, hq⟩
    exact ⟨_, w', h1, true, Y', D2, rfl, h2, h3⟩
  | ret =>
    obtain ⟨v, w', h1, rfl, Y', h2, h3⟩ := fin (some .ret) none ⟨.ret, .ret, rfl, rfl, hq⟩
    exact ⟨_, w', h1, false, Y', D2, rfl, h2, h3⟩
  | exit id =>
    obtain ⟨v, w', h1, rfl, Y', h2, h3⟩ := fin (some (.exit id)) none ⟨.exit id, .exit id, rfl, rfl, hq⟩
    exact ⟨_, w', h1, false, Y', D2, rfl, h2, h3⟩
  | goto t =>
    obtain ⟨v, w', h1, rfl, Y', h2, h3⟩ := fin (some (.goto t)) none ⟨.goto t, .goto t, rfl, rfl, hq⟩
    exact ⟨_, w', h1, false, Y', D2, rfl, h2, h3⟩
  | panic c => exact hq.elim
  | outgrown => exact hq.elim
end
end Abs

