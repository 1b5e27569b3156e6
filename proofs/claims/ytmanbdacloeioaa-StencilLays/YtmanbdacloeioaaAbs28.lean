/- A part of the proof: Abs28. -/
import Derived.Test.YtmanbdacloeioaaAbs27
set_option linter.unusedSimpArgs false
set_option linter.unusedVariables false
namespace Abs
open Go
open Go.RowKit (Below)
section
variable {P : Program}

theorem run_enterLoop_in {w : World} {l0 : Nat} {r0 : Loop} (hl : w.heap[l0]? = some (.loop r0)) (fn : FuncId) (tmps : Array Value) (ps : Array Tmp) (assign body : Code) :
    (Instr.enterLoop fn tmps ps assign body (some l0)).run P w =
      .ok (w.heap.size, []) (w.alloc (.loop { state := .ready, pending := none, fn, tmps, params := ps, assign, body, defers := r0.defers })) := by
  unfold Instr.enterLoop
  simp only [Sem.run_bind, run_getLoop hl, run_newObj_alloc, Result.andThen, Sem.run_pure, World.size_alloc]

/-- The loop's record is laid. -/
theorem enter_loop {w : World} {ro : Option Nat} (hro : ∀ l, ro = some l → ∃ r, w.heap[l]? = some (.loop r)) (fn : FuncId) (tmps : Array Value) (ps : Array Tmp) (assign body : Code) :
    ∃ l mk w1 dfs, (Instr.enterLoop fn tmps ps assign body ro).run P w = .ok (l, mk.map markD) w1 ∧ Below w.heap.size w w1 ∧ w.heap.size ≤ l ∧ l < w1.heap.size ∧
      w1.heap[l]? = some (.loop { state := .ready, pending := none, fn, tmps, params := ps, assign, body, defers := dfs }) ∧ (mk = [] ∨ mk = [w.heap.size]) ∧ (ro.isSome = true → mk = []) ∧
      ∀ r ∈ mk, r ≠ l ∧ r < w1.heap.size ∧ w1.heap[r]? = some (.deferred (some [])) := by
  cases ro with
  | none =>
    refine ⟨w.heap.size + 1, [w.heap.size], _, w.heap.size, run_enterLoop_outer fn tmps ps assign body, ((Below.refl _ w).alloc (Nat.le_refl _) _).alloc (by simp) _, by omega, by simp, ?_, .inr rfl, by simp, ?_⟩
    · have := World.alloc_heap_new (w.alloc (.deferred (some []))) (.loop { state := .ready, pending := none, fn, tmps, params := ps, assign, body, defers := w.heap.size })
      rwa [World.size_alloc] at this
    · intro r hr
      simp at hr; subst hr
      refine ⟨by omega, by simp; omega, (Below.heap_alloc _ _ _ (by simp)).trans (World.alloc_heap_new w _)⟩
  | some l0 =>
    obtain ⟨r0, hl⟩ := hro l0 rfl
    exact ⟨w.heap.size, [], _, r0.defers, run_enterLoop_in hl fn tmps ps assign body, (Below.refl _ w).alloc (Nat.le_refl _) _, Nat.le_refl _, by simp, World.alloc_heap_new w _, .inl rfl, fun _ => rfl, by simp⟩

set_option maxHeartbeats 1000000 in
/-- A RANGE OVER A FUNCTION. -/
theorem range_sound {n m : Nat} {ro : Option Nat} {cx : Cx} {σ : St} {a : Act} {w : World} {g : Operand} {params : Array Tmp} {assign body : Code} {A B : St → (Exit → St → Prop) → Prop} {Q : Exit → St → Prop}
    (r : RX P ro cx n σ a w) (hA : BodyOk P n A assign) (hB : BodyOk P n B body) (hps : ∀ p ∈ params.toList, p < n)
    (hq : ∃ os xs, argOf P (fun _ => false) (σ.h.frzObjs os) (evL σ.ρ g) (.sq xs) ∧ aFold A B σ.ρ params.toList xs (σ.h.frzObjs os) Q) :
    (Code.rangeFunc g params assign body).wpIn (FX ro) m P (fun e a w => ∃ σ, Q e σ ∧ RX P ro cx n σ a w) a w := by
  obtain ⟨os, xs, harg, hfold⟩ := hq
  obtain ⟨cx1, D, an, hle, r⟩ := r
  obtain ⟨Y, hY, H⟩ := r.heap.heap
  obtain ⟨D0, H1, hg1, hd1⟩ := frzObjs_sound os H
  have E0 := frz_ext (w := w) (an := an) hg1 hd1
  have HY0 : HeapY P cx1 (σ.h.frzObjs os) w D0 an := r.heap.next E0 hY H1
  have hslots : ∀ i, LVRep P w D0 (σ.h.frzObjs os).gen an (a.tmps.getD i Go.undef) (σ.ρ i) := fun i => (r.slots i).ext E0
  have hseq : SeqImpl P w D0 (a.eval g) xs := by
    have := argOf_sound H1 (ev_sound hslots g) harg
    refine SeqImpl.keep this ?_ fun _ _ => rfl
    rintro b (hb | ⟨_, _, h1, _⟩)
    · exact hb
    · simp at h1
  have hrl : ∀ l, ro = some l → ∃ rr, w.heap[l]? = some (.loop rr) := by
    intro l e
    obtain ⟨h1, h2, rr, h3⟩ := r.rnd l e
    exact ⟨rr, (H.below.block l h1 h2).trans h3⟩
  generalize hh0 : σ.h.frzObjs os = h0 at *
  clear hh0
  refine wpIn_rangeFunc fun fn _ => ?_
  rw [FX_round]
  obtain ⟨l, mk, w1, dfs, hent, hbel, hlw, hl1, hlo, hmk1, hmk2, hmk3⟩ := enter_loop (P := P) hrl fn a.tmps params assign body
  obtain ⟨f, first, caps, hgv, hen, hcall⟩ := hseq
  have hsz : cx1.wi.heap.size ≤ w.heap.size := H1.below.size
  have hsz1 : w.heap.size ≤ w1.heap.size := hbel.size
  have Hw1 : Heap P (cx1.wY Y) h0 w1 D0 an := H1.grow hbel
  have Ew1 : Ext w D0 h0.gen an w1 D0 h0.gen an := ⟨fun _ h => h, fun b hb => hbel.block b (H1.lt b hb), fun _ => Nat.le_refl _, fun _ _ => rfl⟩
  have hlD : ¬ D0 l := fun h => by have := H1.lt l h; omega
  have hlY : ¬ Y l := fun h => by have : l < w.heap.size := H1.ylt l h; omega
  have hrule := loop_rule (cx := cx1) (l := l) (mk := mk) (Bd := w1.heap.size) (Q := Q) (fn := fn) (dfs := dfs) HY0 hA hB hslots r.size hps
  have hJ0 : LoopJ P cx1 A B σ.ρ params.toList (fun st pe => { state := st, pending := pe, fn, tmps := a.tmps, params, assign, body, defers := dfs }) l mk w1.heap.size w D0 h0.gen an Q (some xs) w1 (fun b => ownBlk h0 an b ∨ Y b ∨ b = l) D0 h0 an Y :=
    ⟨Hw1, hY, Ew1, fun _ => Iff.rfl, hlD, hlY, hl1, Nat.le_refl _, by omega, fun r hr => by
      obtain ⟨h1, h2, h3⟩ := hmk3 r hr
      have hrw : r = w.heap.size := by
        rcases hmk1 with e | e <;> rw [e] at hr <;> simp at hr
        exact hr
      exact ⟨h3, fun h => by have := H1.lt r h; omega, fun h => by have : r < w.heap.size := H1.ylt r h; omega, h1, h2⟩, hlo, hfold⟩
  refine ⟨l, mk.map markD, w1, { target := .fn (.func f) caps, args := first ++ #[.func (.yield l) #[] #[]] }, w1, f, first ++ #[.func (.yield l) #[] #[]] ++ caps, w1, hent, ?_, fun _ _ => trivial, ?_, fun h => FX_depth h, ?_⟩
  · simp only [resolve, hgv, rangeCall, Deferred.ofValue, Sem.run_bind, Sem.run_pure, Result.andThen_ok]
    have : Array.map a.eval #[Operand.const (Value.func (Fn.yield l) #[] #[])] = #[Value.func (Fn.yield l) #[] #[]] := by simp [Act.eval]
    rw [this]
  · simp only [invoke, Sem.run_pure]
    exact hen _ _
  · refine callsFX.2 ((hcall w1 D0 (fun _ h => h) (fun b hb => hbel.block b (H1.lt b hb)) Hw1.lt (.func (.yield l) #[] #[]) _ _ hrule rfl (Nat.le_refl _) (fun b hb => ?_) ⟨h0, an, Y, hJ0⟩).mono ?_)
    · rcases hb with ⟨o, ob, ho, hbk⟩ | hb | hb
      · exact Hw1.blk_lt ho hbk
      · exact Hw1.ylt b hb
      · omega
    · rintro e w2 ⟨v, Y', D', rfl, hstep, hJ⟩
      have key : ∀ (y : Option (List (List FV))), (∃ h an' Yc, LoopJ P cx1 A B σ.ρ params.toList (fun st pe => { state := st, pending := pe, fn, tmps := a.tmps, params, assign, body, defers := dfs }) l mk w1.heap.size w D0 h0.gen an Q y w2 Y' D' h an' Yc) →
          ∃ jump w3, (Instr.endLoop l).run P w2 = .ok jump w3 ∧ ∃ h, RX P ro cx n ⟨σ.ρ, h⟩ { a with defers := mk.map markD ++ a.defers } w3 ∧
            (∀ rest, y = some rest → jump = none ∧ aFold A B σ.ρ params.toList rest h Q) ∧ (y = none → ∃ e c, jumpOf e = some c ∧ jump = some c ∧ Q e ⟨σ.ρ, h⟩) := by
        rintro y ⟨h, an', Yc, j⟩
        obtain ⟨st, pe, hl2, hnb, hy⟩ : ∃ st pe, w2.heap[l]? = some (.loop { state := st, pending := pe, fn, tmps := a.tmps, params, assign, body, defers := dfs }) ∧ st ≠ .busy ∧
            (∀ rest, y = some rest → pe = none ∧ aFold A B σ.ρ params.toList rest h Q) ∧ (y = none → ∃ e c, jumpOf e = some c ∧ pe = some c ∧ Q e ⟨σ.ρ, h⟩) := by
          have := j.rest
          cases y with
          | some rest => exact ⟨_, _, this.1, by simp, fun rest' e => by simp at e; subst e; exact ⟨rfl, this.2⟩, by simp⟩
          | none => obtain ⟨e, c, q1, q2, q3⟩ := this; exact ⟨_, _, q2, by simp, by simp, fun _ => ⟨e, c, q1, rfl, q3⟩⟩
        have hend := run_endLoop (P := P) hl2 hnb
        refine ⟨pe, _, hend, h, ?_, hy.1, hy.2⟩
        obtain ⟨w3, hw3⟩ : ∃ w3, w2.putObj l (.loop { ({ state := st, pending := pe, fn, tmps := a.tmps, params, assign, body, defers := dfs } : Loop) with state := .exhausted }) = w3 := ⟨_, rfl⟩
        rw [hw3]
        have G : Heap P (cx1.wY Yc) h w3 D' an' := by
          rw [← hw3]; exact j.heap.other (putObj_below _ _ _) j.lw (own_not j.heap hl2 rfl) j.lD j.lY
        have hother : ∀ b, b ≠ l → w3.heap[b]? = w2.heap[b]? := fun b hb => by rw [← hw3]; exact World.putObj_heap_other hb
        have E3 : Ext w D0 h0.gen an w3 D' h.gen an' := j.ext.trans ⟨fun _ h => h, fun b hb => hother b fun e => j.lD (e ▸ hb), fun _ => Nat.le_refl _, fun _ _ => rfl⟩
        have HY3 := HY0.next E3 j.yc G
        have hs3 : w3.heap.size = w2.heap.size := by rw [← hw3]; simp
        have hBW := j.BW
        have elder : ∀ b o, b < cx1.wi.heap.size → ¬ cx1.M b → cx1.wi.heap[b]? = some o → Obj.isOwn o = false → b < w3.heap.size ∧ ¬ (ownBlk h an' b ∨ Yc b) ∧ w3.heap[b]? = some o := by
          intro b o h1 h2 h3 h4
          have e1 : w3.heap[b]? = some o := (G.below.block b h1 h2).trans h3
          refine ⟨by omega, ?_, e1⟩
          rintro (hc | hc)
          · exact own_not G e1 h4 hc
          · exact h2 (j.yc b hc h1)
        refine ⟨cx1.re G, D', an', ⟨fun h' w' D'' an'' hh => hle.hy _ _ _ _ (HY3.unre j.yc G hh), hle.hb, fun h' w' D'' an'' Y'' hY'' hh => by
          obtain ⟨q1, q2⟩ := Heap.unre j.yc G hY'' hh
          exact hle.hp _ _ _ _ _ q2 q1⟩, HY3.re G, fun i => (hslots i).ext E3, ?_, ?_, r.size⟩
        · obtain ⟨ms, q1, q2, q3, q4⟩ := r.marks
          refine ⟨mk ++ ms, by simp [q1], ?_, fun e => by rw [hmk2 e, q3 e]; rfl, fun b hb => ?_⟩
          · rw [List.nodup_append]
            refine ⟨by rcases hmk1 with e | e <;> rw [e] <;> simp, q2, fun x hx y hy e => ?_⟩
            subst e
            have := (q4 x hy).2.1
            rcases hmk1 with e | e <;> rw [e] at hx <;> simp at hx
            omega
          · rcases List.mem_append.1 hb with hb | hb
            · obtain ⟨p1, p2, p3, p4, p5⟩ := j.mks b hb
              have e1 : w3.heap[b]? = some (.deferred (some [])) := (hother b p4).trans p1
              refine ⟨?_, by show b < w3.heap.size; omega, ?_, p2, e1⟩
              · have hb1 : cx1.base ≤ cx1.wi.heap.size := cx1.baseLe
                have : b = w.heap.size := by rcases hmk1 with e | e <;> rw [e] at hb <;> simp at hb; exact hb
                show cx1.base ≤ b
                omega
              · rintro (hc | hc)
                · exact own_not G e1 rfl hc
                · exact p3 hc
            · obtain ⟨p0, p1, p2, p4, p3⟩ := q4 b hb
              obtain ⟨t1, t2, t3⟩ := elder b _ p1 p2 p3 rfl
              refine ⟨p0, t1, t2, fun hd => ?_, t3⟩
              rcases G.new b hd with h5 | h5 | h5
              · exact p4 h5
              · have : cx1.wi.heap.size ≤ b := h5; omega
              · exact p2 h5
        · intro l0 e
          obtain ⟨p1, p2, rr, p3⟩ := r.rnd l0 e
          obtain ⟨t1, t2, t3⟩ := elder l0 _ p1 p2 p3 rfl
          exact ⟨t1, t2, rr, t3⟩
      rcases hJ with hJ | hJ
      · obtain ⟨jump, w3, h1, h, h2, h3, _⟩ := key _ hJ
        obtain ⟨rfl, h4⟩ := h3 [] rfl
        exact ⟨none, w3, h1, _, h4, h2⟩
      · obtain ⟨jump, w3, h1, h, h2, _, h3⟩ := key _ hJ
        obtain ⟨e, c, h3, rfl, h4⟩ := h3 rfl
        refine ⟨some c, w3, h1, ?_⟩
        cases e <;> simp only [jumpOf, Option.some.injEq, reduceCtorEq] at h3 <;> subst h3
        · exact wpIn_exit ⟨_, h4, h2⟩
        · exact wpIn_goto ⟨_, h4, h2⟩
        · exact wpIn_ret ⟨_, h4, h2⟩
end
end Abs

