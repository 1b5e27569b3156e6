/- A part of the proof: Abs26. -/
import Derived.Test.YtmanbdacloeioaaAbs18
import Derived.RangeFuncOwn
set_option linter.unusedSimpArgs false
set_option linter.unusedVariables false
namespace Abs
open Go
open Go.RowKit (Below)
section
variable {P : Program} {cx : Cx} {w : World} {D : Nat → Prop} {h : AH} {an : Nat → Value}

def Obj.isOwn : Obj → Bool
  | .cells .. | .map .. | .mapIter .. => true
  | _ => false

/-- What lies behind own objects. -/
theorem own_kind (H : Heap P cx h w D an) {b : Nat} (hb : ownBlk h an b) : ∃ o, w.heap[b]? = some o ∧ Obj.isOwn o = true := by
  obtain ⟨o, ob, ho, hbk⟩ := hb
  have := H.obj o ob ho
  cases ob with
  | box cells =>
    obtain ⟨b', c, T, ha, _, _, hw, _⟩ := this
    rw [ha] at hbk; simp [blk] at hbk; subst hbk
    exact ⟨_, hw, rfl⟩
  | list e es fz nil xs =>
    obtain ⟨⟨vs, hown, _⟩, _⟩ := this
    rcases hown.2 with ⟨hn, _⟩ | ⟨g, cap, cur, ha, _, hg, _⟩
    · rw [hn] at hbk; simp [blk] at hbk
    · rw [ha] at hbk; simp [blk] at hbk; subst hbk
      exact ⟨_, hg, rfl⟩
  | map fz es =>
    obtain ⟨b', arr, ha, _, _, hw, _⟩ := this
    rw [ha] at hbk; simp [blk] at hbk; subst hbk
    exact ⟨_, hw, rfl⟩
  | iter left cur =>
    obtain ⟨b', m, arr, last, seen, ha, _, hw, _⟩ := this
    rw [ha] at hbk; simp [blk] at hbk; subst hbk
    exact ⟨_, hw, rfl⟩

/-- The world turns at a block that is none of the activation's. -/
theorem Heap.other (H : Heap P cx h w D an) {w' : World} {l : Nat} (hb : BelowM (fun b => b = l) w.heap.size w w') (h1 : cx.wi.heap.size ≤ l) (h2 : ¬ ownBlk h an l) (h3 : ¬ D l) (h4 : ¬ cx.Yb l) : Heap P cx h w' D an := by
  have hsz : cx.wi.heap.size ≤ w.heap.size := H.below.size
  have hD : ∀ b, D b → w'.heap[b]? = w.heap[b]? := fun b hd => hb.block b (H.lt b hd) fun e => h3 (e ▸ hd)
  refine ⟨H.init, fun b hd => Nat.lt_of_lt_of_le (H.lt b hd) hb.size, H.new, H.below.trans ⟨hb.os, hb.tape, hb.output, hb.size, fun b hlt hm => hb.block b (by omega) (by omega)⟩, fun o ob ho => ?_, H.ow, H.sep, H.gmono, H.anc, ?_, fun b hy => Nat.lt_of_lt_of_le (H.ylt b hy) hb.size, H.ysep⟩
  · refine (H.obj o ob ho).keep (fun _ h => h) hD (fun b hbk => ⟨hb.block b (H.blk_lt ho hbk) fun e => h2 ⟨o, ob, ho, e ▸ hbk⟩, fun h => h⟩) (fun _ => Nat.le_refl _) fun _ _ => rfl
  · refine cx.J.stable H.yJ hb.os hb.tape hb.output hb.size (fun b hlt hc => hb.block b hlt fun e => ?_) (fun _ h => h) (fun _ h => .inl h) fun b hd => Nat.lt_of_lt_of_le (H.lt b hd) hb.size
    subst e
    rcases hc with hc | hc | hc
    · have := cx.jB; omega
    · exact h4 hc
    · exact h3 hc

theorem Heap.grow (H : Heap P cx h w D an) {w' : World} (hb : Below w.heap.size w w') : Heap P cx h w' D an :=
  H.other (l := w.heap.size) ⟨hb.os, hb.tape, hb.output, hb.size, fun b hlt _ => hb.block b hlt⟩ H.below.size (fun h => by obtain ⟨o, ob, ho, hbk⟩ := h; have := H.blk_lt ho hbk; omega) (fun h => by have := H.lt _ h; omega) (fun h => by have := H.ylt _ h; omega)

theorem putObj_below (w : World) (l : Nat) (o : Obj) : BelowM (fun b => b = l) w.heap.size w (w.putObj l o) :=
  ⟨rfl, rfl, rfl, by simp, fun b _ hn => World.putObj_heap_other hn⟩

/-- The iterator goes on: it freezes blocks of its own, and leaves the activation's alone. -/
theorem Heap.beside (H : Heap P cx h w D an) {w' : World} {D' : Nat → Prop} (hos : w'.os = w.os) (htp : w'.tape = w.tape) (hou : w'.output = w.output) (hsz : w.heap.size ≤ w'.heap.size)
    (hk : ∀ b, b < w.heap.size → (b < cx.wi.heap.size ∨ ownBlk h an b ∨ cx.Yb b ∨ D b) → w'.heap[b]? = w.heap[b]?) (hd : ∀ b, D b → D' b)
    (hn : ∀ b, D' b → D b ∨ (cx.wi.heap.size ≤ b ∧ ¬ ownBlk h an b ∧ ¬ cx.Yb b)) (hlt : ∀ b, D' b → b < w'.heap.size) : Heap P cx h w' D' an := by
  have h0 : cx.wi.heap.size ≤ w.heap.size := H.below.size
  refine ⟨fun b hb => hd b (H.init b hb), hlt, fun b hb => ?_, H.below.trans ⟨hos, htp, hou, hsz, fun b hlt hm => hk b (by omega) (.inl hlt)⟩, fun o ob ho => ?_, H.ow, H.sep, H.gmono, H.anc, ?_, fun b hy => Nat.lt_of_lt_of_le (H.ylt b hy) hsz, H.ysep⟩
  · rcases hn b hb with h1 | h1
    · exact H.new b h1
    · exact .inr (.inl h1.1)
  · refine (H.obj o ob ho).keep hd (fun b hb => hk b (H.lt b hb) (.inr (.inr (.inr hb)))) (fun b hbk => ⟨hk b (H.blk_lt ho hbk) (.inr (.inl ⟨o, ob, ho, hbk⟩)), fun h1 => ?_⟩) (fun _ => Nat.le_refl _) fun _ _ => rfl
    rcases hn b h1 with h2 | h2
    · exact h2
    · exact absurd ⟨o, ob, ho, hbk⟩ h2.2.1
  · refine cx.J.stable H.yJ hos htp hou hsz (fun b hlt hc => hk b hlt ?_) hd (fun b hb => ?_) hlt
    · rcases hc with hc | hc | hc
      · exact .inl (Nat.lt_of_lt_of_le hc cx.jB)
      · exact .inr (.inr (.inl hc))
      · exact .inr (.inr (.inr hc))
    · rcases hn b hb with h1 | h1
      · exact .inl h1
      · exact .inr ⟨Nat.le_trans cx.jB h1.1, h1.2.2⟩

/-- Statements of an activation from which one comes back to cx. -/
structure Cx.le (P : Program) (cx' cx : Cx) : Prop where
  hy : ∀ (h : AH) (w : World) (D : Nat → Prop) (an : Nat → Value), HeapY P cx' h w D an → HeapY P cx h w D an
  hb : cx'.base = cx.base
  hp : ∀ (h : AH) (w : World) (D : Nat → Prop) (an : Nat → Value) (Y : Nat → Prop), (∀ b, Y b → b < cx'.wi.heap.size → cx'.M b) → Heap P (cx'.wY Y) h w D an → (∀ b, Y b → b < cx.wi.heap.size → cx.M b) ∧ Heap P (cx.wY Y) h w D an
theorem Cx.le_refl (P : Program) (cx : Cx) : Cx.le P cx cx := ⟨fun _ _ _ _ h => h, rfl, fun _ _ _ _ _ h1 h2 => ⟨h1, h2⟩⟩
/-- The relation of the abstract state to the machine's, stated at whatever later world. -/
def RX (P : Program) (ro : Option Nat) (cx : Cx) (n : Nat) (σ : St) (a : Act) (w : World) : Prop :=
  ∃ cx' D an, Cx.le P cx' cx ∧ RS P ro cx' n σ a w D an

/-- The parameters of a round. -/
def setps (ρ : Nat → LV) : List Nat → List FV → (Nat → LV)
  | p :: ps, x :: xs => setps (upd ρ p (.fv x)) ps xs
  | _, _ => ρ

/-- The rounds of a range over a function, item by item. -/
def aFold (A B : St → (Exit → St → Prop) → Prop) (ρ : Nat → LV) (ps : List Nat) : List (List FV) → AH → (Exit → St → Prop) → Prop
  | [], h, Q => Q .normal ⟨ρ, h⟩
  | x :: xs, h, Q => x.length = ps.length ∧ A ⟨setps ρ ps x, h⟩ fun e σ1 => match e with
    | .normal => B σ1 fun e σ2 => match e with
      | .normal => aFold A B ρ ps xs σ2.h Q
      | .ret => Q .ret ⟨ρ, σ2.h⟩
      | .exit id => Q (.exit id) ⟨ρ, σ2.h⟩
      | .goto l => Q (.goto l) ⟨ρ, σ2.h⟩
      | _ => False
    | _ => False

theorem setps_sound {gen : Nat → Nat} : ∀ (ps : List Nat) (xs : List FV) (vs : List Value) (tmps : Array Value) (ρ : Nat → LV), (∀ p ∈ ps, p < tmps.size) → xs.length = ps.length → vs.length = ps.length →
    (∀ i, LVRep P w D gen an (tmps.getD i Go.undef) (ρ i)) → (∀ (j : Nat) (y : FV) (v : Value), xs[j]? = some y → vs[j]? = some v → Rep w D v y) →
    ((ps.zip vs).foldl (fun t p => t.setIfInBounds p.1 p.2) tmps).size = tmps.size ∧ ∀ i, LVRep P w D gen an (((ps.zip vs).foldl (fun t p => t.setIfInBounds p.1 p.2) tmps).getD i Go.undef) (setps ρ ps xs i) := by
  intro ps
  induction ps with
  | nil => intro xs vs tmps ρ _ _ _ hs _; exact ⟨rfl, by cases xs <;> simpa [setps] using hs⟩
  | cons p ps ih =>
    intro xs vs tmps ρ hp hx hv hs hr
    cases xs with
    | nil => simp at hx
    | cons x xs =>
      cases vs with
      | nil => simp at hv
      | cons v vs =>
        simp only [List.zip_cons_cons, List.foldl_cons, setps]
        obtain ⟨e1, e2⟩ := ih xs vs (tmps.setIfInBounds p v) (upd ρ p (.fv x)) (fun q hq => by simpa using hp q (by simp [hq])) (by simpa using hx) (by simpa using hv) (fun i => by
          have hpl : p < tmps.size := hp p (by simp)
          simp only [upd, Array.getD_eq_getD_getElem?]
          by_cases e : i = p
          · subst e
            rw [if_pos rfl, Array.getElem?_setIfInBounds_self_of_lt hpl]
            exact .fv _ _ (hr 0 x v rfl rfl)
          · rw [if_neg e, Array.getElem?_setIfInBounds_ne (fun h => e h.symm)]
            have := hs i
            rwa [Array.getD_eq_getD_getElem?] at this) (fun j y u hy hu => hr (j + 1) y u (by simpa using hy) (by simpa using hu))
        exact ⟨by simpa using e1, e2⟩
end
end Abs

