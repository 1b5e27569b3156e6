/- A part of the proof: AbsZ. -/
import Derived.Test.YtjelfogbefnmaaaAbsY
set_option linter.unusedSimpArgs false
set_option linter.unusedVariables false
namespace Abs
open Go
section
variable {P : Program}
/-- The yielder is called. -/
theorem callY {nm : Option Nat} {args : List LV} {h : AH} {d : Option Nat} {r : List SO} {fs : List Fr} {ρ : Nat → LV} {Q : Exit → St → Prop} (x : List FV) (rest : List (List FV)) (hg : h.gen yN = 0)
    (ha : mapO (peek (fun _ => false) h 6) args = some x) (hy : h.y = some (x :: rest))
    (kt : L P r fs (St.put ⟨ρ, ⟨h.gen, h.obj, some rest⟩⟩ d (.fv (.bool true)) ⟨h.gen, h.obj, some rest⟩) Q)
    (kf : L P r fs (St.put ⟨ρ, ⟨h.gen, h.obj, none⟩⟩ d (.fv (.bool false)) ⟨h.gen, h.obj, none⟩) Q) : Cl' P nm (.it yN 0) args h d r fs ρ Q :=
  .inr ⟨rfl, rfl, hg, [], x, rest, ha, hy, kt, kf⟩
/-! A range over a function. -/
def FE (P : Program) (ρ : Nat → LV) (fs : List Fr) (Q : Exit → St → Prop) (J : St → Prop) (e : Exit) (σ : St) : Prop :=
  match e with
  | .normal => J σ
  | .ret => U P .ret fs ⟨ρ, σ.h⟩ Q
  | .exit id => U P (.exit id) fs ⟨ρ, σ.h⟩ Q
  | .goto l => U P (.goto l) fs ⟨ρ, σ.h⟩ Q
  | _ => False
@[go_sem] theorem FE_normal (ρ : Nat → LV) (fs : List Fr) (Q : Exit → St → Prop) (J : St → Prop) (σ : St) : FE P ρ fs Q J .normal σ = J σ := rfl
@[go_sem] theorem FE_ret (ρ : Nat → LV) (fs : List Fr) (Q : Exit → St → Prop) (J : St → Prop) (σ : St) : FE P ρ fs Q J .ret σ = U P .ret fs ⟨ρ, σ.h⟩ Q := rfl
@[go_sem] theorem FE_exit (ρ : Nat → LV) (fs : List Fr) (Q : Exit → St → Prop) (J : St → Prop) (σ : St) (id : Nat) : FE P ρ fs Q J (.exit id) σ = U P (.exit id) fs ⟨ρ, σ.h⟩ Q := rfl
def FA (P : Program) (b : SC) (ρ : Nat → LV) (fs : List Fr) (Q : Exit → St → Prop) (J : St → Prop) (e : Exit) (σ : St) : Prop :=
  match e with
  | .normal => W P b [] σ (FE P ρ fs Q J)
  | _ => False
@[go_sem] theorem FA_normal (b : SC) (ρ : Nat → LV) (fs : List Fr) (Q : Exit → St → Prop) (J : St → Prop) (σ : St) : FA P b ρ fs Q J .normal σ = W P b [] σ (FE P ρ fs Q J) := rfl
@[go_sem] theorem setps_cons (ρ : Nat → LV) (p : Nat) (ps : List Nat) (x : FV) (xs : List FV) : setps ρ (p :: ps) (x :: xs) = setps (upd ρ p (.fv x)) ps xs := rfl
@[go_sem] theorem setps_nil (ρ : Nat → LV) : setps ρ [] [] = ρ := rfl
def FJ (I : List (List FV) → AH → Prop) (xs : List (List FV)) (σ : St) : Prop := I xs σ.h
/-- A range over a function, by an invariant of what is still to come. -/
theorem rgInd {g : LV} {ps : List Nat} {a b : SC} {fs : List Fr} {ρ : Nat → LV} {h : AH} {Q : Exit → St → Prop} (os : List Nat) (xs : List (List FV)) (ha : argOf P (fun _ => false) (h.frzObjs os) g (.sq xs))
    (I : List (List FV) → AH → Prop) (h0 : I xs (h.frzObjs os)) (hnil : ∀ h, I [] h → U P .normal fs ⟨ρ, h⟩ Q)
    (hcons : ∀ x xs h, I (x :: xs) h → x.length = ps.length ∧ W P a [] ⟨setps ρ ps x, h⟩ (FA P b ρ fs Q (FJ I xs))) : Rg P g ps a b fs ρ h Q := by
  refine ⟨os, xs, ha, ?_⟩
  have key : ∀ (xs : List (List FV)) (h : AH), I xs h → aFold (aWp P a) (aWp P b) ρ ps xs h (unw P Q fs) := by
    intro xs
    induction xs with
    | nil => intro h hI; exact hnil h hI
    | cons x xs ih =>
      intro h hI
      obtain ⟨h1, h2⟩ := hcons x xs h hI
      refine ⟨h1, aWp_mono a (fun e σ hq => ?_) (show aWp P a ⟨setps ρ ps x, h⟩ (FA P b ρ fs Q (FJ I xs)) from h2)⟩
      cases e with
      | normal =>
        refine aWp_mono b (fun e σ' hq => ?_) (show aWp P b σ (FE P ρ fs Q (FJ I xs)) from hq)
        cases e with
        | normal => exact ih _ hq
        | ret => exact hq
        | exit id => exact hq
        | goto l => exact hq
        | _ => exact hq.elim
      | _ => exact hq.elim
  exact key xs _ h0
/-- An iterator that is a closure of values. -/
theorem argSq {h : AH} {lv : LV} {f : Nat} {caps : List FV} {xs : List (List FV)} (hp : peek (fun _ => false) h 6 lv = some (.clos f caps)) (hs : SeqFn P f [] caps xs) : argOf P (fun _ => false) h lv (.sq xs) :=
  .inr (.inl ⟨f, caps, hp, hs⟩)
end
section
variable {P : Program}
/-- Lists are frozen behind a call in place. -/
theorem AC.frz {f : Nat} {args : List LV} {h : AH} {K K' : LV → AH → Prop} (os : List Nat) (hq : AC P f args h K) (hK : ∀ lv h', K lv h' → K' lv (h'.frzObjs os)) : AC P f args h K' := by
  refine ⟨hq.1, fun cx w D an cargs H L => (hq.2 cx w D an cargs H L).mono ?_⟩
  rintro e w' ⟨lv, h', v, D', an', h1, h2, h3, h4, h5⟩
  obtain ⟨Y, hY, H1⟩ := h3.heap
  obtain ⟨D2, H2, hg, hd⟩ := frzObjs_sound os H1
  have E2 : Ext w' D' h'.gen an' w' D2 (h'.frzObjs os).gen an' := frz_ext hg hd
  refine ⟨lv, _, v, D2, an', h1, hK _ _ h2, h3.next E2 hY H2, h4.trans E2, h5.ext E2⟩
@[go_sem] theorem vw_fv (h : AH) (x : FV) : viewL h (.fv x) = .fv x := rfl
/-- An own list, as a value, if it is frozen. -/
def vw (o g : Nat) : Option (Nat × Nat × Bool × Bool × List FV) → LV
  | some (_, _, true, false, xs) => .fv (.list false xs)
  | _ => .gl o g
@[go_sem] theorem vw_gl (h : AH) (o g : Nat) : viewL h (.gl o g) = vw o g (h.lst o g) := rfl
@[go_sem] theorem vw_frozen (o g e es : Nat) (xs : List FV) : vw o g (some (e, es, true, false, xs)) = .fv (.list false xs) := rfl
end
end Abs

