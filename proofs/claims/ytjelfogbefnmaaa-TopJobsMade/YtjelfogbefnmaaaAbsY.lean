/- A part of the proof: AbsY. -/
import Derived.Test.YtjelfogbefnmaaaAbsX
set_option linter.unusedSimpArgs false
set_option linter.unusedVariables false
namespace Abs
open Go
section
variable {P : Program}
/-! The walk of a drawn region. -/
def DQ (P : Program) (bad : List (Nat × Nat)) (V : Nat → List Nat) (i : Nat) (r : List SO) (fs : List Fr) (Q : Exit → St → Prop) (e : Exit) (σ : St) : Prop :=
  match e with
  | .normal => LD P (clOf bad V) i r fs σ Q
  | _ => False
def DQW (W : List Nat) (h0 : AH) (P : Program) (bad : List (Nat × Nat)) (V : Nat → List Nat) (i : Nat) (r : List SO) (fs : List Fr) (Q : Exit → St → Prop) (e : Exit) (σ : St) : Prop :=
  match e with
  | .normal => Agree W h0 σ.h ∧ LD P (clOf bad V) i r fs σ Q
  | _ => False
@[go_sem] theorem DQ_normal (bad : List (Nat × Nat)) (V : Nat → List Nat) (i : Nat) (r : List SO) (fs : List Fr) (Q : Exit → St → Prop) (σ : St) : DQ P bad V i r fs Q .normal σ = LD P (clOf bad V) i r fs σ Q := rfl
@[go_sem] theorem DQW_normal (W : List Nat) (h0 : AH) (bad : List (Nat × Nat)) (V : Nat → List Nat) (i : Nat) (r : List SO) (fs : List Fr) (Q : Exit → St → Prop) (σ : St) : DQW W h0 P bad V i r fs Q .normal σ = (Agree W h0 σ.h ∧ LD P (clOf bad V) i r fs σ Q) := rfl
/-- An operation of a drawn region; ps: its partners. -/
def DC (P : Program) (bad : List (Nat × Nat)) (V : Nat → List Nat) (i : Nat) (ps : List Nat) (o : SO) (r : List SO) (fs : List Fr) (σ : St) (Q : Exit → St → Prop) : Prop :=
  aSOD P (match ps with | [] => none | ps => some ⟨V i, ps.flatMap V⟩) o σ fun σ' => LD P (clOf bad V) (i + 1) r fs σ' Q
/-- A call in a drawn region waits. -/
def Cd (P : Program) (bad : List (Nat × Nat)) (V : Nat → List Nat) (i : Nat) (ps : List Nat) (nm : Option Nat) (f : LV) (args : List LV) (h : AH) (d : Option Nat) (r : List SO) (fs : List Fr) (ρ : Nat → LV) (Q : Exit → St → Prop) : Prop :=
  callE0 P nm f args h fun lv h' => Agree (V i) h h' ∧ LD P (clOf bad V) (i + 1) r fs (St.put ⟨ρ, h⟩ d lv h') Q
@[go_sem] theorem LD_nil (bad : List (Nat × Nat)) (V : Nat → List Nat) (i : Nat) (fs : List Fr) (σ : St) (Q : Exit → St → Prop) : LD P (clOf bad V) i [] fs σ Q = U P .normal fs σ Q := rfl
@[go_sem] theorem LD_cons (bad : List (Nat × Nat)) (V : Nat → List Nat) (i : Nat) (o : SO) (r : List SO) (fs : List Fr) (σ : St) (Q : Exit → St → Prop) : LD P (clOf bad V) i (o :: r) fs σ Q = DC P bad V i (partners bad i) o r fs σ Q := rfl
@[go_sem] theorem partners_nil (i : Nat) : partners [] i = [] := rfl
@[go_sem] theorem partners_cons (a b : Nat) (l : List (Nat × Nat)) (i : Nat) : partners ((a, b) :: l) i = if a = i then b :: partners l i else if b = i then a :: partners l i else partners l i := by
  unfold partners
  simp only [List.filterMap_cons]
  by_cases h1 : a = i
  · simp [h1]
  · by_cases h2 : b = i
    · simp [h1, h2]
    · simp [h1, h2]
@[go_sem] theorem DC_nil (bad : List (Nat × Nat)) (V : Nat → List Nat) (i : Nat) (o : SO) (r : List SO) (fs : List Fr) (σ : St) (Q : Exit → St → Prop) : DC P bad V i [] o r fs σ Q = L P [o] [] σ (DQ P bad V (i + 1) r fs Q) := rfl
theorem DC_op {bad : List (Nat × Nat)} {V : Nat → List Nat} {i p : Nat} {ps : List Nat} {d : Option Nat} {op : Op} {ty : Nat} {nm : Option Nat} {r : List SO} {fs : List Fr} {σ : St} {Q : Exit → St → Prop} (h1 : isMap op = false) (h2 : isCall op = false) :
    DC P bad V i (p :: ps) ⟨d, op, ty, none, nm⟩ r fs σ Q = ((op.operands.toList.all fun x => avoid ((p :: ps).flatMap V) false σ.h 6 (evL σ.ρ x)) = true ∧ L P [⟨d, op, ty, none, nm⟩] [] σ (DQW (V i) σ.h P bad V (i + 1) r fs Q)) := by
  have e : ∀ K : LV → AH → Prop, stepE0 P nm op ty (evL σ.ρ) σ.h K = stepE P nm op ty (evL σ.ρ) σ.h K := by
    intro K
    unfold stepE0 stepE
    split
    · simp [isCall] at h2
    · simp only [h1]; rfl
  show ((op.operands.toList.all fun x => avoid ((p :: ps).flatMap V) (isCall op) σ.h 6 (evL σ.ρ x)) = true ∧ stepE0 P nm op ty (evL σ.ρ) σ.h fun lv h' => Agree (V i) σ.h h' ∧ LD P (clOf bad V) (i + 1) r fs (σ.put d lv h') Q) = _
  rw [e, h2, L_step]
  congr 2
  funext lv h
  cases d <;> rfl
/-- A guard of an operation of a drawn region waits. -/
def BrD (v : LV) (want : Bool) (A B : Prop) : Prop := ∃ b, v = .fv (.val (.bool b)) ∧ (b = want → A) ∧ (b = (!want) → B)
@[go_sem] theorem BrD_tt (A B : Prop) : BrD (.fv (.val (.bool true))) true A B = A := by simp [BrD]
@[go_sem] theorem BrD_ft (A B : Prop) : BrD (.fv (.val (.bool false))) true A B = B := by simp [BrD]
@[go_sem] theorem BrD_tf (A B : Prop) : BrD (.fv (.val (.bool true))) false A B = B := by simp [BrD]
@[go_sem] theorem BrD_ff (A B : Prop) : BrD (.fv (.val (.bool false))) false A B = A := by simp [BrD]
@[go_sem] theorem DC_call (bad : List (Nat × Nat)) (V : Nat → List Nat) (i p : Nat) (ps : List Nat) (d : Option Nat) (f : Operand) (a : Array Operand) (t : Array Nat) (ty : Nat) (nm : Option Nat) (r : List SO) (fs : List Fr) (σ : St) (Q : Exit → St → Prop) :
    DC P bad V i (p :: ps) ⟨d, .call { callee := .value f, args := a, argTypes := t }, ty, none, nm⟩ r fs σ Q =
      (((Op.call { callee := .value f, args := a, argTypes := t }).operands.toList.all fun x => avoid ((p :: ps).flatMap V) true σ.h 6 (evL σ.ρ x)) = true ∧ Cd P bad V i (p :: ps) nm (evL σ.ρ f) (a.toList.map (evL σ.ρ)) σ.h d r fs σ.ρ Q) := rfl
@[go_sem] theorem DC_guard (bad : List (Nat × Nat)) (V : Nat → List Nat) (i p : Nat) (ps : List Nat) (d : Option Nat) (op : Op) (s : Nat) (want : Bool) (ty : Nat) (nm : Option Nat) (r : List SO) (fs : List Fr) (σ : St) (Q : Exit → St → Prop) :
    DC P bad V i (p :: ps) ⟨d, op, ty, some (s, want), nm⟩ r fs σ Q =
      BrD (σ.ρ s) want (DC P bad V i (p :: ps) ⟨d, op, ty, none, nm⟩ r fs σ Q) (LD P (clOf bad V) (i + 1) r fs (σ.put d .undef σ.h) Q) := by
  unfold BrD DC aSOD
  simp only
  split
  · rename_i b hb
    rw [hb]
    by_cases e : b = want
    · rw [if_pos e]
      subst e
      simp only [eq_iff_iff]
      constructor
      · intro h; exact ⟨b, rfl, fun _ => h, fun h => by cases b <;> simp at h⟩
      · rintro ⟨b', h1, h2, h3⟩; simp at h1; subst h1; exact h2 rfl
    · rw [if_neg e]
      have e' : b = !want := by cases b <;> cases want <;> simp_all
      simp only [eq_iff_iff]
      constructor
      · intro h; exact ⟨b, rfl, fun h => absurd h e, fun _ => h⟩
      · rintro ⟨b', h1, h2, h3⟩; simp at h1; subst h1; exact h3 e'
  · rename_i hne
    simp only [eq_iff_iff, false_iff, not_exists, not_and]
    intro b hb
    exact absurd hb (hne b)
theorem callD {bad : List (Nat × Nat)} {V : Nat → List Nat} {i : Nat} {ps : List Nat} {nm : Option Nat} {f : Nat} {caps args : List LV} {h : AH} {d : Option Nat} {r : List SO} {fs : List Fr} {ρ : Nat → LV} {Q : Exit → St → Prop} (os : List Nat) (own : Bool) (as : List Arg) (cs : List FV) {rv : RV}
    (hF : Fn P f (as ++ cs.map .fo) rv) (ha : argsOf P (fun _ => own) (h.frzObjs os) args as) (hc : mapO (peek (fun _ => own) (h.frzObjs os) 6) caps = some cs) (ho : own = false ∨ rv.shallow = true)
    (hk : Agree (V i) h (impR (h.frzObjs os) nm rv).2 ∧ LD P (clOf bad V) (i + 1) r fs (St.put ⟨ρ, h⟩ d (impR (h.frzObjs os) nm rv).1 (impR (h.frzObjs os) nm rv).2) Q) : Cd P bad V i ps nm (.clos f caps) args h d r fs ρ Q :=
  ⟨os, own, as, cs, rv, ha, hc, hF, ho, hk⟩
theorem callDg {bad : List (Nat × Nat)} {V : Nat → List Nat} {i : Nat} {ps : List Nat} {nm : Option Nat} {g : List FV → Option FV} {args : List LV} {h : AH} {d : Option Nat} {r : List SO} {fs : List Fr} {ρ : Nat → LV} {Q : Exit → St → Prop} (own : Bool) (xs : List FV) {y : FV}
    (ha : mapO (peek (fun _ => own) h 6) args = some xs) (hg : g xs = some y) (ho : own = false ∨ y.shallow = true)
    (hk : LD P (clOf bad V) (i + 1) r fs (St.put ⟨ρ, h⟩ d (.fv y) h) Q) : Cd P bad V i ps nm (.fn g) args h d r fs ρ Q :=
  ⟨[], own, xs, y, ha, hg, ho, ⟨fun _ _ => ⟨rfl, rfl⟩, rfl⟩, hk⟩
def DR (P : Program) (bad : List (Nat × Nat)) (V : Nat → List Nat) (i : Nat) (ps : List Nat) (d : Option Nat) (op : Op) (ty : Nat) (nm : Option Nat) (r : List SO) (fs : List Fr) (σ : St) (Q : Exit → St → Prop) : Prop :=
  (op.operands.toList.all fun x => avoid (ps.flatMap V) false σ.h 6 (evL σ.ρ x)) = true ∧ L P [⟨d, op, ty, none, nm⟩] [] σ (DQW (V i) σ.h P bad V (i + 1) r fs Q)
@[go_sem] theorem DR_eq (bad : List (Nat × Nat)) (V : Nat → List Nat) (i : Nat) (ps : List Nat) (d : Option Nat) (op : Op) (ty : Nat) (nm : Option Nat) (r : List SO) (fs : List Fr) (σ : St) (Q : Exit → St → Prop) :
    DR P bad V i ps d op ty nm r fs σ Q = ((op.operands.toList.all fun x => avoid (ps.flatMap V) false σ.h 6 (evL σ.ρ x)) = true ∧ L P [⟨d, op, ty, none, nm⟩] [] σ (DQW (V i) σ.h P bad V (i + 1) r fs Q)) := rfl
@[go_sem] theorem DC_move (bad : List (Nat × Nat)) (V : Nat → List Nat) (i p : Nat) (ps : List Nat) (d : Option Nat) (x : Operand) (ty : Nat) (nm : Option Nat) (r : List SO) (fs : List Fr) (σ : St) (Q : Exit → St → Prop) :
    DC P bad V i (p :: ps) ⟨d, .move x, ty, none, nm⟩ r fs σ Q = DR P bad V i (p :: ps) d (.move x) ty nm r fs σ Q := DC_op rfl rfl
@[go_sem] theorem DC_load (bad : List (Nat × Nat)) (V : Nat → List Nat) (i p : Nat) (ps : List Nat) (d : Option Nat) (t : Nat) (x : Operand) (ty : Nat) (nm : Option Nat) (r : List SO) (fs : List Fr) (σ : St) (Q : Exit → St → Prop) :
    DC P bad V i (p :: ps) ⟨d, .load t x, ty, none, nm⟩ r fs σ Q = DR P bad V i (p :: ps) d (.load t x) ty nm r fs σ Q := DC_op rfl rfl
@[go_sem] theorem DC_alloc (bad : List (Nat × Nat)) (V : Nat → List Nat) (i p : Nat) (ps : List Nat) (d : Option Nat) (t : Nat) (ty : Nat) (nm : Option Nat) (r : List SO) (fs : List Fr) (σ : St) (Q : Exit → St → Prop) :
    DC P bad V i (p :: ps) ⟨d, .alloc t, ty, none, nm⟩ r fs σ Q = DR P bad V i (p :: ps) d (.alloc t) ty nm r fs σ Q := DC_op rfl rfl
@[go_sem] theorem DC_box (bad : List (Nat × Nat)) (V : Nat → List Nat) (i p : Nat) (ps : List Nat) (d : Option Nat) (t : Nat) (x : Operand) (ty : Nat) (nm : Option Nat) (r : List SO) (fs : List Fr) (σ : St) (Q : Exit → St → Prop) :
    DC P bad V i (p :: ps) ⟨d, .box t x, ty, none, nm⟩ r fs σ Q = DR P bad V i (p :: ps) d (.box t x) ty nm r fs σ Q := DC_op rfl rfl
@[go_sem] theorem DC_assign (bad : List (Nat × Nat)) (V : Nat → List Nat) (i p : Nat) (ps : List Nat) (d : Option Nat) (x : Operand) (ty : Nat) (nm : Option Nat) (r : List SO) (fs : List Fr) (σ : St) (Q : Exit → St → Prop) :
    DC P bad V i (p :: ps) ⟨d, .assign x, ty, none, nm⟩ r fs σ Q = DR P bad V i (p :: ps) d (.assign x) ty nm r fs σ Q := DC_op rfl rfl
@[go_sem] theorem DC_store (bad : List (Nat × Nat)) (V : Nat → List Nat) (i p : Nat) (ps : List Nat) (d : Option Nat) (t : Nat) (x y : Operand) (ty : Nat) (nm : Option Nat) (r : List SO) (fs : List Fr) (σ : St) (Q : Exit → St → Prop) :
    DC P bad V i (p :: ps) ⟨d, .store t x y, ty, none, nm⟩ r fs σ Q = DR P bad V i (p :: ps) d (.store t x y) ty nm r fs σ Q := DC_op rfl rfl
@[go_sem] theorem DC_buildSlice (bad : List (Nat × Nat)) (V : Nat → List Nat) (i p : Nat) (ps : List Nat) (d : Option Nat) (t k : Nat) (x : Array (Nat × Operand)) (ty : Nat) (nm : Option Nat) (r : List SO) (fs : List Fr) (σ : St) (Q : Exit → St → Prop) :
    DC P bad V i (p :: ps) ⟨d, .buildSlice t k x, ty, none, nm⟩ r fs σ Q = DR P bad V i (p :: ps) d (.buildSlice t k x) ty nm r fs σ Q := DC_op rfl rfl
@[go_sem] theorem DC_makeSlice (bad : List (Nat × Nat)) (V : Nat → List Nat) (i p : Nat) (ps : List Nat) (d : Option Nat) (t : Nat) (x y : Operand) (ty : Nat) (nm : Option Nat) (r : List SO) (fs : List Fr) (σ : St) (Q : Exit → St → Prop) :
    DC P bad V i (p :: ps) ⟨d, .makeSlice t x y, ty, none, nm⟩ r fs σ Q = DR P bad V i (p :: ps) d (.makeSlice t x y) ty nm r fs σ Q := DC_op rfl rfl
@[go_sem] theorem DC_append (bad : List (Nat × Nat)) (V : Nat → List Nat) (i p : Nat) (ps : List Nat) (d : Option Nat) (a : Array Operand) (t : Array Nat) (ty : Nat) (nm : Option Nat) (r : List SO) (fs : List Fr) (σ : St) (Q : Exit → St → Prop) :
    DC P bad V i (p :: ps) ⟨d, .call { callee := .builtin .append, args := a, argTypes := t }, ty, none, nm⟩ r fs σ Q = DR P bad V i (p :: ps) d (.call { callee := .builtin .append, args := a, argTypes := t }) ty nm r fs σ Q := DC_op rfl rfl
@[go_sem] theorem DC_len (bad : List (Nat × Nat)) (V : Nat → List Nat) (i p : Nat) (ps : List Nat) (d : Option Nat) (a : Array Operand) (t : Array Nat) (ty : Nat) (nm : Option Nat) (r : List SO) (fs : List Fr) (σ : St) (Q : Exit → St → Prop) :
    DC P bad V i (p :: ps) ⟨d, .call { callee := .builtin .len, args := a, argTypes := t }, ty, none, nm⟩ r fs σ Q = DR P bad V i (p :: ps) d (.call { callee := .builtin .len, args := a, argTypes := t }) ty nm r fs σ Q := DC_op rfl rfl
@[go_sem] theorem DC_indexAddr (bad : List (Nat × Nat)) (V : Nat → List Nat) (i p : Nat) (ps : List Nat) (d : Option Nat) (t : Nat) (x y : Operand) (ty : Nat) (nm : Option Nat) (r : List SO) (fs : List Fr) (σ : St) (Q : Exit → St → Prop) :
    DC P bad V i (p :: ps) ⟨d, .indexAddr t x y, ty, none, nm⟩ r fs σ Q = DR P bad V i (p :: ps) d (.indexAddr t x y) ty nm r fs σ Q := DC_op rfl rfl
@[go_sem] theorem DC_fieldAddr (bad : List (Nat × Nat)) (V : Nat → List Nat) (i p : Nat) (ps : List Nat) (d : Option Nat) (t : Nat) (x : Operand) (k : Nat) (ty : Nat) (nm : Option Nat) (r : List SO) (fs : List Fr) (σ : St) (Q : Exit → St → Prop) :
    DC P bad V i (p :: ps) ⟨d, .fieldAddr t x k, ty, none, nm⟩ r fs σ Q = DR P bad V i (p :: ps) d (.fieldAddr t x k) ty nm r fs σ Q := DC_op rfl rfl
@[go_sem] theorem DC_binOp (bad : List (Nat × Nat)) (V : Nat → List Nat) (i p : Nat) (ps : List Nat) (d : Option Nat) (b : BinOp) (t t1 : Nat) (x y : Operand) (ty : Nat) (nm : Option Nat) (r : List SO) (fs : List Fr) (σ : St) (Q : Exit → St → Prop) :
    DC P bad V i (p :: ps) ⟨d, .binOp b t x y t1, ty, none, nm⟩ r fs σ Q = DR P bad V i (p :: ps) d (.binOp b t x y t1) ty nm r fs σ Q := DC_op rfl rfl
@[go_sem] theorem DC_unOp (bad : List (Nat × Nat)) (V : Nat → List Nat) (i p : Nat) (ps : List Nat) (d : Option Nat) (b : UnOp) (t : Nat) (x : Operand) (ty : Nat) (nm : Option Nat) (r : List SO) (fs : List Fr) (σ : St) (Q : Exit → St → Prop) :
    DC P bad V i (p :: ps) ⟨d, .unOp b t x, ty, none, nm⟩ r fs σ Q = DR P bad V i (p :: ps) d (.unOp b t x) ty nm r fs σ Q := DC_op rfl rfl
@[go_sem] theorem DC_convert (bad : List (Nat × Nat)) (V : Nat → List Nat) (i p : Nat) (ps : List Nat) (d : Option Nat) (t t1 : Nat) (x : Operand) (ty : Nat) (nm : Option Nat) (r : List SO) (fs : List Fr) (σ : St) (Q : Exit → St → Prop) :
    DC P bad V i (p :: ps) ⟨d, .convert t t1 x, ty, none, nm⟩ r fs σ Q = DR P bad V i (p :: ps) d (.convert t t1 x) ty nm r fs σ Q := DC_op rfl rfl
@[go_sem] theorem DC_makeFunc (bad : List (Nat × Nat)) (V : Nat → List Nat) (i p : Nat) (ps : List Nat) (d : Option Nat) (x : Go.Fn) (y z : Array Operand) (ty : Nat) (nm : Option Nat) (r : List SO) (fs : List Fr) (σ : St) (Q : Exit → St → Prop) :
    DC P bad V i (p :: ps) ⟨d, .makeFunc x y z, ty, none, nm⟩ r fs σ Q = DR P bad V i (p :: ps) d (.makeFunc x y z) ty nm r fs σ Q := DC_op rfl rfl
@[go_sem] theorem DC_nilCheck (bad : List (Nat × Nat)) (V : Nat → List Nat) (i p : Nat) (ps : List Nat) (d : Option Nat) (x : Operand) (ty : Nat) (nm : Option Nat) (r : List SO) (fs : List Fr) (σ : St) (Q : Exit → St → Prop) :
    DC P bad V i (p :: ps) ⟨d, .nilCheck x, ty, none, nm⟩ r fs σ Q = DR P bad V i (p :: ps) d (.nilCheck x) ty nm r fs σ Q := DC_op rfl rfl
@[go_sem] theorem DC_pick (bad : List (Nat × Nat)) (V : Nat → List Nat) (i p : Nat) (ps : List Nat) (d : Option Nat) (x y z : Operand) (ty : Nat) (nm : Option Nat) (r : List SO) (fs : List Fr) (σ : St) (Q : Exit → St → Prop) :
    DC P bad V i (p :: ps) ⟨d, .pick x y z, ty, none, nm⟩ r fs σ Q = DR P bad V i (p :: ps) d (.pick x y z) ty nm r fs σ Q := DC_op rfl rfl
@[go_sem] theorem DC_index (bad : List (Nat × Nat)) (V : Nat → List Nat) (i p : Nat) (ps : List Nat) (d : Option Nat) (t : Nat) (x y : Operand) (ty : Nat) (nm : Option Nat) (r : List SO) (fs : List Fr) (σ : St) (Q : Exit → St → Prop) :
    DC P bad V i (p :: ps) ⟨d, .index t x y, ty, none, nm⟩ r fs σ Q = DR P bad V i (p :: ps) d (.index t x y) ty nm r fs σ Q := DC_op rfl rfl
@[go_sem] theorem DC_field (bad : List (Nat × Nat)) (V : Nat → List Nat) (i p : Nat) (ps : List Nat) (d : Option Nat) (t : Nat) (x : Operand) (k : Nat) (ty : Nat) (nm : Option Nat) (r : List SO) (fs : List Fr) (σ : St) (Q : Exit → St → Prop) :
    DC P bad V i (p :: ps) ⟨d, .field t x k, ty, none, nm⟩ r fs σ Q = DR P bad V i (p :: ps) d (.field t x k) ty nm r fs σ Q := DC_op rfl rfl
@[go_sem] theorem DC_build (bad : List (Nat × Nat)) (V : Nat → List Nat) (i p : Nat) (ps : List Nat) (d : Option Nat) (t : Nat) (x : Array (Nat × Operand)) (ty : Nat) (nm : Option Nat) (r : List SO) (fs : List Fr) (σ : St) (Q : Exit → St → Prop) :
    DC P bad V i (p :: ps) ⟨d, .build t x, ty, none, nm⟩ r fs σ Q = DR P bad V i (p :: ps) d (.build t x) ty nm r fs σ Q := DC_op rfl rfl
@[go_sem] theorem DC_extract (bad : List (Nat × Nat)) (V : Nat → List Nat) (i p : Nat) (ps : List Nat) (d : Option Nat) (x : Operand) (k : Nat) (ty : Nat) (nm : Option Nat) (r : List SO) (fs : List Fr) (σ : St) (Q : Exit → St → Prop) :
    DC P bad V i (p :: ps) ⟨d, .extract x k, ty, none, nm⟩ r fs σ Q = DR P bad V i (p :: ps) d (.extract x k) ty nm r fs σ Q := DC_op rfl rfl
@[go_sem] theorem DC_slice (bad : List (Nat × Nat)) (V : Nat → List Nat) (i p : Nat) (ps : List Nat) (d : Option Nat) (t : Nat) (x : Operand) (y z v : Option Operand) (ty : Nat) (nm : Option Nat) (r : List SO) (fs : List Fr) (σ : St) (Q : Exit → St → Prop) :
    DC P bad V i (p :: ps) ⟨d, .slice t x y z v, ty, none, nm⟩ r fs σ Q = DR P bad V i (p :: ps) d (.slice t x y z v) ty nm r fs σ Q := DC_op rfl rfl
@[go_sem] theorem DC_min (bad : List (Nat × Nat)) (V : Nat → List Nat) (i p : Nat) (ps : List Nat) (d : Option Nat) (a : Array Operand) (t : Array Nat) (ty : Nat) (nm : Option Nat) (r : List SO) (fs : List Fr) (σ : St) (Q : Exit → St → Prop) :
    DC P bad V i (p :: ps) ⟨d, .call { callee := .builtin .min, args := a, argTypes := t }, ty, none, nm⟩ r fs σ Q = DR P bad V i (p :: ps) d (.call { callee := .builtin .min, args := a, argTypes := t }) ty nm r fs σ Q := DC_op rfl rfl
@[go_sem] theorem DC_max (bad : List (Nat × Nat)) (V : Nat → List Nat) (i p : Nat) (ps : List Nat) (d : Option Nat) (a : Array Operand) (t : Array Nat) (ty : Nat) (nm : Option Nat) (r : List SO) (fs : List Fr) (σ : St) (Q : Exit → St → Prop) :
    DC P bad V i (p :: ps) ⟨d, .call { callee := .builtin .max, args := a, argTypes := t }, ty, none, nm⟩ r fs σ Q = DR P bad V i (p :: ps) d (.call { callee := .builtin .max, args := a, argTypes := t }) ty nm r fs σ Q := DC_op rfl rfl
@[go_sem] theorem DC_copy (bad : List (Nat × Nat)) (V : Nat → List Nat) (i p : Nat) (ps : List Nat) (d : Option Nat) (a : Array Operand) (t : Array Nat) (ty : Nat) (nm : Option Nat) (r : List SO) (fs : List Fr) (σ : St) (Q : Exit → St → Prop) :
    DC P bad V i (p :: ps) ⟨d, .call { callee := .builtin .copy, args := a, argTypes := t }, ty, none, nm⟩ r fs σ Q = DR P bad V i (p :: ps) d (.call { callee := .builtin .copy, args := a, argTypes := t }) ty nm r fs σ Q := DC_op rfl rfl
end
section
variable (N : List Nat) (dp : Bool) (h : AH) (n : Nat)
@[go_sem] theorem av_fv (x : FV) : avoid N dp h (n + 1) (.fv x) = true := rfl
@[go_sem] theorem av_undef : avoid N dp h (n + 1) .undef = true := rfl
@[go_sem] theorem av_fn (g : List FV → Option FV) : avoid N dp h (n + 1) (.fn g) = true := rfl
@[go_sem] theorem av_sq (g : List (List FV)) : avoid N dp h (n + 1) (.sq g) = true := rfl
@[go_sem] theorem av_tup (g : List LV) : avoid N dp h (n + 1) (.tup g) = true := rfl
@[go_sem] theorem av_pb (g : List LV) : avoid N dp h (n + 1) (.pb g) = true := rfl
@[go_sem] theorem av_gl (o g : Nat) : avoid N dp h (n + 1) (.gl o g) = !N.contains o := rfl
@[go_sem] theorem av_mp (o g : Nat) : avoid N dp h (n + 1) (.mp o g) = !N.contains o := rfl
@[go_sem] theorem av_it (o g : Nat) : avoid N dp h (n + 1) (.it o g) = !N.contains o := rfl
@[go_sem] theorem av_elem (o g a b c : Nat) : avoid N dp h (n + 1) (.elem o g a b c) = !N.contains o := rfl
@[go_sem] theorem av_ptr_flat (o g f : Nat) : avoid N false h (n + 1) (.ptr o g f) = !N.contains o := by simp [avoid]
@[go_sem] theorem av_ptr_deep (o g f : Nat) : avoid N true h (n + 1) (.ptr o g f) = (!N.contains o && (match asBox (h.obj o) with | some cs => cs.all (avoid N true h n) | none => true)) := by
  simp only [avoid, Bool.not_true, Bool.false_or]
  congr 1
  cases h.obj o with
  | none => rfl
  | some ob => cases ob <;> rfl
@[go_sem] theorem av_clos (f : Nat) (cs : List LV) : avoid N dp h (n + 1) (.clos f cs) = cs.all (avoid N dp h n) := rfl
@[go_sem] theorem av_agg (cs : List LV) : avoid N dp h (n + 1) (.agg cs) = cs.all (avoid N dp h n) := rfl
@[go_sem] theorem av_bnd (f : Nat) (cs : List LV) : avoid N dp h (n + 1) (.bnd f cs) = cs.all (avoid N dp h n) := rfl
end
theorem Agree.rfl' (W : List Nat) (h : AH) : Agree W h h := ⟨fun _ _ => ⟨rfl, rfl⟩, rfl⟩
@[go_sem] theorem ag_refl (W : List Nat) (h : AH) : Agree W h h = True := by simp [Agree.rfl']
@[go_sem] theorem ag_new (W : List Nat) (h h' : AH) (o : Nat) (ob : AObj) (hm : W.contains o = true) : Agree W h (h'.new o ob) = Agree W h h' := by
  simp only [List.contains_iff_mem] at hm
  have key : ∀ k, k ∉ W → (h'.new o ob).gen k = h'.gen k ∧ (h'.new o ob).obj k = h'.obj k := by
    intro k hk
    have : k ≠ o := fun e => hk (e ▸ hm)
    simp [AH.new, upd, this]
  simp only [eq_iff_iff]
  constructor
  · intro a
    exact ⟨fun k hk => ⟨(key k hk).1 ▸ (a.at' k hk).1, (key k hk).2 ▸ (a.at' k hk).2⟩, a.y⟩
  · intro a
    exact ⟨fun k hk => ⟨(key k hk).1.trans (a.at' k hk).1, (key k hk).2.trans (a.at' k hk).2⟩, a.y⟩
@[go_sem] theorem ag_set (W : List Nat) (h h' : AH) (o : Nat) (ob : AObj) (hm : W.contains o = true) : Agree W h (h'.set o ob) = Agree W h h' := by
  simp only [List.contains_iff_mem] at hm
  have key : ∀ k, k ∉ W → (h'.set o ob).gen k = h'.gen k ∧ (h'.set o ob).obj k = h'.obj k := by
    intro k hk
    have : k ≠ o := fun e => hk (e ▸ hm)
    simp [AH.set, upd, this]
  simp only [eq_iff_iff]
  constructor
  · intro a
    exact ⟨fun k hk => ⟨(key k hk).1 ▸ (a.at' k hk).1, (key k hk).2 ▸ (a.at' k hk).2⟩, a.y⟩
  · intro a
    exact ⟨fun k hk => ⟨(key k hk).1.trans (a.at' k hk).1, (key k hk).2.trans (a.at' k hk).2⟩, a.y⟩
@[go_sem] theorem ag_renew (W : List Nat) (h h' : AH) (o : Nat) (k' : Nat) (ob : AObj) (hm : W.contains o = true) : Agree W h (h'.renew o k' ob) = Agree W h h' := by
  simp only [List.contains_iff_mem] at hm
  have key : ∀ k, k ∉ W → (h'.renew o k' ob).gen k = h'.gen k ∧ (h'.renew o k' ob).obj k = h'.obj k := by
    intro k hk
    have : k ≠ o := fun e => hk (e ▸ hm)
    simp [AH.renew, upd, this]
  simp only [eq_iff_iff]
  constructor
  · intro a
    exact ⟨fun k hk => ⟨(key k hk).1 ▸ (a.at' k hk).1, (key k hk).2 ▸ (a.at' k hk).2⟩, a.y⟩
  · intro a
    exact ⟨fun k hk => ⟨(key k hk).1.trans (a.at' k hk).1, (key k hk).2.trans (a.at' k hk).2⟩, a.y⟩
/-- What operations write, as a list. -/
def Vs (l : List (List Nat)) (i : Nat) : List Nat := l.getD i []
@[go_sem] theorem Vs_zero (x : List Nat) (l : List (List Nat)) : Vs (x :: l) 0 = x := rfl
@[go_sem] theorem Vs_succ (x : List Nat) (l : List (List Nat)) (n : Nat) : Vs (x :: l) (n + 1) = Vs l n := rfl
@[go_sem] theorem Vs_nil (n : Nat) : Vs [] n = [] := rfl
section
variable (own : Nat → Bool) (h : AH) (n : Nat)
@[go_sem] theorem pk_fv (x : FV) : peek own h (n + 1) (.fv x) = some x := rfl
@[go_sem] theorem pk_gl (o g : Nat) : peek own h (n + 1) (.gl o g) = (h.lst o g).bind fun l => if own o || l.2.2.1 then some (if l.2.2.2.1 then FV.nil else .list false l.2.2.2.2) else none := rfl
@[go_sem] theorem pk_ptr (o g f : Nat) : peek own h (n + 1) (.ptr o g f) = if own o then (h.box o g).bind fun cs => (mapO (peek own h n) (cs.drop f)).map FV.ptr else none := rfl
@[go_sem] theorem pk_clos (f : Nat) (cs : List LV) : peek own h (n + 1) (.clos f cs) = (mapO (peek own h n) cs).map (FV.clos f) := rfl
@[go_sem] theorem pk_agg (cs : List LV) : peek own h (n + 1) (.agg cs) = (mapO (peek own h n) cs).map FV.agg := rfl
@[go_sem] theorem pk_mp (o g : Nat) : peek own h (n + 1) (.mp o g) = (h.mpo o g).bind fun l => if own o || l.1 then some (FV.map l.2) else none := rfl
@[go_sem] theorem mapO_nil (f : LV → Option FV) : mapO f [] = some [] := rfl
@[go_sem] theorem mapO_cons (f : LV → Option FV) (c : LV) (cs : List LV) : mapO f (c :: cs) = (f c).bind fun x => (mapO f cs).map (x :: ·) := rfl
theorem ret_tup {h : AH} {a b : LV} {r : List LV} {cs : List RC} (own : Nat → Bool) (e : retS own h (a :: b :: r) cs) (nd : (ownNames (a :: b :: r) cs).Nodup) : retF (.tup cs) (a :: b :: r) h := ⟨own, e, nd⟩
@[go_sem] theorem retS_nil : retS own h [] [] = True := rfl
@[go_sem] theorem retS_cons (l : LV) (ls : List LV) (c : RC) (cs : List RC) : retS own h (l :: ls) (c :: cs) = (retC own h l c ∧ retS own h ls cs) := rfl
@[go_sem] theorem retC_fx (l : LV) (x : FV) : retC own h l (.fx x) = (peek own h 6 l = some x) := rfl
end
end Abs

