/- A part of the proof: AbsY, AbsZ, AbsH. -/
import Derived.Test.YtmanbdacloeioaaAbsX
set_option linter.unusedSimpArgs false
set_option linter.unusedVariables false
namespace Abs
open Go
section
variable {P : Program}
/-! The walk of a drawn region. -/
def DQ (P : Program) (bad : List (Nat × Nat)) (V : Nat → List Nat) (i : Nat) (r : List SO) (fs : List Fr) (Q : Exit → St → Prop) (e : Exit) (σ : St) : Prop :=
  match e with
  | .normal => LD P (clOf bad V) i r fs σ Q
  | _ => False
def DQW (W : List Nat) (h0 : AH) (P : Program) (bad : List (Nat × Nat)) (V : Nat → List Nat) (i : Nat) (r : List SO) (fs : List Fr) (Q : Exit → St → Prop) (e : Exit) (σ : St) : Prop :=
  match e with
  | .normal => Agree W h0 σ.h ∧ LD P (clOf bad V) i r fs σ Q
  | _ => False
@[go_sem] theorem DQ_normal (bad : List (Nat × Nat)) (V : Nat → List Nat) (i : Nat) (r : List SO) (fs : List Fr) (Q : Exit → St → Prop) (σ : St) : DQ P bad V i r fs Q .normal σ = LD P (clOf bad V) i r fs σ Q := rfl
@[go_sem] theorem DQW_normal (W : List Nat) (h0 : AH) (bad : List (Nat × Nat)) (V : Nat → List Nat) (i : Nat) (r : List SO) (fs : List Fr) (Q : Exit → St → Prop) (σ : St) : DQW W h0 P bad V i r fs Q .normal σ = (Agree W h0 σ.h ∧ LD P (clOf bad V) i r fs σ Q) := rfl
/-- An operation of a drawn region; ps: its partners. -/
def DC (P : Program) (bad : List (Nat × Nat)) (V : Nat → List Nat) (i : Nat) (ps : List Nat) (o : SO) (r : List SO) (fs : List Fr) (σ : St) (Q : Exit → St → Prop) : Prop :=
  aSOD P (match ps with | [] => none | ps => some ⟨V i, ps.flatMap V⟩) o σ fun σ' => LD P (clOf bad V) (i + 1) r fs σ' Q
/-- A call in a drawn region waits. -/
def Cd (P : Program) (bad : List (Nat × Nat)) (V : Nat → List Nat) (i : Nat) (ps : List Nat) (nm : Option Nat) (f : LV) (args : List LV) (h : AH) (d : Option Nat) (r : List SO) (fs : List Fr) (ρ : Nat → LV) (Q : Exit → St → Prop) : Prop :=
  callE0 P nm f args h fun lv h' => Agree (V i) h h' ∧ LD P (clOf bad V) (i + 1) r fs (St.put ⟨ρ, h⟩ d lv h') Q
@[go_sem] theorem LD_nil (bad : List (Nat × Nat)) (V : Nat → List Nat) (i : Nat) (fs : List Fr) (σ : St) (Q : Exit → St → Prop) : LD P (clOf bad V) i [] fs σ Q = U P .normal fs σ Q := rfl
@[go_sem] theorem LD_cons (bad : List (Nat × Nat)) (V : Nat → List Nat) (i : Nat) (o : SO) (r : List SO) (fs : List Fr) (σ : St) (Q : Exit → St → Prop) : LD P (clOf bad V) i (o :: r) fs σ Q = DC P bad V i (partners bad i) o r fs σ Q := rfl
@[go_sem] theorem partners_nil (i : Nat) : partners [] i = [] := rfl
@[go_sem] theorem partners_cons (a b : Nat) (l : List (Nat × Nat)) (i : Nat) : partners ((a, b) :: l) i = if a = i then b :: partners l i else if b = i then a :: partners l i else partners l i := by
  unfold partners
  simp only [List.filterMap_cons]
  by_cases h1 : a = i
  · simp [h1]
  · by_cases h2 : b = i
    · simp [h1, h2]
    · simp [h1, h2]
@[go_sem] theorem DC_nil (bad : List (Nat × Nat)) (V : Nat → List Nat) (i : Nat) (o : SO) (r : List SO) (fs : List Fr) (σ : St) (Q : Exit → St → Prop) : DC P bad V i [] o r fs σ Q = L P [o] [] σ (DQ P bad V (i + 1) r fs Q) := rfl
theorem DC_op {bad : List (Nat × Nat)} {V : Nat → List Nat} {i p : Nat} {ps : List Nat} {d : Option Nat} {op : Op} {ty : Nat} {nm : Option Nat} {r : List SO} {fs : List Fr} {σ : St} {Q : Exit → St → Prop} (h1 : isMap op = false) (h2 : isCall op = false) :
    DC P bad V i (p :: ps) ⟨d, op, ty, none, nm⟩ r fs σ Q = ((op.operands.toList.all fun x => avoid ((p :: ps).flatMap V) false σ.h 6 (evL σ.ρ x)) = true ∧ L P [⟨d, op, ty, none, nm⟩] [] σ (DQW (V i) σ.h P bad V (i + 1) r fs Q)) := by
  have e : ∀ K : LV → AH → Prop, stepE0 P nm op ty (evL σ.ρ) σ.h K = stepE P nm op ty (evL σ.ρ) σ.h K := by
    intro K
    unfold stepE0 stepE
    split
    · simp [isCall] at h2
    · simp only [h1]; rfl
  show ((op.operands.toList.all fun x => avoid ((p :: ps).flatMap V) (isCall op) σ.h 6 (evL σ.ρ x)) = true ∧ stepE0 P nm op ty (evL σ.ρ) σ.h fun lv h' => Agree (V i) σ.h h' ∧ LD P (clOf bad V) (i + 1) r fs (σ.put d lv h') Q) = _
  rw [e, h2, L_step]
  congr 2
  funext lv h
  cases d <;> rfl
/-- A guard of an operation of a drawn region waits. -/
def BrD (v : LV) (want : Bool) (A B : Prop) : Prop := (∃ b, v = .fv (.val (.bool b)) ∧ (b = want → A) ∧ (b = (!want) → B)) ∨ (v = .tup [] ∧ B)
@[go_sem] theorem BrD_no (want : Bool) (A B : Prop) : BrD (.tup []) want A B = B := by simp [BrD]
@[go_sem] theorem BrD_tt (A B : Prop) : BrD (.fv (.val (.bool true))) true A B = A := by simp [BrD]
@[go_sem] theorem BrD_ft (A B : Prop) : BrD (.fv (.val (.bool false))) true A B = B := by simp [BrD]
@[go_sem] theorem BrD_tf (A B : Prop) : BrD (.fv (.val (.bool true))) false A B = B := by simp [BrD]
@[go_sem] theorem BrD_ff (A B : Prop) : BrD (.fv (.val (.bool false))) false A B = A := by simp [BrD]
@[go_sem] theorem DC_call (bad : List (Nat × Nat)) (V : Nat → List Nat) (i p : Nat) (ps : List Nat) (d : Option Nat) (f : Operand) (a : Array Operand) (t : Array Nat) (ty : Nat) (nm : Option Nat) (r : List SO) (fs : List Fr) (σ : St) (Q : Exit → St → Prop) :
    DC P bad V i (p :: ps) ⟨d, .call { callee := .value f, args := a, argTypes := t }, ty, none, nm⟩ r fs σ Q =
      (((Op.call { callee := .value f, args := a, argTypes := t }).operands.toList.all fun x => avoid ((p :: ps).flatMap V) true σ.h 6 (evL σ.ρ x)) = true ∧ Cd P bad V i (p :: ps) nm (evL σ.ρ f) (a.toList.map (evL σ.ρ)) σ.h d r fs σ.ρ Q) := rfl
@[go_sem] theorem DC_guard (bad : List (Nat × Nat)) (V : Nat → List Nat) (i p : Nat) (ps : List Nat) (d : Option Nat) (op : Op) (s : Nat) (want : Bool) (ty : Nat) (nm : Option Nat) (r : List SO) (fs : List Fr) (σ : St) (Q : Exit → St → Prop) :
    DC P bad V i (p :: ps) ⟨d, op, ty, some (s, want), nm⟩ r fs σ Q =
      BrD (σ.ρ s) want (DC P bad V i (p :: ps) ⟨d, op, ty, none, nm⟩ r fs σ Q) (LD P (clOf bad V) (i + 1) r fs (σ.put d (.tup []) σ.h) Q) := by
  unfold BrD DC aSOD
  simp only
  split
  · rename_i b hb
    rw [hb]
    by_cases e : b = want
    · rw [if_pos e]
      subst e
      simp only [eq_iff_iff]
      constructor
      · intro h; exact .inl ⟨b, rfl, fun _ => h, fun h => by cases b <;> simp at h⟩
      · rintro (⟨b', h1, h2, h3⟩ | ⟨h1, h2⟩)
        · simp at h1; subst h1; exact h2 rfl
        · simp at h1
    · rw [if_neg e]
      have e' : b = !want := by cases b <;> cases want <;> simp_all
      simp only [eq_iff_iff]
      constructor
      · intro h; exact .inl ⟨b, rfl, fun h => absurd h e, fun _ => h⟩
      · rintro (⟨b', h1, h2, h3⟩ | ⟨h1, h2⟩)
        · simp at h1; subst h1; exact h3 e'
        · simp at h1
  · rename_i hb
    rw [hb]
    simp only [eq_iff_iff]
    constructor
    · intro h; exact .inr ⟨trivial, h⟩
    · rintro (⟨b', h1, h2, h3⟩ | ⟨h1, h2⟩)
      · simp at h1
      · exact h2
  · rename_i hne hne2
    simp only [eq_iff_iff, false_iff]
    rintro (⟨b, hb, _⟩ | ⟨hb, _⟩)
    · exact absurd hb (hne b)
    · exact absurd hb hne2
theorem callD {bad : List (Nat × Nat)} {V : Nat → List Nat} {i : Nat} {ps : List Nat} {nm : Option Nat} {f : Nat} {caps args : List LV} {h : AH} {d : Option Nat} {r : List SO} {fs : List Fr} {ρ : Nat → LV} {Q : Exit → St → Prop} (os : List Nat) (own : Bool) (as : List Arg) (cs : List FV) {rv : RV}
    (hF : Fn P f (as ++ cs.map .fo) rv) (ha : argsOf P (fun _ => own) (h.frzObjs os) args as) (hc : mapO (peek (fun _ => own) (h.frzObjs os) 6) caps = some cs) (ho : own = false ∨ rv.shallow = true)
    (hk : Agree (V i) h (impR (h.frzObjs os) nm rv).2 ∧ LD P (clOf bad V) (i + 1) r fs (St.put ⟨ρ, h⟩ d (impR (h.frzObjs os) nm rv).1 (impR (h.frzObjs os) nm rv).2) Q) : Cd P bad V i ps nm (.clos f caps) args h d r fs ρ Q :=
  ⟨os, own, as, cs, rv, ha, hc, hF, ho, hk⟩
theorem callDg {bad : List (Nat × Nat)} {V : Nat → List Nat} {i : Nat} {ps : List Nat} {nm : Option Nat} {g : List FV → Option FV} {args : List LV} {h : AH} {d : Option Nat} {r : List SO} {fs : List Fr} {ρ : Nat → LV} {Q : Exit → St → Prop} (own : Bool) (xs : List FV) {y : FV}
    (ha : mapO (peek (fun _ => own) h 6) args = some xs) (hg : g xs = some y) (ho : own = false ∨ y.shallow = true)
    (hk : LD P (clOf bad V) (i + 1) r fs (St.put ⟨ρ, h⟩ d (.fv y) h) Q) : Cd P bad V i ps nm (.fn g) args h d r fs ρ Q :=
  ⟨[], own, xs, y, ha, hg, ho, ⟨fun _ _ => ⟨rfl, rfl⟩, rfl⟩, hk⟩
def DR (P : Program) (bad : List (Nat × Nat)) (V : Nat → List Nat) (i : Nat) (ps : List Nat) (d : Option Nat) (op : Op) (ty : Nat) (nm : Option Nat) (r : List SO) (fs : List Fr) (σ : St) (Q : Exit → St → Prop) : Prop :=
  (op.operands.toList.all fun x => avoid (ps.flatMap V) false σ.h 6 (evL σ.ρ x)) = true ∧ L P [⟨d, op, ty, none, nm⟩] [] σ (DQW (V i) σ.h P bad V (i + 1) r fs Q)
@[go_sem] theorem DR_eq (bad : List (Nat × Nat)) (V : Nat → List Nat) (i : Nat) (ps : List Nat) (d : Option Nat) (op : Op) (ty : Nat) (nm : Option Nat) (r : List SO) (fs : List Fr) (σ : St) (Q : Exit → St → Prop) :
    DR P bad V i ps d op ty nm r fs σ Q = ((op.operands.toList.all fun x => avoid (ps.flatMap V) false σ.h 6 (evL σ.ρ x)) = true ∧ L P [⟨d, op, ty, none, nm⟩] [] σ (DQW (V i) σ.h P bad V (i + 1) r fs Q)) := rfl
@[go_sem] theorem DC_move (bad : List (Nat × Nat)) (V : Nat → List Nat) (i p : Nat) (ps : List Nat) (d : Option Nat) (x : Operand) (ty : Nat) (nm : Option Nat) (r : List SO) (fs : List Fr) (σ : St) (Q : Exit → St → Prop) :
    DC P bad V i (p :: ps) ⟨d, .move x, ty, none, nm⟩ r fs σ Q = DR P bad V i (p :: ps) d (.move x) ty nm r fs σ Q := DC_op rfl rfl
@[go_sem] theorem DC_load (bad : List (Nat × Nat)) (V : Nat → List Nat) (i p : Nat) (ps : List Nat) (d : Option Nat) (t : Nat) (x : Operand) (ty : Nat) (nm : Option Nat) (r : List SO) (fs : List Fr) (σ : St) (Q : Exit → St → Prop) :
    DC P bad V i (p :: ps) ⟨d, .load t x, ty, none, nm⟩ r fs σ Q = DR P bad V i (p :: ps) d (.load t x) ty nm r fs σ Q := DC_op rfl rfl
@[go_sem] theorem DC_alloc (bad : List (Nat × Nat)) (V : Nat → List Nat) (i p : Nat) (ps : List Nat) (d : Option Nat) (t : Nat) (ty : Nat) (nm : Option Nat) (r : List SO) (fs : List Fr) (σ : St) (Q : Exit → St → Prop) :
    DC P bad V i (p :: ps) ⟨d, .alloc t, ty, none, nm⟩ r fs σ Q = DR P bad V i (p :: ps) d (.alloc t) ty nm r fs σ Q := DC_op rfl rfl
@[go_sem] theorem DC_box (bad : List (Nat × Nat)) (V : Nat → List Nat) (i p : Nat) (ps : List Nat) (d : Option Nat) (t : Nat) (x : Operand) (ty : Nat) (nm : Option Nat) (r : List SO) (fs : List Fr) (σ : St) (Q : Exit → St → Prop) :
    DC P bad V i (p :: ps) ⟨d, .box t x, ty, none, nm⟩ r fs σ Q = DR P bad V i (p :: ps) d (.box t x) ty nm r fs σ Q := DC_op rfl rfl
@[go_sem] theorem DC_assign (bad : List (Nat × Nat)) (V : Nat → List Nat) (i p : Nat) (ps : List Nat) (d : Option Nat) (x : Operand) (ty : Nat) (nm : Option Nat) (r : List SO) (fs : List Fr) (σ : St) (Q : Exit → St → Prop) :
    DC P bad V i (p :: ps) ⟨d, .assign x, ty, none, nm⟩ r fs σ Q = DR P bad V i (p :: ps) d (.assign x) ty nm r fs σ Q := DC_op rfl rfl
@[go_sem] theorem DC_store (bad : List (Nat × Nat)) (V : Nat → List Nat) (i p : Nat) (ps : List Nat) (d : Option Nat) (t : Nat) (x y : Operand) (ty : Nat) (nm : Option Nat) (r : List SO) (fs : List Fr) (σ : St) (Q : Exit → St → Prop) :
    DC P bad V i (p :: ps) ⟨d, .store t x y, ty, none, nm⟩ r fs σ Q = DR P bad V i (p :: ps) d (.store t x y) ty nm r fs σ Q := DC_op rfl rfl
@[go_sem] theorem DC_buildSlice (bad : List (Nat × Nat)) (V : Nat → List Nat) (i p : Nat) (ps : List Nat) (d : Option Nat) (t k : Nat) (x : Array (Nat × Operand)) (ty : Nat) (nm : Option Nat) (r : List SO) (fs : List Fr) (σ : St) (Q : Exit → St → Prop) :
    DC P bad V i (p :: ps) ⟨d, .buildSlice t k x, ty, none, nm⟩ r fs σ Q = DR P bad V i (p :: ps) d (.buildSlice t k x) ty nm r fs σ Q := DC_op rfl rfl
@[go_sem] theorem DC_makeSlice (bad : List (Nat × Nat)) (V : Nat → List Nat) (i p : Nat) (ps : List Nat) (d : Option Nat) (t : Nat) (x y : Operand) (ty : Nat) (nm : Option Nat) (r : List SO) (fs : List Fr) (σ : St) (Q : Exit → St → Prop) :
    DC P bad V i (p :: ps) ⟨d, .makeSlice t x y, ty, none, nm⟩ r fs σ Q = DR P bad V i (p :: ps) d (.makeSlice t x y) ty nm r fs σ Q := DC_op rfl rfl
@[go_sem] theorem DC_append (bad : List (Nat × Nat)) (V : Nat → List Nat) (i p : Nat) (ps : List Nat) (d : Option Nat) (a : Array Operand) (t : Array Nat) (ty : Nat) (nm : Option Nat) (r : List SO) (fs : List Fr) (σ : St) (Q : Exit → St → Prop) :
    DC P bad V i (p :: ps) ⟨d, .call { callee := .builtin .append, args := a, argTypes := t }, ty, none, nm⟩ r fs σ Q = DR P bad V i (p :: ps) d (.call { callee := .builtin .append, args := a, argTypes := t }) ty nm r fs σ Q := DC_op rfl rfl
@[go_sem] theorem DC_len (bad : List (Nat × Nat)) (V : Nat → List Nat) (i p : Nat) (ps : List Nat) (d : Option Nat) (a : Array Operand) (t : Array Nat) (ty : Nat) (nm : Option Nat) (r : List SO) (fs : List Fr) (σ : St) (Q : Exit → St → Prop) :
    DC P bad V i (p :: ps) ⟨d, .call { callee := .builtin .len, args := a, argTypes := t }, ty, none, nm⟩ r fs σ Q = DR P bad V i (p :: ps) d (.call { callee := .builtin .len, args := a, argTypes := t }) ty nm r fs σ Q := DC_op rfl rfl
@[go_sem] theorem DC_indexAddr (bad : List (Nat × Nat)) (V : Nat → List Nat) (i p : Nat) (ps : List Nat) (d : Option Nat) (t : Nat) (x y : Operand) (ty : Nat) (nm : Option Nat) (r : List SO) (fs : List Fr) (σ : St) (Q : Exit → St → Prop) :
    DC P bad V i (p :: ps) ⟨d, .indexAddr t x y, ty, none, nm⟩ r fs σ Q = DR P bad V i (p :: ps) d (.indexAddr t x y) ty nm r fs σ Q := DC_op rfl rfl
@[go_sem] theorem DC_fieldAddr (bad : List (Nat × Nat)) (V : Nat → List Nat) (i p : Nat) (ps : List Nat) (d : Option Nat) (t : Nat) (x : Operand) (k : Nat) (ty : Nat) (nm : Option Nat) (r : List SO) (fs : List Fr) (σ : St) (Q : Exit → St → Prop) :
    DC P bad V i (p :: ps) ⟨d, .fieldAddr t x k, ty, none, nm⟩ r fs σ Q = DR P bad V i (p :: ps) d (.fieldAddr t x k) ty nm r fs σ Q := DC_op rfl rfl
@[go_sem] theorem DC_binOp (bad : List (Nat × Nat)) (V : Nat → List Nat) (i p : Nat) (ps : List Nat) (d : Option Nat) (b : BinOp) (t t1 : Nat) (x y : Operand) (ty : Nat) (nm : Option Nat) (r : List SO) (fs : List Fr) (σ : St) (Q : Exit → St → Prop) :
    DC P bad V i (p :: ps) ⟨d, .binOp b t x y t1, ty, none, nm⟩ r fs σ Q = DR P bad V i (p :: ps) d (.binOp b t x y t1) ty nm r fs σ Q := DC_op rfl rfl
@[go_sem] theorem DC_unOp (bad : List (Nat × Nat)) (V : Nat → List Nat) (i p : Nat) (ps : List Nat) (d : Option Nat) (b : UnOp) (t : Nat) (x : Operand) (ty : Nat) (nm : Option Nat) (r : List SO) (fs : List Fr) (σ : St) (Q : Exit → St → Prop) :
    DC P bad V i (p :: ps) ⟨d, .unOp b t x, ty, none, nm⟩ r fs σ Q = DR P bad V i (p :: ps) d (.unOp b t x) ty nm r fs σ Q := DC_op rfl rfl
@[go_sem] theorem DC_convert (bad : List (Nat × Nat)) (V : Nat → List Nat) (i p : Nat) (ps : List Nat) (d : Option Nat) (t t1 : Nat) (x : Operand) (ty : Nat) (nm : Option Nat) (r : List SO) (fs : List Fr) (σ : St) (Q : Exit → St → Prop) :
    DC P bad V i (p :: ps) ⟨d, .convert t t1 x, ty, none, nm⟩ r fs σ Q = DR P bad V i (p :: ps) d (.convert t t1 x) ty nm r fs σ Q := DC_op rfl rfl
@[go_sem] theorem DC_makeFunc (bad : List (Nat × Nat)) (V : Nat → List Nat) (i p : Nat) (ps : List Nat) (d : Option Nat) (x : Go.Fn) (y z : Array Operand) (ty : Nat) (nm : Option Nat) (r : List SO) (fs : List Fr) (σ : St) (Q : Exit → St → Prop) :
    DC P bad V i (p :: ps) ⟨d, .makeFunc x y z, ty, none, nm⟩ r fs σ Q = DR P bad V i (p :: ps) d (.makeFunc x y z) ty nm r fs σ Q := DC_op rfl rfl
@[go_sem] theorem DC_nilCheck (bad : List (Nat × Nat)) (V : Nat → List Nat) (i p : Nat) (ps : List Nat) (d : Option Nat) (x : Operand) (ty : Nat) (nm : Option Nat) (r : List SO) (fs : List Fr) (σ : St) (Q : Exit → St → Prop) :
    DC P bad V i (p :: ps) ⟨d, .nilCheck x, ty, none, nm⟩ r fs σ Q = DR P bad V i (p :: ps) d (.nilCheck x) ty nm r fs σ Q := DC_op rfl rfl
@[go_sem] theorem DC_pick (bad : List (Nat × Nat)) (V : Nat → List Nat) (i p : Nat) (ps : List Nat) (d : Option Nat) (x y z : Operand) (ty : Nat) (nm : Option Nat) (r : List SO) (fs : List Fr) (σ : St) (Q : Exit → St → Prop) :
    DC P bad V i (p :: ps) ⟨d, .pick x y z, ty, none, nm⟩ r fs σ Q = DR P bad V i (p :: ps) d (.pick x y z) ty nm r fs σ Q := DC_op rfl rfl
@[go_sem] theorem DC_index (bad : List (Nat × Nat)) (V : Nat → List Nat) (i p : Nat) (ps : List Nat) (d : Option Nat) (t : Nat) (x y : Operand) (ty : Nat) (nm : Option Nat) (r : List SO) (fs : List Fr) (σ : St) (Q : Exit → St → Prop) :
    DC P bad V i (p :: ps) ⟨d, .index t x y, ty, none, nm⟩ r fs σ Q = DR P bad V i (p :: ps) d (.index t x y) ty nm r fs σ Q := DC_op rfl rfl
@[go_sem] theorem DC_field (bad : List (Nat × Nat)) (V : Nat → List Nat) (i p : Nat) (ps : List Nat) (d : Option Nat) (t : Nat) (x : Operand) (k : Nat) (ty : Nat) (nm : Option Nat) (r : List SO) (fs : List Fr) (σ : St) (Q : Exit → St → Prop) :
    DC P bad V i (p :: ps) ⟨d, .field t x k, ty, none, nm⟩ r fs σ Q = DR P bad V i (p :: ps) d (.field t x k) ty nm r fs σ Q := DC_op rfl rfl
@[go_sem] theorem DC_build (bad : List (Nat × Nat)) (V : Nat → List Nat) (i p : Nat) (ps : List Nat) (d : Option Nat) (t : Nat) (x : Array (Nat × Operand)) (ty : Nat) (nm : Option Nat) (r : List SO) (fs : List Fr) (σ : St) (Q : Exit → St → Prop) :
    DC P bad V i (p :: ps) ⟨d, .build t x, ty, none, nm⟩ r fs σ Q = DR P bad V i (p :: ps) d (.build t x) ty nm r fs σ Q := DC_op rfl rfl
@[go_sem] theorem DC_extract (bad : List (Nat × Nat)) (V : Nat → List Nat) (i p : Nat) (ps : List Nat) (d : Option Nat) (x : Operand) (k : Nat) (ty : Nat) (nm : Option Nat) (r : List SO) (fs : List Fr) (σ : St) (Q : Exit → St → Prop) :
    DC P bad V i (p :: ps) ⟨d, .extract x k, ty, none, nm⟩ r fs σ Q = DR P bad V i (p :: ps) d (.extract x k) ty nm r fs σ Q := DC_op rfl rfl
@[go_sem] theorem DC_slice (bad : List (Nat × Nat)) (V : Nat → List Nat) (i p : Nat) (ps : List Nat) (d : Option Nat) (t : Nat) (x : Operand) (y z v : Option Operand) (ty : Nat) (nm : Option Nat) (r : List SO) (fs : List Fr) (σ : St) (Q : Exit → St → Prop) :
    DC P bad V i (p :: ps) ⟨d, .slice t x y z v, ty, none, nm⟩ r fs σ Q = DR P bad V i (p :: ps) d (.slice t x y z v) ty nm r fs σ Q := DC_op rfl rfl
@[go_sem] theorem DC_min (bad : List (Nat × Nat)) (V : Nat → List Nat) (i p : Nat) (ps : List Nat) (d : Option Nat) (a : Array Operand) (t : Array Nat) (ty : Nat) (nm : Option Nat) (r : List SO) (fs : List Fr) (σ : St) (Q : Exit → St → Prop) :
    DC P bad V i (p :: ps) ⟨d, .call { callee := .builtin .min, args := a, argTypes := t }, ty, none, nm⟩ r fs σ Q = DR P bad V i (p :: ps) d (.call { callee := .builtin .min, args := a, argTypes := t }) ty nm r fs σ Q := DC_op rfl rfl
@[go_sem] theorem DC_max (bad : List (Nat × Nat)) (V : Nat → List Nat) (i p : Nat) (ps : List Nat) (d : Option Nat) (a : Array Operand) (t : Array Nat) (ty : Nat) (nm : Option Nat) (r : List SO) (fs : List Fr) (σ : St) (Q : Exit → St → Prop) :
    DC P bad V i (p :: ps) ⟨d, .call { callee := .builtin .max, args := a, argTypes := t }, ty, none, nm⟩ r fs σ Q = DR P bad V i (p :: ps) d (.call { callee := .builtin .max, args := a, argTypes := t }) ty nm r fs σ Q := DC_op rfl rfl
@[go_sem] theorem DC_copy (bad : List (Nat × Nat)) (V : Nat → List Nat) (i p : Nat) (ps : List Nat) (d : Option Nat) (a : Array Operand) (t : Array Nat) (ty : Nat) (nm : Option Nat) (r : List SO) (fs : List Fr) (σ : St) (Q : Exit → St → Prop) :
    DC P bad V i (p :: ps) ⟨d, .call { callee := .builtin .copy, args := a, argTypes := t }, ty, none, nm⟩ r fs σ Q = DR P bad V i (p :: ps) d (.call { callee := .builtin .copy, args := a, argTypes := t }) ty nm r fs σ Q := DC_op rfl rfl
end
section
variable (N : List Nat) (dp : Bool) (h : AH) (n : Nat)
@[go_sem] theorem av_fv (x : FV) : avoid N dp h (n + 1) (.fv x) = true := rfl
@[go_sem] theorem av_undef : avoid N dp h (n + 1) .undef = true := rfl
@[go_sem] theorem av_fn (g : List FV → Option FV) : avoid N dp h (n + 1) (.fn g) = true := rfl
@[go_sem] theorem av_sq (g : List (List FV)) : avoid N dp h (n + 1) (.sq g) = true := rfl
@[go_sem] theorem av_tup (g : List LV) : avoid N dp h (n + 1) (.tup g) = true := rfl
@[go_sem] theorem av_pb (g : List LV) : avoid N dp h (n + 1) (.pb g) = true := rfl
@[go_sem] theorem av_gl (o g : Nat) : avoid N dp h (n + 1) (.gl o g) = !N.contains o := rfl
@[go_sem] theorem av_mp (o g : Nat) : avoid N dp h (n + 1) (.mp o g) = !N.contains o := rfl
@[go_sem] theorem av_it (o g : Nat) : avoid N dp h (n + 1) (.it o g) = !N.contains o := rfl
@[go_sem] theorem av_elem (o g a b c : Nat) : avoid N dp h (n + 1) (.elem o g a b c) = !N.contains o := rfl
@[go_sem] theorem av_ptr_flat (o g f : Nat) : avoid N false h (n + 1) (.ptr o g f) = !N.contains o := by simp [avoid]
@[go_sem] theorem av_ptr_deep (o g f : Nat) : avoid N true h (n + 1) (.ptr o g f) = (!N.contains o && (match asBox (h.obj o) with | some cs => cs.all (avoid N true h n) | none => true)) := by
  simp only [avoid, Bool.not_true, Bool.false_or]
  congr 1
  cases h.obj o with
  | none => rfl
  | some ob => cases ob <;> rfl
@[go_sem] theorem av_clos (f : Nat) (cs : List LV) : avoid N dp h (n + 1) (.clos f cs) = cs.all (avoid N dp h n) := rfl
@[go_sem] theorem av_agg (cs : List LV) : avoid N dp h (n + 1) (.agg cs) = cs.all (avoid N dp h n) := rfl
@[go_sem] theorem av_bnd (f : Nat) (cs : List LV) : avoid N dp h (n + 1) (.bnd f cs) = cs.all (avoid N dp h n) := rfl
end
theorem Agree.rfl' (W : List Nat) (h : AH) : Agree W h h := ⟨fun _ _ => ⟨rfl, rfl⟩, rfl⟩
@[go_sem] theorem ag_refl (W : List Nat) (h : AH) : Agree W h h = True := by simp [Agree.rfl']
@[go_sem] theorem ag_new (W : List Nat) (h h' : AH) (o : Nat) (ob : AObj) (hm : W.contains o = true) : Agree W h (h'.new o ob) = Agree W h h' := by
  simp only [List.contains_iff_mem] at hm
  have key : ∀ k, k ∉ W → (h'.new o ob).gen k = h'.gen k ∧ (h'.new o ob).obj k = h'.obj k := by
    intro k hk
    have : k ≠ o := fun e => hk (e ▸ hm)
    simp [AH.new, upd, this]
  simp only [eq_iff_iff]
  constructor
  · intro a
    exact ⟨fun k hk => ⟨(key k hk).1 ▸ (a.at' k hk).1, (key k hk).2 ▸ (a.at' k hk).2⟩, a.y⟩
  · intro a
    exact ⟨fun k hk => ⟨(key k hk).1.trans (a.at' k hk).1, (key k hk).2.trans (a.at' k hk).2⟩, a.y⟩
@[go_sem] theorem ag_set (W : List Nat) (h h' : AH) (o : Nat) (ob : AObj) (hm : W.contains o = true) : Agree W h (h'.set o ob) = Agree W h h' := by
  simp only [List.contains_iff_mem] at hm
  have key : ∀ k, k ∉ W → (h'.set o ob).gen k = h'.gen k ∧ (h'.set o ob).obj k = h'.obj k := by
    intro k hk
    have : k ≠ o := fun e => hk (e ▸ hm)
    simp [AH.set, upd, this]
  simp only [eq_iff_iff]
  constructor
  · intro a
    exact ⟨fun k hk => ⟨(key k hk).1 ▸ (a.at' k hk).1, (key k hk).2 ▸ (a.at' k hk).2⟩, a.y⟩
  · intro a
    exact ⟨fun k hk => ⟨(key k hk).1.trans (a.at' k hk).1, (key k hk).2.trans (a.at' k hk).2⟩, a.y⟩
@[go_sem] theorem ag_renew (W : List Nat) (h h' : AH) (o : Nat) (k' : Nat) (ob : AObj) (hm : W.contains o = true) : Agree W h (h'.renew o k' ob) = Agree W h h' := by
  simp only [List.contains_iff_mem] at hm
  have key : ∀ k, k ∉ W → (h'.renew o k' ob).gen k = h'.gen k ∧ (h'.renew o k' ob).obj k = h'.obj k := by
    intro k hk
    have : k ≠ o := fun e => hk (e ▸ hm)
    simp [AH.renew, upd, this]
  simp only [eq_iff_iff]
  constructor
  · intro a
    exact ⟨fun k hk => ⟨(key k hk).1 ▸ (a.at' k hk).1, (key k hk).2 ▸ (a.at' k hk).2⟩, a.y⟩
  · intro a
    exact ⟨fun k hk => ⟨(key k hk).1.trans (a.at' k hk).1, (key k hk).2.trans (a.at' k hk).2⟩, a.y⟩
/-- What operations write, as a list. -/
def Vs (l : List (List Nat)) (i : Nat) : List Nat := l.getD i []
@[go_sem] theorem Vs_zero (x : List Nat) (l : List (List Nat)) : Vs (x :: l) 0 = x := rfl
@[go_sem] theorem Vs_succ (x : List Nat) (l : List (List Nat)) (n : Nat) : Vs (x :: l) (n + 1) = Vs l n := rfl
@[go_sem] theorem Vs_nil (n : Nat) : Vs [] n = [] := rfl
section
variable (own : Nat → Bool) (h : AH) (n : Nat)
@[go_sem] theorem pk_fv (x : FV) : peek own h (n + 1) (.fv x) = some x := rfl
@[go_sem] theorem pk_gl (o g : Nat) : peek own h (n + 1) (.gl o g) = (h.lst o g).bind fun l => if own o || l.2.2.1 then some (if l.2.2.2.1 then FV.nil else .list false l.2.2.2.2) else none := rfl
@[go_sem] theorem pk_ptr (o g f : Nat) : peek own h (n + 1) (.ptr o g f) = if own o then (h.box o g).bind fun cs => (mapO (peek own h n) (cs.drop f)).map FV.ptr else none := rfl
@[go_sem] theorem pk_clos (f : Nat) (cs : List LV) : peek own h (n + 1) (.clos f cs) = (mapO (peek own h n) cs).map (FV.clos f) := rfl
@[go_sem] theorem pk_agg (cs : List LV) : peek own h (n + 1) (.agg cs) = (mapO (peek own h n) cs).map FV.agg := rfl
@[go_sem] theorem pk_mp (o g : Nat) : peek own h (n + 1) (.mp o g) = (h.mpo o g).bind fun l => if own o || l.1 then some (FV.map l.2) else none := rfl
@[go_sem] theorem mapO_nil (f : LV → Option FV) : mapO f [] = some [] := rfl
@[go_sem] theorem mapO_cons (f : LV → Option FV) (c : LV) (cs : List LV) : mapO f (c :: cs) = (f c).bind fun x => (mapO f cs).map (x :: ·) := rfl
theorem ret_tup {h : AH} {a b : LV} {r : List LV} {cs : List RC} (own : Nat → Bool) (e : retS own h (a :: b :: r) cs) (nd : (ownNames (a :: b :: r) cs).Nodup) : retF (.tup cs) (a :: b :: r) h := ⟨own, e, nd⟩
@[go_sem] theorem retS_nil : retS own h [] [] = True := rfl
@[go_sem] theorem retS_cons (l : LV) (ls : List LV) (c : RC) (cs : List RC) : retS own h (l :: ls) (c :: cs) = (retC own h l c ∧ retS own h ls cs) := rfl
@[go_sem] theorem retC_fx (l : LV) (x : FV) : retC own h l (.fx x) = (peek own h 6 l = some x) := rfl
end
end Abs

namespace Abs
open Go
section
variable {P : Program}
/-- The yielder is called. -/
theorem callY {nm : Option Nat} {args : List LV} {h : AH} {d : Option Nat} {r : List SO} {fs : List Fr} {ρ : Nat → LV} {Q : Exit → St → Prop} (x : List FV) (rest : List (List FV)) (hg : h.gen yN = 0)
    (ha : mapO (peek (fun _ => false) h 6) args = some x) (hy : h.y = some (x :: rest))
    (kt : L P r fs (St.put ⟨ρ, ⟨h.gen, h.obj, some rest⟩⟩ d (.fv (.bool true)) ⟨h.gen, h.obj, some rest⟩) Q)
    (kf : L P r fs (St.put ⟨ρ, ⟨h.gen, h.obj, none⟩⟩ d (.fv (.bool false)) ⟨h.gen, h.obj, none⟩) Q) : Cl' P nm (.it yN 0) args h d r fs ρ Q :=
  .inr ⟨rfl, rfl, hg, [], x, rest, ha, hy, kt, kf⟩
/-! A range over a function. -/
def FE (P : Program) (ρ : Nat → LV) (fs : List Fr) (Q : Exit → St → Prop) (J : St → Prop) (e : Exit) (σ : St) : Prop :=
  match e with
  | .normal => J σ
  | .ret => U P .ret fs ⟨ρ, σ.h⟩ Q
  | .exit id => U P (.exit id) fs ⟨ρ, σ.h⟩ Q
  | .goto l => U P (.goto l) fs ⟨ρ, σ.h⟩ Q
  | _ => False
@[go_sem] theorem FE_normal (ρ : Nat → LV) (fs : List Fr) (Q : Exit → St → Prop) (J : St → Prop) (σ : St) : FE P ρ fs Q J .normal σ = J σ := rfl
@[go_sem] theorem FE_ret (ρ : Nat → LV) (fs : List Fr) (Q : Exit → St → Prop) (J : St → Prop) (σ : St) : FE P ρ fs Q J .ret σ = U P .ret fs ⟨ρ, σ.h⟩ Q := rfl
@[go_sem] theorem FE_exit (ρ : Nat → LV) (fs : List Fr) (Q : Exit → St → Prop) (J : St → Prop) (σ : St) (id : Nat) : FE P ρ fs Q J (.exit id) σ = U P (.exit id) fs ⟨ρ, σ.h⟩ Q := rfl
def FA (P : Program) (b : SC) (ρ : Nat → LV) (fs : List Fr) (Q : Exit → St → Prop) (J : St → Prop) (e : Exit) (σ : St) : Prop :=
  match e with
  | .normal => W P b [] σ (FE P ρ fs Q J)
  | _ => False
@[go_sem] theorem FA_normal (b : SC) (ρ : Nat → LV) (fs : List Fr) (Q : Exit → St → Prop) (J : St → Prop) (σ : St) : FA P b ρ fs Q J .normal σ = W P b [] σ (FE P ρ fs Q J) := rfl
@[go_sem] theorem setps_cons (ρ : Nat → LV) (p : Nat) (ps : List Nat) (x : FV) (xs : List FV) : setps ρ (p :: ps) (x :: xs) = setps (upd ρ p (.fv x)) ps xs := rfl
@[go_sem] theorem setps_nil (ρ : Nat → LV) : setps ρ [] [] = ρ := rfl
def FJ (I : List (List FV) → AH → Prop) (xs : List (List FV)) (σ : St) : Prop := I xs σ.h
/-- A range over a function, by an invariant of what is still to come. -/
theorem rgInd {g : LV} {ps : List Nat} {a b : SC} {fs : List Fr} {ρ : Nat → LV} {h : AH} {Q : Exit → St → Prop} (os : List Nat) (xs : List (List FV)) (ha : argOf P (fun _ => false) (h.frzObjs os) g (.sq xs))
    (I : List (List FV) → AH → Prop) (h0 : I xs (h.frzObjs os)) (hnil : ∀ h, I [] h → U P .normal fs ⟨ρ, h⟩ Q)
    (hcons : ∀ x xs h, I (x :: xs) h → x.length = ps.length ∧ W P a [] ⟨setps ρ ps x, h⟩ (FA P b ρ fs Q (FJ I xs))) : Rg P g ps a b fs ρ h Q := by
  refine ⟨os, xs, ha, ?_⟩
  have key : ∀ (xs : List (List FV)) (h : AH), I xs h → aFold (aWp P a) (aWp P b) ρ ps xs h (unw P Q fs) := by
    intro xs
    induction xs with
    | nil => intro h hI; exact hnil h hI
    | cons x xs ih =>
      intro h hI
      obtain ⟨h1, h2⟩ := hcons x xs h hI
      refine ⟨h1, aWp_mono a (fun e σ hq => ?_) (show aWp P a ⟨setps ρ ps x, h⟩ (FA P b ρ fs Q (FJ I xs)) from h2)⟩
      cases e with
      | normal =>
        refine aWp_mono b (fun e σ' hq => ?_) (show aWp P b σ (FE P ρ fs Q (FJ I xs)) from hq)
        cases e with
        | normal => exact ih _ hq
        | ret => exact hq
        | exit id => exact hq
        | goto l => exact hq
        | _ => exact hq.elim
      | _ => exact hq.elim
  exact key xs _ h0
/-- An iterator that is a closure of values. -/
theorem argSq {h : AH} {lv : LV} {f : Nat} {caps : List FV} {xs : List (List FV)} (hp : peek (fun _ => false) h 6 lv = some (.clos f caps)) (hs : SeqFn P f [] caps xs) : argOf P (fun _ => false) h lv (.sq xs) :=
  .inr (.inl ⟨f, caps, hp, hs⟩)
end
section
variable {P : Program}
/-- Lists are frozen behind a call in place. -/
theorem AC.frz {f : Nat} {args : List LV} {h : AH} {K K' : LV → AH → Prop} (os : List Nat) (hq : AC P f args h K) (hK : ∀ lv h', K lv h' → K' lv (h'.frzObjs os)) : AC P f args h K' := by
  refine ⟨hq.1, fun cx w D an cargs H L => (hq.2 cx w D an cargs H L).mono ?_⟩
  rintro e w' ⟨lv, h', v, D', an', h1, h2, h3, h4, h5⟩
  obtain ⟨Y, hY, H1⟩ := h3.heap
  obtain ⟨D2, H2, hg, hd⟩ := frzObjs_sound os H1
  have E2 : Ext w' D' h'.gen an' w' D2 (h'.frzObjs os).gen an' := frz_ext hg hd
  refine ⟨lv, _, v, D2, an', h1, hK _ _ h2, h3.next E2 hY H2, h4.trans E2, h5.ext E2⟩
@[go_sem] theorem vw_fv (h : AH) (x : FV) : viewL h (.fv x) = .fv x := rfl
/-- An own list, as a value, if it is frozen. -/
def vw (o g : Nat) : Option (Nat × Nat × Bool × Bool × List FV) → LV
  | some (_, _, true, false, xs) => .fv (.list false xs)
  | _ => .gl o g
@[go_sem] theorem vw_gl (h : AH) (o g : Nat) : viewL h (.gl o g) = vw o g (h.lst o g) := rfl
@[go_sem] theorem vw_frozen (o g e es : Nat) (xs : List FV) : vw o g (some (e, es, true, false, xs)) = .fv (.list false xs) := rfl
end
end Abs

namespace Abs
open Go
/-! Loops, by what they change. -/
/-- Names from n on, and some others. -/
def chg (n : Nat) (l : List Nat) (i : Nat) : Bool := decide (n ≤ i) || l.contains i
/-- Slots that a loop changes hold something else. -/
def hav (n : Nat) (l : List Nat) (ρ₀ ρ : Nat → LV) : Nat → LV := fun i => if chg n l i then ρ i else ρ₀ i
def havH (n : Nat) (l : List Nat) (h₀ h : AH) : AH := ⟨fun o => if chg n l o then h.gen o else h₀.gen o, fun o => if chg n l o then h.obj o else h₀.obj o, h.y⟩
def OffR (n : Nat) (l : List Nat) (ρ₀ ρ : Nat → LV) : Prop := ∀ i, chg n l i = false → ρ i = ρ₀ i
def OffH (n : Nat) (l : List Nat) (h₀ h : AH) : Prop := ∀ o, chg n l o = false → h.gen o = h₀.gen o ∧ h.obj o = h₀.obj o
section
variable (n : Nat) (l : List Nat) (ρ₀ ρ : Nat → LV) (h₀ h : AH)
@[go_sem] theorem hav_at (i : Nat) : hav n l ρ₀ ρ i = if (decide (n ≤ i) || l.contains i) = true then ρ i else ρ₀ i := rfl
@[go_sem] theorem havH_gen (o : Nat) : (havH n l h₀ h).gen o = if (decide (n ≤ o) || l.contains o) = true then h.gen o else h₀.gen o := rfl
@[go_sem] theorem havH_obj (o : Nat) : (havH n l h₀ h).obj o = if (decide (n ≤ o) || l.contains o) = true then h.obj o else h₀.obj o := rfl
@[go_sem] theorem havH_y : (havH n l h₀ h).y = h.y := rfl
@[go_sem] theorem offR_refl : OffR n l ρ₀ ρ₀ = True := by simp [OffR]
@[go_sem] theorem offH_refl : OffH n l h₀ h₀ = True := by simp [OffH]
@[go_sem] theorem offR_hav : OffR n l ρ₀ (hav n l ρ₀ ρ) = True := by
  simp only [OffR, eq_iff_iff, iff_true]
  intro i hi
  simp [hav, hi]
@[go_sem] theorem offH_hav : OffH n l h₀ (havH n l h₀ h) = True := by
  simp only [OffH, eq_iff_iff, iff_true]
  intro i hi
  simp [havH, hi]
theorem chg_ne {n : Nat} {l : List Nat} {i d : Nat} (hm : (decide (n ≤ d) || l.contains d) = true) (hi : chg n l i = false) : i ≠ d := by
  rintro rfl
  unfold chg at hi
  rw [hm] at hi
  simp at hi
@[go_sem] theorem offR_upd (d : Nat) (v : LV) (hm : (decide (n ≤ d) || l.contains d) = true) : OffR n l ρ₀ (upd ρ d v) = OffR n l ρ₀ ρ := by
  have key : ∀ i, chg n l i = false → upd ρ d v i = ρ i := fun i hi => by simp [upd, chg_ne hm hi]
  simp only [OffR, eq_iff_iff]
  exact ⟨fun a i hi => (key i hi).symm.trans (a i hi), fun a i hi => (key i hi).trans (a i hi)⟩
theorem offH_congr {h' : AH} (key : ∀ i, chg n l i = false → h'.gen i = h.gen i ∧ h'.obj i = h.obj i) : OffH n l h₀ h' = OffH n l h₀ h := by
  simp only [OffH, eq_iff_iff]
  exact ⟨fun a i hi => ⟨(key i hi).1.symm.trans (a i hi).1, (key i hi).2.symm.trans (a i hi).2⟩, fun a i hi => ⟨(key i hi).1.trans (a i hi).1, (key i hi).2.trans (a i hi).2⟩⟩
@[go_sem] theorem offH_new (d : Nat) (ob : AObj) (hm : (decide (n ≤ d) || l.contains d) = true) : OffH n l h₀ (h.new d ob) = OffH n l h₀ h :=
  offH_congr n l h₀ h fun i hi => by simp [AH.new, upd, chg_ne hm hi]
@[go_sem] theorem offH_set (d : Nat) (ob : AObj) (hm : (decide (n ≤ d) || l.contains d) = true) : OffH n l h₀ (h.set d ob) = OffH n l h₀ h :=
  offH_congr n l h₀ h fun i hi => by simp [AH.set, upd, chg_ne hm hi]
@[go_sem] theorem offH_renew (d k : Nat) (ob : AObj) (hm : (decide (n ≤ d) || l.contains d) = true) : OffH n l h₀ (h.renew d k ob) = OffH n l h₀ h :=
  offH_congr n l h₀ h fun i hi => by simp [AH.renew, upd, chg_ne hm hi]
@[go_sem] theorem offH_y (y : Option (List (List FV))) : OffH n l h₀ ⟨h.gen, h.obj, y⟩ = OffH n l h₀ h := rfl
@[go_sem] theorem offH_mkg (d k : Nat) (g : Nat → Nat) (ob : Nat → Option AObj) (y : Option (List (List FV))) (hm : (decide (n ≤ d) || l.contains d) = true) : OffH n l h₀ ⟨upd g d k, ob, y⟩ = OffH n l h₀ ⟨g, ob, y⟩ :=
  offH_congr n l h₀ ⟨g, ob, y⟩ fun i hi => by simp [upd, chg_ne hm hi]
@[go_sem] theorem offH_mko (d : Nat) (v : Option AObj) (g : Nat → Nat) (ob : Nat → Option AObj) (y : Option (List (List FV))) (hm : (decide (n ≤ d) || l.contains d) = true) : OffH n l h₀ ⟨g, upd ob d v, y⟩ = OffH n l h₀ ⟨g, ob, y⟩ :=
  offH_congr n l h₀ ⟨g, ob, y⟩ fun i hi => by simp [upd, chg_ne hm hi]
@[go_sem] theorem offH_mk (h : AH) (y : Option (List (List FV))) : OffH n l h₀ ⟨h.gen, h.obj, y⟩ = OffH n l h₀ h := rfl
theorem chg_sub {n n' : Nat} {l l' : List Nat} (hm : (decide (n ≤ n') && l'.all fun d => decide (n ≤ d) || l.contains d) = true) {i : Nat} (hi : chg n l i = false) : chg n' l' i = false := by
  simp only [Bool.and_eq_true, decide_eq_true_eq, List.all_eq_true] at hm
  cases e : chg n' l' i with
  | false => rfl
  | true =>
    exfalso
    unfold chg at e
    simp only [Bool.or_eq_true, decide_eq_true_eq, List.contains_iff_mem] at e
    rcases e with e | e
    · unfold chg at hi
      simp only [Bool.or_eq_false_iff, decide_eq_false_iff_not] at hi
      omega
    · exact chg_ne (hm.2 i e) hi rfl
@[go_sem] theorem offH_hav' (n' : Nat) (l' : List Nat) (h₁ : AH) (hm : (decide (n ≤ n') && l'.all fun d => decide (n ≤ d) || l.contains d) = true) : OffH n l h₀ (havH n' l' h₁ h) = OffH n l h₀ h₁ :=
  offH_congr n l h₀ h₁ fun i hi => by simp [havH, chg_sub hm hi]
@[go_sem] theorem offR_hav' (n' : Nat) (l' : List Nat) (ρ₁ : Nat → LV) (hm : (decide (n ≤ n') && l'.all fun d => decide (n ≤ d) || l.contains d) = true) : OffR n l ρ₀ (hav n' l' ρ₁ ρ) = OffR n l ρ₀ ρ₁ := by
  have key : ∀ i, chg n l i = false → hav n' l' ρ₁ ρ i = ρ₁ i := fun i hi => by simp [hav, chg_sub hm hi]
  simp only [OffR, eq_iff_iff]
  exact ⟨fun a i hi => (key i hi).symm.trans (a i hi), fun a i hi => (key i hi).trans (a i hi)⟩
theorem hav_off {n : Nat} {l : List Nat} {ρ₀ ρ : Nat → LV} (h : OffR n l ρ₀ ρ) : hav n l ρ₀ ρ = ρ := by
  funext i
  unfold hav
  cases e : chg n l i
  · rw [if_neg (by simp)]; exact (h i e).symm
  · rw [if_pos rfl]
theorem havH_off {n : Nat} {l : List Nat} {h₀ h : AH} (e : OffH n l h₀ h) : havH n l h₀ h = h := by
  obtain ⟨g, o, y⟩ := h
  unfold havH
  congr 1
  · funext i
    cases c : chg n l i
    · rw [if_neg (by simp)]; exact (e i c).1.symm
    · rw [if_pos rfl]
  · funext i
    cases c : chg n l i
    · rw [if_neg (by simp)]; exact (e i c).2.symm
    · rw [if_pos rfl]
end
/-- The invariant holds again, at something less, and nothing else is changed. -/
def Nxt {α : Type} (m : α → Nat) (I : α → Prop) (J : α → (Nat → LV) → AH → Prop) (n : Nat) (l : List Nat) (no : Nat) (lo : List Nat) (σ : St) (a : α) (σ' : St) : Prop :=
  ∃ a', m a' < m a ∧ I a' ∧ OffR n l σ.ρ σ'.ρ ∧ OffH no lo σ.h σ'.h ∧ J a' σ'.ρ σ'.h
/-- A loop: it changes the slots and objects from n on, and l, lo. -/
theorem lpH {P : Program} {c : SC} {fs : List Fr} {Q : Exit → St → Prop} {σ : St} {α : Type} (n : Nat) (l : List Nat) (no : Nat) (lo : List Nat) (m : α → Nat) (I : α → Prop) (J : α → (Nat → LV) → AH → Prop) (a : α) (hI : I a) (hJ : J a σ.ρ σ.h)
    (step : ∀ a ρ h, I a → J a ρ h → W P c [] ⟨hav n l σ.ρ ρ, havH no lo σ.h h⟩ (LpI P (Nxt m I J n l no lo σ a) fs Q)) : Lp P c fs σ Q := by
  refine lpInd m (fun a σ' => I a ∧ OffR n l σ.ρ σ'.ρ ∧ OffH no lo σ.h σ'.h ∧ J a σ'.ρ σ'.h) a ⟨hI, fun _ _ => rfl, fun _ _ => ⟨rfl, rfl⟩, hJ⟩ ?_
  rintro a ⟨ρ, h⟩ ⟨h1, h2, h3, h4⟩
  have := step a ρ h h1 h4
  rw [hav_off h2, havH_off h3] at this
  exact this
theorem nxt {α : Type} {m : α → Nat} {I : α → Prop} {J : α → (Nat → LV) → AH → Prop} {n no : Nat} {l lo : List Nat} {σ σ' : St} {a : α} (a' : α) (h1 : m a' < m a) (h2 : I a') (h3 : OffR n l σ.ρ σ'.ρ ∧ OffH no lo σ.h σ'.h ∧ J a' σ'.ρ σ'.h) : Nxt m I J n l no lo σ a σ' :=
  ⟨a', h1, h2, h3.1, h3.2.1, h3.2.2⟩
/-- A loop that counts from a number on up to another one. -/
theorem lpN {P : Program} {c : SC} {fs : List Fr} {Q : Exit → St → Prop} {σ : St} {β : Type} (n : Nat) (l : List Nat) (no : Nat) (lo : List Nat) (N : Nat) (I : Nat → β → Prop) (J : Nat → β → (Nat → LV) → AH → Prop) (k₀ : Nat) (b : β) (hk : k₀ ≤ N) (hI : I k₀ b) (hJ : J k₀ b σ.ρ σ.h)
    (step : ∀ k b ρ h, k ≤ N → I k b → J k b ρ h → W P c [] ⟨hav n l σ.ρ ρ, havH no lo σ.h h⟩ (LpI P (Nxt (fun a : Nat × β => N - a.1) (fun a => a.1 ≤ N ∧ I a.1 a.2) (fun a => J a.1 a.2) n l no lo σ (k, b)) fs Q)) : Lp P c fs σ Q :=
  lpH n l no lo (fun a : Nat × β => N - a.1) (fun a => a.1 ≤ N ∧ I a.1 a.2) (fun a => J a.1 a.2) (k₀, b) ⟨hk, hI⟩ hJ fun a ρ h hI hJ => step a.1 a.2 ρ h hI.1 hI.2 hJ
theorem nxtN {β : Type} {N : Nat} {I : Nat → β → Prop} {J : Nat → β → (Nat → LV) → AH → Prop} {n no : Nat} {l lo : List Nat} {σ σ' : St} {k : Nat} {b : β} (b' : β) (hk : k < N) (h2 : I (k + 1) b') (h3 : OffR n l σ.ρ σ'.ρ ∧ OffH no lo σ.h σ'.h ∧ J (k + 1) b' σ'.ρ σ'.h) :
    Nxt (fun a : Nat × β => N - a.1) (fun a => a.1 ≤ N ∧ I a.1 a.2) (fun a => J a.1 a.2) n l no lo σ (k, b) σ' :=
  ⟨(k + 1, b'), by simp only; omega, ⟨hk, h2⟩, h3.1, h3.2.1, h3.2.2⟩
/-- A range over a function: the objects from n on, and l, are changed. -/
def FJH (I : List (List FV) → Prop) (J : List (List FV) → AH → Prop) (n : Nat) (lo : List Nat) (h₀ : AH) (xs : List (List FV)) (σ : St) : Prop := I xs ∧ OffH n lo h₀ σ.h ∧ J xs σ.h
theorem rgH {P : Program} {g : LV} {ps : List Nat} {a b : SC} {fs : List Fr} {ρ : Nat → LV} {h : AH} {Q : Exit → St → Prop} (n : Nat) (lo : List Nat) (os : List Nat) (xs : List (List FV)) (ha : argOf P (fun _ => false) (h.frzObjs os) g (.sq xs)) {β : Type}
    (I : List (List FV) → β → Prop) (J : List (List FV) → β → AH → Prop) (b₀ : β) (h0 : I xs b₀) (hj0 : J xs b₀ (h.frzObjs os)) (hnil : ∀ b k, I [] b → J [] b k → U P .normal fs ⟨ρ, havH n lo (h.frzObjs os) k⟩ Q)
    (hcons : ∀ x xs b' k, I (x :: xs) b' → J (x :: xs) b' k → x.length = ps.length ∧ W P a [] ⟨setps ρ ps x, havH n lo (h.frzObjs os) k⟩ (FA P b ρ fs Q (fun σ => ∃ b', I xs b' ∧ OffH n lo (h.frzObjs os) σ.h ∧ J xs b' σ.h))) : Rg P g ps a b fs ρ h Q := by
  refine rgInd os xs ha (fun xs k => ∃ b, I xs b ∧ OffH n lo (h.frzObjs os) k ∧ J xs b k) ⟨b₀, h0, fun _ _ => ⟨rfl, rfl⟩, hj0⟩ ?_ ?_
  · rintro k ⟨b, h1, h2, h3⟩
    have := hnil b k h1 h3
    rw [havH_off h2] at this
    exact this
  · rintro x xs k ⟨b', h1, h2, h3⟩
    have := hcons x xs b' k h1 h3
    rw [havH_off h2] at this
    exact this
/-- A call of a function without captures. -/
theorem call0 {P : Program} {nm : Option Nat} {f : Nat} {args : List LV} {h : AH} {d : Option Nat} {r : List SO} {fs : List Fr} {ρ : Nat → LV} {Q : Exit → St → Prop} (os : List Nat) (own : Bool) {as : List Arg} {rv : RV}
    (hF : Fn P f as rv) (ha : argsOf P (fun _ => own) (h.frzObjs os) args as) (ho : own = false ∨ rv.shallow = true)
    (hk : L P r fs (St.put ⟨ρ, (impR (h.frzObjs os) nm rv).2⟩ d (impR (h.frzObjs os) nm rv).1 (impR (h.frzObjs os) nm rv).2) Q) : Cl' P nm (.clos f []) args h d r fs ρ Q :=
  callF os own as [] (by simpa using hF) ha rfl ho hk
theorem call1 {P : Program} {nm : Option Nat} {f : Nat} {args : List LV} {h : AH} {d : Option Nat} {r : List SO} {fs : List Fr} {ρ : Nat → LV} {Q : Exit → St → Prop} (os : List Nat) (own : Bool) {as : List Arg} {rv : RV}
    (hF : Fn P f as rv)
    (hk : L P r fs (St.put ⟨ρ, (impR (h.frzObjs os) nm rv).2⟩ d (impR (h.frzObjs os) nm rv).1 (impR (h.frzObjs os) nm rv).2) Q)
    (ha : argsOf P (fun _ => own) (h.frzObjs os) args as := by first | exact trivial | exact ⟨rfl, trivial⟩ | exact ⟨rfl, rfl, trivial⟩ | exact ⟨rfl, rfl, rfl, trivial⟩ | exact ⟨rfl, rfl, rfl, rfl, trivial⟩ | exact ⟨rfl, rfl, rfl, rfl, rfl, trivial⟩ | exact ⟨rfl, rfl, rfl, rfl, rfl, rfl, trivial⟩ | (simp -implicitDefEqProofs only [go_sem, simprocAttr] <;> first | rfl | exact ⟨rfl, rfl⟩ | exact ⟨rfl, rfl, rfl⟩ | exact ⟨rfl, rfl, rfl, rfl⟩))
    (ho : own = false ∨ rv.shallow = true := by first | exact .inl rfl | exact .inr rfl) : Cl' P nm (.clos f []) args h d r fs ρ Q :=
  call0 os own hF ha ho hk
/-- An iterator that is a method of a value. -/
theorem argSqB {P : Program} {h : AH} {f : Nat} {first : List LV} {pre : List FV} {xs : List (List FV)} (hp : mapO (peek (fun _ => false) h 6) first = some pre) (hs : SeqFn P f pre [] xs) : argOf P (fun _ => false) h (.bnd f first) (.sq xs) :=
  .inr (.inr ⟨f, first, pre, rfl, hp, hs⟩)
/-- A call in place that changes the objects from n on, and l. -/
theorem callIH {P : Program} {nm : Option Nat} {f : Nat} {caps args : List LV} {h : AH} {d : Option Nat} {r : List SO} {fs : List Fr} {ρ : Nat → LV} {Q : Exit → St → Prop} (n : Nat) (l : List Nat) {R : LV → AH → Prop}
    (hA : AC P f (args ++ caps) h fun lv h' => OffH n l h h' ∧ R lv h') (he : ∃ lv h', OffH n l h h' ∧ R lv h') (hk : ∀ lv h', R lv h' → Kl P d r fs ρ Q lv (havH n l h h')) : Cl' P nm (.clos f caps) args h d r fs ρ Q :=
  callI hA he fun lv h' ⟨h1, h2⟩ => by have := hk lv h' h2; rwa [havH_off h1] at this
@[go_sem ↓ high] theorem and_one (a : Int) : binV .and (.int .i64 a) (.int .i64 1) = some (.int .i64 (a % 2)) := by
  have h1 : (BitVec.ofInt 64 a &&& BitVec.ofInt 64 1).toNat = (a % 2).toNat := by
    rw [BitVec.toNat_and, BitVec.toNat_ofInt, BitVec.toNat_ofInt]
    have : ((1 : Int) % ((2 ^ 64 : Nat) : Int)).toNat = 1 := by decide
    rw [this, Nat.and_one_is_mod]
    have h2 : 0 ≤ a % ((2 ^ 64 : Nat) : Int) := Int.emod_nonneg _ (by decide)
    have h3 : a % ((2 ^ 64 : Nat) : Int) % 2 = a % 2 := Int.emod_emod_of_dvd a (by decide)
    omega
  show (if IntKind.i64 = IntKind.i64 then some (Value.int .i64 (IntKind.i64.wrap ((BitVec.ofInt 64 a &&& BitVec.ofInt 64 1).toNat : Nat))) else none) = _
  rw [if_pos rfl, h1, wr _ (by omega) (by omega)]
  congr 2
  omega
@[go_sem ↓ high] theorem shr_eq (a b : Int) (k k' : IntKind) : binV .shr (.int k a) (.int k' b) = if b < 0 then none else some (.int k (a / 2 ^ (min b.toNat k.bits))) := by
  show (if b < 0 then none else some (Value.int k (a.fdiv (2 ^ (min b.toNat k.bits))))) = _
  rw [Int.fdiv_eq_ediv_of_nonneg _ (by exact Int.pow_nonneg (by decide))]
@[go_sem] theorem bits64 : IntKind.i64.bits = 64 := rfl
attribute [go_sem] Int.zero_ediv Int.ediv_one Nat.zero_min Int.pow_zero
@[go_sem] theorem argOf_fo (P : Program) (own : Nat → Bool) (h : AH) (lv : LV) (x : FV) : argOf P own h lv (.fo x) = (peek own h 6 lv = some x) := rfl
@[go_sem] theorem argsOf_nil (P : Program) (own : Nat → Bool) (h : AH) : argsOf P own h [] [] = True := rfl
@[go_sem] theorem argsOf_cons (P : Program) (own : Nat → Bool) (h : AH) (x : LV) (xs : List LV) (a : Arg) (as : List Arg) : argsOf P own h (x :: xs) (a :: as) = (argOf P own h x a ∧ argsOf P own h xs as) := rfl
attribute [go_sem] Int.toNat_natCast Int.natCast_nonneg
attribute [go_sem] beq_self_eq_true Bool.true_beq Bool.false_beq beq_true beq_false
attribute [go_sem] List.all_cons List.all_nil or_true true_or or_false false_or
attribute [go_sem] List.contains_cons List.contains_nil Bool.or_true Bool.true_or Bool.or_false Bool.false_or
end Abs

