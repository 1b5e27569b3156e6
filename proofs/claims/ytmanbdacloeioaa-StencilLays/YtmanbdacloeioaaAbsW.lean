/- A part of the proof: AbsW. -/
import Derived.Test.YtmanbdacloeioaaAbs20
set_option linter.unusedSimpArgs false
set_option linter.unusedVariables false
namespace Abs
open Go
/-! The walk: rules that simp follows. -/
theorem upd_self {α : Type} (f : Nat → α) (d : Nat) (v : α) : upd f d v d = v := by simp [upd]
@[go_sem] theorem upd_if {α : Type} (f : Nat → α) (d : Nat) (v : α) (i : Nat) : upd f d v i = if i = d then v else f i := rfl
theorem upd_ne {α : Type} (f : Nat → α) (d : Nat) (v : α) (i : Nat) (h : i ≠ d) : upd f d v i = f i := by simp [upd, h]
@[go_sem] theorem new_gen (h : AH) (d : Nat) (ob : AObj) : (h.new d ob).gen = upd h.gen d (h.gen d + 1) := rfl
@[go_sem] theorem set_gen (h : AH) (d : Nat) (ob : AObj) : (h.set d ob).gen = h.gen := rfl
@[go_sem] theorem renew_gen (h : AH) (d k : Nat) (ob : AObj) : (h.renew d k ob).gen = upd h.gen d k := rfl
@[go_sem] theorem new_obj (h : AH) (d : Nat) (ob : AObj) : (h.new d ob).obj = upd h.obj d (some ob) := rfl
@[go_sem] theorem set_obj (h : AH) (d : Nat) (ob : AObj) : (h.set d ob).obj = upd h.obj d (some ob) := rfl
@[go_sem] theorem renew_obj (h : AH) (d k : Nat) (ob : AObj) : (h.renew d k ob).obj = upd h.obj d (some ob) := rfl
@[go_sem] theorem new_y (h : AH) (d : Nat) (ob : AObj) : (h.new d ob).y = h.y := rfl
@[go_sem] theorem set_y (h : AH) (d : Nat) (ob : AObj) : (h.set d ob).y = h.y := rfl
@[go_sem] theorem renew_y (h : AH) (d k : Nat) (ob : AObj) : (h.renew d k ob).y = h.y := rfl
@[go_sem] theorem put_some (σ : St) (d : Nat) (v : LV) (h : AH) : σ.put (some d) v h = ⟨upd σ.ρ d v, h⟩ := rfl
@[go_sem] theorem put_none (σ : St) (v : LV) (h : AH) : σ.put none v h = ⟨σ.ρ, h⟩ := rfl
@[go_sem] theorem h0_gen (o : Nat) : h0.gen o = 0 := rfl
@[go_sem] theorem h0_obj (o : Nat) : h0.obj o = none := rfl
@[go_sem] theorem h0_y : h0.y = none := rfl
@[go_sem] theorem hy_gen (xs : List (List FV)) (o : Nat) : (hy xs).gen o = 0 := rfl
@[go_sem] theorem hy_obj (xs : List (List FV)) (o : Nat) : (hy xs).obj o = none := rfl
@[go_sem] theorem hy_y (xs : List (List FV)) : (hy xs).y = some xs := rfl
/-- The n-th of some values. -/
def nth : List LV → Nat → LV
  | [], _ => .undef
  | x :: _, 0 => x
  | _ :: xs, n + 1 => nth xs n
theorem nth_eq (l : List LV) (n : Nat) : (l[n]?).getD .undef = nth l n := by
  induction l generalizing n with
  | nil => simp [nth]
  | cons x l ih => cases n <;> simp [nth, ih]
@[go_sem] theorem ρ0_eq (args : List LV) (i : Nat) : ρ0 args i = nth args i := nth_eq args i
@[go_sem] theorem nth_nil (n : Nat) : nth [] n = .undef := rfl
@[go_sem] theorem nth_zero (x : LV) (l : List LV) : nth (x :: l) 0 = x := rfl
@[go_sem] theorem nth_succ (x : LV) (l : List LV) (n : Nat) : nth (x :: l) (n + 1) = nth l n := rfl

/-- Objects, by what they hold. -/
def asBox : Option AObj → Option (List LV) | some (.box cs) => some cs | _ => none
def asLst : Option AObj → Option (Nat × Nat × Bool × Bool × List FV) | some (.list e es fz nil xs) => some (e, es, fz, nil, xs) | _ => none
def asMpo : Option AObj → Option (Bool × List (FV × FV)) | some (.map fz es) => some (fz, es) | _ => none
def asIto : Option AObj → Option (List (FV × FV) × Option (FV × FV)) | some (.iter l c) => some (l, c) | _ => none
@[go_sem] theorem asBox_box (cs : List LV) : asBox (some (.box cs)) = some cs := rfl
@[go_sem] theorem asLst_list (e es : Nat) (fz nil : Bool) (xs : List FV) : asLst (some (.list e es fz nil xs)) = some (e, es, fz, nil, xs) := rfl
@[go_sem] theorem asMpo_map (fz : Bool) (es : List (FV × FV)) : asMpo (some (.map fz es)) = some (fz, es) := rfl
@[go_sem] theorem asIto_iter (l : List (FV × FV)) (c : Option (FV × FV)) : asIto (some (.iter l c)) = some (l, c) := rfl
@[go_sem] theorem box_eq (h : AH) (o g : Nat) : h.box o g = if h.gen o = g then asBox (h.obj o) else none := rfl
@[go_sem] theorem lst_eq (h : AH) (o g : Nat) : h.lst o g = if h.gen o = g then asLst (h.obj o) else none := rfl
@[go_sem] theorem mpo_eq (h : AH) (o g : Nat) : h.mpo o g = if h.gen o = g then asMpo (h.obj o) else none := rfl
@[go_sem] theorem ito_eq (h : AH) (o g : Nat) : h.ito o g = if h.gen o = g then asIto (h.obj o) else none := rfl

/-- What an option has. -/
def Has {α : Type} (o : Option α) (R : α → Prop) : Prop := ∃ x, o = some x ∧ R x
@[go_sem] theorem Has_some {α : Type} (x : α) (R : α → Prop) : Has (some x) R = R x := by simp [Has]
/-! The machine of the walk: what is still to be done stands as data. -/
inductive Fr where
  | seq (c : SC)
  | blk (id : Nat)

section
variable {P : Program}
/-- How an exit leads on. -/
def unw (P : Program) (Q : Exit → St → Prop) : List Fr → Exit → St → Prop
  | [], e, σ => Q e σ
  | .seq c :: fs, e, σ => match e with
    | .normal => aWp P c σ (unw P Q fs)
    | e => unw P Q fs e σ
  | .blk id :: fs, e, σ => match e with
    | .exit id' => if id' = id then unw P Q fs .normal σ else unw P Q fs (.exit id') σ
    | e => unw P Q fs e σ
/-- Code is run; operations are; an exit is on its way. -/
def W (P : Program) (c : SC) (fs : List Fr) (σ : St) (Q : Exit → St → Prop) : Prop := aWp P c σ (unw P Q fs)
def L (P : Program) (l : List SO) (fs : List Fr) (σ : St) (Q : Exit → St → Prop) : Prop := aL P l σ (unw P Q fs .normal)
def LD (P : Program) (C : Nat → Option Cl) (i : Nat) (l : List SO) (fs : List Fr) (σ : St) (Q : Exit → St → Prop) : Prop := aLD P C i l σ (unw P Q fs .normal)
def U (P : Program) (e : Exit) (fs : List Fr) (σ : St) (Q : Exit → St → Prop) : Prop := unw P Q fs e σ
/-- A branch that waits for its test. -/
def BrW (P : Program) (v : LV) (t e : SC) (fs : List Fr) (σ : St) (Q : Exit → St → Prop) : Prop := ∃ b, v = .fv (.val (.bool b)) ∧ (b = true → W P t fs σ Q) ∧ (b = false → W P e fs σ Q)
/-- An operation that waits for its guard. -/
def BrL (P : Program) (v : LV) (want : Bool) (d : Option Nat) (op : Op) (ty : Nat) (nm : Option Nat) (r : List SO) (fs : List Fr) (σ : St) (Q : Exit → St → Prop) : Prop :=
  (∃ b, v = .fv (.val (.bool b)) ∧ (b = want → L P (⟨d, op, ty, none, nm⟩ :: r) fs σ Q) ∧ (b = (!want) → L P r fs (σ.put d (.tup []) σ.h) Q)) ∨ (v = .tup [] ∧ L P r fs (σ.put d (.tup []) σ.h) Q)
/-- An operation that waits for its value. -/
def Vl (P : Program) (o : Option LV) (d : Option Nat) (r : List SO) (fs : List Fr) (σ : St) (Q : Exit → St → Prop) : Prop := ∃ lv, o = some lv ∧ L P r fs (σ.put d lv σ.h) Q
/-- What comes behind an operation. -/
def Kl (P : Program) (d : Option Nat) (r : List SO) (fs : List Fr) (ρ : Nat → LV) (Q : Exit → St → Prop) (lv : LV) (h : AH) : Prop := L P r fs (St.put ⟨ρ, h⟩ d lv h) Q
/-- A call waits for its contract. -/
def Cl' (P : Program) (nm : Option Nat) (f : LV) (args : List LV) (h : AH) (d : Option Nat) (r : List SO) (fs : List Fr) (ρ : Nat → LV) (Q : Exit → St → Prop) : Prop :=
  callE P nm f args h (Kl P d r fs ρ Q) ∨ callA P f args h (Kl P d r fs ρ Q)
/-- An operation on maps waits. -/
def Mp (P : Program) (nm : Option Nat) (op : Op) (ρ : Nat → LV) (h : AH) (d : Option Nat) (r : List SO) (fs : List Fr) (Q : Exit → St → Prop) : Prop := mapE P nm op (evL ρ) h (Kl P d r fs ρ Q)
/-- A loop waits for its invariant. -/
def Lp (P : Program) (c : SC) (fs : List Fr) (σ : St) (Q : Exit → St → Prop) : Prop := aLoop (aWp P c) σ (unw P Q fs)
/-- A range over a function waits. -/
def Rg (P : Program) (g : LV) (ps : List Nat) (a b : SC) (fs : List Fr) (ρ : Nat → LV) (h : AH) (Q : Exit → St → Prop) : Prop :=
  ∃ os xs, argOf P (fun _ => false) (h.frzObjs os) g (.sq xs) ∧ aFold (aWp P a) (aWp P b) ρ ps xs (h.frzObjs os) (unw P Q fs)
/-- The end of a function. -/
def Rt (P : Program) (rs : List ResultVar) (G : List LV → AH → Prop) (σ : St) : Prop := ∃ ls, resAll P σ rs = some ls ∧ G ls σ.h

variable (fs : List Fr) (σ : St) (Q : Exit → St → Prop)
theorem walk {σ : St} {Q : Exit → St → Prop} {s : SC} (h : W P s [] σ Q) : aWp P s σ Q := h
@[go_sem] theorem W_skip : W P .skip fs σ Q = U P .normal fs σ Q := rfl
@[go_sem] theorem W_ops (l : List SO) : W P (.ops l) fs σ Q = L P l fs σ Q := rfl
@[go_sem] theorem W_seq (a b : SC) : W P (.seq a b) fs σ Q = W P a (.seq b :: fs) σ Q := by
  show aWp P a σ _ = aWp P a σ _
  congr 1
@[go_sem] theorem W_cond (c : Operand) (t e : SC) : W P (.cond c t e) fs σ Q = BrW P (evL σ.ρ c) t e fs σ Q := rfl
@[go_sem] theorem W_block (id : Nat) (c : SC) : W P (.block id c) fs σ Q = W P c (.blk id :: fs) σ Q := by
  show aWp P c σ _ = aWp P c σ _
  congr 1
@[go_sem] theorem W_exit (id : Nat) : W P (.exit id) fs σ Q = U P (.exit id) fs σ Q := rfl
@[go_sem] theorem W_ret : W P .ret fs σ Q = U P .ret fs σ Q := rfl
@[go_sem] theorem W_loop (c : SC) : W P (.loop c) fs σ Q = Lp P c fs σ Q := rfl
@[go_sem] theorem W_rangeF (g : Operand) (ps : List Nat) (a b : SC) : W P (.rangeF g ps a b) fs σ Q = Rg P (evL σ.ρ g) ps a b fs σ.ρ σ.h Q := rfl
theorem W_opsD {l : List SO} {bad : List (Nat × Nat)} (V : Nat → List Nat) (hV : ∀ p ∈ bad, ∀ o ∈ V p.1, o ∉ V p.2) (h : LD P (clOf bad V) 0 l fs σ Q) : W P (.opsD l bad) fs σ Q := ⟨V, hV, h⟩
@[go_sem] theorem U_nil (e : Exit) : U P e [] σ Q = Q e σ := rfl
@[go_sem] theorem U_seq_normal (c : SC) : U P .normal (.seq c :: fs) σ Q = W P c fs σ Q := rfl
@[go_sem] theorem U_seq_exit (c : SC) (id : Nat) : U P (.exit id) (.seq c :: fs) σ Q = U P (.exit id) fs σ Q := rfl
@[go_sem] theorem U_seq_ret (c : SC) : U P .ret (.seq c :: fs) σ Q = U P .ret fs σ Q := rfl
@[go_sem] theorem U_blk_normal (id : Nat) : U P .normal (.blk id :: fs) σ Q = U P .normal fs σ Q := rfl
@[go_sem] theorem U_blk_ret (id : Nat) : U P .ret (.blk id :: fs) σ Q = U P .ret fs σ Q := rfl
@[go_sem] theorem U_blk_exit (id id' : Nat) : U P (.exit id') (.blk id :: fs) σ Q = if id' = id then U P .normal fs σ Q else U P (.exit id') fs σ Q := rfl
@[go_sem] theorem L_nil : L P [] fs σ Q = U P .normal fs σ Q := rfl
@[go_sem] theorem retG_ret (rs : List ResultVar) (G : List LV → AH → Prop) : retG P rs G .ret σ = Rt P rs G σ := rfl
@[go_sem] theorem retG_normal (rs : List ResultVar) (G : List LV → AH → Prop) : retG P rs G .normal σ = Rt P rs G σ := rfl
@[go_sem] theorem Vl_some (lv : LV) (d : Option Nat) (r : List SO) : Vl P (some lv) d r fs σ Q = L P r fs (σ.put d lv σ.h) Q := by simp [Vl]
@[go_sem] theorem Vl_none (d : Option Nat) (r : List SO) : Vl P none d r fs σ Q = False := by simp [Vl]
@[go_sem] theorem BrW_true (t e : SC) : BrW P (.fv (.val (.bool true))) t e fs σ Q = W P t fs σ Q := by simp [BrW]
@[go_sem] theorem BrW_false (t e : SC) : BrW P (.fv (.val (.bool false))) t e fs σ Q = W P e fs σ Q := by simp [BrW]
theorem brW {b : Bool} {t e : SC} {fs : List Fr} {σ : St} {Q : Exit → St → Prop} (h1 : b = true → W P t fs σ Q) (h2 : b = false → W P e fs σ Q) : BrW P (.fv (.val (.bool b))) t e fs σ Q := ⟨b, rfl, h1, h2⟩
variable (d : Option Nat) (ty : Nat) (nm : Option Nat) (r : List SO)
@[go_sem] theorem L_guard (op : Op) (s : Nat) (want : Bool) : L P (⟨d, op, ty, some (s, want), nm⟩ :: r) fs σ Q = BrL P (σ.ρ s) want d op ty nm r fs σ Q := by
  show aSO P ⟨d, op, ty, some (s, want), nm⟩ σ (fun σ' => aL P r σ' (unw P Q fs .normal)) = _
  unfold aSO BrL
  simp only
  split
  · rename_i b hb
    rw [hb]
    by_cases e : b = want
    · rw [if_pos e]
      subst e
      simp only [eq_iff_iff]
      constructor
      · intro h; exact .inl ⟨b, rfl, fun _ => h, fun h => by cases b <;> simp at h⟩
      · rintro (⟨b', h1, h2, h3⟩ | ⟨h1, h2⟩)
        · simp at h1; subst h1; exact h2 rfl
        · simp at h1
    · rw [if_neg e]
      have e' : b = !want := by cases b <;> cases want <;> simp_all
      simp only [eq_iff_iff]
      constructor
      · intro h; exact .inl ⟨b, rfl, fun h => absurd h e, fun _ => h⟩
      · rintro (⟨b', h1, h2, h3⟩ | ⟨h1, h2⟩)
        · simp at h1; subst h1; exact h3 e'
        · simp at h1
  · rename_i hb
    rw [hb]
    simp only [eq_iff_iff]
    constructor
    · intro h; exact .inr ⟨trivial, h⟩
    · rintro (⟨b', h1, h2, h3⟩ | ⟨h1, h2⟩)
      · simp at h1
      · exact h2
  · rename_i hne hne2
    simp only [eq_iff_iff, false_iff]
    rintro (⟨b, hb, _⟩ | ⟨hb, _⟩)
    · exact absurd hb (hne b)
    · exact absurd hb hne2
@[go_sem] theorem BrL_tt (op : Op) : BrL P (.fv (.val (.bool true))) true d op ty nm r fs σ Q = L P (⟨d, op, ty, none, nm⟩ :: r) fs σ Q := by simp [BrL]
@[go_sem] theorem BrL_ft (op : Op) : BrL P (.fv (.val (.bool false))) true d op ty nm r fs σ Q = L P r fs (σ.put d (.tup []) σ.h) Q := by simp [BrL]
@[go_sem] theorem BrL_tf (op : Op) : BrL P (.fv (.val (.bool true))) false d op ty nm r fs σ Q = L P r fs (σ.put d (.tup []) σ.h) Q := by simp [BrL]
@[go_sem] theorem BrL_ff (op : Op) : BrL P (.fv (.val (.bool false))) false d op ty nm r fs σ Q = L P (⟨d, op, ty, none, nm⟩ :: r) fs σ Q := by simp [BrL]
theorem brL {b want : Bool} {d : Option Nat} {op : Op} {ty : Nat} {nm : Option Nat} {r : List SO} {fs : List Fr} {σ : St} {Q : Exit → St → Prop} (h1 : b = want → L P (⟨d, op, ty, none, nm⟩ :: r) fs σ Q) (h2 : b = (!want) → L P r fs (σ.put d (.tup []) σ.h) Q) :
    BrL P (.fv (.val (.bool b))) want d op ty nm r fs σ Q := .inl ⟨b, rfl, h1, h2⟩
@[go_sem] theorem BrL_no (op : Op) (want : Bool) : BrL P (.tup []) want d op ty nm r fs σ Q = L P r fs (σ.put d (.tup []) σ.h) Q := by simp [BrL]
theorem L_step (op : Op) : L P (⟨d, op, ty, none, nm⟩ :: r) fs σ Q = stepE P nm op ty (evL σ.ρ) σ.h (Kl P d r fs σ.ρ Q) := by
  show stepE P nm op ty (evL σ.ρ) σ.h _ = _
  congr 1
theorem quiet_step {op : Op} (h1 : isMap op = false) (h2 : isEff op = false) (h3 : isCall op = false) : L P (⟨d, op, ty, none, nm⟩ :: r) fs σ Q = Vl P (quietV P op (evL σ.ρ) σ.h) d r fs σ Q := by
  rw [L_step]
  have : stepE P nm op ty (evL σ.ρ) σ.h (Kl P d r fs σ.ρ Q) = ∃ lv, quietV P op (evL σ.ρ) σ.h = some lv ∧ Kl P d r fs σ.ρ Q lv σ.h := by
    unfold stepE
    split
    · simp [isCall] at h3
    · rw [if_neg (by simp [h1]), if_neg (by simp [h2])]
  rw [this]
  rfl
theorem eff_step {op : Op} (h1 : isMap op = false) (h2 : isEff op = true) : L P (⟨d, op, ty, none, nm⟩ :: r) fs σ Q = effV P nm op ty (evL σ.ρ) σ.h (Kl P d r fs σ.ρ Q) := by
  rw [L_step]
  unfold stepE
  split
  · simp [isEff] at h2
  · rw [if_neg (by simp [h1]), if_pos h2]
theorem map_step {op : Op} (h1 : isMap op = true) : L P (⟨d, op, ty, none, nm⟩ :: r) fs σ Q = Mp P nm op σ.ρ σ.h d r fs Q := by
  rw [L_step]
  unfold stepE
  split
  · simp [isMap] at h1
  · rw [if_pos h1]; rfl
@[go_sem] theorem L_move (x : Operand) : L P (⟨d, .move x, ty, none, nm⟩ :: r) fs σ Q = Vl P (quietV P (.move x) (evL σ.ρ) σ.h) d r fs σ Q := quiet_step _ _ _ _ _ _ _ rfl rfl rfl
@[go_sem] theorem L_pick (c a b : Operand) : L P (⟨d, .pick c a b, ty, none, nm⟩ :: r) fs σ Q = Vl P (quietV P (.pick c a b) (evL σ.ρ) σ.h) d r fs σ Q := quiet_step _ _ _ _ _ _ _ rfl rfl rfl
@[go_sem] theorem L_nilCheck (a : Operand) : L P (⟨d, .nilCheck a, ty, none, nm⟩ :: r) fs σ Q = Vl P (quietV P (.nilCheck a) (evL σ.ρ) σ.h) d r fs σ Q := quiet_step _ _ _ _ _ _ _ rfl rfl rfl
@[go_sem] theorem L_load (t : Nat) (a : Operand) : L P (⟨d, .load t a, ty, none, nm⟩ :: r) fs σ Q = Vl P (quietV P (.load t a) (evL σ.ρ) σ.h) d r fs σ Q := quiet_step _ _ _ _ _ _ _ rfl rfl rfl
@[go_sem] theorem L_binOp (op : BinOp) (t t' : Nat) (a b : Operand) : L P (⟨d, .binOp op t a b t', ty, none, nm⟩ :: r) fs σ Q = Vl P (quietV P (.binOp op t a b t') (evL σ.ρ) σ.h) d r fs σ Q := quiet_step _ _ _ _ _ _ _ rfl rfl rfl
@[go_sem] theorem L_unOp (op : UnOp) (t : Nat) (a : Operand) : L P (⟨d, .unOp op t a, ty, none, nm⟩ :: r) fs σ Q = Vl P (quietV P (.unOp op t a) (evL σ.ρ) σ.h) d r fs σ Q := quiet_step _ _ _ _ _ _ _ rfl rfl rfl
@[go_sem] theorem L_convert (s t : Nat) (a : Operand) : L P (⟨d, .convert s t a, ty, none, nm⟩ :: r) fs σ Q = Vl P (quietV P (.convert s t a) (evL σ.ρ) σ.h) d r fs σ Q := quiet_step _ _ _ _ _ _ _ rfl rfl rfl
@[go_sem] theorem L_makeFunc (f : Go.Fn) (a b : Array Operand) : L P (⟨d, .makeFunc f a b, ty, none, nm⟩ :: r) fs σ Q = Vl P (quietV P (.makeFunc f a b) (evL σ.ρ) σ.h) d r fs σ Q := quiet_step _ _ _ _ _ _ _ rfl rfl rfl
@[go_sem] theorem L_fieldAddr (s : Nat) (x : Operand) (f : Nat) : L P (⟨d, .fieldAddr s x f, ty, none, nm⟩ :: r) fs σ Q = Vl P (quietV P (.fieldAddr s x f) (evL σ.ρ) σ.h) d r fs σ Q := quiet_step _ _ _ _ _ _ _ rfl rfl rfl
@[go_sem] theorem L_field (s : Nat) (x : Operand) (f : Nat) : L P (⟨d, .field s x f, ty, none, nm⟩ :: r) fs σ Q = Vl P (quietV P (.field s x f) (evL σ.ρ) σ.h) d r fs σ Q := quiet_step _ _ _ _ _ _ _ rfl rfl rfl
@[go_sem] theorem L_indexAddr (t : Nat) (x i : Operand) : L P (⟨d, .indexAddr t x i, ty, none, nm⟩ :: r) fs σ Q = Vl P (quietV P (.indexAddr t x i) (evL σ.ρ) σ.h) d r fs σ Q := quiet_step _ _ _ _ _ _ _ rfl rfl rfl
@[go_sem] theorem L_index (t : Nat) (x i : Operand) : L P (⟨d, .index t x i, ty, none, nm⟩ :: r) fs σ Q = Vl P (quietV P (.index t x i) (evL σ.ρ) σ.h) d r fs σ Q := quiet_step _ _ _ _ _ _ _ rfl rfl rfl
@[go_sem] theorem L_build (t : Nat) (ps : Array (Nat × Operand)) : L P (⟨d, .build t ps, ty, none, nm⟩ :: r) fs σ Q = Vl P (quietV P (.build t ps) (evL σ.ρ) σ.h) d r fs σ Q := quiet_step _ _ _ _ _ _ _ rfl rfl rfl
@[go_sem] theorem L_extract (t : Operand) (i : Nat) : L P (⟨d, .extract t i, ty, none, nm⟩ :: r) fs σ Q = Vl P (quietV P (.extract t i) (evL σ.ρ) σ.h) d r fs σ Q := quiet_step _ _ _ _ _ _ _ rfl rfl rfl
@[go_sem] theorem L_slice (t : Nat) (x : Operand) (a b c : Option Operand) : L P (⟨d, .slice t x a b c, ty, none, nm⟩ :: r) fs σ Q = Vl P (quietV P (.slice t x a b c) (evL σ.ρ) σ.h) d r fs σ Q := quiet_step _ _ _ _ _ _ _ rfl rfl rfl
@[go_sem] theorem L_len (a : Array Operand) (t : Array Nat) : L P (⟨d, .call { callee := .builtin .len, args := a, argTypes := t }, ty, none, nm⟩ :: r) fs σ Q = Vl P (quietV P (.call { callee := .builtin .len, args := a, argTypes := t }) (evL σ.ρ) σ.h) d r fs σ Q := quiet_step _ _ _ _ _ _ _ rfl rfl rfl
@[go_sem] theorem L_min (a : Array Operand) (t : Array Nat) : L P (⟨d, .call { callee := .builtin .min, args := a, argTypes := t }, ty, none, nm⟩ :: r) fs σ Q = Vl P (quietV P (.call { callee := .builtin .min, args := a, argTypes := t }) (evL σ.ρ) σ.h) d r fs σ Q := quiet_step _ _ _ _ _ _ _ rfl rfl rfl
@[go_sem] theorem L_max (a : Array Operand) (t : Array Nat) : L P (⟨d, .call { callee := .builtin .max, args := a, argTypes := t }, ty, none, nm⟩ :: r) fs σ Q = Vl P (quietV P (.call { callee := .builtin .max, args := a, argTypes := t }) (evL σ.ρ) σ.h) d r fs σ Q := quiet_step _ _ _ _ _ _ _ rfl rfl rfl
@[go_sem] theorem L_makeMap (t : Nat) (x : Option Operand) : L P (⟨d, .makeMap t x, ty, none, nm⟩ :: r) fs σ Q = Mp P nm (.makeMap t x) σ.ρ σ.h d r fs Q := map_step _ _ _ _ _ _ _ rfl
@[go_sem] theorem L_lookup (t : Nat) (m x : Operand) (ok : Bool) : L P (⟨d, .lookup t m x ok, ty, none, nm⟩ :: r) fs σ Q = Mp P nm (.lookup t m x ok) σ.ρ σ.h d r fs Q := map_step _ _ _ _ _ _ _ rfl
@[go_sem] theorem L_mapUpdate (t : Nat) (m x v : Operand) : L P (⟨d, .mapUpdate t m x v, ty, none, nm⟩ :: r) fs σ Q = Mp P nm (.mapUpdate t m x v) σ.ρ σ.h d r fs Q := map_step _ _ _ _ _ _ _ rfl
@[go_sem] theorem L_mapEntry (t : Nat) (m x : Operand) : L P (⟨d, .mapEntry t m x, ty, none, nm⟩ :: r) fs σ Q = Mp P nm (.mapEntry t m x) σ.ρ σ.h d r fs Q := map_step _ _ _ _ _ _ _ rfl
@[go_sem] theorem L_entryStore (t : Nat) (m x v : Operand) : L P (⟨d, .entryStore t m x v, ty, none, nm⟩ :: r) fs σ Q = Mp P nm (.entryStore t m x v) σ.ρ σ.h d r fs Q := map_step _ _ _ _ _ _ _ rfl
@[go_sem] theorem L_range (t : Nat) (x : Operand) : L P (⟨d, .range t x, ty, none, nm⟩ :: r) fs σ Q = Mp P nm (.range t x) σ.ρ σ.h d r fs Q := map_step _ _ _ _ _ _ _ rfl
@[go_sem] theorem L_next (x : Operand) (b : Bool) : L P (⟨d, .next x b, ty, none, nm⟩ :: r) fs σ Q = Mp P nm (.next x b) σ.ρ σ.h d r fs Q := map_step _ _ _ _ _ _ _ rfl
@[go_sem] theorem L_entry (x : Operand) : L P (⟨d, .entry x, ty, none, nm⟩ :: r) fs σ Q = Mp P nm (.entry x) σ.ρ σ.h d r fs Q := map_step _ _ _ _ _ _ _ rfl
@[go_sem] theorem L_call (f : Operand) (a : Array Operand) (t : Array Nat) : L P (⟨d, .call { callee := .value f, args := a, argTypes := t }, ty, none, nm⟩ :: r) fs σ Q = Cl' P nm (evL σ.ρ f) (a.toList.map (evL σ.ρ)) σ.h d r fs σ.ρ Q := by
  rw [L_step]; rfl
/-! Effects. -/
@[go_sem] theorem L_assign_nil : L P (⟨d, .assign (.const (.slice none 0 0)), ty, none, nm⟩ :: r) fs σ Q =
    (match nm, idx P ty with
    | some n, some (none, e, _, es) => 0 < es ∧ L P r fs (St.put ⟨σ.ρ, σ.h.new n (.list e es false true [])⟩ d (.gl n (σ.h.gen n + 1)) (σ.h.new n (.list e es false true []))) Q
    | _, _ => L P r fs (σ.put d (.fv .nil) σ.h) Q) := by
  rw [eff_step _ _ _ _ _ _ _ rfl rfl]; rfl
theorem L_assign (x : Operand) (hx : x ≠ .const (.slice none 0 0)) : L P (⟨d, .assign x, ty, none, nm⟩ :: r) fs σ Q = L P r fs (σ.put d (evL σ.ρ x) σ.h) Q := by
  rw [eff_step _ _ _ _ _ _ _ rfl rfl]
  unfold effV
  split
  · rename_i e; simp at e; exact absurd e hx
  · rename_i y hy e; simp at e; subst e; rfl
  · rename_i e; simp at e
  · rename_i e; simp at e
  · rename_i e; simp at e
  · rename_i e; simp at e
  · rename_i e; simp at e
  · rename_i e; simp at e
  · rename_i e; simp at e
  · rename_i hh _ _ _ _ _ _ _; exact (hh x rfl).elim
@[go_sem] theorem L_assign_tmp (t : Nat) : L P (⟨d, .assign (.tmp t), ty, none, nm⟩ :: r) fs σ Q = L P r fs (σ.put d (σ.ρ t) σ.h) Q := L_assign _ _ _ _ _ _ _ _ (by simp)
@[go_sem] theorem L_assign_func (t : Nat) : L P (⟨d, .assign (.func t), ty, none, nm⟩ :: r) fs σ Q = L P r fs (σ.put d (.clos t []) σ.h) Q := L_assign _ _ _ _ _ _ _ _ (by simp)
@[go_sem] theorem L_assign_int (k : IntKind) (n : Int) : L P (⟨d, .assign (.const (.int k n)), ty, none, nm⟩ :: r) fs σ Q = L P r fs (σ.put d (.fv (.val (.int k n))) σ.h) Q := L_assign _ _ _ _ _ _ _ _ (by simp)
@[go_sem] theorem L_assign_bool (b : Bool) : L P (⟨d, .assign (.const (.bool b)), ty, none, nm⟩ :: r) fs σ Q = L P r fs (σ.put d (.fv (.val (.bool b))) σ.h) Q := L_assign _ _ _ _ _ _ _ _ (by simp)
@[go_sem] theorem L_assign_ptr (a : Option Addr) : L P (⟨d, .assign (.const (.pointer a)), ty, none, nm⟩ :: r) fs σ Q = L P r fs (σ.put d (.fv (.val (.pointer a))) σ.h) Q := L_assign _ _ _ _ _ _ _ _ (by simp)
@[go_sem] theorem L_assign_map (a : Option Nat) : L P (⟨d, .assign (.const (.map a)), ty, none, nm⟩ :: r) fs σ Q = L P r fs (σ.put d (.fv (.val (.map a))) σ.h) Q := L_assign _ _ _ _ _ _ _ _ (by simp)
@[go_sem] theorem L_assign_nilFunc : L P (⟨d, .assign (.const .nilFunc), ty, none, nm⟩ :: r) fs σ Q = L P r fs (σ.put d (.fv (.val .nilFunc)) σ.h) Q := L_assign _ _ _ _ _ _ _ _ (by simp)
@[go_sem] theorem L_assign_agg (vs : Array Value) : L P (⟨d, .assign (.const (.agg vs)), ty, none, nm⟩ :: r) fs σ Q = L P r fs (σ.put d (ofV (.agg vs)) σ.h) Q := L_assign _ _ _ _ _ _ _ _ (by simp)
theorem Kl_eq (ρ : Nat → LV) (lv : LV) (h : AH) : Kl P d r fs ρ Q lv h = L P r fs (St.put ⟨ρ, h⟩ d lv h) Q := rfl
@[go_sem] theorem L_box (t : Nat) (x : Operand) (n : Nat) : L P (⟨d, .box t x, ty, none, some n⟩ :: r) fs σ Q =
    (match lay P t with
    | some (_, s) => (evL σ.ρ x).cells.length = s ∧ (evL σ.ρ x).cells.all LV.one = true ∧ L P r fs (St.put ⟨σ.ρ, σ.h.new n (.box (evL σ.ρ x).cells)⟩ d (.ptr n (σ.h.gen n + 1) 0) (σ.h.new n (.box (evL σ.ρ x).cells))) Q
    | _ => False) := by
  rw [eff_step _ _ _ _ _ _ _ rfl rfl]
  simp only [effV]
  cases lay P t with
  | none => rfl
  | some q => rfl
@[go_sem] theorem L_alloc (t n : Nat) : L P (⟨d, .alloc t, ty, none, some n⟩ :: r) fs σ Q =
    (match zeros P t with
    | some zs => L P r fs (St.put ⟨σ.ρ, σ.h.new n (.box (zs.map .fv))⟩ d (.ptr n (σ.h.gen n + 1) 0) (σ.h.new n (.box (zs.map .fv)))) Q
    | _ => False) := by
  rw [eff_step _ _ _ _ _ _ _ rfl rfl]
  simp only [effV]
  cases zeros P t <;> rfl
/-- What waits for a list. -/
def Frz (P : Program) (o : Option (List FV × AH)) (e es n : Nat) (d : Option Nat) (r : List SO) (fs : List Fr) (ρ : Nat → LV) (Q : Exit → St → Prop) : Prop :=
  ∃ xs h, o = some (xs, h) ∧ (∀ x ∈ xs, x.cells.length = es ∧ x.cells.all FV.one = true) ∧ L P r fs (St.put ⟨ρ, h.new n (.list e es false false xs)⟩ d (.gl n (h.gen n + 1)) (h.new n (.list e es false false xs))) Q
@[go_sem] theorem Frz_some (xs : List FV) (h : AH) (e es n : Nat) (ρ : Nat → LV) : Frz P (some (xs, h)) e es n d r fs ρ Q =
    ((∀ x ∈ xs, x.cells.length = es ∧ x.cells.all FV.one = true) ∧ L P r fs (St.put ⟨ρ, h.new n (.list e es false false xs)⟩ d (.gl n (h.gen n + 1)) (h.new n (.list e es false false xs))) Q) := by
  simp only [Frz, eq_iff_iff]
  constructor
  · rintro ⟨xs', h', e1, h1, h2⟩; simp at e1; obtain ⟨rfl, rfl⟩ := e1; exact ⟨h1, h2⟩
  · rintro ⟨h1, h2⟩; exact ⟨xs, h, rfl, h1, h2⟩
@[go_sem] theorem L_buildSlice (t k n : Nat) (parts : Array (Nat × Operand)) : L P (⟨d, .buildSlice t k parts, ty, none, some n⟩ :: r) fs σ Q =
    (match idx P t with
    | some (none, e, _, es) => 0 < es ∧ k * es ≤ 16777216 ∧ (zeros P e).isSome = true ∧ parts.toList.map (·.1) = List.range k ∧ Frz P (frzAll σ.h (parts.toList.map fun p => evL σ.ρ p.2)) e es n d r fs σ.ρ Q
    | _ => False) := by
  rw [eff_step _ _ _ _ _ _ _ rfl rfl]
  simp only [effV]
  cases idx P t with
  | none => rfl
  | some q =>
    obtain ⟨a, e, b, es⟩ := q
    cases a <;> rfl
@[go_sem] theorem L_makeSlice (t n : Nat) (l c : Operand) : L P (⟨d, .makeSlice t l c, ty, none, some n⟩ :: r) fs σ Q =
    (match idx P t, intOf (evL σ.ρ l), intOf (evL σ.ρ c) with
    | some (none, e, agg, es), some l, some c => 0 < es ∧ 0 ≤ l ∧ l = c ∧ c ≤ 9223372036854775807 ∧ P.bytesOf e * c ≤ 281474976710656 ∧
      Has (zeros P e) fun zs => (agg = true ∨ es = 1) ∧ L P r fs (St.put ⟨σ.ρ, σ.h.new n (.list e es false false (List.replicate l.toNat (FV.ofCells agg zs)))⟩ d (.gl n (σ.h.gen n + 1)) (σ.h.new n (.list e es false false (List.replicate l.toNat (FV.ofCells agg zs))))) Q
    | _, _, _ => False) := by
  rw [eff_step _ _ _ _ _ _ _ rfl rfl]
  simp only [effV]
  cases idx P t with
  | none => rfl
  | some q =>
    obtain ⟨a, e, b, es⟩ := q
    cases a <;> cases intOf (evL σ.ρ l) <;> cases intOf (evL σ.ρ c) <;> rfl
/-- A store waits for its address. -/
def Sto (P : Program) (n : Nat) (a x : LV) (h : AH) (d : Option Nat) (r : List SO) (fs : List Fr) (ρ : Nat → LV) (Q : Exit → St → Prop) : Prop :=
  match a with
  | .ptr o g off => ∃ cs, h.box o g = some cs ∧ x.cells.length = n ∧ off + n ≤ cs.length ∧ x.cells.all LV.one = true ∧
        L P r fs (St.put ⟨ρ, h.set o (.box (splice cs off x.cells))⟩ d .undef (h.set o (.box (splice cs off x.cells)))) Q
  | .elem o g es i off => ∃ fs' h', frzS h x.cells = some (fs', h') ∧ fs'.length = n ∧ fs'.all FV.one = true ∧
        ∃ e nil xs y, h'.lst o g = some (e, es, false, nil, xs) ∧ xs[i]? = some y ∧ off + n ≤ es ∧
          L P r fs (St.put ⟨ρ, h'.set o (.list e es false nil (xs.set i (y.withCells (splice y.cells off fs'))))⟩ d .undef (h'.set o (.list e es false nil (xs.set i (y.withCells (splice y.cells off fs')))))) Q
  | _ => False
@[go_sem] theorem L_store (t : Nat) (a x : Operand) : L P (⟨d, .store t a x, ty, none, nm⟩ :: r) fs σ Q =
    (match lay P t with | some (_, n) => Sto P n (evL σ.ρ a) (evL σ.ρ x) σ.h d r fs σ.ρ Q | _ => False) := by
  rw [eff_step _ _ _ _ _ _ _ rfl rfl]
  simp only [effV, Sto]
  cases lay P t with
  | none => cases evL σ.ρ a <;> rfl
  | some q => cases evL σ.ρ a <;> rfl
@[go_sem] theorem Sto_ptr (n o g off : Nat) (x : LV) (h : AH) (ρ : Nat → LV) : Sto P n (.ptr o g off) x h d r fs ρ Q = Has (h.box o g) fun cs => x.cells.length = n ∧ off + n ≤ cs.length ∧ x.cells.all LV.one = true ∧
        L P r fs (St.put ⟨ρ, h.set o (.box (splice cs off x.cells))⟩ d .undef (h.set o (.box (splice cs off x.cells)))) Q := rfl
/-- An append waits. -/
def App (P : Program) (t : Nat) (a x : LV) (h : AH) (nm d : Option Nat) (r : List SO) (fs : List Fr) (ρ : Nat → LV) (Q : Exit → St → Prop) : Prop :=
  effV P nm (.call { callee := .builtin .append, args := #[.tmp 0, .tmp 1], argTypes := #[t, t] }) 0 (fun o => match o with | .tmp 0 => a | _ => x) h (Kl P d r fs ρ Q)
@[go_sem] theorem L_append (a x : Operand) (t t' : Nat) : L P (⟨d, .call { callee := .builtin .append, args := #[a, x], argTypes := #[t, t'] }, ty, none, nm⟩ :: r) fs σ Q =
    (t = t' ∧ App P t (evL σ.ρ a) (evL σ.ρ x) σ.h nm d r fs σ.ρ Q) := by
  rw [eff_step _ _ _ _ _ _ _ rfl rfl]
  simp only [effV, App, true_and]
/-- A copy waits. -/
def Cpy (P : Program) (t : Nat) (a x : LV) (h : AH) (nm d : Option Nat) (r : List SO) (fs : List Fr) (ρ : Nat → LV) (Q : Exit → St → Prop) : Prop :=
  effV P nm (.call { callee := .builtin .copy, args := #[.tmp 0, .tmp 1], argTypes := #[t, t] }) 0 (fun o => match o with | .tmp 0 => a | _ => x) h (Kl P d r fs ρ Q)
@[go_sem] theorem L_copy (a x : Operand) (t t' : Nat) : L P (⟨d, .call { callee := .builtin .copy, args := #[a, x], argTypes := #[t, t'] }, ty, none, nm⟩ :: r) fs σ Q =
    Cpy P t (evL σ.ρ a) (evL σ.ρ x) σ.h nm d r fs σ.ρ Q := by
  rw [eff_step _ _ _ _ _ _ _ rfl rfl]
  simp only [effV, Cpy]
end

section
variable {P : Program}
/-! Values. -/
@[go_sem] theorem ev_tmp (ρ : Nat → LV) (t : Nat) : evL ρ (.tmp t) = ρ t := rfl
@[go_sem] theorem ev_func (ρ : Nat → LV) (f : Nat) : evL ρ (.func f) = .clos f [] := rfl
@[go_sem] theorem ev_int (ρ : Nat → LV) (k : IntKind) (n : Int) : evL ρ (.const (.int k n)) = .fv (.val (.int k n)) := rfl
@[go_sem] theorem ev_bool (ρ : Nat → LV) (b : Bool) : evL ρ (.const (.bool b)) = .fv (.val (.bool b)) := rfl
@[go_sem] theorem ev_nil (ρ : Nat → LV) (n c : Nat) : evL ρ (.const (.slice none n c)) = .fv (.val (.slice none n c)) := rfl
@[go_sem] theorem ev_ptr (ρ : Nat → LV) (a : Option Addr) : evL ρ (.const (.pointer a)) = .fv (.val (.pointer a)) := rfl
@[go_sem] theorem ev_map (ρ : Nat → LV) (a : Option Nat) : evL ρ (.const (.map a)) = .fv (.val (.map a)) := rfl
@[go_sem] theorem ev_nilFunc (ρ : Nat → LV) : evL ρ (.const .nilFunc) = .fv (.val .nilFunc) := rfl
/-- Cells. -/
@[go_sem] theorem cells_fvint (k : IntKind) (n : Int) : (LV.fv (.val (.int k n))).cells = [.fv (.val (.int k n))] := rfl
@[go_sem] theorem cells_fvbool (b : Bool) : (LV.fv (.val (.bool b))).cells = [.fv (.val (.bool b))] := rfl
@[go_sem] theorem cells_fvslice (a : Option Addr) (n c : Nat) : (LV.fv (.val (.slice a n c))).cells = [.fv (.val (.slice a n c))] := rfl
@[go_sem] theorem cells_fvpointer (a : Option Addr) : (LV.fv (.val (.pointer a))).cells = [.fv (.val (.pointer a))] := rfl
@[go_sem] theorem cells_fvmapn (a : Option Nat) : (LV.fv (.val (.map a))).cells = [.fv (.val (.map a))] := rfl
@[go_sem] theorem cells_fvnilFunc : (LV.fv (.val .nilFunc)).cells = [.fv (.val .nilFunc)] := rfl
@[go_sem] theorem cells_fvlist (f : Bool) (xs : List FV) : (LV.fv (.list f xs)).cells = [.fv (.list f xs)] := rfl
@[go_sem] theorem cells_fvptr (xs : List FV) : (LV.fv (.ptr xs)).cells = [.fv (.ptr xs)] := rfl
@[go_sem] theorem cells_fvclos (f : Nat) (xs : List FV) : (LV.fv (.clos f xs)).cells = [.fv (.clos f xs)] := rfl
@[go_sem] theorem cells_fvmap (xs : List (FV × FV)) : (LV.fv (.map xs)).cells = [.fv (.map xs)] := rfl
@[go_sem] theorem cells_fvagg (xs : List FV) : (LV.fv (.agg xs)).cells = xs.map .fv := rfl
@[go_sem] theorem cells_agg (xs : List LV) : (LV.agg xs).cells = xs := rfl
@[go_sem] theorem cells_gl (o g : Nat) : (LV.gl o g).cells = [.gl o g] := rfl
@[go_sem] theorem cells_lptr (o g f : Nat) : (LV.ptr o g f).cells = [.ptr o g f] := rfl
@[go_sem] theorem cells_mp (o g : Nat) : (LV.mp o g).cells = [.mp o g] := rfl
@[go_sem] theorem cells_it (o g : Nat) : (LV.it o g).cells = [.it o g] := rfl
@[go_sem] theorem cells_lclos (f : Nat) (c : List LV) : (LV.clos f c).cells = [.clos f c] := rfl
@[go_sem] theorem cells_bnd (f : Nat) (c : List LV) : (LV.bnd f c).cells = [.bnd f c] := rfl
@[go_sem] theorem cells_fn (g : List FV → Option FV) : (LV.fn g).cells = [.fn g] := rfl
@[go_sem] theorem fcells_val (v : Value) : (FV.val v).cells = [.val v] := rfl
@[go_sem] theorem fcells_agg (xs : List FV) : (FV.agg xs).cells = xs := rfl
@[go_sem] theorem fcells_list (f : Bool) (xs : List FV) : (FV.list f xs).cells = [.list f xs] := rfl
@[go_sem] theorem fcells_ptr (xs : List FV) : (FV.ptr xs).cells = [.ptr xs] := rfl
@[go_sem] theorem fcells_clos (f : Nat) (xs : List FV) : (FV.clos f xs).cells = [.clos f xs] := rfl
@[go_sem] theorem fcells_map (xs : List (FV × FV)) : (FV.map xs).cells = [.map xs] := rfl
@[go_sem] theorem one_fvint (k : IntKind) (n : Int) : (LV.fv (.val (.int k n))).one = true := rfl
@[go_sem] theorem one_fvbool (b : Bool) : (LV.fv (.val (.bool b))).one = true := rfl
@[go_sem] theorem one_fvslice (a : Option Addr) (n c : Nat) : (LV.fv (.val (.slice a n c))).one = true := rfl
@[go_sem] theorem one_fvpointer (a : Option Addr) : (LV.fv (.val (.pointer a))).one = true := rfl
@[go_sem] theorem one_fvmapn (a : Option Nat) : (LV.fv (.val (.map a))).one = true := rfl
@[go_sem] theorem one_fvnilFunc : (LV.fv (.val .nilFunc)).one = true := rfl
@[go_sem] theorem one_fvlist (f : Bool) (xs : List FV) : (LV.fv (.list f xs)).one = true := rfl
@[go_sem] theorem one_fvptr (xs : List FV) : (LV.fv (.ptr xs)).one = true := rfl
@[go_sem] theorem one_fvclos (f : Nat) (xs : List FV) : (LV.fv (.clos f xs)).one = true := rfl
@[go_sem] theorem one_fvmap (xs : List (FV × FV)) : (LV.fv (.map xs)).one = true := rfl
@[go_sem] theorem one_gl (o g : Nat) : (LV.gl o g).one = true := rfl
@[go_sem] theorem one_lptr (o g f : Nat) : (LV.ptr o g f).one = true := rfl
@[go_sem] theorem one_mp (o g : Nat) : (LV.mp o g).one = true := rfl
@[go_sem] theorem one_it (o g : Nat) : (LV.it o g).one = true := rfl
@[go_sem] theorem one_lclos (f : Nat) (c : List LV) : (LV.clos f c).one = true := rfl
@[go_sem] theorem one_bnd (f : Nat) (c : List LV) : (LV.bnd f c).one = true := rfl
@[go_sem] theorem one_fn (g : List FV → Option FV) : (LV.fn g).one = true := rfl
@[go_sem] theorem fone_int (k : IntKind) (n : Int) : (FV.val (.int k n)).one = true := rfl
@[go_sem] theorem fone_bool (b : Bool) : (FV.val (.bool b)).one = true := rfl
@[go_sem] theorem fone_slice (a : Option Addr) (n c : Nat) : (FV.val (.slice a n c)).one = true := rfl
@[go_sem] theorem fone_list (f : Bool) (xs : List FV) : (FV.list f xs).one = true := rfl
@[go_sem] theorem fone_ptr (xs : List FV) : (FV.ptr xs).one = true := rfl
@[go_sem] theorem fone_clos (f : Nat) (xs : List FV) : (FV.clos f xs).one = true := rfl
@[go_sem] theorem fone_map (xs : List (FV × FV)) : (FV.map xs).one = true := rfl
@[go_sem] theorem ev_agg (ρ : Nat → LV) (vs : Array Value) : evL ρ (.const (.agg vs)) = ofV (.agg vs) := rfl
end
end Abs

