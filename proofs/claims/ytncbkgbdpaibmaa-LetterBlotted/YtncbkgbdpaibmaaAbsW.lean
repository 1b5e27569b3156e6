/- A part of the proof: AbsW, AbsX, AbsY, AbsZ, AbsH. -/
import Derived.Test.YtncbkgbdpaibmaaAbs20
set_option linter.unusedSimpArgs false
set_option linter.unusedVariables false
namespace Abs
open Go
/-! The walk: rules that simp follows. -/
@[go_sem] theorem upd_if {α : Type} (f : Nat → α) (d : Nat) (v : α) (i : Nat) : upd f d v i = if i = d then v else f i := rfl
@[go_sem] theorem new_gen (h : AH) (d : Nat) (ob : AObj) : (h.new d ob).gen = upd h.gen d (h.gen d + 1) := rfl
@[go_sem] theorem set_gen (h : AH) (d : Nat) (ob : AObj) : (h.set d ob).gen = h.gen := rfl
@[go_sem] theorem renew_gen (h : AH) (d k : Nat) (ob : AObj) : (h.renew d k ob).gen = upd h.gen d k := rfl
@[go_sem] theorem new_obj (h : AH) (d : Nat) (ob : AObj) : (h.new d ob).obj = upd h.obj d (some ob) := rfl
@[go_sem] theorem set_obj (h : AH) (d : Nat) (ob : AObj) : (h.set d ob).obj = upd h.obj d (some ob) := rfl
@[go_sem] theorem renew_obj (h : AH) (d k : Nat) (ob : AObj) : (h.renew d k ob).obj = upd h.obj d (some ob) := rfl
@[go_sem] theorem new_y (h : AH) (d : Nat) (ob : AObj) : (h.new d ob).y = h.y := rfl
@[go_sem] theorem set_y (h : AH) (d : Nat) (ob : AObj) : (h.set d ob).y = h.y := rfl
@[go_sem] theorem put_some (σ : St) (d : Nat) (v : LV) (h : AH) : σ.put (some d) v h = ⟨upd σ.ρ d v, h⟩ := rfl
@[go_sem] theorem put_none (σ : St) (v : LV) (h : AH) : σ.put none v h = ⟨σ.ρ, h⟩ := rfl
@[go_sem] theorem h0_gen (o : Nat) : h0.gen o = 0 := rfl
@[go_sem] theorem h0_obj (o : Nat) : h0.obj o = none := rfl
@[go_sem] theorem hy_gen (xs : List (List FV)) (o : Nat) : (hy xs).gen o = 0 := rfl
@[go_sem] theorem hy_obj (xs : List (List FV)) (o : Nat) : (hy xs).obj o = none := rfl
@[go_sem] theorem hy_y (xs : List (List FV)) : (hy xs).y = some xs := rfl
def nth : List LV → Nat → LV
  | [], _ => .undef
  | x :: _, 0 => x
  | _ :: xs, n + 1 => nth xs n
theorem nth_eq (l : List LV) (n : Nat) : (l[n]?).getD .undef = nth l n := by
  induction l generalizing n with
  | nil => simp [nth]
  | cons x l ih => cases n <;> simp [nth, ih]
@[go_sem] theorem ρ0_eq (args : List LV) (i : Nat) : ρ0 args i = nth args i := nth_eq args i
@[go_sem] theorem nth_zero (x : LV) (l : List LV) : nth (x :: l) 0 = x := rfl
@[go_sem] theorem nth_succ (x : LV) (l : List LV) (n : Nat) : nth (x :: l) (n + 1) = nth l n := rfl
def asBox : Option AObj → Option (List LV) | some (.box cs) => some cs | _ => none
def asLst : Option AObj → Option (Nat × Nat × Bool × Bool × List FV) | some (.list e es fz nil xs) => some (e, es, fz, nil, xs) | _ => none
def asMpo : Option AObj → Option (Bool × List (FV × FV)) | some (.map fz es) => some (fz, es) | _ => none
def asIto : Option AObj → Option (List (FV × FV) × Option (FV × FV)) | some (.iter l c) => some (l, c) | _ => none
@[go_sem] theorem asBox_box (cs : List LV) : asBox (some (.box cs)) = some cs := rfl
@[go_sem] theorem asLst_list (e es : Nat) (fz nil : Bool) (xs : List FV) : asLst (some (.list e es fz nil xs)) = some (e, es, fz, nil, xs) := rfl
@[go_sem] theorem asMpo_map (fz : Bool) (es : List (FV × FV)) : asMpo (some (.map fz es)) = some (fz, es) := rfl
@[go_sem] theorem box_eq (h : AH) (o g : Nat) : h.box o g = if h.gen o = g then asBox (h.obj o) else none := rfl
@[go_sem] theorem lst_eq (h : AH) (o g : Nat) : h.lst o g = if h.gen o = g then asLst (h.obj o) else none := rfl
@[go_sem] theorem mpo_eq (h : AH) (o g : Nat) : h.mpo o g = if h.gen o = g then asMpo (h.obj o) else none := rfl
def Has {α : Type} (o : Option α) (R : α → Prop) : Prop := ∃ x, o = some x ∧ R x
@[go_sem] theorem Has_some {α : Type} (x : α) (R : α → Prop) : Has (some x) R = R x := by simp [Has]
/-! The machine of the walk: what is still to be done stands as data. -/
inductive Fr where
  | seq (c : SC)
  | blk (id : Nat)
section
variable {P : Program}
def unw (P : Program) (Q : Exit → St → Prop) : List Fr → Exit → St → Prop
  | [], e, σ => Q e σ
  | .seq c :: fs, e, σ => match e with
    | .normal => aWp P c σ (unw P Q fs)
    | e => unw P Q fs e σ
  | .blk id :: fs, e, σ => match e with
    | .exit id' => if id' = id then unw P Q fs .normal σ else unw P Q fs (.exit id') σ
    | e => unw P Q fs e σ
def W (P : Program) (c : SC) (fs : List Fr) (σ : St) (Q : Exit → St → Prop) : Prop := aWp P c σ (unw P Q fs)
def L (P : Program) (l : List SO) (fs : List Fr) (σ : St) (Q : Exit → St → Prop) : Prop := aL P l σ (unw P Q fs .normal)
def LD (P : Program) (C : Nat → Option Cl) (i : Nat) (l : List SO) (fs : List Fr) (σ : St) (Q : Exit → St → Prop) : Prop := aLD P C i l σ (unw P Q fs .normal)
def U (P : Program) (e : Exit) (fs : List Fr) (σ : St) (Q : Exit → St → Prop) : Prop := unw P Q fs e σ
def BrW (P : Program) (v : LV) (t e : SC) (fs : List Fr) (σ : St) (Q : Exit → St → Prop) : Prop := ∃ b, v = .fv (.val (.bool b)) ∧ (b = true → W P t fs σ Q) ∧ (b = false → W P e fs σ Q)
def BrL (P : Program) (v : LV) (want : Bool) (d : Option Nat) (op : Op) (ty : Nat) (nm : Option Nat) (r : List SO) (fs : List Fr) (σ : St) (Q : Exit → St → Prop) : Prop :=
  (∃ b, v = .fv (.val (.bool b)) ∧ (b = want → L P (⟨d, op, ty, none, nm⟩ :: r) fs σ Q) ∧ (b = (!want) → L P r fs (σ.put d (.tup []) σ.h) Q)) ∨ (v = .tup [] ∧ L P r fs (σ.put d (.tup []) σ.h) Q)
def Vl (P : Program) (o : Option LV) (d : Option Nat) (r : List SO) (fs : List Fr) (σ : St) (Q : Exit → St → Prop) : Prop := ∃ lv, o = some lv ∧ L P r fs (σ.put d lv σ.h) Q
def Kl (P : Program) (d : Option Nat) (r : List SO) (fs : List Fr) (ρ : Nat → LV) (Q : Exit → St → Prop) (lv : LV) (h : AH) : Prop := L P r fs (St.put ⟨ρ, h⟩ d lv h) Q
def Cl' (P : Program) (nm : Option Nat) (f : LV) (args : List LV) (h : AH) (d : Option Nat) (r : List SO) (fs : List Fr) (ρ : Nat → LV) (Q : Exit → St → Prop) : Prop :=
  callE P nm f args h (Kl P d r fs ρ Q) ∨ callA P f args h (Kl P d r fs ρ Q)
def Mp (P : Program) (nm : Option Nat) (op : Op) (ρ : Nat → LV) (h : AH) (d : Option Nat) (r : List SO) (fs : List Fr) (Q : Exit → St → Prop) : Prop := mapE P nm op (evL ρ) h (Kl P d r fs ρ Q)
def Lp (P : Program) (c : SC) (fs : List Fr) (σ : St) (Q : Exit → St → Prop) : Prop := aLoop (aWp P c) σ (unw P Q fs)
def Rg (P : Program) (g : LV) (ps : List Nat) (a b : SC) (fs : List Fr) (ρ : Nat → LV) (h : AH) (Q : Exit → St → Prop) : Prop :=
  ∃ os xs, argOf P (fun _ => false) (h.frzObjs os) g (.sq xs) ∧ aFold (aWp P a) (aWp P b) ρ ps xs (h.frzObjs os) (unw P Q fs)
def Rt (P : Program) (rs : List ResultVar) (G : List LV → AH → Prop) (σ : St) : Prop := ∃ ls, resAll P σ rs = some ls ∧ G ls σ.h
variable (fs : List Fr) (σ : St) (Q : Exit → St → Prop)
theorem walk {σ : St} {Q : Exit → St → Prop} {s : SC} (h : W P s [] σ Q) : aWp P s σ Q := h
@[go_sem] theorem W_skip : W P .skip fs σ Q = U P .normal fs σ Q := rfl
@[go_sem] theorem W_ops (l : List SO) : W P (.ops l) fs σ Q = L P l fs σ Q := rfl
@[go_sem] theorem W_seq (a b : SC) : W P (.seq a b) fs σ Q = W P a (.seq b :: fs) σ Q := by
  show aWp P a σ _ = aWp P a σ _
  congr 1
@[go_sem] theorem W_cond (c : Operand) (t e : SC) : W P (.cond c t e) fs σ Q = BrW P (evL σ.ρ c) t e fs σ Q := rfl
@[go_sem] theorem W_block (id : Nat) (c : SC) : W P (.block id c) fs σ Q = W P c (.blk id :: fs) σ Q := by
  show aWp P c σ _ = aWp P c σ _
  congr 1
@[go_sem] theorem W_exit (id : Nat) : W P (.exit id) fs σ Q = U P (.exit id) fs σ Q := rfl
@[go_sem] theorem W_ret : W P .ret fs σ Q = U P .ret fs σ Q := rfl
@[go_sem] theorem W_loop (c : SC) : W P (.loop c) fs σ Q = Lp P c fs σ Q := rfl
@[go_sem] theorem W_rangeF (g : Operand) (ps : List Nat) (a b : SC) : W P (.rangeF g ps a b) fs σ Q = Rg P (evL σ.ρ g) ps a b fs σ.ρ σ.h Q := rfl
theorem W_opsD {l : List SO} {bad : List (Nat × Nat)} (V : Nat → List Nat) (hV : ∀ p ∈ bad, ∀ o ∈ V p.1, o ∉ V p.2) (h : LD P (clOf bad V) 0 l fs σ Q) : W P (.opsD l bad) fs σ Q := ⟨V, hV, h⟩
@[go_sem] theorem U_nil (e : Exit) : U P e [] σ Q = Q e σ := rfl
@[go_sem] theorem U_seq_normal (c : SC) : U P .normal (.seq c :: fs) σ Q = W P c fs σ Q := rfl
@[go_sem] theorem U_seq_exit (c : SC) (id : Nat) : U P (.exit id) (.seq c :: fs) σ Q = U P (.exit id) fs σ Q := rfl
@[go_sem] theorem U_seq_ret (c : SC) : U P .ret (.seq c :: fs) σ Q = U P .ret fs σ Q := rfl
@[go_sem] theorem U_blk_normal (id : Nat) : U P .normal (.blk id :: fs) σ Q = U P .normal fs σ Q := rfl
@[go_sem] theorem U_blk_ret (id : Nat) : U P .ret (.blk id :: fs) σ Q = U P .ret fs σ Q := rfl
@[go_sem] theorem U_blk_exit (id id' : Nat) : U P (.exit id') (.blk id :: fs) σ Q = if id' = id then U P .normal fs σ Q else U P (.exit id') fs σ Q := rfl
@[go_sem] theorem L_nil : L P [] fs σ Q = U P .normal fs σ Q := rfl
@[go_sem] theorem retG_ret (rs : List ResultVar) (G : List LV → AH → Prop) : retG P rs G .ret σ = Rt P rs G σ := rfl
@[go_sem] theorem retG_normal (rs : List ResultVar) (G : List LV → AH → Prop) : retG P rs G .normal σ = Rt P rs G σ := rfl
@[go_sem] theorem Vl_some (lv : LV) (d : Option Nat) (r : List SO) : Vl P (some lv) d r fs σ Q = L P r fs (σ.put d lv σ.h) Q := by simp [Vl]
@[go_sem] theorem Vl_none (d : Option Nat) (r : List SO) : Vl P none d r fs σ Q = False := by simp [Vl]
@[go_sem] theorem BrW_true (t e : SC) : BrW P (.fv (.val (.bool true))) t e fs σ Q = W P t fs σ Q := by simp [BrW]
@[go_sem] theorem BrW_false (t e : SC) : BrW P (.fv (.val (.bool false))) t e fs σ Q = W P e fs σ Q := by simp [BrW]
theorem brW {b : Bool} {t e : SC} {fs : List Fr} {σ : St} {Q : Exit → St → Prop} (h1 : b = true → W P t fs σ Q) (h2 : b = false → W P e fs σ Q) : BrW P (.fv (.val (.bool b))) t e fs σ Q := ⟨b, rfl, h1, h2⟩
variable (d : Option Nat) (ty : Nat) (nm : Option Nat) (r : List SO)
@[go_sem] theorem L_guard (op : Op) (s : Nat) (want : Bool) : L P (⟨d, op, ty, some (s, want), nm⟩ :: r) fs σ Q = BrL P (σ.ρ s) want d op ty nm r fs σ Q := by
  show aSO P ⟨d, op, ty, some (s, want), nm⟩ σ (fun σ' => aL P r σ' (unw P Q fs .normal)) = _
  unfold aSO BrL
  simp only
  split
  · rename_i b hb
    rw [hb]
    by_cases e : b = want
    · rw [if_pos e]
      subst e
      simp only [eq_iff_iff]
      constructor
      · intro h; exact .inl ⟨b, rfl, fun _ => h, fun h => by cases b <;> simp at h⟩
      · rintro (⟨b', h1, h2, h3⟩ | ⟨h1, h2⟩)
        · simp at h1; subst h1; exact h2 rfl
        · simp at h1
    · rw [if_neg e]
      have e' : b = !want := by cases b <;> cases want <;> simp_all
      simp only [eq_iff_iff]
      constructor
      · intro h; exact .inl ⟨b, rfl, fun h => absurd h e, fun _ => h⟩
      · rintro (⟨b', h1, h2, h3⟩ | ⟨h1, h2⟩)
        · simp at h1; subst h1; exact h3 e'
        · simp at h1
  · rename_i hb
    rw [hb]
    simp only [eq_iff_iff]
    constructor
    · intro h; exact .inr ⟨trivial, h⟩
    · rintro (⟨b', h1, h2, h3⟩ | ⟨h1, h2⟩)
      · simp at h1
      · exact h2
  · rename_i hne hne2
    simp only [eq_iff_iff, false_iff]
    rintro (⟨b, hb, _⟩ | ⟨hb, _⟩)
    · exact absurd hb (hne b)
    · exact absurd hb hne2
@[go_sem] theorem BrL_tt (op : Op) : BrL P (.fv (.val (.bool true))) true d op ty nm r fs σ Q = L P (⟨d, op, ty, none, nm⟩ :: r) fs σ Q := by simp [BrL]
@[go_sem] theorem BrL_ft (op : Op) : BrL P (.fv (.val (.bool false))) true d op ty nm r fs σ Q = L P r fs (σ.put d (.tup []) σ.h) Q := by simp [BrL]
@[go_sem] theorem BrL_tf (op : Op) : BrL P (.fv (.val (.bool true))) false d op ty nm r fs σ Q = L P r fs (σ.put d (.tup []) σ.h) Q := by simp [BrL]
@[go_sem] theorem BrL_ff (op : Op) : BrL P (.fv (.val (.bool false))) false d op ty nm r fs σ Q = L P (⟨d, op, ty, none, nm⟩ :: r) fs σ Q := by simp [BrL]
theorem brL {b want : Bool} {d : Option Nat} {op : Op} {ty : Nat} {nm : Option Nat} {r : List SO} {fs : List Fr} {σ : St} {Q : Exit → St → Prop} (h1 : b = want → L P (⟨d, op, ty, none, nm⟩ :: r) fs σ Q) (h2 : b = (!want) → L P r fs (σ.put d (.tup []) σ.h) Q) :
    BrL P (.fv (.val (.bool b))) want d op ty nm r fs σ Q := .inl ⟨b, rfl, h1, h2⟩
@[go_sem] theorem BrL_no (op : Op) (want : Bool) : BrL P (.tup []) want d op ty nm r fs σ Q = L P r fs (σ.put d (.tup []) σ.h) Q := by simp [BrL]
theorem L_step (op : Op) : L P (⟨d, op, ty, none, nm⟩ :: r) fs σ Q = stepE P nm op ty (evL σ.ρ) σ.h (Kl P d r fs σ.ρ Q) := by
  show stepE P nm op ty (evL σ.ρ) σ.h _ = _
  congr 1
theorem quiet_step {op : Op} (h1 : isMap op = false) (h2 : isEff op = false) (h3 : isCall op = false) : L P (⟨d, op, ty, none, nm⟩ :: r) fs σ Q = Vl P (quietV P op (evL σ.ρ) σ.h) d r fs σ Q := by
  rw [L_step]
  have : stepE P nm op ty (evL σ.ρ) σ.h (Kl P d r fs σ.ρ Q) = ∃ lv, quietV P op (evL σ.ρ) σ.h = some lv ∧ Kl P d r fs σ.ρ Q lv σ.h := by
    unfold stepE
    split
    · simp [isCall] at h3
    · rw [if_neg (by simp [h1]), if_neg (by simp [h2])]
  rw [this]
  rfl
theorem eff_step {op : Op} (h1 : isMap op = false) (h2 : isEff op = true) : L P (⟨d, op, ty, none, nm⟩ :: r) fs σ Q = effV P nm op ty (evL σ.ρ) σ.h (Kl P d r fs σ.ρ Q) := by
  rw [L_step]
  unfold stepE
  split
  · simp [isEff] at h2
  · rw [if_neg (by simp [h1]), if_pos h2]
theorem map_step {op : Op} (h1 : isMap op = true) : L P (⟨d, op, ty, none, nm⟩ :: r) fs σ Q = Mp P nm op σ.ρ σ.h d r fs Q := by
  rw [L_step]
  unfold stepE
  split
  · simp [isMap] at h1
  · rw [if_pos h1]; rfl
@[go_sem] theorem L_move (x : Operand) : L P (⟨d, .move x, ty, none, nm⟩ :: r) fs σ Q = Vl P (quietV P (.move x) (evL σ.ρ) σ.h) d r fs σ Q := quiet_step _ _ _ _ _ _ _ rfl rfl rfl
@[go_sem] theorem L_pick (c a b : Operand) : L P (⟨d, .pick c a b, ty, none, nm⟩ :: r) fs σ Q = Vl P (quietV P (.pick c a b) (evL σ.ρ) σ.h) d r fs σ Q := quiet_step _ _ _ _ _ _ _ rfl rfl rfl
@[go_sem] theorem L_nilCheck (a : Operand) : L P (⟨d, .nilCheck a, ty, none, nm⟩ :: r) fs σ Q = Vl P (quietV P (.nilCheck a) (evL σ.ρ) σ.h) d r fs σ Q := quiet_step _ _ _ _ _ _ _ rfl rfl rfl
@[go_sem] theorem L_load (t : Nat) (a : Operand) : L P (⟨d, .load t a, ty, none, nm⟩ :: r) fs σ Q = Vl P (quietV P (.load t a) (evL σ.ρ) σ.h) d r fs σ Q := quiet_step _ _ _ _ _ _ _ rfl rfl rfl
@[go_sem] theorem L_binOp (op : BinOp) (t t' : Nat) (a b : Operand) : L P (⟨d, .binOp op t a b t', ty, none, nm⟩ :: r) fs σ Q = Vl P (quietV P (.binOp op t a b t') (evL σ.ρ) σ.h) d r fs σ Q := quiet_step _ _ _ _ _ _ _ rfl rfl rfl
@[go_sem] theorem L_unOp (op : UnOp) (t : Nat) (a : Operand) : L P (⟨d, .unOp op t a, ty, none, nm⟩ :: r) fs σ Q = Vl P (quietV P (.unOp op t a) (evL σ.ρ) σ.h) d r fs σ Q := quiet_step _ _ _ _ _ _ _ rfl rfl rfl
@[go_sem] theorem L_convert (s t : Nat) (a : Operand) : L P (⟨d, .convert s t a, ty, none, nm⟩ :: r) fs σ Q = Vl P (quietV P (.convert s t a) (evL σ.ρ) σ.h) d r fs σ Q := quiet_step _ _ _ _ _ _ _ rfl rfl rfl
@[go_sem] theorem L_makeFunc (f : Go.Fn) (a b : Array Operand) : L P (⟨d, .makeFunc f a b, ty, none, nm⟩ :: r) fs σ Q = Vl P (quietV P (.makeFunc f a b) (evL σ.ρ) σ.h) d r fs σ Q := quiet_step _ _ _ _ _ _ _ rfl rfl rfl
@[go_sem] theorem L_fieldAddr (s : Nat) (x : Operand) (f : Nat) : L P (⟨d, .fieldAddr s x f, ty, none, nm⟩ :: r) fs σ Q = Vl P (quietV P (.fieldAddr s x f) (evL σ.ρ) σ.h) d r fs σ Q := quiet_step _ _ _ _ _ _ _ rfl rfl rfl
@[go_sem] theorem L_indexAddr (t : Nat) (x i : Operand) : L P (⟨d, .indexAddr t x i, ty, none, nm⟩ :: r) fs σ Q = Vl P (quietV P (.indexAddr t x i) (evL σ.ρ) σ.h) d r fs σ Q := quiet_step _ _ _ _ _ _ _ rfl rfl rfl
@[go_sem] theorem L_index (t : Nat) (x i : Operand) : L P (⟨d, .index t x i, ty, none, nm⟩ :: r) fs σ Q = Vl P (quietV P (.index t x i) (evL σ.ρ) σ.h) d r fs σ Q := quiet_step _ _ _ _ _ _ _ rfl rfl rfl
@[go_sem] theorem L_build (t : Nat) (ps : Array (Nat × Operand)) : L P (⟨d, .build t ps, ty, none, nm⟩ :: r) fs σ Q = Vl P (quietV P (.build t ps) (evL σ.ρ) σ.h) d r fs σ Q := quiet_step _ _ _ _ _ _ _ rfl rfl rfl
@[go_sem] theorem L_extract (t : Operand) (i : Nat) : L P (⟨d, .extract t i, ty, none, nm⟩ :: r) fs σ Q = Vl P (quietV P (.extract t i) (evL σ.ρ) σ.h) d r fs σ Q := quiet_step _ _ _ _ _ _ _ rfl rfl rfl
@[go_sem] theorem L_slice (t : Nat) (x : Operand) (a b c : Option Operand) : L P (⟨d, .slice t x a b c, ty, none, nm⟩ :: r) fs σ Q = Vl P (quietV P (.slice t x a b c) (evL σ.ρ) σ.h) d r fs σ Q := quiet_step _ _ _ _ _ _ _ rfl rfl rfl
@[go_sem] theorem L_toArr (t : Nat) (x : Operand) : L P (⟨d, .sliceToArrayPointer t x, ty, none, nm⟩ :: r) fs σ Q = Vl P (quietV P (.sliceToArrayPointer t x) (evL σ.ρ) σ.h) d r fs σ Q := quiet_step _ _ _ _ _ _ _ rfl rfl rfl
@[go_sem] theorem L_len (a : Array Operand) (t : Array Nat) : L P (⟨d, .call { callee := .builtin .len, args := a, argTypes := t }, ty, none, nm⟩ :: r) fs σ Q = Vl P (quietV P (.call { callee := .builtin .len, args := a, argTypes := t }) (evL σ.ρ) σ.h) d r fs σ Q := quiet_step _ _ _ _ _ _ _ rfl rfl rfl
@[go_sem] theorem L_min (a : Array Operand) (t : Array Nat) : L P (⟨d, .call { callee := .builtin .min, args := a, argTypes := t }, ty, none, nm⟩ :: r) fs σ Q = Vl P (quietV P (.call { callee := .builtin .min, args := a, argTypes := t }) (evL σ.ρ) σ.h) d r fs σ Q := quiet_step _ _ _ _ _ _ _ rfl rfl rfl
@[go_sem] theorem L_max (a : Array Operand) (t : Array Nat) : L P (⟨d, .call { callee := .builtin .max, args := a, argTypes := t }, ty, none, nm⟩ :: r) fs σ Q = Vl P (quietV P (.call { callee := .builtin .max, args := a, argTypes := t }) (evL σ.ρ) σ.h) d r fs σ Q := quiet_step _ _ _ _ _ _ _ rfl rfl rfl
@[go_sem] theorem L_makeMap (t : Nat) (x : Option Operand) : L P (⟨d, .makeMap t x, ty, none, nm⟩ :: r) fs σ Q = Mp P nm (.makeMap t x) σ.ρ σ.h d r fs Q := map_step _ _ _ _ _ _ _ rfl
@[go_sem] theorem L_lookup (t : Nat) (m x : Operand) (ok : Bool) : L P (⟨d, .lookup t m x ok, ty, none, nm⟩ :: r) fs σ Q = Mp P nm (.lookup t m x ok) σ.ρ σ.h d r fs Q := map_step _ _ _ _ _ _ _ rfl
@[go_sem] theorem L_mapUpdate (t : Nat) (m x v : Operand) : L P (⟨d, .mapUpdate t m x v, ty, none, nm⟩ :: r) fs σ Q = Mp P nm (.mapUpdate t m x v) σ.ρ σ.h d r fs Q := map_step _ _ _ _ _ _ _ rfl
@[go_sem] theorem L_call (f : Operand) (a : Array Operand) (t : Array Nat) : L P (⟨d, .call { callee := .value f, args := a, argTypes := t }, ty, none, nm⟩ :: r) fs σ Q = Cl' P nm (evL σ.ρ f) (a.toList.map (evL σ.ρ)) σ.h d r fs σ.ρ Q := by
  rw [L_step]; rfl
/-! Effects. -/
@[go_sem] theorem L_assign_nil : L P (⟨d, .assign (.const (.slice none 0 0)), ty, none, nm⟩ :: r) fs σ Q =
    (match nm, idx P ty with
    | some n, some (none, e, _, es) => 0 < es ∧ L P r fs (St.put ⟨σ.ρ, σ.h.new n (.list e es false true [])⟩ d (.gl n (σ.h.gen n + 1)) (σ.h.new n (.list e es false true []))) Q
    | _, _ => L P r fs (σ.put d (.fv .nil) σ.h) Q) := by
  rw [eff_step _ _ _ _ _ _ _ rfl rfl]; rfl
theorem L_assign (x : Operand) (hx : x ≠ .const (.slice none 0 0)) : L P (⟨d, .assign x, ty, none, nm⟩ :: r) fs σ Q = L P r fs (σ.put d (evL σ.ρ x) σ.h) Q := by
  rw [eff_step _ _ _ _ _ _ _ rfl rfl]
  unfold effV
  split
  · rename_i e; simp at e; exact absurd e hx
  · rename_i y hy e; simp at e; subst e; rfl
  · rename_i e; simp at e
  · rename_i e; simp at e
  · rename_i e; simp at e
  · rename_i e; simp at e
  · rename_i e; simp at e
  · rename_i e; simp at e
  · rename_i e; simp at e
  · rename_i hh _ _ _ _ _ _ _; exact (hh x rfl).elim
@[go_sem] theorem L_assign_tmp (t : Nat) : L P (⟨d, .assign (.tmp t), ty, none, nm⟩ :: r) fs σ Q = L P r fs (σ.put d (σ.ρ t) σ.h) Q := L_assign _ _ _ _ _ _ _ _ (by simp)
@[go_sem] theorem L_assign_int (k : IntKind) (n : Int) : L P (⟨d, .assign (.const (.int k n)), ty, none, nm⟩ :: r) fs σ Q = L P r fs (σ.put d (.fv (.val (.int k n))) σ.h) Q := L_assign _ _ _ _ _ _ _ _ (by simp)
@[go_sem] theorem L_assign_bool (b : Bool) : L P (⟨d, .assign (.const (.bool b)), ty, none, nm⟩ :: r) fs σ Q = L P r fs (σ.put d (.fv (.val (.bool b))) σ.h) Q := L_assign _ _ _ _ _ _ _ _ (by simp)
@[go_sem] theorem L_assign_map (a : Option Nat) : L P (⟨d, .assign (.const (.map a)), ty, none, nm⟩ :: r) fs σ Q = L P r fs (σ.put d (.fv (.val (.map a))) σ.h) Q := L_assign _ _ _ _ _ _ _ _ (by simp)
@[go_sem] theorem L_assign_nilFunc : L P (⟨d, .assign (.const .nilFunc), ty, none, nm⟩ :: r) fs σ Q = L P r fs (σ.put d (.fv (.val .nilFunc)) σ.h) Q := L_assign _ _ _ _ _ _ _ _ (by simp)
theorem Kl_eq (ρ : Nat → LV) (lv : LV) (h : AH) : Kl P d r fs ρ Q lv h = L P r fs (St.put ⟨ρ, h⟩ d lv h) Q := rfl
@[go_sem] theorem L_box (t : Nat) (x : Operand) (n : Nat) : L P (⟨d, .box t x, ty, none, some n⟩ :: r) fs σ Q =
    (match lay P t with
    | some (_, s) => (evL σ.ρ x).cells.length = s ∧ (evL σ.ρ x).cells.all LV.one = true ∧ L P r fs (St.put ⟨σ.ρ, σ.h.new n (.box (evL σ.ρ x).cells)⟩ d (.ptr n (σ.h.gen n + 1) 0) (σ.h.new n (.box (evL σ.ρ x).cells))) Q
    | _ => False) := by
  rw [eff_step _ _ _ _ _ _ _ rfl rfl]
  simp only [effV]
  cases lay P t with
  | none => rfl
  | some q => rfl
@[go_sem] theorem L_alloc (t n : Nat) : L P (⟨d, .alloc t, ty, none, some n⟩ :: r) fs σ Q =
    (match zeros P t with
    | some zs => L P r fs (St.put ⟨σ.ρ, σ.h.new n (.box (zs.map .fv))⟩ d (.ptr n (σ.h.gen n + 1) 0) (σ.h.new n (.box (zs.map .fv)))) Q
    | _ => False) := by
  rw [eff_step _ _ _ _ _ _ _ rfl rfl]
  simp only [effV]
  cases zeros P t <;> rfl
def Frz (P : Program) (o : Option (List FV × AH)) (e es n : Nat) (d : Option Nat) (r : List SO) (fs : List Fr) (ρ : Nat → LV) (Q : Exit → St → Prop) : Prop :=
  ∃ xs h, o = some (xs, h) ∧ (∀ x ∈ xs, x.cells.length = es ∧ x.cells.all FV.one = true) ∧ L P r fs (St.put ⟨ρ, h.new n (.list e es false false xs)⟩ d (.gl n (h.gen n + 1)) (h.new n (.list e es false false xs))) Q
@[go_sem] theorem Frz_some (xs : List FV) (h : AH) (e es n : Nat) (ρ : Nat → LV) : Frz P (some (xs, h)) e es n d r fs ρ Q =
    ((∀ x ∈ xs, x.cells.length = es ∧ x.cells.all FV.one = true) ∧ L P r fs (St.put ⟨ρ, h.new n (.list e es false false xs)⟩ d (.gl n (h.gen n + 1)) (h.new n (.list e es false false xs))) Q) := by
  simp only [Frz, eq_iff_iff]
  constructor
  · rintro ⟨xs', h', e1, h1, h2⟩; simp at e1; obtain ⟨rfl, rfl⟩ := e1; exact ⟨h1, h2⟩
  · rintro ⟨h1, h2⟩; exact ⟨xs, h, rfl, h1, h2⟩
@[go_sem] theorem L_buildSlice (t k n : Nat) (parts : Array (Nat × Operand)) : L P (⟨d, .buildSlice t k parts, ty, none, some n⟩ :: r) fs σ Q =
    (match idx P t with
    | some (none, e, _, es) => 0 < es ∧ k * es ≤ 16777216 ∧ (zeros P e).isSome = true ∧ parts.toList.map (·.1) = List.range k ∧ Frz P (frzAll σ.h (parts.toList.map fun p => evL σ.ρ p.2)) e es n d r fs σ.ρ Q
    | _ => False) := by
  rw [eff_step _ _ _ _ _ _ _ rfl rfl]
  simp only [effV]
  cases idx P t with
  | none => rfl
  | some q =>
    obtain ⟨a, e, b, es⟩ := q
    cases a <;> rfl
def Sto (P : Program) (n : Nat) (a x : LV) (h : AH) (d : Option Nat) (r : List SO) (fs : List Fr) (ρ : Nat → LV) (Q : Exit → St → Prop) : Prop :=
  match a with
  | .ptr o g off => ∃ cs, h.box o g = some cs ∧ x.cells.length = n ∧ off + n ≤ cs.length ∧ x.cells.all LV.one = true ∧
        L P r fs (St.put ⟨ρ, h.set o (.box (splice cs off x.cells))⟩ d .undef (h.set o (.box (splice cs off x.cells)))) Q
  | .elem o g es i off => ∃ fs' h', frzS h x.cells = some (fs', h') ∧ fs'.length = n ∧ fs'.all FV.one = true ∧
        ∃ e nil xs y, h'.lst o g = some (e, es, false, nil, xs) ∧ xs[i]? = some y ∧ off + n ≤ es ∧
          L P r fs (St.put ⟨ρ, h'.set o (.list e es false nil (xs.set i (y.withCells (splice y.cells off fs'))))⟩ d .undef (h'.set o (.list e es false nil (xs.set i (y.withCells (splice y.cells off fs')))))) Q
  | _ => False
@[go_sem] theorem L_store (t : Nat) (a x : Operand) : L P (⟨d, .store t a x, ty, none, nm⟩ :: r) fs σ Q =
    (match lay P t with | some (_, n) => Sto P n (evL σ.ρ a) (evL σ.ρ x) σ.h d r fs σ.ρ Q | _ => False) := by
  rw [eff_step _ _ _ _ _ _ _ rfl rfl]
  simp only [effV, Sto]
  cases lay P t with
  | none => cases evL σ.ρ a <;> rfl
  | some q => cases evL σ.ρ a <;> rfl
@[go_sem] theorem Sto_ptr (n o g off : Nat) (x : LV) (h : AH) (ρ : Nat → LV) : Sto P n (.ptr o g off) x h d r fs ρ Q = Has (h.box o g) fun cs => x.cells.length = n ∧ off + n ≤ cs.length ∧ x.cells.all LV.one = true ∧
        L P r fs (St.put ⟨ρ, h.set o (.box (splice cs off x.cells))⟩ d .undef (h.set o (.box (splice cs off x.cells)))) Q := rfl
def App (P : Program) (t : Nat) (a x : LV) (h : AH) (nm d : Option Nat) (r : List SO) (fs : List Fr) (ρ : Nat → LV) (Q : Exit → St → Prop) : Prop :=
  effV P nm (.call { callee := .builtin .append, args := #[.tmp 0, .tmp 1], argTypes := #[t, t] }) 0 (fun o => match o with | .tmp 0 => a | _ => x) h (Kl P d r fs ρ Q)
@[go_sem] theorem L_append (a x : Operand) (t : Nat) : L P (⟨d, .call { callee := .builtin .append, args := #[a, x], argTypes := #[t, t] }, ty, none, nm⟩ :: r) fs σ Q =
    App P t (evL σ.ρ a) (evL σ.ρ x) σ.h nm d r fs σ.ρ Q := by
  rw [eff_step _ _ _ _ _ _ _ rfl rfl]
  simp only [effV, App]
def AppZ (P : Program) (t t' : Nat) (a x : LV) (h : AH) (nm d : Option Nat) (r : List SO) (fs : List Fr) (ρ : Nat → LV) (Q : Exit → St → Prop) : Prop := appZ P nm t t' a x h (Kl P d r fs ρ Q)
theorem L_appendz (a x : Operand) (t t' : Nat) (htt : t ≠ t') : L P (⟨d, .call { callee := .builtin .append, args := #[a, x], argTypes := #[t, t'] }, ty, none, nm⟩ :: r) fs σ Q =
    AppZ P t t' (evL σ.ρ a) (evL σ.ρ x) σ.h nm d r fs σ.ρ Q := by
  rw [eff_step _ _ _ _ _ _ _ rfl rfl]
  simp only [effV, AppZ]
  rw [if_pos htt]
def Cpy (P : Program) (t : Nat) (a x : LV) (h : AH) (nm d : Option Nat) (r : List SO) (fs : List Fr) (ρ : Nat → LV) (Q : Exit → St → Prop) : Prop :=
  effV P nm (.call { callee := .builtin .copy, args := #[.tmp 0, .tmp 1], argTypes := #[t, t] }) 0 (fun o => match o with | .tmp 0 => a | _ => x) h (Kl P d r fs ρ Q)
end
section
variable {P : Program}
/-! Values. -/
@[go_sem] theorem ev_tmp (ρ : Nat → LV) (t : Nat) : evL ρ (.tmp t) = ρ t := rfl
@[go_sem] theorem ev_func (ρ : Nat → LV) (f : Nat) : evL ρ (.func f) = .clos f [] := rfl
@[go_sem] theorem ev_int (ρ : Nat → LV) (k : IntKind) (n : Int) : evL ρ (.const (.int k n)) = .fv (.val (.int k n)) := rfl
@[go_sem] theorem ev_bool (ρ : Nat → LV) (b : Bool) : evL ρ (.const (.bool b)) = .fv (.val (.bool b)) := rfl
@[go_sem] theorem ev_nil (ρ : Nat → LV) (n c : Nat) : evL ρ (.const (.slice none n c)) = .fv (.val (.slice none n c)) := rfl
@[go_sem] theorem cells_fvint (k : IntKind) (n : Int) : (LV.fv (.val (.int k n))).cells = [.fv (.val (.int k n))] := rfl
@[go_sem] theorem cells_fvbool (b : Bool) : (LV.fv (.val (.bool b))).cells = [.fv (.val (.bool b))] := rfl
@[go_sem] theorem cells_fvslice (a : Option Addr) (n c : Nat) : (LV.fv (.val (.slice a n c))).cells = [.fv (.val (.slice a n c))] := rfl
@[go_sem] theorem cells_fvlist (f : Bool) (xs : List FV) : (LV.fv (.list f xs)).cells = [.fv (.list f xs)] := rfl
@[go_sem] theorem cells_fvmap (xs : List (FV × FV)) : (LV.fv (.map xs)).cells = [.fv (.map xs)] := rfl
@[go_sem] theorem cells_fvagg (xs : List FV) : (LV.fv (.agg xs)).cells = xs.map .fv := rfl
@[go_sem] theorem cells_agg (xs : List LV) : (LV.agg xs).cells = xs := rfl
@[go_sem] theorem cells_gl (o g : Nat) : (LV.gl o g).cells = [.gl o g] := rfl
@[go_sem] theorem cells_it (o g : Nat) : (LV.it o g).cells = [.it o g] := rfl
@[go_sem] theorem cells_lclos (f : Nat) (c : List LV) : (LV.clos f c).cells = [.clos f c] := rfl
@[go_sem] theorem fcells_val (v : Value) : (FV.val v).cells = [.val v] := rfl
@[go_sem] theorem fcells_agg (xs : List FV) : (FV.agg xs).cells = xs := rfl
@[go_sem] theorem fcells_list (f : Bool) (xs : List FV) : (FV.list f xs).cells = [.list f xs] := rfl
@[go_sem] theorem one_fvint (k : IntKind) (n : Int) : (LV.fv (.val (.int k n))).one = true := rfl
@[go_sem] theorem one_fvbool (b : Bool) : (LV.fv (.val (.bool b))).one = true := rfl
@[go_sem] theorem one_fvslice (a : Option Addr) (n c : Nat) : (LV.fv (.val (.slice a n c))).one = true := rfl
@[go_sem] theorem one_fvmapn (a : Option Nat) : (LV.fv (.val (.map a))).one = true := rfl
@[go_sem] theorem one_fvlist (f : Bool) (xs : List FV) : (LV.fv (.list f xs)).one = true := rfl
@[go_sem] theorem one_fvmap (xs : List (FV × FV)) : (LV.fv (.map xs)).one = true := rfl
@[go_sem] theorem one_gl (o g : Nat) : (LV.gl o g).one = true := rfl
@[go_sem] theorem one_it (o g : Nat) : (LV.it o g).one = true := rfl
@[go_sem] theorem one_lclos (f : Nat) (c : List LV) : (LV.clos f c).one = true := rfl
@[go_sem] theorem fone_int (k : IntKind) (n : Int) : (FV.val (.int k n)).one = true := rfl
@[go_sem] theorem fone_slice (a : Option Addr) (n c : Nat) : (FV.val (.slice a n c)).one = true := rfl
@[go_sem] theorem fone_list (f : Bool) (xs : List FV) : (FV.list f xs).one = true := rfl
end
end Abs

namespace Abs
open Go
section
variable {P : Program}
def aLoopN (body : St → (Exit → St → Prop) → Prop) : Nat → St → (Exit → St → Prop) → Prop
  | 0, _, _ => False
  | n + 1, σ, Q => body σ fun e σ' => match e with
    | .normal => aLoopN body n σ' Q
    | e => Q e σ'
theorem aLoop_of_N {c : SC} {n : Nat} {σ : St} {Q : Exit → St → Prop} (h : aLoopN (aWp P c) n σ Q) : aLoop (aWp P c) σ Q := by
  refine ⟨fun m σ => aLoopN (aWp P c) m σ Q, n, h, fun m σ hI => ⟨σ, View.refl σ, ?_⟩⟩
  cases m with
  | zero => exact hI.elim
  | succ m =>
    refine aWp_mono c (fun e σ' hq => ?_) hI
    cases e <;> first | exact ⟨m, Nat.lt_succ_self m, hq⟩ | exact hq
def LN (P : Program) (c : SC) (n : Nat) (fs : List Fr) (σ : St) (Q : Exit → St → Prop) : Prop := aLoopN (aWp P c) n σ (unw P Q fs)
def LpQ (P : Program) (c : SC) (n : Nat) (fs : List Fr) (Q : Exit → St → Prop) (e : Exit) (σ : St) : Prop :=
  match e with
  | .normal => LN P c n fs σ Q
  | e => U P e fs σ Q
@[go_sem] theorem LpQ_normal (c : SC) (n : Nat) (fs : List Fr) (Q : Exit → St → Prop) (σ : St) : LpQ P c n fs Q .normal σ = LN P c n fs σ Q := rfl
@[go_sem] theorem LpQ_exit (c : SC) (n : Nat) (fs : List Fr) (Q : Exit → St → Prop) (σ : St) (id : Nat) : LpQ P c n fs Q (.exit id) σ = U P (.exit id) fs σ Q := rfl
theorem LN_succ (c : SC) (n : Nat) (fs : List Fr) (Q : Exit → St → Prop) (σ : St) : LN P c (n + 1) fs σ Q = W P c [] σ (LpQ P c n fs Q) := by
  show aWp P c σ _ = aWp P c σ _
  congr 1
theorem lp {c : SC} {n : Nat} {fs : List Fr} {Q : Exit → St → Prop} {σ : St} (h : LN P c n fs σ Q) : Lp P c fs σ Q := aLoop_of_N h
theorem lpStep {c : SC} {n : Nat} {fs : List Fr} {Q : Exit → St → Prop} {σ : St} (h : W P c [] σ (LpQ P c n fs Q)) : LN P c (n + 1) fs σ Q := (LN_succ c n fs Q σ) ▸ h
def LpI (P : Program) (J : St → Prop) (fs : List Fr) (Q : Exit → St → Prop) (e : Exit) (σ : St) : Prop :=
  match e with
  | .normal => J σ
  | e => U P e fs σ Q
@[go_sem] theorem LpI_normal (J : St → Prop) (fs : List Fr) (Q : Exit → St → Prop) (σ : St) : LpI P J fs Q .normal σ = J σ := rfl
@[go_sem] theorem LpI_exit (J : St → Prop) (fs : List Fr) (Q : Exit → St → Prop) (σ : St) (id : Nat) : LpI P J fs Q (.exit id) σ = U P (.exit id) fs σ Q := rfl
@[go_sem] theorem LpI_ret (J : St → Prop) (fs : List Fr) (Q : Exit → St → Prop) (σ : St) : LpI P J fs Q .ret σ = U P .ret fs σ Q := rfl
def Again {α : Type} (m : α → Nat) (I : α → St → Prop) (a : α) (σ : St) : Prop := ∃ a', m a' < m a ∧ I a' σ
theorem lpInd {c : SC} {fs : List Fr} {Q : Exit → St → Prop} {σ : St} {α : Type} (m : α → Nat) (I : α → St → Prop) (a : α) (h : I a σ)
    (step : ∀ a σ, I a σ → W P c [] σ (LpI P (Again m I a) fs Q)) : Lp P c fs σ Q := by
  refine ⟨fun k σ => ∃ a, m a = k ∧ I a σ, m a, ⟨a, rfl, h⟩, ?_⟩
  rintro k σ ⟨a, rfl, hI⟩
  refine ⟨σ, View.refl σ, ?_⟩
  refine aWp_mono c (fun e σ' hq => ?_) (show aWp P c σ (LpI P (Again m I a) fs Q) from step a σ hI)
  cases e <;> first | (obtain ⟨a', h1, h2⟩ := hq; exact ⟨m a', h1, a', rfl, h2⟩) | exact hq
def RtO (o : Option (List LV)) (G : List LV → AH → Prop) (h : AH) : Prop := ∃ ls, o = some ls ∧ G ls h
@[go_sem] theorem Rt_eq (rs : List ResultVar) (G : List LV → AH → Prop) (σ : St) : Rt P rs G σ = RtO (resAll P σ rs) G σ.h := rfl
@[go_sem] theorem RtO_some (ls : List LV) (G : List LV → AH → Prop) (h : AH) : RtO (some ls) G h = G ls h := by simp [RtO]
@[go_sem] theorem resAll_nil (σ : St) : resAll P σ [] = some [] := rfl
@[go_sem] theorem resAll_tmp (σ : St) (t : Nat) (rs : List ResultVar) : resAll P σ (.tmp t :: rs) = (resAll P σ rs).map (σ.ρ t :: ·) := rfl
@[go_sem] theorem resAll_cell (σ : St) (a t : Nat) (rs : List ResultVar) : resAll P σ (.cell a t :: rs) = ((lay P t).bind fun l => loadA σ.h l.1 l.2 (σ.ρ a)).bind fun l => (resAll P σ rs).map (l :: ·) := rfl
@[go_sem] theorem loadA_fptr (h : AH) (agg : Bool) (n : Nat) (cs : List FV) : loadA h agg n (.fv (.ptr cs)) = partF agg n cs := rfl
@[go_sem] theorem loadA_ptr (h : AH) (agg : Bool) (n o g off : Nat) : loadA h agg n (.ptr o g off) = (h.box o g).bind fun cs => partL agg n (cs.drop off) := rfl
@[go_sem] theorem loadA_elem (h : AH) (agg : Bool) (n o g es i off : Nat) : loadA h agg n (.elem o g es i off) = (h.lst o g).bind fun l => if l.2.1 = es then (l.2.2.2.2[i]?).bind fun x => partF agg n (x.cells.drop off) else none := rfl
@[go_sem] theorem partF_one (n : Nat) (c : FV) (cs : List FV) : partF false n (c :: cs) = some (.fv c) := rfl
@[go_sem] theorem partF_agg (n : Nat) (c : FV) (cs : List FV) : partF true n (c :: cs) = if n ≤ (c :: cs).length then some (.fv (.agg ((c :: cs).take n))) else none := rfl
@[go_sem] theorem partL_one (n : Nat) (c : LV) (cs : List LV) : partL false n (c :: cs) = some c := rfl
@[go_sem] theorem partL_agg (n : Nat) (c : LV) (cs : List LV) : partL true n (c :: cs) = if n ≤ (c :: cs).length then some (mkAgg ((c :: cs).take n)) else none := rfl
theorem ret_fx {l : LV} {x : FV} {h : AH} (own : Nat → Bool) (e : peek own h 6 l = some x) : retF (.one (.fx x)) [l] h := ⟨own, .inl e⟩
theorem ret_fv {x : FV} {h : AH} : retF (.one (.fx x)) [.fv x] h := ⟨fun _ => true, .inl rfl⟩
theorem ret_eq {x y : FV} {h : AH} (e : y = x) : retF (.one (.fx x)) [.fv y] h := e ▸ ret_fv
theorem callF {nm : Option Nat} {f : Nat} {caps args : List LV} {h : AH} {d : Option Nat} {r : List SO} {fs : List Fr} {ρ : Nat → LV} {Q : Exit → St → Prop} (os : List Nat) (own : Bool) (as : List Arg) (cs : List FV) {rv : RV}
    (hF : Fn P f (as ++ cs.map .fo) rv) (ha : argsOf P (fun _ => own) (h.frzObjs os) args as) (hc : mapO (peek (fun _ => own) (h.frzObjs os) 6) caps = some cs) (ho : own = false ∨ rv.shallow = true)
    (hk : L P r fs (St.put ⟨ρ, (impR (h.frzObjs os) nm rv).2⟩ d (impR (h.frzObjs os) nm rv).1 (impR (h.frzObjs os) nm rv).2) Q) : Cl' P nm (.clos f caps) args h d r fs ρ Q :=
  .inl ⟨os, own, as, cs, rv, ha, hc, hF, ho, hk⟩
theorem callG {nm : Option Nat} {g : List FV → Option FV} {args : List LV} {h : AH} {d : Option Nat} {r : List SO} {fs : List Fr} {ρ : Nat → LV} {Q : Exit → St → Prop} (own : Bool) (xs : List FV) {y : FV}
    (ha : mapO (peek (fun _ => own) h 6) args = some xs) (hg : g xs = some y) (ho : own = false ∨ y.shallow = true)
    (hk : L P r fs (St.put ⟨ρ, h⟩ d (.fv y) h) Q) : Cl' P nm (.fn g) args h d r fs ρ Q :=
  .inl ⟨[], own, xs, y, ha, hg, ho, hk⟩
theorem callI {nm : Option Nat} {f : Nat} {caps args : List LV} {h : AH} {d : Option Nat} {r : List SO} {fs : List Fr} {ρ : Nat → LV} {Q : Exit → St → Prop} {K : LV → AH → Prop}
    (hA : AC P f (args ++ caps) h K) (he : ∃ lv h', K lv h') (hk : ∀ lv h', K lv h' → Kl P d r fs ρ Q lv h') : Cl' P nm (.clos f caps) args h d r fs ρ Q :=
  .inr ⟨hA.mono hk, let ⟨lv, h', k⟩ := he; ⟨lv, h', hk _ _ k⟩⟩
end
section
variable {P : Program} {fs : List Fr} {Q : Exit → St → Prop} {d nm : Option Nat} {r : List SO}
theorem sto_elem {n o g es i off : Nat} {x : LV} {h h' : AH} {ρ : Nat → LV} {fs' : List FV} {e : Nat} {nil : Bool} {xs : List FV} {y : FV} (h1 : frzS h x.cells = some (fs', h')) (h2 : fs'.length = n) (h3 : fs'.all FV.one = true)
    (h4 : h'.lst o g = some (e, es, false, nil, xs)) (h5 : xs[i]? = some y) (h6 : off + n ≤ es)
    (hk : L P r fs (St.put ⟨ρ, h'.set o (.list e es false nil (xs.set i (y.withCells (splice y.cells off fs'))))⟩ d .undef (h'.set o (.list e es false nil (xs.set i (y.withCells (splice y.cells off fs')))))) Q) :
    Sto P n (.elem o g es i off) x h d r fs ρ Q := ⟨fs', h', h1, h2, h3, e, nil, xs, y, h4, h5, h6, hk⟩
theorem app_gl {t e es o g : Nat} {agg nil : Bool} {xs ys : List FV} {y : LV} {h : AH} {ρ : Nat → LV} (h1 : h.lst o g = some (e, es, false, nil, xs)) (h2 : idx P t = some (none, e, agg, es)) (h3 : elemsOf h y = some ys) (h4 : ∀ x ∈ ys, x.cells.length = es)
    (h5 : (zeros P e).isSome = true) (h6 : (xs.length + ys.length) * P.bytesOf e ≤ 140737488355328) (h7 : xs.length + ys.length ≤ maxLen) (hy : y ≠ .fv .nil)
    (hk : L P r fs (St.put ⟨ρ, h.renew o (g + 1) (.list e es false (nil && ys.isEmpty) (xs ++ ys))⟩ d (.gl o (g + 1)) (h.renew o (g + 1) (.list e es false (nil && ys.isEmpty) (xs ++ ys)))) Q) :
    App P t (.gl o g) y h nm d r fs ρ Q := by
  unfold App effV
  simp only [evL, ne_eq, not_true, if_false]
  exact ⟨e, es, nil, xs, ys, h1, ⟨agg, h2⟩, h3, h4, h5, h6, h7, hk⟩
theorem appz_nil {t t' e es n : Nat} {kn k : IntKind} {agg : Bool} {m : Int} {zs : List FV} {h : AH} {ρ : Nat → LV} (h1 : P.underlying t' = some (.int kn)) (h2 : idx P t = some (none, e, agg, es)) (h0 : 0 < es) (hm : 0 < m)
    (h3 : zeros P e = some zs) (ha : agg = true ∨ es = 1) (h6 : m * P.bytesOf e ≤ 281474976710656) (h7 : m.toNat ≤ maxLen)
    (hk : L P r fs (St.put ⟨ρ, h.new n (.list e es false false (List.replicate m.toNat (FV.ofCells agg zs)))⟩ d (.gl n (h.gen n + 1)) (h.new n (.list e es false false (List.replicate m.toNat (FV.ofCells agg zs))))) Q) :
    AppZ P t t' (.fv .nil) (.fv (.val (.int k m))) h (some n) d r fs ρ Q :=
  ⟨kn, e, es, agg, m, zs, n, h1, rfl, rfl, hm, h2, rfl, h0, h6, h7, h3, ha, hk⟩
theorem app_nil {t e es n : Nat} {agg : Bool} {ys : List FV} {y : LV} {h : AH} {ρ : Nat → LV} (h2 : idx P t = some (none, e, agg, es)) (h0 : 0 < es) (h3 : elemsOf h y = some ys) (h4 : ∀ x ∈ ys, x.cells.length = es)
    (h5 : (zeros P e).isSome = true) (h6 : ys.length * P.bytesOf e ≤ 140737488355328) (h7 : ys.length ≤ maxLen)
    (hk : L P r fs (St.put ⟨ρ, h.new n (.list e es false ys.isEmpty ys)⟩ d (.gl n (h.gen n + 1)) (h.new n (.list e es false ys.isEmpty ys))) Q) :
    App P t (.fv .nil) y h (some n) d r fs ρ Q := by
  unfold App effV
  simp only [evL, ne_eq, not_true, if_false]
  exact ⟨e, es, n, ys, ⟨agg, h2⟩, rfl, h0, h3, h4, h5, h6, h7, hk⟩
theorem app_full {t e es n : Nat} {agg : Bool} {xs ys : List FV} {y : LV} {h : AH} {ρ : Nat → LV} (h2 : idx P t = some (none, e, agg, es)) (h0 : 0 < es) (h3 : elemsOf h y = some ys) (hne : ys ≠ []) (hx : ∀ x ∈ xs, x.cells.length = es) (h4 : ∀ x ∈ ys, x.cells.length = es)
    (h5 : (zeros P e).isSome = true) (h6 : (xs.length + ys.length) * P.bytesOf e ≤ 140737488355328) (h7 : xs.length + ys.length ≤ maxLen)
    (hk : L P r fs (St.put ⟨ρ, h.new n (.list e es false false (xs ++ ys))⟩ d (.gl n (h.gen n + 1)) (h.new n (.list e es false false (xs ++ ys)))) Q) :
    App P t (.fv (.list true xs)) y h (some n) d r fs ρ Q := by
  unfold App effV
  simp only [evL, ne_eq, not_true, if_false]
  exact ⟨e, es, n, ys, ⟨agg, h2⟩, rfl, h0, h3, hne, hx, h4, h5, h6, h7, hk⟩
theorem app_none {t e es o g : Nat} {agg nil : Bool} {xs : List FV} {h : AH} {ρ : Nat → LV} (h1 : h.lst o g = some (e, es, false, nil, xs)) (h2 : idx P t = some (none, e, agg, es))
    (hk : L P r fs (St.put ⟨ρ, h⟩ d (.gl o g) h) Q) : App P t (.gl o g) (.fv .nil) h nm d r fs ρ Q := by
  unfold App effV
  simp only [evL, ne_eq, not_true, if_false]
  exact ⟨e, es, nil, xs, h1, ⟨agg, h2⟩, hk⟩
end
section
variable {P : Program} {fs : List Fr} {Q : Exit → St → Prop} {d nm : Option Nat} {r : List SO}
end
@[go_sem] theorem splice_nil {α : Type} (cs : List α) : splice cs 0 [] = cs := by simp [splice]
@[go_sem] theorem splice_zero {α : Type} (a v : α) (cs vs : List α) : splice (a :: cs) 0 (v :: vs) = v :: splice cs 0 vs := by
  simp [splice, Nat.add_comm]
@[go_sem] theorem splice_succ {α : Type} (a : α) (cs vs : List α) (n : Nat) : splice (a :: cs) (n + 1) vs = a :: splice cs n vs := by
  simp only [splice, List.take_succ_cons, List.cons_append]
  rw [show n + 1 + vs.length = (n + vs.length) + 1 by omega, List.drop_succ_cons]
def lsOf : FV → Option (List FV)
  | .list _ xs => some xs
  | .val (.slice none 0 0) => some []
  | _ => none
@[go_sem] theorem lenV_fl (h : AH) (f : Bool) (xs : List FV) : lenV h (.fv (.list f xs)) = some xs.length := rfl
@[go_sem] theorem lenV_nl (h : AH) (n c : Nat) : lenV h (.fv (.val (.slice none n c))) = some n := rfl
@[go_sem] theorem lenV_gl (h : AH) (o g : Nat) : lenV h (.gl o g) = (h.lst o g).map (·.2.2.2.2.length) := rfl
@[go_sem] theorem elemsOf_fl (h : AH) (f : Bool) (xs : List FV) : elemsOf h (.fv (.list f xs)) = some xs := rfl
@[go_sem] theorem elemsOf_gl (h : AH) (o g : Nat) : elemsOf h (.gl o g) = (h.lst o g).map (·.2.2.2.2) := rfl
theorem elemsOf_ls {s : FV} {xs : List FV} (h : lsOf s = some xs) (H : AH) : elemsOf H (.fv s) = some xs := by
  unfold lsOf at h
  split at h
  · simp at h; subst h; rfl
  · simp at h; subst h; rfl
  · simp at h
theorem ls_cases {s : FV} {xs : List FV} (h : lsOf s = some xs) : (∃ f, s = .list f xs) ∨ (s = .nil ∧ xs = []) := by
  unfold lsOf at h
  split at h
  · simp at h; subst h; exact .inl ⟨_, rfl⟩
  · simp at h; subst h; exact .inr ⟨rfl, rfl⟩
  · simp at h
theorem lenV_ls {s : FV} {xs : List FV} (h : lsOf s = some xs) (H : AH) : lenV H (.fv s) = some xs.length := by
  unfold lsOf at h
  split at h
  · simp at h; subst h; rfl
  · simp at h; subst h; rfl
  · simp at h
section
variable {P : Program}
@[go_sem] theorem ix_ptr (h : AH) (t o g off : Nat) (i : Int) : indexA P h t (.ptr o g off) i = (idx P t).bind fun q => match q.1 with | some n => if 0 ≤ i ∧ i < n then some (.ptr o g (off + i.toNat * q.2.2.2)) else none | none => none := by
  unfold indexA
  congr 1
  funext q
  obtain ⟨a, b, c, d⟩ := q
  cases a <;> rfl
@[go_sem] theorem ix_fptr (h : AH) (t : Nat) (cs : List FV) (i : Int) : indexA P h t (.fv (.ptr cs)) i = (idx P t).bind fun q => match q.1 with | some n => if 0 ≤ i ∧ i < n then some (.fv (.ptr (cs.drop (i.toNat * q.2.2.2)))) else none | none => none := by
  unfold indexA
  congr 1
  funext q
  obtain ⟨a, b, c, d⟩ := q
  cases a <;> rfl
@[go_sem] theorem ix_list (h : AH) (t : Nat) (f : Bool) (xs : List FV) (i : Int) : indexA P h t (.fv (.list f xs)) i = (idx P t).bind fun q => match q.1 with | some _ => none | none => if 0 ≤ i then (xs[i.toNat]?).bind fun x => if x.cells.length = q.2.2.2 then some (.fv (.ptr x.cells)) else none else none := by
  unfold indexA
  congr 1
  funext q
  obtain ⟨a, b, c, d⟩ := q
  cases a <;> rfl
@[go_sem] theorem ix_gl (h : AH) (t o g : Nat) (i : Int) : indexA P h t (.gl o g) i = (idx P t).bind fun q => match q.1 with | some _ => none | none => (h.lst o g).bind fun l => if 0 ≤ i ∧ i < l.2.2.2.2.length ∧ l.2.1 = q.2.2.2 then some (.elem o g q.2.2.2 i.toNat 0) else none := by
  unfold indexA
  congr 1
  funext q
  obtain ⟨a, b, c, d⟩ := q
  cases a <;> rfl
def Elem (agg : Bool) (n : Nat) (x : FV) : Prop := x.cells.length = n ∧ partF agg n x.cells = some (.fv x)
theorem index_ls {s : FV} {xs : List FV} (h : lsOf s = some xs) {H : AH} {t e n : Nat} {agg : Bool} (ht : idx P t = some (none, e, agg, n)) {k : Nat} {x : FV} (hk : xs[k]? = some x) (hx : x.cells.length = n) :
    indexA P H t (.fv s) (k : Int) = some (.fv (.ptr x.cells)) := by
  unfold lsOf at h
  split at h
  · simp at h; subst h
    simp [indexA, ht, hk, hx]
  · simp at h; subst h; simp at hk
  · simp at h
end
theorem elem_int (n : Int) (k : IntKind) : Elem false 1 (.val (.int k n)) := ⟨rfl, rfl⟩
theorem wr (n : Int) (h1 : -9223372036854775808 ≤ n) (h2 : n ≤ 9223372036854775807) : IntKind.i64.wrap n = n := by
  unfold IntKind.wrap
  simp [IntKind.signed, IntKind.bits]
  omega
theorem drop_tail {α : Type} {xs : List α} {k : Nat} {x : α} {ys : List α} (h : xs.drop k = x :: ys) : xs.drop (k + 1) = ys ∧ xs[k]? = some x ∧ k < xs.length ∧ x ∈ xs := by
  have h2 : xs[k]? = some x := by have := congrArg (·[0]?) h; simpa using this
  refine ⟨?_, h2, ?_, List.mem_of_getElem? h2⟩
  · have := congrArg List.tail h; simpa using this
  · have := congrArg List.length h; simp at this; omega
theorem drop_end {α : Type} {xs : List α} {k : Nat} (h : xs.drop k = []) : xs.length ≤ k := by simpa using h
def idxI (p : FV → Bool) : List FV → Int → Int
  | [], _ => -1
  | x :: xs, k => if p x then k else idxI p xs (k + 1)
theorem idxI_any (p : FV → Bool) (xs : List FV) (k : Int) (hk : 0 ≤ k) : decide (idxI p xs k ≥ 0) = xs.any p := by
  induction xs generalizing k with
  | nil => simp [idxI]
  | cons x xs ih =>
    simp only [idxI, List.any_cons]
    by_cases h : p x = true
    · simpa [h] using hk
    · simpa [h] using ih (k + 1) (by omega)
open Classical in
/-- A function of one argument, known at the elements of a list. -/
noncomputable def gOf (S : List FV) (p : FV → Bool) : List FV → Option FV
  | [x] => if x ∈ S then some (.bool (p x)) else none
  | _ => none
theorem gOf_mem {S : List FV} {p : FV → Bool} {x : FV} (h : x ∈ S) : gOf S p [x] = some (.bool (p x)) := by simp [gOf, h]
section
variable {P : Program}
theorem argFn {own : Nat → Bool} {h : AH} {lv : LV} {f : Nat} {caps : List FV} {S : List FV} {p : FV → Bool} (he : Enters P f) (hp : peek own h 6 lv = some (.clos f caps))
    (hfn : ∀ x ∈ S, Fn P f (.fo x :: caps.map .fo) (.one (.fx (.bool (p x))))) : argOf P own h lv (.fn (gOf S p)) := by
  refine .inr ⟨f, caps, hp, he, fun xs r hg => ?_⟩
  unfold gOf at hg
  split at hg
  · rename_i x
    split at hg
    · rename_i hm
      simp at hg; subst hg
      exact hfn x hm
    · simp at hg
  · simp at hg
theorem callC {f0 n : Nat} {agg : Bool} (tC : ∀ (s : FV) (xs : List FV) (g : List FV → Option FV) (p : FV → Bool), lsOf s = some xs → (∀ x ∈ xs, Elem agg n x) → (∀ x ∈ xs, g [x] = some (.bool (p x))) → xs.length ≤ 9223372036854775807 →
      Fn P f0 [.fo s, .fn g] (.one (.fx (.bool (xs.any p))))) (own : Bool) {s : FV} {xs : List FV} {f : Nat} {caps : List FV} (p : FV → Bool)
    {nm : Option Nat} {lvS lvF : LV} {h : AH} {d : Option Nat} {r : List SO} {fs : List Fr} {ρ : Nat → LV} {Q : Exit → St → Prop}
    (h1 : peek (fun _ => own) h 6 lvS = some s) (h2 : lsOf s = some xs) (h3 : ∀ x ∈ xs, Elem agg n x) (hl : xs.length ≤ 9223372036854775807) (he : Enters P f) (h4 : peek (fun _ => own) h 6 lvF = some (.clos f caps))
    (h5 : ∀ x ∈ xs, Fn P f (.fo x :: caps.map .fo) (.one (.fx (.bool (p x))))) (hk : L P r fs (St.put ⟨ρ, h⟩ d (.fv (.bool (xs.any p))) h) Q) :
    Cl' P nm (.clos f0 []) [lvS, lvF] h d r fs ρ Q :=
  callF [] own [.fo s, .fn (gOf xs p)] [] (tC s xs _ p h2 h3 (fun x hx => gOf_mem hx) hl) ⟨h1, argFn he h4 h5, trivial⟩ rfl (.inr rfl) hk
end
theorem map_elem {α : Type} {f : α → FV} {n : Nat} {agg : Bool} (l : List α) (h : ∀ a, Elem agg n (f a)) : ∀ x ∈ l.map f, Elem agg n x := by
  intro x hx
  obtain ⟨a, _, rfl⟩ := List.mem_map.1 hx
  exact h a
def ints (l : List Int) : List FV := l.map .int
theorem ints_elem (l : List Int) : ∀ x ∈ ints l, Elem false 1 x := by
  intro x hx
  obtain ⟨n, _, rfl⟩ := List.mem_map.1 hx
  exact elem_int n _
def FV.toI : FV → Int
  | .val (.int _ n) => n
  | _ => 0
theorem ints_any (l : List Int) (p : Int → Bool) : (ints l).any (fun x => p x.toI) = l.any p := by
  induction l with
  | nil => rfl
  | cons x l ih => simp only [ints, List.map_cons, List.any_cons] at ih ⊢; rw [ih]; rfl
theorem ints_length (l : List Int) : (ints l).length = l.length := by simp [ints]
attribute [go_sem] Nat.zero_add Nat.add_zero Nat.sub_zero quietV binV mkAgg unFV Arg.m MArg.lv List.map List.head? List.take List.drop List.length List.length_cons List.length_nil Option.map_some Option.map_none Option.bind_some Option.bind_none intOf impR impC impS AH.frzObjs AH.frzObj Option.getD_some Option.isSome_none Option.isNone_some Option.isNone_none Option.elim_none Option.elim_some Bool.false_eq_true and_false false_and List.headD_cons List.set_cons_zero List.set_cons_succ Int.sub_zero Int.mul_zero Int.zero_mul Int.zero_add Int.add_zero ne_eq not_false_eq_true not_true_eq_false bne_self_eq_false Int.natCast_one Int.natCast_zero Int.cast_ofNat_Int wr Op.operands Call.operands Array.toList_append List.toList_toArray List.flatMap_cons List.flatMap_nil List.contains_cons List.contains_nil Bool.or_false Bool.or_self Bool.false_or Bool.or_true Bool.true_or List.forall_mem_cons List.not_mem_nil false_implies implies_true Option.isSome_some List.range_zero eq_self frzAll frz frzS frz1 fillL List.getElem?_toArray List.getElem?_cons_zero List.getElem?_cons_succ List.all_cons List.all_nil Bool.and_true Bool.false_and Bool.true_and Bool.and_self List.size_toArray Array.toList List.append_nil List.nil_append List.cons_append and_true true_and and_self Bool.not_true Bool.not_false decide_true decide_false
end Abs

namespace Abs
open Go
section
variable {P : Program}
/-! The walk of a drawn region. -/
def DQ (P : Program) (bad : List (Nat × Nat)) (V : Nat → List Nat) (i : Nat) (r : List SO) (fs : List Fr) (Q : Exit → St → Prop) (e : Exit) (σ : St) : Prop :=
  match e with
  | .normal => LD P (clOf bad V) i r fs σ Q
  | _ => False
def DQW (W : List Nat) (h0 : AH) (P : Program) (bad : List (Nat × Nat)) (V : Nat → List Nat) (i : Nat) (r : List SO) (fs : List Fr) (Q : Exit → St → Prop) (e : Exit) (σ : St) : Prop :=
  match e with
  | .normal => Agree W h0 σ.h ∧ LD P (clOf bad V) i r fs σ Q
  | _ => False
@[go_sem] theorem DQ_normal (bad : List (Nat × Nat)) (V : Nat → List Nat) (i : Nat) (r : List SO) (fs : List Fr) (Q : Exit → St → Prop) (σ : St) : DQ P bad V i r fs Q .normal σ = LD P (clOf bad V) i r fs σ Q := rfl
@[go_sem] theorem DQW_normal (W : List Nat) (h0 : AH) (bad : List (Nat × Nat)) (V : Nat → List Nat) (i : Nat) (r : List SO) (fs : List Fr) (Q : Exit → St → Prop) (σ : St) : DQW W h0 P bad V i r fs Q .normal σ = (Agree W h0 σ.h ∧ LD P (clOf bad V) i r fs σ Q) := rfl
def DC (P : Program) (bad : List (Nat × Nat)) (V : Nat → List Nat) (i : Nat) (ps : List Nat) (o : SO) (r : List SO) (fs : List Fr) (σ : St) (Q : Exit → St → Prop) : Prop :=
  aSOD P (match ps with | [] => none | ps => some ⟨V i, ps.flatMap V⟩) o σ fun σ' => LD P (clOf bad V) (i + 1) r fs σ' Q
def Cd (P : Program) (bad : List (Nat × Nat)) (V : Nat → List Nat) (i : Nat) (ps : List Nat) (nm : Option Nat) (f : LV) (args : List LV) (h : AH) (d : Option Nat) (r : List SO) (fs : List Fr) (ρ : Nat → LV) (Q : Exit → St → Prop) : Prop :=
  callE0 P nm f args h fun lv h' => Agree (V i) h h' ∧ LD P (clOf bad V) (i + 1) r fs (St.put ⟨ρ, h⟩ d lv h') Q
@[go_sem] theorem LD_nil (bad : List (Nat × Nat)) (V : Nat → List Nat) (i : Nat) (fs : List Fr) (σ : St) (Q : Exit → St → Prop) : LD P (clOf bad V) i [] fs σ Q = U P .normal fs σ Q := rfl
@[go_sem] theorem LD_cons (bad : List (Nat × Nat)) (V : Nat → List Nat) (i : Nat) (o : SO) (r : List SO) (fs : List Fr) (σ : St) (Q : Exit → St → Prop) : LD P (clOf bad V) i (o :: r) fs σ Q = DC P bad V i (partners bad i) o r fs σ Q := rfl
@[go_sem] theorem partners_nil (i : Nat) : partners [] i = [] := rfl
@[go_sem] theorem partners_cons (a b : Nat) (l : List (Nat × Nat)) (i : Nat) : partners ((a, b) :: l) i = if a = i then b :: partners l i else if b = i then a :: partners l i else partners l i := by
  unfold partners
  simp only [List.filterMap_cons]
  by_cases h1 : a = i
  · simp [h1]
  · by_cases h2 : b = i
    · simp [h1, h2]
    · simp [h1, h2]
@[go_sem] theorem DC_nil (bad : List (Nat × Nat)) (V : Nat → List Nat) (i : Nat) (o : SO) (r : List SO) (fs : List Fr) (σ : St) (Q : Exit → St → Prop) : DC P bad V i [] o r fs σ Q = L P [o] [] σ (DQ P bad V (i + 1) r fs Q) := rfl
theorem DC_op {bad : List (Nat × Nat)} {V : Nat → List Nat} {i p : Nat} {ps : List Nat} {d : Option Nat} {op : Op} {ty : Nat} {nm : Option Nat} {r : List SO} {fs : List Fr} {σ : St} {Q : Exit → St → Prop} (h1 : isMap op = false) (h2 : isCall op = false) :
    DC P bad V i (p :: ps) ⟨d, op, ty, none, nm⟩ r fs σ Q = ((op.operands.toList.all fun x => avoid ((p :: ps).flatMap V) false σ.h 6 (evL σ.ρ x)) = true ∧ L P [⟨d, op, ty, none, nm⟩] [] σ (DQW (V i) σ.h P bad V (i + 1) r fs Q)) := by
  have e : ∀ K : LV → AH → Prop, stepE0 P nm op ty (evL σ.ρ) σ.h K = stepE P nm op ty (evL σ.ρ) σ.h K := by
    intro K
    unfold stepE0 stepE
    split
    · simp [isCall] at h2
    · simp only [h1]; rfl
  show ((op.operands.toList.all fun x => avoid ((p :: ps).flatMap V) (isCall op) σ.h 6 (evL σ.ρ x)) = true ∧ stepE0 P nm op ty (evL σ.ρ) σ.h fun lv h' => Agree (V i) σ.h h' ∧ LD P (clOf bad V) (i + 1) r fs (σ.put d lv h') Q) = _
  rw [e, h2, L_step]
  congr 2
  funext lv h
  cases d <;> rfl
def BrD (v : LV) (want : Bool) (A B : Prop) : Prop := (∃ b, v = .fv (.val (.bool b)) ∧ (b = want → A) ∧ (b = (!want) → B)) ∨ (v = .tup [] ∧ B)
@[go_sem] theorem BrD_tt (A B : Prop) : BrD (.fv (.val (.bool true))) true A B = A := by simp [BrD]
@[go_sem] theorem BrD_ft (A B : Prop) : BrD (.fv (.val (.bool false))) true A B = B := by simp [BrD]
@[go_sem] theorem DC_call (bad : List (Nat × Nat)) (V : Nat → List Nat) (i p : Nat) (ps : List Nat) (d : Option Nat) (f : Operand) (a : Array Operand) (t : Array Nat) (ty : Nat) (nm : Option Nat) (r : List SO) (fs : List Fr) (σ : St) (Q : Exit → St → Prop) :
    DC P bad V i (p :: ps) ⟨d, .call { callee := .value f, args := a, argTypes := t }, ty, none, nm⟩ r fs σ Q =
      (((Op.call { callee := .value f, args := a, argTypes := t }).operands.toList.all fun x => avoid ((p :: ps).flatMap V) true σ.h 6 (evL σ.ρ x)) = true ∧ Cd P bad V i (p :: ps) nm (evL σ.ρ f) (a.toList.map (evL σ.ρ)) σ.h d r fs σ.ρ Q) := rfl
@[go_sem] theorem DC_guard (bad : List (Nat × Nat)) (V : Nat → List Nat) (i p : Nat) (ps : List Nat) (d : Option Nat) (op : Op) (s : Nat) (want : Bool) (ty : Nat) (nm : Option Nat) (r : List SO) (fs : List Fr) (σ : St) (Q : Exit → St → Prop) :
    DC P bad V i (p :: ps) ⟨d, op, ty, some (s, want), nm⟩ r fs σ Q =
      BrD (σ.ρ s) want (DC P bad V i (p :: ps) ⟨d, op, ty, none, nm⟩ r fs σ Q) (LD P (clOf bad V) (i + 1) r fs (σ.put d (.tup []) σ.h) Q) := by
  unfold BrD DC aSOD
  simp only
  split
  · rename_i b hb
    rw [hb]
    by_cases e : b = want
    · rw [if_pos e]
      subst e
      simp only [eq_iff_iff]
      constructor
      · intro h; exact .inl ⟨b, rfl, fun _ => h, fun h => by cases b <;> simp at h⟩
      · rintro (⟨b', h1, h2, h3⟩ | ⟨h1, h2⟩)
        · simp at h1; subst h1; exact h2 rfl
        · simp at h1
    · rw [if_neg e]
      have e' : b = !want := by cases b <;> cases want <;> simp_all
      simp only [eq_iff_iff]
      constructor
      · intro h; exact .inl ⟨b, rfl, fun h => absurd h e, fun _ => h⟩
      · rintro (⟨b', h1, h2, h3⟩ | ⟨h1, h2⟩)
        · simp at h1; subst h1; exact h3 e'
        · simp at h1
  · rename_i hb
    rw [hb]
    simp only [eq_iff_iff]
    constructor
    · intro h; exact .inr ⟨trivial, h⟩
    · rintro (⟨b', h1, h2, h3⟩ | ⟨h1, h2⟩)
      · simp at h1
      · exact h2
  · rename_i hne hne2
    simp only [eq_iff_iff, false_iff]
    rintro (⟨b, hb, _⟩ | ⟨hb, _⟩)
    · exact absurd hb (hne b)
    · exact absurd hb hne2
theorem callD {bad : List (Nat × Nat)} {V : Nat → List Nat} {i : Nat} {ps : List Nat} {nm : Option Nat} {f : Nat} {caps args : List LV} {h : AH} {d : Option Nat} {r : List SO} {fs : List Fr} {ρ : Nat → LV} {Q : Exit → St → Prop} (os : List Nat) (own : Bool) (as : List Arg) (cs : List FV) {rv : RV}
    (hF : Fn P f (as ++ cs.map .fo) rv) (ha : argsOf P (fun _ => own) (h.frzObjs os) args as) (hc : mapO (peek (fun _ => own) (h.frzObjs os) 6) caps = some cs) (ho : own = false ∨ rv.shallow = true)
    (hk : Agree (V i) h (impR (h.frzObjs os) nm rv).2 ∧ LD P (clOf bad V) (i + 1) r fs (St.put ⟨ρ, h⟩ d (impR (h.frzObjs os) nm rv).1 (impR (h.frzObjs os) nm rv).2) Q) : Cd P bad V i ps nm (.clos f caps) args h d r fs ρ Q :=
  ⟨os, own, as, cs, rv, ha, hc, hF, ho, hk⟩
def DR (P : Program) (bad : List (Nat × Nat)) (V : Nat → List Nat) (i : Nat) (ps : List Nat) (d : Option Nat) (op : Op) (ty : Nat) (nm : Option Nat) (r : List SO) (fs : List Fr) (σ : St) (Q : Exit → St → Prop) : Prop :=
  (op.operands.toList.all fun x => avoid (ps.flatMap V) false σ.h 6 (evL σ.ρ x)) = true ∧ L P [⟨d, op, ty, none, nm⟩] [] σ (DQW (V i) σ.h P bad V (i + 1) r fs Q)
@[go_sem] theorem DR_eq (bad : List (Nat × Nat)) (V : Nat → List Nat) (i : Nat) (ps : List Nat) (d : Option Nat) (op : Op) (ty : Nat) (nm : Option Nat) (r : List SO) (fs : List Fr) (σ : St) (Q : Exit → St → Prop) :
    DR P bad V i ps d op ty nm r fs σ Q = ((op.operands.toList.all fun x => avoid (ps.flatMap V) false σ.h 6 (evL σ.ρ x)) = true ∧ L P [⟨d, op, ty, none, nm⟩] [] σ (DQW (V i) σ.h P bad V (i + 1) r fs Q)) := rfl
@[go_sem] theorem DC_load (bad : List (Nat × Nat)) (V : Nat → List Nat) (i p : Nat) (ps : List Nat) (d : Option Nat) (t : Nat) (x : Operand) (ty : Nat) (nm : Option Nat) (r : List SO) (fs : List Fr) (σ : St) (Q : Exit → St → Prop) :
    DC P bad V i (p :: ps) ⟨d, .load t x, ty, none, nm⟩ r fs σ Q = DR P bad V i (p :: ps) d (.load t x) ty nm r fs σ Q := DC_op rfl rfl
@[go_sem] theorem DC_alloc (bad : List (Nat × Nat)) (V : Nat → List Nat) (i p : Nat) (ps : List Nat) (d : Option Nat) (t : Nat) (ty : Nat) (nm : Option Nat) (r : List SO) (fs : List Fr) (σ : St) (Q : Exit → St → Prop) :
    DC P bad V i (p :: ps) ⟨d, .alloc t, ty, none, nm⟩ r fs σ Q = DR P bad V i (p :: ps) d (.alloc t) ty nm r fs σ Q := DC_op rfl rfl
@[go_sem] theorem DC_assign (bad : List (Nat × Nat)) (V : Nat → List Nat) (i p : Nat) (ps : List Nat) (d : Option Nat) (x : Operand) (ty : Nat) (nm : Option Nat) (r : List SO) (fs : List Fr) (σ : St) (Q : Exit → St → Prop) :
    DC P bad V i (p :: ps) ⟨d, .assign x, ty, none, nm⟩ r fs σ Q = DR P bad V i (p :: ps) d (.assign x) ty nm r fs σ Q := DC_op rfl rfl
@[go_sem] theorem DC_store (bad : List (Nat × Nat)) (V : Nat → List Nat) (i p : Nat) (ps : List Nat) (d : Option Nat) (t : Nat) (x y : Operand) (ty : Nat) (nm : Option Nat) (r : List SO) (fs : List Fr) (σ : St) (Q : Exit → St → Prop) :
    DC P bad V i (p :: ps) ⟨d, .store t x y, ty, none, nm⟩ r fs σ Q = DR P bad V i (p :: ps) d (.store t x y) ty nm r fs σ Q := DC_op rfl rfl
@[go_sem] theorem DC_buildSlice (bad : List (Nat × Nat)) (V : Nat → List Nat) (i p : Nat) (ps : List Nat) (d : Option Nat) (t k : Nat) (x : Array (Nat × Operand)) (ty : Nat) (nm : Option Nat) (r : List SO) (fs : List Fr) (σ : St) (Q : Exit → St → Prop) :
    DC P bad V i (p :: ps) ⟨d, .buildSlice t k x, ty, none, nm⟩ r fs σ Q = DR P bad V i (p :: ps) d (.buildSlice t k x) ty nm r fs σ Q := DC_op rfl rfl
@[go_sem] theorem DC_append (bad : List (Nat × Nat)) (V : Nat → List Nat) (i p : Nat) (ps : List Nat) (d : Option Nat) (a : Array Operand) (t : Array Nat) (ty : Nat) (nm : Option Nat) (r : List SO) (fs : List Fr) (σ : St) (Q : Exit → St → Prop) :
    DC P bad V i (p :: ps) ⟨d, .call { callee := .builtin .append, args := a, argTypes := t }, ty, none, nm⟩ r fs σ Q = DR P bad V i (p :: ps) d (.call { callee := .builtin .append, args := a, argTypes := t }) ty nm r fs σ Q := DC_op rfl rfl
@[go_sem] theorem DC_len (bad : List (Nat × Nat)) (V : Nat → List Nat) (i p : Nat) (ps : List Nat) (d : Option Nat) (a : Array Operand) (t : Array Nat) (ty : Nat) (nm : Option Nat) (r : List SO) (fs : List Fr) (σ : St) (Q : Exit → St → Prop) :
    DC P bad V i (p :: ps) ⟨d, .call { callee := .builtin .len, args := a, argTypes := t }, ty, none, nm⟩ r fs σ Q = DR P bad V i (p :: ps) d (.call { callee := .builtin .len, args := a, argTypes := t }) ty nm r fs σ Q := DC_op rfl rfl
@[go_sem] theorem DC_indexAddr (bad : List (Nat × Nat)) (V : Nat → List Nat) (i p : Nat) (ps : List Nat) (d : Option Nat) (t : Nat) (x y : Operand) (ty : Nat) (nm : Option Nat) (r : List SO) (fs : List Fr) (σ : St) (Q : Exit → St → Prop) :
    DC P bad V i (p :: ps) ⟨d, .indexAddr t x y, ty, none, nm⟩ r fs σ Q = DR P bad V i (p :: ps) d (.indexAddr t x y) ty nm r fs σ Q := DC_op rfl rfl
@[go_sem] theorem DC_slice (bad : List (Nat × Nat)) (V : Nat → List Nat) (i p : Nat) (ps : List Nat) (d : Option Nat) (t : Nat) (x : Operand) (y z v : Option Operand) (ty : Nat) (nm : Option Nat) (r : List SO) (fs : List Fr) (σ : St) (Q : Exit → St → Prop) :
    DC P bad V i (p :: ps) ⟨d, .slice t x y z v, ty, none, nm⟩ r fs σ Q = DR P bad V i (p :: ps) d (.slice t x y z v) ty nm r fs σ Q := DC_op rfl rfl
end
section
variable (N : List Nat) (dp : Bool) (h : AH) (n : Nat)
@[go_sem] theorem av_fv (x : FV) : avoid N dp h (n + 1) (.fv x) = true := rfl
@[go_sem] theorem av_tup (g : List LV) : avoid N dp h (n + 1) (.tup g) = true := rfl
@[go_sem] theorem av_gl (o g : Nat) : avoid N dp h (n + 1) (.gl o g) = !N.contains o := rfl
@[go_sem] theorem av_ptr_flat (o g f : Nat) : avoid N false h (n + 1) (.ptr o g f) = !N.contains o := by simp [avoid]
@[go_sem] theorem av_clos (f : Nat) (cs : List LV) : avoid N dp h (n + 1) (.clos f cs) = cs.all (avoid N dp h n) := rfl
end
theorem Agree.rfl' (W : List Nat) (h : AH) : Agree W h h := ⟨fun _ _ => ⟨rfl, rfl⟩, rfl⟩
@[go_sem] theorem ag_refl (W : List Nat) (h : AH) : Agree W h h = True := by simp [Agree.rfl']
@[go_sem] theorem ag_new (W : List Nat) (h h' : AH) (o : Nat) (ob : AObj) (hm : W.contains o = true) : Agree W h (h'.new o ob) = Agree W h h' := by
  simp only [List.contains_iff_mem] at hm
  have key : ∀ k, k ∉ W → (h'.new o ob).gen k = h'.gen k ∧ (h'.new o ob).obj k = h'.obj k := by
    intro k hk
    have : k ≠ o := fun e => hk (e ▸ hm)
    simp [AH.new, upd, this]
  simp only [eq_iff_iff]
  constructor
  · intro a
    exact ⟨fun k hk => ⟨(key k hk).1 ▸ (a.at' k hk).1, (key k hk).2 ▸ (a.at' k hk).2⟩, a.y⟩
  · intro a
    exact ⟨fun k hk => ⟨(key k hk).1.trans (a.at' k hk).1, (key k hk).2.trans (a.at' k hk).2⟩, a.y⟩
@[go_sem] theorem ag_set (W : List Nat) (h h' : AH) (o : Nat) (ob : AObj) (hm : W.contains o = true) : Agree W h (h'.set o ob) = Agree W h h' := by
  simp only [List.contains_iff_mem] at hm
  have key : ∀ k, k ∉ W → (h'.set o ob).gen k = h'.gen k ∧ (h'.set o ob).obj k = h'.obj k := by
    intro k hk
    have : k ≠ o := fun e => hk (e ▸ hm)
    simp [AH.set, upd, this]
  simp only [eq_iff_iff]
  constructor
  · intro a
    exact ⟨fun k hk => ⟨(key k hk).1 ▸ (a.at' k hk).1, (key k hk).2 ▸ (a.at' k hk).2⟩, a.y⟩
  · intro a
    exact ⟨fun k hk => ⟨(key k hk).1.trans (a.at' k hk).1, (key k hk).2.trans (a.at' k hk).2⟩, a.y⟩
def Vs (l : List (List Nat)) (i : Nat) : List Nat := l.getD i []
@[go_sem] theorem Vs_zero (x : List Nat) (l : List (List Nat)) : Vs (x :: l) 0 = x := rfl
@[go_sem] theorem Vs_succ (x : List Nat) (l : List (List Nat)) (n : Nat) : Vs (x :: l) (n + 1) = Vs l n := rfl
@[go_sem] theorem Vs_nil (n : Nat) : Vs [] n = [] := rfl
section
variable (own : Nat → Bool) (h : AH) (n : Nat)
@[go_sem] theorem pk_fv (x : FV) : peek own h (n + 1) (.fv x) = some x := rfl
@[go_sem] theorem pk_gl (o g : Nat) : peek own h (n + 1) (.gl o g) = (h.lst o g).bind fun l => if own o || l.2.2.1 then some (if l.2.2.2.1 then FV.nil else .list false l.2.2.2.2) else none := rfl
@[go_sem] theorem pk_ptr (o g f : Nat) : peek own h (n + 1) (.ptr o g f) = if own o then (h.box o g).bind fun cs => (mapO (peek own h n) (cs.drop f)).map FV.ptr else none := rfl
@[go_sem] theorem pk_clos (f : Nat) (cs : List LV) : peek own h (n + 1) (.clos f cs) = (mapO (peek own h n) cs).map (FV.clos f) := rfl
@[go_sem] theorem pk_agg (cs : List LV) : peek own h (n + 1) (.agg cs) = (mapO (peek own h n) cs).map FV.agg := rfl
@[go_sem] theorem pk_mp (o g : Nat) : peek own h (n + 1) (.mp o g) = (h.mpo o g).bind fun l => if own o || l.1 then some (FV.map l.2) else none := rfl
@[go_sem] theorem mapO_nil (f : LV → Option FV) : mapO f [] = some [] := rfl
@[go_sem] theorem mapO_cons (f : LV → Option FV) (c : LV) (cs : List LV) : mapO f (c :: cs) = (f c).bind fun x => (mapO f cs).map (x :: ·) := rfl
theorem ret_tup {h : AH} {a b : LV} {r : List LV} {cs : List RC} (own : Nat → Bool) (e : retS own h (a :: b :: r) cs) (nd : (ownNames (a :: b :: r) cs).Nodup) : retF (.tup cs) (a :: b :: r) h := ⟨own, e, nd⟩
@[go_sem] theorem retS_nil : retS own h [] [] = True := rfl
@[go_sem] theorem retS_cons (l : LV) (ls : List LV) (c : RC) (cs : List RC) : retS own h (l :: ls) (c :: cs) = (retC own h l c ∧ retS own h ls cs) := rfl
@[go_sem] theorem retC_fx (l : LV) (x : FV) : retC own h l (.fx x) = (peek own h 6 l = some x) := rfl
end
end Abs

namespace Abs
open Go
section
variable {P : Program}
theorem callY {nm : Option Nat} {args : List LV} {h : AH} {d : Option Nat} {r : List SO} {fs : List Fr} {ρ : Nat → LV} {Q : Exit → St → Prop} (x : List FV) (rest : List (List FV)) (hg : h.gen yN = 0)
    (ha : mapO (peek (fun _ => false) h 6) args = some x) (hy : h.y = some (x :: rest))
    (kt : L P r fs (St.put ⟨ρ, ⟨h.gen, h.obj, some rest⟩⟩ d (.fv (.bool true)) ⟨h.gen, h.obj, some rest⟩) Q)
    (kf : L P r fs (St.put ⟨ρ, ⟨h.gen, h.obj, none⟩⟩ d (.fv (.bool false)) ⟨h.gen, h.obj, none⟩) Q) : Cl' P nm (.it yN 0) args h d r fs ρ Q :=
  .inr ⟨rfl, rfl, hg, [], x, rest, ha, hy, kt, kf⟩
/-! A range over a function. -/
def FE (P : Program) (ρ : Nat → LV) (fs : List Fr) (Q : Exit → St → Prop) (J : St → Prop) (e : Exit) (σ : St) : Prop :=
  match e with
  | .normal => J σ
  | .ret => U P .ret fs ⟨ρ, σ.h⟩ Q
  | .exit id => U P (.exit id) fs ⟨ρ, σ.h⟩ Q
  | .goto l => U P (.goto l) fs ⟨ρ, σ.h⟩ Q
  | _ => False
@[go_sem] theorem FE_normal (ρ : Nat → LV) (fs : List Fr) (Q : Exit → St → Prop) (J : St → Prop) (σ : St) : FE P ρ fs Q J .normal σ = J σ := rfl
@[go_sem] theorem FE_ret (ρ : Nat → LV) (fs : List Fr) (Q : Exit → St → Prop) (J : St → Prop) (σ : St) : FE P ρ fs Q J .ret σ = U P .ret fs ⟨ρ, σ.h⟩ Q := rfl
def FA (P : Program) (b : SC) (ρ : Nat → LV) (fs : List Fr) (Q : Exit → St → Prop) (J : St → Prop) (e : Exit) (σ : St) : Prop :=
  match e with
  | .normal => W P b [] σ (FE P ρ fs Q J)
  | _ => False
@[go_sem] theorem FA_normal (b : SC) (ρ : Nat → LV) (fs : List Fr) (Q : Exit → St → Prop) (J : St → Prop) (σ : St) : FA P b ρ fs Q J .normal σ = W P b [] σ (FE P ρ fs Q J) := rfl
@[go_sem] theorem setps_cons (ρ : Nat → LV) (p : Nat) (ps : List Nat) (x : FV) (xs : List FV) : setps ρ (p :: ps) (x :: xs) = setps (upd ρ p (.fv x)) ps xs := rfl
@[go_sem] theorem setps_nil (ρ : Nat → LV) : setps ρ [] [] = ρ := rfl
def FJ (I : List (List FV) → AH → Prop) (xs : List (List FV)) (σ : St) : Prop := I xs σ.h
theorem rgInd {g : LV} {ps : List Nat} {a b : SC} {fs : List Fr} {ρ : Nat → LV} {h : AH} {Q : Exit → St → Prop} (os : List Nat) (xs : List (List FV)) (ha : argOf P (fun _ => false) (h.frzObjs os) g (.sq xs))
    (I : List (List FV) → AH → Prop) (h0 : I xs (h.frzObjs os)) (hnil : ∀ h, I [] h → U P .normal fs ⟨ρ, h⟩ Q)
    (hcons : ∀ x xs h, I (x :: xs) h → x.length = ps.length ∧ W P a [] ⟨setps ρ ps x, h⟩ (FA P b ρ fs Q (FJ I xs))) : Rg P g ps a b fs ρ h Q := by
  refine ⟨os, xs, ha, ?_⟩
  have key : ∀ (xs : List (List FV)) (h : AH), I xs h → aFold (aWp P a) (aWp P b) ρ ps xs h (unw P Q fs) := by
    intro xs
    induction xs with
    | nil => intro h hI; exact hnil h hI
    | cons x xs ih =>
      intro h hI
      obtain ⟨h1, h2⟩ := hcons x xs h hI
      refine ⟨h1, aWp_mono a (fun e σ hq => ?_) (show aWp P a ⟨setps ρ ps x, h⟩ (FA P b ρ fs Q (FJ I xs)) from h2)⟩
      cases e with
      | normal =>
        refine aWp_mono b (fun e σ' hq => ?_) (show aWp P b σ (FE P ρ fs Q (FJ I xs)) from hq)
        cases e with
        | normal => exact ih _ hq
        | ret => exact hq
        | exit id => exact hq
        | goto l => exact hq
        | _ => exact hq.elim
      | _ => exact hq.elim
  exact key xs _ h0
theorem argSq {h : AH} {lv : LV} {f : Nat} {caps : List FV} {xs : List (List FV)} (hp : peek (fun _ => false) h 6 lv = some (.clos f caps)) (hs : SeqFn P f [] caps xs) : argOf P (fun _ => false) h lv (.sq xs) :=
  .inr (.inl ⟨f, caps, hp, hs⟩)
end
section
variable {P : Program}
theorem AC.frz {f : Nat} {args : List LV} {h : AH} {K K' : LV → AH → Prop} (os : List Nat) (hq : AC P f args h K) (hK : ∀ lv h', K lv h' → K' lv (h'.frzObjs os)) : AC P f args h K' := by
  refine ⟨hq.1, fun cx w D an cargs H L => (hq.2 cx w D an cargs H L).mono ?_⟩
  rintro e w' ⟨lv, h', v, D', an', h1, h2, h3, h4, h5⟩
  obtain ⟨Y, hY, H1⟩ := h3.heap
  obtain ⟨D2, H2, hg, hd⟩ := frzObjs_sound os H1
  have E2 : Ext w' D' h'.gen an' w' D2 (h'.frzObjs os).gen an' := frz_ext hg hd
  refine ⟨lv, _, v, D2, an', h1, hK _ _ h2, h3.next E2 hY H2, h4.trans E2, h5.ext E2⟩
@[go_sem] theorem vw_fv (h : AH) (x : FV) : viewL h (.fv x) = .fv x := rfl
def vw (o g : Nat) : Option (Nat × Nat × Bool × Bool × List FV) → LV
  | some (_, _, true, false, xs) => .fv (.list false xs)
  | _ => .gl o g
@[go_sem] theorem vw_gl (h : AH) (o g : Nat) : viewL h (.gl o g) = vw o g (h.lst o g) := rfl
@[go_sem] theorem vw_own (o g e es : Nat) (nil : Bool) (xs : List FV) : vw o g (some (e, es, false, nil, xs)) = .gl o g := rfl
end
end Abs

namespace Abs
open Go
/-! Loops, by what they change. -/
def chg (n : Nat) (l : List Nat) (i : Nat) : Bool := decide (n ≤ i) || l.contains i
def hav (n : Nat) (l : List Nat) (ρ₀ ρ : Nat → LV) : Nat → LV := fun i => if chg n l i then ρ i else ρ₀ i
def havH (n : Nat) (l : List Nat) (h₀ h : AH) : AH := ⟨fun o => if chg n l o then h.gen o else h₀.gen o, fun o => if chg n l o then h.obj o else h₀.obj o, h.y⟩
def OffR (n : Nat) (l : List Nat) (ρ₀ ρ : Nat → LV) : Prop := ∀ i, chg n l i = false → ρ i = ρ₀ i
def OffH (n : Nat) (l : List Nat) (h₀ h : AH) : Prop := ∀ o, chg n l o = false → h.gen o = h₀.gen o ∧ h.obj o = h₀.obj o
section
variable (n : Nat) (l : List Nat) (ρ₀ ρ : Nat → LV) (h₀ h : AH)
@[go_sem] theorem hav_at (i : Nat) : hav n l ρ₀ ρ i = if (decide (n ≤ i) || l.contains i) = true then ρ i else ρ₀ i := rfl
@[go_sem] theorem havH_gen (o : Nat) : (havH n l h₀ h).gen o = if (decide (n ≤ o) || l.contains o) = true then h.gen o else h₀.gen o := rfl
@[go_sem] theorem havH_obj (o : Nat) : (havH n l h₀ h).obj o = if (decide (n ≤ o) || l.contains o) = true then h.obj o else h₀.obj o := rfl
@[go_sem] theorem havH_y : (havH n l h₀ h).y = h.y := rfl
@[go_sem] theorem offH_refl : OffH n l h₀ h₀ = True := by simp [OffH]
@[go_sem] theorem offR_hav : OffR n l ρ₀ (hav n l ρ₀ ρ) = True := by
  simp only [OffR, eq_iff_iff, iff_true]
  intro i hi
  simp [hav, hi]
@[go_sem] theorem offH_hav : OffH n l h₀ (havH n l h₀ h) = True := by
  simp only [OffH, eq_iff_iff, iff_true]
  intro i hi
  simp [havH, hi]
theorem chg_ne {n : Nat} {l : List Nat} {i d : Nat} (hm : (decide (n ≤ d) || l.contains d) = true) (hi : chg n l i = false) : i ≠ d := by
  rintro rfl
  unfold chg at hi
  rw [hm] at hi
  simp at hi
@[go_sem] theorem offR_upd (d : Nat) (v : LV) (hm : (decide (n ≤ d) || l.contains d) = true) : OffR n l ρ₀ (upd ρ d v) = OffR n l ρ₀ ρ := by
  have key : ∀ i, chg n l i = false → upd ρ d v i = ρ i := fun i hi => by simp [upd, chg_ne hm hi]
  simp only [OffR, eq_iff_iff]
  exact ⟨fun a i hi => (key i hi).symm.trans (a i hi), fun a i hi => (key i hi).trans (a i hi)⟩
theorem offH_congr {h' : AH} (key : ∀ i, chg n l i = false → h'.gen i = h.gen i ∧ h'.obj i = h.obj i) : OffH n l h₀ h' = OffH n l h₀ h := by
  simp only [OffH, eq_iff_iff]
  exact ⟨fun a i hi => ⟨(key i hi).1.symm.trans (a i hi).1, (key i hi).2.symm.trans (a i hi).2⟩, fun a i hi => ⟨(key i hi).1.trans (a i hi).1, (key i hi).2.trans (a i hi).2⟩⟩
@[go_sem] theorem offH_new (d : Nat) (ob : AObj) (hm : (decide (n ≤ d) || l.contains d) = true) : OffH n l h₀ (h.new d ob) = OffH n l h₀ h :=
  offH_congr n l h₀ h fun i hi => by simp [AH.new, upd, chg_ne hm hi]
@[go_sem] theorem offH_set (d : Nat) (ob : AObj) (hm : (decide (n ≤ d) || l.contains d) = true) : OffH n l h₀ (h.set d ob) = OffH n l h₀ h :=
  offH_congr n l h₀ h fun i hi => by simp [AH.set, upd, chg_ne hm hi]
@[go_sem] theorem offH_renew (d k : Nat) (ob : AObj) (hm : (decide (n ≤ d) || l.contains d) = true) : OffH n l h₀ (h.renew d k ob) = OffH n l h₀ h :=
  offH_congr n l h₀ h fun i hi => by simp [AH.renew, upd, chg_ne hm hi]
@[go_sem] theorem offH_y (y : Option (List (List FV))) : OffH n l h₀ ⟨h.gen, h.obj, y⟩ = OffH n l h₀ h := rfl
@[go_sem] theorem offH_mkg (d k : Nat) (g : Nat → Nat) (ob : Nat → Option AObj) (y : Option (List (List FV))) (hm : (decide (n ≤ d) || l.contains d) = true) : OffH n l h₀ ⟨upd g d k, ob, y⟩ = OffH n l h₀ ⟨g, ob, y⟩ :=
  offH_congr n l h₀ ⟨g, ob, y⟩ fun i hi => by simp [upd, chg_ne hm hi]
@[go_sem] theorem offH_mko (d : Nat) (v : Option AObj) (g : Nat → Nat) (ob : Nat → Option AObj) (y : Option (List (List FV))) (hm : (decide (n ≤ d) || l.contains d) = true) : OffH n l h₀ ⟨g, upd ob d v, y⟩ = OffH n l h₀ ⟨g, ob, y⟩ :=
  offH_congr n l h₀ ⟨g, ob, y⟩ fun i hi => by simp [upd, chg_ne hm hi]
theorem chg_sub {n n' : Nat} {l l' : List Nat} (hm : (decide (n ≤ n') && l'.all fun d => decide (n ≤ d) || l.contains d) = true) {i : Nat} (hi : chg n l i = false) : chg n' l' i = false := by
  simp only [Bool.and_eq_true, decide_eq_true_eq, List.all_eq_true] at hm
  cases e : chg n' l' i with
  | false => rfl
  | true =>
    exfalso
    unfold chg at e
    simp only [Bool.or_eq_true, decide_eq_true_eq, List.contains_iff_mem] at e
    rcases e with e | e
    · unfold chg at hi
      simp only [Bool.or_eq_false_iff, decide_eq_false_iff_not] at hi
      omega
    · exact chg_ne (hm.2 i e) hi rfl
@[go_sem] theorem offH_hav' (n' : Nat) (l' : List Nat) (h₁ : AH) (hm : (decide (n ≤ n') && l'.all fun d => decide (n ≤ d) || l.contains d) = true) : OffH n l h₀ (havH n' l' h₁ h) = OffH n l h₀ h₁ :=
  offH_congr n l h₀ h₁ fun i hi => by simp [havH, chg_sub hm hi]
@[go_sem] theorem offR_hav' (n' : Nat) (l' : List Nat) (ρ₁ : Nat → LV) (hm : (decide (n ≤ n') && l'.all fun d => decide (n ≤ d) || l.contains d) = true) : OffR n l ρ₀ (hav n' l' ρ₁ ρ) = OffR n l ρ₀ ρ₁ := by
  have key : ∀ i, chg n l i = false → hav n' l' ρ₁ ρ i = ρ₁ i := fun i hi => by simp [hav, chg_sub hm hi]
  simp only [OffR, eq_iff_iff]
  exact ⟨fun a i hi => (key i hi).symm.trans (a i hi), fun a i hi => (key i hi).trans (a i hi)⟩
theorem hav_off {n : Nat} {l : List Nat} {ρ₀ ρ : Nat → LV} (h : OffR n l ρ₀ ρ) : hav n l ρ₀ ρ = ρ := by
  funext i
  unfold hav
  cases e : chg n l i
  · rw [if_neg (by simp)]; exact (h i e).symm
  · rw [if_pos rfl]
theorem havH_off {n : Nat} {l : List Nat} {h₀ h : AH} (e : OffH n l h₀ h) : havH n l h₀ h = h := by
  obtain ⟨g, o, y⟩ := h
  unfold havH
  congr 1
  · funext i
    cases c : chg n l i
    · rw [if_neg (by simp)]; exact (e i c).1.symm
    · rw [if_pos rfl]
  · funext i
    cases c : chg n l i
    · rw [if_neg (by simp)]; exact (e i c).2.symm
    · rw [if_pos rfl]
end
def Nxt {α : Type} (m : α → Nat) (I : α → Prop) (J : α → (Nat → LV) → AH → Prop) (n : Nat) (l : List Nat) (no : Nat) (lo : List Nat) (σ : St) (a : α) (σ' : St) : Prop :=
  ∃ a', m a' < m a ∧ I a' ∧ OffR n l σ.ρ σ'.ρ ∧ OffH no lo σ.h σ'.h ∧ J a' σ'.ρ σ'.h
theorem lpH {P : Program} {c : SC} {fs : List Fr} {Q : Exit → St → Prop} {σ : St} {α : Type} (n : Nat) (l : List Nat) (no : Nat) (lo : List Nat) (m : α → Nat) (I : α → Prop) (J : α → (Nat → LV) → AH → Prop) (a : α) (hI : I a) (hJ : J a σ.ρ σ.h)
    (step : ∀ a ρ h, I a → J a ρ h → W P c [] ⟨hav n l σ.ρ ρ, havH no lo σ.h h⟩ (LpI P (Nxt m I J n l no lo σ a) fs Q)) : Lp P c fs σ Q := by
  refine lpInd m (fun a σ' => I a ∧ OffR n l σ.ρ σ'.ρ ∧ OffH no lo σ.h σ'.h ∧ J a σ'.ρ σ'.h) a ⟨hI, fun _ _ => rfl, fun _ _ => ⟨rfl, rfl⟩, hJ⟩ ?_
  rintro a ⟨ρ, h⟩ ⟨h1, h2, h3, h4⟩
  have := step a ρ h h1 h4
  rw [hav_off h2, havH_off h3] at this
  exact this
def LsAt (e es : Nat) (os : List Nat) (v : LV) (h : AH) (xs : List FV) : Prop := v = .fv (.list false xs) ∨ ∃ o ∈ os, v = .gl o (h.gen o) ∧ ∃ fz, h.obj o = some (.list e es fz false xs)
theorem frzObj_at (h : AH) (o : Nat) : (h.frzObj o).gen = h.gen ∧ (∀ o', o' ≠ o → (h.frzObj o).obj o' = h.obj o') ∧ ∀ e es fz nil xs, h.obj o = some (.list e es fz nil xs) → (h.frzObj o).obj o = some (.list e es true nil xs) := by
  unfold AH.frzObj
  split
  · rename_i e es fz nil xs ho
    refine ⟨rfl, fun o' h' => by simp [AH.set, upd, h'], fun e' es' fz' nil' xs' h' => ?_⟩
    rw [ho] at h'; simp at h'
    obtain ⟨rfl, rfl, rfl, rfl, rfl⟩ := h'
    simp [AH.set, upd]
  · rename_i hno
    exact ⟨rfl, fun _ _ => rfl, fun e es fz nil xs h' => absurd h' (hno e es fz nil xs)⟩
theorem frzObjs_at : ∀ (os : List Nat) (h : AH), (h.frzObjs os).gen = h.gen ∧ (∀ o, o ∉ os → (h.frzObjs os).obj o = h.obj o) ∧ ∀ o e es fz nil xs, h.obj o = some (.list e es fz nil xs) → ∃ fz', (h.frzObjs os).obj o = some (.list e es fz' nil xs) ∧ (o ∈ os → fz' = true)
  | [], h => ⟨rfl, fun _ _ => rfl, fun o e es fz nil xs ho => ⟨fz, ho, by simp⟩⟩
  | p :: os, h => by
    obtain ⟨a1, a2, a3⟩ := frzObj_at h p
    obtain ⟨b1, b2, b3⟩ := frzObjs_at os (h.frzObj p)
    refine ⟨b1.trans a1, fun o ho => ?_, fun o e es fz nil xs ho => ?_⟩
    · simp only [List.mem_cons, not_or] at ho
      exact (b2 o ho.2).trans (a2 o ho.1)
    · by_cases hp : o = p
      · subst hp
        obtain ⟨fz', h1, h2⟩ := b3 o e es true nil xs (a3 e es fz nil xs ho)
        by_cases hm : o ∈ os
        · exact ⟨fz', h1, fun _ => h2 hm⟩
        · rw [b2 o hm, a3 e es fz nil xs ho] at h1
          simp at h1
          subst h1
          exact ⟨true, by rw [AH.frzObjs, b2 o hm]; exact a3 e es fz nil xs ho, fun _ => rfl⟩
      · obtain ⟨fz', h1, h2⟩ := b3 o e es fz nil xs ((a2 o hp).trans ho)
        exact ⟨fz', h1, fun hm => h2 (by simpa [hp] using hm)⟩
theorem LsAt.peek {e es : Nat} {os os' : List Nat} {v : LV} {h : AH} {xs : List FV} (a : LsAt e es os v h xs) (hs : ∀ o ∈ os, o ∈ os') : Abs.peek (fun _ => false) (h.frzObjs os') 6 v = some (.list false xs) := by
  rcases a with rfl | ⟨o, ho, rfl, fz, hb⟩
  · rfl
  · obtain ⟨a1, _, a3⟩ := frzObjs_at os' h
    obtain ⟨fz', h1, h2⟩ := a3 o e es fz false xs hb
    have := h2 (hs o ho)
    subst this
    simp [Abs.peek, AH.lst, a1, h1]
theorem nxt {α : Type} {m : α → Nat} {I : α → Prop} {J : α → (Nat → LV) → AH → Prop} {n no : Nat} {l lo : List Nat} {σ σ' : St} {a : α} (a' : α) (h1 : m a' < m a) (h2 : I a') (h3 : OffR n l σ.ρ σ'.ρ ∧ OffH no lo σ.h σ'.h ∧ J a' σ'.ρ σ'.h) : Nxt m I J n l no lo σ a σ' :=
  ⟨a', h1, h2, h3.1, h3.2.1, h3.2.2⟩
def FJH (I : List (List FV) → Prop) (J : List (List FV) → AH → Prop) (n : Nat) (lo : List Nat) (h₀ : AH) (xs : List (List FV)) (σ : St) : Prop := I xs ∧ OffH n lo h₀ σ.h ∧ J xs σ.h
theorem rgH {P : Program} {g : LV} {ps : List Nat} {a b : SC} {fs : List Fr} {ρ : Nat → LV} {h : AH} {Q : Exit → St → Prop} (n : Nat) (lo : List Nat) (os : List Nat) (xs : List (List FV)) (ha : argOf P (fun _ => false) (h.frzObjs os) g (.sq xs)) {β : Type}
    (I : List (List FV) → β → Prop) (J : List (List FV) → β → AH → Prop) (b₀ : β) (h0 : I xs b₀) (hj0 : J xs b₀ (h.frzObjs os)) (hnil : ∀ b k, I [] b → J [] b k → U P .normal fs ⟨ρ, havH n lo (h.frzObjs os) k⟩ Q)
    (hcons : ∀ x xs b' k, I (x :: xs) b' → J (x :: xs) b' k → x.length = ps.length ∧ W P a [] ⟨setps ρ ps x, havH n lo (h.frzObjs os) k⟩ (FA P b ρ fs Q (fun σ => ∃ b', I xs b' ∧ OffH n lo (h.frzObjs os) σ.h ∧ J xs b' σ.h))) : Rg P g ps a b fs ρ h Q := by
  refine rgInd os xs ha (fun xs k => ∃ b, I xs b ∧ OffH n lo (h.frzObjs os) k ∧ J xs b k) ⟨b₀, h0, fun _ _ => ⟨rfl, rfl⟩, hj0⟩ ?_ ?_
  · rintro k ⟨b, h1, h2, h3⟩
    have := hnil b k h1 h3
    rw [havH_off h2] at this
    exact this
  · rintro x xs k ⟨b', h1, h2, h3⟩
    have := hcons x xs b' k h1 h3
    rw [havH_off h2] at this
    exact this
theorem call0 {P : Program} {nm : Option Nat} {f : Nat} {args : List LV} {h : AH} {d : Option Nat} {r : List SO} {fs : List Fr} {ρ : Nat → LV} {Q : Exit → St → Prop} (os : List Nat) (own : Bool) {as : List Arg} {rv : RV}
    (hF : Fn P f as rv) (ha : argsOf P (fun _ => own) (h.frzObjs os) args as) (ho : own = false ∨ rv.shallow = true)
    (hk : L P r fs (St.put ⟨ρ, (impR (h.frzObjs os) nm rv).2⟩ d (impR (h.frzObjs os) nm rv).1 (impR (h.frzObjs os) nm rv).2) Q) : Cl' P nm (.clos f []) args h d r fs ρ Q :=
  callF os own as [] (by simpa using hF) ha rfl ho hk
theorem call1 {P : Program} {nm : Option Nat} {f : Nat} {args : List LV} {h : AH} {d : Option Nat} {r : List SO} {fs : List Fr} {ρ : Nat → LV} {Q : Exit → St → Prop} (os : List Nat) (own : Bool) {as : List Arg} {rv : RV}
    (hF : Fn P f as rv)
    (hk : L P r fs (St.put ⟨ρ, (impR (h.frzObjs os) nm rv).2⟩ d (impR (h.frzObjs os) nm rv).1 (impR (h.frzObjs os) nm rv).2) Q)
    (ha : argsOf P (fun _ => own) (h.frzObjs os) args as := by first | exact trivial | exact ⟨rfl, trivial⟩ | exact ⟨rfl, rfl, trivial⟩ | exact ⟨rfl, rfl, rfl, trivial⟩ | exact ⟨rfl, rfl, rfl, rfl, trivial⟩ | exact ⟨rfl, rfl, rfl, rfl, rfl, trivial⟩ | exact ⟨rfl, rfl, rfl, rfl, rfl, rfl, trivial⟩ | (simp -implicitDefEqProofs only [go_sem, simprocAttr] <;> first | rfl | exact ⟨rfl, rfl⟩ | exact ⟨rfl, rfl, rfl⟩ | exact ⟨rfl, rfl, rfl, rfl⟩))
    (ho : own = false ∨ rv.shallow = true := by first | exact .inl rfl | exact .inr rfl) : Cl' P nm (.clos f []) args h d r fs ρ Q :=
  call0 os own hF ha ho hk
theorem callIH {P : Program} {nm : Option Nat} {f : Nat} {caps args : List LV} {h : AH} {d : Option Nat} {r : List SO} {fs : List Fr} {ρ : Nat → LV} {Q : Exit → St → Prop} (n : Nat) (l : List Nat) {R : LV → AH → Prop}
    (hA : AC P f (args ++ caps) h fun lv h' => OffH n l h h' ∧ R lv h') (he : ∃ lv h', OffH n l h h' ∧ R lv h') (hk : ∀ lv h', R lv h' → Kl P d r fs ρ Q lv (havH n l h h')) : Cl' P nm (.clos f caps) args h d r fs ρ Q :=
  callI hA he fun lv h' ⟨h1, h2⟩ => by have := hk lv h' h2; rwa [havH_off h1] at this
attribute [go_sem] Int.zero_ediv Int.ediv_one Nat.zero_min Int.pow_zero
@[go_sem] theorem argOf_fo (P : Program) (own : Nat → Bool) (h : AH) (lv : LV) (x : FV) : argOf P own h lv (.fo x) = (peek own h 6 lv = some x) := rfl
@[go_sem] theorem argsOf_nil (P : Program) (own : Nat → Bool) (h : AH) : argsOf P own h [] [] = True := rfl
@[go_sem] theorem argsOf_cons (P : Program) (own : Nat → Bool) (h : AH) (x : LV) (xs : List LV) (a : Arg) (as : List Arg) : argsOf P own h (x :: xs) (a :: as) = (argOf P own h x a ∧ argsOf P own h xs as) := rfl
attribute [go_sem] Int.toNat_natCast Int.natCast_nonneg
attribute [go_sem] beq_self_eq_true Bool.true_beq Bool.false_beq beq_true beq_false
attribute [go_sem] List.all_cons List.all_nil or_true true_or or_false false_or
attribute [go_sem] List.contains_cons List.contains_nil Bool.or_true Bool.true_or Bool.or_false Bool.false_or
end Abs

