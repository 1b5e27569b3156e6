/- A part of the proof: Abs19. -/
import Derived.Test.YtncbkgbdpaibmaaAbs18
set_option linter.unusedSimpArgs false
set_option linter.unusedVariables false
namespace Abs
open Go
open Go.RowKit (Below)
inductive SC where
  | skip
  | ops (l : List SO)
  | opsD (l : List SO) (bad : List (Nat × Nat))
  | seq (a b : SC)
  | cond (c : Operand) (t e : SC)
  | block (id : Nat) (c : SC)
  | loop (c : SC)
  | rangeF (g : Operand) (ps : List Nat) (assign body : SC)
  | exit (id : Nat)
  | ret
def skOps (nb : Nat) (ops : Array Oper) : List Oper → Option (List SO)
  | [] => some []
  | o :: l => (sko nb ops o).bind fun s => (skOps nb ops l).map (s :: ·)
def sk (nb n : Nat) : Code → Option SC
  | .skip => some .skip
  | .label _ => some .skip
  | .region _ ops draw =>
    if ops.toList.all (fun o => match o.dst with | some k => decide (k < n) | none => true) then
      if draw then
        match badOf nb ops with
        | [] => if okDraw nb ops [] then (skOps nb ops ops.toList).map .ops else none
        | b :: bs => if okDraw nb ops (b :: bs) then (skOps nb ops ops.toList).map fun l => .opsD l (b :: bs) else none
      else (skOps nb ops ops.toList).map .ops
    else none
  | .seq a b => (sk nb n a).bind fun x => (sk nb n b).map (SC.seq x)
  | .cond c t e => (sk nb n t).bind fun x => (sk nb n e).map (SC.cond c x)
  | .block id c => (sk nb n c).map (SC.block id)
  | .loop c => (sk nb n c).map .loop
  | .rangeFunc g ps a b => if ps.toList.all (fun k => decide (k < n)) then (sk nb n a).bind fun x => (sk nb n b).map (SC.rangeF g ps.toList x) else none
  | .exit id => some (.exit id)
  | .ret => some .ret
  | _ => none
def View (σ σ' : St) : Prop := ∃ os, σ'.h = σ.h.frzObjs os ∧ ∀ i, σ'.ρ i = σ.ρ i ∨ ∃ x, σ'.ρ i = .fv x ∧ peek (fun _ => false) σ'.h 6 (σ.ρ i) = some x
theorem View.refl (σ : St) : View σ σ := ⟨[], rfl, fun _ => .inl rfl⟩
def aLoop (body : St → (Exit → St → Prop) → Prop) (σ : St) (Q : Exit → St → Prop) : Prop :=
  ∃ (I : Nat → St → Prop) (m : Nat), I m σ ∧ ∀ m σ, I m σ → ∃ σv, View σ σv ∧ body σv fun e σ' => match e with
    | .normal => ∃ m', m' < m ∧ I m' σ'
    | e => Q e σ'
def aWp (P : Program) : SC → St → (Exit → St → Prop) → Prop
  | .skip, σ, Q => Q .normal σ
  | .ops l, σ, Q => aL P l σ (Q .normal)
  | .opsD l bad, σ, Q => ∃ W : Nat → List Nat, (∀ p ∈ bad, ∀ o ∈ W p.1, o ∉ W p.2) ∧ aLD P (clOf bad W) 0 l σ (Q .normal)
  | .seq a b, σ, Q => aWp P a σ fun e σ' => match e with
    | .normal => aWp P b σ' Q
    | e => Q e σ'
  | .cond c t e, σ, Q => ∃ b, evL σ.ρ c = .fv (.val (.bool b)) ∧ (b = true → aWp P t σ Q) ∧ (b = false → aWp P e σ Q)
  | .block id c, σ, Q => aWp P c σ fun e σ' => match e with
    | .exit id' => if id' = id then Q .normal σ' else Q (.exit id') σ'
    | e => Q e σ'
  | .loop c, σ, Q => aLoop (aWp P c) σ Q
  | .rangeF g ps a b, σ, Q => ∃ os xs, argOf P (fun _ => false) (σ.h.frzObjs os) (evL σ.ρ g) (.sq xs) ∧ aFold (aWp P a) (aWp P b) σ.ρ ps xs (σ.h.frzObjs os) Q
  | .exit id, σ, Q => Q (.exit id) σ
  | .ret, σ, Q => Q .ret σ
section
variable {P : Program} {cx : Cx} {w : World} {D : Nat → Prop} {an : Nat → Value}
theorem aL_mono : ∀ (l : List SO) {σ : St} {K K' : St → Prop}, (∀ σ, K σ → K' σ) → aL P l σ K → aL P l σ K'
  | [], _, _, _, hK, h => hK _ h
  | o :: l, _, _, _, hK, h => aSO_mono (fun _ => aL_mono l hK) h
theorem aFold_mono {A B : St → (Exit → St → Prop) → Prop} (hA : ∀ {σ : St} {Q Q' : Exit → St → Prop}, (∀ e σ, Q e σ → Q' e σ) → A σ Q → A σ Q') (hB : ∀ {σ : St} {Q Q' : Exit → St → Prop}, (∀ e σ, Q e σ → Q' e σ) → B σ Q → B σ Q') {ρ : Nat → LV} {ps : List Nat} :
    ∀ (xs : List (List FV)) {h : AH} {Q Q' : Exit → St → Prop}, (∀ e σ, Q e σ → Q' e σ) → aFold A B ρ ps xs h Q → aFold A B ρ ps xs h Q' := by
  intro xs
  induction xs with
  | nil => intro h Q Q' hQ hq; exact hQ _ _ hq
  | cons x xs ih =>
    intro h Q Q' hQ hq
    refine ⟨hq.1, hA (fun e σ h => ?_) hq.2⟩
    cases e <;> try exact h
    refine hB (fun e σ h => ?_) h
    cases e <;> first | exact ih hQ h | exact hQ _ _ h | exact h
theorem aWp_mono : ∀ (c : SC) {σ : St} {Q Q' : Exit → St → Prop}, (∀ e σ, Q e σ → Q' e σ) → aWp P c σ Q → aWp P c σ Q'
  | .skip, _, _, _, hQ, h => hQ _ _ h
  | .ops l, _, _, _, hQ, h => aL_mono l (hQ .normal) h
  | .opsD l bad, _, _, _, hQ, ⟨W, h1, h2⟩ => ⟨W, h1, aLD_mono l 0 (hQ .normal) h2⟩
  | .seq a b, _, _, _, hQ, h => aWp_mono a (fun e σ h => by cases e <;> first | exact aWp_mono b hQ h | exact hQ _ _ h) h
  | .cond c t e, _, _, _, hQ, ⟨b, h1, h2, h3⟩ => ⟨b, h1, fun hb => aWp_mono t hQ (h2 hb), fun hb => aWp_mono e hQ (h3 hb)⟩
  | .block id c, _, _, _, hQ, h => aWp_mono c (fun e σ h => by
      cases e <;> try exact hQ _ _ h
      simp only at h ⊢
      split <;> rename_i hid
      · rw [if_pos hid] at h; exact hQ _ _ h
      · rw [if_neg hid] at h; exact hQ _ _ h) h
  | .loop c, _, _, _, hQ, ⟨I, m, h1, h2⟩ => ⟨I, m, h1, fun m σ hI => let ⟨σv, hv, hb⟩ := h2 m σ hI; ⟨σv, hv, aWp_mono c (fun e σ' h => by cases e <;> first | exact h | exact hQ _ _ h) hb⟩⟩
  | .rangeF g ps a b, _, _, _, hQ, ⟨os, xs, h1, h2⟩ => ⟨os, xs, h1, aFold_mono (A := aWp P a) (B := aWp P b) (fun hQ h => aWp_mono a hQ h) (fun hQ h => aWp_mono b hQ h) xs hQ h2⟩
  | .exit id, _, _, _, hQ, h => hQ _ _ h
  | .ret, _, _, _, hQ, h => hQ _ _ h
theorem skOps_idx {nb : Nat} {ops : Array Oper} : ∀ (l : List Oper) (k : Nat) {s : List SO}, (∀ j, l[j]? = ops[k + j]?) → skOps nb ops l = some s → ∀ {σ : St} {K : St → Prop}, aL P s σ K → aIdx P nb ops (List.range' k l.length) σ K := by
  intro l
  induction l with
  | nil => intro k s _ h σ K hq; simp [skOps] at h; subst h; exact hq
  | cons o l ih =>
    intro k s hl h σ K hq
    simp only [skOps, Option.bind_eq_some_iff, Option.map_eq_some_iff] at h
    obtain ⟨x, hx, s', hs', rfl⟩ := h
    have h0 : ops[k]? = some o := by simpa using (hl 0).symm
    simp only [List.length_cons, List.range'_succ, aIdx, h0, Option.bind_some, hx]
    refine aSO_mono (fun σ' h' => ?_) hq
    exact ih (k + 1) (fun j => by have := hl (j + 1); simpa [Nat.add_assoc, Nat.add_comm 1 j] using this) hs' h'
theorem skOps_idxD {nb : Nat} {C : Nat → Option Cl} {ops : Array Oper} : ∀ (l : List Oper) (k : Nat) {s : List SO}, (∀ j, l[j]? = ops[k + j]?) → skOps nb ops l = some s → ∀ {σ : St} {K : St → Prop}, aLD P C k s σ K → aIdxD P C nb ops (List.range' k l.length) σ K := by
  intro l
  induction l with
  | nil => intro k s _ h σ K hq; simp [skOps] at h; subst h; exact hq
  | cons o l ih =>
    intro k s hl h σ K hq
    simp only [skOps, Option.bind_eq_some_iff, Option.map_eq_some_iff] at h
    obtain ⟨x, hx, s', hs', rfl⟩ := h
    have h0 : ops[k]? = some o := by simpa using (hl 0).symm
    simp only [List.length_cons, List.range'_succ, aIdxD, h0, Option.bind_some, hx]
    refine aSOD_mono (fun σ' h' => ?_) hq
    exact ih (k + 1) (fun j => by have := hl (j + 1); simpa [Nat.add_assoc, Nat.add_comm 1 j] using this) hs' h'
theorem least {p : Nat → Prop} (h : ∃ m, p m) : ∃ m, p m ∧ ∀ k, p k → m ≤ k := by
  obtain ⟨m, hm⟩ := h
  induction m using Nat.strongRecOn with
  | _ m ih =>
    by_cases hlt : ∃ k, k < m ∧ p k
    · obtain ⟨k, h1, h2⟩ := hlt; exact ih k h1 h2
    · exact ⟨m, hm, fun k hk => by rcases Nat.lt_or_ge k m with h | h; exact absurd ⟨k, h, hk⟩ hlt; exact h⟩
theorem RX.view {ro : Option Nat} {n : Nat} {σ σ' : St} {a : Act} (r : RX P ro cx n σ a w) (h : View σ σ') : RX P ro cx n σ' a w := by
  obtain ⟨os, e1, e2⟩ := h
  obtain ⟨cx', D, an, hle, r⟩ := r
  obtain ⟨Y, hY, H⟩ := r.heap.heap
  obtain ⟨D2, H2, hg, hd⟩ := frzObjs_sound os H
  rw [← e1] at H2 hg
  have E2 : Ext w D σ.h.gen an w D2 σ'.h.gen an := frz_ext hg hd
  refine ⟨cx', D2, an, hle, r.heap.next E2 hY H2, fun i => ?_, r.marks, r.rnd, r.size⟩
  have hs := (r.slots i).ext E2
  rcases e2 i with e | ⟨x, e, hp⟩
  · rw [e]; exact hs
  · rw [e]
    have := peek_sound H2 (fun _ => false) 6 _ _ x hs hp
    exact .fv _ _ (this.keep (fun b hb => by
      rcases hb with hb | ⟨o, ob, h1, _⟩
      · exact hb
      · simp at h1) fun _ _ => rfl)
theorem aWp_sound (hmix : P.follows .mixedOrders = true) {nb n : Nat} : ∀ (c : Code) {s : SC}, sk nb n c = some s → BodyOk P n (aWp P s) c := by
  intro c
  induction c with
  | skip => intro s hs ro m cx σ a w Q r hq; simp [sk] at hs; subst hs; exact wpIn_skip ⟨_, hq, r⟩
  | label l => intro s hs ro m cx σ a w Q r hq; simp [sk] at hs; subst hs; exact wpIn_label ⟨_, hq, r⟩
  | region id ops draw =>
    rintro s hs ro m cx σ a w Q ⟨cx', D, an, hle, r⟩ hq
    simp only [sk] at hs
    split at hs
    · rename_i hc
      have hdst : ∀ (i : Nat) (o : Oper) (k : Nat), ops[i]? = some o → o.dst = some k → k < n := by
        intro i o k ho hd
        have := List.all_eq_true.1 hc o (by rw [Array.mem_toList_iff]; exact Array.mem_of_getElem? ho)
        rw [hd] at this
        simpa using this
      have plain : ∀ {l : List SO}, (draw = true → okDraw nb ops [] = true) → skOps nb ops ops.toList = some l → aL P l σ (Q .normal) → (Code.region id ops draw).wpIn (FX ro) m P (fun e a w => ∃ σ, Q e σ ∧ RX P ro cx n σ a w) a w := by
        intro l hok hl hq
        refine region_sound (K := Q .normal) hok hmix hdst ?_ r ?_
        · intro σ' a' w' D' an' h' r'; exact ⟨_, h', _, _, _, hle, r'⟩
        · have := skOps_idx (P := P) ops.toList 0 (fun j => by simp) hl hq
          rwa [Array.length_toList, ← List.range_eq_range'] at this
      split at hs
      · rename_i hdraw
        split at hs
        · split at hs
          · rename_i hok
            simp only [Option.map_eq_some_iff] at hs
            obtain ⟨l, hl, rfl⟩ := hs
            exact plain (fun _ => hok) hl hq
          · simp at hs
        · rename_i b bs hb
          split at hs
          · rename_i hok
            simp only [Option.map_eq_some_iff] at hs
            obtain ⟨l, hl, rfl⟩ := hs
            obtain ⟨W, hW, hq⟩ := hq
            subst hdraw
            refine regionD_sound (K := Q .normal) hW hok hmix hdst ?_ r ?_
            · intro σ' a' w' D' an' h' r'; exact ⟨_, h', _, _, _, hle, r'⟩
            · have := skOps_idxD (P := P) ops.toList 0 (fun j => by simp) hl hq
              rwa [Array.length_toList, ← List.range_eq_range'] at this
          · simp at hs
      · rename_i hdraw
        simp only [Option.map_eq_some_iff] at hs
        obtain ⟨l, hl, rfl⟩ := hs
        exact plain (fun hd => absurd hd hdraw) hl hq
    · simp at hs
  | seq x y ihx ihy =>
    intro s hs ro m cx σ a w Q r hq
    simp only [sk, Option.bind_eq_some_iff, Option.map_eq_some_iff] at hs
    obtain ⟨sx, hx, sy, hy, rfl⟩ := hs
    refine wpIn_seq (wpIn_mono (ihx hx r hq) ?_)
    rintro e a' w' ⟨σ', h', r'⟩
    cases e <;> first | exact ihy hy r' h' | exact ⟨σ', h', r'⟩
  | cond c x y ihx ihy =>
    intro s hs ro m cx σ a w Q r hq
    simp only [sk, Option.bind_eq_some_iff, Option.map_eq_some_iff] at hs
    obtain ⟨sx, hx, sy, hy, rfl⟩ := hs
    obtain ⟨b, hb, h1, h2⟩ := hq
    have hv : a.eval c = .bool b := by
      obtain ⟨cx', D, an, hle, r⟩ := r
      have := ev_sound r.slots c
      rw [hb] at this
      exact Rep.val_inv this.fv_inv
    exact wpIn_cond_split hv (fun hb => ihx hx r (h1 hb)) fun hb => ihy hy r (h2 hb)
  | block id c ih =>
    intro s hs ro m cx σ a w Q r hq
    simp only [sk, Option.map_eq_some_iff] at hs
    obtain ⟨sc, hc, rfl⟩ := hs
    refine wpIn_block (wpIn_mono (ih hc r hq) ?_)
    rintro e a' w' ⟨σ', h', r'⟩
    cases e <;> try exact ⟨σ', h', r'⟩
    rename_i id'
    simp only [Exit.inBlock]
    simp only at h'
    split
    · rename_i e; rw [if_pos e] at h'; exact ⟨σ', h', r'⟩
    · rename_i e; rw [if_neg e] at h'; exact ⟨σ', h', r'⟩
  | loop c ih =>
    intro s hs ro m cx σ a w Q r hq
    simp only [sk, Option.map_eq_some_iff] at hs
    obtain ⟨sc, hc, rfl⟩ := hs
    obtain ⟨I, m0, hI, hround⟩ := hq
    let R : Act → World → Nat → Prop := fun a w k => ∃ σ, RX P ro cx n σ a w ∧ I k σ
    let M : Act → World → Nat := fun a w => @dite _ (∃ k, R a w k) (Classical.propDecidable _) (fun h => Classical.choose (least h)) (fun _ => 0)
    have hM : ∀ a w (h : ∃ k, R a w k), R a w (M a w) ∧ ∀ k, R a w k → M a w ≤ k := by
      intro a w h
      have := Classical.choose_spec (least h)
      simp only [M, dif_pos h]
      exact this
    refine wpIn_loop (fun a w => ∃ k, R a w k) M ⟨m0, σ, r, hI⟩ ?_
    rintro a' w' hex'
    obtain ⟨⟨σ', r', hI'⟩, _⟩ := hM a' w' hex'
    obtain ⟨σv, hview, hb⟩ := hround _ σ' hI'
    refine wpIn_mono (ih hc (RX.view r' hview) hb) ?_
    rintro e a2 w2 ⟨σ2, h2, r2⟩
    cases e <;> try exact ⟨σ2, h2, r2⟩
    obtain ⟨m', hlt, hI2⟩ := h2
    have hex2 : ∃ k, R a2 w2 k := ⟨m', σ2, r2, hI2⟩
    refine ⟨hex2, ?_⟩
    have := (hM a2 w2 hex2).2 m' ⟨σ2, r2, hI2⟩
    omega
  | rangeFunc g ps x y ihx ihy =>
    intro s hs ro m cx σ a w Q r hq
    simp only [sk] at hs
    split at hs
    · rename_i hp
      simp only [Option.bind_eq_some_iff, Option.map_eq_some_iff] at hs
      obtain ⟨sx, hx, sy, hy, rfl⟩ := hs
      exact range_sound r (ihx hx) (ihy hy) (fun p hp' => by simpa using List.all_eq_true.1 hp p hp') hq
    · simp at hs
  | exit id => intro s hs ro m cx σ a w Q r hq; simp [sk] at hs; subst hs; exact wpIn_exit ⟨_, hq, r⟩
  | ret => intro s hs ro m cx σ a w Q r hq; simp [sk] at hs; subst hs; exact wpIn_ret ⟨_, hq, r⟩
  | goto l => intro s hs; simp [sk] at hs
  | scope b ih => intro s hs; simp [sk] at hs
  | refuse why => intro s hs; simp [sk] at hs
end
def resL (P : Program) (σ : St) : ResultVar → Option LV
  | .tmp t => some (σ.ρ t)
  | .cell a t => (lay P t).bind fun l => loadA σ.h l.1 l.2 (σ.ρ a)
def retC (own : Nat → Bool) (h : AH) (lv : LV) : RC → Prop
  | .fx x => peek own h 6 lv = some x
  | .own e es nil xs => ∃ o g, lv = .gl o g ∧ own o = false ∧ h.gen o ≠ 0 ∧ h.lst o g = some (e, es, false, nil, xs)
def ownNames : List LV → List RC → List Nat
  | .gl o _ :: ls, .own .. :: cs => o :: ownNames ls cs
  | _ :: ls, _ :: cs => ownNames ls cs
  | _, _ => []
def retS (own : Nat → Bool) (h : AH) : List LV → List RC → Prop
  | [], [] => True
  | l :: ls, c :: cs => retC own h l c ∧ retS own h ls cs
  | _, _ => False
def retSub (own : Nat → Bool) (h : AH) (lv : LV) (c : RC) : Prop :=
  ∃ o g e es j ys, lv = .sub o g es 0 j ∧ c = .own e es false (ys.take j) ∧ own o = false ∧ h.gen o ≠ 0 ∧ j ≤ ys.length ∧ h.lst o g = some (e, es, false, false, ys)
def retL (own : Nat → Bool) (h : AH) (ls : List LV) (r : RV) : Prop :=
  match ls, r with
  | [l], .one c => retC own h l c ∨ retSub own h l c
  | [_], .tup _ => False
  | ls, .tup cs => retS own h ls cs ∧ (ownNames ls cs).Nodup
  | _, _ => False
def resAll (P : Program) (σ : St) : List ResultVar → Option (List LV)
  | [] => some []
  | r :: rs => (resL P σ r).bind fun l => (resAll P σ rs).map (l :: ·)
inductive MObj where
  | list (e es : Nat) (nil : Bool) (xs : List FV)
  | box (cells : List FV)
def MObj.ob : MObj → AObj
  | .list e es nil xs => .list e es false nil xs
  | .box cs => .box (cs.map .fv)
inductive MArg where
  | fo (x : FV)
  | fn (g : List FV → Option FV)
  | sq (xs : List (List FV))
  | ml (i : Nat)
  | mp (i off : Nat)
def MArg.lv : MArg → LV
  | .fo x => .fv x
  | .fn g => .fn g
  | .sq xs => .sq xs
  | .ml i => .gl i 0
  | .mp i off => .ptr i 0 off
def Arg.m : Arg → MArg
  | .fo x => .fo x
  | .fn g => .fn g
  | .sq xs => .sq xs
def retM (own : Nat → Bool) (h : AH) (i : Nat) : MObj → Prop
  | .list e es nil xs => h.obj i = some (.list e es false nil xs)
  | .box cs => ∃ cells, h.obj i = some (.box cells) ∧ mapO (peek own h 6) cells = some cs
def retMs (own : Nat → Bool) (h : AH) : Nat → List MObj → Prop
  | _, [] => True
  | i, m :: ms => own i = false ∧ h.gen i = 0 ∧ retM own h i m ∧ retMs own h (i + 1) ms
def retPost (P : Program) (rs : List ResultVar) (r : RV) (ms : List MObj) (e : Exit) (σ : St) : Prop :=
  match e with
  | .normal | .ret => ∃ ls own, resAll P σ rs = some ls ∧ retL own σ.h ls r ∧ retMs own σ.h 0 ms
  | _ => False
def st0 (args : List MArg) (ms : List MObj) : St := ⟨fun i => (args[i]?).elim .undef MArg.lv, ⟨fun _ => 0, fun i => (ms[i]?).map MObj.ob, some []⟩⟩
theorem enters_of {P : Program} {f : Nat} {fn : Func} (hf : P.funcs[f]? = some fn) (hb : fn.body.isNone = false) (hn : (fn.name == "runtime.NumGoroutine") = false) : Enters P f := by
  intro args w
  have hn' : ¬ fn.name = "runtime.NumGoroutine" := by simpa using hn
  have hb' : ¬ fn.body = none := by intro h; rw [h] at hb; simp at hb
  simp [callFunc, program, Sem.run, hf, hn', hb']
section
variable {P : Program}
theorem retC_sound {cx : Cx} {w : World} {D : Nat → Prop} {an : Nat → Value} {h : AH} (H : Heap P cx h w D an) {own : Nat → Bool} {l : LV} {c : RC} {v : Value} (hv : LVRep P w D h.gen an v l) (hc : retC own h l c)
    (how : ∀ o ob b, h.gen o ≠ 0 → h.obj o = some ob → blk (an o) = some b → cx.wi.heap.size ≤ b) : RCRep w (Lent own D h an) cx.wi.heap.size v c := by
  cases c with
  | fx x => exact peek_sound H own 6 l v x hv hc
  | own e es nil xs =>
    obtain ⟨o, g, rfl, ho, hg0, hl⟩ := hc
    obtain ⟨rfl, hobj⟩ := AH.lst_spec hl
    obtain ⟨hown, hfz⟩ := H.obj o _ hobj
    cases hv with
    | gl _ _ _ hp hg he =>
      have := he rfl
      subst this
      have hge : ∀ b, blk (an o) = some b → cx.wi.heap.size ≤ b := fun b hb => how o _ b hg0 hobj hb
      obtain ⟨vs, hvo, r⟩ := hown.keep (D' := Lent own D h an) (fun b hb => .inl hb) (fun _ _ => rfl) fun _ _ => rfl
      refine ⟨⟨vs, ⟨hvo.1, ?_⟩, r⟩, fun b hb hL => ?_⟩
      · rcases hvo.2 with hn | ⟨g', cap, cur, ha, _, r⟩
        · exact .inl hn
        · exact .inr ⟨g', cap, cur, ha, hge g' (by rw [ha]; rfl), r⟩
      · rcases hL with hD | ⟨o', ob', ho', hob', hb'⟩
        · exact (hfz b hb).2 rfl hD
        · have := H.sep o' o b ob' _ hob' hobj hb' hb
          subst this
          rw [ho] at ho'; simp at ho'
theorem retSub_sound {cx : Cx} {w : World} {D : Nat → Prop} {an : Nat → Value} {h : AH} (H : Heap P cx h w D an) {own : Nat → Bool} {l : LV} {c : RC} {v : Value} (hv : LVRep P w D h.gen an v l) (hc : retSub own h l c)
    (how : ∀ o ob b, h.gen o ≠ 0 → h.obj o = some ob → blk (an o) = some b → cx.wi.heap.size ≤ b) : RCRep w (Lent own D h an) cx.wi.heap.size v c := by
  obtain ⟨o, g, e, es, j, ys, rfl, rfl, ho, hg0, hj, hl⟩ := hc
  obtain ⟨rfl, hobj⟩ := AH.lst_spec hl
  cases hv with
  | sub _ _ _ _ _ _ hp hg he =>
    obtain ⟨_, b, n, cap, ha, hjn, rfl⟩ := he rfl
    have ev : Value.slice (some ⟨b, if cap = 0 then 0 else 0 * es, none⟩) (j - 0) (cap - 0) = .slice (some ⟨b, 0, none⟩) j cap := by simp
    rw [ev]
    obtain ⟨⟨vs, hown, hnil, hes, hlen, hrep⟩, hfz⟩ := H.obj o _ hobj
    have hge : cx.wi.heap.size ≤ b := how o _ b hg0 hobj (by rw [ha]; rfl)
    rcases hown.2 with ⟨hn, hz⟩ | ⟨b', cap', cur, ha', hB, hw, hnc, hcm, hcs, htake⟩
    · rw [ha] at hn; simp at hn
    rw [ha] at ha'
    simp only [Value.slice.injEq, Option.some.injEq, Addr.mk.injEq, and_true, true_and] at ha'
    obtain ⟨rfl, rfl, rfl⟩ := ha'
    have hl2 : (ys.take j).length = j := by simp; omega
    have hvl : vs.length = ys.length * es := hown.1
    have hje : j * es ≤ ys.length * es := Nat.mul_le_mul_right _ hj
    refine ⟨⟨vs.take (j * es), ⟨by rw [hl2]; simp; omega, .inr ⟨b, cap, cur, by rw [hl2], hge, hw, by rw [hl2]; omega, hcm, hcs, ?_⟩⟩, ⟨fun h => by simp at h, fun h => by simp at h⟩, hes, fun x hx => hlen x (List.mem_of_mem_take hx), ?_⟩, fun b' hb' hL => ?_⟩
    · rw [hl2, ← htake, List.take_take]
      congr 1; omega
    · intro k y u hy hu
      rw [flat_take _ _ fun x hx => (hlen x hx).1, List.getElem?_take] at hy
      rw [List.getElem?_take] at hu
      split at hy
      · rename_i hk
        rw [if_pos hk] at hu
        exact (hrep k y u hy hu).keep (fun b hb => .inl hb) fun _ _ => rfl
      · simp at hy
    · simp only [blk, Option.some.injEq] at hb'
      subst hb'
      rcases hL with hD | ⟨o', ob', ho', hob', hb'⟩
      · exact (hfz b (by rw [ha]; rfl)).2 rfl hD
      · have := H.sep o' o b ob' _ hob' hobj hb' (by rw [ha]; rfl)
        subst this
        rw [ho] at ho'; simp at ho'
theorem resL_sound {cx : Cx} {w : World} {D : Nat → Prop} {n : Nat} {σ : St} {a : Act} {an : Nat → Value} {ro : Option Nat} (r : RS P ro cx n σ a w D an) {rv : ResultVar} {l : LV} (hl : resL P σ rv = some l) :
    ∃ v, (match rv with | .tmp t => pure (a.tmps.getD t Go.undef) | .cell b t => do loadVar t (← asAddr (a.tmps.getD b Go.undef)) : Sem Value).run P w = .ok v w ∧ LVRep P w D σ.h.gen an v l := by
  cases rv with
  | tmp t => simp [resL] at hl; subst hl; exact ⟨_, rfl, r.slots t⟩
  | cell b t =>
    simp only [resL, Option.bind_eq_some_iff] at hl
    obtain ⟨⟨agg, k⟩, hlay, hl⟩ := hl
    obtain ⟨Y, hY, H⟩ := r.heap.heap
    obtain ⟨u, hr, hu⟩ := loadA_sound H hlay (r.slots b) hl
    refine ⟨u, ?_, hu⟩
    rw [← hr]
    -- the address is there
    have hp : ∃ ad, a.tmps.getD b Go.undef = .pointer (some ad) := by
      have hs := r.slots b
      unfold loadA at hl
      split at hl
      · rename_i o g off he
        rw [he] at hs
        generalize a.tmps.getD b Go.undef = v at hs ⊢
        cases hs with
        | ptr _ _ _ _ hp => obtain ⟨b', k', e⟩ := hp; exact ⟨_, e⟩
      · rename_i cs he
        rw [he] at hs
        obtain ⟨b', off, e, _⟩ := hs.fv_inv.ptr_inv
        exact ⟨_, e⟩
      · rename_i cs he
        rw [he] at hs
        generalize a.tmps.getD b Go.undef = v at hs ⊢
        cases hs with
        | pb => exact ⟨_, rfl⟩
      · rename_i o g es i off he
        rw [he] at hs
        generalize a.tmps.getD b Go.undef = v at hs ⊢
        cases hs with
        | elem _ _ _ _ _ _ hp => obtain ⟨b', k', e⟩ := hp; exact ⟨_, e⟩
      · simp at hl
    obtain ⟨ad, hp⟩ := hp
    simp only [Instr.loadAt, Instr.sureAddr, asAddr, hp, Sem.run_bind, Sem.run_pure, Result.andThen_ok]
theorem resAll_sound {cx : Cx} {w : World} {D : Nat → Prop} {n : Nat} {σ : St} {a : Act} {an : Nat → Value} {ro : Option Nat} (r : RS P ro cx n σ a w D an) : ∀ (rs : List ResultVar) {ls : List LV}, resAll P σ rs = some ls →
    ∃ vs : List Value, vs.length = ls.length ∧ (rs.mapM fun
      | .tmp t => pure (a.tmps.getD t Go.undef)
      | .cell b t => do loadVar t (← asAddr (a.tmps.getD b Go.undef)) : Sem (List Value)).run P w = .ok vs w ∧ ∀ (j : Nat) (l : LV) (v : Value), ls[j]? = some l → vs[j]? = some v → LVRep P w D σ.h.gen an v l := by
  intro rs
  induction rs with
  | nil => intro ls h; simp [resAll] at h; subst h; exact ⟨[], rfl, by simp, by simp⟩
  | cons rv rs ih =>
    intro ls h
    simp only [resAll, Option.bind_eq_some_iff, Option.map_eq_some_iff] at h
    obtain ⟨l, hl, ls', hls, rfl⟩ := h
    obtain ⟨v, hv1, hv2⟩ := resL_sound r hl
    obtain ⟨vs, e1, e2, e3⟩ := ih hls
    refine ⟨v :: vs, by simp [e1], ?_, ?_⟩
    · rw [List.mapM_cons]
      cases rv <;> simp only [Sem.run_bind, Sem.run_pure, Result.andThen_ok] at hv1 ⊢ <;> simp only [hv1, e2, Result.andThen_ok, Sem.run_bind, Sem.run_pure]
      simp at hv1
      rw [hv1.symm]
      simp [e2]
    · intro j l' v' h1 h2
      cases j with
      | zero => simp at h1 h2; subst h1; subst h2; exact hv2
      | succ j => exact e3 j l' v' (by simpa using h1) (by simpa using h2)
end
end Abs

