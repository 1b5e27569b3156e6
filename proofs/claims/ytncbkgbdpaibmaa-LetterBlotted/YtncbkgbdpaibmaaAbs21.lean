/- A part of the proof: Abs21, Abs22. -/
import Derived.Test.YtncbkgbdpaibmaaAbs17
set_option linter.unusedSimpArgs false
set_option linter.unusedVariables false
namespace Abs
open Go
open Go.RowKit (Below)
def avoid (N : List Nat) (deep : Bool) (h : AH) : Nat → LV → Bool
  | 0, _ => false
  | n + 1, lv =>
    match lv with
    | .gl o _ => !N.contains o
    | .sub o _ _ _ _ => !N.contains o
    | .mp o _ => !N.contains o
    | .it o _ => !N.contains o
    | .elem o _ _ _ _ => !N.contains o
    | .ptr o _ _ => !N.contains o && (!deep || (match h.obj o with | some (.box cs) => cs.all (avoid N deep h n) | _ => true))
    | .clos _ caps => caps.all (avoid N deep h n)
    | .agg cs => cs.all (avoid N deep h n)
    | .bnd _ cs => cs.all (avoid N deep h n)
    | _ => true
structure Agree (N : List Nat) (h h' : AH) : Prop where
  at' : ∀ o, o ∉ N → h'.gen o = h.gen o ∧ h'.obj o = h.obj o
  y : h'.y = h.y
instance {N : List Nat} {h h' : AH} : CoeFun (Agree N h h') (fun _ => ∀ o, o ∉ N → h'.gen o = h.gen o ∧ h'.obj o = h.obj o) := ⟨Agree.at'⟩
def mergeH (N : List Nat) (h g : AH) : AH := ⟨fun o => if o ∈ N then g.gen o else h.gen o, fun o => if o ∈ N then g.obj o else h.obj o, h.y⟩
theorem AH.ext' {h g : AH} (h1 : ∀ o, h.gen o = g.gen o) (h2 : ∀ o, h.obj o = g.obj o) (h3 : h.y = g.y) : h = g := by
  cases h; cases g
  simp only [AH.mk.injEq]
  exact ⟨funext h1, funext h2, h3⟩
theorem Agree.symm {N : List Nat} {h h' : AH} (a : Agree N h h') : Agree N h' h := ⟨fun o ho => ⟨(a o ho).1.symm, (a o ho).2.symm⟩, a.y.symm⟩
theorem Agree.box {N : List Nat} {h h' : AH} (a : Agree N h h') {o g : Nat} (ho : o ∉ N) : h'.box o g = h.box o g := by
  simp only [AH.box, (a o ho).1, (a o ho).2]
theorem Agree.mpo {N : List Nat} {h h' : AH} (a : Agree N h h') {o g : Nat} (ho : o ∉ N) : h'.mpo o g = h.mpo o g := by
  simp only [AH.mpo, (a o ho).1, (a o ho).2]
theorem Agree.lst {N : List Nat} {h h' : AH} (a : Agree N h h') {o g : Nat} (ho : o ∉ N) : h'.lst o g = h.lst o g := by
  simp only [AH.lst, (a o ho).1, (a o ho).2]
section
variable {P : Program} {N : List Nat} {h h' : AH}
theorem not_mem_of {o : Nat} (hc : (!N.contains o) = true) : o ∉ N := by simpa using hc
theorem Agree.avoid (a : Agree N h h') {deep : Bool} : ∀ {n : Nat} {lv : LV}, avoid N deep h n lv = true → avoid N deep h' n lv = true := by
  intro n
  induction n with
  | zero => intro lv hq; simp [Abs.avoid] at hq
  | succ n ih =>
    intro lv hq
    cases lv <;> simp only [Abs.avoid] at hq ⊢ <;> (try exact hq)
    · rename_i o g off
      simp only [Bool.and_eq_true] at hq ⊢
      refine ⟨hq.1, ?_⟩
      rw [(a o (not_mem_of hq.1)).2]
      have := hq.2
      cases deep
      · rfl
      · simp only [Bool.not_true, Bool.false_or] at this ⊢
        split
        · rename_i cs hcs
          simp only [hcs] at this
          rw [List.all_eq_true] at this ⊢
          exact fun c hc => ih (this c hc)
        · rfl
    · rw [List.all_eq_true] at hq ⊢; exact fun c hc => ih (hq c hc)
    · rw [List.all_eq_true] at hq ⊢; exact fun c hc => ih (hq c hc)
    · rw [List.all_eq_true] at hq ⊢; exact fun c hc => ih (hq c hc)
theorem mapO_congr {f g : LV → Option FV} {cs : List LV} (hfg : ∀ c ∈ cs, f c = g c) : mapO f cs = mapO g cs := by
  induction cs with
  | nil => rfl
  | cons c cs ih => simp only [mapO, hfg c (by simp), ih fun c hc => hfg c (by simp [hc])]
theorem Agree.peek (a : Agree N h h') {own : Nat → Bool} : ∀ {n : Nat} {lv : LV}, Abs.avoid N true h n lv = true → peek own h' n lv = peek own h n lv := by
  intro n
  induction n with
  | zero => intro lv _; rfl
  | succ n ih =>
    intro lv hq
    cases lv <;> simp only [Abs.avoid] at hq <;> simp only [Abs.peek]
    · rename_i o g
      rw [a.lst (not_mem_of hq)]
    · rename_i o g off
      simp only [Bool.and_eq_true, Bool.not_true, Bool.false_or] at hq
      rw [a.box (not_mem_of hq.1)]
      split
      · cases hb : h.box o g with
        | none => rfl
        | some cs =>
          simp only [Option.bind_some]
          have hob : h.obj o = some (.box cs) := by
            unfold AH.box at hb
            split at hb
            · split at hb
              · rename_i e; simp at hb; subst hb; exact e
              · simp at hb
            · simp at hb
          rw [hob] at hq
          rw [mapO_congr fun c hc => ih (List.all_eq_true.1 hq.2 c (List.mem_of_mem_drop hc))]
      · rfl
    · rename_i o g
      rw [a.mpo (not_mem_of hq)]
    · rename_i f caps
      rw [mapO_congr fun c hc => ih (List.all_eq_true.1 hq c hc)]
    · rename_i cs
      rw [mapO_congr fun c hc => ih (List.all_eq_true.1 hq c hc)]
theorem Agree.quiet (a : Agree N h h') {op : Op} {ev : Operand → LV} (hav : ∀ x ∈ op.operands, Abs.avoid N false h 6 (ev x) = true) {lv : LV} (hq : quietV P op ev h = some lv) : quietV P op ev h' = some lv := by
  by_cases hp : isPure op = true
  · rw [pure_heap hp ev h' h]; exact hq
  · cases op <;> (try (simp [isPure] at hp; done)) <;> (try exact hq)
    case load t x =>
      have hx := hav x (by simp [Op.operands])
      simp only [quietV] at hq ⊢
      cases hl : lay P t with
      | none => rw [hl] at hq; simp at hq
      | some l =>
        rw [hl] at hq
        simp only [Option.bind_some] at hq ⊢
        unfold loadA at hq ⊢
        split at hq
        · rename_i o g off he
          rw [he] at hx
          simp only [Abs.avoid, Bool.and_eq_true] at hx
          simp only [a.box (not_mem_of hx.1)]; exact hq
        · exact hq
        · exact hq
        · rename_i o g es i off he
          rw [he] at hx
          simp only [Abs.avoid] at hx
          simp only [a.lst (not_mem_of hx)]; exact hq
        · simp at hq
    case binOp op t x y t' =>
      have hx := hav x (by simp [Op.operands])
      have heq : ∀ {u v : LV} {b : Bool}, Abs.avoid N false h 6 u = true → eqV P h t u v = some b → eqV P h' t u v = some b := by
        intro u v b hu hb
        unfold eqV at hb ⊢
        split at hb
        · exact hb
        · exact hb
        · rename_i w _ _
          unfold nilEq at hb ⊢
          split at hb <;> (try exact hb)
          rename_i o g _ _
          simp only [Abs.avoid] at hu
          rw [a.lst (not_mem_of hu)]; exact hb
        · simp at hb
      simp only [quietV] at hq ⊢
      split at hq
      · exact hq
      · split at hq
        · simp only [Option.map_eq_some_iff] at hq ⊢
          obtain ⟨b, hb, e⟩ := hq
          exact ⟨b, heq hx hb, e⟩
        · simp only [Option.map_eq_some_iff] at hq ⊢
          obtain ⟨b, hb, e⟩ := hq
          exact ⟨b, heq hx hb, e⟩
        · first | (simp at hq; done) | exact hq
    case indexAddr t x i =>
      have hx := hav x (by simp [Op.operands])
      simp only [quietV] at hq ⊢
      cases hn : intOf (ev i) with
      | none => rw [hn] at hq; simp at hq
      | some n =>
        rw [hn] at hq
        simp only [Option.bind_some] at hq ⊢
        unfold indexA at hq ⊢
        cases hi : idx P t with
        | none => rw [hi] at hq; simp at hq
        | some q =>
          rw [hi] at hq
          simp only [Option.bind_some] at hq ⊢
          split at hq <;> (try exact hq)
          rename_i e agg s o g he
          rw [he] at hx
          simp only [Abs.avoid] at hx
          rw [a.lst (not_mem_of hx)]; exact hq
    case sliceToArrayPointer t x =>
      have hx := hav x (by simp [Op.operands])
      have e : viewL h' (ev x) = viewL h (ev x) := by
        unfold viewL
        split
        · rename_i o g he
          rw [he] at hx
          simp only [Abs.avoid] at hx
          rw [a.lst (not_mem_of hx)]
        · rfl
      simp only [quietV] at hq ⊢
      rw [e]; exact hq
    case slice t x lo hi mx =>
      have hx := hav x (by simp [Op.operands])
      have e : viewL h' (ev x) = viewL h (ev x) := by
        unfold viewL
        split
        · rename_i o g he
          rw [he] at hx
          simp only [Abs.avoid] at hx
          rw [a.lst (not_mem_of hx)]
        · rfl
      simp only [quietV] at hq ⊢
      rw [e]
      have hgl : ∀ o g, viewL h (ev x) = .gl o g → ev x = .gl o g := by
        intro o g
        unfold viewL
        split
        · rename_i he
          split
          · intro h; simp at h
          · intro h; rw [he]; exact h
        · exact id
      have hl : ∀ o g, viewL h (ev x) = .gl o g → h'.lst o g = h.lst o g := by
        intro o g he
        rw [hgl o g he] at hx
        simp only [Abs.avoid] at hx
        exact a.lst (not_mem_of hx)
      generalize viewL h (ev x) = vx at hq hl ⊢
      cases hi : idx P t with
      | none => rw [hi] at hq; simp at hq
      | some q =>
        rw [hi] at hq
        simp only [Option.bind_some] at hq ⊢
        obtain ⟨q1, q2, q3, q4⟩ := q
        cases q1 with
        | some n => simp at hq
        | none =>
          cases vx with
          | gl o g => simp only [hl o g rfl]; exact hq
          | fv x =>
            cases x with
            | list full xs => exact hq
            | val v =>
              cases v with
              | slice ad n c =>
                cases ad with
                | none => cases n with
                  | zero => cases c with
                    | zero => exact hq
                    | succ c => simp at hq
                  | succ n => simp at hq
                | some ad => simp at hq
              | _ => simp at hq
            | _ => simp at hq
          | _ => simp at hq
    case call c =>
      obtain ⟨callee, args, tys⟩ := c
      cases callee <;> (try exact hq)
      rename_i b
      cases b <;> (try exact hq)
      simp only [quietV] at hq ⊢
      split at hq
      · rename_i x t ha ht
        have hx := hav x (by simp only [Op.operands, Call.operands]; rw [Array.mem_append]; right; rw [← Array.mem_toList_iff, ha]; simp)
        split at hq
        · rename_i e hu
          simp only [Option.map_eq_some_iff] at hq ⊢
          obtain ⟨n, hn, e⟩ := hq
          refine ⟨n, ?_, e⟩
          unfold lenV at hn ⊢
          split at hn <;> (try exact hn)
          · rename_i o g he
            rw [he] at hx
            simp only [Abs.avoid] at hx
            rw [a.lst (not_mem_of hx)]; exact hn
          · rename_i o g es i j he
            rw [he] at hx
            simp only [Abs.avoid] at hx
            rw [a.lst (not_mem_of hx)]; exact hn
        · rename_i kt e hu
          simp only [Option.map_eq_some_iff] at hq ⊢
          obtain ⟨n, hn, e⟩ := hq
          refine ⟨n, ?_, e⟩
          unfold lenM at hn ⊢
          split at hn <;> (try exact hn)
          rename_i o g he
          rw [he] at hx
          simp only [Abs.avoid] at hx
          rw [a.mpo (not_mem_of hx)]; exact hn
        · exact hq
        · simp at hq
      · simp at hq
end
end Abs

namespace Abs
open Go
open Go.RowKit (Below)
def callE0 (P : Program) (d : Option Nat) (f : LV) (args : List LV) (h : AH) (K : LV → AH → Prop) : Prop :=
  ∃ (os : List Nat) (own : Bool),
    match f with
    | .clos f caps => ∃ as cs r, argsOf P (fun _ => own) (h.frzObjs os) args as ∧ mapO (peek (fun _ => own) (h.frzObjs os) 6) caps = some cs ∧ Fn P f (as ++ cs.map .fo) r ∧ (own = false ∨ r.shallow = true) ∧
        K (impR (h.frzObjs os) d r).1 (impR (h.frzObjs os) d r).2
    | .fv (.clos f cs) => ∃ as r, argsOf P (fun _ => own) (h.frzObjs os) args as ∧ Fn P f (as ++ cs.map .fo) r ∧ (own = false ∨ r.shallow = true) ∧
        K (impR (h.frzObjs os) d r).1 (impR (h.frzObjs os) d r).2
    | .fn g => ∃ xs r, mapO (peek (fun _ => own) (h.frzObjs os) 6) args = some xs ∧ g xs = some r ∧ (own = false ∨ r.shallow = true) ∧ K (.fv r) (h.frzObjs os)
    | _ => False
def stepE0 (P : Program) (d : Option Nat) (op : Op) (ty : Nat) (ev : Operand → LV) (h : AH) (K : LV → AH → Prop) : Prop :=
  match op with
  | .call { callee := .value f, args := args, .. } => callE0 P d (ev f) (args.toList.map ev) h K
  | op => if isEff op then effV P d op ty ev h K else ∃ lv, quietV P op ev h = some lv ∧ K lv h
structure Tr (N : List Nat) (g h' g' : AH) : Prop where
  at' : ∀ o, (o ∉ N → g'.gen o = h'.gen o ∧ g'.obj o = h'.obj o) ∧ (o ∈ N → g'.gen o = g.gen o ∧ g'.obj o = g.obj o)
  y : g'.y = h'.y
instance {N : List Nat} {g h' g' : AH} : CoeFun (Tr N g h' g') (fun _ => ∀ o, (o ∉ N → g'.gen o = h'.gen o ∧ g'.obj o = h'.obj o) ∧ (o ∈ N → g'.gen o = g.gen o ∧ g'.obj o = g.obj o)) := ⟨Tr.at'⟩
section
variable {P : Program} {N W : List Nat} {h g : AH}
theorem callE0_callE {d : Option Nat} {f : LV} {args : List LV} {K : LV → AH → Prop} (hq : callE0 P d f args h K) : callE P d f args h K := by
  exact hq
theorem isMap_eff {op : Op} (h : isMap op = true) : isEff op = false := by
  cases op <;> first | rfl | (simp [isMap] at h; done)
theorem isMap_quiet {op : Op} (h : isMap op = true) {ev : Operand → LV} {h' : AH} : quietV P op ev h' = none := by
  cases op <;> first | rfl | (simp [isMap] at h; done)
theorem stepE0_stepE {d : Option Nat} {op : Op} {ty : Nat} {ev : Operand → LV} {K : LV → AH → Prop} (hq : stepE0 P d op ty ev h K) : stepE P d op ty ev h K := by
  unfold stepE0 at hq
  unfold stepE
  split
  · exact .inl (callE0_callE hq)
  · rename_i op' hne
    split at hq
    · exact (hne _ _ _ rfl).elim
    · split
      · rename_i hm
        rw [if_neg (by rw [isMap_eff hm]; simp)] at hq
        obtain ⟨lv, h1, _⟩ := hq
        rw [isMap_quiet hm] at h1; simp at h1
      · exact hq
theorem Agree.tr (a : Agree N h g) : Tr N g h g := ⟨fun o => ⟨fun ho => a o ho, fun _ => ⟨rfl, rfl⟩⟩, a.y⟩
theorem Tr.agree {h' g' : AH} (t : Tr N g h' g') : Agree N h' g' := ⟨fun o ho => (t o).1 ho, t.y⟩
theorem Tr.new {h' g' : AH} (t : Tr N g h' g') {d : Nat} (hd : d ∉ N) (ob : AObj) : Tr N g (h'.new d ob) (g'.new d ob) := by
  refine ⟨?_, t.y⟩
  intro o
  refine ⟨fun ho => ?_, fun ho => ?_⟩
  · have := (t o).1 ho
    simp only [AH.new, upd]
    by_cases e : o = d
    · subst e; simp [this]
    · simp [e, this]
  · have := (t o).2 ho
    have e : o ≠ d := by rintro rfl; exact hd ho
    simp [AH.new, upd, e, this]
theorem Tr.set {h' g' : AH} (t : Tr N g h' g') {d : Nat} (hd : d ∉ N) (ob : AObj) : Tr N g (h'.set d ob) (g'.set d ob) := by
  refine ⟨?_, t.y⟩
  intro o
  refine ⟨fun ho => ?_, fun ho => ?_⟩
  · have := (t o).1 ho
    simp only [AH.set, upd]
    by_cases e : o = d
    · subst e; simp [this]
    · simp [e, this]
  · have := (t o).2 ho
    have e : o ≠ d := by rintro rfl; exact hd ho
    simp [AH.set, upd, e, this]
theorem Tr.renew {h' g' : AH} (t : Tr N g h' g') {d : Nat} (hd : d ∉ N) (k : Nat) (ob : AObj) : Tr N g (h'.renew d k ob) (g'.renew d k ob) := by
  refine ⟨?_, t.y⟩
  intro o
  refine ⟨fun ho => ?_, fun ho => ?_⟩
  · have := (t o).1 ho
    simp only [AH.renew, upd]
    by_cases e : o = d
    · subst e; simp
    · simp [e, this]
  · have := (t o).2 ho
    have e : o ≠ d := by rintro rfl; exact hd ho
    simp [AH.renew, upd, e, this]
theorem new_mem {h' : AH} {d : Nat} {ob : AObj} (ha : Agree W h (h'.new d ob)) (hle : h.gen d ≤ h'.gen d) : d ∈ W := by
  apply Classical.byContradiction
  intro hd
  have := (ha d hd).1
  simp [AH.new, upd] at this
  omega
theorem frz1_frame {lv : LV} {x : FV} {h' : AH} (a : Agree N h g) (hav : avoid N false h 6 lv = true) (hq : frz1 h lv = some (x, h')) : ∃ g', frz1 g lv = some (x, g') ∧ Tr N g h' g' ∧ h'.gen = h.gen := by
  unfold frz1 at hq
  split at hq
  · simp at hq; obtain ⟨rfl, rfl⟩ := hq; exact ⟨g, rfl, a.tr, rfl⟩
  · rename_i o gn
    simp only [avoid] at hav
    have ho := not_mem_of hav
    simp only [Option.map_eq_some_iff] at hq
    obtain ⟨l, hl, hq⟩ := hq
    simp only [Prod.mk.injEq] at hq
    obtain ⟨rfl, rfl⟩ := hq
    exact ⟨_, by simp only [frz1, a.lst ho, hl, Option.map_some], a.tr.set ho _, rfl⟩
  · simp at hq
theorem Tr.trans' {g g1 g2 h1 h2 : AH} (t1 : Tr N g h1 g1) (t2 : Tr N g1 h2 g2) : Tr N g h2 g2 := ⟨fun o => ⟨(t2 o).1, fun ho => ⟨((t2 o).2 ho).1.trans ((t1 o).2 ho).1, ((t2 o).2 ho).2.trans ((t1 o).2 ho).2⟩⟩, t2.y⟩
theorem avoid_gen {h h1 : AH} : ∀ (n : Nat) (lv : LV), avoid N false h n lv = true → avoid N false h1 n lv = true := by
  intro n
  induction n with
  | zero => intro lv hq; simp [avoid] at hq
  | succ n ihn =>
    intro lv hq
    cases lv <;> simp only [avoid] at hq ⊢ <;> (try exact hq)
    · rw [List.all_eq_true] at hq ⊢; exact fun c hc => ihn c (hq c hc)
    · rw [List.all_eq_true] at hq ⊢; exact fun c hc => ihn c (hq c hc)
    · rw [List.all_eq_true] at hq ⊢; exact fun c hc => ihn c (hq c hc)
theorem frzS_frame : ∀ {cs : List LV} {h g : AH} {xs : List FV} {h' : AH}, Agree N h g → (∀ c ∈ cs, avoid N false h 6 c = true) → frzS h cs = some (xs, h') → ∃ g', frzS g cs = some (xs, g') ∧ Tr N g h' g' ∧ h'.gen = h.gen := by
  intro cs
  induction cs with
  | nil => intro h g xs h' a _ hq; simp [frzS] at hq; obtain ⟨rfl, rfl⟩ := hq; exact ⟨g, rfl, a.tr, rfl⟩
  | cons c cs ih =>
    intro h g xs h' a hav hq
    simp only [frzS, Option.bind_eq_some_iff, Option.map_eq_some_iff] at hq
    obtain ⟨⟨r, h1⟩, hr1, ⟨rs, h2⟩, hr2, hq⟩ := hq
    simp only [Prod.mk.injEq] at hq
    obtain ⟨rfl, rfl⟩ := hq
    obtain ⟨g1, e1, t1, q1⟩ := frz1_frame a (hav c (by simp)) hr1
    have hav' : ∀ c ∈ cs, avoid N false h1 6 c = true := fun c hc => avoid_gen 6 c (hav c (by simp [hc]))
    obtain ⟨g2, e2, t2, q2⟩ := ih t1.agree hav' hr2
    exact ⟨g2, by simp [frzS, e1, e2], t1.trans' t2, q2.trans q1⟩
theorem avoid_ptr {deep : Bool} {h : AH} {n o g off : Nat} : avoid N deep h (n + 1) (.ptr o g off) = (!N.contains o && (!deep || (match h.obj o with | some (.box cs) => cs.all (avoid N deep h n) | _ => true))) := rfl
theorem avoid_clos {deep : Bool} {h : AH} {n f : Nat} {cs : List LV} : avoid N deep h (n + 1) (.clos f cs) = cs.all (avoid N deep h n) := rfl
theorem avoid_bnd {deep : Bool} {h : AH} {n f : Nat} {cs : List LV} : avoid N deep h (n + 1) (.bnd f cs) = cs.all (avoid N deep h n) := rfl
theorem avoid_agg {deep : Bool} {h : AH} {n : Nat} {cs : List LV} : avoid N deep h (n + 1) (.agg cs) = cs.all (avoid N deep h n) := rfl
theorem avoid_succ {deep : Bool} {h : AH} : ∀ (n : Nat) (lv : LV), avoid N deep h n lv = true → avoid N deep h (n + 1) lv = true := by
  intro n
  induction n with
  | zero => intro lv hq; simp [avoid] at hq
  | succ n ihn =>
    intro lv hq
    cases lv with
    | ptr o g off =>
      rw [avoid_ptr] at hq ⊢
      simp only [Bool.and_eq_true, Bool.or_eq_true] at hq ⊢
      refine ⟨hq.1, hq.2.imp id fun h2 => ?_⟩
      cases hob : h.obj o with
      | none => rfl
      | some ob =>
        cases ob with
        | box cs =>
          simp only [hob] at h2 ⊢
          rw [List.all_eq_true] at h2 ⊢
          exact fun c hc => ihn c (h2 c hc)
        | _ => rfl
    | clos f cs => rw [avoid_clos, List.all_eq_true] at hq ⊢; exact fun c hc => ihn c (hq c hc)
    | agg cs => rw [avoid_agg, List.all_eq_true] at hq ⊢; exact fun c hc => ihn c (hq c hc)
    | bnd f cs => rw [avoid_bnd, List.all_eq_true] at hq ⊢; exact fun c hc => ihn c (hq c hc)
    | gl => exact hq
    | sub => exact hq
    | mp => exact hq
    | it => exact hq
    | elem => exact hq
    | _ => rfl
theorem avoid_cells {lv : LV} (hav : avoid N false h 6 lv = true) : ∀ c ∈ lv.cells, avoid N false h 6 c = true := by
  intro c hc
  unfold LV.cells at hc
  split at hc
  · simp only [avoid] at hav
    exact avoid_succ 5 c (List.all_eq_true.1 hav c hc)
  · simp only [List.mem_map] at hc
    obtain ⟨x, _, rfl⟩ := hc
    rfl
  · simp at hc; subst hc; exact hav
theorem frz_frame {lv : LV} {x : FV} {h' : AH} (a : Agree N h g) (hav : avoid N false h 6 lv = true) (hq : frz h lv = some (x, h')) : ∃ g', frz g lv = some (x, g') ∧ Tr N g h' g' ∧ h'.gen = h.gen := by
  unfold frz at hq
  split at hq
  · rename_i cs
    simp only [Option.map_eq_some_iff] at hq
    obtain ⟨⟨rs, h1⟩, hr, hq⟩ := hq
    simp only [Prod.mk.injEq] at hq
    obtain ⟨rfl, rfl⟩ := hq
    obtain ⟨g1, e1, t1, q1⟩ := frzS_frame a (fun c hc => avoid_cells (lv := .agg cs) hav c hc) hr
    have e1' : frzS g cs = some (rs, g1) := e1
    exact ⟨g1, by simp [frz, e1'], t1, q1⟩
  · rename_i hne
    obtain ⟨g1, e1, t1, q1⟩ := frz1_frame a hav hq
    refine ⟨g1, ?_, t1, q1⟩
    cases lv <;> first | exact e1 | exact (hne _ rfl).elim
theorem frzAll_frame : ∀ {cs : List LV} {h g : AH} {xs : List FV} {h' : AH}, Agree N h g → (∀ c ∈ cs, avoid N false h 6 c = true) → frzAll h cs = some (xs, h') → ∃ g', frzAll g cs = some (xs, g') ∧ Tr N g h' g' ∧ h'.gen = h.gen := by
  intro cs
  induction cs with
  | nil => intro h g xs h' a _ hq; simp [frzAll] at hq; obtain ⟨rfl, rfl⟩ := hq; exact ⟨g, rfl, a.tr, rfl⟩
  | cons c cs ih =>
    intro h g xs h' a hav hq
    simp only [frzAll, Option.bind_eq_some_iff, Option.map_eq_some_iff] at hq
    obtain ⟨⟨r, h1⟩, hr1, ⟨rs, h2⟩, hr2, hq⟩ := hq
    simp only [Prod.mk.injEq] at hq
    obtain ⟨rfl, rfl⟩ := hq
    obtain ⟨g1, e1, t1, q1⟩ := frz_frame a (hav c (by simp)) hr1
    obtain ⟨g2, e2, t2, q2⟩ := ih t1.agree (fun c hc => avoid_gen 6 c (hav c (by simp [hc]))) hr2
    exact ⟨g2, by simp [frzAll, e1, e2], t1.trans' t2, q2.trans q1⟩
theorem elems_frame {lv : LV} {ys : List FV} (a : Agree N h g) (hav : avoid N false h 6 lv = true) (hq : elemsOf h lv = some ys) : elemsOf g lv = some ys := by
  unfold elemsOf at hq ⊢
  split at hq <;> (try exact hq)
  · rename_i o gn
    simp only [avoid] at hav
    rw [a.lst (not_mem_of hav)]; exact hq
  · rename_i o gn es i j
    simp only [avoid] at hav
    rw [a.lst (not_mem_of hav)]; exact hq
theorem impC_frame {h' g' : AH} (t : Tr N g h' g') (n : Nat) (c : RC) (hn : c.isOwn = true → n ∉ N) : (impC g' n c).1 = (impC h' n c).1 ∧ Tr N g (impC h' n c).2 (impC g' n c).2 := by
  cases c with
  | fx x => exact ⟨rfl, t⟩
  | own e es nil xs =>
    have hn' := hn rfl
    refine ⟨?_, t.new hn' _⟩
    simp only [impC, ((t n).1 hn').1]
theorem impS_frame : ∀ (cs : List RC) {h' g' : AH} (t : Tr N g h' g') (n : Nat), (∀ (j : Nat) (c : RC), cs[j]? = some c → c.isOwn = true → n + j ∉ N) →
    (impS g' n cs).1 = (impS h' n cs).1 ∧ Tr N g (impS h' n cs).2 (impS g' n cs).2 := by
  intro cs
  induction cs with
  | nil => intro h' g' t n _; exact ⟨rfl, t⟩
  | cons c cs ih =>
    intro h' g' t n hn
    obtain ⟨e1, t1⟩ := impC_frame t n c (fun hc => by simpa using hn 0 c rfl hc)
    obtain ⟨e2, t2⟩ := ih t1 (n + 1) (fun j c hc ho => by have := hn (j + 1) c (by simpa using hc) ho; rwa [show n + (j + 1) = n + 1 + j by omega] at this)
    simp only [impS]
    exact ⟨by rw [e1, e2], t2⟩
theorem impS_gen : ∀ (cs : List RC) (h : AH) (n : Nat), (∀ o, h.gen o ≤ (impS h n cs).2.gen o) ∧ ∀ (j : Nat) (c : RC), cs[j]? = some c → c.isOwn = true → h.gen (n + j) < (impS h n cs).2.gen (n + j) := by
  intro cs
  induction cs with
  | nil => intro h n; exact ⟨fun _ => Nat.le_refl _, by simp⟩
  | cons c cs ih =>
    intro h n
    have hc : ∀ o, h.gen o ≤ (impC h n c).2.gen o := by
      intro o
      cases c with
      | fx x => exact Nat.le_refl _
      | own e es nil xs =>
        simp only [impC, AH.new, upd]
        split
        · rename_i e; rw [e]; omega
        · exact Nat.le_refl _
    obtain ⟨i1, i2⟩ := ih (impC h n c).2 (n + 1)
    refine ⟨fun o => Nat.le_trans (hc o) (i1 o), fun j c' hj ho => ?_⟩
    cases j with
    | zero =>
      simp at hj; subst hj
      have h1 : h.gen n < (impC h n c).2.gen n := by
        cases c with
        | fx x => simp [RC.isOwn] at ho
        | own e es nil xs => simp [impC, AH.new, upd]
      exact Nat.lt_of_lt_of_le h1 (i1 n)
    | succ j =>
      have := i2 j c' (by simpa using hj) ho
      rw [show n + 1 + j = n + (j + 1) by omega] at this
      exact Nat.lt_of_le_of_lt (hc _) this
def frzO : Option AObj → Option AObj
  | some (.list e es _ nil xs) => some (.list e es true nil xs)
  | x => x
theorem frzO_idem (x : Option AObj) : frzO (frzO x) = frzO x := by
  cases x with
  | none => rfl
  | some ob => cases ob <;> rfl
theorem frzObj_obj (h : AH) (k o : Nat) : (h.frzObj k).obj o = if o = k then frzO (h.obj o) else h.obj o := by
  unfold AH.frzObj
  split
  · rename_i e es fz nil xs hk
    simp only [AH.set, upd]
    split
    · rename_i e; subst e; rw [hk]; rfl
    · rfl
  · rename_i hk
    split
    · rename_i e; subst e
      cases hh : h.obj o with
      | none => rfl
      | some ob =>
        cases ob with
        | list e es fz nil xs => exact absurd hh (hk e es fz nil xs)
        | _ => rfl
    · rfl
theorem frzObj_gen (h : AH) (k : Nat) : (h.frzObj k).gen = h.gen ∧ (h.frzObj k).y = h.y := by
  unfold AH.frzObj
  split <;> exact ⟨rfl, rfl⟩
theorem frzObjs_gen : ∀ (os : List Nat) (h : AH), (h.frzObjs os).gen = h.gen ∧ (h.frzObjs os).y = h.y
  | [], _ => ⟨rfl, rfl⟩
  | o :: os, h => ⟨(frzObjs_gen os _).1.trans (frzObj_gen h o).1, (frzObjs_gen os _).2.trans (frzObj_gen h o).2⟩
theorem frzObjs_obj : ∀ (os : List Nat) (h : AH) (o : Nat), (h.frzObjs os).obj o = if o ∈ os then frzO (h.obj o) else h.obj o
  | [], _, _ => by simp [AH.frzObjs]
  | k :: os, h, o => by
    show ((h.frzObj k).frzObjs os).obj o = _
    rw [frzObjs_obj os, frzObj_obj]
    by_cases h1 : o = k
    · subst h1
      by_cases h2 : o ∈ os
      · simp [h2, frzO_idem]
      · simp [h2]
    · simp [h1]
theorem avoid_frz (os : List Nat) (dp : Bool) (h : AH) : ∀ (n : Nat) (lv : LV), avoid N dp (h.frzObjs os) n lv = avoid N dp h n lv := by
  intro n
  induction n with
  | zero => intro lv; rfl
  | succ n ih =>
    intro lv
    have e : avoid N dp (h.frzObjs os) n = avoid N dp h n := funext ih
    cases lv <;> simp only [avoid, e]
    rename_i o g off
    rw [frzObjs_obj]
    by_cases hm : o ∈ os
    · rw [if_pos hm]
      cases h.obj o with
      | none => rfl
      | some ob => cases ob <;> rfl
    · rw [if_neg hm]
theorem frz_agree (a : Agree N h g) (os : List Nat) : Agree N (h.frzObjs os) (g.frzObjs (os.filter fun o => !N.contains o)) ∧ Tr N g (h.frzObjs os) (g.frzObjs (os.filter fun o => !N.contains o)) := by
  have key : ∀ o, (o ∉ N → (g.frzObjs (os.filter fun o => !N.contains o)).gen o = (h.frzObjs os).gen o ∧ (g.frzObjs (os.filter fun o => !N.contains o)).obj o = (h.frzObjs os).obj o) ∧
      (o ∈ N → (g.frzObjs (os.filter fun o => !N.contains o)).gen o = g.gen o ∧ (g.frzObjs (os.filter fun o => !N.contains o)).obj o = g.obj o) := by
    intro o
    rw [(frzObjs_gen _ _).1, (frzObjs_gen _ _).1, frzObjs_obj, frzObjs_obj]
    constructor
    · intro ho
      obtain ⟨e1, e2⟩ := a o ho
      refine ⟨e1, ?_⟩
      rw [e2]
      simp [List.mem_filter, ho]
    · intro ho
      refine ⟨rfl, ?_⟩
      simp [List.mem_filter, ho]
  have hy : (g.frzObjs (os.filter fun o => !N.contains o)).y = (h.frzObjs os).y := by rw [(frzObjs_gen _ _).2, (frzObjs_gen _ _).2]; exact a.y
  exact ⟨⟨fun o ho => (key o).1 ho, hy⟩, ⟨key, hy⟩⟩
theorem impR_frame (a : Agree N h g) (d : Option Nat) (r : RV) (hW : ∀ o ∈ W, o ∉ N) {h00 : AH} (h00g : h.gen = h00.gen) (ha : Agree W h00 (impR h d r).2) : (impR g d r).1 = (impR h d r).1 ∧ Tr N g (impR h d r).2 (impR g d r).2 := by
  have mem : ∀ o, h.gen o < (impR h d r).2.gen o → o ∉ N := by
    intro o ho
    apply hW
    apply Classical.byContradiction
    intro hn
    have := (ha o hn).1
    rw [h00g] at ho
    omega
  cases r with
  | one c =>
    refine impC_frame a.tr _ c fun hc => mem _ ?_
    cases c with
    | fx x => simp [RC.isOwn] at hc
    | own e es nil xs => simp [impR, impC, AH.new, upd]
  | tup cs =>
    obtain ⟨e1, t1⟩ := impS_frame cs a.tr (10000 + 100 * d.getD 99) (fun j c hc ho => mem _ ((impS_gen cs h _).2 j c hc ho))
    exact ⟨by simp only [impR]; rw [e1], t1⟩
theorem argsOf_frame (a : Agree N h g) {own : Nat → Bool} : ∀ {xs : List LV} {as : List Arg}, (∀ x ∈ xs, avoid N true h 6 x = true) → argsOf P own h xs as → argsOf P own g xs as := by
  intro xs
  induction xs with
  | nil => intro as _ hq; cases as with
    | nil => trivial
    | cons => exact hq.elim
  | cons x xs ih =>
    intro as hav hq
    cases as with
    | nil => exact hq.elim
    | cons ar as =>
      refine ⟨?_, ih (fun y hy => hav y (by simp [hy])) hq.2⟩
      have h1 := hq.1
      cases ar with
      | fo y => exact (a.peek (hav x (by simp))).trans h1
      | fn gg =>
        rcases h1 with h1 | ⟨f, caps, h2, h3⟩
        · exact .inl h1
        · exact .inr ⟨f, caps, (a.peek (hav x (by simp))).trans h2, h3⟩
      | sq xs =>
        rcases h1 with h1 | ⟨f, caps, h2, h3⟩ | ⟨f, first, pre, rfl, h2, h3⟩
        · exact .inl h1
        · exact .inr (.inl ⟨f, caps, (a.peek (hav x (by simp))).trans h2, h3⟩)
        · have hx := hav _ (List.mem_cons_self ..)
          rw [avoid_bnd, List.all_eq_true] at hx
          exact .inr (.inr ⟨f, first, pre, rfl, (mapO_congr fun c hc => a.peek (avoid_succ 5 c (hx c hc))).trans h2, h3⟩)
end
end Abs

