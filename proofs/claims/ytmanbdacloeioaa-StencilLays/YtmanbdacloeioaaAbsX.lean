/- A part of the proof: AbsX. -/
import Derived.Test.YtmanbdacloeioaaAbsW
set_option linter.unusedSimpArgs false
set_option linter.unusedVariables false
namespace Abs
open Go
section
variable {P : Program}
/-- A loop, of at most so many rounds. -/
def aLoopN (body : St → (Exit → St → Prop) → Prop) : Nat → St → (Exit → St → Prop) → Prop
  | 0, _, _ => False
  | n + 1, σ, Q => body σ fun e σ' => match e with
    | .normal => aLoopN body n σ' Q
    | e => Q e σ'
theorem aLoop_of_N {c : SC} {n : Nat} {σ : St} {Q : Exit → St → Prop} (h : aLoopN (aWp P c) n σ Q) : aLoop (aWp P c) σ Q := by
  refine ⟨fun m σ => aLoopN (aWp P c) m σ Q, n, h, fun m σ hI => ?_⟩
  cases m with
  | zero => exact hI.elim
  | succ m =>
    refine aWp_mono c (fun e σ' hq => ?_) hI
    cases e <;> first | exact ⟨m, Nat.lt_succ_self m, hq⟩ | exact hq
def LN (P : Program) (c : SC) (n : Nat) (fs : List Fr) (σ : St) (Q : Exit → St → Prop) : Prop := aLoopN (aWp P c) n σ (unw P Q fs)
/-- The end of a round. -/
def LpQ (P : Program) (c : SC) (n : Nat) (fs : List Fr) (Q : Exit → St → Prop) (e : Exit) (σ : St) : Prop :=
  match e with
  | .normal => LN P c n fs σ Q
  | e => U P e fs σ Q
@[go_sem] theorem LpQ_normal (c : SC) (n : Nat) (fs : List Fr) (Q : Exit → St → Prop) (σ : St) : LpQ P c n fs Q .normal σ = LN P c n fs σ Q := rfl
@[go_sem] theorem LpQ_exit (c : SC) (n : Nat) (fs : List Fr) (Q : Exit → St → Prop) (σ : St) (id : Nat) : LpQ P c n fs Q (.exit id) σ = U P (.exit id) fs σ Q := rfl
@[go_sem] theorem LpQ_ret (c : SC) (n : Nat) (fs : List Fr) (Q : Exit → St → Prop) (σ : St) : LpQ P c n fs Q .ret σ = U P .ret fs σ Q := rfl
theorem LN_succ (c : SC) (n : Nat) (fs : List Fr) (Q : Exit → St → Prop) (σ : St) : LN P c (n + 1) fs σ Q = W P c [] σ (LpQ P c n fs Q) := by
  show aWp P c σ _ = aWp P c σ _
  congr 1
theorem lp {c : SC} {n : Nat} {fs : List Fr} {Q : Exit → St → Prop} {σ : St} (h : LN P c n fs σ Q) : Lp P c fs σ Q := aLoop_of_N h
/-- One round of a loop. -/
theorem lpStep {c : SC} {n : Nat} {fs : List Fr} {Q : Exit → St → Prop} {σ : St} (h : W P c [] σ (LpQ P c n fs Q)) : LN P c (n + 1) fs σ Q := (LN_succ c n fs Q σ) ▸ h
/-- The end of a round, by an invariant. -/
def LpI (P : Program) (J : St → Prop) (fs : List Fr) (Q : Exit → St → Prop) (e : Exit) (σ : St) : Prop :=
  match e with
  | .normal => J σ
  | e => U P e fs σ Q
@[go_sem] theorem LpI_normal (J : St → Prop) (fs : List Fr) (Q : Exit → St → Prop) (σ : St) : LpI P J fs Q .normal σ = J σ := rfl
@[go_sem] theorem LpI_exit (J : St → Prop) (fs : List Fr) (Q : Exit → St → Prop) (σ : St) (id : Nat) : LpI P J fs Q (.exit id) σ = U P (.exit id) fs σ Q := rfl
@[go_sem] theorem LpI_ret (J : St → Prop) (fs : List Fr) (Q : Exit → St → Prop) (σ : St) : LpI P J fs Q .ret σ = U P .ret fs σ Q := rfl
/-- The invariant holds again, at something less. -/
def Again {α : Type} (m : α → Nat) (I : α → St → Prop) (a : α) (σ : St) : Prop := ∃ a', m a' < m a ∧ I a' σ
/-- A loop, by an invariant. -/
theorem lpInd {c : SC} {fs : List Fr} {Q : Exit → St → Prop} {σ : St} {α : Type} (m : α → Nat) (I : α → St → Prop) (a : α) (h : I a σ)
    (step : ∀ a σ, I a σ → W P c [] σ (LpI P (Again m I a) fs Q)) : Lp P c fs σ Q := by
  refine ⟨fun k σ => ∃ a, m a = k ∧ I a σ, m a, ⟨a, rfl, h⟩, ?_⟩
  rintro k σ ⟨a, rfl, hI⟩
  refine aWp_mono c (fun e σ' hq => ?_) (show aWp P c σ (LpI P (Again m I a) fs Q) from step a σ hI)
  cases e <;> first | (obtain ⟨a', h1, h2⟩ := hq; exact ⟨m a', h1, a', rfl, h2⟩) | exact hq
/-- Results, when they stand. -/
def RtO (o : Option (List LV)) (G : List LV → AH → Prop) (h : AH) : Prop := ∃ ls, o = some ls ∧ G ls h
@[go_sem] theorem Rt_eq (rs : List ResultVar) (G : List LV → AH → Prop) (σ : St) : Rt P rs G σ = RtO (resAll P σ rs) G σ.h := rfl
@[go_sem] theorem RtO_some (ls : List LV) (G : List LV → AH → Prop) (h : AH) : RtO (some ls) G h = G ls h := by simp [RtO]
@[go_sem] theorem resAll_nil (σ : St) : resAll P σ [] = some [] := rfl
@[go_sem] theorem resAll_tmp (σ : St) (t : Nat) (rs : List ResultVar) : resAll P σ (.tmp t :: rs) = (resAll P σ rs).map (σ.ρ t :: ·) := rfl
@[go_sem] theorem resAll_cell (σ : St) (a t : Nat) (rs : List ResultVar) : resAll P σ (.cell a t :: rs) = ((lay P t).bind fun l => loadA σ.h l.1 l.2 (σ.ρ a)).bind fun l => (resAll P σ rs).map (l :: ·) := rfl
@[go_sem] theorem loadA_fptr (h : AH) (agg : Bool) (n : Nat) (cs : List FV) : loadA h agg n (.fv (.ptr cs)) = partF agg n cs := rfl
@[go_sem] theorem loadA_ptr (h : AH) (agg : Bool) (n o g off : Nat) : loadA h agg n (.ptr o g off) = (h.box o g).bind fun cs => partL agg n (cs.drop off) := rfl
@[go_sem] theorem loadA_pb (h : AH) (agg : Bool) (n : Nat) (cs : List LV) : loadA h agg n (.pb cs) = partL agg n cs := rfl
@[go_sem] theorem loadA_elem (h : AH) (agg : Bool) (n o g es i off : Nat) : loadA h agg n (.elem o g es i off) = (h.lst o g).bind fun l => if l.2.1 = es then (l.2.2.2.2[i]?).bind fun x => partF agg n (x.cells.drop off) else none := rfl
@[go_sem] theorem partF_one (n : Nat) (c : FV) (cs : List FV) : partF false n (c :: cs) = some (.fv c) := rfl
@[go_sem] theorem partF_agg (n : Nat) (c : FV) (cs : List FV) : partF true n (c :: cs) = if n ≤ (c :: cs).length then some (.fv (.agg ((c :: cs).take n))) else none := rfl
@[go_sem] theorem partL_one (n : Nat) (c : LV) (cs : List LV) : partL false n (c :: cs) = some c := rfl
@[go_sem] theorem partL_agg (n : Nat) (c : LV) (cs : List LV) : partL true n (c :: cs) = if n ≤ (c :: cs).length then some (mkAgg ((c :: cs).take n)) else none := rfl
theorem ret_fx {l : LV} {x : FV} {h : AH} (own : Nat → Bool) (e : peek own h 6 l = some x) : retF (.one (.fx x)) [l] h := ⟨own, e⟩
theorem ret_fv {x : FV} {h : AH} : retF (.one (.fx x)) [.fv x] h := ⟨fun _ => true, rfl⟩
theorem ret_eq {x y : FV} {h : AH} (e : y = x) : retF (.one (.fx x)) [.fv y] h := e ▸ ret_fv
/-- A call of a function that only computes. -/
theorem callF {nm : Option Nat} {f : Nat} {caps args : List LV} {h : AH} {d : Option Nat} {r : List SO} {fs : List Fr} {ρ : Nat → LV} {Q : Exit → St → Prop} (os : List Nat) (own : Bool) (as : List Arg) (cs : List FV) {rv : RV}
    (hF : Fn P f (as ++ cs.map .fo) rv) (ha : argsOf P (fun _ => own) (h.frzObjs os) args as) (hc : mapO (peek (fun _ => own) (h.frzObjs os) 6) caps = some cs) (ho : own = false ∨ rv.shallow = true)
    (hk : L P r fs (St.put ⟨ρ, (impR (h.frzObjs os) nm rv).2⟩ d (impR (h.frzObjs os) nm rv).1 (impR (h.frzObjs os) nm rv).2) Q) : Cl' P nm (.clos f caps) args h d r fs ρ Q :=
  .inl ⟨os, own, as, cs, rv, ha, hc, hF, ho, hk⟩
/-- A call of a function value. -/
theorem callG {nm : Option Nat} {g : List FV → Option FV} {args : List LV} {h : AH} {d : Option Nat} {r : List SO} {fs : List Fr} {ρ : Nat → LV} {Q : Exit → St → Prop} (own : Bool) (xs : List FV) {y : FV}
    (ha : mapO (peek (fun _ => own) h 6) args = some xs) (hg : g xs = some y) (ho : own = false ∨ y.shallow = true)
    (hk : L P r fs (St.put ⟨ρ, h⟩ d (.fv y) h) Q) : Cl' P nm (.fn g) args h d r fs ρ Q :=
  .inl ⟨[], own, xs, y, ha, hg, ho, hk⟩
/-- A call in place. -/
theorem callI {nm : Option Nat} {f : Nat} {caps args : List LV} {h : AH} {d : Option Nat} {r : List SO} {fs : List Fr} {ρ : Nat → LV} {Q : Exit → St → Prop} {K : LV → AH → Prop}
    (hA : AC P f (args ++ caps) h K) (he : ∃ lv h', K lv h') (hk : ∀ lv h', K lv h' → Kl P d r fs ρ Q lv h') : Cl' P nm (.clos f caps) args h d r fs ρ Q :=
  .inr ⟨hA.mono hk, let ⟨lv, h', k⟩ := he; ⟨lv, h', hk _ _ k⟩⟩
end
section
variable {P : Program} {fs : List Fr} {Q : Exit → St → Prop} {d nm : Option Nat} {r : List SO}
theorem sto_elem {n o g es i off : Nat} {x : LV} {h h' : AH} {ρ : Nat → LV} {fs' : List FV} {e : Nat} {nil : Bool} {xs : List FV} {y : FV} (h1 : frzS h x.cells = some (fs', h')) (h2 : fs'.length = n) (h3 : fs'.all FV.one = true)
    (h4 : h'.lst o g = some (e, es, false, nil, xs)) (h5 : xs[i]? = some y) (h6 : off + n ≤ es)
    (hk : L P r fs (St.put ⟨ρ, h'.set o (.list e es false nil (xs.set i (y.withCells (splice y.cells off fs'))))⟩ d .undef (h'.set o (.list e es false nil (xs.set i (y.withCells (splice y.cells off fs')))))) Q) :
    Sto P n (.elem o g es i off) x h d r fs ρ Q := ⟨fs', h', h1, h2, h3, e, nil, xs, y, h4, h5, h6, hk⟩
theorem app_gl {t e es o g : Nat} {agg nil : Bool} {xs ys : List FV} {y : LV} {h : AH} {ρ : Nat → LV} (h1 : h.lst o g = some (e, es, false, nil, xs)) (h2 : idx P t = some (none, e, agg, es)) (h3 : elemsOf h y = some ys) (h4 : ∀ x ∈ ys, x.cells.length = es)
    (h5 : (zeros P e).isSome = true) (h6 : (xs.length + ys.length) * P.bytesOf e ≤ 140737488355328) (h7 : xs.length + ys.length ≤ maxLen) (hy : y ≠ .fv .nil)
    (hk : L P r fs (St.put ⟨ρ, h.renew o (g + 1) (.list e es false (nil && ys.isEmpty) (xs ++ ys))⟩ d (.gl o (g + 1)) (h.renew o (g + 1) (.list e es false (nil && ys.isEmpty) (xs ++ ys)))) Q) :
    App P t (.gl o g) y h nm d r fs ρ Q := by
  unfold App effV
  simp only [evL, true_and]
  exact ⟨e, es, nil, xs, ys, h1, ⟨agg, h2⟩, h3, h4, h5, h6, h7, hk⟩
theorem app_nil {t e es n : Nat} {agg : Bool} {ys : List FV} {y : LV} {h : AH} {ρ : Nat → LV} (h2 : idx P t = some (none, e, agg, es)) (h0 : 0 < es) (h3 : elemsOf h y = some ys) (h4 : ∀ x ∈ ys, x.cells.length = es)
    (h5 : (zeros P e).isSome = true) (h6 : ys.length * P.bytesOf e ≤ 140737488355328) (h7 : ys.length ≤ maxLen)
    (hk : L P r fs (St.put ⟨ρ, h.new n (.list e es false ys.isEmpty ys)⟩ d (.gl n (h.gen n + 1)) (h.new n (.list e es false ys.isEmpty ys))) Q) :
    App P t (.fv .nil) y h (some n) d r fs ρ Q := by
  unfold App effV
  simp only [evL, true_and]
  exact ⟨e, es, n, ys, ⟨agg, h2⟩, rfl, h0, h3, h4, h5, h6, h7, hk⟩
theorem app_full {t e es n : Nat} {agg : Bool} {xs ys : List FV} {y : LV} {h : AH} {ρ : Nat → LV} (h2 : idx P t = some (none, e, agg, es)) (h0 : 0 < es) (h3 : elemsOf h y = some ys) (hne : ys ≠ []) (hx : ∀ x ∈ xs, x.cells.length = es) (h4 : ∀ x ∈ ys, x.cells.length = es)
    (h5 : (zeros P e).isSome = true) (h6 : (xs.length + ys.length) * P.bytesOf e ≤ 140737488355328) (h7 : xs.length + ys.length ≤ maxLen)
    (hk : L P r fs (St.put ⟨ρ, h.new n (.list e es false false (xs ++ ys))⟩ d (.gl n (h.gen n + 1)) (h.new n (.list e es false false (xs ++ ys)))) Q) :
    App P t (.fv (.list true xs)) y h (some n) d r fs ρ Q := by
  unfold App effV
  simp only [evL, true_and]
  exact ⟨e, es, n, ys, ⟨agg, h2⟩, rfl, h0, h3, hne, hx, h4, h5, h6, h7, hk⟩
/-- Nothing is appended. -/
theorem app_none {t e es o g : Nat} {agg nil : Bool} {xs : List FV} {h : AH} {ρ : Nat → LV} (h1 : h.lst o g = some (e, es, false, nil, xs)) (h2 : idx P t = some (none, e, agg, es))
    (hk : L P r fs (St.put ⟨ρ, h⟩ d (.gl o g) h) Q) : App P t (.gl o g) (.fv .nil) h nm d r fs ρ Q := by
  unfold App effV
  simp only [evL, true_and]
  exact ⟨e, es, nil, xs, h1, ⟨agg, h2⟩, hk⟩
end
section
variable {P : Program} {fs : List Fr} {Q : Exit → St → Prop} {d nm : Option Nat} {r : List SO}
theorem cpy_gl {t e es o g : Nat} {agg nil : Bool} {xs ys : List FV} {y : LV} {h : AH} {ρ : Nat → LV} (h1 : h.lst o g = some (e, es, false, nil, xs)) (h2 : idx P t = some (none, e, agg, es)) (h3 : elemsOf h y = some ys) (h4 : ∀ x ∈ ys, x.cells.length = es) (hy : y ≠ .gl o g)
    (hk : L P r fs (St.put ⟨ρ, h.set o (.list e es false nil (ys.take xs.length ++ xs.drop ys.length))⟩ d (.fv (.int (min ys.length xs.length : Nat))) (h.set o (.list e es false nil (ys.take xs.length ++ xs.drop ys.length)))) Q) :
    Cpy P t (.gl o g) y h nm d r fs ρ Q := by
  unfold Cpy effV
  simp only [evL]
  exact ⟨e, es, nil, xs, ys, h1, ⟨agg, h2⟩, h3, h4, hy, hk⟩
end
@[go_sem] theorem splice_nil {α : Type} (cs : List α) : splice cs 0 [] = cs := by simp [splice]
@[go_sem] theorem splice_zero {α : Type} (a v : α) (cs vs : List α) : splice (a :: cs) 0 (v :: vs) = v :: splice cs 0 vs := by
  simp [splice, Nat.add_comm]
@[go_sem] theorem splice_succ {α : Type} (a : α) (cs vs : List α) (n : Nat) : splice (a :: cs) (n + 1) vs = a :: splice cs n vs := by
  simp only [splice, List.take_succ_cons, List.cons_append]
  rw [show n + 1 + vs.length = (n + vs.length) + 1 by omega, List.drop_succ_cons]
/-- What a frozen list, or nil, has. -/
def lsOf : FV → Option (List FV)
  | .list _ xs => some xs
  | .val (.slice none 0 0) => some []
  | _ => none
@[go_sem] theorem lenV_fl (h : AH) (f : Bool) (xs : List FV) : lenV h (.fv (.list f xs)) = some xs.length := rfl
@[go_sem] theorem lenV_nl (h : AH) (n c : Nat) : lenV h (.fv (.val (.slice none n c))) = some n := rfl
@[go_sem] theorem lenV_gl (h : AH) (o g : Nat) : lenV h (.gl o g) = (h.lst o g).map (·.2.2.2.2.length) := rfl
@[go_sem] theorem elemsOf_fl (h : AH) (f : Bool) (xs : List FV) : elemsOf h (.fv (.list f xs)) = some xs := rfl
@[go_sem] theorem elemsOf_nl (h : AH) : elemsOf h (.fv (.val (.slice none 0 0))) = some [] := rfl
@[go_sem] theorem elemsOf_gl (h : AH) (o g : Nat) : elemsOf h (.gl o g) = (h.lst o g).map (·.2.2.2.2) := rfl
theorem elemsOf_ls {s : FV} {xs : List FV} (h : lsOf s = some xs) (H : AH) : elemsOf H (.fv s) = some xs := by
  unfold lsOf at h
  split at h
  · simp at h; subst h; rfl
  · simp at h; subst h; rfl
  · simp at h
theorem ls_cases {s : FV} {xs : List FV} (h : lsOf s = some xs) : (∃ f, s = .list f xs) ∨ (s = .nil ∧ xs = []) := by
  unfold lsOf at h
  split at h
  · simp at h; subst h; exact .inl ⟨_, rfl⟩
  · simp at h; subst h; exact .inr ⟨rfl, rfl⟩
  · simp at h
theorem lenV_ls {s : FV} {xs : List FV} (h : lsOf s = some xs) (H : AH) : lenV H (.fv s) = some xs.length := by
  unfold lsOf at h
  split at h
  · simp at h; subst h; rfl
  · simp at h; subst h; rfl
  · simp at h
section
variable {P : Program}
@[go_sem] theorem ix_ptr (h : AH) (t o g off : Nat) (i : Int) : indexA P h t (.ptr o g off) i = (idx P t).bind fun q => match q.1 with | some n => if 0 ≤ i ∧ i < n then some (.ptr o g (off + i.toNat * q.2.2.2)) else none | none => none := by
  unfold indexA
  congr 1
  funext q
  obtain ⟨a, b, c, d⟩ := q
  cases a <;> rfl
@[go_sem] theorem ix_fptr (h : AH) (t : Nat) (cs : List FV) (i : Int) : indexA P h t (.fv (.ptr cs)) i = (idx P t).bind fun q => match q.1 with | some n => if 0 ≤ i ∧ i < n then some (.fv (.ptr (cs.drop (i.toNat * q.2.2.2)))) else none | none => none := by
  unfold indexA
  congr 1
  funext q
  obtain ⟨a, b, c, d⟩ := q
  cases a <;> rfl
@[go_sem] theorem ix_elem (h : AH) (t o g es j off : Nat) (i : Int) : indexA P h t (.elem o g es j off) i = (idx P t).bind fun q => match q.1 with | some n => if 0 ≤ i ∧ i < n then some (.elem o g es j (off + i.toNat * q.2.2.2)) else none | none => none := by
  unfold indexA
  congr 1
  funext q
  obtain ⟨a, b, c, d⟩ := q
  cases a <;> rfl
@[go_sem] theorem ix_list (h : AH) (t : Nat) (f : Bool) (xs : List FV) (i : Int) : indexA P h t (.fv (.list f xs)) i = (idx P t).bind fun q => match q.1 with | some _ => none | none => if 0 ≤ i then (xs[i.toNat]?).bind fun x => if x.cells.length = q.2.2.2 then some (.fv (.ptr x.cells)) else none else none := by
  unfold indexA
  congr 1
  funext q
  obtain ⟨a, b, c, d⟩ := q
  cases a <;> rfl
@[go_sem] theorem ix_gl (h : AH) (t o g : Nat) (i : Int) : indexA P h t (.gl o g) i = (idx P t).bind fun q => match q.1 with | some _ => none | none => (h.lst o g).bind fun l => if 0 ≤ i ∧ i < l.2.2.2.2.length ∧ l.2.1 = q.2.2.2 then some (.elem o g q.2.2.2 i.toNat 0) else none := by
  unfold indexA
  congr 1
  funext q
  obtain ⟨a, b, c, d⟩ := q
  cases a <;> rfl
/-- An element of a list. -/
def Elem (agg : Bool) (n : Nat) (x : FV) : Prop := x.cells.length = n ∧ partF agg n x.cells = some (.fv x)
theorem index_ls {s : FV} {xs : List FV} (h : lsOf s = some xs) {H : AH} {t e n : Nat} {agg : Bool} (ht : idx P t = some (none, e, agg, n)) {k : Nat} {x : FV} (hk : xs[k]? = some x) (hx : x.cells.length = n) :
    indexA P H t (.fv s) (k : Int) = some (.fv (.ptr x.cells)) := by
  unfold lsOf at h
  split at h
  · simp at h; subst h
    simp [indexA, ht, hk, hx]
  · simp at h; subst h; simp at hk
  · simp at h
end
theorem elem_int (n : Int) (k : IntKind) : Elem false 1 (.val (.int k n)) := ⟨rfl, rfl⟩
theorem wr (n : Int) (h1 : -9223372036854775808 ≤ n) (h2 : n ≤ 9223372036854775807) : IntKind.i64.wrap n = n := by
  unfold IntKind.wrap
  simp [IntKind.signed, IntKind.bits]
  omega
theorem drop_tail {α : Type} {xs : List α} {k : Nat} {x : α} {ys : List α} (h : xs.drop k = x :: ys) : xs.drop (k + 1) = ys ∧ xs[k]? = some x ∧ k < xs.length ∧ x ∈ xs := by
  have h2 : xs[k]? = some x := by have := congrArg (·[0]?) h; simpa using this
  refine ⟨?_, h2, ?_, List.mem_of_getElem? h2⟩
  · have := congrArg List.tail h; simpa using this
  · have := congrArg List.length h; simp at this; omega
theorem drop_end {α : Type} {xs : List α} {k : Nat} (h : xs.drop k = []) : xs.length ≤ k := by simpa using h
/-- The first place of a list at which p holds. -/
def idxI (p : FV → Bool) : List FV → Int → Int
  | [], _ => -1
  | x :: xs, k => if p x then k else idxI p xs (k + 1)
theorem idxI_any (p : FV → Bool) (xs : List FV) (k : Int) (hk : 0 ≤ k) : decide (idxI p xs k ≥ 0) = xs.any p := by
  induction xs generalizing k with
  | nil => simp [idxI]
  | cons x xs ih =>
    simp only [idxI, List.any_cons]
    by_cases h : p x = true
    · simpa [h] using hk
    · simpa [h] using ih (k + 1) (by omega)

open Classical in
/-- A function of one argument, known at the elements of a list. -/
noncomputable def gOf (S : List FV) (p : FV → Bool) : List FV → Option FV
  | [x] => if x ∈ S then some (.bool (p x)) else none
  | _ => none
theorem gOf_mem {S : List FV} {p : FV → Bool} {x : FV} (h : x ∈ S) : gOf S p [x] = some (.bool (p x)) := by simp [gOf, h]
section
variable {P : Program}
theorem argFn {own : Nat → Bool} {h : AH} {lv : LV} {f : Nat} {caps : List FV} {S : List FV} {p : FV → Bool} (he : Enters P f) (hp : peek own h 6 lv = some (.clos f caps))
    (hfn : ∀ x ∈ S, Fn P f (.fo x :: caps.map .fo) (.one (.fx (.bool (p x))))) : argOf P own h lv (.fn (gOf S p)) := by
  refine .inr ⟨f, caps, hp, he, fun xs r hg => ?_⟩
  unfold gOf at hg
  split at hg
  · rename_i x
    split at hg
    · rename_i hm
      simp at hg; subst hg
      exact hfn x hm
    · simp at hg
  · simp at hg
/-- A call of slices.ContainsFunc. -/
theorem callC {f0 n : Nat} {agg : Bool} (tC : ∀ (s : FV) (xs : List FV) (g : List FV → Option FV) (p : FV → Bool), lsOf s = some xs → (∀ x ∈ xs, Elem agg n x) → (∀ x ∈ xs, g [x] = some (.bool (p x))) → xs.length ≤ 9223372036854775807 →
      Fn P f0 [.fo s, .fn g] (.one (.fx (.bool (xs.any p))))) (own : Bool) {s : FV} {xs : List FV} {f : Nat} {caps : List FV} (p : FV → Bool)
    {nm : Option Nat} {lvS lvF : LV} {h : AH} {d : Option Nat} {r : List SO} {fs : List Fr} {ρ : Nat → LV} {Q : Exit → St → Prop}
    (h1 : peek (fun _ => own) h 6 lvS = some s) (h2 : lsOf s = some xs) (h3 : ∀ x ∈ xs, Elem agg n x) (hl : xs.length ≤ 9223372036854775807) (he : Enters P f) (h4 : peek (fun _ => own) h 6 lvF = some (.clos f caps))
    (h5 : ∀ x ∈ xs, Fn P f (.fo x :: caps.map .fo) (.one (.fx (.bool (p x))))) (hk : L P r fs (St.put ⟨ρ, h⟩ d (.fv (.bool (xs.any p))) h) Q) :
    Cl' P nm (.clos f0 []) [lvS, lvF] h d r fs ρ Q :=
  callF [] own [.fo s, .fn (gOf xs p)] [] (tC s xs _ p h2 h3 (fun x hx => gOf_mem hx) hl) ⟨h1, argFn he h4 h5, trivial⟩ rfl (.inr rfl) hk
end
theorem map_cells {α : Type} {f : α → FV} {n : Nat} (l : List α) (h : ∀ a, (f a).cells.length = n) : ∀ x ∈ l.map f, x.cells.length = n := by
  intro x hx
  obtain ⟨a, _, rfl⟩ := List.mem_map.1 hx
  exact h a
theorem map_elem {α : Type} {f : α → FV} {n : Nat} {agg : Bool} (l : List α) (h : ∀ a, Elem agg n (f a)) : ∀ x ∈ l.map f, Elem agg n x := by
  intro x hx
  obtain ⟨a, _, rfl⟩ := List.mem_map.1 hx
  exact h a
/-- Integers. -/
def ints (l : List Int) : List FV := l.map .int
theorem ints_elem (l : List Int) : ∀ x ∈ ints l, Elem false 1 x := by
  intro x hx
  obtain ⟨n, _, rfl⟩ := List.mem_map.1 hx
  exact elem_int n _
def FV.toI : FV → Int
  | .val (.int _ n) => n
  | _ => 0
theorem ints_any (l : List Int) (p : Int → Bool) : (ints l).any (fun x => p x.toI) = l.any p := by
  induction l with
  | nil => rfl
  | cons x l ih => simp only [ints, List.map_cons, List.any_cons] at ih ⊢; rw [ih]; rfl
theorem ints_length (l : List Int) : (ints l).length = l.length := by simp [ints]
attribute [go_sem] Nat.zero_add Nat.add_zero Nat.sub_zero quietV binV mkAgg unFV Arg.m MArg.lv List.map List.head? List.take List.drop List.length List.length_cons List.length_nil Option.map_some Option.map_none Option.bind_some Option.bind_none intOf impR impC impS AH.frzObjs AH.frzObj Option.getD_some Option.isSome_none Option.isNone_some Option.isNone_none Option.elim_none Option.elim_some Bool.false_eq_true and_false false_and List.headD_cons List.set_cons_zero List.set_cons_succ Int.sub_zero Int.mul_zero Int.zero_mul Int.zero_add Int.add_zero ne_eq not_false_eq_true not_true_eq_false bne_self_eq_false Int.natCast_one Int.natCast_zero Int.cast_ofNat_Int wr Op.operands Call.operands Array.toList_append List.toList_toArray List.flatMap_cons List.flatMap_nil List.contains_cons List.contains_nil Bool.or_false Bool.or_self Bool.false_or Bool.or_true Bool.true_or List.forall_mem_cons List.not_mem_nil false_implies implies_true Option.isSome_some List.range_zero eq_self frzAll frz frzS frz1 fillL List.getElem?_toArray List.getElem?_cons_zero List.getElem?_cons_succ List.all_cons List.all_nil Bool.and_true Bool.false_and Bool.true_and Bool.and_self List.size_toArray Array.toList List.append_nil List.nil_append List.cons_append and_true true_and and_self Bool.not_true Bool.not_false decide_true decide_false
end Abs

