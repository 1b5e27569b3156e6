/- A part of the proof: Abs14, Abs15. -/
import Derived.Test.YtncbkgbdpaibmaaAbsM
import Derived.Test.YtncbkgbdpaibmaaAbsF
set_option linter.unusedSimpArgs false
set_option linter.unusedVariables false
namespace Abs
open Go
open Go.RowKit (Below)
def mapO (f : LV → Option FV) : List LV → Option (List FV)
  | [] => some []
  | c :: cs => (f c).bind fun x => (mapO f cs).map (x :: ·)
def peek (own : Nat → Bool) (h : AH) : Nat → LV → Option FV
  | 0, _ => none
  | n + 1, lv =>
    match lv with
    | .fv x => some x
    | .gl o g => (h.lst o g).bind fun l => if own o || l.2.2.1 then some (if l.2.2.2.1 then FV.nil else .list false l.2.2.2.2) else none
    | .ptr o g off => if own o then (h.box o g).bind fun cs => (mapO (peek own h n) (cs.drop off)).map FV.ptr else none
    | .clos f caps => (mapO (peek own h n) caps).map (FV.clos f)
    | .agg cs => (mapO (peek own h n) cs).map FV.agg
    | .mp o g => (h.mpo o g).bind fun l => if own o || l.1 then some (FV.map l.2) else none
    | _ => none
def FV.flatV : FV → Bool
  | .val _ => true
  | _ => false
def FV.shallow : FV → Bool
  | .val _ => true
  | .agg cs => cs.all FV.flatV
  | .tup vs => vs.all fun x => match x with | .val _ => true | .agg cs => cs.all FV.flatV | _ => false
  | _ => false
def RC.shallow : RC → Bool
  | .fx x => x.shallow
  | .own _ _ _ xs => xs.all FV.shallow
def RV.shallow : RV → Bool
  | .one c => c.shallow
  | .tup cs => cs.all RC.shallow
def impC (h : AH) (n : Nat) : RC → LV × AH
  | .fx x => (.fv x, h)
  | .own e es nil xs => (.gl n (h.gen n + 1), h.new n (.list e es false nil xs))
def impS (h : AH) (n : Nat) : List RC → List LV × AH
  | [] => ([], h)
  | c :: cs => ((impC h n c).1 :: (impS (impC h n c).2 (n + 1) cs).1, (impS (impC h n c).2 (n + 1) cs).2)
def impR (h : AH) (d : Option Nat) : RV → LV × AH
  | .one c => impC h (d.getD 9999) c
  | .tup cs => (.tup (impS h (10000 + 100 * d.getD 99) cs).1, (impS h (10000 + 100 * d.getD 99) cs).2)
def AH.frzObj (h : AH) (o : Nat) : AH :=
  match h.obj o with
  | some (.list e es _ nil xs) => h.set o (.list e es true nil xs)
  | _ => h
def AH.frzObjs (h : AH) : List Nat → AH
  | [] => h
  | o :: os => (h.frzObj o).frzObjs os
section
variable {P : Program} {cx : Cx} {w : World} {D : Nat → Prop} {h : AH} {an : Nat → Value}
theorem frzObj_sound (H : Heap P cx h w D an) (o : Nat) : ∃ D', Heap P cx (h.frzObj o) w D' an ∧ (h.frzObj o).gen = h.gen ∧ ∀ b, D b → D' b := by
  unfold AH.frzObj
  split
  · rename_i e es fz nil xs ho
    have hq : frz1 h (.gl o (h.gen o)) = some (if nil then FV.nil else .list false xs, h.set o (.list e es true nil xs)) := by
      simp [frz1, AH.lst, ho]
    obtain ⟨hown, _⟩ := H.obj o _ ho
    obtain ⟨D', H', hg, hd, _⟩ := frz1_sound H (.gl o (h.gen o) (an o) hown.oneCell (Nat.le_refl _) fun _ => rfl) hq
    exact ⟨D', H', hg, hd⟩
  · exact ⟨D, H, rfl, fun _ h => h⟩
theorem frzObjs_sound : ∀ (os : List Nat) {h : AH} {D : Nat → Prop} (H : Heap P cx h w D an), ∃ D', Heap P cx (h.frzObjs os) w D' an ∧ (h.frzObjs os).gen = h.gen ∧ ∀ b, D b → D' b
  | [], h, D, H => ⟨D, H, rfl, fun _ h => h⟩
  | o :: os, h, D, H => by
    obtain ⟨D1, H1, hg1, hd1⟩ := frzObj_sound H o
    obtain ⟨D2, H2, hg2, hd2⟩ := frzObjs_sound os H1
    exact ⟨D2, H2, hg2.trans hg1, fun b hb => hd2 b (hd1 b hb)⟩
def Lent (own : Nat → Bool) (D : Nat → Prop) (h : AH) (an : Nat → Value) (b : Nat) : Prop :=
  D b ∨ ∃ o ob, own o = true ∧ h.obj o = some ob ∧ blk (an o) = some b
theorem mapO_spec {f : LV → Option FV} : ∀ {cs : List LV} {xs : List FV}, mapO f cs = some xs → cs.length = xs.length ∧ ∀ (j : Nat) (c : LV) (x : FV), cs[j]? = some c → xs[j]? = some x → f c = some x := by
  intro cs
  induction cs with
  | nil => intro xs h; simp [mapO] at h; subst h; simp
  | cons c cs ih =>
    intro xs h
    simp only [mapO, Option.bind_eq_some_iff, Option.map_eq_some_iff] at h
    obtain ⟨x, hx, ys, hys, rfl⟩ := h
    obtain ⟨e1, e2⟩ := ih hys
    refine ⟨by simp [e1], fun j c' x' hc hx' => ?_⟩
    cases j with
    | zero => simp at hc hx'; subst hc; subst hx'; exact hx
    | succ j => exact e2 j c' x' (by simpa using hc) (by simpa using hx')
theorem peek_sound (H : Heap P cx h w D an) (own : Nat → Bool) : ∀ (n : Nat) (x : LV) (v : Value) (r : FV), LVRep P w D h.gen an v x → peek own h n x = some r → Rep w (Lent own D h an) v r := by
  have hsub : ∀ b, D b → Lent own D h an b := fun b hb => .inl hb
  intro n
  induction n with
  | zero => intro x v r _ hq; simp [peek] at hq
  | succ n ih =>
    intro x v r hx hq
    unfold peek at hq
    split at hq
    · simp only [Option.some.injEq] at hq; subst hq
      exact hx.fv_inv.keep hsub fun _ _ => rfl
    · rename_i o g
      simp only [Option.bind_eq_some_iff] at hq
      obtain ⟨⟨e, es, fz, nil, xs⟩, hb, hq⟩ := hq
      simp only at hq
      split at hq
      · rename_i hc
        simp only [Option.some.injEq] at hq
        subst hq
        obtain ⟨rfl, ho⟩ := AH.lst_spec hb
        obtain ⟨hown, hfz⟩ := H.obj _ _ ho
        cases hx with
        | gl _ _ _ hp hg he =>
          have := he rfl
          subst this
          refine (hown.keep hsub (fun _ _ => rfl) fun _ _ => rfl).rep fun b hb' => ?_
          simp only [Bool.or_eq_true] at hc
          rcases hc with hc | hc
          · exact .inr ⟨o, _, hc, ho, hb'⟩
          · exact .inl ((hfz b hb').1 hc)
      · simp at hq
    · rename_i o g off
      split at hq
      · rename_i hown
        simp only [Option.bind_eq_some_iff, Option.map_eq_some_iff] at hq
        obtain ⟨cs, hb, xs, hxs, rfl⟩ := hq
        obtain ⟨b, c, T, ha, rfl, hB, hnD, hw, hsz, hr⟩ := H.box_at hb hx
        obtain ⟨hlen, hm⟩ := mapO_spec hxs
        obtain ⟨_, hobj⟩ := H.boxCells hb
        have hj : ∀ (j : Nat) (y : FV), xs[j]? = some y → ∃ c' u, cs[off + j]? = some c' ∧ c[off + j]? = some u ∧ Rep w (Lent own D h an) u y ∧ u.oneCell' = true := by
          intro j y hy
          have hjl : j < (cs.drop off).length := by rw [hlen]; exact (List.getElem?_eq_some_iff.1 hy).1
          have h1 : cs[off + j]? = some (cs[off + j]'(by simp at hjl; omega)) := by simp
          have h2 : c[off + j]? = some (c[off + j]'(by simp at hjl; omega)) := by simp
          obtain ⟨q1, q2⟩ := hr _ _ _ h1 h2
          exact ⟨_, _, h1, h2, ih _ _ _ q1 (hm j _ y (by rw [List.getElem?_drop]; exact h1) hy), q2⟩
        refine .ptr xs b off (fun j => (c[off + j]?).getD Go.undef) ?_ (.inr ⟨o, _, hown, hobj, by rw [ha]; rfl⟩) ?_ ?_
        · rw [List.all_eq_true]
          intro y hy
          obtain ⟨j, hj', rfl⟩ := List.mem_iff_getElem.1 hy
          obtain ⟨c', u, _, _, hrr, h1⟩ := hj j xs[j] (by simp)
          exact hrr.one_of h1
        · intro j y hy
          obtain ⟨c', u, _, hu, _, _⟩ := hj j y hy
          rw [cell_row hw, hu]; rfl
        · intro j y hy
          obtain ⟨c', u, _, hu, hrr, _⟩ := hj j y hy
          simp only [hu, Option.getD_some]; exact hrr
      · simp at hq
    · rename_i f caps
      simp only [Option.map_eq_some_iff] at hq
      obtain ⟨xs, hxs, rfl⟩ := hq
      obtain ⟨hlen, hm⟩ := mapO_spec hxs
      cases hx with
      | clos _ _ vs hs hrep =>
        refine .clos f vs xs (by omega) fun j y v hy hv => ?_
        have hjl : j < caps.length := by rw [hlen]; exact (List.getElem?_eq_some_iff.1 hy).1
        exact ih _ _ _ (hrep j caps[j] v (by simp) hv) (hm j caps[j] y (by simp) hy)
    · rename_i cs
      simp only [Option.map_eq_some_iff] at hq
      obtain ⟨xs, hxs, rfl⟩ := hq
      obtain ⟨hlen, hm⟩ := mapO_spec hxs
      cases hx with
      | agg _ vs hs h1 hrep =>
        have key : ∀ (j : Nat) (y : FV) (v : Value), xs[j]? = some y → vs[j]? = some v → Rep w (Lent own D h an) v y := fun j y v hy hv => by
          have hjl : j < cs.length := by rw [hlen]; exact (List.getElem?_eq_some_iff.1 hy).1
          exact ih _ _ _ (hrep j cs[j] v (by simp) hv) (hm j cs[j] y (by simp) hy)
        refine .agg vs xs (by omega) ?_ key
        rw [List.all_eq_true]
        intro y hy
        obtain ⟨j, hj, rfl⟩ := List.mem_iff_getElem.1 hy
        have hjv : j < vs.size := by omega
        exact (key j xs[j] vs[j] (by simp) (by simp)).one_of (h1 _ (by simp))
    · rename_i o g
      simp only [Option.bind_eq_some_iff] at hq
      obtain ⟨⟨fz, es⟩, hb, hq⟩ := hq
      simp only at hq
      split at hq
      · rename_i hc
        simp only [Option.some.injEq] at hq
        subst hq
        obtain ⟨rfl, ho⟩ := AH.mpo_spec hb
        obtain ⟨b, arr, ha, h1, h2, hw, hst, hs, hr⟩ := H.obj _ _ ho
        cases hx with
        | mp _ _ _ hp hg he =>
          have := he rfl
          subst this
          rw [ha]
          refine .map b arr es ?_ hw hst hs (fun j e x he hx => (hr j e x he hx).1.keep hsub fun _ _ => rfl) (fun j e x he hx => (hr j e x he hx).2.keep hsub fun _ _ => rfl)
          simp only [Bool.or_eq_true] at hc
          rcases hc with hc | hc
          · exact .inr ⟨o, _, hc, ho, by rw [ha]; rfl⟩
          · exact .inl (h1 hc)
      · simp at hq
    · simp at hq
theorem Rep.flatV {E E' : Nat → Prop} {v : Value} {x : FV} (hr : Rep w E v x) (hf : x.flatV = true) : Rep w E' v x := by
  cases hr with
  | val => exact .val _
  | _ => simp [FV.flatV] at hf
theorem Rep.shallow {E E' : Nat → Prop} {v : Value} {x : FV} (hr : Rep w E v x) (hf : x.shallow = true) : Rep w E' v x := by
  cases hr with
  | val => exact .val _
  | agg vs cells hs hone hrep =>
    exact .agg vs cells hs hone fun j y v hy hv => (hrep j y v hy hv).flatV (List.all_eq_true.1 hf y (List.mem_of_getElem? hy))
  | tup vs xs hs hrep =>
    refine .tup vs xs hs fun j y v hy hv => ?_
    have h1 := List.all_eq_true.1 hf y (List.mem_of_getElem? hy)
    have h2 := hrep j y v hy hv
    cases h2 with
    | val => exact .val _
    | agg vs' cells hs' hone hrep' =>
      exact .agg vs' cells hs' hone fun j y v hy hv => (hrep' j y v hy hv).flatV (List.all_eq_true.1 h1 y (List.mem_of_getElem? hy))
    | _ => simp at h1
  | list => simp [FV.shallow] at hf
  | empty => simp [FV.shallow] at hf
  | ptr => simp [FV.shallow] at hf
  | clos => simp [FV.shallow] at hf
  | map => simp [FV.shallow] at hf
theorem shallow_cells {x : FV} (hf : x.shallow = true) (h1 : x.cells.all FV.one = true) : ∀ y ∈ x.cells, y.flatV = true := by
  cases x with
  | val v => intro y hy; simp [FV.cells] at hy; subst hy; rfl
  | agg cs => intro y hy; exact List.all_eq_true.1 hf y hy
  | tup vs => simp [FV.cells, FV.one] at h1
  | _ => simp [FV.shallow] at hf
theorem RCRep.shallow {E E' : Nat → Prop} {B : Nat} {v : Value} {c : RC} (hc : RCRep w E B v c) (hf : c.shallow = true) (hE : ∀ b, blk v = some b → c.isOwn = true → ¬ E b → ¬ E' b) : RCRep w E' B v c := by
  cases c with
  | fx x => exact Rep.shallow hc hf
  | own e es nil xs =>
    obtain ⟨⟨vs, hown, hnil, hes, hlen, hrep⟩, hnD⟩ := hc
    refine ⟨⟨vs, hown, hnil, hes, hlen, fun j y u hy hu => (hrep j y u hy hu).flatV ?_⟩, fun b hb => hE b hb rfl (hnD b hb)⟩
    have hm := List.mem_of_getElem? hy
    simp only [FV.flat, List.mem_flatMap] at hm
    obtain ⟨x, hx, hxm⟩ := hm
    exact shallow_cells (List.all_eq_true.1 hf x hx) (hlen x hx).2 y hxm
theorem impC_sound (H : Heap P cx h w D an) (n : Nat) (c : RC) {B : Nat} (hB : cx.wi.heap.size ≤ B) {v : Value} (hc : RCRep w D B v c)
    (hfresh : c.isOwn = true → ∀ b, blk v = some b → ∀ o ob, h.obj o = some ob → blk (an o) ≠ some b) (hY : c.isOwn = true → ∀ b, blk v = some b → ¬ cx.Yb b) :
    ∃ an', Heap P cx (impC h n c).2 w D an' ∧ Ext w D h.gen an w D (impC h n c).2.gen an' ∧ LVRep P w D (impC h n c).2.gen an' v (impC h n c).1 ∧
      (∀ o ob b, (impC h n c).2.obj o = some ob → blk (an' o) = some b → (∃ ob', h.obj o = some ob' ∧ blk (an o) = some b) ∨ (c.isOwn = true ∧ blk v = some b)) := by
  cases c with
  | fx x => exact ⟨an, H, .refl _ _ _ _, .fv _ _ hc, fun o ob b ho hb => .inl ⟨ob, ho, hb⟩⟩
  | own e es nil xs =>
    obtain ⟨hown, hnD⟩ := hc
    have hown' : OwnList w D 0 v e es nil xs := by
      obtain ⟨vs, ho, r⟩ := hown
      refine ⟨vs, ⟨ho.1, ?_⟩, r⟩
      rcases ho.2 with hn | ⟨g, cap, cur, hv, hb, r⟩
      · exact .inl hn
      · exact .inr ⟨g, cap, cur, hv, Nat.zero_le _, r⟩
    have he := new_ext (h := h) (an := an) n (.list e es false nil xs) v H.lt (Below.refl w.heap.size w)
    refine ⟨upd an n v, ?_, he, .gl _ _ _ hown.oneCell (by simp [impC, AH.new, upd]) fun _ => by simp [upd], ?_⟩
    · refine H.step (h' := h.new n (.list e es false nil xs)) n (.refl _ _ _) he.dd he.keep H.lt (fun _ h => .inl h) he.mono he.anc ?_ ?_ ?_ ?_ ?_ ?_ rfl (fun _ _ _ => rfl) (fun ob b _ hb => hY rfl b (by simpa [upd] using hb))
      · intro o ho; simp [impC, AH.new, upd, ho]
      · intro o ho; simp [upd, ho]
      · intro o b ob _ _ _; exact ⟨rfl, fun h => h⟩
      · intro ob hob
        simp only [impC, AH.new, upd, if_true, Option.some.injEq] at hob
        subst hob
        simp only [upd, if_true]
        exact ⟨hown', fun b hb => ⟨by simp, fun _ => hnD b hb⟩⟩
      · intro ob b _ hb
        simp only [upd, if_true] at hb
        have := hown.ge b hb
        exact .inl (by omega)
      · intro o b ob ob' ho hob _ hb hb'
        simp only [upd, if_true] at hb'
        exact hfresh rfl b hb' o ob hob hb
    · intro o ob b ho hb
      simp only [impC, AH.new, upd] at ho hb
      by_cases e' : o = n
      · rw [if_pos e'] at hb; exact .inr ⟨rfl, hb⟩
      · rw [if_neg e'] at ho hb; exact .inl ⟨ob, ho, hb⟩
theorem impS_sound : ∀ (cs : List RC) {h : AH} {an : Nat → Value} (H : Heap P cx h w D an) (n : Nat) {B : Nat} (hB : cx.wi.heap.size ≤ B) (vs : List Value), vs.length = cs.length →
    (∀ (j : Nat) (c : RC) (u : Value), cs[j]? = some c → vs[j]? = some u → RCRep w D B u c) →
    (∀ (i j : Nat) (c c' : RC) (u u' : Value) (b : Nat), cs[i]? = some c → cs[j]? = some c' → vs[i]? = some u → vs[j]? = some u' → c.isOwn = true → c'.isOwn = true → blk u = some b → blk u' = some b → i = j) →
    (∀ (j : Nat) (c : RC) (u : Value) (b : Nat), cs[j]? = some c → vs[j]? = some u → c.isOwn = true → blk u = some b → ∀ o ob, h.obj o = some ob → blk (an o) ≠ some b) →
    (∀ (j : Nat) (c : RC) (u : Value) (b : Nat), cs[j]? = some c → vs[j]? = some u → c.isOwn = true → blk u = some b → ¬ cx.Yb b) →
    ∃ an', Heap P cx (impS h n cs).2 w D an' ∧ Ext w D h.gen an w D (impS h n cs).2.gen an' ∧ (impS h n cs).1.length = cs.length ∧
      ∀ (j : Nat) (x : LV) (u : Value), (impS h n cs).1[j]? = some x → vs[j]? = some u → LVRep P w D (impS h n cs).2.gen an' u x := by
  intro cs
  induction cs with
  | nil => intro h an H n B hB vs _ _ _ _ _; exact ⟨an, H, .refl _ _ _ _, rfl, by simp [impS]⟩
  | cons c cs ih =>
    intro h an H n B hB vs hl hr hd hf hY
    cases vs with
    | nil => simp at hl
    | cons v vs =>
      obtain ⟨an1, H1, E1, L1, hobj⟩ := impC_sound H n c hB (hr 0 c v rfl rfl) (fun ho b hb => hf 0 c v b rfl rfl ho hb) (fun ho b hb => hY 0 c v b rfl rfl ho hb)
      obtain ⟨an2, H2, E2, hlen, L2⟩ := ih H1 (n + 1) hB vs (by simpa using hl) (fun j c u h h' => hr (j + 1) c u (by simpa using h) (by simpa using h'))
        (fun i j c c' u u' b h1 h2 h3 h4 h5 h6 h7 h8 => by
          have := hd (i + 1) (j + 1) c c' u u' b (by simpa using h1) (by simpa using h2) (by simpa using h3) (by simpa using h4) h5 h6 h7 h8
          omega)
        (fun j c' u b h1 h2 h3 h4 o ob ho hb => by
          rcases hobj o ob b ho hb with ⟨ob', ho', hb'⟩ | ⟨hc, hb'⟩
          · exact hf (j + 1) c' u b (by simpa using h1) (by simpa using h2) h3 h4 o ob' ho' hb'
          · have := hd 0 (j + 1) c c' v u b rfl (by simpa using h1) rfl (by simpa using h2) hc h3 hb' h4
            omega)
        (fun j c' u b h1 h2 h3 h4 => hY (j + 1) c' u b (by simpa using h1) (by simpa using h2) h3 h4)
      refine ⟨an2, H2, E1.trans E2, by simp [impS, hlen], fun j x u hx hu => ?_⟩
      cases j with
      | zero => simp [impS] at hx hu; subst hx; subst hu; exact L1.ext E2
      | succ j => exact L2 j x u (by simpa [impS] using hx) (by simpa using hu)
end
end Abs

namespace Abs
open Go
open Go.RowKit (Below)
def SeqFn (P : Program) (f : Nat) (pre post : List FV) (xs : List (List FV)) : Prop :=
  Enters P f ∧ ∀ (w : World) (D : Nat → Prop) (vpre vpost : Array Value) (yv : Value) (ys : YS) (Y : Nat → Prop), (∀ b, D b → b < w.heap.size) → RepAll w D vpre pre → RepAll w D vpost post →
    YRule P yv ys → yv.oneCell' = true → ys.B ≤ w.heap.size → (∀ b, Y b → b < w.heap.size) → ys.J (some xs) w Y D → Calls P f (vpre ++ #[yv] ++ vpost) w (PostY ys w Y D)
def argOf (P : Program) (own : Nat → Bool) (h : AH) (lv : LV) : Arg → Prop
  | .fo x => peek own h 6 lv = some x
  | .fn g => lv = .fn g ∨ ∃ f caps, peek own h 6 lv = some (.clos f caps) ∧ Enters P f ∧ ∀ xs r, g xs = some r → Fn P f (xs.map .fo ++ caps.map .fo) (.one (.fx r))
  | .sq xs => lv = .sq xs ∨ (∃ f caps, peek own h 6 lv = some (.clos f caps) ∧ SeqFn P f [] caps xs) ∨ ∃ f first pre, lv = .bnd f first ∧ mapO (peek own h 6) first = some pre ∧ SeqFn P f pre [] xs
def argsOf (P : Program) (own : Nat → Bool) (h : AH) : List LV → List Arg → Prop
  | [], [] => True
  | x :: xs, a :: as => argOf P own h x a ∧ argsOf P own h xs as
  | _, _ => False
def callE (P : Program) (d : Option Nat) (f : LV) (args : List LV) (h : AH) (K : LV → AH → Prop) : Prop :=
  ∃ (os : List Nat) (own : Bool),
    match f with
    | .clos f caps => ∃ as cs r, argsOf P (fun _ => own) (h.frzObjs os) args as ∧ mapO (peek (fun _ => own) (h.frzObjs os) 6) caps = some cs ∧ Fn P f (as ++ cs.map .fo) r ∧ (own = false ∨ r.shallow = true) ∧
        K (impR (h.frzObjs os) d r).1 (impR (h.frzObjs os) d r).2
    | .fv (.clos f cs) => ∃ as r, argsOf P (fun _ => own) (h.frzObjs os) args as ∧ Fn P f (as ++ cs.map .fo) r ∧ (own = false ∨ r.shallow = true) ∧
        K (impR (h.frzObjs os) d r).1 (impR (h.frzObjs os) d r).2
    | .fn g => ∃ xs r, mapO (peek (fun _ => own) (h.frzObjs os) 6) args = some xs ∧ g xs = some r ∧ (own = false ∨ r.shallow = true) ∧ K (.fv r) (h.frzObjs os)
    | _ => False
section
variable {P : Program} {cx : Cx} {w : World} {D : Nat → Prop} {h : AH} {an : Nat → Value}
theorem argOf_sound (H : Heap P cx h w D an) {own : Nat → Bool} {x : LV} {a : Arg} {v : Value} (hx : LVRep P w D h.gen an v x) (ha : argOf P own h x a) : ArgRep P w (Lent own D h an) v a := by
  cases a with
  | fo y => exact peek_sound H own 6 x v y hx ha
  | fn g =>
    rcases ha with rfl | ⟨f, caps, hp, hen, hfn⟩
    · cases hx with
      | fn _ _ hf => exact hf.keep (fun b hb => .inl hb) fun _ _ => rfl
    · have hr := peek_sound H own 6 x v _ hx hp
      cases hr with
      | clos _ vs _ hs hrep =>
        refine ⟨f, #[], vs, rfl, hen, fun w' D' hD hb hlt cargs args r hargs hg => ?_⟩
        have := (hfn args r hg).2 w' D' (cargs ++ vs) hlt ⟨by simp [hargs.1, hs], fun j y u hy hu => ?_⟩
        · simpa using this
        · by_cases hj : j < args.length
          · rw [List.getElem?_append_left (by simpa using hj)] at hy
            rw [Array.getElem?_append_left (by rw [hargs.1]; exact hj)] at hu
            simp only [List.getElem?_map, Option.map_eq_some_iff] at hy
            obtain ⟨z, hz, rfl⟩ := hy
            exact hargs.2 j z u hz hu
          · rw [List.getElem?_append_right (by simpa using hj)] at hy
            rw [Array.getElem?_append_right (by rw [hargs.1]; omega)] at hu
            simp only [List.getElem?_map, Option.map_eq_some_iff] at hy
            obtain ⟨z, hz, rfl⟩ := hy
            rw [hargs.1] at hu
            simp only [List.length_map] at hz
            exact (hrep _ z u hz hu).keep hD hb
  | sq xs =>
    rcases ha with rfl | ⟨f, caps, hp, hen, hfn⟩ | ⟨f, first, pre, rfl, hp, hen, hfn⟩
    · cases hx with
      | sq _ _ _ hf => exact hf.keep (fun b hb => .inl hb) fun _ _ => rfl
    · have hr := peek_sound H own 6 x v _ hx hp
      cases hr with
      | clos _ vs _ hs hrep =>
        refine ⟨f, #[], vs, rfl, hen, fun w' D' hD hb hlt yv ys Y h1 h2 h3 h4 h5 => ?_⟩
        exact hfn w' D' #[] vs yv ys Y hlt ⟨rfl, by simp⟩ ⟨hs, fun j y u hy hu => (hrep j y u hy hu).keep hD hb⟩ h1 h2 h3 h4 h5
    · cases hx with
      | bnd _ _ vs hs hrep =>
        obtain ⟨hl, hm⟩ := mapO_spec hp
        refine ⟨f, vs, #[], rfl, hen, fun w' D' hD hb hlt yv ys Y h1 h2 h3 h4 h5 => ?_⟩
        refine hfn w' D' vs #[] yv ys Y hlt ⟨by omega, fun j y u hy hu => ?_⟩ ⟨rfl, by simp⟩ h1 h2 h3 h4 h5
        have hj : j < first.length := by rw [hl]; exact (List.getElem?_eq_some_iff.1 hy).1
        exact (peek_sound H own 6 _ u y (hrep j first[j] u (by simp) hu) (hm j first[j] y (by simp) hy)).keep hD hb
theorem argsOf_spec {own : Nat → Bool} : ∀ {xs : List LV} {as : List Arg}, argsOf P own h xs as → xs.length = as.length ∧ ∀ (j : Nat) (x : LV) (a : Arg), xs[j]? = some x → as[j]? = some a → argOf P own h x a := by
  intro xs
  induction xs with
  | nil => intro as h; cases as with
    | nil => simp
    | cons => simp [argsOf] at h
  | cons x xs ih =>
    intro as h
    cases as with
    | nil => simp [argsOf] at h
    | cons a as =>
      obtain ⟨h1, h2⟩ := h
      obtain ⟨e1, e2⟩ := ih h2
      refine ⟨by simp [e1], fun j x' a' hx ha => ?_⟩
      cases j with
      | zero => simp at hx ha; subst hx; subst ha; exact h1
      | succ j => exact e2 j x' a' (by simpa using hx) (by simpa using ha)
theorem call_back (H : Heap P cx h w D an) {own : Bool} {d : Option Nat} {r : RV} (hsh : own = false ∨ r.shallow = true) {v : Value} {w' : World} {F : Nat → Prop}
    (hb : Below w.heap.size w w') (hF : ∀ b, F b → w.heap.size ≤ b ∧ b < w'.heap.size) (hr : RVRep w' (fun b => Lent (fun _ => own) D h an b ∨ F b) w.heap.size v r) :
    ∃ D' an', Heap P cx (impR h d r).2 w' D' an' ∧ Ext w D h.gen an w' D' (impR h d r).2.gen an' ∧ LVRep P w' D' (impR h d r).2.gen an' v (impR h d r).1 := by
  have hle : cx.wi.heap.size ≤ w.heap.size := H.below.size
  have hsz : w.heap.size ≤ w'.heap.size := hb.size
  let D1 : Nat → Prop := fun b => D b ∨ F b
  have E0 : Ext w D h.gen an w' D1 h.gen an := ⟨fun _ h => .inl h, fun b hD => hb.block b (H.lt b hD), fun _ => Nat.le_refl _, fun _ _ => rfl⟩
  have H0 : Heap P cx h w' D1 an := by
    refine ⟨fun b hi => .inl (H.init b hi), ?_, ?_, H.below.trans (.of hb hle), fun o ob ho => ?_, H.ow, H.sep, H.gmono, H.anc, ?_, fun b hb' => Nat.lt_of_lt_of_le (H.ylt b hb') hsz, H.ysep⟩
    · rintro b (hD | hf)
      · have := H.lt b hD; omega
      · exact (hF b hf).2
    · rintro b (hD | hf)
      · exact H.new b hD
      · exact .inr (.inl (by have := (hF b hf).1; omega))
    · refine (H.obj o ob ho).keep E0.dd E0.keep (fun b hbk => ?_) E0.mono E0.anc
      have hlt := H.blk_lt ho hbk
      refine ⟨hb.block b hlt, ?_⟩
      rintro (hD | hf)
      · exact hD
      · have := (hF b hf).1; omega
    · refine cx.J.stable H.yJ hb.os hb.tape hb.output hsz (fun b hb' _ => hb.block b hb') E0.dd ?_ ?_
      · rintro b (hD | hf)
        · exact .inl hD
        · have h1 := (hF b hf).1
          have h2 := cx.jB
          exact .inr ⟨by omega, fun hY => by have := H.ylt b hY; omega⟩
      · rintro b (hD | hf)
        · have := H.lt b hD; omega
        · exact (hF b hf).2
  -- the result's memory
  have conv : ∀ {u : Value} {c : RC}, (own = false ∨ c.shallow = true) → RCRep w' (fun b => Lent (fun _ => own) D h an b ∨ F b) w.heap.size u c → RCRep w' D1 w.heap.size u c := by
    intro u c hs hc
    have hnot : ∀ b, ¬ (Lent (fun _ => own) D h an b ∨ F b) → ¬ D1 b := by
      rintro b hn (hD | hf)
      · exact hn (.inl (.inl hD))
      · exact hn (.inr hf)
    rcases hs with hs | hs
    · subst hs
      have hsame : ∀ b, (Lent (fun _ => false) D h an b ∨ F b) → D1 b := by
        rintro b ((hD | ⟨_, _, h1, _⟩) | hf)
        · exact .inl hD
        · simp at h1
        · exact .inr hf
      cases c with
      | fx x => exact Rep.keep hc hsame fun _ _ => rfl
      | own e es nil xs => exact ⟨hc.1.keep hsame (fun _ _ => rfl) fun _ _ => rfl, fun b hb => hnot b (hc.2 b hb)⟩
    · exact hc.shallow hs fun b _ _ hn => hnot b hn
  have fresh : ∀ {u : Value} {c : RC}, c.isOwn = true → RCRep w' D1 w.heap.size u c → ∀ b, blk u = some b → ∀ o ob, h.obj o = some ob → blk (an o) ≠ some b := by
    intro u c ho hc b hbk o ob hob hbk'
    have := H.blk_lt hob hbk'
    cases c with
    | fx x => simp [RC.isOwn] at ho
    | own e es nil xs => have := hc.1.ge b hbk; omega
  have freshY : ∀ {u : Value} {c : RC}, c.isOwn = true → RCRep w' D1 w.heap.size u c → ∀ b, blk u = some b → ¬ cx.Yb b := by
    intro u c ho hc b hbk hY
    have := H.ylt b hY
    cases c with
    | fx x => simp [RC.isOwn] at ho
    | own e es nil xs => have := hc.1.ge b hbk; omega
  cases r with
  | one c =>
    have hc := conv (c := c) (by simpa [RV.shallow] using hsh) hr
    obtain ⟨an', H1, E1, L1, _⟩ := impC_sound H0 (d.getD 9999) c hle hc (fun ho => fresh ho hc) (fun ho => freshY ho hc)
    exact ⟨D1, an', H1, E0.trans E1, L1⟩
  | tup cs =>
    obtain ⟨vs, rfl, hs, hcs, hdis⟩ := hr
    have hall : ∀ (j : Nat) (c : RC), cs[j]? = some c → own = false ∨ c.shallow = true := by
      intro j c hc
      rcases hsh with h | h
      · exact .inl h
      · exact .inr (List.all_eq_true.1 h c (List.mem_of_getElem? hc))
    have hcs' : ∀ (j : Nat) (c : RC) (u : Value), cs[j]? = some c → vs.toList[j]? = some u → RCRep w' D1 w.heap.size u c := fun j c u hc hu => conv (hall j c hc) (hcs j c u hc (by simpa using hu))
    obtain ⟨an', H1, E1, hlen, L1⟩ := impS_sound cs H0 (10000 + 100 * d.getD 99) hle vs.toList (by simpa using hs) hcs'
      (fun i j c c' u u' b h1 h2 h3 h4 h5 h6 h7 h8 => hdis i j c c' u u' b h1 h2 (by simpa using h3) (by simpa using h4) h5 h6 h7 h8)
      (fun j c u b hc hu ho hbk => fresh ho (hcs' j c u hc hu) b hbk) (fun j c u b hc hu ho hbk => freshY ho (hcs' j c u hc hu) b hbk)
    exact ⟨D1, an', H1, E0.trans E1, .tup _ _ (by rw [hlen]; exact hs) fun j y v hy hv => L1 j y v hy (by simpa using hv)⟩
theorem lent_lt (H : Heap P cx h w D an) (own : Nat → Bool) : ∀ b, Lent own D h an b → b < w.heap.size := by
  rintro b (hb | ⟨o, ob, _, ho, hb⟩)
  · exact H.lt b hb
  · exact H.blk_lt ho hb
theorem call_sound (H : Heap P cx h w D an) {ρ : Nat → LV} {a : Act} (hs : ∀ i, LVRep P w D h.gen an (a.tmps.getD i Go.undef) (ρ i)) (o : Oper) (fo : Operand) (args : Array Operand) (tys : Array TypeId)
    (ho : o.op = .call { callee := .value fo, args := args, argTypes := tys })
    {d : Option Nat} {K : LV → AH → Prop} (hq : callE P d (evL ρ fo) (args.toList.map (evL ρ)) h K) {ro : Option Nat} {n : Nat} {next : Act → World → Prop} {Q : Exit → Act → World → Prop}
    (hnext : ∀ lv h' v w' D' an', K lv h' → Heap P cx h' w' D' an' → Ext w D h.gen an w' D' h'.gen an' → LVRep P w' D' h'.gen an' v lv → next (a.put o.dst v) w') : o.wpIn (FX ro) n P a w next Q := by
  have hop : ∀ c, o.op ≠ .defer c := by rw [ho]; simp
  obtain ⟨os, own, hq⟩ := hq
  obtain ⟨D0, H0, hg0, hd0⟩ := frzObjs_sound os H
  have E0 := frz_ext (w := w) (an := an) hg0 hd0
  have hs0 : ∀ x, LVRep P w D0 (h.frzObjs os).gen an (a.eval x) (evL ρ x) := fun x => (ev_sound hs x).ext E0
  generalize h.frzObjs os = h0 at *
  have hfo := hs0 fo
  have hargl : (args.map a.eval).size = (args.toList.map (evL ρ)).length := by simp
  have hargr : ∀ (j : Nat) (x : LV) (v : Value), (args.toList.map (evL ρ))[j]? = some x → (args.map a.eval)[j]? = some v → LVRep P w D0 h0.gen an v x := by
    intro j x v hx hv
    simp only [List.getElem?_map, Array.getElem?_toList, Option.map_eq_some_iff, Array.getElem?_map] at hx hv
    obtain ⟨c, hc, rfl⟩ := hx
    obtain ⟨c', hc', rfl⟩ := hv
    rw [hc] at hc'; simp at hc'; subst hc'
    exact hs0 c
  -- a call of f with what it captured
  have go : ∀ (f : Nat) (caps : Array Value) (as : List Arg) (cs : List FV) (r : RV), a.eval fo = .func (.func f) #[] caps → argsOf P (fun _ => own) h0 (args.toList.map (evL ρ)) as →
      RepAll w (Lent (fun _ => own) D0 h0 an) caps cs → Fn P f (as ++ cs.map .fo) r → (own = false ∨ r.shallow = true) → K (impR h0 d r).1 (impR h0 d r).2 → o.wpIn (FX ro) n P a w next Q := by
    intro f caps as cs r hfe has hcs hfn hsh hK
    obtain ⟨hen, hcall⟩ := hfn
    have hrun : (execOp a.eval o).run P w = .ok (.enter f (args.map a.eval ++ caps)) w := by
      simp only [execOp, ho, resolve, Sem.run_bind, hfe, Deferred.ofValue, Sem.run_pure, Result.andThen_ok, invoke, Array.empty_append]
      exact hen _ w
    refine enter_wpIn hop hrun ?_
    obtain ⟨hal, har⟩ := argsOf_spec has
    refine (hcall w (Lent (fun _ => own) D0 h0 an) _ (lent_lt H0 _) ⟨by simp [hcs.1] at hal ⊢; omega, fun j y u hy hu => ?_⟩).mono ?_
    · by_cases hj : j < as.length
      · rw [List.getElem?_append_left hj] at hy
        rw [Array.getElem?_append_left (by omega)] at hu
        exact argOf_sound H0 (hargr j _ u (List.getElem?_eq_getElem (by omega)) hu) (har j _ y (List.getElem?_eq_getElem (by omega)) hy)
      · rw [List.getElem?_append_right (by omega)] at hy
        rw [Array.getElem?_append_right (by omega)] at hu
        simp only [List.getElem?_map, Option.map_eq_some_iff] at hy
        obtain ⟨z, hz, rfl⟩ := hy
        exact hcs.2 _ z u hz (by rw [← hu]; congr 1; omega)
    · rintro e w' ⟨v, F, rfl, hb, hF, hr⟩
      obtain ⟨D', an', H1, E1, L1⟩ := call_back (d := d) H0 hsh hb hF hr
      exact hnext _ _ v w' D' an' hK H1 (E0.trans E1) L1
  split at hq
  · rename_i f caps hfl
    obtain ⟨as, cs, r, has, hcs, hfn, hsh, hK⟩ := hq
    rw [hfl] at hfo
    generalize hgen : a.eval fo = v at hfo
    cases hfo with
    | clos _ _ vs hvs hrep =>
      obtain ⟨hl, hm⟩ := mapO_spec hcs
      refine go f vs as cs r hgen has ⟨by omega, fun j y u hy hu => ?_⟩ hfn hsh hK
      have hjl : j < caps.length := by rw [hl]; exact (List.getElem?_eq_some_iff.1 hy).1
      exact peek_sound H0 _ 6 _ u y (hrep j caps[j] u (by simp) hu) (hm j caps[j] y (by simp) hy)
  · rename_i f cs hfl
    obtain ⟨as, r, has, hfn, hsh, hK⟩ := hq
    rw [hfl] at hfo
    have hfr := hfo.fv_inv
    generalize hgen : a.eval fo = v at hfr
    cases hfr with
    | clos _ vs _ hvs hrep =>
      exact go f vs as cs r hgen has ⟨hvs, fun j y u hy hu => (hrep j y u hy hu).keep (fun b hb => .inl hb) fun _ _ => rfl⟩ hfn hsh hK
  · rename_i g hfl
    obtain ⟨xs, r, hxs, hgr, hsh, hK⟩ := hq
    rw [hfl] at hfo
    generalize hgen : a.eval fo = v at hfo
    cases hfo with
    | fn _ _ hf =>
      obtain ⟨f, first, caps, rfl, hen, hcall⟩ := hf
      have hrun : (execOp a.eval o).run P w = .ok (.enter f (first ++ args.map a.eval ++ caps)) w := by
        simp only [execOp, ho, resolve, Sem.run_bind, hgen, Deferred.ofValue, Sem.run_pure, Result.andThen_ok, invoke]
        exact hen _ w
      refine enter_wpIn hop hrun ?_
      obtain ⟨hl, hm⟩ := mapO_spec hxs
      refine (hcall w (Lent (fun _ => own) D0 h0 an) (fun b hb => .inl hb) (fun _ _ => rfl) (lent_lt H0 _) (args.map a.eval) xs r ⟨by omega, fun j y u hy hu => ?_⟩ hgr).mono ?_
      · exact peek_sound H0 _ 6 _ u y (hargr j _ u (List.getElem?_eq_getElem (by rw [hl]; exact (List.getElem?_eq_some_iff.1 hy).1)) hu) (hm j _ y (List.getElem?_eq_getElem (by rw [hl]; exact (List.getElem?_eq_some_iff.1 hy).1)) hy)
      · rintro e w' ⟨v, F, rfl, hb, hF, hr⟩
        obtain ⟨D', an', H1, E1, L1⟩ := call_back (d := d) (r := .one (.fx r)) H0 (by simpa [RV.shallow, RC.shallow] using hsh) hb hF hr
        exact hnext _ _ v w' D' an' hK H1 (E0.trans E1) L1
  · exact hq.elim
end
end Abs

