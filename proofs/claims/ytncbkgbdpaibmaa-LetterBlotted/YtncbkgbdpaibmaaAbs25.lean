/- A part of the proof: Abs25. -/
import Derived.Test.YtncbkgbdpaibmaaAbs14
set_option linter.unusedSimpArgs false
set_option linter.unusedVariables false
namespace Abs
open Go
open Go.RowKit (Below)
def Cx.wY (cx : Cx) (Y : Nat → Prop) : Cx := { cx with Yb := Y }
def ownBlk (h : AH) (an : Nat → Value) (b : Nat) : Prop := ∃ o ob, h.obj o = some ob ∧ blk (an o) = some b
structure HeapY (P : Program) (cx : Cx) (h : AH) (w : World) (D : Nat → Prop) (an : Nat → Value) : Prop where
  rule : h.gen yN = 0 → YRule P (an yN) cx.J
  keep : ∀ b, cx.Di b → w.heap[b]? = cx.wi.heap[b]?
  heap : ∃ Y, (∀ b, Y b → b < cx.wi.heap.size → cx.M b) ∧ Heap P (cx.wY Y) h w D an
section
variable {P : Program} {cx : Cx} {w : World} {D : Nat → Prop} {h : AH} {an : Nat → Value}
theorem HeapY.next (H : HeapY P cx h w D an) {h' : AH} {w' : World} {D' : Nat → Prop} {an' : Nat → Value} (E : Ext w D h.gen an w' D' h'.gen an')
    {Y : Nat → Prop} (hY : ∀ b, Y b → b < cx.wi.heap.size → cx.M b) (H' : Heap P (cx.wY Y) h' w' D' an') : HeapY P cx h' w' D' an' := by
  refine ⟨fun hg => ?_, fun b hb => ?_, Y, hY, H'⟩
  · have h1 := E.mono yN
    have h2 : h.gen yN = 0 := by omega
    rw [E.anc yN (by omega)]
    exact H.rule h2
  · obtain ⟨Y0, _, H0⟩ := H.heap
    rw [E.keep b (H0.init b hb)]
    exact H.keep b hb
theorem HeapY.lt (H : HeapY P cx h w D an) : ∀ b, D b → b < w.heap.size := by obtain ⟨_, _, H0⟩ := H.heap; exact H0.lt
def PostA (P : Program) (cx : Cx) (h : AH) (w : World) (D : Nat → Prop) (an : Nat → Value) (K : LV → AH → Prop) (e : Ending) (w' : World) : Prop :=
  ∃ lv h' v D' an', e = .returned v ∧ K lv h' ∧ HeapY P cx h' w' D' an' ∧ Ext w D h.gen an w' D' h'.gen an' ∧ LVRep P w' D' h'.gen an' v lv
def LVs (P : Program) (w : World) (D : Nat → Prop) (gen : Nat → Nat) (an : Nat → Value) (vs : Array Value) (xs : List LV) : Prop :=
  vs.size = xs.length ∧ ∀ (j : Nat) (y : LV) (v : Value), xs[j]? = some y → vs[j]? = some v → LVRep P w D gen an v y
def AC (P : Program) (f : Nat) (args : List LV) (h : AH) (K : LV → AH → Prop) : Prop :=
  Enters P f ∧ ∀ (cx : Cx) (w : World) (D : Nat → Prop) (an : Nat → Value) (cargs : Array Value), HeapY P cx h w D an → LVs P w D h.gen an cargs args →
    Calls P f cargs w (PostA P cx h w D an K)
theorem AC.mono {f : Nat} {args : List LV} {K K' : LV → AH → Prop} (hq : AC P f args h K) (hK : ∀ lv h, K lv h → K' lv h) : AC P f args h K' :=
  ⟨hq.1, fun cx w D an cargs H L => (hq.2 cx w D an cargs H L).mono fun e w' ⟨lv, h', v, D', an', h1, h2, h3⟩ => ⟨lv, h', v, D', an', h1, hK _ _ h2, h3⟩⟩
def callA (P : Program) (f : LV) (args : List LV) (h : AH) (K : LV → AH → Prop) : Prop :=
  match f with
  | .clos f caps => AC P f (args ++ caps) h K ∧ ∃ lv h', K lv h'
  | .fv (.clos f cs) => AC P f (args ++ cs.map .fv) h K ∧ ∃ lv h', K lv h'
  | .bnd f first => AC P f (first ++ args) h K ∧ ∃ lv h', K lv h'
  | .it o g => o = yN ∧ g = 0 ∧ h.gen yN = 0 ∧ ∃ os x rest, mapO (peek (fun _ => false) (h.frzObjs os) 6) args = some x ∧ (h.frzObjs os).y = some (x :: rest) ∧
      K (.fv (.bool true)) ⟨(h.frzObjs os).gen, (h.frzObjs os).obj, some rest⟩ ∧ K (.fv (.bool false)) ⟨(h.frzObjs os).gen, (h.frzObjs os).obj, none⟩
  | _ => False
theorem callA_mono {f : LV} {args : List LV} {K K' : LV → AH → Prop} (hK : ∀ lv h, K lv h → K' lv h) (hq : callA P f args h K) : callA P f args h K' := by
  cases f with
  | clos f caps => exact ⟨AC.mono hq.1 hK, let ⟨lv, h', k⟩ := hq.2; ⟨lv, h', hK _ _ k⟩⟩
  | bnd f first => exact ⟨AC.mono hq.1 hK, let ⟨lv, h', k⟩ := hq.2; ⟨lv, h', hK _ _ k⟩⟩
  | fv x =>
    cases x with
    | clos f cs => exact ⟨AC.mono hq.1 hK, let ⟨lv, h', k⟩ := hq.2; ⟨lv, h', hK _ _ k⟩⟩
    | _ => exact hq.elim
  | it o g =>
    obtain ⟨h1, h2, h3, os, x, rest, h4, h5, h6, h7⟩ := hq
    exact ⟨h1, h2, h3, os, x, rest, h4, h5, hK _ _ h6, hK _ _ h7⟩
  | _ => exact hq.elim
theorem callA_some {f : LV} {args : List LV} {K : LV → AH → Prop} (hq : callA P f args h K) : ∃ lv h', K lv h' := by
  cases f with
  | clos f caps => exact hq.2
  | bnd f first => exact hq.2
  | fv x =>
    cases x with
    | clos f cs => exact hq.2
    | _ => exact hq.elim
  | it o g =>
    obtain ⟨h1, h2, h3, os, x, rest, h4, h5, h6, h7⟩ := hq
    exact ⟨_, _, h6⟩
  | _ => exact hq.elim
theorem yield_back {Y : Nat → Prop} (hY : ∀ b, Y b → b < cx.wi.heap.size → cx.M b) (H : Heap P (cx.wY Y) h w D an) {w' : World} {Y' D' : Nat → Prop} {y : Option (List (List FV))} (S : YStep w Y D w' Y' D') (hJ : cx.J.J y w' Y' D') :
    (∀ b, Y' b → b < cx.wi.heap.size → cx.M b) ∧ Heap P (cx.wY Y') ⟨h.gen, h.obj, y⟩ w' D' an ∧ Ext w D h.gen an w' D' h.gen an := by
  have hsz : cx.wi.heap.size ≤ w.heap.size := H.below.size
  have hDb : ∀ o ob b, h.obj o = some ob → blk (an o) = some b → w'.heap[b]? = w.heap[b]? ∧ (D' b → D b) := by
    intro o ob b ho hb
    have h1 := H.blk_lt ho hb
    have h2 : ¬ Y b := H.ysep o ob b ho hb
    refine ⟨S.below.block b h1 h2, fun hd => ?_⟩
    rcases S.new b hd with h3 | h3 | h3
    · exact h3
    · exact absurd h3 h2
    · omega
  refine ⟨fun b hb hlt => ?_, ⟨fun b hb => S.dd b (H.init b hb), S.lt, fun b hb => ?_, H.below.trans ⟨S.below.os, S.below.tape, S.below.output, S.below.size, fun b hb hm => ?_⟩, fun o ob ho => ?_, H.ow, H.sep, H.gmono, H.anc, hJ, S.ylt, fun o ob b ho hb hy => ?_⟩,
    ⟨S.dd, S.keep, fun _ => Nat.le_refl _, fun _ _ => rfl⟩⟩
  · rcases S.ynew b hb with h1 | h1
    · exact hY b h1 hlt
    · omega
  · rcases S.new b hb with h1 | h1 | h1
    · exact H.new b h1
    · by_cases hlt : b < cx.wi.heap.size
      · exact .inr (.inr (hY b h1 hlt))
      · exact .inr (.inl (by show cx.wi.heap.size ≤ b; omega))
    · exact .inr (.inl (by show cx.wi.heap.size ≤ b; omega))
  · have hlt : b < cx.wi.heap.size := hb
    exact S.below.block b (by omega) fun hy => hm (hY b hy hlt)
  · exact (H.obj o ob ho).keep S.dd S.keep (fun b hb => hDb o ob b ho hb) (fun _ => Nat.le_refl _) fun _ _ => rfl
  · rcases S.ynew b hy with h1 | h1
    · exact H.ysep o ob b ho hb h1
    · have := H.blk_lt ho hb; omega
theorem callA_sound (H : HeapY P cx h w D an) {ρ : Nat → LV} {a : Act} (hs : ∀ i, LVRep P w D h.gen an (a.tmps.getD i Go.undef) (ρ i)) (o : Oper) (fo : Operand) (args : Array Operand) (tys : Array TypeId)
    (ho : o.op = .call { callee := .value fo, args := args, argTypes := tys })
    {K : LV → AH → Prop} (hq : callA P (evL ρ fo) (args.toList.map (evL ρ)) h K) {ro : Option Nat} {n : Nat} {next : Act → World → Prop} {Q : Exit → Act → World → Prop}
    (hnext : ∀ lv h' v w' D' an', K lv h' → HeapY P cx h' w' D' an' → Ext w D h.gen an w' D' h'.gen an' → LVRep P w' D' h'.gen an' v lv → next (a.put o.dst v) w') : o.wpIn (FX ro) n P a w next Q := by
  have hop : ∀ c, o.op ≠ .defer c := by rw [ho]; simp
  have hfo := ev_sound hs fo
  have hargr : ∀ (j : Nat) (x : LV) (v : Value), (args.toList.map (evL ρ))[j]? = some x → (args.map a.eval)[j]? = some v → LVRep P w D h.gen an v x := by
    intro j x v hx hv
    simp only [List.getElem?_map, Array.getElem?_toList, Option.map_eq_some_iff, Array.getElem?_map] at hx hv
    obtain ⟨c, hc, rfl⟩ := hx
    obtain ⟨c', hc', rfl⟩ := hv
    rw [hc] at hc'; simp at hc'; subst hc'
    exact ev_sound hs c
  have hal : (args.map a.eval).size = (args.toList.map (evL ρ)).length := by simp
  generalize args.toList.map (evL ρ) = xs at hq hargr hal
  have go : ∀ (f : Nat) (first caps : Array Value) (ys : List LV), a.eval fo = .func (.func f) first caps → LVs P w D h.gen an (first ++ args.map a.eval ++ caps) ys → AC P f ys h K → o.wpIn (FX ro) n P a w next Q := by
    intro f first caps ys hfe hl hac
    have hrun : (execOp a.eval o).run P w = .ok (.enter f (first ++ args.map a.eval ++ caps)) w := by
      simp only [execOp, ho, resolve, Sem.run_bind, hfe, Deferred.ofValue, Sem.run_pure, Result.andThen_ok, invoke]
      exact hac.1 _ w
    refine enter_wpIn hop hrun ?_
    refine (hac.2 cx w D an _ H hl).mono ?_
    rintro e w' ⟨lv, h', v, D', an', rfl, hK, H', E, L⟩
    exact hnext lv h' v w' D' an' hK H' E L
  have app : ∀ (a1 a2 : Array Value) (x1 x2 : List LV), LVs P w D h.gen an a1 x1 → LVs P w D h.gen an a2 x2 → LVs P w D h.gen an (a1 ++ a2) (x1 ++ x2) := by
    intro a1 a2 x1 x2 h1 h2
    refine ⟨by simp [h1.1, h2.1], fun j y v hy hv => ?_⟩
    have e1 := h1.1
    by_cases hj : j < x1.length
    · rw [List.getElem?_append_left hj] at hy
      rw [Array.getElem?_append_left (by omega)] at hv
      exact h1.2 j y v hy hv
    · rw [List.getElem?_append_right (by omega)] at hy
      rw [Array.getElem?_append_right (by omega)] at hv
      exact h2.2 _ y v hy (by rw [← hv]; congr 1; omega)
  have hargs : LVs P w D h.gen an (args.map a.eval) xs := ⟨hal, hargr⟩
  generalize hgen : a.eval fo = v at hfo
  unfold callA at hq
  split at hq
  · rename_i f caps hfl
    rw [hfl] at hfo
    cases hfo with
    | clos _ _ vs hvs hrep => exact go f #[] vs _ hgen (by simpa using app _ _ _ _ hargs ⟨hvs, hrep⟩) hq.1
  · rename_i f cs hfl
    rw [hfl] at hfo
    have hfr := hfo.fv_inv
    cases hfr with
    | clos _ vs _ hvs hrep =>
      have hcs : LVs P w D h.gen an vs (cs.map LV.fv) := by
        refine ⟨by simpa using hvs, fun j y u hy hu => ?_⟩
        simp only [List.getElem?_map, Option.map_eq_some_iff] at hy
        obtain ⟨z, hz, rfl⟩ := hy
        exact .fv _ _ (hrep j z u hz hu)
      exact go f #[] vs _ hgen (by simpa using app _ _ _ _ hargs hcs) hq.1
  · rename_i f first hfl
    rw [hfl] at hfo
    cases hfo with
    | bnd _ _ vs hvs hrep => exact go f vs #[] _ hgen (by simpa using app _ _ _ _ ⟨hvs, hrep⟩ hargs) hq.1
  · rename_i o' g hfl
    rw [hfl] at hfo
    obtain ⟨rfl, rfl, hg0, os, x, rest, hx, hy, hK1, hK2⟩ := hq
    obtain ⟨Y, hY, H0⟩ := H.heap
    obtain ⟨D0, H1, hg1, hd1⟩ := frzObjs_sound os H0
    have E0 := frz_ext (w := w) (an := an) hg1 hd1
    cases hfo with
    | it _ _ _ hp hg he =>
      have hva : v = an yN := he hg0.symm
      have hrule := H.rule hg0
      have hrep : RepAll w D0 (args.map a.eval) x := by
        obtain ⟨hl, hm⟩ := mapO_spec hx
        refine ⟨by omega, fun j y u hy' hu => ?_⟩
        have hj : j < xs.length := by rw [hl]; exact (List.getElem?_eq_some_iff.1 hy').1
        refine (peek_sound H1 _ 6 _ u y ((hargr j xs[j] u (by simp) hu).ext E0) (hm j xs[j] y (by simp) hy')).keep ?_ fun _ _ => rfl
        rintro b (hb | ⟨_, _, h1, _⟩)
        · exact hb
        · simp at h1
      have hJ : cx.J.J (some (x :: rest)) w Y D0 := by have := H1.yJ; rw [hy] at this; exact this
      have hval := hrule x rest w Y D0 (args.map a.eval) hJ (Nat.le_trans cx.jB H1.below.size) H1.lt H1.ylt hrep
      have fin : ∀ (v : Value) (w' : World), (∃ (b : Bool) (Y' D' : Nat → Prop), Ending.returned v = .returned (.bool b) ∧ YStep w Y D0 w' Y' D' ∧ cx.J.J (if b then some rest else none) w' Y' D') → next (a.put o.dst v) w' := by
        rintro u w' ⟨b, Y', D', e, S, hJ'⟩
        simp only [Ending.returned.injEq] at e
        subst e
        obtain ⟨q1, q2, q3⟩ := yield_back hY H1 S hJ'
        have E1 : Ext w D h.gen an w' D' (h.frzObjs os).gen an := E0.trans q3
        cases b with
        | true => exact hnext _ _ _ w' D' an hK1 (H.next E1 q1 q2) E1 (.fv _ _ (.val _))
        | false => exact hnext _ _ _ w' D' an hK2 (H.next E1 q1 q2) E1 (.fv _ _ (.val _))
      rcases hval with ⟨f, first, caps, hf, hen, hcall⟩ | ⟨l, f, tmps, assign, body, hf, hyi, hrd⟩
      · have hrun : (execOp a.eval o).run P w = .ok (.enter f (first ++ args.map a.eval ++ caps)) w := by
          simp only [execOp, ho, resolve, Sem.run_bind, hgen, hva, hf, Deferred.ofValue, Sem.run_pure, Result.andThen_ok, invoke]
          exact hen _ w
        refine enter_wpIn hop hrun (hcall.mono ?_)
        rintro e w' h'
        have h2 := h'
        obtain ⟨b, Y', D', rfl, _⟩ := h2
        exact fin _ w' h'
      · have hrun : (execOp a.eval o).run P w = .ok (.round l f tmps assign body) w := by
          simp only [execOp, ho, resolve, Sem.run_bind, hgen, hva, hf, Deferred.ofValue, Sem.run_pure, Result.andThen_ok, invoke, Array.append_empty, Array.empty_append]
          exact hyi
        refine round_wpIn hop hrun fun n => (hrd n).mono ?_
        rintro e w' h'
        have h2 := h'
        obtain ⟨b, Y', D', rfl, _⟩ := h2
        exact fin _ w' h'
  · exact hq.elim
def Cx.re (cx : Cx) {Y : Nat → Prop} (H : Heap P (cx.wY Y) h w D an) : Cx where
  wi := w
  Di := D
  M := fun b => ownBlk h an b ∨ Y b
  Ow := ownBlk h an
  gen0 := h.gen
  an0 := an
  J := cx.J
  Yb := Y
  sub := fun _ h => .inl h
  jB := Nat.le_trans cx.jB H.below.size
  owB := fun _ ⟨_, _, ho, hb⟩ => H.ownB ho hb
  base := cx.base
  baseLe := Nat.le_trans cx.baseLe H.below.size
theorem HeapY.re (H0 : HeapY P cx h w D an) {Y : Nat → Prop} (H : Heap P (cx.wY Y) h w D an) : HeapY P (cx.re H) h w D an :=
  ⟨H0.rule, fun _ _ => rfl, Y, fun _ hb _ => .inr hb, ⟨fun _ h => h, H.lt, fun _ h => .inl h, .refl _ _ _, H.obj, fun o ob b ho hb => .inr ⟨o, ob, ho, hb⟩, H.sep, fun _ => Nat.le_refl _, fun _ _ => rfl, H.yJ, H.ylt, H.ysep⟩⟩
theorem Heap.unre {Y : Nat → Prop} (hY : ∀ b, Y b → b < cx.wi.heap.size → cx.M b) (H : Heap P (cx.wY Y) h w D an) {h' : AH} {w' : World} {D' Y' : Nat → Prop} {an' : Nat → Value}
    (hY' : ∀ b, Y' b → b < w.heap.size → ownBlk h an b ∨ Y b) (K : Heap P ((cx.re H).wY Y') h' w' D' an') : Heap P (cx.wY Y') h' w' D' an' ∧ ∀ b, Y' b → b < cx.wi.heap.size → cx.M b := by
  have hsz : cx.wi.heap.size ≤ w.heap.size := H.below.size
  have hM : ∀ b, b < cx.wi.heap.size → (ownBlk h an b ∨ Y b) → cx.M b := by
    rintro b hlt (⟨o, ob, ho, hb⟩ | hy)
    · rcases H.ow o ob b ho hb with h1 | h1
      · have : cx.wi.heap.size ≤ b := h1; omega
      · exact cx.sub b h1
    · exact hY b hy hlt
  refine ⟨?_, fun b hb hlt => hM b hlt (hY' b hb (by omega))⟩
  refine ⟨fun b hb => K.init b (H.init b hb), K.lt, fun b hb => ?_, H.below.trans ⟨K.below.os, K.below.tape, K.below.output, K.below.size, fun b hb hm => ?_⟩, K.obj, fun o ob b ho hb => ?_, K.sep, fun o => Nat.le_trans (H.gmono o) (K.gmono o), fun o e => ?_, K.yJ, K.ylt, K.ysep⟩
  · rcases K.new b hb with h1 | h1 | h1
    · exact H.new b h1
    · have : w.heap.size ≤ b := h1
      exact .inr (.inl (by show cx.wi.heap.size ≤ b; omega))
    · by_cases hlt : b < cx.wi.heap.size
      · exact .inr (.inr (hM b hlt h1))
      · exact .inr (.inl (by show cx.wi.heap.size ≤ b; omega))
  · have hlt : b < cx.wi.heap.size := hb
    exact K.below.block b (by show b < w.heap.size; omega) fun h1 => hm (hM b hlt h1)
  · rcases K.ow o ob b ho hb with h1 | ⟨o', ob', h1, h2⟩
    · have : w.heap.size ≤ b := h1
      exact .inl (by show cx.wi.heap.size ≤ b; omega)
    · exact H.ow o' ob' b h1 h2
  · have h1 := H.gmono o
    have h2 := K.gmono o
    have h3 : h.gen o ≤ h'.gen o := h2
    have h4 : h'.gen o = cx.gen0 o := e
    have h5 : cx.gen0 o ≤ h.gen o := h1
    have h6 : an' o = an o := K.anc o (by show h'.gen o = h.gen o; omega)
    rw [h6]
    exact H.anc o (by show h.gen o = cx.gen0 o; omega)
theorem HeapY.ext_re {Y : Nat → Prop} (H : Heap P (cx.wY Y) h w D an) {h' : AH} {w' : World} {D' : Nat → Prop} {an' : Nat → Value}
    (H' : HeapY P (cx.re H) h' w' D' an') : Ext w D h.gen an w' D' h'.gen an' := by
  obtain ⟨Y', hY', K⟩ := H'.heap
  exact ⟨K.init, H'.keep, K.gmono, fun o e => K.anc o e.symm⟩
theorem HeapY.unre (H0 : HeapY P cx h w D an) {Y : Nat → Prop} (hY : ∀ b, Y b → b < cx.wi.heap.size → cx.M b) (H : Heap P (cx.wY Y) h w D an) {h' : AH} {w' : World} {D' : Nat → Prop} {an' : Nat → Value}
    (H' : HeapY P (cx.re H) h' w' D' an') : HeapY P cx h' w' D' an' := by
  obtain ⟨Y', hY', K⟩ := H'.heap
  obtain ⟨h1, h2⟩ := Heap.unre hY H hY' K
  exact H0.next (HeapY.ext_re H H') h2 h1
end
end Abs

