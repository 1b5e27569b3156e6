/- A part of the proof: AbsM. -/
import Derived.Test.YtncbkgbdpaibmaaAbs11
import Derived.Maps.Keyed
import Derived.RangeFuncRecord
import Derived.Laws.NewFold
set_option linter.unusedSimpArgs false
set_option linter.unusedVariables false
namespace Abs
open Go
open Go.RowKit (Below)
def zeroF (P : Program) (t : Nat) : Option FV :=
  (P.info? t).bind fun i => i.zero.bind fun z => match z with
    | .agg cs => if cs.toList.all (fun v => (FV.val v).one) then some (.agg (cs.toList.map .val)) else none
    | .tuple _ => none
    | v => some (.val v)
def cellV : FV → Option Value
  | .val v => if (FV.val v).one then some v else none
  | _ => none
def cellsV : List FV → Option (List Value)
  | [] => some []
  | c :: cs => (cellV c).bind fun v => (cellsV cs).map (v :: ·)
def FV.toV : FV → Option Value
  | .agg cs => (cellsV cs).map fun vs => .agg vs.toArray
  | x => cellV x
def KeyOk (P : Program) (kt : Nat) (x : FV) : Prop := ∃ v l, x.toV = some v ∧ keyOf P kt v = some l
def mapTy (P : Program) (t : Nat) : Option (Nat × Nat) :=
  match P.underlying t with
  | some (.map k e) => some (k, e)
  | _ => none
def mapOf (h : AH) : LV → Option (List (FV × FV))
  | .fv (.map es) => some es
  | .fv (.val (.map none)) => some []
  | .mp o g => (h.mpo o g).map (·.2)
  | _ => none
def AH.ito (h : AH) (o g : Nat) : Option (List (FV × FV) × Option (FV × FV)) :=
  if h.gen o = g then (match h.obj o with | some (.iter l c) => some (l, c) | _ => none) else none
def isMap : Op → Bool
  | .makeMap _ _ | .lookup _ _ _ _ | .mapUpdate _ _ _ _ | .mapEntry _ _ _ | .entryStore _ _ _ _ | .range _ _ | .next _ _ | .entry _ => true
  | _ => false
def mapE (P : Program) (d : Option Nat) (op : Op) (ev : Operand → LV) (h : AH) (K : LV → AH → Prop) : Prop :=
  match op with
  | .makeMap _ none => ∃ n, d = some n ∧ K (.mp n (h.gen n + 1)) (h.new n (.map false []))
  | .lookup t m x ok => ∃ kt et es k z, mapTy P t = some (kt, et) ∧ mapOf h (ev m) = some es ∧ ev x = .fv k ∧ Maps.Keyed P kt ∧ (∀ e ∈ es, KeyOk P kt e.1) ∧ KeyOk P kt k ∧ zeroF P et = some z ∧
      (∀ y, (k, y) ∈ es → K (if ok then .tup [.fv y, .fv (.bool true)] else .fv y) h) ∧ ((∀ y, (k, y) ∉ es) → K (if ok then .tup [.fv z, .fv (.bool false)] else .fv z) h)
  | .mapUpdate t m x v => ∃ kt et o g es k y, mapTy P t = some (kt, et) ∧ ev m = .mp o g ∧ h.mpo o g = some (false, es) ∧ ev x = .fv k ∧ ev v = .fv y ∧ Maps.Keyed P kt ∧ (∀ e ∈ es, KeyOk P kt e.1) ∧ KeyOk P kt k ∧
      (∀ i y0, es[i]? = some (k, y0) → K .undef (h.set o (.map false (es.set i (k, y))))) ∧ ((∀ y0, (k, y0) ∉ es) → K .undef (h.set o (.map false (es ++ [(k, y)]))))
  | .mapEntry t m x => ∃ kt et o g es k z, mapTy P t = some (kt, et) ∧ ev m = .mp o g ∧ h.mpo o g = some (false, es) ∧ ev x = .fv k ∧ Maps.Keyed P kt ∧ (∀ e ∈ es, KeyOk P kt e.1) ∧ KeyOk P kt k ∧ zeroF P et = some z ∧
      (∀ i y0, es[i]? = some (k, y0) → K (.tup [.fv y0, .fv (.int (i : Nat))]) (h.set o (.map false es))) ∧ ((∀ y0, (k, y0) ∉ es) → K (.tup [.fv z, .fv (.int (es.length : Nat))]) (h.set o (.map false (es ++ [(k, z)]))))
  | .entryStore _ m s v => ∃ o g es i k y0 y, ev m = .mp o g ∧ h.mpo o g = some (false, es) ∧ ev s = .fv (.int (i : Nat)) ∧ es[i]? = some (k, y0) ∧ ev v = .fv y ∧ K .undef (h.set o (.map false (es.set i (k, y))))
  | .range t x => ∃ n kt et es, d = some n ∧ mapTy P t = some (kt, et) ∧
      ((∃ o g fz, ev x = .mp o g ∧ h.mpo o g = some (fz, es) ∧ K (.it n ((h.set o (.map true es)).gen n + 1)) ((h.set o (.map true es)).new n (.iter es none))) ∨
       (ev x = .fv (.map es) ∧ K (.it n (h.gen n + 1)) (h.new n (.iter es none))) ∨ (ev x = .fv (.val (.map none)) ∧ es = [] ∧ K (.it n (h.gen n + 1)) (h.new n (.iter [] none))))
  | .next it false => ∃ o g left cur, ev it = .it o g ∧ h.ito o g = some (left, cur) ∧ (left = [] → K (.tup [.fv (.bool false)]) h) ∧
      ∀ i k y, left[i]? = some (k, y) → K (.tup [.fv (.bool true), .fv k, .fv y]) (h.set o (.iter (left.eraseIdx i) (some (k, y))))
  | .entry it => ∃ o g left k y, ev it = .it o g ∧ h.ito o g = some (left, some (k, y)) ∧ K (.tup [.fv k, .fv y]) h
  | _ => False
section
variable {P : Program} {cx : Cx} {w : World} {D : Nat → Prop} {h : AH} {an : Nat → Value}
theorem cellV_val {x : FV} {v : Value} (h : cellV x = some v) : x = .val v ∧ (FV.val v).one = true := by
  cases x <;> simp [cellV] at h
  obtain ⟨h1, rfl⟩ := h
  exact ⟨rfl, h1⟩
theorem cellsV_val : ∀ {cs : List FV} {vs : List Value}, cellsV cs = some vs → cs = vs.map .val := by
  intro cs
  induction cs with
  | nil => intro vs h; simp [cellsV] at h; subst h; rfl
  | cons c cs ih =>
    intro vs h
    simp only [cellsV, Option.bind_eq_some_iff, Option.map_eq_some_iff] at h
    obtain ⟨v, hv, vs', hvs, rfl⟩ := h
    rw [ih hvs, (cellV_val hv).1]; rfl
theorem toV_inj {x y : FV} {v : Value} (hx : x.toV = some v) (hy : y.toV = some v) : x = y := by
  have ha : ∀ {z : FV} {u : Value}, z.toV = some u → (∃ vs : List Value, z = .agg (vs.map .val) ∧ u = .agg vs.toArray) ∨ (z = .val u ∧ (FV.val u).one = true) := by
    intro z u hz
    cases z with
    | agg cs =>
      simp only [FV.toV, Option.map_eq_some_iff] at hz
      obtain ⟨vs, h1, rfl⟩ := hz
      exact .inl ⟨vs, by rw [cellsV_val h1], rfl⟩
    | _ => exact .inr (cellV_val hz)
  rcases ha hx with ⟨vs, rfl, rfl⟩ | ⟨rfl, h1⟩ <;> rcases ha hy with ⟨us, rfl, h2⟩ | ⟨rfl, h2⟩
  · simp at h2; subst h2; rfl
  · simp [FV.one] at h2
  · subst h2; simp [FV.one] at h1
  · rfl
theorem toV_rep {x : FV} {v u : Value} (h : Rep w D v x) (hx : x.toV = some u) : v = u := by
  cases h with
  | agg vs cells hs hone hrep =>
    simp only [FV.toV, Option.map_eq_some_iff] at hx
    obtain ⟨us, h1, rfl⟩ := hx
    have h2 := cellsV_val h1
    subst h2
    congr 1
    apply Array.ext
    · simp [hs]
    · intro i h3 h4
      have := hrep i (.val us[i]) vs[i] (by simp) (by simp)
      simpa using Rep.val_inv this
  | val v =>
    have hx : cellV (.val v) = some u := hx
    have := (cellV_val hx).1
    simpa using this
  | _ => simp [FV.toV, cellV] at hx
theorem zeroF_spec {t : Nat} {x : FV} (hz : zeroF P t = some x) (w : World) (D : Nat → Prop) : ∃ z, (zeroValue t).run P w = .ok z w ∧ Rep w D z x := by
  unfold zeroF at hz
  simp only [Option.bind_eq_some_iff] at hz
  obtain ⟨i, hi, z, hz0, hz⟩ := hz
  have hr : (zeroValue t).run P w = .ok z w := by simp [zeroValue, typeInfo, hi, hz0]
  refine ⟨z, hr, ?_⟩
  split at hz
  · rename_i cs
    split at hz
    · rename_i hc
      simp only [Option.some.injEq] at hz
      subst hz
      refine .agg cs _ (by simp) (by rw [List.all_map]; exact hc) fun j y v hy hv => ?_
      simp only [List.getElem?_map, Array.getElem?_toList, Option.map_eq_some_iff] at hy
      obtain ⟨u, hu, rfl⟩ := hy
      rw [hv] at hu; simp at hu; subst hu
      exact .val _
    · simp at hz
  · simp at hz
  · simp only [Option.some.injEq] at hz
    subst hz
    exact .val _
structure Ents (w : World) (D : Nat → Prop) (arr : Array MapEntry) (es : List (FV × FV)) : Prop where
  st : ∀ (j : Nat) (e : MapEntry), arr[j]? = some e → e.born = j
  sz : arr.size = es.length
  rep : ∀ (j : Nat) (e : MapEntry) (x : FV × FV), arr[j]? = some e → es[j]? = some x → Rep w D e.key x.1 ∧ Rep w D e.val x.2
theorem Ents.keep {w' : World} {D' : Nat → Prop} {arr : Array MapEntry} {es : List (FV × FV)} (h : Ents w D arr es) (hD : ∀ b, D b → D' b) (hb : ∀ b, D b → w'.heap[b]? = w.heap[b]?) : Ents w' D' arr es :=
  ⟨h.st, h.sz, fun j e x h1 h2 => ⟨(h.rep j e x h1 h2).1.keep hD hb, (h.rep j e x h1 h2).2.keep hD hb⟩⟩
theorem Ents.at {arr : Array MapEntry} {es : List (FV × FV)} (E : Ents w D arr es) {j : Nat} {e : MapEntry} (h : arr[j]? = some e) : ∃ x, es[j]? = some x ∧ Rep w D e.key x.1 ∧ Rep w D e.val x.2 := by
  have hj : j < es.length := by rw [← E.sz]; exact (Array.getElem?_eq_some_iff.1 h).1
  exact ⟨es[j], by simp, E.rep j e _ h (by simp)⟩
theorem find_spec {kt : Nat} (K : Maps.Keyed P kt) {arr : Array MapEntry} {es : List (FV × FV)} (E : Ents w D arr es) (hes : ∀ e ∈ es, KeyOk P kt e.1) {x : FV} (hx : KeyOk P kt x) {v : Value} (hv : Rep w D v x) :
    (Instr.checkKey arr.isEmpty 10000 kt v).run P w = .ok () w ∧ (Instr.checkKey false 10000 kt v).run P w = .ok () w ∧ (Instr.keyThatStays v v).run P w = .ok v w ∧
    (((Instr.findKey kt v arr.toList).run P w = .ok none w ∧ ∀ y, (x, y) ∉ es) ∨
     ∃ j e y, (Instr.findKey kt v arr.toList).run P w = .ok (some (j, e.val)) w ∧ arr[j]? = some e ∧ e.key = v ∧ es[j]? = some (x, y) ∧ Rep w D e.val y) := by
  obtain ⟨u, l, hu, hl⟩ := hx
  have := toV_rep hv hu
  subst this
  refine ⟨K.check w _ hl, K.check w _ hl, K.stays w hl, ?_⟩
  have hks : ∀ e ∈ arr.toList, ∃ l, keyOf P kt e.key = some l := by
    intro e he
    obtain ⟨j, hj, rfl⟩ := List.mem_iff_getElem.1 he
    obtain ⟨y, hy, h1, h2⟩ := E.at (j := j) (e := arr.toList[j]) (by simp at hj ⊢)
    obtain ⟨u', l', hu', hl'⟩ := hes y (List.mem_of_getElem? hy)
    rw [toV_rep h1 hu']
    exact ⟨l', hl'⟩
  rcases K.find w hl arr.toList hks with ⟨h1, h2⟩ | ⟨j, e, h1, h2, h3⟩
  · refine .inl ⟨h1, fun y hy => ?_⟩
    obtain ⟨j, hj, he⟩ := List.mem_iff_getElem.1 hy
    have hj' : j < arr.size := by rw [E.sz]; exact hj
    obtain ⟨r1, _⟩ := E.rep j arr[j] (x, y) (by simp [hj']) (by rw [List.getElem?_eq_getElem hj, he])
    have := toV_rep r1 hu
    exact h2 arr[j] (by simp) this
  · have h2' : arr[j]? = some e := by simpa using h2
    obtain ⟨y, hy, r1, r2⟩ := E.at h2'
    obtain ⟨u', l', hu', hl'⟩ := hes y (List.mem_of_getElem? hy)
    have h4 := toV_rep r1 hu'
    have : y.1 = x := toV_inj hu' (by rw [← h4, h3]; exact hu)
    refine .inr ⟨j, e, y.2, h1, h2', h3, ?_, r2⟩
    rw [hy, ← this]
theorem AH.ito_spec {h : AH} {o g : Nat} {l : List (FV × FV)} {c : Option (FV × FV)} (hb : h.ito o g = some (l, c)) : g = h.gen o ∧ h.obj o = some (.iter l c) := by
  unfold AH.ito at hb
  split at hb
  · rename_i hg
    split at hb
    · rename_i e; simp at hb; obtain ⟨rfl, rfl⟩ := hb; exact ⟨hg.symm, e⟩
    · simp at hb
  · simp at hb
theorem Heap.map_at (H : Heap P cx h w D an) {o g : Nat} {fz : Bool} {es : List (FV × FV)} {v : Value} (hb : h.mpo o g = some (fz, es)) (hv : LVRep P w D h.gen an v (.mp o g)) :
    ∃ b arr, v = .map (some b) ∧ an o = .map (some b) ∧ h.obj o = some (.map fz es) ∧ (fz = true → D b) ∧ (fz = false → ¬ D b) ∧ w.heap[b]? = some (.map arr arr.size) ∧ Ents w D arr es := by
  obtain ⟨rfl, ho⟩ := AH.mpo_spec hb
  obtain ⟨b, arr, ha, h1, h2, hw, hst, hs, hr⟩ := H.obj _ _ ho
  cases hv with
  | mp _ _ _ hp hg he =>
    have := he rfl
    exact ⟨b, arr, by rw [this, ha], ha, ho, h1, h2, hw, hst, hs, hr⟩
theorem mapOf_spec (H : Heap P cx h w D an) {x : LV} {v : Value} {es : List (FV × FV)} (hx : mapOf h x = some es) (hv : LVRep P w D h.gen an v x) :
    (v = .map none ∧ es = []) ∨ ∃ b arr, v = .map (some b) ∧ w.heap[b]? = some (.map arr arr.size) ∧ Ents w D arr es := by
  unfold mapOf at hx
  split at hx
  · simp only [Option.some.injEq] at hx; subst hx
    have hr := hv.fv_inv
    cases hr with
    | map b arr es hD hw hst hs hk hv' => exact .inr ⟨b, arr, rfl, hw, hst, hs, fun j e x h1 h2 => ⟨hk j e x h1 h2, hv' j e x h1 h2⟩⟩
  · simp only [Option.some.injEq] at hx; subst hx
    exact .inl ⟨Rep.val_inv hv.fv_inv, rfl⟩
  · rename_i o g
    simp only [Option.map_eq_some_iff] at hx
    obtain ⟨⟨fz, es'⟩, hb, rfl⟩ := hx
    obtain ⟨b, arr, h1, _, _, _, _, h2, h3⟩ := H.map_at hb hv
    exact .inr ⟨b, arr, h1, h2, h3⟩
  · simp at hx
theorem Heap.sameHeap (H : Heap P cx h w D an) {w' : World} (hh : w'.heap = w.heap) (h1 : w'.os = w.os) (h2 : w'.tape = w.tape) (h3 : w'.output = w.output) : Heap P cx h w' D an :=
  ⟨H.init, by rw [hh]; exact H.lt, H.new, H.below.trans ⟨h1, h2, h3, by rw [hh]; exact Nat.le_refl _, fun _ _ _ => by rw [hh]⟩, fun o ob ho => (H.obj o ob ho).keep (fun _ h => h) (fun _ _ => by rw [hh]) (fun _ _ => ⟨by rw [hh], fun h => h⟩) (fun _ => Nat.le_refl _) (fun _ _ => rfl), H.ow, H.sep, H.gmono, H.anc,
    cx.J.stable H.yJ h1 h2 h3 (by rw [hh]; exact Nat.le_refl _) (fun _ _ _ => by rw [hh]) (fun _ h => h) (fun _ h => .inl h) (by rw [hh]; exact H.lt), by rw [hh]; exact H.ylt, H.ysep⟩
theorem own_put (H : Heap P cx h w D an) {o b : Nat} {ob ob' : AObj} {x : Obj} (ho : h.obj o = some ob) (hbb : blk (an o) = some b) (hnD : ¬ D b) (hd : ObjRep P (w.putObj b x) D 0 h.gen an (an o) ob') :
    Heap P cx (h.set o ob') (w.putObj b x) D an ∧ Ext w D h.gen an (w.putObj b x) D h.gen an := by
  have hother : ∀ k, k ≠ b → (w.putObj b x).heap[k]? = w.heap[k]? := fun k hk => World.putObj_heap_other hk
  have hext : Ext w D h.gen an (w.putObj b x) D h.gen an := ⟨fun _ h => h, fun k hk => hother k (by rintro rfl; exact hnD hk), fun _ => Nat.le_refl _, fun _ _ => rfl⟩
  have hbel : BelowM cx.M cx.wi.heap.size w (w.putObj b x) := ⟨rfl, rfl, rfl, by simp, fun k hk hm => hother k (by
    rintro rfl
    rcases H.ow o _ k ho hbb with hb | hb
    · omega
    · exact hm (cx.sub _ hb))⟩
  refine ⟨H.step o hbel hext.dd hext.keep (fun k hk => by simpa using H.lt k hk) (fun _ h => .inl h) hext.mono hext.anc ?_ (fun _ _ => rfl) ?_ ?_ ?_ ?_ rfl (fun b' _ hno => hother b' (by rintro rfl; exact hno _ ho hbb)) (fun ob b' _ hb' => H.ysep o _ b' ho hb'), hext⟩
  · intro o' ho'; simp [AH.set, upd, ho']
  · intro o' b' ob hne hob hb'
    refine ⟨hother b' ?_, fun h => h⟩
    rintro rfl
    exact hne (H.sep o' o b' ob _ hob ho hb' hbb)
  · intro ob hob
    simp only [AH.set, upd, if_true, Option.some.injEq] at hob
    subst hob
    exact hd
  · intro ob b' _ hb'; exact H.ow o _ b' ho hb'
  · intro o' b' ob ob' hne hob _ hb' hb''
    exact hne (H.sep o' o b' ob _ hob ho hb' hb'')
theorem map_set (H : Heap P cx h w D an) {o b : Nat} {es es' : List (FV × FV)} {arr arr' : Array MapEntry} (ha : an o = .map (some b)) (ho : h.obj o = some (.map false es)) (hnD : ¬ D b) (hw : w.heap[b]? = some (.map arr arr.size))
    (E : Ents w D arr' es') : Heap P cx (h.set o (.map false es')) (w.putObj b (.map arr' arr'.size)) D an ∧ Ext w D h.gen an (w.putObj b (.map arr' arr'.size)) D h.gen an := by
  have hlt : b < w.heap.size := (Array.getElem?_eq_some_iff.1 hw).1
  have E' := E.keep (w' := w.putObj b (.map arr' arr'.size)) (D' := D) (fun _ h => h) fun k hk => World.putObj_heap_other (by rintro rfl; exact hnD hk)
  exact own_put H ho (by rw [ha]; rfl) hnD ⟨b, arr', ha, by simp, fun _ => hnD, World.putObj_heap_same hlt, E'.st, E'.sz, E'.rep⟩
theorem Ents.set {arr : Array MapEntry} {es : List (FV × FV)} (E : Ents w D arr es) {i : Nat} {e : MapEntry} (he : arr[i]? = some e) (f : MapEntry → MapEntry) (hb : (f e).born = e.born) {x : FV × FV} (hk : Rep w D (f e).key x.1) (hv : Rep w D (f e).val x.2) :
    Ents w D (arr.modify i f) (es.set i x) := by
  have hi : i < arr.size := (Array.getElem?_eq_some_iff.1 he).1
  have hget : ∀ j, (arr.modify i f)[j]? = if j = i then some (f e) else arr[j]? := by
    intro j
    by_cases hj : j = i
    · subst hj
      rw [if_pos rfl, Array.getElem?_eq_getElem (by simpa using hi), Array.getElem_modify_self]
      have : arr[j] = e := by rw [Array.getElem?_eq_getElem hi] at he; exact Option.some.inj he
      rw [this]
    · rw [if_neg hj, Array.getElem?_modify]
      simp [Ne.symm hj]
  refine ⟨fun j e' h1 => ?_, by simpa using E.sz, fun j e' x' h1 h2 => ?_⟩
  · rw [hget] at h1
    split at h1
    · rename_i hj; simp at h1; subst h1; subst hj; rw [hb]; exact E.st j e he
    · exact E.st j e' h1
  · rw [hget] at h1
    rw [List.getElem?_set] at h2
    by_cases hj : j = i
    · subst hj
      rw [if_pos rfl] at h1
      simp at h1; subst h1
      rw [if_pos rfl] at h2
      split at h2
      · simp at h2; subst h2; exact ⟨hk, hv⟩
      · simp at h2
    · rw [if_neg hj] at h1
      rw [if_neg (Ne.symm hj)] at h2
      exact E.rep j e' x' h1 h2
theorem Ents.push {arr : Array MapEntry} {es : List (FV × FV)} (E : Ents w D arr es) {e : MapEntry} (hb : e.born = arr.size) {x : FV × FV} (hk : Rep w D e.key x.1) (hv : Rep w D e.val x.2) :
    Ents w D (arr.push e) (es ++ [x]) := by
  refine ⟨fun j e' h1 => ?_, by simp [E.sz], fun j e' x' h1 h2 => ?_⟩
  · rw [Array.getElem?_push] at h1
    split at h1
    · rename_i hj; simp at h1; subst h1; rw [hb, hj]
    · exact E.st j e' h1
  · rw [Array.getElem?_push] at h1
    by_cases hj : j = arr.size
    · rw [if_pos hj] at h1; simp at h1; subst h1
      rw [hj, E.sz, List.getElem?_append_right (by omega)] at h2
      simp at h2; subst h2
      exact ⟨hk, hv⟩
    · rw [if_neg hj] at h1
      have : j < arr.size := (Array.getElem?_eq_some_iff.1 h1).1
      rw [List.getElem?_append_left (by rw [← E.sz]; exact this)] at h2
      exact E.rep j e' x' h1 h2
theorem run_setObj_put {b : Nat} {arr : Array MapEntry} {n : Nat} (hw : w.heap[b]? = some (.map arr n)) (o : Obj) : (setObj b o).run P w = .ok () (w.putObj b o) := by
  simp [setObj, Sem.run, hw, World.putObj]
theorem run_getObj_m {b : Nat} {arr : Array MapEntry} {n : Nat} (hw : w.heap[b]? = some (.map arr n)) : (getObj b).run P w = .ok (.map arr n) w := by
  simp [getObj, Sem.run, hw]
theorem mapTy_spec {t kt et : Nat} (h : mapTy P t = some (kt, et)) : P.underlying t = some (.map kt et) := by
  unfold mapTy at h
  split at h
  · rename_i k e hu; simp at h; obtain ⟨rfl, rfl⟩ := h; exact hu
  · simp at h
theorem LVRep.tup2 {gen : Nat → Nat} {a b : Value} {x y : LV} (h1 : LVRep P w D gen an a x) (h2 : LVRep P w D gen an b y) : LVRep P w D gen an (.tuple #[a, b]) (.tup [x, y]) := by
  refine .tup _ _ rfl fun j z v hz hv => ?_
  match j with
  | 0 => simp at hz hv; subst hz; subst hv; exact h1
  | 1 => simp at hz hv; subst hz; subst hv; exact h2
  | j + 2 => simp at hz
theorem modify_id {α : Type} (xs : Array α) (i : Nat) (f : α → α) (hf : ∀ x, xs[i]? = some x → f x = x) : xs.modify i f = xs := by
  apply Array.ext
  · simp
  · intro j h1 h2
    rw [Array.getElem_modify]
    split
    · rename_i e; subst e; exact hf _ (by simp [h2])
    · rfl
set_option maxHeartbeats 1000000 in
theorem mapE_sound (H : Heap P cx h w D an) {ρ : Nat → LV} {a : Act} (hs : ∀ i, LVRep P w D h.gen an (a.tmps.getD i Go.undef) (ρ i)) (o : Oper) {d : Option Nat}
    {K : LV → AH → Prop} (hq : mapE P d o.op (evL ρ) h K) : Left P cx h w D an ((execOp a.eval o).run P w) K := by
  unfold mapE at hq
  split at hq
  · -- makeMap
    rename_i t ho
    obtain ⟨n, rfl, hK⟩ := hq
    have hb := below_alloc w (.map #[] 0)
    refine ⟨_, _, .map (some w.heap.size), w.alloc (.map #[] 0), D, upd an n (.map (some w.heap.size)), hK, .inl ?_, H.alloc n _ _ _ hb (by simp) (.inl rfl) ?_, new_ext n _ _ H.lt hb, .mp _ _ _ rfl (by simp [AH.new, upd]) fun _ => by simp [upd]⟩
    · simp only [execOp, ho, Instr.makeMap, Sem.run_bind, run_newObj_alloc, Result.andThen_ok, Sem.run_pure, Option.map_none]
    · exact ⟨w.heap.size, #[], rfl, by simp, fun _ hD => by have := H.lt _ hD; omega, heap_alloc_new w _, by simp, by simp, by simp⟩
  · -- lookup
    rename_i t m x ok ho
    obtain ⟨kt, et, es, k, z, ht, hm, hx, hkd, hes, hk, hz, hin, hout⟩ := hq
    have hu := mapTy_spec ht
    obtain ⟨zv, hzr, hzrep⟩ := zeroF_spec hz w D
    have hkr : Rep w D (a.eval x) k := by have := ev_sound hs x; rw [hx] at this; exact this.fv_inv
    have fin : ∀ (v : Value) (y : FV) (b : Bool), Rep w D v y → K (if ok then .tup [.fv y, .fv (.bool b)] else .fv y) h → (Instr.lookup t (a.eval m) (a.eval x) ok).run P w = .ok (if ok then .tuple #[v, .bool b] else v) w → Left P cx h w D an ((execOp a.eval o).run P w) K := by
      intro v y b hr hK hrun
      refine Left.quiet H (v := if ok then .tuple #[v, .bool b] else v) ?_ ?_ hK
      · simp only [execOp, ho, Sem.run_bind, hrun, Result.andThen_ok, Sem.run_pure]
      · cases ok with
        | false => exact .fv _ _ hr
        | true => exact .tup2 (.fv _ _ hr) (.fv _ _ (.val _))
    rcases mapOf_spec H hm (ev_sound hs m) with ⟨hv, rfl⟩ | ⟨b, arr, hv, hw, E⟩
    · have E : Ents w D #[] ([] : List (FV × FV)) := ⟨by simp, rfl, by simp⟩
      obtain ⟨c1, c2, c3, hf⟩ := find_spec hkd E hes hk hkr
      rcases hf with ⟨hf, hno⟩ | ⟨j, e, y, _, h2, _⟩
      · refine fin zv z false hzrep (hout hno) ?_
        simp only [Instr.lookup, Sem.run_bind, run_underlying hu, Result.andThen_ok, hv, Sem.run_pure, c1, hf, hzr]
      · simp at h2
    · obtain ⟨c1, c2, c3, hf⟩ := find_spec hkd E hes hk hkr
      rcases hf with ⟨hf, hno⟩ | ⟨j, e, y, hf, h2, h3, h4, h5⟩
      · refine fin zv z false hzrep (hout hno) ?_
        simp only [Instr.lookup, Sem.run_bind, run_underlying hu, Result.andThen_ok, hv, Sem.run_pure, run_getObj_m hw, c1, hf, hzr]
      · refine fin e.val y true h5 (hin y (List.mem_of_getElem? h4)) ?_
        simp only [Instr.lookup, Sem.run_bind, run_underlying hu, Result.andThen_ok, hv, Sem.run_pure, run_getObj_m hw, c1, hf]
  · -- mapUpdate
    rename_i t m x v ho
    obtain ⟨kt, et, o', g, es, k, y, ht, hm, hmo, hx, hvy, hkd, hes, hk, hin, hout⟩ := hq
    have hu := mapTy_spec ht
    have hkr : Rep w D (a.eval x) k := by have := ev_sound hs x; rw [hx] at this; exact this.fv_inv
    have hyr : Rep w D (a.eval v) y := by have := ev_sound hs v; rw [hvy] at this; exact this.fv_inv
    have hmr : LVRep P w D h.gen an (a.eval m) (.mp o' g) := by have := ev_sound hs m; rwa [hm] at this
    obtain ⟨b, arr, hv, ha, hob, _, hnD, hw, E⟩ := H.map_at hmo hmr
    obtain ⟨c1, c2, c3, hf⟩ := find_spec hkd E hes hk hkr
    rcases hf with ⟨hf, hno⟩ | ⟨j, e, y0, hf, h2, h3, h4, h5⟩
    · obtain ⟨e1, e2⟩ := map_set H ha hob (hnD rfl) hw (E.push (e := { key := a.eval x, val := a.eval v, born := arr.size }) rfl (x := (k, y)) hkr hyr)
      refine ⟨_, _, Go.undef, _, D, an, hout hno, .inr ⟨?_, rfl⟩, e1, e2, .undef _⟩
      simp only [execOp, ho, Instr.mapUpdate, Sem.run_bind, run_underlying hu, Result.andThen_ok, hv, run_getObj_m hw, c2, hf, run_setObj_put hw, Array.size_push, Sem.run_pure]
    · have hkey : ((arr[j]?).map (·.key)).getD (a.eval x) = a.eval x := by rw [h2]; exact h3
      obtain ⟨e1, e2⟩ := map_set H ha hob (hnD rfl) hw (E.set h2 (fun e => { e with key := a.eval x, val := a.eval v }) rfl (x := (k, y)) hkr hyr)
      refine ⟨_, _, Go.undef, _, D, an, hin j y0 h4, .inr ⟨?_, rfl⟩, e1, e2, .undef _⟩
      simp only [execOp, ho, Instr.mapUpdate, Sem.run_bind, run_underlying hu, Result.andThen_ok, hv, run_getObj_m hw, c2, hf, hkey, c3, run_setObj_put hw, Array.size_modify, Sem.run_pure]
  · -- mapEntry
    rename_i t m x ho
    obtain ⟨kt, et, o', g, es, k, z, ht, hm, hmo, hx, hkd, hes, hk, hz, hin, hout⟩ := hq
    have hu := mapTy_spec ht
    obtain ⟨zv, hzr, hzrep⟩ := zeroF_spec hz w D
    have hkr : Rep w D (a.eval x) k := by have := ev_sound hs x; rw [hx] at this; exact this.fv_inv
    have hmr : LVRep P w D h.gen an (a.eval m) (.mp o' g) := by have := ev_sound hs m; rwa [hm] at this
    obtain ⟨b, arr, hv, ha, hob, _, hnD, hw, E⟩ := H.map_at hmo hmr
    obtain ⟨c1, c2, c3, hf⟩ := find_spec hkd E hes hk hkr
    rcases hf with ⟨hf, hno⟩ | ⟨j, e, y0, hf, h2, h3, h4, h5⟩
    · obtain ⟨e1, e2⟩ := map_set H ha hob (hnD rfl) hw (E.push (e := { key := a.eval x, val := zv, born := arr.size }) rfl (x := (k, z)) hkr hzrep)
      refine ⟨_, _, .tuple #[zv, goInt arr.size], _, D, an, hout hno, .inl ?_, e1, e2, .tup2 (.fv _ _ (hzrep.keep (fun _ h => h) e2.keep)) (.fv _ _ ?_)⟩
      · simp only [execOp, ho, Instr.mapEntry, Sem.run_bind, run_underlying hu, Result.andThen_ok, hv, run_getObj_m hw, c2, hf, hzr, run_setObj_put hw, Array.size_push, Sem.run_pure]
      · rw [← E.sz]; exact .val _
    · have hkey : ((arr[j]?).map (·.key)).getD (a.eval x) = a.eval x := by rw [h2]; exact h3
      have hborn : ((arr[j]?).map (fun x => (x.born : Int))).getD 0 = (j : Nat) := by rw [h2]; simp [E.st j e h2]
      have hmod : arr.modify j (fun e => { e with key := a.eval x }) = arr := modify_id _ _ _ fun e' he' => by
        rw [h2] at he'; simp at he'; subst he'; rw [← h3]
      obtain ⟨e1, e2⟩ := map_set H ha hob (hnD rfl) hw E
      refine ⟨_, _, .tuple #[e.val, goInt j], _, D, an, hin j y0 h4, .inl ?_, e1, e2, .tup2 (.fv _ _ (h5.keep (fun _ h => h) e2.keep)) (.fv _ _ (.val _))⟩
      simp only [execOp, ho, Instr.mapEntry, Sem.run_bind, run_underlying hu, Result.andThen_ok, hv, run_getObj_m hw, c2, hf, hkey, c3, run_setObj_put hw, hmod, hborn, Sem.run_pure]
  · -- entryStore
    rename_i t m s v ho
    obtain ⟨o', g, es, i, k, y0, y, hm, hmo, hsi, he, hvy, hK⟩ := hq
    have hyr : Rep w D (a.eval v) y := by have := ev_sound hs v; rw [hvy] at this; exact this.fv_inv
    have hsv : a.eval s = .int .i64 (i : Nat) := by have := ev_sound hs s; rw [hsi] at this; exact Rep.val_inv this.fv_inv
    have hmr : LVRep P w D h.gen an (a.eval m) (.mp o' g) := by have := ev_sound hs m; rwa [hm] at this
    obtain ⟨b, arr, hv, ha, hob, _, hnD, hw, E⟩ := H.map_at hmo hmr
    have hi : i < arr.size := by rw [E.sz]; exact (List.getElem?_eq_some_iff.1 he).1
    have hai : arr[i]? = some arr[i] := by simp [hi]
    obtain ⟨r1, r2⟩ := E.rep i arr[i] (k, y0) hai he
    have hfind : arr.findIdx? (fun e => (e.born : Int) == (i : Nat)) = some i := by
      rw [Array.findIdx?_eq_some_iff_getElem]
      refine ⟨hi, by rw [E.st i _ hai]; simp, fun j hj => ?_⟩
      rw [E.st j _ (Array.getElem?_eq_getElem (by omega))]
      simp; omega
    obtain ⟨e1, e2⟩ := map_set H ha hob (hnD rfl) hw (E.set hai (fun e => { e with val := a.eval v }) rfl (x := (k, y)) r1 hyr)
    refine ⟨_, _, Go.undef, _, D, an, hK, .inr ⟨?_, rfl⟩, e1, e2, .undef _⟩
    simp only [execOp, ho, Instr.entryStore, Sem.run_bind, Result.andThen_ok, hv, run_getObj_m hw, hsv, asInt, asIntOf, hfind, run_setObj_put hw, Array.size_modify, Sem.run_pure]
  · -- range
    rename_i t x ho
    obtain ⟨n, kt, et, es, rfl, ht, hq⟩ := hq
    have hu := mapTy_spec ht
    -- the iterator's block is laid
    have lay : ∀ (h' : AH) (D' : Nat → Prop), Heap P cx h' w D' an → Ext w D h.gen an w D' h'.gen an → ∀ (b : Nat) (arr : Array MapEntry), a.eval x = .map (some b) → D' b → w.heap[b]? = some (.map arr arr.size) → Ents w D' arr es →
        K (.it n (h'.gen n + 1)) (h'.new n (.iter es none)) → Left P cx h w D an ((execOp a.eval o).run P w) K := by
      intro h' D' H' E0 b arr hv hDb hw E hK
      have hb := below_alloc w (.mapIter (some b) arr.size #[] arr.size)
      have hblt : b < w.heap.size := (Array.getElem?_eq_some_iff.1 hw).1
      refine ⟨_, _, .pointer (some ⟨w.heap.size, 0, none⟩), w.alloc (.mapIter (some b) arr.size #[] arr.size), D', upd an n (.pointer (some ⟨w.heap.size, 0, none⟩)), hK, .inl ?_, H'.alloc n _ _ _ hb (by simp) (.inl rfl) ?_, E0.trans (new_ext n _ _ H'.lt hb), .it _ _ _ rfl (by simp [AH.new, upd]) fun _ => by simp [upd]⟩
      · simp only [execOp, ho, Instr.range, Sem.run_bind, run_underlying hu, Result.andThen_ok, hv, run_getObj_m hw, Sem.run_pure]
        simp only [run_newObj_alloc, Result.andThen_ok, Sem.run_pure]
      · have E' := E.keep (D' := D') (w' := w.alloc (.mapIter (some b) arr.size #[] arr.size)) (fun _ h => h) fun k hk => hb.block k (H'.lt k hk)
        refine ⟨w.heap.size, some b, arr, arr.size, #[], rfl, fun hD => by have := H'.lt _ hD; omega, heap_alloc_new w _, hDb, (hb.block b hblt).trans hw, E'.st, fun _ => rfl, ⟨List.range es.length, by simp, fun j => by simp [E'.sz], List.nodup_range, fun i j e x h1 h2 h3 => ?_⟩, by simp⟩
        have : i = j := by
          rw [List.getElem?_range (List.getElem?_eq_some_iff.1 h3).1] at h1; simpa using h1
        subst this
        exact E'.rep i e x h2 h3
    rcases hq with ⟨o', g, fz, hm, hmo, hK⟩ | ⟨hx, hK⟩ | ⟨hx, rfl, hK⟩
    · have hmr : LVRep P w D h.gen an (a.eval x) (.mp o' g) := by have := ev_sound hs x; rwa [hm] at this
      obtain ⟨b, arr, hv, ha, hob, hfz, hnfz, hw, E⟩ := H.map_at hmo hmr
      have hblt : b < w.heap.size := (Array.getElem?_eq_some_iff.1 hw).1
      have hbb : blk (an o') = some b := by rw [ha]; rfl
      -- frozen from now on
      have hE0 : Ext w D h.gen an w (fun k => D k ∨ k = b) (h.set o' (.map true es)).gen an := ⟨fun _ h => .inl h, fun _ _ => rfl, fun _ => Nat.le_refl _, fun _ _ => rfl⟩
      have H' : Heap P cx (h.set o' (.map true es)) w (fun k => D k ∨ k = b) an := by
        refine H.step o' (.refl _ _ _) hE0.dd (fun _ _ => rfl) ?_ ?_ (fun _ => Nat.le_refl _) (fun _ _ => rfl) ?_ (fun _ _ => rfl) ?_ ?_ ?_ ?_ rfl (fun _ _ _ => rfl) (fun ob b' _ hb' => H.ysep o' _ b' hob hb')
        · rintro k (hk | rfl)
          · exact H.lt k hk
          · exact hblt
        · rintro k (hk | rfl)
          · exact .inl hk
          · exact .inr (.inr ⟨_, hob, hbb⟩)
        · intro o2 ho2; simp [AH.set, upd, ho2]
        · intro o2 b' ob hne hob2 hb'
          refine ⟨rfl, ?_⟩
          rintro (hk | rfl)
          · exact hk
          · exact absurd (H.sep o2 o' b' ob _ hob2 hob hb' hbb) hne
        · intro ob hob2
          simp only [AH.set, upd, if_true, Option.some.injEq] at hob2
          subst hob2
          have E' := E.keep (D' := fun k => D k ∨ k = b) (w' := w) (fun _ h => .inl h) fun _ _ => rfl
          exact ⟨b, arr, ha, fun _ => .inr rfl, by simp, hw, E'.st, E'.sz, E'.rep⟩
        · intro ob b' _ hb'; exact H.ow o' _ b' hob hb'
        · intro o2 b' ob ob' hne hob2 _ hb' hb''
          exact hne (H.sep o2 o' b' ob _ hob2 hob hb' hb'')
      exact lay _ _ H' hE0 b arr hv (.inr rfl) hw (E.keep (fun _ h => .inl h) fun _ _ => rfl) hK
    · have hr : Rep w D (a.eval x) (.map es) := by have := ev_sound hs x; rw [hx] at this; exact this.fv_inv
      generalize hgen : a.eval x = v at hr
      cases hr with
      | map b arr es hD hw hst hsz hk hv' => exact lay h D H (.refl _ _ _ _) b arr hgen hD hw ⟨hst, hsz, fun j e x h1 h2 => ⟨hk j e x h1 h2, hv' j e x h1 h2⟩⟩ hK
    · have hv : a.eval x = .map none := by have := ev_sound hs x; rw [hx] at this; exact Rep.val_inv this.fv_inv
      have hb := below_alloc w (.mapIter none 0 #[] 0)
      refine ⟨_, _, .pointer (some ⟨w.heap.size, 0, none⟩), w.alloc (.mapIter none 0 #[] 0), D, upd an n (.pointer (some ⟨w.heap.size, 0, none⟩)), hK, .inl ?_, H.alloc n _ _ _ hb (by simp) (.inl rfl) ?_, new_ext n _ _ H.lt hb, .it _ _ _ rfl (by simp [AH.new, upd]) fun _ => by simp [upd]⟩
      · simp only [execOp, ho, Instr.range, Sem.run_bind, run_underlying hu, Result.andThen_ok, hv, Sem.run_pure]
        simp only [run_newObj_alloc, Result.andThen_ok, Sem.run_pure]
      · exact ⟨w.heap.size, none, #[], 0, #[], rfl, fun hD => by have := H.lt _ hD; omega, heap_alloc_new w _, rfl, rfl⟩
  · -- next
    rename_i it ho
    obtain ⟨o', g, left, cur, hit, hio, hend, hgo⟩ := hq
    obtain ⟨rfl, hob⟩ := AH.ito_spec hio
    have hir : LVRep P w D h.gen an (a.eval it) (.it o' (h.gen o')) := by have := ev_sound hs it; rwa [hit] at this
    have hva : a.eval it = an o' := by
      generalize a.eval it = v at hir
      cases hir with
      | it _ _ _ hp hg he => exact he rfl
    obtain ⟨b, m, arr, last, seen, ha, hnD, hw, hm⟩ := H.obj _ _ hob
    have hbb : blk (an o') = some b := by rw [ha]; rfl
    have hgb : (getObj b).run P w = .ok (.mapIter m arr.size seen last) w := by simp [getObj, Sem.run, hw]
    cases m with
    | none =>
      obtain ⟨rfl, _⟩ := hm
      refine Left.quiet H (v := .tuple #[.bool false]) ?_ (.tup _ _ rfl fun j z v hz hv => ?_) (hend rfl)
      · simp only [execOp, ho, Instr.next, Sem.run_bind, hva, ha, hgb, Result.andThen_ok, Sem.run_pure]
      · match j with
        | 0 => simp at hz hv; subst hz; subst hv; exact .fv _ _ (.val _)
        | j + 1 => simp at hz
    | some m =>
      obtain ⟨hDm, hwm, hst, hlast, ⟨js, hjl, hjm, hjn, hjr⟩, _⟩ := hm
      have hgm : (getObj m).run P w = .ok (.map arr arr.size) w := by simp [getObj, Sem.run, hwm]
      have hne : m ≠ b := by rintro rfl; exact hnD hDm
      have hguard : (!seen.isEmpty && !arr.isEmpty && arr.all (fun e => decide (e.born ≥ last))) = false := by
        by_cases h1 : seen.isEmpty = true
        · simp [h1]
        · by_cases h2 : arr.isEmpty = true
          · simp [h2]
          · have h1' : seen.isEmpty = false := by simpa using h1
            have hl := hlast h1'
            have hpos : 0 < arr.size := by
              rcases Nat.eq_zero_or_pos arr.size with h | h
              · exact absurd (by simpa [Array.isEmpty] using h) h2
              · exact h
            have : arr.all (fun e => decide (e.born ≥ last)) = false := by
              rw [Bool.eq_false_iff]
              intro hall
              have h3 := Array.all_eq_true.1 hall 0 hpos
              rw [hst 0 arr[0] (by simp [hpos]), hl] at h3
              have := of_decide_eq_true h3
              omega
            simp [this]
      -- the entries that are left
      have hborn : ∀ e ∈ arr, e.born < arr.size := by
        intro e he
        obtain ⟨j, hj, rfl⟩ := Array.mem_iff_getElem.1 he
        rw [hst j arr[j] (by simp)]; exact hj
      obtain ⟨L, hL⟩ : ∃ L, L = arr.filter (fun e => !seen.contains e.born) := ⟨_, rfl⟩
      have hLm : ∀ e ∈ L, e ∈ arr ∧ seen.contains e.born = false := by
        intro e he
        rw [hL, Array.mem_filter] at he
        exact ⟨he.1, by simpa using he.2⟩
      have hold : L.filter (fun e => decide (e.born < arr.size)) = L := by
        rw [Array.filter_eq_self]
        intro e he
        simpa using hborn e (hLm e he).1
      have hnew : L.filter (fun e => decide (e.born ≥ arr.size)) = #[] := by
        rw [Array.filter_eq_empty_iff]
        intro e he
        have := hborn e (hLm e he).1
        simp; omega
      have hrun : ∀ (r : Nat) (w1 : World), (choose (.mapNext ((if L.isEmpty then #[none] else #[] : Array (Option MapEntry)) ++ (L ++ #[]).map some).size)).run P w = .ok r w1 →
          (Instr.next (.pointer (some ⟨b, 0, none⟩)) false o.type).run P w = (match ((if L.isEmpty then #[none] else #[] : Array (Option MapEntry)) ++ (L ++ #[]).map some)[r]? with
            | some (some e) => do setObj b (.mapIter (some m) arr.size (seen.push e.born) arr.size); pure (.tuple #[.bool true, e.key, e.val])
            | some none => pure (.tuple #[.bool false])
            | none => stuck "Next: no such candidate" : Sem Value).run P w1 := by
        intro r w1 hr
        simp only [Instr.next, Sem.run_bind, hgb, Result.andThen_ok, hgm, hguard, Bool.false_eq_true, if_false, ← hL, hold, hnew, hr, Sem.run_pure, pure_bind]
        generalize ((if L.isEmpty = true then #[none] else #[]) ++ Array.map some (L ++ #[]))[r]? = q
        cases q with
        | none => rfl
        | some x => cases x <;> rfl
      cases hLe : L.isEmpty with
      | true =>
        have hL0 : L = #[] := by simpa using hLe
        have hleft : left = [] := by
          cases js with
          | nil => exact List.eq_nil_of_length_eq_zero (by simpa using hjl.symm)
          | cons j js =>
            exfalso
            obtain ⟨h1, h2⟩ := (hjm j).1 (by simp)
            have : arr[j] ∈ L := by rw [hL, Array.mem_filter]; exact ⟨by simp, by rw [hst j arr[j] (by simp [h1]), h2]; rfl⟩
            rw [hL0] at this; simp at this
        refine Left.quiet H (v := .tuple #[.bool false]) ?_ (.tup _ _ rfl fun j z v hz hv => ?_) (hend hleft)
        · have := hrun 0 w (by rw [run_choose_drew, if_pos (by rw [hLe, hL0]; simp [Question.forced])])
          simp only [execOp, ho, hva, ha, Sem.run_bind, this, hLe, hL0]
          simp
        · match j with
          | 0 => simp at hz hv; subst hz; subst hv; exact .fv _ _ (.val _)
          | j + 1 => simp at hz
      | false =>
        have hLpos : 0 < L.size := by
          rcases Nat.eq_zero_or_pos L.size with h | h
          · have : L = #[] := Array.eq_empty_of_size_eq_zero h
            rw [this] at hLe; simp at hLe
          · exact h
        have hcand : ((if L.isEmpty then #[none] else #[] : Array (Option MapEntry)) ++ (L ++ #[]).map some) = L.map some := by rw [hLe]; simp
        have hcs : ((if L.isEmpty then #[none] else #[] : Array (Option MapEntry)) ++ (L ++ #[]).map some).size = L.size := by rw [hcand]; simp
        -- what is drawn
        obtain ⟨r, w1, hr, hrL, hh, h1, h2, h3⟩ : ∃ r w1, (choose (.mapNext L.size)).run P w = .ok r w1 ∧ r < L.size ∧ w1.heap = w.heap ∧ w1.os = w.os ∧ w1.tape = w.tape ∧ w1.output = w.output := by
          rw [run_choose_drew]
          split
          · exact ⟨0, w, rfl, hLpos, rfl, rfl, rfl, rfl⟩
          · exact ⟨_, _, rfl, Nat.mod_lt _ hLpos, rfl, rfl, rfl, rfl⟩
        have hnx := hrun r w1 (by rw [hcs]; exact hr)
        rw [hcand] at hnx
        have hgr : (L.map some)[r]? = some (some L[r]) := by simp [hrL]
        rw [hgr] at hnx
        simp only at hnx
        obtain ⟨hmem, hns⟩ := hLm L[r] (by simp)
        obtain ⟨j, hj, hje⟩ := Array.mem_iff_getElem.1 hmem
        have haj : arr[j]? = some L[r] := by rw [Array.getElem?_eq_getElem hj, hje]
        have hbj : (L[r]).born = j := hst j _ haj
        rw [hbj] at hns
        have hjs : j ∈ js := (hjm j).2 ⟨hj, hns⟩
        obtain ⟨i, hi, hij⟩ := List.mem_iff_getElem.1 hjs
        have hil : i < left.length := by rw [← hjl]; exact hi
        have hle : left[i]? = some left[i] := by simp
        obtain ⟨q1, q2⟩ := hjr i j L[r] left[i] (by rw [List.getElem?_eq_getElem hi, hij]) haj hle
        have H1 := H.sameHeap hh h1 h2 h3
        have hw1 : w1.heap[b]? = some (.mapIter (some m) arr.size seen last) := by rw [hh]; exact hw
        have hE1 : Ext w D h.gen an w1 D h.gen an := ⟨fun _ h => h, fun _ _ => by rw [hh], fun _ => Nat.le_refl _, fun _ _ => rfl⟩
        have hput : ∀ k, D k → (w1.putObj b (.mapIter (some m) arr.size (seen.push j) arr.size)).heap[k]? = w.heap[k]? := fun k hk => by
          rw [World.putObj_heap_other (by rintro rfl; exact hnD hk), hh]
        have hb1 : b < w1.heap.size := (Array.getElem?_eq_some_iff.1 hw1).1
        obtain ⟨e1, e2⟩ := own_put (x := .mapIter (some m) arr.size (seen.push j) arr.size) (ob' := .iter (left.eraseIdx i) (some left[i])) H1 hob hbb hnD (by
          refine ⟨b, some m, arr, arr.size, seen.push j, ha, hnD, World.putObj_heap_same hb1, hDm, (hput m hDm).trans hwm, hst, fun _ => rfl, ⟨js.eraseIdx i, ?_, fun k => ?_, hjn.eraseIdx i, fun k j' e x p1 p2 p3 => ?_⟩, fun x hx => ?_⟩
          · rw [List.length_eraseIdx, List.length_eraseIdx, hjl]
          · rw [List.mem_eraseIdx_iff_getElem?, Array.contains_push]
            constructor
            · rintro ⟨i', hne', hi'⟩
              obtain ⟨p1, p2⟩ := (hjm k).1 (List.mem_of_getElem? hi')
              refine ⟨p1, ?_⟩
              have hkj : k ≠ j := by
                rintro rfl
                have hi2 : i' < js.length := (List.getElem?_eq_some_iff.1 hi').1
                have hi3 := (List.getElem?_eq_some_iff.1 hi').2
                have : i' = i := by
                  rcases Nat.lt_trichotomy i' i with hlt | he | hlt
                  · exact absurd (hi3.trans hij.symm) ((List.pairwise_iff_getElem.1 hjn) i' i hi2 hi hlt)
                  · exact he
                  · exact absurd (hij.trans hi3.symm) ((List.pairwise_iff_getElem.1 hjn) i i' hi hi2 hlt)
                exact hne' this
              rw [p2]; simp [hkj]
            · rintro ⟨p1, p2⟩
              simp only [Bool.or_eq_false_iff, beq_eq_false_iff_ne] at p2
              obtain ⟨i', hi', he'⟩ := List.mem_iff_getElem.1 ((hjm k).2 ⟨p1, p2.1⟩)
              refine ⟨i', ?_, by rw [List.getElem?_eq_getElem hi', he']⟩
              rintro rfl
              exact p2.2 (by rw [← he', hij])
          · rw [List.getElem?_eraseIdx] at p1 p3
            split at p1
            · rename_i hki
              rw [if_pos hki] at p3
              obtain ⟨t1, t2⟩ := hjr k j' e x p1 p2 p3
              exact ⟨t1.keep (fun _ h => h) hput, t2.keep (fun _ h => h) hput⟩
            · rename_i hki
              rw [if_neg hki] at p3
              obtain ⟨t1, t2⟩ := hjr (k + 1) j' e x p1 p2 p3
              exact ⟨t1.keep (fun _ h => h) hput, t2.keep (fun _ h => h) hput⟩
          · simp only [Option.some.injEq] at hx
            subst hx
            exact ⟨j, L[r], Array.back?_push, rfl, haj, q1.keep (fun _ h => h) hput, q2.keep (fun _ h => h) hput⟩)
        refine ⟨_, _, .tuple #[.bool true, (L[r]).key, (L[r]).val], _, D, an, hgo i (left[i]).1 (left[i]).2 hle, .inl ?_, e1, hE1.trans e2, ?_⟩
        · simp only [execOp, ho, hva, ha, Sem.run_bind, hnx, hbj]
          have : (setObj b (.mapIter (some m) arr.size (seen.push j) arr.size)).run P w1 = .ok () (w1.putObj b (.mapIter (some m) arr.size (seen.push j) arr.size)) := by
            simp [setObj, Sem.run, hw1, World.putObj]
          simp only [this, Result.andThen_ok, Sem.run_pure]
        · refine .tup _ _ rfl fun k z v hz hv => ?_
          match k with
          | 0 => simp at hz hv; subst hz; subst hv; exact .fv _ _ (.val _)
          | 1 => simp at hz hv; subst hz; subst hv; exact .fv _ _ (q1.keep (fun _ h => h) hput)
          | 2 => simp at hz hv; subst hz; subst hv; exact .fv _ _ (q2.keep (fun _ h => h) hput)
          | k + 3 => simp at hz
  · -- entry
    rename_i it ho
    obtain ⟨o', g, left, k, y, hit, hio, hK⟩ := hq
    obtain ⟨rfl, hob⟩ := AH.ito_spec hio
    have hir : LVRep P w D h.gen an (a.eval it) (.it o' (h.gen o')) := by have := ev_sound hs it; rwa [hit] at this
    have hva : a.eval it = an o' := by
      generalize a.eval it = v at hir
      cases hir with
      | it _ _ _ hp hg he => exact he rfl
    obtain ⟨b, m, arr, last, seen, ha, hnD, hw, hm⟩ := H.obj _ _ hob
    have hgb : (getObj b).run P w = .ok (.mapIter m arr.size seen last) w := by simp [getObj, Sem.run, hw]
    cases m with
    | none => obtain ⟨_, h2⟩ := hm; simp at h2
    | some m =>
      obtain ⟨hDm, hwm, hst, _, _, hcur⟩ := hm
      have hgm : (getObj m).run P w = .ok (.map arr arr.size) w := by simp [getObj, Sem.run, hwm]
      obtain ⟨j, e, h1, h2, h3, h4, h5⟩ := hcur _ rfl
      have hj : j < arr.size := (Array.getElem?_eq_some_iff.1 h3).1
      have hfind : arr.find? (fun e => e.born == j) = some e := by
        rw [Array.find?_eq_some_iff_getElem]
        refine ⟨by simp [hst j e h3], j, hj, by rw [Array.getElem?_eq_getElem hj] at h3; exact Option.some.inj h3, fun k hk => ?_⟩
        rw [hst k arr[k] (by simp)]
        simp; omega
      refine Left.quiet H (v := .tuple #[e.key, e.val]) ?_ (.tup2 (.fv _ _ h4) (.fv _ _ h5)) hK
      simp only [execOp, ho, Instr.entry, Sem.run_bind, hva, ha, hgb, Result.andThen_ok, h1, hgm, h2, bne_self_eq_false, Bool.false_eq_true, if_false, hfind, Sem.run_pure]
  · exact hq.elim
end
end Abs

