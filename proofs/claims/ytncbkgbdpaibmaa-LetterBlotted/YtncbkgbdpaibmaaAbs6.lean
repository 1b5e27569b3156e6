/- A part of the proof: Abs6. -/
import Derived.Test.YtncbkgbdpaibmaaAbs5
set_option linter.unusedSimpArgs false
set_option linter.unusedVariables false
namespace Abs
open Go
open Go.RowKit (Below)
section
variable {P : Program} {cx : Cx} {w : World} {D : Nat → Prop} {h : AH} {an : Nat → Value}
theorem fld_spec {s f : Nat} {q : Nat × Bool × Nat} (hq : fld P s f = some q) :
    ∃ fs fd, P.underlying s = some (.struct fs) ∧ fs[f]? = some fd ∧ fd.offset = q.1 ∧ lay P fd.type = some (q.2.1, q.2.2) := by
  unfold fld at hq
  split at hq
  · rename_i fs hu
    rw [Option.bind_eq_some_iff] at hq
    obtain ⟨fd, hf, hq⟩ := hq
    simp only [Option.map_eq_some_iff] at hq
    obtain ⟨⟨a, n⟩, hl, rfl⟩ := hq
    exact ⟨fs, fd, hu, hf, rfl, hl⟩
  · simp at hq
theorem fieldAt_run {s f : Nat} {q : Nat × Bool × Nat} (hq : fld P s f = some q) (hz : q.2.2 ≠ 0) (b k : Nat) (w : World) :
    (Instr.fieldAt s (.pointer (some ⟨b, k, none⟩)) f).run P w = .ok (.pointer (some ⟨b, k + q.1, none⟩)) w := by
  obtain ⟨fs, fd, hu, hf, ho, hl⟩ := fld_spec hq
  simp [Instr.fieldAt, run_underlying hu, hf, Instr.sureAddr, fieldPlace, run_size hl, hz, ho, lone_add]
theorem part_sound {gen : Nat → Nat} {t : Nat} {agg : Bool} {n off : Nat} {cs : List LV} {vs : Array Value} {lv : LV} (hl : lay P t = some (agg, n)) (hs : vs.size = cs.length)
    (h1 : ∀ v ∈ vs, v.oneCell' = true)
    (hrep : ∀ (j : Nat) (y : LV) (v : Value), cs[j]? = some y → vs[j]? = some v → LVRep P w D gen an v y)
    (hp : partL agg n (cs.drop off) = some lv) : ∃ u, (part t vs off).run P w = .ok u w ∧ LVRep P w D gen an u lv := by
  unfold partL at hp
  cases agg with
  | true =>
    simp only [if_true] at hp
    split at hp
    · rename_i hn
      simp only [Option.some.injEq] at hp
      subst hp
      refine ⟨.agg (vs.extract off (off + n)), by simp [part, run_isAgg hl, run_size hl], mkAgg_rep ?_ ?_ ?_⟩
      · simp at hn ⊢; omega
      · intro v hv
        rw [Array.mem_iff_getElem] at hv
        obtain ⟨j, hj, rfl⟩ := hv
        exact h1 _ (by simp)
      · intro j y v hy hv
        rw [List.getElem?_take] at hy
        split at hy
        · rw [List.getElem?_drop] at hy
          refine hrep (off + j) y v hy ?_
          rw [Array.getElem?_extract] at hv
          split at hv
          · exact hv
          · simp at hv
        · simp at hy
    · simp at hp
  | false =>
    simp only [Bool.false_eq_true, if_false] at hp
    have hp' : cs[off]? = some lv := by rw [← hp, List.head?_drop]
    have hlt : off < vs.size := by rw [hs]; exact (List.getElem?_eq_some_iff.1 hp').1
    refine ⟨vs[off], by simp [part, run_isAgg hl, hlt], hrep off lv _ hp' (by simp)⟩
theorem LVRep.agg_fv {gen : Nat → Nat} {v : Value} {cs : List FV} (hv : LVRep P w D gen an v (.fv (.agg cs))) :
    ∃ vs : Array Value, v = .agg vs ∧ vs.size = (cs.map LV.fv).length ∧ (∀ v ∈ vs, v.oneCell' = true) ∧
      ∀ (j : Nat) (y : LV) (v : Value), (cs.map LV.fv)[j]? = some y → vs[j]? = some v → LVRep P w D gen an v y := by
  have hv' := hv.fv_inv
  cases hv' with
  | agg vs _ hs hone hrep =>
    refine ⟨vs, rfl, by simpa using hs, ?_, ?_⟩
    · intro v hv
      rw [Array.mem_iff_getElem] at hv
      obtain ⟨j, hj, rfl⟩ := hv
      have hjc : j < cs.length := by omega
      exact (hrep j cs[j] vs[j] (by simp) (by simp)).oneCell (List.all_eq_true.1 hone _ (by simp))
    · intro j y v hy hv
      simp only [List.getElem?_map, Option.map_eq_some_iff] at hy
      obtain ⟨z, hz, rfl⟩ := hy
      exact .fv _ _ (hrep j z v hz hv)
theorem min2V_sound {a b v : Value} (hq : min2V a b = some v) (w : World) : (Builtin.min2 a b).run P w = .ok v w := by
  unfold min2V at hq
  split at hq
  · simp at hq; subst hq; simp [Builtin.min2]
  · simp at hq
theorem max2V_sound {a b v : Value} (hq : max2V a b = some v) (w : World) : (Builtin.max2 a b).run P w = .ok v w := by
  unfold max2V at hq
  split at hq
  · simp at hq; subst hq; simp [Builtin.max2]
  · simp at hq
theorem lenV_sound (H : Heap P cx h w D an) {t e : Nat} {x : LV} {v : Value} {n : Nat} (hu : P.underlying t = some (.slice e)) (hv : LVRep P w D h.gen an v x) (hq : lenV h x = some n)
    (tys : Array TypeId) (ht : tys = #[t]) (ty : TypeId) : (Builtin.len_ tys ty #[v]).run P w = .ok (.int .i64 n) w := by
  subst ht
  unfold lenV at hq
  split at hq
  · simp at hq; subst hq
    have h' := hv.fv_inv
    cases h' <;> simp [Builtin.len_, run_underlying hu, goInt]
  · simp at hq; subst hq
    obtain rfl := Rep.val_inv hv.fv_inv
    simp [Builtin.len_, run_underlying hu, goInt]
  · simp only [Option.map_eq_some_iff] at hq
    obtain ⟨⟨e', es, fz, nil, xs⟩, hb, rfl⟩ := hq
    obtain ⟨rfl, ho⟩ := AH.lst_spec hb
    obtain ⟨⟨vs, hown, hnil, hes, hlen, hrep⟩, _⟩ := H.obj _ _ ho
    cases hv with
    | gl _ _ _ hp hg he =>
      have := he rfl
      subst this
      rcases hown.2 with ⟨ha, hz⟩ | ⟨b, cap, cur, ha, _⟩
      · rw [ha]; simp [Builtin.len_, run_underlying hu, goInt, hz]
      · rw [ha]; simp [Builtin.len_, run_underlying hu, goInt]
  · simp only [Option.map_eq_some_iff] at hq
    obtain ⟨⟨e', es, fz, nil, xs⟩, hb, rfl⟩ := hq
    obtain ⟨rfl, ho⟩ := AH.lst_spec hb
    cases hv with
    | sub _ _ _ i j _ hp hg he =>
      obtain ⟨_, b, n, cap, _, _, rfl⟩ := he rfl
      simp [Builtin.len_, run_underlying hu, goInt]
  · simp at hq
theorem lenM_sound (H : Heap P cx h w D an) {t k e : Nat} {x : LV} {v : Value} {n : Nat} (hu : P.underlying t = some (.map k e)) (hv : LVRep P w D h.gen an v x) (hq : lenM h x = some n)
    (ty : TypeId) : (Builtin.len_ #[t] ty #[v]).run P w = .ok (.int .i64 n) w := by
  unfold lenM at hq
  split at hq
  · simp at hq; subst hq
    have h' := hv.fv_inv
    cases h' with
    | map b arr es hD hw hst hs hk hv' => simp [Builtin.len_, run_underlying hu, goInt, getObj, Sem.run, hw, hs]
  · simp at hq; subst hq
    obtain rfl := Rep.val_inv hv.fv_inv
    simp [Builtin.len_, run_underlying hu, goInt]
  · simp only [Option.map_eq_some_iff] at hq
    obtain ⟨⟨fz, es⟩, hb, rfl⟩ := hq
    obtain ⟨rfl, ho⟩ := AH.mpo_spec hb
    obtain ⟨b, arr, ha, _, _, hw, hst, hs, hr⟩ := H.obj _ _ ho
    cases hv with
    | mp _ _ _ hp hg he =>
      have := he rfl
      subst this
      rw [ha]
      simp [Builtin.len_, run_underlying hu, goInt, getObj, Sem.run, hw, hs]
  · simp at hq
theorem LVRep.oneCell {gen : Nat → Nat} {v : Value} {x : LV} (hx : LVRep P w D gen an v x) (h1 : x.one = true) : v.oneCell' = true := by
  cases hx with
  | undef => simp [LV.one] at h1
  | fv _ x h => exact h.oneCell h1
  | fn _ g h => obtain ⟨f, first, caps, rfl, _⟩ := h; rfl
  | gl o g _ hp => exact hp
  | mp o g _ hp => exact hp
  | it o g _ hp => exact hp
  | ptr o g off _ hp => obtain ⟨b, k, rfl⟩ := hp; rfl
  | elem o g es i off _ hp => obtain ⟨b, k, rfl⟩ := hp; rfl
  | clos => rfl
  | agg => simp [LV.one] at h1
  | tup => simp [LV.one] at h1
  | pb => rfl
  | sq _ _ hp => exact hp
  | bnd => rfl
  | sub _ _ _ _ _ _ hp => exact hp
theorem LVRep.cells {v : Value} {x : LV} {gen : Nat → Nat} (hx : LVRep P w D gen an v x) (h1 : x.cells.all LV.one = true) :
    v.cells.size = x.cells.length ∧ ∀ (j : Nat) (y : LV) (u : Value), x.cells[j]? = some y → v.cells[j]? = some u → LVRep P w D gen an u y ∧ u.oneCell' = true := by
  have lone : v.oneCell' = true → x.cells = [x] → v.cells.size = x.cells.length ∧ ∀ (j : Nat) (y : LV) (u : Value), x.cells[j]? = some y → v.cells[j]? = some u → LVRep P w D gen an u y ∧ u.oneCell' = true := by
    intro hv hxc
    have hvc : v.cells = #[v] := by cases v <;> first | rfl | simp [Value.oneCell'] at hv
    rw [hvc, hxc]
    refine ⟨rfl, fun j y u hy hu => ?_⟩
    cases j with
    | zero => simp at hy hu; subst hy; subst hu; exact ⟨hx, hv⟩
    | succ j => simp at hy
  have lone' : x.cells = [x] → v.cells.size = x.cells.length ∧ ∀ (j : Nat) (y : LV) (u : Value), x.cells[j]? = some y → v.cells[j]? = some u → LVRep P w D gen an u y ∧ u.oneCell' = true := by
    intro hxc
    refine lone (hx.oneCell ?_) hxc
    rw [hxc] at h1; simpa using h1
  cases x with
  | agg cs =>
    cases hx with
    | agg _ vs hs h1' hrep =>
      refine ⟨hs, fun j y u hy hu => ⟨hrep j y u hy hu, h1' u (Array.mem_of_getElem? hu)⟩⟩
  | fv x =>
    cases x with
    | agg cs =>
      obtain ⟨vs, rfl, hs, h1', hrep⟩ := hx.agg_fv
      exact ⟨hs, fun j y u hy hu => ⟨hrep j y u hy hu, h1' u (Array.mem_of_getElem? hu)⟩⟩
    | _ => exact lone' rfl
  | _ => exact lone' rfl
theorem zeros_spec {t : Nat} {zs : List FV} (hz : zeros P t = some zs) : ∃ i z, P.info? t = some i ∧ i.zero = some z ∧ zs = z.cells.toList.map .val ∧ z.cells.size = i.size ∧
    (∀ v ∈ z.cells, v.oneCell' = true) ∧ zs.all FV.one = true := by
  unfold zeros at hz
  simp only [Option.bind_eq_some_iff] at hz
  obtain ⟨i, hi, z, hz0, hz⟩ := hz
  split at hz
  · rename_i hc
    simp only [Option.some.injEq] at hz
    subst hz
    refine ⟨i, z, hi, hz0, rfl, hc.2, ?_, by rw [List.all_map]; exact hc.1⟩
    intro v hv
    have := List.all_eq_true.1 hc.1 v (by simpa using hv)
    cases v <;> simp_all [FV.one, Value.oneCell']
  · simp at hz
theorem splice_get {α : Type} (cs vs : List α) (off j : Nat) (hb : off + vs.length ≤ cs.length) :
    (splice cs off vs)[j]? = if off ≤ j ∧ j < off + vs.length then vs[j - off]? else cs[j]? := by
  unfold splice
  by_cases h1 : j < off
  · rw [if_neg (by omega), List.append_assoc, List.getElem?_append_left (by simp; omega), List.getElem?_take, if_pos h1]
  · by_cases h2 : j < off + vs.length
    · rw [if_pos (by omega), List.append_assoc, List.getElem?_append_right (by simp; omega), List.getElem?_append_left (by simp; omega)]
      congr 1; simp; omega
    · rw [if_neg (by omega), List.getElem?_append_right (by simp; omega), List.getElem?_drop]
      congr 1; simp; omega
theorem splice_length {α : Type} (cs vs : List α) (off : Nat) (hb : off + vs.length ≤ cs.length) : (splice cs off vs).length = cs.length := by
  unfold splice; simp; omega
theorem foldl_splice : ∀ (l : List Value) (j : Nat) (cs : Array Value) (o : Nat), o + j + l.length ≤ cs.size → ((l.zipIdx j).foldl (fun cs (c, j) => cs.setIfInBounds (o + j) c) cs).toList = splice cs.toList (o + j) l := by
  intro l
  induction l with
  | nil => intro j cs o _; simp [splice]
  | cons x l ih =>
    intro j cs o hb
    simp only [List.length_cons] at hb
    simp only [List.zipIdx_cons, List.foldl_cons]
    rw [ih (j + 1) _ o (by simp; omega)]
    apply List.ext_getElem?
    intro k
    rw [splice_get _ _ _ _ (by simp; omega), splice_get _ _ _ _ (by simp; omega)]
    simp only [Array.toList_setIfInBounds, List.length_cons]
    by_cases h1 : k = o + j
    · subst h1
      rw [if_neg (by omega), if_pos (by omega), List.getElem?_set_self (by simp; omega)]
      simp
    · by_cases h2 : o + (j + 1) ≤ k ∧ k < o + (j + 1) + l.length
      · rw [if_pos h2, if_pos (by omega)]
        rw [show k - (o + j) = (k - (o + (j + 1))) + 1 by omega, List.getElem?_cons_succ]
      · rw [if_neg h2, if_neg (by omega), List.getElem?_set_ne (fun h => h1 h.symm)]
theorem fill_sound {gen : Nat → Nat} {pl : Nat → Option (Nat × Nat)} : ∀ (pv : List (Nat × Value)) (px : List (Nat × LV)) (cv : Array Value) (cx out : List LV), pv.map (·.1) = px.map (·.1) →
    (∀ (j : Nat) (q : Nat × LV) (q' : Nat × Value), px[j]? = some q → pv[j]? = some q' → LVRep P w D gen an q'.2 q.2) → cv.size = cx.length →
    (∀ (j : Nat) (y : LV) (u : Value), cx[j]? = some y → cv[j]? = some u → LVRep P w D gen an u y ∧ u.oneCell' = true) → fillL pl cx px = some out →
    ∃ vs : Array Value, Instr.fill pl cv pv = some vs ∧ vs.size = out.length ∧ ∀ (j : Nat) (y : LV) (u : Value), out[j]? = some y → vs[j]? = some u → LVRep P w D gen an u y ∧ u.oneCell' = true := by
  intro pv
  induction pv with
  | nil =>
    intro px cv cx out hk hr hs hc hq
    have : px = [] := by simpa using hk.symm
    subst this
    simp only [fillL, Option.some.injEq] at hq
    subst hq
    exact ⟨cv, rfl, hs, hc⟩
  | cons p pv ih =>
    intro px cv cx out hk hr hs hc hq
    cases px with
    | nil => simp at hk
    | cons q px =>
      obtain ⟨i, v⟩ := p
      obtain ⟨i', x⟩ := q
      simp only [List.map_cons, List.cons.injEq] at hk
      obtain ⟨rfl, hk⟩ := hk
      simp only [fillL, Option.bind_eq_some_iff] at hq
      obtain ⟨⟨off, n⟩, hp, hq⟩ := hq
      split at hq
      · rename_i hcond
        simp only at hcond
        obtain ⟨h1, h2, h3⟩ := hcond
        obtain ⟨hvs, hvr⟩ := (hr 0 (i, x) (i, v) rfl rfl).cells h3
        simp only at hvs hvr
        have hfold : v.cells.zipIdx.foldl (fun cs (c, j) => cs.setIfInBounds (off + j) c) cv = (splice cv.toList off v.cells.toList).toArray := by
          rw [← Array.toList_inj, ← Array.foldl_toList, Array.toList_zipIdx, foldl_splice _ 0 _ _ (by simp; omega)]
          simp
        have hlen : (splice cv.toList off v.cells.toList).length = cv.size := by rw [splice_length _ _ _ (by simp; omega)]; simp
        obtain ⟨vs, e1, e2, e3⟩ := ih px (splice cv.toList off v.cells.toList).toArray (splice cx off x.cells) out hk (fun j q q' h h' => hr (j + 1) q q' (by simpa using h) (by simpa using h'))
          (by rw [List.size_toArray, hlen, splice_length _ _ _ (by omega), hs]) (fun j y u hy hu => by
            rw [List.getElem?_toArray, splice_get _ _ _ _ (by simp; omega)] at hu
            rw [splice_get _ _ _ _ (by omega)] at hy
            simp only [Array.length_toList] at hu
            by_cases hj : off ≤ j ∧ j < off + x.cells.length
            · rw [if_pos hj] at hy
              rw [if_pos (by omega)] at hu
              exact hvr _ y u hy (by simpa using hu)
            · rw [if_neg hj] at hy
              rw [if_neg (by omega)] at hu
              exact hc j y u hy (by simpa using hu)) hq
        refine ⟨vs, ?_, e2, e3⟩
        simp only [Instr.fill, hp]
        rw [if_neg (by simp; omega), hfold]
        exact e1
      · simp at hq
theorem placesOf_built {t : Nat} {pl : Nat → Option (Nat × Nat)} {i : TypeInfo} {z : Value} (hpl : placesOf P t = some pl) (hi : P.info? t = some i) (hz : i.zero = some z) (parts : List (Nat × Value)) :
    P.built t parts = Instr.fill pl z.cells parts := by
  unfold placesOf at hpl
  unfold Program.built
  rw [hi] at hpl ⊢
  cases hu : P.underlying t with
  | none => simp [hu] at hpl
  | some d =>
    cases d <;> simp [hu] at hpl
    case array n e =>
      obtain ⟨ie, hie, rfl⟩ := hpl
      simp [hz, hie]
    case struct fs =>
      obtain ⟨l, hl, rfl⟩ := hpl
      simp [hz, hl]
theorem OwnList.rep {B : Nat} {v : Value} {e es : Nat} {nil : Bool} {xs : List FV} (h : OwnList w D B v e es nil xs) (hD : ∀ b, blk v = some b → D b) :
    Rep w D v (if nil then FV.nil else .list false xs) := by
  obtain ⟨vs, hown, hnil, hes, hlen, hrep⟩ := h
  rcases hown.2 with ⟨hn, hz⟩ | ⟨b, cap, cur, ha, _, hg, hnc, hcm, _, _⟩
  · have : nil = true := hnil.2 hn
    subst this
    rw [hn]
    exact .val _
  · have : nil = false := by cases nil; rfl; simp [ha] at hnil
    subst this
    subst ha
    have hcell := hown.cells (g := b) rfl
    have hfl := flat_length fun y hy => (hlen y hy).1
    refine .list false xs b 0 cap es (fun j => vs.getD j Go.undef) hnc hcm (by simp) hes hlen (fun _ => hD b rfl) ?_ ?_
    · intro j y hy
      have hj : j < vs.length := by have := (List.getElem?_eq_some_iff.1 hy).1; have := hown.1; omega
      have h1 := hcell j vs[j] (by simp)
      rw [lone_add] at h1
      rw [h1]; simp [List.getD, hj]
    · intro j y hy
      have hj : j < vs.length := by have := (List.getElem?_eq_some_iff.1 hy).1; have := hown.1; omega
      have : vs.getD j Go.undef = vs[j] := by simp [List.getD, hj]
      rw [this]
      exact hrep j y vs[j] hy (by simp)
theorem viewL_sound (H : Heap P cx h w D an) {x : LV} {v : Value} (hx : LVRep P w D h.gen an v x) : LVRep P w D h.gen an v (viewL h x) := by
  unfold viewL
  split
  · rename_i o g
    split
    · rename_i e es xs hb
      obtain ⟨rfl, ho⟩ := AH.lst_spec hb
      obtain ⟨hown, hfz⟩ := H.obj _ _ ho
      cases hx with
      | gl _ _ _ hp hg he =>
        have := he rfl
        subst this
        have r := hown.rep fun b hb' => (hfz b hb').1 rfl
        exact .fv _ _ (by simpa using r)
    · exact hx
  · exact hx
theorem quiet_sound (H : Heap P cx h w D an) {ρ : Nat → LV} {a : Act} (hs : ∀ i, LVRep P w D h.gen an (a.tmps.getD i Go.undef) (ρ i)) (o : Oper) {lv : LV}
    (hq : quietV P o.op (evL ρ) h = some lv) : ∃ v, (execOp a.eval o).run P w = .ok (.value v) w ∧ LVRep P w D h.gen an v lv := by
  obtain ⟨dst, op, type, pos, after, guard⟩ := o
  have ev := ev_sound (P := P) (w := w) (D := D) (an := an) (gen := h.gen) (ρ := ρ) (a := a) hs
  have pure1 : ∀ {v : Value} {s : Sem Value} {op : Op}, execOp a.eval ⟨dst, op, type, pos, after, guard⟩ = (do pure (Next.value (← s))) → s.run P w = .ok v w →
      (execOp a.eval ⟨dst, op, type, pos, after, guard⟩).run P w = .ok (.value v) w := by
    intro v s op he hr
    rw [he]
    simp [hr]
  cases op <;> try (simp [quietV] at hq; done)
  case move x =>
    simp [quietV] at hq; subst hq
    exact ⟨_, rfl, ev x⟩
  case pick c x y =>
    simp only [quietV] at hq
    split at hq
    · rename_i t hc
      simp only [Option.some.injEq] at hq
      have := ev c
      rw [hc] at this
      have hb := Rep.val_inv this.fv_inv
      subst hq
      refine ⟨if t then a.eval x else a.eval y, by simp [execOp, hb, asBool], ?_⟩
      split
      · exact ev x
      · exact ev y
    · simp at hq
  case nilCheck x =>
    have hx := ev x
    simp only [quietV] at hq
    split at hq <;> (try (simp at hq; done)) <;> simp only [Option.some.injEq] at hq <;> subst hq
    · rename_i o g off he
      rw [he] at hx
      refine ⟨a.eval x, ?_, hx⟩
      generalize hgen : a.eval x = v at hx
      cases hx with
      | ptr _ _ _ _ hp hg hh => obtain ⟨b, k, e⟩ := hp; simp [execOp, hgen, e]
    · rename_i cs he
      rw [he] at hx
      refine ⟨a.eval x, ?_, hx⟩
      obtain ⟨b, k, e, _⟩ := hx.fv_inv.ptr_inv
      simp [execOp, e]
    · rename_i f caps he
      rw [he] at hx
      refine ⟨a.eval x, ?_, hx⟩
      generalize hgen : a.eval x = v at hx
      cases hx with
      | clos _ _ vs hs hr => simp [execOp, hgen]
    · rename_i g he
      rw [he] at hx
      refine ⟨a.eval x, ?_, hx⟩
      generalize hgen : a.eval x = v at hx
      cases hx with
      | fn _ _ hf => obtain ⟨f, first, caps, e, _⟩ := hf; simp [execOp, hgen, e]
    · rename_i o g es i off he
      rw [he] at hx
      refine ⟨a.eval x, ?_, hx⟩
      generalize hgen : a.eval x = v at hx
      cases hx with
      | elem _ _ _ _ _ _ hp hg hh => obtain ⟨b, k, e⟩ := hp; simp [execOp, hgen, e]
    · rename_i cs he
      rw [he] at hx
      refine ⟨a.eval x, ?_, hx⟩
      generalize hgen : a.eval x = v at hx
      cases hx with
      | pb _ _ _ _ hD hc hr => simp [execOp, hgen]
  case load t x =>
    simp only [quietV, Option.bind_eq_some_iff] at hq
    obtain ⟨⟨agg, n⟩, hl, hq⟩ := hq
    obtain ⟨u, hr, hu⟩ := loadA_sound H hl (ev x) hq
    exact ⟨u, pure1 rfl hr, hu⟩
  case binOp op t x y yt =>
    simp only [quietV] at hq
    have hx := ev x
    have hy := ev y
    split at hq
    · rename_i k m k' m' ex ey
      rw [ex] at hx
      rw [ey] at hy
      have e1 := Rep.val_inv hx.fv_inv
      have e2 := Rep.val_inv hy.fv_inv
      simp only [Option.map_eq_some_iff] at hq
      obtain ⟨v, hv, rfl⟩ := hq
      refine ⟨v, ?_, .fv _ _ (.val v)⟩
      refine pure1 (s := do eqGuard op t x y (a.eval x) (a.eval y); binOp op t (a.eval x) (a.eval y)) rfl ?_
      rw [e1, e2]
      simp only [Sem.run_bind, eqGuard_nil (P := P) (op := op) (t := t) (x := x) (y := y) (a := .int k m) (b := .int k' m') (.inl (by simp)) (.inl (by simp)), Result.andThen_ok]
      exact binV_sound hv w
    · split at hq
      · simp only [Option.map_eq_some_iff] at hq
        obtain ⟨b, hb, rfl⟩ := hq
        refine ⟨.bool b, ?_, .fv _ _ (.val _)⟩
        refine pure1 (s := do eqGuard .eql t x y (a.eval x) (a.eval y); binOp .eql t (a.eval x) (a.eval y)) rfl ?_
        simpa using eqV_sound H hx hy hb .eql (.inl rfl) x y
      · simp only [Option.map_eq_some_iff] at hq
        obtain ⟨b, hb, rfl⟩ := hq
        refine ⟨.bool !b, ?_, .fv _ _ (.val _)⟩
        refine pure1 (s := do eqGuard .neq t x y (a.eval x) (a.eval y); binOp .neq t (a.eval x) (a.eval y)) rfl ?_
        simpa using eqV_sound H hx hy hb .neq (.inr rfl) x y
      · simp at hq
  case unOp op t x =>
    have hx := ev x
    simp only [quietV] at hq
    split at hq <;> (try (simp at hq; done)) <;> simp only [Option.some.injEq] at hq <;> subst hq
    · rename_i b he
      rw [he] at hx
      have e := Rep.val_inv hx.fv_inv
      exact ⟨.bool !b, by simp [execOp, e, Op.unary], .fv _ _ (.val _)⟩
    · rename_i k n he
      rw [he] at hx
      have e := Rep.val_inv hx.fv_inv
      exact ⟨_, by simp only [execOp, e, Op.unary, Op.intArith, Sem.run_bind, Sem.run_pure, Result.andThen_ok], .fv _ _ (.val _)⟩
  case convert src dst' x =>
    have hx := ev x
    simp only [quietV] at hq
    split at hq <;> (try (simp at hq; done)) <;> simp only [Option.some.injEq] at hq <;> subst hq
    rename_i k' k kk n h1 h2 he
    rw [he] at hx
    have e := Rep.val_inv hx.fv_inv
    exact ⟨_, by simp only [execOp, convert, e, Sem.run_bind, run_underlying h1, run_underlying h2, Result.andThen_ok, Conv.intToInt, Sem.run_pure], .fv _ _ (.val _)⟩
  case makeFunc fn first caps =>
    cases fn <;> simp only [quietV] at hq <;> try (simp at hq; done)
    rename_i f
    split at hq
    · rename_i hf
      simp only [Option.some.injEq] at hq
      subst hq
      have : first = #[] := Array.eq_empty_of_size_eq_zero hf
      subst this
      refine ⟨.func (.func f) #[] (caps.map a.eval), by simp [execOp, Instr.makeFunc], .clos f _ _ (by simp) ?_⟩
      intro j y v hy hv
      simp only [List.getElem?_map, Array.getElem?_toList, Option.map_eq_some_iff, Array.getElem?_map] at hy hv
      obtain ⟨c, hc, rfl⟩ := hy
      obtain ⟨c', hc', rfl⟩ := hv
      rw [hc] at hc'
      simp at hc'; subst hc'
      exact ev c
    · split at hq
      · rename_i _ hf
        simp only [Option.some.injEq] at hq
        subst hq
        have : caps = #[] := Array.eq_empty_of_size_eq_zero hf
        subst this
        refine ⟨.func (.func f) (first.map a.eval) #[], by simp [execOp, Instr.makeFunc], .bnd f _ _ (by simp) ?_⟩
        intro j y v hy hv
        simp only [List.getElem?_map, Array.getElem?_toList, Option.map_eq_some_iff, Array.getElem?_map] at hy hv
        obtain ⟨c, hc, rfl⟩ := hy
        obtain ⟨c', hc', rfl⟩ := hv
        rw [hc] at hc'
        simp at hc'; subst hc'
        exact ev c
      · simp at hq
  case fieldAddr s x f =>
    have hx := ev x
    simp only [quietV, Option.bind_eq_some_iff] at hq
    obtain ⟨q, hf, hq⟩ := hq
    split at hq
    · simp at hq
    · rename_i hz
      split at hq <;> (try (simp at hq; done)) <;> simp only [Option.some.injEq] at hq <;> subst hq
      · rename_i o g off he
        rw [he] at hx
        generalize hgen : a.eval x = v at hx
        cases hx with
        | ptr _ _ _ _ hp hg hh =>
          obtain ⟨b, k, e0⟩ := hp
          rw [e0] at hgen
          have e := hgen
          refine ⟨.pointer (some ⟨b, k + q.1, none⟩), pure1 rfl (by rw [e]; exact fieldAt_run hf hz b k w), .ptr _ _ _ _ ⟨_, _, rfl⟩ hg fun e' => ?_⟩
          obtain ⟨b', ha, hv⟩ := hh e'
          rw [e0] at hv
          simp at hv
          exact ⟨b', ha, by simp [hv.1, hv.2]⟩
      · rename_i cs he
        rw [he] at hx
        obtain ⟨b, k, e, _⟩ := hx.fv_inv.ptr_inv
        exact ⟨.pointer (some ⟨b, k + q.1, none⟩), pure1 rfl (by rw [e]; exact fieldAt_run hf hz b k w), .fv _ _ (hx.fv_inv.ptr_drop e _)⟩
      · rename_i o g es i off he
        rw [he] at hx
        generalize hgen : a.eval x = v at hx
        cases hx with
        | elem _ _ _ _ _ _ hp hg hh =>
          obtain ⟨b, k, e0⟩ := hp
          rw [e0] at hgen
          have e := hgen
          refine ⟨.pointer (some ⟨b, k + q.1, none⟩), pure1 rfl (by rw [e]; exact fieldAt_run hf hz b k w), .elem _ _ _ _ _ _ ⟨_, _, rfl⟩ hg fun e' => ?_⟩
          obtain ⟨b', n, cap, ha, hv⟩ := hh e'
          rw [e0] at hv
          simp at hv
          exact ⟨b', n, cap, ha, by simp [hv.1, hv.2, Nat.add_assoc]⟩
  case field t x f =>
    have hx := ev x
    simp only [quietV, Option.bind_eq_some_iff] at hq
    obtain ⟨⟨off, agg, n⟩, hf, hq⟩ := hq
    obtain ⟨fs, fd, hu, hfd, ho, hl⟩ := fld_spec hf
    simp only at ho hl
    have fin : ∀ vs : Array Value, a.eval x = .agg vs → ∀ u, (part fd.type vs off).run P w = .ok u w → (execOp a.eval ⟨dst, .field t x f, type, pos, after, guard⟩).run P w = .ok (.value u) w := by
      intro vs e u hr
      refine pure1 (s := Instr.field t (a.eval x) f) rfl ?_
      simp [Instr.field, run_underlying hu, hfd, e, asAgg, ho, hr]
    split at hq
    · rename_i cs he
      rw [he] at hx
      generalize hgen : a.eval x = v at hx
      cases hx with
      | agg _ vs hs h1 hrep =>
        obtain ⟨u, hr, hu⟩ := part_sound hl hs h1 hrep hq
        exact ⟨u, fin vs hgen u hr, hu⟩
    · rename_i cs he
      rw [he] at hx
      obtain ⟨vs, e, hs, h1, hrep⟩ := hx.agg_fv
      obtain ⟨u, hr, hu⟩ := part_sound hl hs h1 hrep (by rw [← List.map_drop]; exact partF_partL hq)
      exact ⟨u, fin vs e u hr, hu⟩
    · simp at hq
  case indexAddr t x i =>
    simp only [quietV, Option.bind_eq_some_iff] at hq
    obtain ⟨n, hn, hq⟩ := hq
    obtain ⟨k, hk⟩ := intOf_inv hn (ev i)
    obtain ⟨u, hr, hu⟩ := indexA_sound H k hk (ev x) hq
    exact ⟨u, pure1 rfl hr, hu⟩
  case index t x i =>
    have hx := ev x
    simp only [quietV, Option.bind_eq_some_iff] at hq
    obtain ⟨n, hn, q, hi, hq⟩ := hq
    obtain ⟨k, hk⟩ := intOf_inv hn (ev i)
    obtain ⟨hl, hu⟩ := idx_spec hi
    have fin : ∀ (m e : Nat) (agg : Bool) (s : Nat), lay P e = some (agg, s) → P.underlying t = some (.array m e) → 0 ≤ n ∧ n < (m : Int) → ∀ vs : Array Value, a.eval x = .agg vs → ∀ u, (part e vs (n.toNat * s)).run P w = .ok u w →
        (execOp a.eval ⟨dst, .index t x i, type, pos, after, guard⟩).run P w = .ok (.value u) w := by
      intro m e agg s hl hu hb vs ev' u hr
      refine pure1 (s := Instr.index t (a.eval x) (a.eval i)) rfl ?_
      simp [Instr.index, hk, asIntOf, run_underlying hu, ev', hb, run_size hl, hr]
    split at hq
    · rename_i m e agg s cs he
      rcases hu with ⟨m', hm, hu⟩ | ⟨hm, _⟩
      · simp at hm; subst hm
        split at hq
        · rename_i hb
          rw [he] at hx
          obtain ⟨vs, e', hs, h1, hrep⟩ := hx.agg_fv
          obtain ⟨u, hr, hu'⟩ := part_sound hl hs h1 hrep (by rw [← List.map_drop]; exact partF_partL hq)
          exact ⟨u, fin _ _ _ _ hl hu hb vs e' u hr, hu'⟩
        · simp at hq
      · simp at hm
    · rename_i m e agg s cs he
      rcases hu with ⟨m', hm, hu⟩ | ⟨hm, _⟩
      · simp at hm; subst hm
        split at hq
        · rename_i hb
          rw [he] at hx
          generalize hgen : a.eval x = v at hx
          cases hx with
          | agg _ vs hs h1 hrep =>
            obtain ⟨u, hr, hu'⟩ := part_sound hl hs h1 hrep hq
            exact ⟨u, fin _ _ _ _ hl hu hb vs hgen u hr, hu'⟩
        · simp at hq
      · simp at hm
    · simp at hq
  case build t parts =>
    simp only [quietV, Option.bind_eq_some_iff, Option.map_eq_some_iff] at hq
    obtain ⟨pl, hpl, zs, hz, out, hf, rfl⟩ := hq
    obtain ⟨i, z, hi, hz0, rfl, hsz, h1, _⟩ := zeros_spec hz
    obtain ⟨vs, e1, e2, e3⟩ := fill_sound (P := P) (w := w) (D := D) (an := an) (gen := h.gen) (parts.map fun p => (p.1, a.eval p.2)).toList _ z.cells _ out (by simp [Function.comp_def]) (fun j q q' hq hq' => by
      simp only [List.getElem?_map, Option.map_eq_some_iff, Array.toList_map] at hq hq'
      obtain ⟨p, hp, rfl⟩ := hq
      obtain ⟨p', hp', rfl⟩ := hq'
      rw [hp] at hp'; simp at hp'; subst hp'
      exact ev _) (by simp) (fun j y u hy hu => by
      simp only [List.getElem?_map, Array.getElem?_toList, hu, Option.map_some, Option.some.injEq] at hy
      subst hy
      exact ⟨.fv _ _ (.val _), h1 _ (Array.mem_of_getElem? hu)⟩) hf
    refine ⟨.agg vs, pure1 (s := Instr.build t (parts.map fun p => (p.1, a.eval p.2))) rfl (run_build w t _ vs (by rw [placesOf_built hpl hi hz0]; exact e1)), mkAgg_rep e2 ?_ fun j y v hy hv => (e3 j y v hy hv).1⟩
    intro v hv
    obtain ⟨j, hj, rfl⟩ := Array.mem_iff_getElem.1 hv
    have hjo : j < out.length := by omega
    exact (e3 j out[j] vs[j] (by simp) (by simp)).2
  case extract x i =>
    have hx := ev x
    simp only [quietV] at hq
    split at hq
    · rename_i vs he
      rw [he] at hx
      generalize hgen : a.eval x = v at hx
      cases hx with
      | tup _ us hs hrep =>
        have hlt : i < us.size := by rw [hs]; exact (List.getElem?_eq_some_iff.1 hq).1
        exact ⟨us[i], pure1 rfl (by simp [hgen, Instr.extract, hlt]), hrep i lv _ hq (by simp)⟩
    · rename_i vs he
      rw [he] at hx
      simp only [Option.map_eq_some_iff] at hq
      obtain ⟨x', hx', rfl⟩ := hq
      have hr := hx.fv_inv
      generalize hgen : a.eval x = v at hr
      cases hr with
      | tup us _ hs hrep =>
        have hlt : i < us.size := by rw [hs]; exact (List.getElem?_eq_some_iff.1 hx').1
        exact ⟨us[i], pure1 rfl (by simp [hgen, Instr.extract, hlt]), .fv _ _ (hrep i x' _ hx' (by simp))⟩
    · simp at hq
  case sliceToArrayPointer t x =>
    have hx := viewL_sound H (ev x)
    simp only [quietV, Option.bind_eq_some_iff] at hq
    obtain ⟨q, hidx, hq⟩ := hq
    obtain ⟨hl, hu⟩ := idx_spec hidx
    split at hq
    · rename_i n e agg s full xs he
      rcases hu with ⟨m, hm, hu⟩ | ⟨hm, _⟩
      · simp at hm; subst hm
        split at hq
        · rename_i hb
          simp only [Option.some.injEq] at hq
          subst hq
          rw [he] at hx
          have hr := hx.fv_inv
          generalize hgen : a.eval x = v at hr
          cases hr with
          | empty _ ad => simp at hb; omega
          | list full xs b off cap es cs hcap hmax hfull hes hlen hDb hcell hrep =>
            have hone : (FV.flat xs).all FV.one = true := by
              rw [List.all_eq_true]
              intro y hy
              simp only [FV.flat, List.mem_flatMap] at hy
              obtain ⟨z, hz, hy⟩ := hy
              exact List.all_eq_true.1 (hlen z hz).2 y hy
            refine ⟨_, pure1 (s := Instr.arrayAt t (a.eval x)) rfl ?_, .fv _ _ (.ptr (FV.flat xs) b off cs hone (hDb (by rintro rfl; simp at hb; omega)) hcell hrep)⟩
            rw [hgen]
            have : ¬ xs.length < n := by omega
            simp [Instr.arrayAt, run_underlying hu, this]
        · simp at hq
      · simp at hm
    · simp at hq
  case slice t x lo hi mx =>
    have hx := viewL_sound H (ev x)
    have opt : ∀ (o : Option Operand) (m : Int) (d : Int), o.elim (some d) (fun o => intOf (evL ρ o)) = some m → (o = none ∧ d = m) ∨ ∃ y k, o = some y ∧ a.eval y = .int k m := by
      intro o m d ho
      cases o with
      | none => simp at ho; exact .inl ⟨rfl, ho⟩
      | some y =>
        obtain ⟨k, hk⟩ := intOf_inv (by simpa using ho) (ev y)
        exact .inr ⟨y, k, rfl, hk⟩
    simp only [quietV, Option.bind_eq_some_iff] at hq
    obtain ⟨q, hidx, hq⟩ := hq
    obtain ⟨hl, hu⟩ := idx_spec hidx
    have hbl : ∀ (l : Int) (y : Nat) (k : IntKind) (code : BoundsCode), 0 ≤ l → l ≤ (y : Int) → (Instr.sliceBound (.int k l) y code).run P w = .ok l.toNat w := by
      intro l y k code h0 hy
      simp [Instr.sliceBound, asIntOf, h0, hy]
    split at hq
    · rename_i e agg s full xs he
      rcases hu with ⟨m', hm, hu⟩ | ⟨_, hu⟩
      · simp at hm
      rw [he] at hx
      split at hq
      · simp at hq
      rename_i hmh
      split at hq
      · rename_i l r m hlo hhi hmx
        split at hq
        · rename_i hb
          simp only [Option.some.injEq] at hq
          subst hq
          have hr := hx.fv_inv
          generalize hgen : a.eval x = v at hr
          cases hr with
          | empty _ ad =>
            obtain ⟨h0, h1, h2, h3, h4⟩ := hb
            simp only [List.length_nil] at h2
            have hl0 : l = 0 := by omega
            have hr0 : r = 0 := by omega
            subst hl0
            subst hr0
            have hl2 := opt lo 0 0 hlo
            have hh2 := opt hi 0 0 hhi
            have hm2 : mx = none ∨ ∃ y k, mx = some y ∧ a.eval y = .int k 0 := by
              cases mx with
              | none => exact .inl rfl
              | some y =>
                simp only [Option.elim_some, Option.map_eq_some_iff] at hmx
                obtain ⟨m', hm', rfl⟩ := hmx
                obtain ⟨k, hk⟩ := intOf_inv hm' (ev y)
                have : m' = 0 := by simpa using h3
                subst this
                exact .inr ⟨y, k, rfl, hk⟩
            have hz : ∀ (k : IntKind) (code : BoundsCode), (Instr.sliceBound (.int k 0) 0 code).run P w = .ok 0 w := fun k code => by
              have := hbl 0 0 k code (Int.le_refl _) (Int.le_refl _); simpa using this
            have hb' : (Instr.sliceBounds true 0 0 (lo.map a.eval) (hi.map a.eval) (mx.map a.eval)).run P w = .ok (0, 0, 0) w := by
              rcases hm2 with rfl | ⟨ym, km, rfl, hkm⟩
              · rcases hh2 with ⟨rfl, _⟩ | ⟨yh, kh, rfl, hkh⟩ <;> rcases hl2 with ⟨rfl, _⟩ | ⟨yl, kl, rfl, hkl⟩ <;> simp [Instr.sliceBounds, *]
              · rcases hh2 with ⟨rfl, _⟩ | ⟨yh, kh, rfl, hkh⟩
                · simp at hmh
                · rcases hl2 with ⟨rfl, _⟩ | ⟨yl, kl, rfl, hkl⟩ <;> simp [Instr.sliceBounds, *]
            simp only at hl
            have run : (Instr.sliceAt t (.slice (some ad) 0 0) (lo.map a.eval) (hi.map a.eval) (mx.map a.eval)).run P w = .ok (.slice (some ad) 0 0) w := by
              simp [Instr.sliceAt, Instr.slice, run_underlying hu, hb', run_size hl]
            refine ⟨_, pure1 (s := Instr.sliceAt t (a.eval x) (lo.map a.eval) (hi.map a.eval) (mx.map a.eval)) rfl (by rw [hgen]; exact run), .fv _ _ ?_⟩
            simp only [List.take_nil, List.drop_nil]
            exact .empty _ _
          | list _ _ b off cap es cs hcap hmax hfull hes hlen hDb hcell hrep =>
            have hl2 := opt lo l 0 hlo
            have hh2 := opt hi r xs.length hhi
            have hm2 : (mx = none ∧ m = none) ∨ ∃ y k m', mx = some y ∧ m = some m' ∧ a.eval y = .int k m' := by
              cases mx with
              | none => simp at hmx; exact .inl ⟨rfl, hmx.symm⟩
              | some y =>
                simp only [Option.elim_some, Option.map_eq_some_iff] at hmx
                obtain ⟨m', hm', rfl⟩ := hmx
                obtain ⟨k, hk⟩ := intOf_inv hm' (ev y)
                exact .inr ⟨y, k, m', rfl, rfl, hk⟩
            obtain ⟨h0, h1, h2, h3, h4⟩ := hb
            have hrl : r.toNat ≤ xs.length := by omega
            have hll : l.toNat ≤ r.toNat := by omega
            -- the capacity behind it
            obtain ⟨M, hMd⟩ : ∃ M : Nat, M = (match m with | some _ => r.toNat | none => cap) := ⟨_, rfl⟩
            have hM : r.toNat ≤ M ∧ M ≤ cap := by rw [hMd]; split <;> omega
            have hlenr : ((xs.take r.toNat).drop l.toNat).length = r.toNat - l.toNat := by simp; omega
            have hrc : r ≤ (cap : Int) := by omega
            have hr0 : 0 ≤ r := by omega
            have hb' : (Instr.sliceBounds true xs.length cap (lo.map a.eval) (hi.map a.eval) (mx.map a.eval)).run P w = .ok (l.toNat, r.toNat, M) w := by
              rcases hm2 with ⟨rfl, rfl⟩ | ⟨ym, km, m', rfl, rfl, hkm⟩
              · have hMc : M = cap := hMd
                rcases hh2 with ⟨rfl, hr'⟩ | ⟨yh, kh, rfl, hkh⟩
                · have hr'' : r.toNat = xs.length := by omega
                  rcases hl2 with ⟨rfl, hl'⟩ | ⟨yl, kl, rfl, hkl⟩
                  · have : l.toNat = 0 := by omega
                    simp [Instr.sliceBounds, hr'', this, hMc]
                  · simp [Instr.sliceBounds, hr'', hkl, hMc, hbl l xs.length kl _ h0 (by omega)]
                · rcases hl2 with ⟨rfl, hl'⟩ | ⟨yl, kl, rfl, hkl⟩
                  · have : l.toNat = 0 := by omega
                    simp [Instr.sliceBounds, hkh, hMc, hbl r cap kh _ hr0 hrc, this]
                  · simp [Instr.sliceBounds, hkh, hMc, hbl r cap kh _ hr0 hrc, hkl, hbl l r.toNat kl _ h0 (by omega)]
              · have hmr : m' = r := by simpa using h3
                subst hmr
                have hMc : M = m'.toNat := hMd
                rcases hh2 with ⟨rfl, hr'⟩ | ⟨yh, kh, rfl, hkh⟩
                · simp at hmh
                · rcases hl2 with ⟨rfl, hl'⟩ | ⟨yl, kl, rfl, hkl⟩
                  · have : l.toNat = 0 := by omega
                    simp [Instr.sliceBounds, hkm, hbl m' cap km _ hr0 hrc, hkh, hMc, hbl m' m'.toNat kh _ hr0 (by omega), this]
                  · simp [Instr.sliceBounds, hkm, hbl m' cap km _ hr0 hrc, hkh, hMc, hbl m' m'.toNat kh _ hr0 (by omega), hkl, hbl l m'.toNat kl _ h0 (by omega)]
            simp only at hl
            have run : (Instr.sliceAt t (.slice (some ⟨b, off, none⟩) xs.length cap) (lo.map a.eval) (hi.map a.eval) (mx.map a.eval)).run P w =
                .ok (.slice (some ⟨b, off + (if M = l.toNat then 0 else l.toNat * s), none⟩) (r.toNat - l.toNat) (M - l.toNat)) w := by
              simp [Instr.sliceAt, Instr.slice, run_underlying hu, hb', run_size hl, add_mul]
              split <;> rfl
            refine ⟨_, pure1 (s := Instr.sliceAt t (a.eval x) (lo.map a.eval) (hi.map a.eval) (mx.map a.eval)) rfl (by rw [hgen]; exact run), .fv _ _ ?_⟩
            rw [← hlenr]
            have hsub : ∀ y ∈ (xs.take r.toNat).drop l.toNat, y ∈ xs := fun y hy => List.mem_of_mem_take (List.mem_of_mem_drop hy)
            have hne : (xs.take r.toNat).drop l.toNat ≠ [] → l.toNat < r.toNat ∧ es = s := by
              intro hne
              have h5 : l.toNat < r.toNat := by
                rcases Nat.lt_or_ge l.toNat r.toNat with h | h
                · exact h
                · exact absurd (List.eq_nil_of_length_eq_zero (by rw [hlenr]; omega)) hne
              cases hxs : xs with
              | nil => simp [hxs] at hrl; omega
              | cons y ys =>
                have e1 := (hlen y (by simp [hxs])).1
                have e2 := h4 y (by simp [hxs])
                exact ⟨h5, by omega⟩
            have hflat : ∀ j y, (FV.flat ((xs.take r.toNat).drop l.toNat))[j]? = some y → (FV.flat xs)[l.toNat * es + j]? = some y := by
              intro j y hy
              have hfl : ∀ (zs : List FV) (n : Nat), (∀ x ∈ zs, x.cells.length = es) → FV.flat (zs.drop n) = (FV.flat zs).drop (n * es) := by
                intro zs
                induction zs with
                | nil => intro n _; simp [FV.flat]
                | cons z zs ih =>
                  intro n hz
                  cases n with
                  | zero => simp
                  | succ n =>
                    simp only [List.drop_succ_cons]
                    rw [ih n fun x hx => hz x (by simp [hx])]
                    simp only [FV.flat, List.flatMap_cons]
                    rw [Nat.add_mul, Nat.one_mul, Nat.add_comm (n * es), ← hz z (by simp), List.drop_append]
                    simp [List.drop_drop]
              have hft : ∀ (zs : List FV) (n : Nat), (∀ x ∈ zs, x.cells.length = es) → FV.flat (zs.take n) = (FV.flat zs).take (n * es) := by
                intro zs
                induction zs with
                | nil => intro n _; simp [FV.flat]
                | cons z zs ih =>
                  intro n hz
                  cases n with
                  | zero => simp [FV.flat]
                  | succ n =>
                    simp only [List.take_succ_cons, FV.flat, List.flatMap_cons] at *
                    rw [ih n fun x hx => hz x (by simp [hx])]
                    rw [Nat.add_mul, Nat.one_mul, Nat.add_comm (n * es), ← hz z (by simp), List.take_append]
                    simp [List.take_of_length_le]
              rw [hfl _ _ (fun x hx => (hlen x (List.mem_of_mem_take hx)).1), hft _ _ (fun x hx => (hlen x hx).1), List.getElem?_drop, List.getElem?_take] at hy
              split at hy
              · exact hy
              · simp at hy
            refine .list _ _ b _ (M - l.toNat) es (fun j => cs (l.toNat * es + j)) (by omega) (by omega) ?_ hes (fun y hy => hlen y (hsub y hy)) ?_ ?_ ?_
            · intro hf
              rw [hlenr]
              rcases hm2 with ⟨_, rfl⟩ | ⟨_, _, m', _, rfl, _⟩
              · simp at hf
                have := hfull hf.1
                rw [hMd]
                simp
                omega
              · rw [hMd]
            · intro hne'
              exact hDb (by rintro rfl; simp at hne')
            · intro j y hy
              have hn : (xs.take r.toNat).drop l.toNat ≠ [] := by intro e; rw [e] at hy; simp [FV.flat] at hy
              obtain ⟨h5, rfl⟩ := hne hn
              rw [if_neg (by omega), Nat.add_assoc]
              exact hcell _ y (hflat j y hy)
            · intro j y hy
              exact hrep _ y (hflat j y hy)
        · simp at hq
      · simp at hq
    · rename_i e agg s he
      rcases hu with ⟨m', hm, hu⟩ | ⟨_, hu⟩
      · simp at hm
      rw [he] at hx
      split at hq
      · simp at hq
      rename_i hmh
      split at hq
      · rename_i hlo hhi hmx
        simp only [Option.some.injEq] at hq
        subst hq
        have e1 := Rep.val_inv hx.fv_inv
        have hl2 := opt lo 0 0 hlo
        have hh2 := opt hi 0 0 hhi
        have hm2 := opt mx 0 0 hmx
        have hb' : (Instr.sliceBounds true 0 0 (lo.map a.eval) (hi.map a.eval) (mx.map a.eval)).run P w = .ok (0, 0, 0) w := by
          have h00 := fun (k : IntKind) (code : BoundsCode) => hbl 0 0 k code (by omega) (by simp)
          simp only [Int.toNat_zero] at h00
          rcases hm2 with ⟨rfl, _⟩ | ⟨ym, km, rfl, hkm⟩
          · rcases hh2 with ⟨rfl, _⟩ | ⟨yh, kh, rfl, hkh⟩ <;> rcases hl2 with ⟨rfl, _⟩ | ⟨yl, kl, rfl, hkl⟩ <;> simp [Instr.sliceBounds, *]
          · rcases hh2 with ⟨rfl, _⟩ | ⟨yh, kh, rfl, hkh⟩
            · simp at hmh
            · rcases hl2 with ⟨rfl, _⟩ | ⟨yl, kl, rfl, hkl⟩ <;> simp [Instr.sliceBounds, *]
        refine ⟨.slice none 0 0, pure1 (s := Instr.sliceAt t (a.eval x) (lo.map a.eval) (hi.map a.eval) (mx.map a.eval)) rfl ?_, .fv _ _ (.val _)⟩
        rw [e1]
        simp only at hl
        simp [Instr.sliceAt, Instr.slice, run_underlying hu, hb', run_size hl]
      · simp at hq
    · rename_i e agg s o g he
      rcases hu with ⟨m', hm, hu⟩ | ⟨_, hu⟩
      · simp at hm
      rw [he] at hx
      simp only [Option.bind_eq_some_iff] at hq
      obtain ⟨⟨e', es, fz, nil, xs⟩, hb, hq⟩ := hq
      obtain ⟨rfl, ho⟩ := AH.lst_spec hb
      obtain ⟨⟨vs, hown, hnil, hes, hlen, hrep⟩, _⟩ := H.obj _ _ ho
      simp only at hq
      split at hq
      · simp at hq
      rename_i hcond
      simp only [not_or, Decidable.not_not, Bool.not_eq_true] at hcond
      obtain ⟨hmx, rfl, rfl⟩ := hcond
      split at hq
      · rename_i l r hlo hhi
        split at hq
        · rename_i hb
          simp only [Option.some.injEq] at hq
          subst hq
          have hmx' : mx = none := by cases mx with | none => rfl | some _ => simp at hmx
          subst hmx'
          generalize hgen : a.eval x = v at hx
          cases hx with
          | gl _ _ _ hp hg hh =>
            have := hh rfl
            subst this
            rcases hown.2 with ⟨ha, hz⟩ | ⟨b, cap, cur, ha, hB, hw, hnc, _⟩
            · exact absurd (hnil.2 ha) (by simp)
            · have hl2 := opt lo l 0 hlo
              have hh2 := opt hi r xs.length hhi
              obtain ⟨h0, h1, h2⟩ := hb
              have hr0 : 0 ≤ r := by omega
              have hrc : r ≤ (cap : Int) := by omega
              have hb' : (Instr.sliceBounds true xs.length cap (lo.map a.eval) (hi.map a.eval) none).run P w = .ok (l.toNat, r.toNat, cap) w := by
                rcases hh2 with ⟨rfl, hr'⟩ | ⟨yh, kh, rfl, hkh⟩
                · have hr'' : r.toNat = xs.length := by omega
                  rcases hl2 with ⟨rfl, hl'⟩ | ⟨yl, kl, rfl, hkl⟩
                  · have : l.toNat = 0 := by omega
                    simp [Instr.sliceBounds, hr'', this]
                  · simp [Instr.sliceBounds, hr'', hkl, hbl l xs.length kl _ h0 (by omega)]
                · rcases hl2 with ⟨rfl, hl'⟩ | ⟨yl, kl, rfl, hkl⟩
                  · have : l.toNat = 0 := by omega
                    simp [Instr.sliceBounds, hkh, hbl r cap kh _ hr0 hrc, this]
                  · simp [Instr.sliceBounds, hkh, hbl r cap kh _ hr0 hrc, hkl, hbl l r.toNat kl _ h0 (by omega)]
              simp only at hl
              have run : (Instr.sliceAt t (.slice (some ⟨b, 0, none⟩) xs.length cap) (lo.map a.eval) (hi.map a.eval) none).run P w =
                  .ok (.slice (some ⟨b, if cap = l.toNat then 0 else l.toNat * es, none⟩) (r.toNat - l.toNat) (cap - l.toNat)) w := by
                simp [Instr.sliceAt, Instr.slice, run_underlying hu, hb', run_size hl, add_mul]
                split <;> simp
              refine ⟨_, pure1 (s := Instr.sliceAt t (a.eval x) (lo.map a.eval) (hi.map a.eval) none) rfl (by rw [hgen, ha]; exact run), .sub _ _ _ _ _ _ rfl (Nat.le_refl _) fun _ => ⟨by omega, b, xs.length, cap, ha, by omega, rfl⟩⟩
        · simp at hq
      · simp at hq
    · simp at hq
  case call c =>
    obtain ⟨callee, args, tys⟩ := c
    cases callee <;> simp only [quietV] at hq <;> try (simp at hq; done)
    rename_i b
    cases b <;> simp only [quietV] at hq <;> try (simp at hq; done)
    case len =>
      split at hq
      · rename_i x t ha ht
        have ha' : args = #[x] := by rw [← Array.toList_inj, ha]
        have ht' : tys = #[t] := by rw [← Array.toList_inj, ht]
        subst ha'; subst ht'
        split at hq
        · rename_i e hu
          simp only [Option.map_eq_some_iff] at hq
          obtain ⟨n, hn, rfl⟩ := hq
          have := lenV_sound H hu (ev x) hn #[t] rfl type
          exact ⟨.int .i64 n, by simp [execOp, resolve, invoke, builtin, this], .fv _ _ (.val _)⟩
        · rename_i kt e hu
          simp only [Option.map_eq_some_iff] at hq
          obtain ⟨n, hn, rfl⟩ := hq
          have := lenM_sound H hu (ev x) hn type
          exact ⟨.int .i64 n, by simp [execOp, resolve, invoke, builtin, this], .fv _ _ (.val _)⟩
        · rename_i n e hu
          simp only [Option.some.injEq] at hq
          subst hq
          exact ⟨.int .i64 n, by simp [execOp, resolve, invoke, builtin, Builtin.len_, run_underlying hu, goInt], .fv _ _ (.val _)⟩
        · simp at hq
      · simp at hq
    case cap =>
      split at hq
      · rename_i x t ha ht
        have ha' : args = #[x] := by rw [← Array.toList_inj, ha]
        have ht' : tys = #[t] := by rw [← Array.toList_inj, ht]
        subst ha'; subst ht'
        split at hq
        · rename_i e hu he
          simp only [Option.some.injEq] at hq
          subst hq
          have hx := ev x
          rw [he] at hx
          have e1 := Rep.val_inv hx.fv_inv
          exact ⟨.int .i64 0, by simp [execOp, resolve, invoke, builtin, Builtin.cap_, run_underlying hu, goInt, e1], .fv _ _ (.val _)⟩
        · simp at hq
      · simp at hq
    case min =>
      split at hq
      · rename_i a' b' ha
        simp only [Option.map_eq_some_iff] at hq
        obtain ⟨v, hv, rfl⟩ := hq
        cases hl : args.toList with
        | nil => simp [hl] at ha
        | cons x l =>
          cases l with
          | nil => simp [hl] at ha
          | cons y l =>
            cases l with
            | cons z l => simp [hl] at ha
            | nil =>
              simp only [hl, List.map_cons, List.map_nil, List.cons.injEq, and_true] at ha
              have hxx := ev x
              have hyy := ev y
              rw [ha.1] at hxx
              rw [ha.2] at hyy
              have e1 := Rep.val_inv hxx.fv_inv
              have e2 := Rep.val_inv hyy.fv_inv
              have ha' : args = #[x, y] := by rw [← Array.toList_inj, hl]
              subst ha'
              refine ⟨v, ?_, .fv _ _ (.val _)⟩
              simp [execOp, resolve, invoke, builtin, Builtin.min_, e1, e2, min2V_sound hv]
      · simp at hq
    case max =>
      split at hq
      · rename_i a' b' ha
        simp only [Option.map_eq_some_iff] at hq
        obtain ⟨v, hv, rfl⟩ := hq
        cases hl : args.toList with
        | nil => simp [hl] at ha
        | cons x l =>
          cases l with
          | nil => simp [hl] at ha
          | cons y l =>
            cases l with
            | cons z l => simp [hl] at ha
            | nil =>
              simp only [hl, List.map_cons, List.map_nil, List.cons.injEq, and_true] at ha
              have hxx := ev x
              have hyy := ev y
              rw [ha.1] at hxx
              rw [ha.2] at hyy
              have e1 := Rep.val_inv hxx.fv_inv
              have e2 := Rep.val_inv hyy.fv_inv
              have ha' : args = #[x, y] := by rw [← Array.toList_inj, hl]
              subst ha'
              refine ⟨v, ?_, .fv _ _ (.val _)⟩
              simp [execOp, resolve, invoke, builtin, Builtin.max_, e1, e2, max2V_sound hv]
      · simp at hq
end
end Abs

