/- A part of the proof: Abs7, Abs8, Abs9, Abs10. -/
import Derived.Test.YtncbkgbdpaibmaaAbs6
set_option linter.unusedSimpArgs false
set_option linter.unusedVariables false
namespace Abs
open Go
open Go.RowKit (Below)
def frz1 (h : AH) : LV → Option (FV × AH)
  | .fv x => some (x, h)
  | .gl o g => (h.lst o g).map fun l => (if l.2.2.2.1 then FV.nil else .list false l.2.2.2.2, h.set o (.list l.1 l.2.1 true l.2.2.2.1 l.2.2.2.2))
  | _ => none
def frzS (h : AH) : List LV → Option (List FV × AH)
  | [] => some ([], h)
  | c :: cs => (frz1 h c).bind fun r => (frzS r.2 cs).map fun q => (r.1 :: q.1, q.2)
def frz (h : AH) : LV → Option (FV × AH)
  | .agg cs => (frzS h cs).map fun q => (.agg q.1, q.2)
  | x => frz1 h x
def frzAll (h : AH) : List LV → Option (List FV × AH)
  | [] => some ([], h)
  | c :: cs => (frz h c).bind fun r => (frzAll r.2 cs).map fun q => (r.1 :: q.1, q.2)
section
variable {P : Program} {cx : Cx} {w : World} {D : Nat → Prop} {h : AH} {an : Nat → Value}
theorem OwnList.keep {w' : World} {D' : Nat → Prop} {B : Nat} {v : Value} {e es : Nat} {nil : Bool} {xs : List FV} (h : OwnList w D B v e es nil xs)
    (hD : ∀ b, D b → D' b) (hb : ∀ b, D b → w'.heap[b]? = w.heap[b]?) (hk : ∀ b, blk v = some b → w'.heap[b]? = w.heap[b]?) : OwnList w' D' B v e es nil xs := by
  obtain ⟨vs, hown, hnil, hes, hlen, hrep⟩ := h
  refine ⟨vs, ⟨hown.1, ?_⟩, hnil, hes, hlen, fun j y u hy hu => (hrep j y u hy hu).keep hD hb⟩
  rcases hown.2 with hn | ⟨g, cap, cur, rfl, hb', hg, r⟩
  · exact .inl hn
  · exact .inr ⟨g, cap, cur, rfl, hb', by rw [hk g rfl]; exact hg, r⟩
theorem ObjRep.keep {w' : World} {D' : Nat → Prop} {B : Nat} {gen gen' : Nat → Nat} {an' : Nat → Value} {a : Value} {ob : AObj} (ho : ObjRep P w D B gen an a ob)
    (hD : ∀ b, D b → D' b) (hb : ∀ b, D b → w'.heap[b]? = w.heap[b]?) (hk : ∀ b, blk a = some b → w'.heap[b]? = w.heap[b]? ∧ (D' b → D b))
    (hg : ∀ o, gen o ≤ gen' o) (ha : ∀ o, gen o = gen' o → an' o = an o) : ObjRep P w' D' B gen' an' a ob := by
  cases ob with
  | box cells =>
    obtain ⟨b, c, T, rfl, hB, hnD, hw, hs, hr⟩ := ho
    have := hk b rfl
    exact ⟨b, c, T, rfl, hB, fun h => hnD (this.2 h), by rw [this.1]; exact hw, hs, fun j y v hy hv => ⟨(hr j y v hy hv).1.keep hD hb hg ha, (hr j y v hy hv).2⟩⟩
  | list e es fz nil xs =>
    obtain ⟨hown, hf⟩ := ho
    exact ⟨hown.keep hD hb fun b hb' => (hk b hb').1, fun b hb' => ⟨fun h => hD b ((hf b hb').1 h), fun h h' => (hf b hb').2 h ((hk b hb').2 h')⟩⟩
  | map fz es =>
    obtain ⟨b, arr, rfl, h1, h2, hw, hst, hs, hr⟩ := ho
    have := hk b rfl
    exact ⟨b, arr, rfl, fun e => hD b (h1 e), fun e h' => h2 e (this.2 h'), by rw [this.1]; exact hw, hst, hs, fun j e x he hx => ⟨(hr j e x he hx).1.keep hD hb, (hr j e x he hx).2.keep hD hb⟩⟩
  | iter left cur =>
    obtain ⟨b, m, arr, last, seen, rfl, hnD, hw, hm⟩ := ho
    have := hk b rfl
    refine ⟨b, m, arr, last, seen, rfl, fun h => hnD (this.2 h), by rw [this.1]; exact hw, ?_⟩
    cases m with
    | none => exact hm
    | some m =>
      obtain ⟨h1, h2, h3, h4, ⟨js, h5, h6, h7, h8⟩, h9⟩ := hm
      refine ⟨hD m h1, (hb m h1).trans h2, h3, h4, ⟨js, h5, h6, h7, fun i j e x q1 q2 q3 => ⟨(h8 i j e x q1 q2 q3).1.keep hD hb, (h8 i j e x q1 q2 q3).2.keep hD hb⟩⟩, fun x hx => ?_⟩
      obtain ⟨e, st, q1, q2, q3, q4, q5⟩ := h9 x hx
      exact ⟨e, st, q1, q2, q3, q4.keep hD hb, q5.keep hD hb⟩
theorem Heap.ownB (H : Heap P cx h w D an) {o b : Nat} {ob : AObj} (ho : h.obj o = some ob) (hb : blk (an o) = some b) : cx.J.B ≤ b := by
  rcases H.ow o ob b ho hb with h1 | h1
  · have := cx.jB; omega
  · exact cx.owB b h1
theorem Heap.blk_lt (H : Heap P cx h w D an) {o b : Nat} {ob : AObj} (ho : h.obj o = some ob) (hb : blk (an o) = some b) : b < w.heap.size := by
  have := H.obj o ob ho
  cases ob with
  | box cells =>
    obtain ⟨b', c, T, ha, _, _, hw, _⟩ := this
    rw [ha] at hb; simp [blk] at hb; subst hb
    exact (Array.getElem?_eq_some_iff.1 hw).1
  | list e es fz nil xs =>
    obtain ⟨⟨vs, hown, _⟩, _⟩ := this
    rcases hown.2 with ⟨hn, _⟩ | ⟨g, cap, cur, ha, _, hg, _⟩
    · rw [hn] at hb; simp [blk] at hb
    · rw [ha] at hb; simp [blk] at hb; subst hb
      exact (Array.getElem?_eq_some_iff.1 hg).1
  | map fz es =>
    obtain ⟨b', arr, ha, _, _, hw, _⟩ := this
    rw [ha] at hb; simp [blk] at hb; subst hb
    exact (Array.getElem?_eq_some_iff.1 hw).1
  | iter left cur =>
    obtain ⟨b', m, arr, last, seen, ha, _, hw, _⟩ := this
    rw [ha] at hb; simp [blk] at hb; subst hb
    exact (Array.getElem?_eq_some_iff.1 hw).1
theorem Heap.step (H : Heap P cx h w D an) {w' : World} {D' : Nat → Prop} {h' : AH} {an' : Nat → Value} (d : Nat)
    (hbelow : BelowM cx.M cx.wi.heap.size w w') (hDD : ∀ b, D b → D' b) (hD : ∀ b, D b → w'.heap[b]? = w.heap[b]?) (hlt : ∀ b, D' b → b < w'.heap.size)
    (hnew : ∀ b, D' b → D b ∨ w.heap.size ≤ b ∨ ∃ ob, h.obj d = some ob ∧ blk (an d) = some b) (hg : ∀ o, h.gen o ≤ h'.gen o) (ha : ∀ o, h.gen o = h'.gen o → an' o = an o)
    (hobj : ∀ o, o ≠ d → h'.obj o = h.obj o) (han : ∀ o, o ≠ d → an' o = an o)
    (hother : ∀ o b ob, o ≠ d → h.obj o = some ob → blk (an o) = some b → w'.heap[b]? = w.heap[b]? ∧ (D' b → D b))
    (hd : ∀ ob, h'.obj d = some ob → ObjRep P w' D' 0 h'.gen an' (an' d) ob) (how : ∀ ob b, h'.obj d = some ob → blk (an' d) = some b → cx.wi.heap.size ≤ b ∨ cx.Ow b)
    (hsep : ∀ o b ob ob', o ≠ d → h.obj o = some ob → h'.obj d = some ob' → blk (an o) = some b → blk (an' d) ≠ some b)
    (hy : h'.y = h.y) (hrest : ∀ b, b < w.heap.size → (∀ ob, h.obj d = some ob → blk (an d) ≠ some b) → w'.heap[b]? = w.heap[b]?)
    (hys : ∀ ob b, h'.obj d = some ob → blk (an' d) = some b → ¬ cx.Yb b) :
    Heap P cx h' w' D' an' where
  init b hb := hDD b (H.init b hb)
  lt := hlt
  new b hb := by
    rcases hnew b hb with h1 | h1 | ⟨ob, h1, h2⟩
    · exact H.new b h1
    · have := H.below.size; exact .inr (.inl (by omega))
    · rcases H.ow d ob b h1 h2 with h3 | h3
      · exact .inr (.inl h3)
      · exact .inr (.inr (cx.sub b h3))
  below := H.below.trans hbelow
  obj o ob ho := by
    by_cases e : o = d
    · subst e; exact hd ob ho
    · rw [hobj o e] at ho
      rw [han o e]
      exact (H.obj o ob ho).keep hDD hD (fun b hb => hother o b ob e ho hb) hg ha
  ow o ob b ho hb := by
    by_cases e : o = d
    · subst e; exact how ob b ho hb
    · rw [hobj o e] at ho
      rw [han o e] at hb
      exact H.ow o ob b ho hb
  sep o o' b ob ob' ho ho' hb hb' := by
    by_cases e : o = d
    · by_cases e' : o' = d
      · rw [e, e']
      · subst e
        rw [hobj o' e'] at ho'
        rw [han o' e'] at hb'
        exact absurd hb (hsep o' b ob' ob e' ho' ho hb')
    · rw [hobj o e] at ho
      rw [han o e] at hb
      by_cases e' : o' = d
      · subst e'
        exact absurd hb' (hsep o b ob ob' e ho ho' hb)
      · rw [hobj o' e'] at ho'
        rw [han o' e'] at hb'
        exact H.sep o o' b ob ob' ho ho' hb hb'
  gmono o := Nat.le_trans (H.gmono o) (hg o)
  anc o ho := by
    have h1 := hg o
    have h3 := H.gmono o
    have h2 : h.gen o = cx.gen0 o := by omega
    rw [ha o (by omega)]
    exact H.anc o h2
  yJ := by
    rw [hy]
    refine cx.J.stable H.yJ hbelow.os hbelow.tape hbelow.output hbelow.size (fun b hb hc => ?_) hDD (fun b hb => ?_) hlt
    · by_cases hD0 : D b
      · exact hD b hD0
      · refine hrest b hb fun ob ho hbk => ?_
        rcases hc with h1 | h1 | h1
        · have := H.ownB ho hbk; omega
        · exact H.ysep d ob b ho hbk h1
        · exact hD0 h1
    · rcases hnew b hb with h1 | h1 | ⟨ob, h1, h2⟩
      · exact .inl h1
      · right
        have h2 := H.below.size
        have h3 := cx.jB
        exact ⟨by omega, fun hY => by have := H.ylt b hY; omega⟩
      · exact .inr ⟨H.ownB h1 h2, H.ysep d ob b h1 h2⟩
  ylt b hb := Nat.lt_of_lt_of_le (H.ylt b hb) hbelow.size
  ysep o ob b ho hb := by
    by_cases e : o = d
    · subst e; exact hys ob b ho hb
    · rw [hobj o e] at ho
      rw [han o e] at hb
      exact H.ysep o ob b ho hb
theorem Heap.alloc (H : Heap P cx h w D an) (d : Nat) (ob : AObj) (w' : World) (a : Value) (hw : Below w.heap.size w w') (hsz : w.heap.size < w'.heap.size) (ha : blk a = some w.heap.size ∨ blk a = none)
    (hd : ObjRep P w' D 0 (upd h.gen d (h.gen d + 1)) (upd an d a) a ob) : Heap P cx (h.new d ob) w' D (upd an d a) := by
  have hle : cx.wi.heap.size ≤ w.heap.size := H.below.size
  have hkeep : ∀ b, b < w.heap.size → w'.heap[b]? = w.heap[b]? := hw.block
  refine H.step d (.of hw hle) (fun _ h => h) (fun b hb => hkeep b (H.lt b hb)) (fun b hb => Nat.lt_trans (H.lt b hb) hsz) (fun _ h => .inl h) ?_ ?_ ?_ ?_ ?_ ?_ ?_ ?_ rfl (fun b hb _ => hkeep b hb) ?_
  · intro o; simp only [AH.new, upd]; split
    · subst_vars; omega
    · omega
  · intro o ho; simp only [AH.new, upd] at ho ⊢; split
    · rename_i e; rw [if_pos e] at ho; subst e; omega
    · rfl
  · intro o ho; simp [AH.new, upd, ho]
  · intro o ho; simp [upd, ho]
  · intro o b ob' ho hob hb; exact ⟨hkeep b (H.blk_lt hob hb), fun h => h⟩
  · intro ob' hob
    simp only [AH.new, upd, if_true, Option.some.injEq] at hob
    subst hob
    simpa [AH.new, upd] using hd
  · intro ob' b _ hb
    simp only [upd, if_true] at hb
    rcases ha with ha | ha <;> rw [ha] at hb <;> simp at hb
    exact .inl (by omega)
  · intro o b ob' ob'' ho hob _ hb
    have := H.blk_lt hob hb
    simp only [upd, if_true]
    rcases ha with ha | ha <;> rw [ha] <;> simp
    omega
  · intro ob' b _ hb hY
    have := H.ylt b hY
    simp only [upd, if_true] at hb
    rcases ha with ha | ha <;> rw [ha] at hb <;> simp at hb
    omega
theorem frz1_sound (H : Heap P cx h w D an) {x : LV} {r : FV} {h' : AH} {v : Value} (hx : LVRep P w D h.gen an v x) (hq : frz1 h x = some (r, h')) :
    ∃ D', Heap P cx h' w D' an ∧ h'.gen = h.gen ∧ (∀ b, D b → D' b) ∧ Rep w D' v r := by
  unfold frz1 at hq
  split at hq
  · simp at hq; obtain ⟨rfl, rfl⟩ := hq
    exact ⟨D, H, rfl, fun _ h => h, hx.fv_inv⟩
  · rename_i o g
    simp only [Option.map_eq_some_iff] at hq
    obtain ⟨⟨e, es, fz, nil, xs⟩, hb, hq⟩ := hq
    simp only [Prod.mk.injEq] at hq
    obtain ⟨rfl, rfl⟩ := hq
    obtain ⟨rfl, ho⟩ := AH.lst_spec hb
    have hO := H.obj o _ ho
    obtain ⟨hown, hf⟩ := hO
    cases hx with
    | gl _ _ _ hp hg he =>
      have hv := he rfl
      subst hv
      let D' : Nat → Prop := fun b => D b ∨ blk (an o) = some b
      have hDD : ∀ b, D b → D' b := fun b h => .inl h
      have hge : ∀ b, blk (an o) = some b → cx.wi.heap.size ≤ b ∨ cx.Ow b := fun b hb => H.ow o _ b ho hb
      refine ⟨D', ?_, rfl, hDD, (hown.keep hDD (fun _ _ => rfl) fun _ _ => rfl).rep fun b hb => .inr hb⟩
      refine H.step o (.refl _ _ _) hDD (fun _ _ => rfl) ?_ ?_ (fun _ => Nat.le_refl _) (fun _ _ => rfl) ?_ (fun _ _ => rfl) ?_ ?_ ?_ ?_ rfl (fun _ _ _ => rfl) (fun ob b _ hb => H.ysep o _ b ho hb)
      · rintro b (hb | hb)
        · exact H.lt b hb
        · exact H.blk_lt ho hb
      · rintro b (hb | hb)
        · exact .inl hb
        · exact .inr (.inr ⟨_, ho, hb⟩)
      · intro o' ho'; simp [AH.set, upd, ho']
      · intro o' b ob hne hob hb
        refine ⟨rfl, ?_⟩
        rintro (h1 | h1)
        · exact h1
        · exact absurd (H.sep o' o b ob _ hob ho hb h1) hne
      · intro ob hob
        simp only [AH.set, upd, if_true, Option.some.injEq] at hob
        subst hob
        exact ⟨hown.keep hDD (fun _ _ => rfl) fun _ _ => rfl, fun b hb => ⟨fun _ => .inr hb, fun h => by simp at h⟩⟩
      · intro ob b _ hb; exact hge b hb
      · intro o' b ob ob' hne hob _ hb hb'
        exact hne (H.sep o' o b ob _ hob ho hb hb')
  · simp at hq
theorem frzS_sound {cs : List LV} : ∀ {h : AH} {D : Nat → Prop} (H : Heap P cx h w D an) {rs : List FV} {h' : AH} {vs : List Value}, vs.length = cs.length → (∀ (j : Nat) (y : LV) (v : Value), cs[j]? = some y → vs[j]? = some v → LVRep P w D h.gen an v y) →
    frzS h cs = some (rs, h') → ∃ D', Heap P cx h' w D' an ∧ h'.gen = h.gen ∧ (∀ b, D b → D' b) ∧ rs.length = cs.length ∧ ∀ (j : Nat) (y : FV) (v : Value), rs[j]? = some y → vs[j]? = some v → Rep w D' v y := by
  induction cs with
  | nil => intro h D H rs h' vs hl hr hq; simp [frzS] at hq; obtain ⟨rfl, rfl⟩ := hq; exact ⟨D, H, rfl, fun _ h => h, rfl, by simp⟩
  | cons c cs ih =>
    intro h D H rs h' vs hl hr hq
    cases vs with
    | nil => simp at hl
    | cons v vs =>
      simp only [frzS, Option.bind_eq_some_iff, Option.map_eq_some_iff] at hq
      obtain ⟨⟨r, h1⟩, hr1, ⟨rs', h2⟩, hr2, hq⟩ := hq
      simp only [Prod.mk.injEq] at hq
      obtain ⟨rfl, rfl⟩ := hq
      obtain ⟨D1, H1, hg1, hd1, hrep1⟩ := frz1_sound H (hr 0 c v rfl rfl) hr1
      obtain ⟨D2, H2, hg2, hd2, hlen, hrep2⟩ := ih H1 (vs := vs) (by simpa using hl) (fun j y u hy hu => by
        rw [hg1]
        exact (hr (j + 1) y u (by simpa using hy) (by simpa using hu)).keep hd1 (fun _ _ => rfl) (fun _ => Nat.le_refl _) fun _ _ => rfl) hr2
      refine ⟨D2, H2, hg2.trans hg1, fun b hb => hd2 b (hd1 b hb), by simp [hlen], ?_⟩
      intro j y u hy hu
      cases j with
      | zero => simp at hy hu; subst hy; subst hu; exact hrep1.keep hd2 fun _ _ => rfl
      | succ j => exact hrep2 j y u (by simpa using hy) (by simpa using hu)
theorem frz_sound (H : Heap P cx h w D an) {x : LV} {r : FV} {h' : AH} {v : Value} (hx : LVRep P w D h.gen an v x) (hq : frz h x = some (r, h')) :
    ∃ D', Heap P cx h' w D' an ∧ h'.gen = h.gen ∧ (∀ b, D b → D' b) ∧ Rep w D' v r := by
  unfold frz at hq
  split at hq
  · rename_i cs
    simp only [Option.map_eq_some_iff] at hq
    obtain ⟨⟨rs, h1⟩, hr, hq⟩ := hq
    simp only [Prod.mk.injEq] at hq
    obtain ⟨rfl, rfl⟩ := hq
    cases hx with
    | agg _ vs hs h1' hrep =>
      obtain ⟨D', H', hg, hd, hlen, hrep'⟩ := frzS_sound H (vs := vs.toList) (by simpa using hs) (fun j y v hy hv => hrep j y v hy (by simpa using hv)) hr
      refine ⟨D', H', hg, hd, .agg vs rs (by omega) ?_ fun j y v hy hv => hrep' j y v hy (by simpa using hv)⟩
      rw [List.all_eq_true]
      intro y hy
      obtain ⟨j, hj, rfl⟩ := List.mem_iff_getElem.1 hy
      have hjv : j < vs.size := by omega
      exact (hrep' j rs[j] vs[j] (by simp) (by simp)).one_of (h1' _ (by simp))
  · exact frz1_sound H hx hq
theorem frzAll_sound {cs : List LV} : ∀ {h : AH} {D : Nat → Prop} (H : Heap P cx h w D an) {rs : List FV} {h' : AH} {vs : List Value}, vs.length = cs.length → (∀ (j : Nat) (y : LV) (v : Value), cs[j]? = some y → vs[j]? = some v → LVRep P w D h.gen an v y) →
    frzAll h cs = some (rs, h') → ∃ D', Heap P cx h' w D' an ∧ h'.gen = h.gen ∧ (∀ b, D b → D' b) ∧ rs.length = cs.length ∧ ∀ (j : Nat) (y : FV) (v : Value), rs[j]? = some y → vs[j]? = some v → Rep w D' v y := by
  induction cs with
  | nil => intro h D H rs h' vs hl hr hq; simp [frzAll] at hq; obtain ⟨rfl, rfl⟩ := hq; exact ⟨D, H, rfl, fun _ h => h, rfl, by simp⟩
  | cons c cs ih =>
    intro h D H rs h' vs hl hr hq
    cases vs with
    | nil => simp at hl
    | cons v vs =>
      simp only [frzAll, Option.bind_eq_some_iff, Option.map_eq_some_iff] at hq
      obtain ⟨⟨r, h1⟩, hr1, ⟨rs', h2⟩, hr2, hq⟩ := hq
      simp only [Prod.mk.injEq] at hq
      obtain ⟨rfl, rfl⟩ := hq
      obtain ⟨D1, H1, hg1, hd1, hrep1⟩ := frz_sound H (hr 0 c v rfl rfl) hr1
      obtain ⟨D2, H2, hg2, hd2, hlen, hrep2⟩ := ih H1 (vs := vs) (by simpa using hl) (fun j y u hy hu => by
        rw [hg1]
        exact (hr (j + 1) y u (by simpa using hy) (by simpa using hu)).keep hd1 (fun _ _ => rfl) (fun _ => Nat.le_refl _) fun _ _ => rfl) hr2
      refine ⟨D2, H2, hg2.trans hg1, fun b hb => hd2 b (hd1 b hb), by simp [hlen], ?_⟩
      intro j y u hy hu
      cases j with
      | zero => simp at hy hu; subst hy; subst hu; exact hrep1.keep hd2 fun _ _ => rfl
      | succ j => exact hrep2 j y u (by simpa using hy) (by simpa using hu)
end
end Abs

namespace Abs
open Go
open Go.RowKit (Below)
def bytesOf (P : Program) (t : Nat) : Nat := P.bytesOf t
def FV.ofCells (agg : Bool) (cs : List FV) : FV := if agg then .agg cs else cs.headD .nil
def FV.withCells : FV → List FV → FV
  | .agg _, cs => .agg cs
  | _, cs => cs.headD .nil
def elemsOf (h : AH) : LV → Option (List FV)
  | .fv (.list _ ys) => some ys
  | .fv (.val (.slice none 0 0)) => some []
  | .gl o g => (h.lst o g).map (·.2.2.2.2)
  | .sub o g es i j => (h.lst o g).bind fun l => if l.2.1 = es then some ((l.2.2.2.2.take j).drop i) else none
  | _ => none
def appZ (P : Program) (d : Option Nat) (t t' : Nat) (a x : LV) (h : AH) (K : LV → AH → Prop) : Prop :=
  ∃ kn e es agg n zs d', P.underlying t' = some (.int kn) ∧ a = .fv .nil ∧ intOf x = some n ∧ 0 < n ∧ idx P t = some (none, e, agg, es) ∧ d = some d' ∧ 0 < es ∧ n * P.bytesOf e ≤ 281474976710656 ∧ n.toNat ≤ maxLen ∧ zeros P e = some zs ∧ (agg = true ∨ es = 1) ∧
    K (.gl d' (h.gen d' + 1)) (h.new d' (.list e es false false (List.replicate n.toNat (FV.ofCells agg zs))))
def effV (P : Program) (d : Option Nat) (op : Op) (ty : Nat) (ev : Operand → LV) (h : AH) (K : LV → AH → Prop) : Prop :=
  match op with
  | .assign (.const (.slice none 0 0)) =>
    (match d, idx P ty with
    | some d, some (none, e, _, es) => 0 < es ∧ K (.gl d (h.gen d + 1)) (h.new d (.list e es false true []))
    | _, _ => K (.fv .nil) h)
  | .assign x => K (ev x) h
  | .box t x =>
    (match d, lay P t with
    | some d, some (_, n) => (ev x).cells.length = n ∧ (ev x).cells.all LV.one = true ∧ K (.ptr d (h.gen d + 1) 0) (h.new d (.box (ev x).cells))
    | _, _ => False)
  | .alloc t =>
    (match d, zeros P t with
    | some d, some zs => K (.ptr d (h.gen d + 1) 0) (h.new d (.box (zs.map .fv)))
    | _, _ => False)
  | .buildSlice t n parts =>
    (match d, idx P t with
    | some d, some (none, e, _, es) => 0 < es ∧ n * es ≤ 16777216 ∧ (zeros P e).isSome = true ∧ parts.toList.map (·.1) = List.range n ∧
      ∃ xs h', frzAll h (parts.toList.map fun p => ev p.2) = some (xs, h') ∧ (∀ x ∈ xs, x.cells.length = es ∧ x.cells.all FV.one = true) ∧
        K (.gl d (h'.gen d + 1)) (h'.new d (.list e es false false xs))
    | _, _ => False)
  | .makeSlice t l c =>
    (match d, idx P t, intOf (ev l), intOf (ev c) with
    | some d, some (none, e, agg, es), some l, some c => 0 < es ∧ 0 ≤ l ∧ l = c ∧ c ≤ 9223372036854775807 ∧ P.bytesOf e * c ≤ 281474976710656 ∧
      ∃ zs, zeros P e = some zs ∧ (agg = true ∨ es = 1) ∧ K (.gl d (h.gen d + 1)) (h.new d (.list e es false false (List.replicate l.toNat (FV.ofCells agg zs))))
    | _, _, _, _ => False)
  | .store t a x =>
    (match lay P t, ev a with
    | some (_, n), .ptr o g off => ∃ cs, h.box o g = some cs ∧ (ev x).cells.length = n ∧ off + n ≤ cs.length ∧ (ev x).cells.all LV.one = true ∧
        K .undef (h.set o (.box (splice cs off (ev x).cells)))
    | some (_, n), .elem o g es i off => ∃ fs h', frzS h (ev x).cells = some (fs, h') ∧ fs.length = n ∧ fs.all FV.one = true ∧
        ∃ e nil xs y, h'.lst o g = some (e, es, false, nil, xs) ∧ xs[i]? = some y ∧ off + n ≤ es ∧
          K .undef (h'.set o (.list e es false nil (xs.set i (y.withCells (splice y.cells off fs)))))
    | _, _ => False)
  | .call { callee := .builtin .append, args := args, argTypes := tys } =>
    (match args.toList, tys.toList with
    | [s, x], [t, t'] => if t ≠ t' then appZ P d t t' (ev s) (ev x) h K else
      (match ev s, ev x with
      | .gl o g, .fv (.val (.slice none 0 0)) => ∃ e es nil xs, h.lst o g = some (e, es, false, nil, xs) ∧ (∃ agg, idx P t = some (none, e, agg, es)) ∧ K (.gl o g) h
      | .gl o g, y => ∃ e es nil xs ys, h.lst o g = some (e, es, false, nil, xs) ∧ (∃ agg, idx P t = some (none, e, agg, es)) ∧ elemsOf h y = some ys ∧ (∀ x ∈ ys, x.cells.length = es) ∧
          (zeros P e).isSome = true ∧ (xs.length + ys.length) * P.bytesOf e ≤ 140737488355328 ∧ xs.length + ys.length ≤ maxLen ∧
          K (.gl o (g + 1)) (h.renew o (g + 1) (.list e es false (nil && ys.isEmpty) (xs ++ ys)))
      | .sub o g es i j, y => ∃ e xs ys, i = 0 ∧ h.lst o g = some (e, es, false, false, xs) ∧ j ≤ xs.length ∧ (∃ agg, idx P t = some (none, e, agg, es)) ∧ 
          elemsOf (h.renew o (g + 1) (.list e es false false (xs.take j))) y = some ys ∧ (∀ x ∈ ys, x.cells.length = es) ∧
          (zeros P e).isSome = true ∧ (j + ys.length) * P.bytesOf e ≤ 140737488355328 ∧ j + ys.length ≤ maxLen ∧
          K (.gl o (g + 2)) (h.renew o (g + 2) (.list e es false false (xs.take j ++ ys)))
      | .fv (.val (.slice none 0 0)), y => ∃ e es d' ys, (∃ agg, idx P t = some (none, e, agg, es)) ∧ d = some d' ∧ 0 < es ∧ elemsOf h y = some ys ∧ (∀ x ∈ ys, x.cells.length = es) ∧
          (zeros P e).isSome = true ∧ ys.length * P.bytesOf e ≤ 140737488355328 ∧ ys.length ≤ maxLen ∧
          K (.gl d' (h.gen d' + 1)) (h.new d' (.list e es false ys.isEmpty ys))
      | .fv (.list true xs), y => ∃ e es d' ys, (∃ agg, idx P t = some (none, e, agg, es)) ∧ d = some d' ∧ 0 < es ∧ elemsOf h y = some ys ∧ ys ≠ [] ∧ (∀ x ∈ xs, x.cells.length = es) ∧ (∀ x ∈ ys, x.cells.length = es) ∧
          (zeros P e).isSome = true ∧ (xs.length + ys.length) * P.bytesOf e ≤ 140737488355328 ∧ xs.length + ys.length ≤ maxLen ∧
          K (.gl d' (h.gen d' + 1)) (h.new d' (.list e es false false (xs ++ ys)))
      | _, _ => False)
    | _, _ => False)
  | .call { callee := .builtin .copy, args := args, argTypes := tys } =>
    (match args.toList, tys.toList with
    | [s, x], t :: _ =>
      (match ev s with
      | .gl o g => ∃ e es nil xs ys, h.lst o g = some (e, es, false, nil, xs) ∧ (∃ agg, idx P t = some (none, e, agg, es)) ∧ elemsOf h (ev x) = some ys ∧ (∀ x ∈ ys, x.cells.length = es) ∧ ev x ≠ .gl o g ∧
          K (.fv (.val (.int .i64 (min ys.length xs.length : Nat)))) (h.set o (.list e es false nil (ys.take xs.length ++ xs.drop ys.length)))
      | _ => False)
    | _, _ => False)
  | _ => False
section
variable {P : Program} {cx : Cx} {w : World} {D : Nat → Prop} {h : AH} {an : Nat → Value}
theorem frz_ext {h' : AH} {D' : Nat → Prop} (hg : h'.gen = h.gen) (hd : ∀ b, D b → D' b) : Ext w D h.gen an w D' h'.gen an :=
  ⟨hd, fun _ _ => rfl, fun o => by rw [hg]; exact Nat.le_refl _, fun _ _ => rfl⟩
theorem new_ext (d : Nat) (ob : AObj) (a : Value) {w' : World} (hlt : ∀ b, D b → b < w.heap.size) (hw : Below w.heap.size w w') : Ext w D h.gen an w' D (h.new d ob).gen (upd an d a) := by
  refine ⟨fun _ h => h, fun b hb => hw.block b (hlt b hb), fun o => ?_, fun o ho => ?_⟩
  · simp only [AH.new, upd]; split
    · rename_i e; rw [e]; omega
    · exact Nat.le_refl _
  · simp only [AH.new, upd] at ho ⊢; split
    · rename_i e; rw [if_pos e] at ho; rw [e] at ho; omega
    · rfl
def Left (P : Program) (cx : Cx) (h : AH) (w : World) (D : Nat → Prop) (an : Nat → Value) (run : Result Next) (K : LV → AH → Prop) : Prop :=
  ∃ lv h' v w' D' an', K lv h' ∧ (run = .ok (.value v) w' ∨ (run = .ok .skip w' ∧ v = Go.undef)) ∧ Heap P cx h' w' D' an' ∧ Ext w D h.gen an w' D' h'.gen an' ∧ LVRep P w' D' h'.gen an' v lv
theorem below_alloc (w : World) (o : Obj) : Below w.heap.size w (w.alloc o) := (Below.refl _ _).alloc (Nat.le_refl _) o
theorem box_new (H : Heap P cx h w D an) (d : Nat) (cells : List LV) (cs : Array Value) (T : Nat) (hs : cs.size = cells.length)
    (hr : ∀ (j : Nat) (y : LV) (u : Value), cells[j]? = some y → cs[j]? = some u → LVRep P w D h.gen an u y ∧ u.oneCell' = true) :
    Heap P cx (h.new d (.box cells)) (w.alloc (.cells cs T)) D (upd an d (.pointer (some ⟨w.heap.size, 0, none⟩))) ∧
    Ext w D h.gen an (w.alloc (.cells cs T)) D (h.new d (.box cells)).gen (upd an d (.pointer (some ⟨w.heap.size, 0, none⟩))) ∧
    LVRep P (w.alloc (.cells cs T)) D (h.new d (.box cells)).gen (upd an d (.pointer (some ⟨w.heap.size, 0, none⟩))) (.pointer (some ⟨w.heap.size, 0, none⟩)) (.ptr d (h.gen d + 1) 0) := by
  have hb := below_alloc w (.cells cs T)
  have he := new_ext (h := h) (an := an) d (.box cells) (.pointer (some ⟨w.heap.size, 0, none⟩)) H.lt hb
  refine ⟨H.alloc d _ _ _ hb (by simp) (.inl rfl) ?_, he, ?_⟩
  · refine ⟨w.heap.size, cs, T, rfl, Nat.zero_le _, fun hD => by have := H.lt _ hD; omega, heap_alloc_new w _, hs, fun j y v hy hv => ?_⟩
    exact ⟨(hr j y v hy hv).1.ext he, (hr j y v hy hv).2⟩
  · exact .ptr _ _ _ _ ⟨_, _, rfl⟩ (by simp [AH.new, upd]) fun _ => ⟨w.heap.size, by simp [upd], rfl⟩
theorem list_new (H : Heap P cx h w D an) (d : Nat) {w' : World} {v : Value} {e es : Nat} {nil : Bool} {xs : List FV} (hb : Below w.heap.size w w') (hsz : w.heap.size < w'.heap.size)
    (hv : blk v = some w.heap.size ∨ blk v = none) (ho : OwnList w' D 0 v e es nil xs) :
    Heap P cx (h.new d (.list e es false nil xs)) w' D (upd an d v) ∧ Ext w D h.gen an w' D (h.new d (.list e es false nil xs)).gen (upd an d v) ∧
    LVRep P w' D (h.new d (.list e es false nil xs)).gen (upd an d v) v (.gl d (h.gen d + 1)) := by
  refine ⟨H.alloc d _ _ _ hb hsz hv ⟨ho, fun b hb' => ⟨by simp, fun _ hD => ?_⟩⟩, new_ext d _ _ H.lt hb, .gl _ _ _ ?_ (by simp [AH.new, upd]) fun _ => by simp [upd]⟩
  · rcases hv with hv | hv
    · rw [hv] at hb'; simp at hb'; subst hb'; have := H.lt _ hD; omega
    · rw [hv] at hb'; simp at hb'
  · obtain ⟨vs, hown, _⟩ := ho
    rcases hown.2 with ⟨hn, _⟩ | ⟨g, cap, cur, ha, _⟩
    · rw [hn]; rfl
    · rw [ha]; rfl
end
end Abs

namespace Abs
open Go
open Go.RowKit (Below)
section
variable {P : Program} {cx : Cx} {w : World} {D : Nat → Prop} {h : AH} {an : Nat → Value}
theorem Left.quiet {run : Result Next} {K : LV → AH → Prop} (H : Heap P cx h w D an) {v : Value} {lv : LV} (hr : run = .ok (.value v) w) (hv : LVRep P w D h.gen an v lv) (hK : K lv h) :
    Left P cx h w D an run K := ⟨lv, h, v, w, D, an, hK, .inl hr, H, .refl _ _ _ _, hv⟩
theorem nil_new (H : Heap P cx h w D an) (d : Nat) (e es : Nat) (hes : 0 < es) :
    Heap P cx (h.new d (.list e es false true [])) w D (upd an d (.slice none 0 0)) ∧ Ext w D h.gen an w D (h.new d (.list e es false true [])).gen (upd an d (.slice none 0 0)) ∧
    LVRep P w D (h.new d (.list e es false true [])).gen (upd an d (.slice none 0 0)) (.slice none 0 0) (.gl d (h.gen d + 1)) := by
  have he := new_ext (h := h) (an := an) d (.list e es false true []) (.slice none 0 0) H.lt (Below.refl w.heap.size w)
  refine ⟨?_, he, .gl _ _ _ rfl (by simp [AH.new, upd]) fun _ => by simp [upd]⟩
  refine H.step d (.refl _ _ _) he.dd he.keep H.lt (fun _ h => .inl h) he.mono he.anc ?_ ?_ ?_ ?_ ?_ ?_ rfl (fun _ _ _ => rfl) ?_
  · intro o ho; simp [AH.new, upd, ho]
  · intro o ho; simp [upd, ho]
  · intro o b ob _ _ _; exact ⟨rfl, fun h => h⟩
  · intro ob hob
    simp only [AH.new, upd, if_true, Option.some.injEq] at hob
    subst hob
    refine ⟨⟨[], ⟨by simp, .inl ⟨by simp [upd], rfl⟩⟩, by simp [upd], hes, by simp, by simp⟩, fun b hb => by simp [upd, blk] at hb⟩
  · intro ob b _ hb
    simp [upd, blk] at hb
  · intro o b ob ob' _ _ _ _
    simp [upd, blk]
  · intro ob b _ hb
    simp [upd, blk] at hb
theorem assign_sound (H : Heap P cx h w D an) {ρ : Nat → LV} {a : Act} (hs : ∀ i, LVRep P w D h.gen an (a.tmps.getD i Go.undef) (ρ i)) (o : Oper) (x : Operand) (ho : o.op = .assign x)
    {K : LV → AH → Prop} (hq : effV P o.dst o.op o.type (evL ρ) h K) : Left P cx h w D an ((execOp a.eval o).run P w) K := by
  have hrun : (execOp a.eval o).run P w = .ok (.value (a.eval x)) w := by simp [execOp, ho]
  rw [ho] at hq
  unfold effV at hq
  split at hq
  · rename_i hx
    simp only [Op.assign.injEq] at hx
    subst hx
    split at hq
    · rename_i d e agg es hd hi
      obtain ⟨h1, h2, h3⟩ := nil_new H d e es hq.1
      exact ⟨_, _, _, _, _, _, hq.2, .inl hrun, h1, h2, h3⟩
    · exact .quiet H hrun (.fv _ _ (.val _)) hq
  · rename_i y hy hx
    simp only [Op.assign.injEq] at hx
    subst hx
    exact .quiet H hrun (ev_sound hs _) hq
  all_goals first | exact hq.elim | (rename_i hx; simp at hx; done)
theorem lay_idx {t : Nat} {agg : Bool} {n : Nat} (hl : lay P t = some (agg, n)) : ∃ i, P.info? t = some i ∧ i.size = n := by
  obtain ⟨i, d, hi, _, _, hn⟩ := lay_spec hl
  exact ⟨i, hi, hn⟩
theorem box_sound (H : Heap P cx h w D an) {ρ : Nat → LV} {a : Act} (hs : ∀ i, LVRep P w D h.gen an (a.tmps.getD i Go.undef) (ρ i)) (o : Oper) (t : Nat) (x : Operand) (ho : o.op = .box t x)
    {K : LV → AH → Prop} (hq : effV P o.dst o.op o.type (evL ρ) h K) : Left P cx h w D an ((execOp a.eval o).run P w) K := by
  rw [ho] at hq
  simp only [effV] at hq
  split at hq
  · rename_i d agg n hd hl
    obtain ⟨hn, h1, hK⟩ := hq
    obtain ⟨hsz, hr⟩ := (ev_sound hs x).cells h1
    obtain ⟨e1, e2, e3⟩ := box_new H d (evL ρ x).cells (a.eval x).cells t hsz hr
    refine ⟨_, _, _, _, _, _, hK, .inl ?_, e1, e2, e3⟩
    simp [execOp, ho, Instr.box, newVar, newRow, newObj, Sem.run]
  · exact hq.elim
theorem alloc_sound (H : Heap P cx h w D an) {ρ : Nat → LV} {a : Act} (o : Oper) (t : Nat) (ho : o.op = .alloc t)
    {K : LV → AH → Prop} (hq : effV P o.dst o.op o.type (evL ρ) h K) : Left P cx h w D an ((execOp a.eval o).run P w) K := by
  rw [ho] at hq
  simp only [effV] at hq
  split at hq
  · rename_i d zs hd hz
    obtain ⟨i, z, hi, hz0, rfl, hsz, h1, _⟩ := zeros_spec hz
    obtain ⟨e1, e2, e3⟩ := box_new H d ((z.cells.toList.map FV.val).map .fv) z.cells t (by simp) (fun j y u hy hu => by
      simp only [List.getElem?_map, Array.getElem?_toList, hu, Option.map_some, Option.some.injEq] at hy
      subst hy
      exact ⟨.fv _ _ (.val _), h1 _ (Array.mem_of_getElem? hu)⟩)
    refine ⟨_, _, _, _, _, _, hq, .inl ?_, e1, e2, e3⟩
    simp [execOp, ho, Instr.alloc, newVar, newRow, newObj, Sem.run, zeroValue, typeInfo, hi, hz0]
  · exact hq.elim
theorem fill_all (es : Nat) : ∀ (vs : List Value) (k : Nat) (pre : List Value) (cells : Array Value), (∀ v ∈ vs, v.cells.size = es) → cells.size = (k + vs.length) * es → cells.toList.take (k * es) = pre →
    Instr.fill (fun i => some (i * es, es)) cells ((List.range' k vs.length).zip vs) = some (pre ++ vs.flatMap fun v => v.cells.toList).toArray := by
  intro vs
  induction vs with
  | nil =>
    intro k pre cells _ hsz hpre
    simp only [List.length_nil, List.range'_zero, List.zip_nil_left, Instr.fill, List.flatMap_nil, List.append_nil, Option.some.injEq]
    rw [← hpre, List.take_of_length_le (by simp at hsz ⊢; omega)]
  | cons v vs ih =>
    intro k pre cells hv hsz hpre
    have hve := hv v (by simp)
    have hkes : (k + 1) * es = k * es + es := by rw [Nat.add_mul, Nat.one_mul]
    have hbig : k * es + es ≤ cells.size := by
      rw [hsz, ← hkes]
      exact Nat.mul_le_mul_right _ (by simp)
    simp only [List.length_cons, List.range'_succ, List.zip_cons_cons, Instr.fill]
    rw [if_neg (by rw [hve]; simp; try omega)]
    have hfold : ∀ (l : List Value) (j : Nat) (cs : Array Value) (o : Nat), o + j + l.length ≤ cs.size → ((l.zipIdx j).foldl (fun cs (c, j) => cs.setIfInBounds (o + j) c) cs).toList = cs.toList.take (o + j) ++ l ++ cs.toList.drop (o + j + l.length) := by
      intro l
      induction l with
      | nil => intro j cs o _; simp
      | cons x l ih =>
        intro j cs o hb
        simp only [List.length_cons] at hb
        simp only [List.zipIdx_cons, List.foldl_cons]
        rw [ih (j + 1) _ o (by simp; omega)]
        simp only [Array.toList_setIfInBounds, List.length_cons]
        rw [← Nat.add_assoc, List.take_set, List.drop_set_of_lt (by omega)]
        have e : cs.toList.take (o + j + 1) = cs.toList.take (o + j) ++ [cs.toList[o + j]'(by simp; omega)] := by
          rw [List.take_succ_eq_append_getElem (by simp; omega)]
        rw [e, List.set_append_right _ _ (by simp; omega)]
        have e2 : min (o + j) cs.size = o + j := by omega
        simp [e2]
        try constructor
        all_goals try omega
        all_goals (congr 1; omega)
    have hz : v.cells.zipIdx.foldl (fun cs (c, j) => cs.setIfInBounds (k * es + j) c) cells = (cells.toList.take (k * es) ++ v.cells.toList ++ cells.toList.drop (k * es + es)).toArray := by
      rw [← Array.toList_inj, ← Array.foldl_toList, Array.toList_zipIdx, hfold _ 0 _ _ (by simp [hve]; omega)]
      simp [hve]
    rw [hz]
    have hrest := ih (k + 1) (pre ++ v.cells.toList) (cells.toList.take (k * es) ++ v.cells.toList ++ cells.toList.drop (k * es + es)).toArray (fun u hu => hv u (by simp [hu]))
      (by
        have e3 : (k + 1 + vs.length) * es = cells.size := by rw [hsz]; congr 1; simp; omega
        rw [e3]
        simp [hve]
        omega)
      (by
        rw [hpre, hkes]
        have hpl : pre.length = k * es := by rw [← hpre]; simp; omega
        have hvl : v.cells.toList.length = es := by simpa using hve
        simp only [List.append_assoc]
        rw [List.take_append, List.take_append, hpl, hvl]
        simp [hvl, List.take_of_length_le, hpl])
    rw [hrest]
    simp
end
end Abs

namespace Abs
open Go
open Go.RowKit (Below)
section
variable {P : Program} {cx : Cx} {w : World} {D : Nat → Prop} {h : AH} {an : Nat → Value}
theorem flat_rep : ∀ {xs : List FV} {vs : List Value}, vs.length = xs.length → (∀ (j : Nat) (y : FV) (v : Value), xs[j]? = some y → vs[j]? = some v → Rep w D v y) → (∀ x ∈ xs, x.cells.all FV.one = true) →
    (vs.flatMap fun v => v.cells.toList).length = (FV.flat xs).length ∧ ∀ (j : Nat) (y : FV) (u : Value), (FV.flat xs)[j]? = some y → (vs.flatMap fun v => v.cells.toList)[j]? = some u → Rep w D u y := by
  intro xs
  induction xs with
  | nil => intro vs hl _ _; cases vs with
    | nil => simp [FV.flat]
    | cons => simp at hl
  | cons x xs ih =>
    intro vs hl hr h1
    cases vs with
    | nil => simp at hl
    | cons v vs =>
      obtain ⟨e1, e2⟩ := ih (vs := vs) (by simpa using hl) (fun j y u hy hu => hr (j + 1) y u (by simpa using hy) (by simpa using hu)) (fun y hy => h1 y (by simp [hy]))
      obtain ⟨c1, c2⟩ := (hr 0 x v rfl rfl).cells (h1 x (by simp))
      have c1' : v.cells.toList.length = x.cells.length := by simpa using c1
      simp only [FV.flat, List.flatMap_cons, List.length_append] at *
      refine ⟨by omega, fun j y u hy hu => ?_⟩
      by_cases hj : j < x.cells.length
      · rw [List.getElem?_append_left hj] at hy
        rw [List.getElem?_append_left (by omega)] at hu
        exact c2 j y u hy (by simpa using hu)
      · rw [List.getElem?_append_right (by omega)] at hy hu
        rw [c1'] at hu
        exact e2 _ y u hy hu
theorem buildSlice_sound (H : Heap P cx h w D an) {ρ : Nat → LV} {a : Act} (hs : ∀ i, LVRep P w D h.gen an (a.tmps.getD i Go.undef) (ρ i)) (o : Oper) (t n : Nat) (parts : Array (Nat × Operand)) (ho : o.op = .buildSlice t n parts)
    {K : LV → AH → Prop} (hq : effV P o.dst o.op o.type (evL ρ) h K) : Left P cx h w D an ((execOp a.eval o).run P w) K := by
  rw [ho] at hq
  simp only [effV] at hq
  split at hq
  · rename_i d e agg es hd hi
    obtain ⟨hes, hcap, hzs, hidx, xs, h', hf, hlen, hK⟩ := hq
    obtain ⟨zs, hz⟩ := Option.isSome_iff_exists.1 hzs
    obtain ⟨i, z, hinfo, hz0, rfl, hzsz, hz1, _⟩ := zeros_spec hz
    obtain ⟨hl, hu⟩ := idx_spec hi
    rcases hu with ⟨m', hm, _⟩ | ⟨_, hu⟩
    · simp at hm
    simp only at hl hu
    have hls : i.size = es := by
      obtain ⟨i', hi', he'⟩ := lay_idx hl
      rw [hinfo] at hi'; simp at hi'; subst hi'; exact he'
    obtain ⟨D', H', hg, hDD, hxl, hrep⟩ := frzAll_sound H (cs := parts.toList.map fun p => evL ρ p.2) (vs := parts.toList.map fun p => a.eval p.2) (by simp) (fun j y v hy hv => by
      simp only [List.getElem?_map, Option.map_eq_some_iff] at hy hv
      obtain ⟨p, hp, rfl⟩ := hy
      obtain ⟨p', hp', rfl⟩ := hv
      rw [hp] at hp'; simp at hp'; subst hp'
      exact ev_sound hs _) hf
    have hxn : xs.length = n := by
      rw [hxl]
      have := congrArg List.length hidx
      simpa using this
    obtain ⟨vs, hvs⟩ : ∃ vs, vs = parts.toList.map fun p => a.eval p.2 := ⟨_, rfl⟩
    rw [← hvs] at hrep
    have hvn : vs.length = n := by rw [hvs, ← hxn, hxl]; simp
    have hvc : ∀ v ∈ vs, v.cells.size = es := by
      intro v hv
      obtain ⟨j, hj, rfl⟩ := List.mem_iff_getElem.1 hv
      have hjx : j < xs.length := by omega
      obtain ⟨c1, _⟩ := (hrep j xs[j] vs[j] (by simp) (by simp)).cells (hlen _ (by simp)).2
      rw [c1]; exact (hlen _ (by simp)).1
    have hparts : (parts.map fun p => (p.1, a.eval p.2)).toList = (List.range' 0 vs.length).zip vs := by
      rw [hvn, ← List.range_eq_range', ← hidx, hvs]
      simp [List.zip_map', Array.toList_map]
    let C : Array Value := (vs.flatMap fun v => v.cells.toList).toArray
    obtain ⟨hfl, hflr⟩ := flat_rep (w := w) (D := D') (xs := xs) (vs := vs) (by omega) hrep (fun x hx => (hlen x hx).2)
    have hCs : C.size = n * es := by
      show (vs.flatMap fun v => v.cells.toList).toArray.size = n * es
      rw [List.size_toArray, hfl, flat_length fun x hx => (hlen x hx).1, hxn]
    have hfill : Instr.fill (fun i => some (i * es, es)) ((Array.range (n * es)).map (fun j => (if n * es = 0 then #[] else z.cells)[j % (if n * es = 0 then #[] else z.cells).size]!)) (parts.map fun p => (p.1, a.eval p.2)).toList = some C := by
      rw [hparts]
      have := fill_all es vs 0 [] ((Array.range (n * es)).map (fun j => (if n * es = 0 then #[] else z.cells)[j % (if n * es = 0 then #[] else z.cells).size]!)) hvc (by simp [hvn]) (by simp)
      simpa using this
    have hn63 : n ≤ maxLen := by
      have h1 : n * 1 ≤ n * es := Nat.mul_le_mul_left n hes
      simp only [maxLen]; omega
    have hown : (w.alloc (.cells C e)).ownsRow 0 e es (.slice (some ⟨w.heap.size, 0, none⟩) n n) n C.toList := World.ownsRow_lit w C n (Nat.zero_le _) hn63 hCs
    have hrun : (execOp a.eval o).run P w = .ok (.value (.slice (some ⟨w.heap.size, 0, none⟩) n n)) (w.alloc (.cells C e)) := by
      have hbig : ¬ (16777216 < n * es) := by omega
      simp only [execOp, ho, Instr.buildSlice, Sem.run_bind, run_underlying hu, Result.andThen_ok, run_size hl, Sem.run_ite, hbig]
      by_cases h0 : n * es = 0
      · simp only [h0, if_true] at hfill
        simp only [h0, if_true, Sem.run_pure, Result.andThen_ok, Nat.reducePow, Nat.not_lt_zero, if_false, gt_iff_lt]
        simp only [hfill, newRow, newObj, Sem.run_bind, Sem.run, Result.andThen_ok, Sem.run_pure]
        rfl
      · simp only [h0, if_false, Array.toList_map] at hfill
        simp [h0, hbig, zeroValue, typeInfo, hinfo, hz0, hfill, newRow, newObj, Sem.run]
    have hb := below_alloc w (.cells C e)
    have hol : OwnList (w.alloc (.cells C e)) D' 0 (.slice (some ⟨w.heap.size, 0, none⟩) n n) e es false xs := by
      refine ⟨C.toList, by rw [hxn]; exact hown, by simp, hes, hlen, ?_⟩
      intro j y u hy hu'
      exact (hflr j y u hy (by simpa [C] using hu')).keep (fun _ h => h) fun b hb' => hb.block b (H'.lt b hb')
    obtain ⟨e1, e2, e3⟩ := list_new H' d hb (by simp) (.inl rfl) hol
    exact ⟨_, _, _, _, _, _, hK, .inl hrun, e1, (frz_ext hg hDD).trans e2, e3⟩
  · exact hq.elim
theorem made_rep {z : Value} {es n : Nat} {agg : Bool} (hzl : z.cells.size = es) (hes : 0 < es) (hagg : agg = true ∨ es = 1) (hz1 : ∀ v ∈ z.cells, v.oneCell' = true) (hzo : (z.cells.toList.map FV.val).all FV.one = true) :
    (∀ x ∈ List.replicate n (FV.ofCells agg (z.cells.toList.map FV.val)), x.cells.length = es ∧ x.cells.all FV.one = true) ∧
    ∀ (j : Nat) (y : FV) (u : Value), (FV.flat (List.replicate n (FV.ofCells agg (z.cells.toList.map FV.val))))[j]? = some y → (madeCells z.cells (n * es)).toList[j]? = some u → Rep w D u y := by
  have hcl : (FV.ofCells agg (z.cells.toList.map FV.val)).cells = z.cells.toList.map FV.val := by
    unfold FV.ofCells
    rcases hagg with rfl | rfl
    · rfl
    · split
      · rfl
      · have hlen1 : z.cells.toList.length = 1 := by simpa using hzl
        match hzc : z.cells.toList, hlen1 with
        | [v], _ =>
          have : v.oneCell' = true := hz1 v (by rw [← Array.mem_toList_iff, hzc]; simp)
          cases v <;> first | rfl | simp [Value.oneCell'] at this
  refine ⟨?_, ?_⟩
  · intro x hx
    have := List.eq_of_mem_replicate hx
    subst this
    rw [hcl]
    exact ⟨by simpa using hzl, by simpa using hzo⟩
  · intro j y u hy hu'
    have hjl : j < n * es := by
      have := (List.getElem?_eq_some_iff.1 hy).1
      rw [flat_length (es := es) (fun x hx => by rw [List.eq_of_mem_replicate hx, hcl]; simpa using hzl)] at this
      simpa using this
    have hflat : (FV.flat (List.replicate n (FV.ofCells agg (z.cells.toList.map FV.val))))[j]? = (z.cells.toList.map FV.val)[j % es]? := by
      have hq : j / es < n := (Nat.div_lt_iff_lt_mul hes).2 hjl
      have := flat_get (es := es) (xs := List.replicate n (FV.ofCells agg (z.cells.toList.map FV.val))) (fun x hx => by rw [List.eq_of_mem_replicate hx, hcl]; simpa using hzl) (j / es) (j % es) (FV.ofCells agg (z.cells.toList.map FV.val)) (by simp [hq]) (Nat.mod_lt _ hes)
      rw [hcl] at this
      rw [← this]
      congr 1
      rw [Nat.mul_comm]; exact (Nat.div_add_mod j es).symm
    rw [hflat] at hy
    have hu2 : u = z.cells[j % z.cells.size]! := by
      simp only [madeCells, Array.toList_map, List.getElem?_map, Array.getElem?_toList, Option.map_eq_some_iff] at hu'
      obtain ⟨k, hk, rfl⟩ := hu'
      have : k = j := by
        rw [Array.getElem?_range] at hk
        split at hk
        · simp at hk; omega
        · simp at hk; try omega
      subst this
      rfl
    simp only [List.getElem?_map, Array.getElem?_toList, Option.map_eq_some_iff] at hy
    obtain ⟨v, hv, rfl⟩ := hy
    have : u = v := by
      rw [hu2, hzl, getElem!_def, hv]
    subst this
    exact .val _
theorem makeSlice_sound (H : Heap P cx h w D an) {ρ : Nat → LV} {a : Act} (hs : ∀ i, LVRep P w D h.gen an (a.tmps.getD i Go.undef) (ρ i)) (o : Oper) (t : Nat) (l c : Operand) (ho : o.op = .makeSlice t l c)
    {K : LV → AH → Prop} (hq : effV P o.dst o.op o.type (evL ρ) h K) : Left P cx h w D an ((execOp a.eval o).run P w) K := by
  rw [ho] at hq
  simp only [effV] at hq
  split at hq
  · rename_i d e agg es l' c' hd hi hl' hc'
    obtain ⟨hes, h0, rfl, h63, hby, zs, hz, hagg, hK⟩ := hq
    obtain ⟨k1, hk1⟩ := intOf_inv hl' (ev_sound hs l)
    obtain ⟨k2, hk2⟩ := intOf_inv hc' (ev_sound hs c)
    obtain ⟨i, z, hinfo, hz0, rfl, hzsz, hz1, hzo⟩ := zeros_spec hz
    obtain ⟨hl, hu⟩ := idx_spec hi
    rcases hu with ⟨m', hm, _⟩ | ⟨_, hu⟩
    · simp at hm
    simp only at hl hu
    have hls : i.size = es := by
      obtain ⟨i', hi', he'⟩ := lay_idx hl
      rw [hinfo] at hi'; simp at hi'; subst hi'; exact he'
    obtain ⟨n, rfl⟩ := Int.eq_ofNat_of_zero_le h0
    have hb' : i.bytes * n ≤ 281474976710656 := by
      have : P.bytesOf e = i.bytes := by simp [Program.bytesOf, hinfo]
      rw [this] at hby
      have h : ((i.bytes * n : Nat) : Int) ≤ 281474976710656 := by rw [Int.natCast_mul]; exact hby
      omega
    have hm : n ≤ maxLen := by simp only [maxLen]; omega
    have h63' : (n : Int) ≤ 9223372036854775807 := by omega
    have hr := run_make (P := P) w t e i z hu hinfo hz0 k1 k2 n n (by omega) (Int.le_refl _) (by
      have h : ((i.bytes * n : Nat) : Int) ≤ 281474976710656 := by omega
      rwa [Int.natCast_mul] at h) h63'
    simp only [Int.toNat_natCast] at hr hK
    have hown := World.ownsRow_lit w (base := 0) (e := e) (size := es) (madeCells z.cells (n * i.size)) n (Nat.zero_le _) hm (by rw [size_madeCells, hls])
    have hb := below_alloc w (.cells (madeCells z.cells (n * i.size)) e)
    have hzl : z.cells.size = es := by omega
    have hcl : (FV.ofCells agg (z.cells.toList.map FV.val)).cells = z.cells.toList.map FV.val := by
      unfold FV.ofCells
      rcases hagg with rfl | rfl
      · rfl
      · split
        · rfl
        · have hlen1 : z.cells.toList.length = 1 := by simpa using hzl
          match hzc : z.cells.toList, hlen1 with
          | [v], _ =>
            have : v.oneCell' = true := hz1 v (by rw [← Array.mem_toList_iff, hzc]; simp)
            cases v <;> first | rfl | simp [Value.oneCell'] at this
    have hol : OwnList (w.alloc (.cells (madeCells z.cells (n * i.size)) e)) D 0 (.slice (some ⟨w.heap.size, 0, none⟩) n n) e es false (List.replicate n (FV.ofCells agg (z.cells.toList.map FV.val))) := by
      refine ⟨(madeCells z.cells (n * i.size)).toList, by simpa using hown, by simp, hes, ?_, ?_⟩
      · intro x hx
        have := List.eq_of_mem_replicate hx
        subst this
        rw [hcl]
        exact ⟨by simpa using hzl, by simpa using hzo⟩
      · intro j y u hy hu'
        have hjl : j < n * es := by
          have := (List.getElem?_eq_some_iff.1 hy).1
          rw [flat_length (es := es) (fun x hx => by rw [List.eq_of_mem_replicate hx, hcl]; simpa using hzl)] at this
          simpa using this
        have hflat : (FV.flat (List.replicate n (FV.ofCells agg (z.cells.toList.map FV.val))))[j]? = (z.cells.toList.map FV.val)[j % es]? := by
          have hq : j / es < n := (Nat.div_lt_iff_lt_mul hes).2 hjl
          have := flat_get (es := es) (xs := List.replicate n (FV.ofCells agg (z.cells.toList.map FV.val))) (fun x hx => by rw [List.eq_of_mem_replicate hx, hcl]; simpa using hzl) (j / es) (j % es) (FV.ofCells agg (z.cells.toList.map FV.val)) (by simp [hq]) (Nat.mod_lt _ hes)
          rw [hcl] at this
          rw [← this]
          congr 1
          rw [Nat.mul_comm]; exact (Nat.div_add_mod j es).symm
        rw [hflat] at hy
        have hu2 : u = z.cells[j % z.cells.size]! := by
          simp only [madeCells, Array.toList_map, List.getElem?_map, Array.getElem?_toList, Option.map_eq_some_iff] at hu'
          obtain ⟨k, hk, rfl⟩ := hu'
          have : k = j := by
            rw [Array.getElem?_range] at hk
            split at hk
            · simpa using hk.symm
            · simp at hk
          subst this
          rfl
        simp only [List.getElem?_map, Array.getElem?_toList, Option.map_eq_some_iff] at hy
        obtain ⟨v, hv, rfl⟩ := hy
        have : u = v := by
          rw [hu2, hzl, getElem!_def, hv]
        subst this
        exact .val _
    obtain ⟨e1, e2, e3⟩ := list_new H d hb (by simp) (.inl rfl) hol
    refine ⟨_, _, _, _, _, _, hK, .inl ?_, e1, e2, e3⟩
    simp only [execOp, ho, hk1, hk2, Sem.run_bind, hr, Result.andThen_ok, Sem.run_pure]
  · exact hq.elim
end
end Abs

