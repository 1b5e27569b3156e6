/- A part of the proof: Abs3, Abs4. -/
import Derived.Test.YtncbkgbdpaibmaaAbs0

namespace Abs
open Go
open Go.RowKit (Below)
theorem Rep.one_of {w : World} {D : Nat → Prop} {v : Value} {x : FV} (h : Rep w D v x) (h1 : v.oneCell' = true) : x.one = true := by
  cases h with
  | val v => cases v <;> simp_all [FV.one, Value.oneCell']
  | list => rfl
  | empty => rfl
  | ptr => rfl
  | agg => simp [Value.oneCell'] at h1
  | tup => simp [Value.oneCell'] at h1
  | clos => rfl
  | map => rfl
theorem lay_spec {P : Program} {t : Nat} {b : Bool} {n : Nat} (h : lay P t = some (b, n)) :
    ∃ i d, P.info? t = some i ∧ P.underlying t = some d ∧ (match d with | .struct _ => true | .array _ _ => true | _ => false) = b ∧ i.size = n := by
  unfold lay at h
  split at h
  · rename_i i d hi hd; simp at h; exact ⟨i, d, hi, hd, h.1, h.2⟩
  · simp at h
theorem run_size {P : Program} {t : Nat} {b : Bool} {n : Nat} (h : lay P t = some (b, n)) (w : World) : (Go.sizeOf t).run P w = Result.ok n w := by
  obtain ⟨i, d, hi, hd, _, rfl⟩ := lay_spec h
  simp [Go.sizeOf, typeInfo, hi]
theorem run_isAgg {P : Program} {t : Nat} {b : Bool} {n : Nat} (h : lay P t = some (b, n)) (w : World) : (isAgg t).run P w = .ok b w := by
  obtain ⟨i, d, hi, hd, hb, _⟩ := lay_spec h
  simp only [isAgg, Sem.run_bind, run_underlying hd, Result.andThen_ok]
  subst hb
  cases d <;> rfl
theorem cells_list {w : World} {b off n : Nat} {p : Nat → Value → Prop} (h : ∀ j, j < n → ∃ u, w.cell? ⟨b, off + j, none⟩ = some u ∧ p j u) :
    ∃ us : List Value, us.length = n ∧ (∀ j u, us[j]? = some u → w.cell? ((⟨b, off, none⟩ : Addr).add j) = some u) ∧ ∀ j u, us[j]? = some u → p j u := by
  refine ⟨(List.range n).map fun j => (w.cell? ⟨b, off + j, none⟩).getD Go.undef, by simp, ?_, ?_⟩
  · intro j u hu
    simp only [List.getElem?_map, Option.map_eq_some_iff] at hu
    obtain ⟨k, hk, rfl⟩ := hu
    have hjn : j < n := by
      rcases Nat.lt_or_ge j n with h | h
      · exact h
      · rw [List.getElem?_eq_none (by simpa using h)] at hk; simp at hk
    rw [List.getElem?_range hjn] at hk
    simp at hk; subst hk
    obtain ⟨u, hu, _⟩ := h j hjn
    rw [lone_add, hu]; rfl
  · intro j u hu
    have hj : j < n := by
      rcases Nat.lt_or_ge j n with h | h
      · exact h
      · rw [List.getElem?_eq_none (by simpa using h)] at hu; simp at hu
    simp only [List.getElem?_map, List.getElem?_range hj, Option.map_some, Option.some.injEq] at hu
    obtain ⟨u', hu', hp⟩ := h j hj
    rw [hu'] at hu
    simp at hu; subst hu; exact hp
theorem unFV_spec {cs : List LV} {fs : List FV} (h : unFV cs = some fs) : cs = fs.map .fv := by
  induction cs generalizing fs with
  | nil => simp [unFV] at h; subst h; rfl
  | cons c cs ih =>
    cases c <;> simp only [unFV] at h <;> try (simp at h; done)
    simp only [Option.map_eq_some_iff] at h
    obtain ⟨l, hl, rfl⟩ := h
    simp [ih hl]
section
variable {P : Program} {w : World} {D : Nat → Prop} {gen : Nat → Nat} {an : Nat → Value}
theorem LVRep.fv_inv {v : Value} {x : FV} (h : LVRep P w D gen an v (.fv x)) : Rep w D v x := by
  cases h; assumption
theorem mkAgg_rep {cs : List LV} {vs : Array Value} (hs : vs.size = cs.length) (h1 : ∀ v ∈ vs, v.oneCell' = true)
    (hrep : ∀ (j : Nat) (y : LV) (v : Value), cs[j]? = some y → vs[j]? = some v → LVRep P w D gen an v y) : LVRep P w D gen an (.agg vs) (mkAgg cs) := by
  unfold mkAgg
  cases hu : unFV cs with
  | none => exact .agg cs vs hs h1 hrep
  | some fs =>
    have := unFV_spec hu
    subst this
    have key : ∀ (j : Nat) (y : FV) (v : Value), fs[j]? = some y → vs[j]? = some v → Rep w D v y := fun j y v hy hv =>
      (hrep j (.fv y) v (by simp [hy]) hv).fv_inv
    refine .fv _ _ (.agg vs fs (by simpa using hs) ?_ key)
    rw [List.all_eq_true]
    intro x hx
    obtain ⟨j, hj, rfl⟩ := List.mem_iff_getElem.1 hx
    have hjv : j < vs.size := by rw [hs]; simpa using hj
    exact (key j fs[j] vs[j] (by simp) (by simp)).one_of (h1 _ (by simp))
theorem load_partL {t : Nat} {agg : Bool} {n b off : Nat} {cs : List LV} {lv : LV} (hl : lay P t = some (agg, n))
    (hc : ∀ (j : Nat) (y : LV), cs[j]? = some y → ∃ u, w.cell? ⟨b, off + j, none⟩ = some u ∧ LVRep P w D gen an u y ∧ u.oneCell' = true)
    (hp : partL agg n cs = some lv) : ∃ u, (loadVar t ⟨b, off, none⟩).run P w = .ok u w ∧ LVRep P w D gen an u lv := by
  unfold partL at hp
  cases agg with
  | true =>
    simp only [if_true] at hp
    split at hp
    · rename_i hn
      simp only [Option.some.injEq] at hp
      subst hp
      obtain ⟨us, hlen, hcell, hrep⟩ := cells_list (w := w) (b := b) (off := off) (n := n) (p := fun j u => ∀ y, cs[j]? = some y → LVRep P w D gen an u y ∧ u.oneCell' = true)
        (fun j hj => by
          obtain ⟨u, h1, h2⟩ := hc j cs[j] (by simp [List.getElem?_eq_getElem (show j < cs.length by omega)])
          exact ⟨u, h1, fun y hy => by rw [List.getElem?_eq_getElem (show j < cs.length by omega)] at hy; simp at hy; subst hy; exact h2⟩)
      refine ⟨.agg us.toArray, ?_, ?_⟩
      · simp only [loadVar, Sem.run_bind, run_isAgg hl, Result.andThen_ok, run_size hl, if_true]
        rw [← hlen, run_loadCells_list w _ us hcell]
        rfl
      · refine mkAgg_rep (by simp [hlen]; omega) ?_ ?_
        · intro v hv
          obtain ⟨j, hj, rfl⟩ := List.mem_iff_getElem.1 (by simpa using hv)
          exact (hrep j us[j] (by simp) cs[j] (by simp [List.getElem?_eq_getElem (show j < cs.length by omega)])).2
        · intro j y v hy hv
          rw [List.getElem?_take] at hy
          split at hy
          · exact (hrep j v (by simpa using hv) y hy).1
          · simp at hy
    · simp at hp
  | false =>
    simp only [Bool.false_eq_true, if_false] at hp
    cases cs with
    | nil => simp at hp
    | cons c cs =>
      simp at hp; subst hp
      obtain ⟨u, h1, h2, _⟩ := hc 0 c (by simp)
      refine ⟨u, ?_, h2⟩
      simp only [loadVar, Sem.run_bind, run_isAgg hl, Result.andThen_ok, Bool.false_eq_true, if_false]
      simp only [Nat.add_zero] at h1
      simp [load, Sem.run, h1]
theorem partF_partL {agg : Bool} {n : Nat} {cs : List FV} {lv : LV} (h : partF agg n cs = some lv) : partL agg n (cs.map .fv) = some lv := by
  unfold partF at h
  unfold partL
  cases agg with
  | true =>
    simp only [if_true] at h ⊢
    split at h
    · rename_i hn
      rw [if_pos (by simpa using hn), ← List.map_take, mkAgg, unFV_map]
      exact h
    · simp at h
  | false =>
    simp only [Bool.false_eq_true, if_false] at h ⊢
    simpa using h
theorem Rep.ptr_inv {v : Value} {cs : List FV} (h : Rep w D v (.ptr cs)) : ∃ b off, v = .pointer (some ⟨b, off, none⟩) ∧ D b ∧ cs.all FV.one = true ∧
    ∀ (j : Nat) (y : FV), cs[j]? = some y → ∃ u, w.cell? ⟨b, off + j, none⟩ = some u ∧ Rep w D u y ∧ u.oneCell' = true := by
  cases h with
  | ptr cells b off c hone hD hcell hrep =>
    exact ⟨b, off, rfl, hD, hone, fun j y hy => ⟨_, hcell j y hy, hrep j y hy, (hrep j y hy).oneCell (List.all_eq_true.1 hone y (List.mem_of_getElem? hy))⟩⟩
theorem Rep.ptr_drop {v : Value} {cs : List FV} {b off : Nat} (h : Rep w D v (.ptr cs)) (hv : v = .pointer (some ⟨b, off, none⟩)) (k : Nat) :
    Rep w D (.pointer (some ⟨b, off + k, none⟩)) (.ptr (cs.drop k)) := by
  cases h with
  | ptr cells b' off' c hone hD hcell hrep =>
    simp at hv
    obtain ⟨rfl, rfl⟩ := hv
    refine .ptr _ b' (off' + k) (fun j => c (k + j)) ?_ hD ?_ ?_
    · rw [List.all_eq_true] at hone ⊢
      exact fun x hx => hone x (List.mem_of_mem_drop hx)
    · intro j y hy
      rw [List.getElem?_drop] at hy
      rw [Nat.add_assoc]
      exact hcell _ y hy
    · intro j y hy
      rw [List.getElem?_drop] at hy
      exact hrep _ y hy
theorem Rep.elem {v : Value} {full : Bool} {xs : List FV} {i : Nat} {x : FV} (h : Rep w D v (.list full xs)) (hx : xs[i]? = some x) :
    ∃ b off cap, v = .slice (some ⟨b, off, none⟩) xs.length cap ∧ Rep w D (.pointer (some ⟨b, off + i * x.cells.length, none⟩)) (.ptr x.cells) := by
  cases h with
  | empty full a => simp at hx
  | list full xs b off cap es cs hcap hmax hfull hes hlen hDb hcell hrep =>
    refine ⟨b, off, cap, rfl, ?_⟩
    have hm := hlen x (List.mem_of_getElem? hx)
    rw [hm.1]
    have hfl : ∀ j, j < es → (FV.flat xs)[i * es + j]? = x.cells[j]? := fun j hj => flat_get (fun y hy => (hlen y hy).1) i j x hx hj
    have hlt : ∀ (j : Nat) (y : FV), x.cells[j]? = some y → j < es := fun j y hy => by
      have := (List.getElem?_eq_some_iff.1 hy).1; omega
    refine .ptr _ b _ (fun j => cs (i * es + j)) hm.2 (hDb (by rintro rfl; simp at hx)) ?_ ?_
    · intro j y hy
      rw [Nat.add_assoc]
      exact hcell _ y (by rw [hfl j (hlt j y hy)]; exact hy)
    · intro j y hy
      exact hrep _ y (by rw [hfl j (hlt j y hy)]; exact hy)
end
end Abs

namespace Abs
open Go
open Go.RowKit (Below)
section
variable {P : Program} {cx : Cx} {w : World} {D : Nat → Prop} {h : AH} {an : Nat → Value}
theorem ofV_rep (gen : Nat → Nat) (v : Value) : LVRep P w D gen an v (ofV v) := by
  unfold ofV
  split
  · rename_i vs
    split
    · rename_i hall
      refine .fv _ _ (.agg vs _ (by simp) (by rw [List.all_map]; exact hall) ?_)
      intro j y v hy hv
      simp only [List.getElem?_map, Array.getElem?_toList, hv, Option.map_some, Option.some.injEq] at hy
      subst hy
      exact .val v
    · exact .undef _
  · exact .fv _ _ (.val _)
theorem ev_sound {ρ : Nat → LV} {gen : Nat → Nat} {a : Act} (hs : ∀ i, LVRep P w D gen an (a.tmps.getD i Go.undef) (ρ i)) (x : Operand) :
    LVRep P w D gen an (a.eval x) (evL ρ x) := by
  cases x with
  | tmp t => exact hs t
  | const v => exact ofV_rep gen v
  | global g => exact .undef _
  | func f => exact .clos f [] #[] rfl (by simp)
theorem Heap.box_at (H : Heap P cx h w D an) {o g off : Nat} {cs : List LV} {v : Value} (hb : h.box o g = some cs) (hv : LVRep P w D h.gen an v (.ptr o g off)) :
    ∃ b c T, an o = .pointer (some ⟨b, 0, none⟩) ∧ v = .pointer (some ⟨b, off, none⟩) ∧ (cx.wi.heap.size ≤ b ∨ cx.Ow b) ∧ ¬ D b ∧ w.heap[b]? = some (.cells c T (0, 0)) ∧ c.size = cs.length ∧
      ∀ (j : Nat) (y : LV) (u : Value), cs[j]? = some y → c[j]? = some u → LVRep P w D h.gen an u y ∧ u.oneCell' = true := by
  obtain ⟨rfl, ho⟩ := H.boxCells hb
  obtain ⟨b, c, T, ha, hB, hD, hw, hs, hr⟩ := H.obj o _ ho
  cases hv with
  | ptr _ _ _ _ hp hg he =>
    obtain ⟨b', ha', hv'⟩ := he rfl
    rw [ha] at ha'
    simp at ha'
    subst ha'
    exact ⟨b, c, T, ha, hv', H.ow o _ b ho (by rw [ha]; rfl), hD, hw, hs, hr⟩
theorem cell_row {b off j : Nat} {c : Array Value} {T : Nat} {fr : Nat × Nat} (hw : w.heap[b]? = some (.cells c T fr)) : w.cell? ⟨b, off + j, none⟩ = c[off + j]? := by
  simp [World.cell?, hw]
theorem loadA_sound (H : Heap P cx h w D an) {t : Nat} {agg : Bool} {n : Nat} {x lv : LV} {v : Value} (hl : lay P t = some (agg, n))
    (hv : LVRep P w D h.gen an v x) (hq : loadA h agg n x = some lv) : ∃ u, (Instr.loadAt t v).run P w = .ok u w ∧ LVRep P w D h.gen an u lv := by
  unfold loadA at hq
  split at hq
  · rename_i o g off
    rw [Option.bind_eq_some_iff] at hq
    obtain ⟨cs, hb, hp⟩ := hq
    obtain ⟨b, c, T, _, rfl, _, _, hw, hs, hr⟩ := H.box_at hb hv
    have := load_partL (w := w) (b := b) (off := off) hl (fun j y hy => by
      rw [List.getElem?_drop] at hy
      have hj : off + j < c.size := by rw [hs]; exact (List.getElem?_eq_some_iff.1 hy).1
      exact ⟨c[off + j], by rw [cell_row hw]; simp, hr _ y _ hy (by simp)⟩) hp
    simpa [Instr.loadAt, Instr.sureAddr] using this
  · rename_i cs
    obtain ⟨b, off, rfl, hD, hone, hc⟩ := hv.fv_inv.ptr_inv
    have := load_partL (P := P) (gen := h.gen) (an := an) (w := w) (D := D) (b := b) (off := off) (cs := cs.map .fv) hl (fun j y hy => by
      simp only [List.getElem?_map, Option.map_eq_some_iff] at hy
      obtain ⟨z, hz, rfl⟩ := hy
      obtain ⟨u, h1, h2, h3⟩ := hc j z hz
      exact ⟨u, h1, .fv _ _ h2, h3⟩) (partF_partL hq)
    simpa [Instr.loadAt, Instr.sureAddr] using this
  · rename_i cs
    cases hv with
    | pb _ b off cs' hD hc hr =>
      have := load_partL (P := P) (gen := h.gen) (an := an) (w := w) (D := D) (b := b) (off := off) (cs := cs) hl (fun j y hy => ⟨cs' j, (hc j y hy).1, hr j y hy, (hc j y hy).2⟩) hq
      simpa [Instr.loadAt, Instr.sureAddr] using this
  · rename_i o g es i off
    rw [Option.bind_eq_some_iff] at hq
    obtain ⟨⟨e, es', fz, nil, xs⟩, hb, hq⟩ := hq
    simp only at hq
    split at hq
    · rename_i hes
      subst hes
      rw [Option.bind_eq_some_iff] at hq
      obtain ⟨x, hx, hp⟩ := hq
      obtain ⟨rfl, ho⟩ := AH.lst_spec hb
      obtain ⟨⟨vs, hown, hnil, hes, hlen, hrep⟩, _⟩ := H.obj o _ ho
      cases hv with
      | elem _ _ _ _ _ _ hpp hg he =>
        obtain ⟨b, n', cap, ha, rfl⟩ := he rfl
        have hm := hlen x (List.mem_of_getElem? hx)
        have hcell : ∀ (j : Nat) (u : Value), vs[j]? = some u → w.cell? ((⟨b, 0, none⟩ : Addr).add j) = some u := hown.cells (by rw [ha]; rfl)
        have hvl := hown.1
        have hi : i < xs.length := (List.getElem?_eq_some_iff.1 hx).1
        have := load_partL (P := P) (gen := h.gen) (an := an) (w := w) (D := D) (b := b) (off := i * es' + off) (cs := (x.cells.drop off).map .fv) hl (fun j y hy => by
          simp only [List.getElem?_map, Option.map_eq_some_iff, List.getElem?_drop] at hy
          obtain ⟨z, hz, rfl⟩ := hy
          have hlt : off + j < es' := by have := (List.getElem?_eq_some_iff.1 hz).1; omega
          have hf : (FV.flat xs)[i * es' + (off + j)]? = some z := by rw [flat_get (fun y hy => (hlen y hy).1) i _ x hx hlt]; exact hz
          have hfl := flat_length fun y hy => (hlen y hy).1
          have hjl : i * es' + (off + j) < vs.length := by
            have := (List.getElem?_eq_some_iff.1 hf).1
            omega
          have hu : vs[i * es' + (off + j)]? = some vs[i * es' + (off + j)] := by simp
          have h1 := hcell _ _ hu
          have h2 := hrep _ z _ hf hu
          rw [lone_add, Nat.zero_add] at h1
          refine ⟨_, by rw [Nat.add_assoc]; exact h1, .fv _ _ h2, h2.oneCell (List.all_eq_true.1 hm.2 z (List.mem_of_getElem? hz))⟩) (partF_partL hp)
        simpa [Instr.loadAt, Instr.sureAddr] using this
    · simp at hq
  · simp at hq
theorem idx_spec {t : Nat} {q : Option Nat × Nat × Bool × Nat} (hq : idx P t = some q) :
    lay P q.2.1 = some (q.2.2.1, q.2.2.2) ∧ ((∃ n, q.1 = some n ∧ P.underlying t = some (.array n q.2.1)) ∨ (q.1 = none ∧ P.underlying t = some (.slice q.2.1))) := by
  unfold idx at hq
  split at hq
  · rename_i n e hu
    simp only [Option.map_eq_some_iff] at hq
    obtain ⟨⟨a, s⟩, hl, rfl⟩ := hq
    exact ⟨hl, .inl ⟨n, rfl, hu⟩⟩
  · rename_i e hu
    simp only [Option.map_eq_some_iff] at hq
    obtain ⟨⟨a, s⟩, hl, rfl⟩ := hq
    exact ⟨hl, .inr ⟨rfl, hu⟩⟩
  · simp at hq
theorem intOf_inv {gen : Nat → Nat} {v : Value} {x : LV} {n : Int} (hi : intOf x = some n) (hv : LVRep P w D gen an v x) : ∃ k, v = .int k n := by
  unfold intOf at hi
  split at hi
  · rename_i k m
    simp at hi; subst hi
    cases hv with
    | fv _ _ h => cases h; exact ⟨_, rfl⟩
  · simp at hi
theorem add_mul (b off k : Nat) : (⟨b, off, none⟩ : Addr).add k = ⟨b, off + k, none⟩ := lone_add b off k
theorem indexA_sound (H : Heap P cx h w D an) {t : Nat} {x lv : LV} {v vi : Value} {i : Int} (k : IntKind) (hvi : vi = .int k i)
    (hv : LVRep P w D h.gen an v x) (hq : indexA P h t x i = some lv) : ∃ u, (Instr.indexAt t v vi).run P w = .ok u w ∧ LVRep P w D h.gen an u lv := by
  subst hvi
  unfold indexA at hq
  rw [Option.bind_eq_some_iff] at hq
  obtain ⟨q, hidx, hq⟩ := hq
  obtain ⟨hl, hu⟩ := idx_spec hidx
  split at hq
  · rename_i n e agg s o g off
    rcases hu with ⟨m, hm, hu⟩ | ⟨hm, _⟩
    · simp at hm; subst hm
      split at hq
      · rename_i hb
        simp at hq; subst hq
        have run : ∀ b off', v = .pointer (some ⟨b, off', none⟩) → (Instr.indexAt t v (.int k i)).run P w = .ok (.pointer (some ⟨b, off' + i.toNat * s, none⟩)) w := by
          rintro b off' rfl
          simp [Instr.indexAt, asIntOf, run_underlying hu, Instr.sureAddr, hb, run_size hl, add_mul]
        cases hv with
        | ptr _ _ _ _ hp hg he =>
          obtain ⟨b, k', rfl⟩ := hp
          refine ⟨_, run b k' rfl, .ptr _ _ _ _ ⟨_, _, rfl⟩ hg fun e => ?_⟩
          obtain ⟨b', ha, hv⟩ := he e
          simp at hv
          obtain ⟨rfl, rfl⟩ := hv
          exact ⟨b, ha, rfl⟩
      · simp at hq
    · simp at hm
  · rename_i n e agg s cs
    rcases hu with ⟨m, hm, hu⟩ | ⟨hm, _⟩
    · simp at hm; subst hm
      split at hq
      · rename_i hb
        simp at hq; subst hq
        obtain ⟨b, off, rfl, _⟩ := hv.fv_inv.ptr_inv
        refine ⟨.pointer (some ⟨b, off + i.toNat * s, none⟩), ?_, .fv _ _ (hv.fv_inv.ptr_drop rfl _)⟩
        simp [Instr.indexAt, asIntOf, run_underlying hu, Instr.sureAddr, hb, run_size hl, add_mul]
      · simp at hq
    · simp at hm
  · rename_i n e agg s o g es j off
    rcases hu with ⟨m, hm, hu⟩ | ⟨hm, _⟩
    · simp at hm; subst hm
      split at hq
      · rename_i hb
        simp at hq; subst hq
        cases hv with
        | elem _ _ _ _ _ _ hp hg he =>
          obtain ⟨b, k', rfl⟩ := hp
          refine ⟨.pointer (some ⟨b, k' + i.toNat * s, none⟩), ?_, .elem _ _ _ _ _ _ ⟨_, _, rfl⟩ hg fun e => ?_⟩
          · simp [Instr.indexAt, asIntOf, run_underlying hu, Instr.sureAddr, hb, run_size hl, add_mul]
          · obtain ⟨b', n', cap, ha, hv⟩ := he e
            simp at hv
            obtain ⟨rfl, rfl⟩ := hv
            exact ⟨b, n', cap, ha, by simp [Nat.add_assoc]⟩
      · simp at hq
    · simp at hm
  · rename_i e agg s full xs
    rcases hu with ⟨m, hm, _⟩ | ⟨_, hu⟩
    · simp at hm
    · split at hq
      · rename_i hi
        rw [Option.bind_eq_some_iff] at hq
        obtain ⟨x, hx, hq⟩ := hq
        split at hq
        · rename_i hs
          simp at hq; subst hq
          obtain ⟨b, off, cap, rfl, hr⟩ := hv.fv_inv.elem hx
          rw [hs] at hr
          refine ⟨_, ?_, .fv _ _ hr⟩
          have hlt := (List.getElem?_eq_some_iff.1 hx).1
          have hb : 0 ≤ i ∧ i < (xs.length : Int) := by omega
          simp only at hl
          simp [Instr.indexAt, asIntOf, run_underlying hu, hb, run_size hl, add_mul]
        · simp at hq
      · simp at hq
  · rename_i e agg s o g
    rcases hu with ⟨m, hm, _⟩ | ⟨_, hu⟩
    · simp at hm
    · rw [Option.bind_eq_some_iff] at hq
      obtain ⟨⟨e', es, fz, nil, xs⟩, hb, hq⟩ := hq
      simp only at hq
      split at hq
      · rename_i hi
        obtain ⟨h0, hlt, rfl⟩ := hi
        simp at hq; subst hq
        obtain ⟨rfl, ho⟩ := AH.lst_spec hb
        obtain ⟨⟨vs, hown, hnil, hes, hlen, hrep⟩, _⟩ := H.obj o _ ho
        cases hv with
        | gl _ _ _ hp hg he =>
          have := he rfl
          subst this
          rcases hown.2 with ⟨hn, hz⟩ | ⟨b, cap, cur, ha, _⟩
          · omega
          · have hb : 0 ≤ i ∧ i < (xs.length : Int) := by omega
            simp only at hl
            refine ⟨.pointer (some ⟨b, i.toNat * es, none⟩), ?_, .elem _ _ _ _ _ _ ⟨_, _, rfl⟩ hg fun _ => ⟨b, _, cap, ha, rfl⟩⟩
            rw [ha]
            simp [Instr.indexAt, asIntOf, run_underlying hu, hb, run_size hl, add_mul]
      · simp at hq
  · simp at hq
end
end Abs

