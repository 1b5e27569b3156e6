/- A part of the proof: Abs12. -/
import Derived.Test.YtmanbdacloeioaaAbs11
set_option linter.unusedSimpArgs false
set_option linter.unusedVariables false
namespace Abs
open Go
open Go.RowKit (Below)
section
variable {P : Program} {cx : Cx} {w : World} {D : Nat → Prop} {h : AH} {an : Nat → Value}

/-- The elements of a list, as they lie in the world. -/
theorem elems_spec (H : Heap P cx h w D an) {v : Value} {y : LV} {ys : List FV} {es : Nat} (hv : LVRep P w D h.gen an v y) (hq : elemsOf h y = some ys) (hes : ∀ x ∈ ys, x.cells.length = es) :
    (v = .slice none 0 0 ∧ ys = []) ∨ ∃ (ad : Addr) (c : Nat) (news : List Value), v = .slice (some ad) ys.length c ∧ news.length = ys.length * es ∧ (∀ (j : Nat) (u : Value), news[j]? = some u → w.cell? (ad.add j) = some u) ∧
      (∀ u ∈ news, u.oneCell' = true) ∧ (∀ x ∈ ys, x.cells.all FV.one = true) ∧ ∀ (j : Nat) (z : FV) (u : Value), (FV.flat ys)[j]? = some z → news[j]? = some u → Rep w D u z := by
  unfold elemsOf at hq
  split at hq
  · rename_i full ys'
    simp only [Option.some.injEq] at hq
    subst hq
    have hr := hv.fv_inv
    cases hr with
    | empty _ ad => exact .inr ⟨ad, 0, [], rfl, by simp, by simp, by simp, by simp, by simp [FV.flat]⟩
    | list _ _ b off cap es' cs hcap hmax hfull hes' hlen hDb hcell hrep =>
      right
      have hfl := flat_length hes
      refine ⟨⟨b, off, none⟩, cap, (List.range (ys'.length * es)).map cs, rfl, by simp, ?_, ?_, fun x hx => (hlen x hx).2, ?_⟩
      · intro j u hu
        simp only [List.getElem?_map, Option.map_eq_some_iff] at hu
        obtain ⟨k, hk, rfl⟩ := hu
        have hj : j < ys'.length * es := by
          rcases Nat.lt_or_ge j (ys'.length * es) with h | h
          · exact h
          · rw [List.getElem?_eq_none (by simpa using h)] at hk; simp at hk
        rw [List.getElem?_range hj] at hk
        simp at hk; subst hk
        rw [lone_add]
        exact hcell j (FV.flat ys')[j] (by simp [hfl, hj])
      · intro u hu
        simp only [List.mem_map, List.mem_range] at hu
        obtain ⟨j, hj, rfl⟩ := hu
        have hz : (FV.flat ys')[j]? = some (FV.flat ys')[j] := by simp [hfl, hj]
        refine (hrep j _ hz).oneCell ?_
        have : (FV.flat ys')[j] ∈ FV.flat ys' := List.getElem_mem _
        simp only [FV.flat, List.mem_flatMap] at this
        obtain ⟨x, hx, hxm⟩ := this
        exact List.all_eq_true.1 (hlen x hx).2 _ hxm
      · intro j z u hz hu
        have hj : j < ys'.length * es := by rw [← hfl]; exact (List.getElem?_eq_some_iff.1 hz).1
        simp only [List.getElem?_map, List.getElem?_range hj, Option.map_some, Option.some.injEq] at hu
        subst hu
        exact hrep j z hz
  · simp only [Option.some.injEq] at hq
    subst hq
    left; exact ⟨Rep.val_inv hv.fv_inv, rfl⟩
  · rename_i o g
    simp only [Option.map_eq_some_iff] at hq
    obtain ⟨⟨e, es', fz, nil, xs⟩, hb, rfl⟩ := hq
    obtain ⟨rfl, ho⟩ := AH.lst_spec hb
    obtain ⟨⟨vs, hown, hnil, hes', hlen, hrep⟩, _⟩ := H.obj _ _ ho
    cases hv with
    | gl _ _ _ hp hg he =>
      have := he rfl
      subst this
      have hone : ∀ u ∈ vs, u.oneCell' = true := by
        intro u hu
        obtain ⟨j, hj, rfl⟩ := List.mem_iff_getElem.1 hu
        have hfl := flat_length fun x hx => (hlen x hx).1
        have hjf : j < (FV.flat xs).length := by rw [hfl, ← hown.1]; exact hj
        refine (hrep j (FV.flat xs)[j] vs[j] (by simp [hjf]) (by simp)).oneCell ?_
        have : (FV.flat xs)[j] ∈ FV.flat xs := List.getElem_mem _
        simp only [FV.flat, List.mem_flatMap] at this
        obtain ⟨x, hx, hxm⟩ := this
        exact List.all_eq_true.1 (hlen x hx).2 _ hxm
      rcases hown.2 with ⟨hn, hz⟩ | ⟨b, cap, cur, ha, hB, hw, _⟩
      · left; exact ⟨hn, List.eq_nil_of_length_eq_zero hz⟩
      · right
        refine ⟨⟨b, 0, none⟩, cap, vs, ha, ?_, hown.cells (by rw [ha]; rfl), hone, fun x hx => (hlen x hx).2, hrep⟩
        rw [hown.1]
        cases hxs : xs with
        | nil => simp
        | cons x l =>
          have e1 := (hlen x (by simp [hxs])).1
          have e2 := hes x (by simp [hxs])
          rw [← e1, e2]
  · simp at hq

theorem append_nil2 {t e : Nat} {agg : Bool} {es : Nat} (hi : idx P t = some (none, e, agg, es)) (hn : Bool) {B n : Nat} {v : Value} {vs : List Value} (hown : w.ownsRow B e es v n vs) (ty : Nat) :
    (Builtin.append_ #[t, t] ty #[v, .slice none 0 0]).run P w = .ok v w := by
  obtain ⟨hl, hu⟩ := idx_spec hi
  rcases hu with ⟨m', hm, _⟩ | ⟨_, hu⟩
  · simp at hm
  simp only at hl hu
  obtain ⟨i, hinfo, hsz⟩ := lay_idx hl
  rcases hown.2 with ⟨rfl, _⟩ | ⟨b, cap, cur, rfl, hB, hw, hnc, _⟩
  · simp [Builtin.append_, run_underlying hu, Go.sizeOf, typeInfo, hinfo, Builtin.lenOf, Builtin.firstCells]
  · simp [Builtin.append_, run_underlying hu, Go.sizeOf, typeInfo, hinfo, Builtin.lenOf, Builtin.firstCells, hnc, storeCells]

/-- What an append leaves of a list of the activation's own. -/
theorem append_own {t e : Nat} {agg : Bool} {es : Nat} (hi : idx P t = some (none, e, agg, es)) (hzs : (zeros P e).isSome = true) {B : Nat} (hB : B ≤ w.heap.size) {v : Value} {nil : Bool} {xs ys : List FV} (ho : OwnList w D B v e es nil xs)
    (hDv : ∀ b, blk v = some b → ¬ D b) (hlt : ∀ b, D b → b < w.heap.size)
    {vy : Value} (hy : (vy = .slice none 0 0 ∧ ys = []) ∨ ∃ (ad : Addr) (c : Nat) (news : List Value), vy = .slice (some ad) ys.length c ∧ news.length = ys.length * es ∧ (∀ (j : Nat) (u : Value), news[j]? = some u → w.cell? (ad.add j) = some u) ∧
      (∀ u ∈ news, u.oneCell' = true) ∧ (∀ x ∈ ys, x.cells.all FV.one = true) ∧ ∀ (j : Nat) (z : FV) (u : Value), (FV.flat ys)[j]? = some z → news[j]? = some u → Rep w D u z)
    (hes : ∀ x ∈ ys, x.cells.length = es) (hbytes : (xs.length + ys.length) * P.bytesOf e ≤ 140737488355328) (hmax : xs.length + ys.length ≤ maxLen) (ty : Nat) :
    ∃ v' w', (Builtin.append_ #[t, t] ty #[v, vy]).run P w = .ok v' w' ∧ OwnList w' D B v' e es (nil && ys.isEmpty) (xs ++ ys) ∧ w.grownBy w' (blk v) ∧ (blk v' = blk v ∨ (blk v' = some w.heap.size ∧ w.heap.size < w'.heap.size)) := by
  obtain ⟨zs, hz⟩ := Option.isSome_iff_exists.1 hzs
  obtain ⟨i, z, hinfo, hz0, rfl, hzsz, hz1, _⟩ := zeros_spec hz
  obtain ⟨vs, hown, hnil, hes0, hlen, hrep⟩ := ho
  rcases hy with ⟨rfl, rfl⟩ | ⟨ad, c, news, rfl, hnl, hncell, hn1, hyone, hnrep⟩
  · refine ⟨v, w, append_nil2 hi nil hown ty, ⟨vs, by simpa using hown, by simpa using hnil, hes0, by simpa using hlen, by simpa using hrep⟩, ⟨rfl, rfl, rfl, Nat.le_refl _, fun _ _ _ => rfl⟩, .inl rfl⟩
  · obtain ⟨hl, hu⟩ := idx_spec hi
    rcases hu with ⟨m', hm, _⟩ | ⟨_, hu⟩
    · simp at hm
    simp only at hl hu
    obtain ⟨i', hinfo', hsz⟩ := lay_idx hl
    rw [hinfo] at hinfo'; simp at hinfo'; subst hinfo'
    have hby : P.bytesOf e = i.bytes := by simp [Program.bytesOf, hinfo]
    have hbl : v.ownBlock = blk v := by
      rcases hown.2 with ⟨rfl, _⟩ | ⟨g, cap, cur, rfl, _⟩ <;> rfl
    obtain ⟨v', w', hr, hown', hgr, hnil'⟩ := run_append_own (P := P) w B t ty e i z es i.bytes hu hinfo hz0 hsz rfl (by omega) hes0 v xs.length vs hown ad ys.length c news hnl hncell hn1 hmax (by rw [← hby]; exact hbytes) hB
    rw [hbl] at hgr
    have hkeep : ∀ k, D k → w'.heap[k]? = w.heap[k]? := fun k hk => hgr.block k (hlt k hk) (fun e => hDv k e.symm hk)
    refine ⟨v', w', hr, ⟨vs ++ news, by simpa using hown', ?_, hes0, ?_, ?_⟩, hgr, ?_⟩
    · simp only [Bool.and_eq_true, List.isEmpty_iff]
      rw [hnil', hnil]
      constructor
      · rintro ⟨h1, h2⟩; exact ⟨h1, by simp [h2]⟩
      · rintro ⟨h1, h2⟩; exact ⟨h1, List.eq_nil_of_length_eq_zero h2⟩
    · intro x hx
      rcases List.mem_append.1 hx with hx | hx
      · exact hlen x hx
      · exact ⟨hes x hx, hyone x hx⟩
    · intro j y u hy hu'
      have hfx := flat_length fun x hx => (hlen x hx).1
      have hvl := hown.1
      rw [show FV.flat (xs ++ ys) = FV.flat xs ++ FV.flat ys by simp [FV.flat]] at hy
      by_cases hj : j < (FV.flat xs).length
      · rw [List.getElem?_append_left hj] at hy
        rw [List.getElem?_append_left (by omega)] at hu'
        exact (hrep j y u hy hu').keep (fun _ h => h) hkeep
      · rw [List.getElem?_append_right (by omega)] at hy hu'
        rw [show j - vs.length = j - (FV.flat xs).length by omega] at hu'
        exact (hnrep _ y u hy hu').keep (fun _ h => h) hkeep
    · -- the new row, or the elder one
      rcases hown'.2 with ⟨hn', _⟩ | ⟨g, cap, cur, hv', hB', hg', _⟩
      · have := hnil'.1 hn'
        left; rw [hn', this.1]
      · rw [hv']
        simp only [blk]
        by_cases hgs : g < w.heap.size
        · left
          rcases hown.2 with ⟨rfl, hz⟩ | ⟨g0, cap0, cur0, rfl, hB0, hg0, hnc0, hcm0, hcs0, _⟩
          · -- a nil list grows into a new row
            by_cases hm0 : ys.length = 0
            · have := hnil'.2 ⟨rfl, hm0⟩
              rw [this] at hv'; simp at hv'
            · have hrn := run_append_nil (P := P) w t ty e i z hu hinfo hz0 ad ys.length c news (by rw [hnl, hsz]) hncell (by omega) (by simp only [maxLen] at hmax; omega) (by rw [hby] at hbytes; have : ys.length * i.bytes ≤ (xs.length + ys.length) * i.bytes := Nat.mul_le_mul_right _ (by omega); omega)
              rw [hrn] at hr
              simp only [Result.ok.injEq] at hr
              rw [← hr.1] at hv'
              simp at hv'
          · simp only [Option.some.injEq]
            by_cases hroom : xs.length + ys.length ≤ cap0
            · have hfit : xs.length * i.size + news.length ≤ cur0.size := by rw [hnl, hcs0, hsz, ← Nat.add_mul]; exact Nat.mul_le_mul_right _ hroom
              have hrr := run_append_room (P := P) w t ty e i hu hinfo g0 xs.length cap0 cur0 hg0 ad ys.length c news (by rw [hnl, hsz]) hncell hn1 hroom hfit
              rw [hrr] at hr
              simp only [Result.ok.injEq] at hr
              rw [← hr.1] at hv'
              simp at hv'
              exact hv'.1.symm
            · have hrg := run_append_grow (P := P) w t ty e i z hu hinfo hz0 ⟨g0, 0, none⟩ xs.length cap0 vs (by rw [hown.1, hsz]) (hown.cells rfl) ad ys.length c news (by rw [hnl, hsz]) hncell (by omega) (by simp only [maxLen] at hmax; omega) (growslice_fits (by omega) (by rw [← hby]; exact hbytes))
              rw [hrg] at hr
              simp only [Result.ok.injEq] at hr
              rw [← hr.1] at hv'
              simp at hv'
        · right
          have hgl : g < w'.heap.size := (Array.getElem?_eq_some_iff.1 hg').1
          -- the run tells where
          rcases hown.2 with ⟨rfl, hz⟩ | ⟨g0, cap0, cur0, rfl, hB0, hg0, hnc0, hcm0, hcs0, _⟩
          · by_cases hm0 : ys.length = 0
            · have := hnil'.2 ⟨rfl, hm0⟩
              rw [this] at hv'; simp at hv'
            · have hrn := run_append_nil (P := P) w t ty e i z hu hinfo hz0 ad ys.length c news (by rw [hnl, hsz]) hncell (by omega) (by simp only [maxLen] at hmax; omega) (by rw [hby] at hbytes; have : ys.length * i.bytes ≤ (xs.length + ys.length) * i.bytes := Nat.mul_le_mul_right _ (by omega); omega)
              rw [hrn] at hr
              simp only [Result.ok.injEq] at hr
              rw [← hr.1] at hv'
              simp at hv'
              exact ⟨by simp; omega, by omega⟩
          · have hg0l : g0 < w.heap.size := (Array.getElem?_eq_some_iff.1 hg0).1
            by_cases hroom : xs.length + ys.length ≤ cap0
            · have hfit : xs.length * i.size + news.length ≤ cur0.size := by rw [hnl, hcs0, hsz, ← Nat.add_mul]; exact Nat.mul_le_mul_right _ hroom
              have hrr := run_append_room (P := P) w t ty e i hu hinfo g0 xs.length cap0 cur0 hg0 ad ys.length c news (by rw [hnl, hsz]) hncell hn1 hroom hfit
              rw [hrr] at hr
              simp only [Result.ok.injEq] at hr
              rw [← hr.1] at hv'
              simp at hv'
            · have hrg := run_append_grow (P := P) w t ty e i z hu hinfo hz0 ⟨g0, 0, none⟩ xs.length cap0 vs (by rw [hown.1, hsz]) (hown.cells rfl) ad ys.length c news (by rw [hnl, hsz]) hncell (by omega) (by simp only [maxLen] at hmax; omega) (growslice_fits (by omega) (by rw [← hby]; exact hbytes))
              rw [hrg] at hr
              simp only [Result.ok.injEq] at hr
              rw [← hr.1] at hv'
              simp at hv'
              exact ⟨by simp; omega, by omega⟩

theorem pfx_run {dst : Option Nat} {type : Nat} {pos : String} {after : Array Edge} {guard : Option (Nat × Bool)} {a : Act} {s x : Operand} {t t' : Nat} {v : Value} {w' : World}
    (hr : (Builtin.append_ #[t, t'] type #[a.eval s, a.eval x]).run P w = .ok v w') :
    (execOp a.eval ⟨dst, .call { callee := .builtin .append, args := #[s, x], argTypes := #[t, t'] }, type, pos, after, guard⟩).run P w = .ok (.value v) w' := by
  simp [execOp, resolve, invoke, builtin, hr]

theorem OwnList.ge {B : Nat} {v : Value} {e es : Nat} {nil : Bool} {xs : List FV} (h : OwnList w D B v e es nil xs) : ∀ b, blk v = some b → B ≤ b := by
  obtain ⟨vs, hown, _⟩ := h
  intro b hb
  rcases hown.2 with ⟨rfl, _⟩ | ⟨g, cap, cur, rfl, hB, _⟩
  · simp [blk] at hb
  · simp [blk] at hb; omega
theorem OwnList.oneCell {B : Nat} {v : Value} {e es : Nat} {nil : Bool} {xs : List FV} (h : OwnList w D B v e es nil xs) : v.oneCell' = true := by
  obtain ⟨vs, hown, _⟩ := h
  rcases hown.2 with ⟨rfl, _⟩ | ⟨g, cap, cur, rfl, hB, _⟩ <;> rfl

theorem append_sound (H : Heap P cx h w D an) {ρ : Nat → LV} {a : Act} (hs : ∀ i, LVRep P w D h.gen an (a.tmps.getD i Go.undef) (ρ i)) (o : Oper) (args : Array Operand) (tys : Array TypeId) (ho : o.op = .call { callee := .builtin .append, args := args, argTypes := tys })
    {K : LV → AH → Prop} (hq : effV P o.dst o.op o.type (evL ρ) h K) : Left P cx h w D an ((execOp a.eval o).run P w) K := by
  obtain ⟨dst, op, type, pos, after, guard⟩ := o
  simp only at ho
  subst ho
  simp only [effV] at hq
  split at hq
  · rename_i s x t t' hargs htys
    have ha' : args = #[s, x] := by rw [← Array.toList_inj, hargs]
    have ht' : tys = #[t, t'] := by rw [← Array.toList_inj, htys]
    subst ha'; subst ht'
    obtain ⟨rfl, hq⟩ := hq
    have hsv := ev_sound (P := P) (w := w) (D := D) (an := an) hs s
    have hxv := ev_sound (P := P) (w := w) (D := D) (an := an) hs x
    split at hq
    · rename_i o g hes hex
      obtain ⟨e, es, nil, xs, hb, ⟨agg, hi⟩, hK⟩ := hq
      obtain ⟨rfl, hobj⟩ := AH.lst_spec hb
      obtain ⟨⟨vs, hown, _⟩, _⟩ := H.obj _ _ hobj
      rw [hes] at hsv
      rw [hex] at hxv
      have e1 := Rep.val_inv hxv.fv_inv
      refine .quiet H (v := a.eval s) (pfx_run ?_) hsv hK
      rw [e1]
      generalize a.eval s = v at hsv ⊢
      cases hsv with
      | gl _ _ _ hp hg he =>
        rw [he rfl]
        exact append_nil2 hi nil hown type
    · rename_i o g hes hne
      obtain ⟨e, es, nil, xs, ys, hb, ⟨agg, hi⟩, hel, hlen, hz, hby, hmax, hK⟩ := hq
      obtain ⟨rfl, hobj⟩ := AH.lst_spec hb
      obtain ⟨hown, hfz⟩ := H.obj _ _ hobj
      rw [hes] at hsv
      have hnD : ∀ b, blk (an o) = some b → ¬ D b := fun b hb => (hfz b hb).2 rfl
      obtain ⟨v', w', hr, hown', hgr, hbl⟩ := append_own (P := P) (B := 0) hi hz (Nat.zero_le _) hown hnD H.lt (elems_spec H hxv hel hlen) hlen hby hmax type
      have hsv' : a.eval s = an o := by
        generalize a.eval s = v at hsv ⊢
        cases hsv with
        | gl _ _ _ hp hg he => exact he rfl
      have hge : ∀ b, blk (an o) = some b → cx.wi.heap.size ≤ b ∨ cx.Ow b := fun b hb => H.ow o _ b hobj hb
      have hkeepD : ∀ b, D b → w'.heap[b]? = w.heap[b]? := fun b hb => hgr.block b (H.lt b hb) (fun e => hnD b e.symm hb)
      have hsize : w.heap.size ≤ w'.heap.size := hgr.size
      have hbel : BelowM cx.M cx.wi.heap.size w w' := ⟨hgr.os, hgr.tape, hgr.output, hsize, fun k hk hm => hgr.block k (by have := H.below.size; omega) (fun e => by
        rcases hge k e.symm with h | h
        · omega
        · exact hm (cx.sub _ h))⟩
      have hext : Ext w D h.gen an w' D (upd h.gen o (h.gen o + 1)) (upd an o v') := by
        refine ⟨fun _ h => h, hkeepD, fun o' => ?_, fun o' ho' => ?_⟩
        · simp only [upd]; split
          · rename_i e; rw [e]; omega
          · exact Nat.le_refl _
        · simp only [upd] at ho' ⊢; split
          · rename_i e; rw [if_pos e] at ho'; rw [e] at ho'; omega
          · rfl
      have hv'D : ∀ b, blk v' = some b → ¬ D b := by
        intro b hb' hD
        rcases hbl with h1 | ⟨h1, _⟩
        · exact hnD b (by rw [← h1]; exact hb') hD
        · rw [h1] at hb'; simp at hb'; subst hb'; have := H.lt _ hD; omega
      refine ⟨_, _, v', w', D, upd an o v', hK, .inl (pfx_run (by rw [hsv']; exact hr)), ?_, hext, .gl _ _ _ hown'.oneCell (by simp [AH.renew, upd]) fun _ => by simp [upd]⟩
      refine H.step (h' := h.renew o (h.gen o + 1) (.list e es false (nil && ys.isEmpty) (xs ++ ys))) o hbel hext.dd hext.keep (fun b hb => Nat.lt_of_lt_of_le (H.lt b hb) hsize) (fun _ h => .inl h) hext.mono hext.anc ?_ ?_ ?_ ?_ ?_ ?_ rfl (fun b hb hno => hgr.block b hb (fun e => hno _ hobj e.symm)) ?_
      · intro o' ho'; simp [AH.renew, upd, ho']
      · intro o' ho'; simp [upd, ho']
      · intro o' b ob hne' hob hb'
        exact ⟨hgr.block b (H.blk_lt hob hb') (fun e => hne' (H.sep o' o b ob _ hob hobj hb' e.symm)), fun h => h⟩
      · intro ob hob
        simp only [AH.renew, upd, if_true, Option.some.injEq] at hob
        subst hob
        simp only [AH.renew, upd, if_true]
        exact ⟨hown', fun b hb' => ⟨by simp, fun _ => hv'D b hb'⟩⟩
      · intro ob b _ hb'
        simp only [upd, if_true] at hb'
        rcases hbl with h1 | ⟨h1, _⟩
        · exact hge b (by rw [← h1]; exact hb')
        · rw [h1] at hb'; simp at hb'; have := H.below.size; exact .inl (by omega)
      · intro o' b ob ob' hne' hob _ hb' hb''
        simp only [upd, if_true] at hb''
        rcases hbl with h1 | ⟨h1, _⟩
        · exact hne' (H.sep o' o b ob _ hob hobj hb' (by rw [← h1]; exact hb''))
        · rw [h1] at hb''; simp at hb''; have := H.blk_lt hob hb'; omega
      · intro ob b _ hb' hY
        simp only [upd, if_true] at hb'
        rcases hbl with h1 | ⟨h1, _⟩
        · exact H.ysep o _ b hobj (by rw [← h1]; exact hb') hY
        · rw [h1] at hb'; simp at hb'; have := H.ylt b hY; omega
    · rename_i hes
      obtain ⟨e, es, d', ys, ⟨agg, hi⟩, hd, hes0, hel, hlen, hz, hby, hmax, hK⟩ := hq
      rw [hes] at hsv
      have e1 := Rep.val_inv hsv.fv_inv
      have hown : OwnList w D 0 (.slice none 0 0) e es true [] := ⟨[], ⟨by simp, .inl ⟨rfl, rfl⟩⟩, by simp, hes0, by simp, by simp⟩
      obtain ⟨v', w', hr, hown', hgr, hbl⟩ := append_own (P := P) (B := 0) hi hz (Nat.zero_le _) hown (by simp [blk]) H.lt (elems_spec H hxv hel hlen) hlen (by simpa using hby) (by simpa using hmax) type
      simp only [Bool.true_and, List.nil_append] at hown'
      rcases hbl with h1 | ⟨h1, h2⟩
      · -- nothing was appended
        have hnone : blk v' = none := by rw [h1]; rfl
        have hv'n : v' = .slice none 0 0 := by
          obtain ⟨vs, ho, _⟩ := hown'
          rcases ho.2 with ⟨hn, _⟩ | ⟨g, cap, cur, ha, _⟩
          · exact hn
          · rw [ha] at hnone; simp [blk] at hnone
        have hysn : ys = [] := by
          obtain ⟨vs, ho, hnil, _⟩ := hown'
          have := hnil.2 hv'n
          simpa using this
        subst hysn
        subst hv'n
        have hww : w' = w := by
          rcases elems_spec H hxv hel hlen with ⟨hvy, _⟩ | ⟨⟨b, off, sp⟩, c, news, hvy, hnl, _⟩
          · rw [hvy, append_nil2 hi true ⟨by simp, .inl ⟨rfl, rfl⟩⟩ type (B := 0) (n := 0) (vs := [])] at hr
            simp at hr; exact hr.symm
          · obtain ⟨hl, hu⟩ := idx_spec hi
            rcases hu with ⟨m', hm, _⟩ | ⟨_, hu⟩
            · simp at hm
            simp only at hl hu
            obtain ⟨i', hinfo', hsz⟩ := lay_idx hl
            rw [hvy] at hr
            simp [Builtin.append_, run_underlying hu, Go.sizeOf, typeInfo, hinfo', Builtin.lenOf, Builtin.firstCells, loadCells, loadCellsFrom, storeCells] at hr
            exact hr.symm
        subst hww
        obtain ⟨e1', e2, e3⟩ := nil_new H d' e es hes0
        exact ⟨_, _, _, _, _, _, hK, .inl (pfx_run (by rw [e1]; exact hr)), e1', e2, e3⟩
      · have hb : Below w.heap.size w w' := ⟨hgr.os, hgr.tape, hgr.output, hgr.size, fun k hk => hgr.block k hk (by simp [blk])⟩
        obtain ⟨e1', e2, e3⟩ := list_new H d' hb h2 (.inl h1) hown'
        exact ⟨_, _, _, _, _, _, hK, .inl (pfx_run (by rw [e1]; exact hr)), e1', e2, e3⟩
    · rename_i xs hes
      obtain ⟨e, es, d', ys, ⟨agg, hi⟩, hd, hes0, hel, hne, hxlen, hlen, hz, hby, hmax, hK⟩ := hq
      rw [hes] at hsv
      have hsr := hsv.fv_inv
      generalize hgen : a.eval s = v at hsr
      obtain ⟨ad, cap, cs, hva, hcl, hcell, hrep, hlen'⟩ : ∃ (ad : Addr) (cap : Nat) (cs : Nat → Value), v = .slice (some ad) xs.length cap ∧ cap = xs.length ∧ (∀ (j : Nat) (y : FV), (FV.flat xs)[j]? = some y → w.cell? (ad.add j) = some (cs j)) ∧
          (∀ (j : Nat) (y : FV), (FV.flat xs)[j]? = some y → Rep w D (cs j) y) ∧ ∀ x ∈ xs, x.cells.all FV.one = true := by
        cases hsr with
        | empty _ ad => exact ⟨ad, 0, fun _ => Go.undef, rfl, rfl, by simp [FV.flat], by simp [FV.flat], by simp⟩
        | list _ _ b off cap es' cs hcap hmax' hfull hes' hlen' hDb hcell hrep =>
          exact ⟨⟨b, off, none⟩, cap, cs, rfl, hfull rfl, fun j y hy => by rw [lone_add]; exact hcell j y hy, hrep, fun x hx => (hlen' x hx).2⟩
      · subst hva
        rcases elems_spec H hxv hel hlen with ⟨hvy, hyn⟩ | ⟨ad2, c2, news, hvy, hnl, hncell, hn1, hyone, hnrep⟩
        · exact absurd hyn hne
        · obtain ⟨zs, hz'⟩ := Option.isSome_iff_exists.1 hz
          obtain ⟨i, z, hinfo, hz0, rfl, hzsz, hz1, _⟩ := zeros_spec hz'
          obtain ⟨hl, hu⟩ := idx_spec hi
          rcases hu with ⟨m', hm, _⟩ | ⟨_, hu⟩
          · simp at hm
          simp only at hl hu
          obtain ⟨i', hinfo', hsz⟩ := lay_idx hl
          rw [hinfo] at hinfo'; simp at hinfo'; subst hinfo'
          have hfl := flat_length hxlen
          have hbyb : P.bytesOf e = i.bytes := by simp [Program.bytesOf, hinfo]
          have hyl : 0 < ys.length := by cases ys with | nil => exact absurd rfl hne | cons => simp
          have hrg := run_append_grow (P := P) w t type e i z hu hinfo hz0 ad xs.length cap ((List.range (xs.length * es)).map cs) (by simp [hsz]) (by
            intro j u hu'
            have hj : j < xs.length * es := by
              have := (List.getElem?_eq_some_iff.1 hu').1; simpa using this
            simp only [List.getElem?_map, List.getElem?_range hj, Option.map_some, Option.some.injEq] at hu'
            subst hu'
            exact hcell j (FV.flat xs)[j] (by simp [hfl, hj])) ad2 ys.length c2 news (by rw [hnl, hsz]) hncell (by omega) (by simp only [maxLen] at hmax; omega) (growslice_fits (by omega) (by rw [← hbyb]; exact hby))
          have hge := grownCap_ge w (xs.length + ys.length) cap e
          have hcm := grownCap_le_maxLen w (xs.length + ys.length) cap e hmax
          obtain ⟨C, hC⟩ : ∃ C, C = (((List.range (xs.length * es)).map cs).toArray ++ news.toArray ++ Builtin.zeroCells z.cells (grownCap w (xs.length + ys.length) cap e - (xs.length + ys.length))) := ⟨_, rfl⟩
          rw [← hC] at hrg
          have hCs : C.size = grownCap w (xs.length + ys.length) cap e * es := by
            rw [hC]
            simp only [Array.size_append, List.size_toArray, size_zeroCells, List.length_map, List.length_range, hnl]
            rw [hzsz, hsz, ← Nat.add_mul, ← Nat.add_mul]; congr 1; omega
          have hb : Below w.heap.size w (w.drew.alloc (.cells C e)) := ((Below.refl _ w).drew).alloc (Nat.le_refl _) _
          have hol : OwnList (w.drew.alloc (.cells C e)) D 0 (.slice (some ⟨w.heap.size, 0, none⟩) (xs.length + ys.length) (grownCap w (xs.length + ys.length) cap e)) e es false (xs ++ ys) := by
            refine ⟨(List.range (xs.length * es)).map cs ++ news, ⟨by simp [hnl, Nat.add_mul], .inr ⟨w.heap.size, _, C, by simp, Nat.zero_le _, heap_alloc_new w.drew _, by simpa using hge, hcm, hCs, ?_⟩⟩, by simp, hes0, ?_, ?_⟩
            · rw [hC]
              simp only [Array.toList_append, List.append_assoc]
              rw [← List.append_assoc]
              refine List.take_left' ?_
              simp [hnl, Nat.add_mul]
            · intro x hx
              rcases List.mem_append.1 hx with hx | hx
              · exact ⟨hxlen x hx, hlen' x hx⟩
              · exact ⟨hlen x hx, hyone x hx⟩
            · intro j y u hy hu'
              rw [show FV.flat (xs ++ ys) = FV.flat xs ++ FV.flat ys by simp [FV.flat]] at hy
              by_cases hj : j < (FV.flat xs).length
              · rw [List.getElem?_append_left hj] at hy
                rw [List.getElem?_append_left (by simp; omega)] at hu'
                simp only [List.getElem?_map, List.getElem?_range (show j < xs.length * es by omega), Option.map_some, Option.some.injEq] at hu'
                subst hu'
                exact (hrep j y hy).keep (fun _ h => h) fun b hb' => hb.block b (H.lt b hb')
              · rw [List.getElem?_append_right (by omega)] at hy
                rw [List.getElem?_append_right (by simp; omega)] at hu'
                rw [show j - ((List.range (xs.length * es)).map cs).length = j - (FV.flat xs).length by simp [hfl]] at hu'
                exact (hnrep _ y u hy hu').keep (fun _ h => h) fun b hb' => hb.block b (H.lt b hb')
          obtain ⟨e1', e2, e3⟩ := list_new H d' hb (by simp) (.inl rfl) hol
          exact ⟨_, _, _, _, _, _, hK, .inl (pfx_run (by rw [hgen, hvy]; exact hrg)), e1', e2, e3⟩
    · exact hq.elim
  · exact hq.elim
end
end Abs

