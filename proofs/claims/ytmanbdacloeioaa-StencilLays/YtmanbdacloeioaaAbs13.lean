/- A part of the proof: Abs13. -/
import Derived.Test.YtmanbdacloeioaaAbs12
set_option linter.unusedSimpArgs false
set_option linter.unusedVariables false
namespace Abs
open Go
open Go.RowKit (Below)
theorem flat_drop {es : Nat} : ∀ (zs : List FV) (n : Nat), (∀ x ∈ zs, x.cells.length = es) → FV.flat (zs.drop n) = (FV.flat zs).drop (n * es) := by
  intro zs
  induction zs with
  | nil => intro n _; simp [FV.flat]
  | cons z zs ih =>
    intro n hz
    cases n with
    | zero => simp
    | succ n =>
      simp only [List.drop_succ_cons]
      rw [ih n fun x hx => hz x (by simp [hx])]
      simp only [FV.flat, List.flatMap_cons]
      rw [Nat.add_mul, Nat.one_mul, Nat.add_comm (n * es), ← hz z (by simp), List.drop_append]
      simp [List.drop_drop]
theorem flat_take {es : Nat} : ∀ (zs : List FV) (n : Nat), (∀ x ∈ zs, x.cells.length = es) → FV.flat (zs.take n) = (FV.flat zs).take (n * es) := by
  intro zs
  induction zs with
  | nil => intro n _; simp [FV.flat]
  | cons z zs ih =>
    intro n hz
    cases n with
    | zero => simp [FV.flat]
    | succ n =>
      simp only [List.take_succ_cons, FV.flat, List.flatMap_cons] at *
      rw [ih n fun x hx => hz x (by simp [hx])]
      rw [Nat.add_mul, Nat.one_mul, Nat.add_comm (n * es), ← hz z (by simp), List.take_append]
      simp [List.take_of_length_le]
section
variable {P : Program} {cx : Cx} {w : World} {D : Nat → Prop} {h : AH} {an : Nat → Value}

theorem copy_sound (H : Heap P cx h w D an) {ρ : Nat → LV} {a : Act} (hs : ∀ i, LVRep P w D h.gen an (a.tmps.getD i Go.undef) (ρ i)) (o : Oper) (args : Array Operand) (tys : Array TypeId) (ho : o.op = .call { callee := .builtin .copy, args := args, argTypes := tys })
    {K : LV → AH → Prop} (hq : effV P o.dst o.op o.type (evL ρ) h K) : Left P cx h w D an ((execOp a.eval o).run P w) K := by
  obtain ⟨dst, op, type, pos, after, guard⟩ := o
  simp only at ho
  subst ho
  simp only [effV] at hq
  split at hq
  · rename_i s x t tl hargs htys
    have ha' : args = #[s, x] := by rw [← Array.toList_inj, hargs]
    subst ha'
    have ht0 : tys[0]? = some t := by rw [← Array.getElem?_toList, htys]; rfl
    have hsv := ev_sound (P := P) (w := w) (D := D) (an := an) hs s
    have hxv := ev_sound (P := P) (w := w) (D := D) (an := an) hs x
    split at hq
    · rename_i o g hes
      obtain ⟨e, es, nil, xs, ys, hb, ⟨agg, hi⟩, hel, hylen, hne, hK⟩ := hq
      obtain ⟨rfl, hobj⟩ := AH.lst_spec hb
      obtain ⟨⟨vs, hown, hnil, hes0, hlen, hrep⟩, hfz⟩ := H.obj _ _ hobj
      rw [hes] at hsv
      have hsv' : a.eval s = an o := by
        generalize a.eval s = v at hsv ⊢
        cases hsv with
        | gl _ _ _ hp hg he => exact he rfl
      obtain ⟨hl, hu⟩ := idx_spec hi
      rcases hu with ⟨m', hm, _⟩ | ⟨_, hu⟩
      · simp at hm
      simp only at hl hu
      obtain ⟨i', hinfo', hsz⟩ := lay_idx hl
      have hnD : ∀ b, blk (an o) = some b → ¬ D b := fun b hb => (hfz b hb).2 rfl
      have pfx : ∀ {v : Value} {w' : World}, (Builtin.copy_ tys type #[an o, a.eval x]).run P w = .ok v w' →
          (execOp a.eval ⟨dst, .call { callee := .builtin .copy, args := #[s, x], argTypes := tys }, type, pos, after, guard⟩).run P w = .ok (.value v) w' := by
        intro v w' hr
        simp [execOp, resolve, invoke, builtin, hsv', hr]
      -- what is copied
      have hfx := flat_length fun x hx => (hlen x hx).1
      have hfy := flat_length hylen
      have main : ∀ (b n cap : Nat), an o = .slice (some ⟨b, 0, none⟩) n cap → ∀ (cur : Array Value), w.heap[b]? = some (.cells cur e (0, 0)) → n = xs.length → n ≤ cap → cap ≤ maxLen → cur.size = cap * es → cur.toList.take (n * es) = vs → True →
          ∀ (ns : List Value), ns.length = min ys.length xs.length * es → (∀ u ∈ ns, u.oneCell' = true) → (∀ x ∈ ys, x.cells.all FV.one = true) → (∀ (j : Nat) (z : FV) (u : Value), (FV.flat ys)[j]? = some z → ns[j]? = some u → Rep w D u z) →
          (Builtin.copy_ tys type #[an o, a.eval x]).run P w = .ok (.int .i64 (min ys.length xs.length : Nat)) (w.setRow b (splice cur.toList 0 ns).toArray) →
          Left P cx h w D an ((execOp a.eval ⟨dst, .call { callee := .builtin .copy, args := #[s, x], argTypes := tys }, type, pos, after, guard⟩).run P w) K := by
        rintro b n cap ha cur hw rfl hnc hcm hcs htake hB ns hnl hn1 hyone hnrep hr
        have hnDb : ¬ D b := hnD b (by rw [ha]; rfl)
        have hext : Ext w D h.gen an (w.setRow b (splice cur.toList 0 ns).toArray) D h.gen an :=
          ⟨fun _ h => h, fun k hk => setRow_other w b k _ (by rintro rfl; exact hnDb hk), fun _ => Nat.le_refl _, fun _ _ => rfl⟩
        have hmin : min ys.length xs.length * es ≤ xs.length * es := Nat.mul_le_mul_right _ (Nat.min_le_right _ _)
        have hcape : xs.length * es ≤ cap * es := Nat.mul_le_mul_right _ hnc
        have hnlc : 0 + ns.length ≤ cur.toList.length := by simp; omega
        have hnlv : 0 + ns.length ≤ vs.length := by have := hown.1; omega
        refine ⟨_, _, _, _, D, an, hK, .inl (pfx hr), ?_, hext, .fv _ _ (.val _)⟩
        refine H.step o (below_setRow (H.ow o _ b hobj (by rw [ha]; rfl)) _) hext.dd hext.keep (fun k hk => by simpa [World.setRow] using H.lt k hk) (fun _ h => .inl h) hext.mono hext.anc ?_ (fun _ _ => rfl) ?_ ?_ ?_ ?_ rfl (fun b' _ hno => setRow_other w b b' _ (by rintro rfl; exact hno _ hobj (by rw [ha]; rfl))) (fun ob b' _ hb' => H.ysep o _ b' hobj hb')
        · intro o' ho'; simp [AH.set, upd, ho']
        · intro o' b' ob hne hob hb'
          refine ⟨setRow_other w b b' _ ?_, fun h => h⟩
          rintro rfl
          exact hne (H.sep o' o b' ob _ hob hobj hb' (by rw [ha]; rfl))
        · intro ob hob
          simp only [AH.set, upd, if_true, Option.some.injEq] at hob
          subst hob
          have hcl : (splice cur.toList 0 ns).length = cur.size := by rw [splice_length _ _ _ hnlc]; simp
          have hxl : (ys.take xs.length ++ xs.drop ys.length).length = xs.length := by simp; omega
          refine ⟨⟨splice vs 0 ns, ⟨?_, .inr ⟨b, cap, _, by rw [ha, hxl], Nat.zero_le _, setRow_heap w b cur _ e (0, 0) hw, by rw [hxl]; exact hnc, hcm, by rw [List.size_toArray, hcl, hcs], ?_⟩⟩, hnil, hes0, ?_, ?_⟩, hfz⟩
          · rw [splice_length _ _ _ hnlv, hown.1, hxl]
          · apply List.ext_getElem?
            intro j
            rw [List.getElem?_take, hxl]
            simp only
            rw [splice_get _ _ _ _ hnlc, splice_get _ _ _ _ hnlv, ← htake, List.getElem?_take]
            by_cases hj : j < xs.length * es
            · rw [if_pos hj, if_pos hj]
            · rw [if_neg hj, if_neg hj, if_neg (by omega)]
          · intro z hz
            rcases List.mem_append.1 hz with hz | hz
            · have hz' := List.mem_of_mem_take hz
              exact ⟨hylen z hz', hyone z hz'⟩
            · exact hlen z (List.mem_of_mem_drop hz)
          · intro j z u hz hu
            rw [show FV.flat (ys.take xs.length ++ xs.drop ys.length) = FV.flat (ys.take xs.length) ++ FV.flat (xs.drop ys.length) by simp [FV.flat],
              flat_take _ _ hylen, flat_drop _ _ (fun x hx => (hlen x hx).1)] at hz
            have hminmul : min (xs.length * es) (ys.length * es) = min ys.length xs.length * es := by rw [Nat.min_comm, Nat.mul_min_mul_right]
            have htl : ((FV.flat ys).take (xs.length * es)).length = ns.length := by rw [List.length_take, hfy, hnl, hminmul]
            rw [splice_get _ _ _ _ hnlv] at hu
            by_cases hj : j < ns.length
            · rw [List.getElem?_append_left (by omega), List.getElem?_take] at hz
              rw [if_pos (by omega)] at hu
              split at hz
              · exact (hnrep j z u hz (by simpa using hu)).ext hext
              · simp at hz
            · rw [List.getElem?_append_right (by omega), List.getElem?_drop, htl] at hz
              rw [if_neg (by omega)] at hu
              have hjv : j < vs.length := (List.getElem?_eq_some_iff.1 hu).1
              have : ys.length * es = ns.length := by
                rw [hnl]
                have h1 := hown.1
                by_cases hle : ys.length ≤ xs.length
                · rw [Nat.min_eq_left hle]
                · rw [Nat.min_eq_right (by omega)] at hnl
                  omega
              rw [this] at hz
              rw [show ns.length + (j - ns.length) = j by omega] at hz
              exact (hrep j z u hz hu).ext hext
        · intro ob b' _ hb'; exact H.ow o _ b' hobj hb'
        · intro o' b' ob ob' hne hob _ hb' hb''
          exact hne (H.sep o' o b' ob _ hob hobj hb' hb'')
      rcases hown.2 with ⟨hn, hz⟩ | ⟨b, cap, cur, ha, hB, hw, hnc, hcm, hcs, htake⟩
      · -- into nil
        have hx0 : xs = [] := List.eq_nil_of_length_eq_zero hz
        subst hx0
        have hr : (Builtin.copy_ tys type #[an o, a.eval x]).run P w = .ok (.int .i64 (0 : Nat)) w := by
          rw [hn]
          rcases elems_spec H hxv hel hylen with ⟨hvy, _⟩ | ⟨ad2, c2, news, hvy, _⟩
          · rw [hvy]; simp [Builtin.copy_, ht0, run_underlying hu, run_size hl, Builtin.lenOf, Builtin.firstCells, goInt]
          · rw [hvy]; simp [Builtin.copy_, ht0, run_underlying hu, run_size hl, Builtin.lenOf, Builtin.firstCells, loadCells, loadCellsFrom, goInt]
        refine ⟨_, _, _, w, D, an, hK, .inl (pfx (by simpa using hr)), ?_, .refl _ _ _ _, .fv _ _ (.val _)⟩
        have : h.set o (.list e es false nil (ys.take ([] : List FV).length ++ ([] : List FV).drop ys.length)) = h := by
          simp only [List.length_nil, List.take_zero, List.drop_nil, List.append_nil, AH.set]
          cases h with
          | mk gen obj y =>
            simp only [AH.mk.injEq, true_and, and_true]
            funext k
            simp only [upd]
            split
            · rename_i e'; rw [e']; exact hobj.symm
            · rfl
        rw [this]; exact H
      · rcases elems_spec H hxv hel hylen with ⟨hvy, hyn⟩ | ⟨ad2, c2, news, hvy, hnl, hncell, hn1, hyone, hnrep⟩
        · subst hyn
          refine main b _ cap ha cur hw rfl hnc hcm hcs htake trivial [] (by simp) (by simp) (by simp) (by simp [FV.flat]) ?_
          have hself : (splice cur.toList 0 []).toArray = cur := by simp [splice]
          rw [hself, setRow_self w b cur e (0, 0) hw, ha, hvy]
          simp [Builtin.copy_, ht0, run_underlying hu, run_size hl, Builtin.lenOf, Builtin.firstCells, goInt, storeCells]
        · have hmin : min ys.length xs.length * es ≤ ys.length * es := Nat.mul_le_mul_right _ (Nat.min_le_left _ _)
          have hmin2 : min ys.length xs.length * es ≤ xs.length * es := Nat.mul_le_mul_right _ (Nat.min_le_right _ _)
          have hcape : xs.length * es ≤ cap * es := Nat.mul_le_mul_right _ hnc
          refine main b _ cap ha cur hw rfl hnc hcm hcs htake trivial (news.take (min ys.length xs.length * es)) (by simp; omega) (fun u hu => hn1 u (List.mem_of_mem_take hu)) hyone ?_ ?_
          · intro j z u hz hu
            rw [List.getElem?_take] at hu
            split at hu
            · exact hnrep j z u hz hu
            · simp at hu
          · rw [ha, hvy]
            have hf := run_firstCells_some (P := P) w es (min ys.length xs.length) ad2 ys.length c2 (news.take (min ys.length xs.length * es)) (by simp; omega) (fun j u hu => by
              rw [List.getElem?_take] at hu
              split at hu
              · exact hncell j u hu
              · simp at hu)
            have hst := run_storeCells_at P b 0 e (news.take (min ys.length xs.length * es)) 0 cur w hw (by simp; omega) (fun u hu => hn1 u (List.mem_of_mem_take hu))
            simp only [Builtin.copy_, ht0, Sem.run_bind, run_underlying hu, Result.andThen_ok, run_size hl, Builtin.lenOf, Sem.run_pure, hf, hst, goInt, splice, List.getElem?_toArray, List.getElem?_cons_zero, List.getElem?_cons_succ, Nat.zero_add, Nat.add_zero]
    · exact hq.elim
  · exact hq.elim
end
end Abs

