/- A part of the proof: AbsK. -/
import Derived.Test.YtmanbdacloeioaaAbsI
import Derived.Laws.IdiomCopy
import Derived.Lib.SlicesCompact
import Derived.Deep.Draws
set_option linter.unusedSimpArgs false
set_option linter.unusedVariables false
namespace Abs
open Go
open Go.RowKit (Below)
/-! slices.Compact of an own list, by the library's contract. -/
theorem setCell_heap {w : World} {b o : Nat} {v : Value} {cur : Array Value} {T : Nat} {fr : Nat × Nat} (hw : w.heap[b]? = some (.cells cur T fr)) : (w.setCell ⟨b, o, none⟩ v).heap[b]? = some (.cells (cur.setIfInBounds o v) T fr) := by
  simp [World.setCell, Array.getElem?_modify, hw]
theorem setCell_other {w : World} {b o k : Nat} {v : Value} (hk : k ≠ b) : (w.setCell ⟨b, o, none⟩ v).heap[k]? = w.heap[k]? := by
  simp [World.setCell, Array.getElem?_modify, Ne.symm hk]
theorem setCells_heap (b : Nat) : ∀ (vs : List Value) (o : Nat) (w : World) (cur : Array Value) (T : Nat) (fr : Nat × Nat), w.heap[b]? = some (.cells cur T fr) →
    ∃ cur' : Array Value, (w.setCells b o vs).heap[b]? = some (.cells cur' T fr) ∧ cur'.size = cur.size ∧ ∀ j, j < cur.size → cur'[j]? = if o ≤ j ∧ j < o + vs.length then vs[j - o]? else cur[j]?
  | [], o, w, cur, T, fr, h => ⟨cur, h, rfl, fun j hj => by rw [if_neg (by simp)]⟩
  | v :: r, o, w, cur, T, fr, h => by
    obtain ⟨cur', h1, h2, h3⟩ := setCells_heap b r (o + 1) _ _ T fr (setCell_heap (v := v) (o := o) h)
    refine ⟨cur', h1, by simpa using h2, fun j hj => ?_⟩
    rw [h3 j (by simpa using hj)]
    by_cases e : o = j
    · subst e
      rw [if_neg (by omega), if_pos (by simp)]
      simp [hj]
    · by_cases e2 : o + 1 ≤ j ∧ j < o + 1 + r.length
      · rw [if_pos e2, if_pos (by simp; omega)]
        rw [show j - o = (j - (o + 1)) + 1 by omega]
        rfl
      · rw [if_neg e2, if_neg (by simp; omega)]
        simp [Array.getElem?_setIfInBounds, e]
theorem setCells_other (b k : Nat) (hk : k ≠ b) : ∀ (vs : List Value) (o : Nat) (w : World), (w.setCells b o vs).heap[k]? = w.heap[k]?
  | [], _, _ => rfl
  | v :: r, o, w => by rw [World.setCells, setCells_other b k hk r, setCell_other hk]
theorem setCells_rest (b : Nat) : ∀ (vs : List Value) (o : Nat) (w : World), (w.setCells b o vs).os = w.os ∧ (w.setCells b o vs).tape = w.tape ∧ (w.setCells b o vs).output = w.output ∧ (w.setCells b o vs).heap.size = w.heap.size
  | [], _, _ => ⟨rfl, rfl, rfl, rfl⟩
  | v :: r, o, w => by
    obtain ⟨h1, h2, h3, h4⟩ := setCells_rest b r (o + 1) (w.setCell ⟨b, o, none⟩ v)
    exact ⟨h1, h2, h3, h4.trans (by simp [World.setCell])⟩
theorem flat_ints (l : List Int) : FV.flat (ints l) = ints l := by
  induction l with
  | nil => rfl
  | cons x l ih => simp only [ints, FV.flat, List.map_cons, List.flatMap_cons] at ih ⊢; rw [ih]; rfl
theorem compact_len (zs : List Int) : (Lib.compact zs).length ≤ zs.length := by
  unfold Lib.compact Lib.compactUpTo
  rw [List.length_map]
  exact Nat.le_trans (List.length_filter_le _ _) (by simp)
section
variable {P : Program}
theorem compact_ac {f e o g : Nat} {nil : Bool} {xs : List Int} {h : AH} (en : Enters P f)
    (hc : ∀ (b off n c : Nat) (zs : List Int) (w : World), n ≤ zs.length → n ≤ 9223372036854775807 → n ≤ c → (∀ j, j < zs.length → w.cell? ⟨b, off + j, none⟩ = some (.int .i64 (zs.getD j 0))) → (∀ j, j < n → w.frozen? ⟨b, off + j, none⟩ = false) →
      Calls P f #[.slice (some ⟨b, off, none⟩) n c] w fun e w' => e = .returned (.slice (some ⟨b, off, none⟩) (Lib.compact (zs.take n)).length c) ∧ ∃ q, w' = (w.drewN q).setCells b off ((Lib.compact (zs.take n) ++ List.replicate (n - (Lib.compact (zs.take n)).length) 0).map (Value.int .i64)))
    (hne : xs ≠ []) (hm : xs.length ≤ 9223372036854775807) (ho : h.lst o g = some (e, 1, false, nil, ints xs)) :
    AC P f [.gl o g] h fun lv h' => lv = .gl o (g + 1) ∧ h' = h.renew o (g + 1) (.list e 1 false false (ints (Lib.compact xs))) := by
  refine ⟨en, fun cx w D an cargs HY L => ?_⟩
  obtain ⟨Y, hY, H⟩ := HY.heap
  obtain ⟨hg, hobj⟩ := AH.lst_spec ho
  obtain ⟨⟨vs, hown, hnil, hes, hlen, hrep⟩, hfz⟩ := H.obj o _ hobj
  obtain ⟨v, rfl⟩ : ∃ v, cargs = #[v] := by
    obtain ⟨l⟩ := cargs
    match l, L.1 with
    | [v], _ => exact ⟨v, rfl⟩
  have hv := L.2 0 (.gl o g) v rfl rfl
  have hva : v = an o := by
    cases hv with
    | gl _ _ _ _ _ hh => exact hh hg
  subst hva
  rcases hown.2 with ⟨hn, hz⟩ | ⟨b, cap, cur, ha, hB, hw, hnc, hcm, hcs, htake⟩
  · rw [ints_length] at hz
    exact absurd (List.length_eq_zero_iff.1 hz) hne
  · rw [ints_length] at ha hnc htake
    simp only [Nat.mul_one] at hcs htake
    have hnD : ¬ D b := (hfz b (by rw [ha]; rfl)).2 rfl
    have hcur : ∀ j, j < xs.length → cur[j]? = some (.int .i64 (xs.getD j 0)) := by
      intro j hj
      have h1 : vs[j]? = cur[j]? := by
        rw [← htake, List.getElem?_take, if_pos hj]; simp
      have h2 : (FV.flat (ints xs))[j]? = some (FV.int (xs.getD j 0)) := by
        rw [flat_ints]; simp [ints, List.getD, List.getElem?_eq_getElem hj]
      have h3 : j < cur.size := by omega
      have h4 : cur[j]? = some cur[j] := by simp
      have h5 := hrep j _ cur[j] h2 (by rw [h1, h4])
      rw [h4]
      exact congrArg some (Rep.val_inv h5)
    have hrun := hc b 0 xs.length cap xs w (Nat.le_refl _) hm hnc (fun j hj => by rw [cell_row hw, Nat.zero_add]; exact hcur j hj) (fun j _ => by simp [World.frozen?, hw])
    rw [List.take_length] at hrun
    rw [ha]
    refine hrun.mono ?_
    rintro e1 w' ⟨rfl, q, rfl⟩
    have cl := compact_len xs
    generalize hcx : Lib.compact xs = cs at *
    obtain ⟨cur', c1, c2, c3⟩ := setCells_heap b ((cs ++ List.replicate (xs.length - cs.length) 0).map (Value.int .i64)) 0 (w.drewN q) cur e (0, 0) hw
    have ot := fun k hk => setCells_other b k hk ((cs ++ List.replicate (xs.length - cs.length) 0).map (Value.int .i64)) 0 (w.drewN q)
    obtain ⟨r1, r2, r3, r4⟩ := setCells_rest b ((cs ++ List.replicate (xs.length - cs.length) 0).map (Value.int .i64)) 0 (w.drewN q)
    generalize (w.drewN q).setCells b 0 ((cs ++ List.replicate (xs.length - cs.length) 0).map (Value.int .i64)) = w' at *
    have ow := H.ow o _ b hobj (by rw [ha]; rfl)
    have hbel : BelowM cx.M cx.wi.heap.size w w' := ⟨r1, r2, r3, by rw [r4]; exact Nat.le_refl _, fun k hk hm' => ot k (by
      rintro rfl
      rcases ow with hb | hb
      · have : cx.wi.heap.size ≤ k := hb
        omega
      · exact hm' (cx.sub _ hb))⟩
    have hext : Ext w D h.gen an w' D (h.renew o (g + 1) (.list e 1 false false (ints cs))).gen (upd an o (.slice (some ⟨b, 0, none⟩) cs.length cap)) := by
      refine ⟨fun _ h => h, fun k hk => ot k (by rintro rfl; exact hnD hk), fun k => ?_, fun k hk => ?_⟩
      · simp only [AH.renew, upd]
        split
        · rename_i e2; subst e2; omega
        · exact Nat.le_refl _
      · simp only [AH.renew, upd] at hk ⊢
        split at hk
        · rename_i e2; subst e2; omega
        · rename_i e2; rw [if_neg e2]
    have hH : Heap P (cx.wY Y) (h.renew o (g + 1) (.list e 1 false false (ints cs))) w' D (upd an o (.slice (some ⟨b, 0, none⟩) cs.length cap)) := by
      refine H.step o hbel hext.dd hext.keep (fun k hk => by rw [r4]; exact H.lt k hk) (fun _ h => .inl h) hext.mono hext.anc ?_ (fun k hk => by simp [upd, hk]) ?_ ?_ ?_ ?_ rfl (fun b' _ hno => ot b' (by rintro rfl; exact hno _ hobj (by rw [ha]; rfl))) ?_
      · intro o' ho'; simp [AH.renew, upd, ho']
      · intro o' b' ob hne' hob hb'
        refine ⟨ot b' ?_, fun h => h⟩
        rintro rfl
        exact hne' (H.sep o' o b' ob _ hob hobj hb' (by rw [ha]; rfl))
      · intro ob hob
        simp only [AH.renew, upd, if_true, Option.some.injEq] at hob
        subst hob
        have e3 : upd an o (.slice (some ⟨b, 0, none⟩) cs.length cap) o = .slice (some ⟨b, 0, none⟩) cs.length cap := by simp [upd]
        rw [e3]
        refine ⟨⟨cs.map (Value.int .i64), ⟨by simp [ints_length], .inr ⟨b, cap, cur', by rw [ints_length], Nat.zero_le _, c1, by rw [ints_length]; omega, hcm, by rw [c2, hcs]; omega, ?_⟩⟩, ⟨fun h => by simp at h, fun h => by simp at h⟩, by omega, fun x hx => ⟨(ints_elem cs x hx).1, by obtain ⟨n, _, rfl⟩ := List.mem_map.1 hx; rfl⟩, ?_⟩, fun b' hb' => ?_⟩
        · rw [ints_length, Nat.mul_one]
          apply List.ext_getElem?
          intro j
          rw [List.getElem?_take]
          split
          · rename_i hj
            rw [Array.getElem?_toList, c3 j (by omega), if_pos (by simp; omega)]
            simp only [Nat.sub_zero, List.map_append]
            rw [List.getElem?_append_left (by simpa using hj)]
          · rename_i hj
            rw [List.getElem?_eq_none (by simpa using hj)]
        · intro j y u hy hu
          rw [flat_ints] at hy
          simp only [ints, List.getElem?_map, Option.map_eq_some_iff] at hy hu
          obtain ⟨n, hn, rfl⟩ := hy
          obtain ⟨n', hn', rfl⟩ := hu
          rw [hn] at hn'; simp at hn'; subst hn'
          exact .val _
        · simp only [blk, Option.some.injEq] at hb'
          subst hb'
          exact ⟨fun h => by simp at h, fun _ => hnD⟩
      · intro ob b' _ hb'
        simp only [upd, if_true, blk, Option.some.injEq] at hb'
        subst hb'
        exact ow
      · intro o' b' ob ob' hne' hob _ hb' hb''
        simp only [upd, if_true, blk, Option.some.injEq] at hb''
        subst hb''
        exact hne' (H.sep o' o b ob _ hob hobj hb' (by rw [ha]; rfl))
      · intro ob b' _ hb'
        simp only [upd, if_true, blk, Option.some.injEq] at hb'
        subst hb'
        exact H.ysep o _ b hobj (by rw [ha]; rfl)
    refine ⟨_, _, _, D, _, rfl, ⟨rfl, rfl⟩, HY.next hext hY hH, hext, ?_⟩
    refine .gl o (g + 1) _ rfl ?_ ?_
    · simp [AH.renew, upd]
    · intro _; simp [upd]
end
end Abs

