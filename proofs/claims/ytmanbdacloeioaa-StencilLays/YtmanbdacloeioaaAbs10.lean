/- A part of the proof: Abs10. -/
import Derived.Test.YtmanbdacloeioaaAbs9
set_option linter.unusedSimpArgs false
set_option linter.unusedVariables false
namespace Abs
open Go
open Go.RowKit (Below)
section
variable {P : Program} {cx : Cx} {w : World} {D : Nat → Prop} {h : AH} {an : Nat → Value}

theorem flat_rep : ∀ {xs : List FV} {vs : List Value}, vs.length = xs.length → (∀ (j : Nat) (y : FV) (v : Value), xs[j]? = some y → vs[j]? = some v → Rep w D v y) → (∀ x ∈ xs, x.cells.all FV.one = true) →
    (vs.flatMap fun v => v.cells.toList).length = (FV.flat xs).length ∧ ∀ (j : Nat) (y : FV) (u : Value), (FV.flat xs)[j]? = some y → (vs.flatMap fun v => v.cells.toList)[j]? = some u → Rep w D u y := by
  intro xs
  induction xs with
  | nil => intro vs hl _ _; cases vs with
    | nil => simp [FV.flat]
    | cons => simp at hl
  | cons x xs ih =>
    intro vs hl hr h1
    cases vs with
    | nil => simp at hl
    | cons v vs =>
      obtain ⟨e1, e2⟩ := ih (vs := vs) (by simpa using hl) (fun j y u hy hu => hr (j + 1) y u (by simpa using hy) (by simpa using hu)) (fun y hy => h1 y (by simp [hy]))
      obtain ⟨c1, c2⟩ := (hr 0 x v rfl rfl).cells (h1 x (by simp))
      have c1' : v.cells.toList.length = x.cells.length := by simpa using c1
      simp only [FV.flat, List.flatMap_cons, List.length_append] at *
      refine ⟨by omega, fun j y u hy hu => ?_⟩
      by_cases hj : j < x.cells.length
      · rw [List.getElem?_append_left hj] at hy
        rw [List.getElem?_append_left (by omega)] at hu
        exact c2 j y u hy (by simpa using hu)
      · rw [List.getElem?_append_right (by omega)] at hy hu
        rw [c1'] at hu
        exact e2 _ y u hy hu

theorem buildSlice_sound (H : Heap P cx h w D an) {ρ : Nat → LV} {a : Act} (hs : ∀ i, LVRep P w D h.gen an (a.tmps.getD i Go.undef) (ρ i)) (o : Oper) (t n : Nat) (parts : Array (Nat × Operand)) (ho : o.op = .buildSlice t n parts)
    {K : LV → AH → Prop} (hq : effV P o.dst o.op o.type (evL ρ) h K) : Left P cx h w D an ((execOp a.eval o).run P w) K := by
  rw [ho] at hq
  simp only [effV] at hq
  split at hq
  · rename_i d e agg es hd hi
    obtain ⟨hes, hcap, hzs, hidx, xs, h', hf, hlen, hK⟩ := hq
    obtain ⟨zs, hz⟩ := Option.isSome_iff_exists.1 hzs
    obtain ⟨i, z, hinfo, hz0, rfl, hzsz, hz1, _⟩ := zeros_spec hz
    obtain ⟨hl, hu⟩ := idx_spec hi
    rcases hu with ⟨m', hm, _⟩ | ⟨_, hu⟩
    · simp at hm
    simp only at hl hu
    have hls : i.size = es := by
      obtain ⟨i', hi', he'⟩ := lay_idx hl
      rw [hinfo] at hi'; simp at hi'; subst hi'; exact he'
    obtain ⟨D', H', hg, hDD, hxl, hrep⟩ := frzAll_sound H (cs := parts.toList.map fun p => evL ρ p.2) (vs := parts.toList.map fun p => a.eval p.2) (by simp) (fun j y v hy hv => by
      simp only [List.getElem?_map, Option.map_eq_some_iff] at hy hv
      obtain ⟨p, hp, rfl⟩ := hy
      obtain ⟨p', hp', rfl⟩ := hv
      rw [hp] at hp'; simp at hp'; subst hp'
      exact ev_sound hs _) hf
    have hxn : xs.length = n := by
      rw [hxl]
      have := congrArg List.length hidx
      simpa using this
    obtain ⟨vs, hvs⟩ : ∃ vs, vs = parts.toList.map fun p => a.eval p.2 := ⟨_, rfl⟩
    rw [← hvs] at hrep
    have hvn : vs.length = n := by rw [hvs, ← hxn, hxl]; simp
    have hvc : ∀ v ∈ vs, v.cells.size = es := by
      intro v hv
      obtain ⟨j, hj, rfl⟩ := List.mem_iff_getElem.1 hv
      have hjx : j < xs.length := by omega
      obtain ⟨c1, _⟩ := (hrep j xs[j] vs[j] (by simp) (by simp)).cells (hlen _ (by simp)).2
      rw [c1]; exact (hlen _ (by simp)).1
    have hparts : (parts.map fun p => (p.1, a.eval p.2)).toList = (List.range' 0 vs.length).zip vs := by
      rw [hvn, ← List.range_eq_range', ← hidx, hvs]
      simp [List.zip_map', Array.toList_map]
    let C : Array Value := (vs.flatMap fun v => v.cells.toList).toArray
    obtain ⟨hfl, hflr⟩ := flat_rep (w := w) (D := D') (xs := xs) (vs := vs) (by omega) hrep (fun x hx => (hlen x hx).2)
    have hCs : C.size = n * es := by
      show (vs.flatMap fun v => v.cells.toList).toArray.size = n * es
      rw [List.size_toArray, hfl, flat_length fun x hx => (hlen x hx).1, hxn]
    have hfill : Instr.fill (fun i => some (i * es, es)) ((Array.range (n * es)).map (fun j => (if n * es = 0 then #[] else z.cells)[j % (if n * es = 0 then #[] else z.cells).size]!)) (parts.map fun p => (p.1, a.eval p.2)).toList = some C := by
      rw [hparts]
      have := fill_all es vs 0 [] ((Array.range (n * es)).map (fun j => (if n * es = 0 then #[] else z.cells)[j % (if n * es = 0 then #[] else z.cells).size]!)) hvc (by simp [hvn]) (by simp)
      simpa using this
    have hn63 : n ≤ maxLen := by
      have h1 : n * 1 ≤ n * es := Nat.mul_le_mul_left n hes
      simp only [maxLen]; omega
    have hown : (w.alloc (.cells C e)).ownsRow 0 e es (.slice (some ⟨w.heap.size, 0, none⟩) n n) n C.toList := World.ownsRow_lit w C n (Nat.zero_le _) hn63 hCs
    have hrun : (execOp a.eval o).run P w = .ok (.value (.slice (some ⟨w.heap.size, 0, none⟩) n n)) (w.alloc (.cells C e)) := by
      have hbig : ¬ (16777216 < n * es) := by omega
      simp only [execOp, ho, Instr.buildSlice, Sem.run_bind, run_underlying hu, Result.andThen_ok, run_size hl, Sem.run_ite, hbig]
      by_cases h0 : n * es = 0
      · simp only [h0, if_true] at hfill
        simp only [h0, if_true, Sem.run_pure, Result.andThen_ok, Nat.reducePow, Nat.not_lt_zero, if_false, gt_iff_lt]
        simp only [hfill, newRow, newObj, Sem.run_bind, Sem.run, Result.andThen_ok, Sem.run_pure]
        rfl
      · simp only [h0, if_false, Array.toList_map] at hfill
        simp [h0, hbig, zeroValue, typeInfo, hinfo, hz0, hfill, newRow, newObj, Sem.run]
    have hb := below_alloc w (.cells C e)
    have hol : OwnList (w.alloc (.cells C e)) D' 0 (.slice (some ⟨w.heap.size, 0, none⟩) n n) e es false xs := by
      refine ⟨C.toList, by rw [hxn]; exact hown, by simp, hes, hlen, ?_⟩
      intro j y u hy hu'
      exact (hflr j y u hy (by simpa [C] using hu')).keep (fun _ h => h) fun b hb' => hb.block b (H'.lt b hb')
    obtain ⟨e1, e2, e3⟩ := list_new H' d hb (by simp) (.inl rfl) hol
    exact ⟨_, _, _, _, _, _, hK, .inl hrun, e1, (frz_ext hg hDD).trans e2, e3⟩
  · exact hq.elim

theorem makeSlice_sound (H : Heap P cx h w D an) {ρ : Nat → LV} {a : Act} (hs : ∀ i, LVRep P w D h.gen an (a.tmps.getD i Go.undef) (ρ i)) (o : Oper) (t : Nat) (l c : Operand) (ho : o.op = .makeSlice t l c)
    {K : LV → AH → Prop} (hq : effV P o.dst o.op o.type (evL ρ) h K) : Left P cx h w D an ((execOp a.eval o).run P w) K := by
  rw [ho] at hq
  simp only [effV] at hq
  split at hq
  · rename_i d e agg es l' c' hd hi hl' hc'
    obtain ⟨hes, h0, rfl, h63, hby, zs, hz, hagg, hK⟩ := hq
    obtain ⟨k1, hk1⟩ := intOf_inv hl' (ev_sound hs l)
    obtain ⟨k2, hk2⟩ := intOf_inv hc' (ev_sound hs c)
    obtain ⟨i, z, hinfo, hz0, rfl, hzsz, hz1, hzo⟩ := zeros_spec hz
    obtain ⟨hl, hu⟩ := idx_spec hi
    rcases hu with ⟨m', hm, _⟩ | ⟨_, hu⟩
    · simp at hm
    simp only at hl hu
    have hls : i.size = es := by
      obtain ⟨i', hi', he'⟩ := lay_idx hl
      rw [hinfo] at hi'; simp at hi'; subst hi'; exact he'
    obtain ⟨n, rfl⟩ := Int.eq_ofNat_of_zero_le h0
    have hb' : i.bytes * n ≤ 281474976710656 := by
      have : P.bytesOf e = i.bytes := by simp [Program.bytesOf, hinfo]
      rw [this] at hby
      have h : ((i.bytes * n : Nat) : Int) ≤ 281474976710656 := by rw [Int.natCast_mul]; exact hby
      omega
    have hm : n ≤ maxLen := by simp only [maxLen]; omega
    have h63' : (n : Int) ≤ 9223372036854775807 := by omega
    have hr := run_make (P := P) w t e i z hu hinfo hz0 k1 k2 n n (by omega) (Int.le_refl _) (by
      have h : ((i.bytes * n : Nat) : Int) ≤ 281474976710656 := by omega
      rwa [Int.natCast_mul] at h) h63'
    simp only [Int.toNat_natCast] at hr hK
    have hown := World.ownsRow_lit w (base := 0) (e := e) (size := es) (madeCells z.cells (n * i.size)) n (Nat.zero_le _) hm (by rw [size_madeCells, hls])
    have hb := below_alloc w (.cells (madeCells z.cells (n * i.size)) e)
    have hzl : z.cells.size = es := by omega
    have hcl : (FV.ofCells agg (z.cells.toList.map FV.val)).cells = z.cells.toList.map FV.val := by
      unfold FV.ofCells
      rcases hagg with rfl | rfl
      · rfl
      · split
        · rfl
        · have hlen1 : z.cells.toList.length = 1 := by simpa using hzl
          match hzc : z.cells.toList, hlen1 with
          | [v], _ =>
            have : v.oneCell' = true := hz1 v (by rw [← Array.mem_toList_iff, hzc]; simp)
            cases v <;> first | rfl | simp [Value.oneCell'] at this
    have hol : OwnList (w.alloc (.cells (madeCells z.cells (n * i.size)) e)) D 0 (.slice (some ⟨w.heap.size, 0, none⟩) n n) e es false (List.replicate n (FV.ofCells agg (z.cells.toList.map FV.val))) := by
      refine ⟨(madeCells z.cells (n * i.size)).toList, by simpa using hown, by simp, hes, ?_, ?_⟩
      · intro x hx
        have := List.eq_of_mem_replicate hx
        subst this
        rw [hcl]
        exact ⟨by simpa using hzl, by simpa using hzo⟩
      · intro j y u hy hu'
        have hjl : j < n * es := by
          have := (List.getElem?_eq_some_iff.1 hy).1
          rw [flat_length (es := es) (fun x hx => by rw [List.eq_of_mem_replicate hx, hcl]; simpa using hzl)] at this
          simpa using this
        have hflat : (FV.flat (List.replicate n (FV.ofCells agg (z.cells.toList.map FV.val))))[j]? = (z.cells.toList.map FV.val)[j % es]? := by
          have hq : j / es < n := (Nat.div_lt_iff_lt_mul hes).2 hjl
          have := flat_get (es := es) (xs := List.replicate n (FV.ofCells agg (z.cells.toList.map FV.val))) (fun x hx => by rw [List.eq_of_mem_replicate hx, hcl]; simpa using hzl) (j / es) (j % es) (FV.ofCells agg (z.cells.toList.map FV.val)) (by simp [hq]) (Nat.mod_lt _ hes)
          rw [hcl] at this
          rw [← this]
          congr 1
          rw [Nat.mul_comm]; exact (Nat.div_add_mod j es).symm
        rw [hflat] at hy
        have hu2 : u = z.cells[j % z.cells.size]! := by
          simp only [madeCells, Array.toList_map, List.getElem?_map, Array.getElem?_toList, Option.map_eq_some_iff] at hu'
          obtain ⟨k, hk, rfl⟩ := hu'
          have : k = j := by
            rw [Array.getElem?_range] at hk
            split at hk
            · simpa using hk.symm
            · simp at hk
          subst this
          rfl
        simp only [List.getElem?_map, Array.getElem?_toList, Option.map_eq_some_iff] at hy
        obtain ⟨v, hv, rfl⟩ := hy
        have : u = v := by
          rw [hu2, hzl, getElem!_def, hv]
        subst this
        exact .val _
    obtain ⟨e1, e2, e3⟩ := list_new H d hb (by simp) (.inl rfl) hol
    refine ⟨_, _, _, _, _, _, hK, .inl ?_, e1, e2, e3⟩
    simp only [execOp, ho, hk1, hk2, Sem.run_bind, hr, Result.andThen_ok, Sem.run_pure]
  · exact hq.elim
end
end Abs

