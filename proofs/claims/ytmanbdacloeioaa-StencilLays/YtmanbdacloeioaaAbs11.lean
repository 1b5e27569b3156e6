/- A part of the proof: Abs11. -/
import Derived.Test.YtmanbdacloeioaaAbs10
set_option linter.unusedSimpArgs false
set_option linter.unusedVariables false
namespace Abs
open Go
open Go.RowKit (Below)
section
variable {P : Program} {cx : Cx} {w : World} {D : Nat → Prop} {h : AH} {an : Nat → Value}

theorem below_setRow {b : Nat} (hb : cx.wi.heap.size ≤ b ∨ cx.Ow b) (cs : Array Value) : BelowM cx.M cx.wi.heap.size w (w.setRow b cs) :=
  ⟨rfl, rfl, rfl, by simp [World.setRow], fun k hk hm => setRow_other w b k cs (by
    rintro rfl
    rcases hb with hb | hb
    · omega
    · exact hm (cx.sub _ hb))⟩

theorem storeVar_run {t n : Nat} {agg : Bool} (hl : lay P t = some (agg, n)) {b off : Nat} {v : Value} {c : Array Value} {T : Nat} (hw : w.heap[b]? = some (.cells c T (0, 0))) (hn : v.cells.size = n) (hb : off + n ≤ c.size)
    (h1 : ∀ u ∈ v.cells, u.oneCell' = true) : (storeVar t ⟨b, off, none⟩ v).run P w = .ok () (w.setRow b (splice c.toList off v.cells.toList).toArray) := by
  have := run_storeCells_at P b off T v.cells.toList 0 c w hw (by simp; omega) (fun u hu => h1 u (by simpa using hu))
  simp only [storeVar, Sem.run_bind, run_size hl, Result.andThen_ok, hn, ne_eq, not_true_eq_false, if_false]
  rw [this]
  simp [splice]

theorem store_box (H : Heap P cx h w D an) {ρ : Nat → LV} {a : Act} (hs : ∀ i, LVRep P w D h.gen an (a.tmps.getD i Go.undef) (ρ i)) {t n : Nat} {agg : Bool} {x : Operand} {va : Value} {o g off : Nat} {cs : List LV}
    (hl : lay P t = some (agg, n)) (hva : LVRep P w D h.gen an va (.ptr o g off)) (hb : h.box o g = some cs) (hn : (evL ρ x).cells.length = n) (hoff : off + n ≤ cs.length) (h1 : (evL ρ x).cells.all LV.one = true) :
    ∃ w', (Instr.storeAt t va (a.eval x)).run P w = .ok () w' ∧ Heap P cx (h.set o (.box (splice cs off (evL ρ x).cells))) w' D an ∧ Ext w D h.gen an w' D h.gen an := by
  obtain ⟨b, c, T, ha, rfl, hB, hnD, hw, hsz, hr⟩ := H.box_at hb hva
  obtain ⟨hxs, hxr⟩ := (ev_sound hs x).cells h1
  obtain ⟨vs, hvs⟩ : ∃ vs, vs = (a.eval x).cells := ⟨_, rfl⟩
  rw [← hvs] at hxs hxr
  have hrun := storeVar_run (P := P) (v := a.eval x) hl hw (by rw [← hvs, hxs, hn]) (by rw [hsz]; exact hoff) (fun u hu => by
    rw [← hvs] at hu
    obtain ⟨j, hj, rfl⟩ := Array.mem_iff_getElem.1 hu
    exact (hxr j (evL ρ x).cells[j] _ (by simp) (by simp)).2)
  rw [← hvs] at hrun
  have hext : Ext w D h.gen an (w.setRow b (splice c.toList off vs.toList).toArray) D h.gen an :=
    ⟨fun _ h => h, fun k hk => setRow_other w b k _ (by rintro rfl; exact hnD hk), fun _ => Nat.le_refl _, fun _ _ => rfl⟩
  refine ⟨_, by simpa [Instr.storeAt, Instr.sureAddr] using hrun, ?_, hext⟩
  obtain ⟨_, hobj⟩ := H.boxCells hb
  refine H.step o (below_setRow hB _) hext.dd hext.keep (fun k hk => by simpa [World.setRow] using H.lt k hk) (fun _ h => .inl h) hext.mono hext.anc ?_ (fun _ _ => rfl) ?_ ?_ ?_ ?_ rfl (fun b' _ hno => setRow_other w b b' _ (by rintro rfl; exact hno _ hobj (by rw [ha]; rfl))) (fun ob b' _ hb' => H.ysep o _ b' hobj hb')
  · intro o' ho'; simp [AH.set, upd, ho']
  · intro o' b' ob hne hob hb'
    refine ⟨setRow_other w b b' _ ?_, fun h => h⟩
    rintro rfl
    exact hne (H.sep o' o b' ob _ hob hobj hb' (by rw [ha]; rfl))
  · intro ob hob
    simp only [AH.set, upd, if_true, Option.some.injEq] at hob
    subst hob
    have hlen : (splice c.toList off vs.toList).length = c.size := by rw [splice_length _ _ _ (by simp; omega)]; simp
    refine ⟨b, _, T, ha, Nat.zero_le _, hnD, setRow_heap w b c _ T (0, 0) hw, ?_, ?_⟩
    · rw [splice_length _ _ _ (by omega), List.size_toArray, hlen, hsz]
    · intro j y v hy hv
      rw [List.getElem?_toArray, splice_get _ _ _ _ (by simp; omega)] at hv
      rw [splice_get _ _ _ _ (by omega)] at hy
      by_cases hj : off ≤ j ∧ j < off + vs.size
      · rw [if_pos (by simpa using hj)] at hv
        rw [if_pos (by omega)] at hy
        obtain ⟨q1, q2⟩ := hxr (j - off) y v hy (by simpa using hv)
        exact ⟨q1.ext hext, q2⟩
      · rw [if_neg (by simpa using hj)] at hv
        rw [if_neg (by omega)] at hy
        obtain ⟨q1, q2⟩ := hr j y v hy (by simpa using hv)
        exact ⟨q1.ext hext, q2⟩
  · intro ob b' _ hb'; exact H.ow o _ b' hobj hb'
  · intro o' b' ob ob' hne hob _ hb' hb''
    exact hne (H.sep o' o b' ob _ hob hobj hb' hb'')

theorem withCells_cells {y : FV} {cs : List FV} (hl : cs.length = y.cells.length) (h1 : cs.all FV.one = true) (hy : y.cells.all FV.one = true) : (y.withCells cs).cells = cs := by
  have lone : y.cells = [y] → y.withCells cs = cs.headD .nil → (y.withCells cs).cells = cs := by
    intro e e'
    rw [e] at hl
    match cs, hl with
    | [c], _ =>
      rw [e']
      have : c.one = true := by simpa using h1
      simp only [List.headD_cons]
      cases c <;> first | rfl | simp [FV.one] at this
  cases y <;> first | rfl | exact lone rfl rfl

theorem flat_set {xs : List FV} {es i : Nat} {y' : FV} (hes : 0 < es) (hlen : ∀ x ∈ xs, x.cells.length = es) (hy : y'.cells.length = es) (hi : i < xs.length) (j : Nat) :
    (FV.flat (xs.set i y'))[j]? = if i * es ≤ j ∧ j < i * es + es then y'.cells[j - i * es]? else (FV.flat xs)[j]? := by
  have hlen' : ∀ x ∈ xs.set i y', x.cells.length = es := by
    intro x hx
    rcases List.mem_or_eq_of_mem_set hx with h | h
    · exact hlen x h
    · rw [h]; exact hy
  have hj : j = j / es * es + j % es := by rw [Nat.mul_comm]; exact (Nat.div_add_mod j es).symm
  have hm := Nat.mod_lt j hes
  by_cases hjl : j / es < xs.length
  · have h1 := flat_get hlen' (j / es) (j % es) ((xs.set i y')[j / es]'(by simpa using hjl)) (by simp [hjl]) hm
    have h2 := flat_get hlen (j / es) (j % es) xs[j / es] (by simp [hjl]) hm
    rw [← hj] at h1 h2
    rw [h1, h2]
    by_cases e : j / es = i
    · rw [if_pos (by rw [← e]; omega)]
      subst e
      simp only [List.getElem_set_self]
      congr 1; omega
    · have : ¬ (i * es ≤ j ∧ j < i * es + es) := by
        rintro ⟨h3, h4⟩
        apply e
        have h5 : i * es + es = (i + 1) * es := by rw [Nat.add_mul, Nat.one_mul]
        have h6 : i ≤ j / es := (Nat.le_div_iff_mul_le hes).2 h3
        have h7 : j / es < i + 1 := (Nat.div_lt_iff_lt_mul hes).2 (by omega)
        omega
      rw [if_neg this, List.getElem_set_ne (fun h => e h.symm)]
  · have hl1 := flat_length hlen
    have hl2 := flat_length hlen'
    simp only [List.length_set] at hl2
    have hge : xs.length * es ≤ j := (Nat.le_div_iff_mul_le hes).1 (by omega)
    have hi' : (i + 1) * es ≤ xs.length * es := Nat.mul_le_mul_right _ (by omega)
    have h5 : i * es + es = (i + 1) * es := by rw [Nat.add_mul, Nat.one_mul]
    rw [if_neg (by omega), List.getElem?_eq_none (by omega), List.getElem?_eq_none (by omega)]

theorem store_elem (H : Heap P cx h w D an) {t n : Nat} {agg : Bool} {va vx : Value} {o g es i off e : Nat} {nil : Bool} {xs : List FV} {y : FV} {fs : List FV}
    (hl : lay P t = some (agg, n)) (hva : LVRep P w D h.gen an va (.elem o g es i off)) (hb : h.lst o g = some (e, es, false, nil, xs)) (hy : xs[i]? = some y) (hfl : fs.length = n) (hoff : off + n ≤ es) (hf1 : fs.all FV.one = true)
    (hxs : vx.cells.size = n) (hxr : ∀ (j : Nat) (y : FV) (u : Value), fs[j]? = some y → vx.cells[j]? = some u → Rep w D u y) :
    ∃ w', (Instr.storeAt t va vx).run P w = .ok () w' ∧ Heap P cx (h.set o (.list e es false nil (xs.set i (y.withCells (splice y.cells off fs))))) w' D an ∧ Ext w D h.gen an w' D h.gen an := by
  obtain ⟨hg, hobj⟩ := AH.lst_spec hb
  obtain ⟨⟨vs, hown, hnil, hes, hlen, hrep⟩, hfz⟩ := H.obj o _ hobj
  cases hva with
  | elem _ _ _ _ _ _ hpp hgg he =>
    obtain ⟨b, n', cap', ha, rfl⟩ := he hg
    have hil : i < xs.length := (List.getElem?_eq_some_iff.1 hy).1
    rcases hown.2 with ⟨hn, _⟩ | ⟨b', cap, cur, ha', hB, hw, hnc, hcm, hcs, htake⟩
    · rw [ha] at hn; simp at hn
    · rw [ha] at ha'
      simp only [Value.slice.injEq, Option.some.injEq, Addr.mk.injEq, and_true, true_and] at ha'
      obtain ⟨rfl, rfl, rfl⟩ := ha'
      have hnD : ¬ D b := (hfz b (by rw [ha]; rfl)).2 rfl
      have hyl := hlen y (List.mem_of_getElem? hy)
      have hpos : i * es + es ≤ xs.length * es := by
        have : (i + 1) * es ≤ xs.length * es := Nat.mul_le_mul_right _ hil
        rw [Nat.add_mul, Nat.one_mul] at this; exact this
      have hcapes : xs.length * es ≤ cap' * es := Nat.mul_le_mul_right _ hnc
      have hcurl : i * es + off + n ≤ cur.size := by omega
      have hrun := storeVar_run (P := P) (v := vx) hl hw hxs hcurl (fun u hu => by
        obtain ⟨j, hj, rfl⟩ := Array.mem_iff_getElem.1 hu
        have hjf : j < fs.length := by omega
        exact (hxr j fs[j] _ (by simp) (by simp)).oneCell (List.all_eq_true.1 hf1 _ (by simp)))
      obtain ⟨us, hus⟩ : ∃ us, us = vx.cells := ⟨_, rfl⟩
      rw [← hus] at hrun hxs hxr
      have hext : Ext w D h.gen an (w.setRow b (splice cur.toList (i * es + off) us.toList).toArray) D h.gen an :=
        ⟨fun _ h => h, fun k hk => setRow_other w b k _ (by rintro rfl; exact hnD hk), fun _ => Nat.le_refl _, fun _ _ => rfl⟩
      refine ⟨_, by simpa [Instr.storeAt, Instr.sureAddr] using hrun, ?_, hext⟩
      refine H.step o (below_setRow (H.ow o _ b hobj (by rw [ha]; rfl)) _) hext.dd hext.keep (fun k hk => by simpa [World.setRow] using H.lt k hk) (fun _ h => .inl h) hext.mono hext.anc ?_ (fun _ _ => rfl) ?_ ?_ ?_ ?_ rfl (fun b' _ hno => setRow_other w b b' _ (by rintro rfl; exact hno _ hobj (by rw [ha]; rfl))) (fun ob b' _ hb' => H.ysep o _ b' hobj hb')
      · intro o' ho'; simp [AH.set, upd, ho']
      · intro o' b' ob hne hob hb'
        refine ⟨setRow_other w b b' _ ?_, fun h => h⟩
        rintro rfl
        exact hne (H.sep o' o b' ob _ hob hobj hb' (by rw [ha]; rfl))
      · intro ob hob
        simp only [AH.set, upd, if_true, Option.some.injEq] at hob
        subst hob
        have hsl : (splice y.cells off fs).length = y.cells.length := splice_length _ _ _ (by omega)
        have hs1 : (splice y.cells off fs).all FV.one = true := by
          rw [List.all_eq_true]
          intro z hz
          obtain ⟨j, hj, rfl⟩ := List.mem_iff_getElem.1 hz
          have h3 := splice_get y.cells fs off j (by omega)
          rw [List.getElem?_eq_getElem hj] at h3
          split at h3
          · exact List.all_eq_true.1 hf1 _ (List.mem_of_getElem? h3.symm)
          · exact List.all_eq_true.1 hyl.2 _ (List.mem_of_getElem? h3.symm)
        have hwc := withCells_cells hsl hs1 hyl.2
        have hcl : (splice cur.toList (i * es + off) us.toList).length = cur.size := by rw [splice_length _ _ _ (by simp; omega)]; simp
        refine ⟨⟨splice vs (i * es + off) us.toList, ⟨?_, .inr ⟨b, cap', _, by rw [ha]; simp, hB, setRow_heap w b cur _ e (0, 0) hw, by simpa using hnc, hcm, by rw [List.size_toArray, hcl, hcs], ?_⟩⟩, hnil, hes, ?_, ?_⟩, hfz⟩
        · rw [splice_length _ _ _ (by rw [hown.1]; simp; omega), hown.1]; simp
        · apply List.ext_getElem?
          intro j
          rw [List.getElem?_take]
          simp only [List.length_set]
          rw [splice_get _ _ _ _ (by simp; omega), splice_get _ _ _ _ (by rw [hown.1]; simp; omega), ← htake, List.getElem?_take]
          simp only [Array.length_toList]
          by_cases hj : j < xs.length * es
          · rw [if_pos hj, if_pos hj]
          · rw [if_neg hj, if_neg hj, if_neg (by omega)]
        · intro x hx
          rcases List.mem_or_eq_of_mem_set hx with h | h
          · exact hlen x h
          · rw [h, hwc, hsl]; exact ⟨hyl.1, hs1⟩
        · intro j z u hz hu
          rw [flat_set hes (fun x hx => (hlen x hx).1) (by rw [hwc, hsl]; exact hyl.1) hil, hwc] at hz
          rw [splice_get _ _ _ _ (by rw [hown.1]; simp; omega)] at hu
          have hflat : ∀ r, r < es → (FV.flat xs)[i * es + r]? = y.cells[r]? := fun r hr => flat_get (fun x hx => (hlen x hx).1) i r y hy hr
          simp only [Array.length_toList] at hu
          split at hz
          · rename_i hj
            rw [splice_get _ _ _ _ (by omega)] at hz
            split at hz
            · rename_i hj2
              rw [if_pos (by omega)] at hu
              refine (hxr _ z u hz ?_).ext hext
              rw [← hu]
              simp only [Array.getElem?_toList]
              congr 1; omega
            · rename_i hj2
              rw [if_neg (by omega)] at hu
              refine (hrep j z u ?_ hu).ext hext
              have := hflat (j - i * es) (by omega)
              rw [← hz, ← this]
              congr 1; omega
          · rw [if_neg (by omega)] at hu
            exact (hrep j z u hz hu).ext hext
      · intro ob b' _ hb'; exact H.ow o _ b' hobj hb'
      · intro o' b' ob ob' hne hob _ hb' hb''
        exact hne (H.sep o' o b' ob _ hob hobj hb' hb'')

theorem store_sound (H : Heap P cx h w D an) {ρ : Nat → LV} {a : Act} (hs : ∀ i, LVRep P w D h.gen an (a.tmps.getD i Go.undef) (ρ i)) (o : Oper) (t : Nat) (ad x : Operand) (ho : o.op = .store t ad x)
    {K : LV → AH → Prop} (hq : effV P o.dst o.op o.type (evL ρ) h K) : Left P cx h w D an ((execOp a.eval o).run P w) K := by
  rw [ho] at hq
  simp only [effV] at hq
  have hva := ev_sound (P := P) (w := w) (D := D) (an := an) hs ad
  split at hq
  · rename_i agg n o' g off hl hea
    rw [hea] at hva
    obtain ⟨cs, hb, hn, hoff, h1, hK⟩ := hq
    obtain ⟨w', hrun, H', he⟩ := store_box H hs hl hva hb hn hoff h1
    refine ⟨_, _, Go.undef, w', D, an, hK, .inr ⟨?_, rfl⟩, H', he, .undef _⟩
    simp [execOp, ho, hrun]
  · rename_i agg n o' g es i off hl hea
    rw [hea] at hva
    obtain ⟨fs, h', hf, hfl, hf1, e, nil, xs, y, hb, hy, hoff, hK⟩ := hq
    have hx := ev_sound (P := P) (w := w) (D := D) (an := an) hs x
    have hall : (evL ρ x).cells.all LV.one = true := by
      rw [List.all_eq_true]
      have : ∀ (cs : List LV) (h : AH) (fs : List FV) (h' : AH), frzS h cs = some (fs, h') → fs.all FV.one = true → ∀ c ∈ cs, c.one = true := by
        intro cs
        induction cs with
        | nil => intro h fs h' _ _ c hc; simp at hc
        | cons c cs ih =>
          intro h fs h' hq ha
          simp only [frzS, Option.bind_eq_some_iff, Option.map_eq_some_iff] at hq
          obtain ⟨⟨r, h1⟩, hr1, ⟨rs, h2⟩, hr2, hq⟩ := hq
          simp only [Prod.mk.injEq] at hq
          obtain ⟨rfl, rfl⟩ := hq
          simp only [List.all_cons, Bool.and_eq_true] at ha
          intro c' hc'
          rcases List.mem_cons.1 hc' with rfl | hc'
          · unfold frz1 at hr1
            split at hr1
            · simp at hr1; obtain ⟨rfl, rfl⟩ := hr1; exact ha.1
            · rfl
            · simp at hr1
          · exact ih h1 rs h2 hr2 ha.2 c' hc'
      exact this _ _ _ _ hf hf1
    obtain ⟨hxs, hxr⟩ := hx.cells hall
    obtain ⟨D', H', hg, hDD, hlen, hrep⟩ := frzS_sound H (cs := (evL ρ x).cells) (vs := (a.eval x).cells.toList) (by simpa using hxs) (fun j y v hy hv => (hxr j y v hy (by simpa using hv)).1) hf
    have hext := frz_ext (w := w) (an := an) hg hDD
    obtain ⟨w', hrun, H'', he⟩ := store_elem H' (vx := a.eval x) hl (hva.ext hext) hb hy hfl hoff hf1 (by omega) (fun j y u hy hu => hrep j y u hy (by simpa using hu))
    refine ⟨_, _, Go.undef, w', D', an, hK, .inr ⟨?_, rfl⟩, H'', hext.trans he, .undef _⟩
    simp [execOp, ho, hrun]
  · exact hq.elim
end
end Abs

