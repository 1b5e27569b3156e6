/- A part of the proof: Abs11, Abs12, Abs13. -/
import Derived.Test.YtncbkgbdpaibmaaAbs7
import Derived.Lib.AppendZeros
set_option linter.unusedSimpArgs false
set_option linter.unusedVariables false
namespace Abs
open Go
open Go.RowKit (Below)
section
variable {P : Program} {cx : Cx} {w : World} {D : Nat → Prop} {h : AH} {an : Nat → Value}
theorem below_setRow {b : Nat} (hb : cx.wi.heap.size ≤ b ∨ cx.Ow b) (cs : Array Value) : BelowM cx.M cx.wi.heap.size w (w.setRow b cs) :=
  ⟨rfl, rfl, rfl, by simp [World.setRow], fun k hk hm => setRow_other w b k cs (by
    rintro rfl
    rcases hb with hb | hb
    · omega
    · exact hm (cx.sub _ hb))⟩
theorem storeVar_run {t n : Nat} {agg : Bool} (hl : lay P t = some (agg, n)) {b off : Nat} {v : Value} {c : Array Value} {T : Nat} (hw : w.heap[b]? = some (.cells c T (0, 0))) (hn : v.cells.size = n) (hb : off + n ≤ c.size)
    (h1 : ∀ u ∈ v.cells, u.oneCell' = true) : (storeVar t ⟨b, off, none⟩ v).run P w = .ok () (w.setRow b (splice c.toList off v.cells.toList).toArray) := by
  have := run_storeCells_at P b off T v.cells.toList 0 c w hw (by simp; omega) (fun u hu => h1 u (by simpa using hu))
  simp only [storeVar, Sem.run_bind, run_size hl, Result.andThen_ok, hn, ne_eq, not_true_eq_false, if_false]
  rw [this]
  simp [splice]
theorem store_box (H : Heap P cx h w D an) {ρ : Nat → LV} {a : Act} (hs : ∀ i, LVRep P w D h.gen an (a.tmps.getD i Go.undef) (ρ i)) {t n : Nat} {agg : Bool} {x : Operand} {va : Value} {o g off : Nat} {cs : List LV}
    (hl : lay P t = some (agg, n)) (hva : LVRep P w D h.gen an va (.ptr o g off)) (hb : h.box o g = some cs) (hn : (evL ρ x).cells.length = n) (hoff : off + n ≤ cs.length) (h1 : (evL ρ x).cells.all LV.one = true) :
    ∃ w', (Instr.storeAt t va (a.eval x)).run P w = .ok () w' ∧ Heap P cx (h.set o (.box (splice cs off (evL ρ x).cells))) w' D an ∧ Ext w D h.gen an w' D h.gen an := by
  obtain ⟨b, c, T, ha, rfl, hB, hnD, hw, hsz, hr⟩ := H.box_at hb hva
  obtain ⟨hxs, hxr⟩ := (ev_sound hs x).cells h1
  obtain ⟨vs, hvs⟩ : ∃ vs, vs = (a.eval x).cells := ⟨_, rfl⟩
  rw [← hvs] at hxs hxr
  have hrun := storeVar_run (P := P) (v := a.eval x) hl hw (by rw [← hvs, hxs, hn]) (by rw [hsz]; exact hoff) (fun u hu => by
    rw [← hvs] at hu
    obtain ⟨j, hj, rfl⟩ := Array.mem_iff_getElem.1 hu
    exact (hxr j (evL ρ x).cells[j] _ (by simp) (by simp)).2)
  rw [← hvs] at hrun
  have hext : Ext w D h.gen an (w.setRow b (splice c.toList off vs.toList).toArray) D h.gen an :=
    ⟨fun _ h => h, fun k hk => setRow_other w b k _ (by rintro rfl; exact hnD hk), fun _ => Nat.le_refl _, fun _ _ => rfl⟩
  refine ⟨_, by simpa [Instr.storeAt, Instr.sureAddr] using hrun, ?_, hext⟩
  obtain ⟨_, hobj⟩ := H.boxCells hb
  refine H.step o (below_setRow hB _) hext.dd hext.keep (fun k hk => by simpa [World.setRow] using H.lt k hk) (fun _ h => .inl h) hext.mono hext.anc ?_ (fun _ _ => rfl) ?_ ?_ ?_ ?_ rfl (fun b' _ hno => setRow_other w b b' _ (by rintro rfl; exact hno _ hobj (by rw [ha]; rfl))) (fun ob b' _ hb' => H.ysep o _ b' hobj hb')
  · intro o' ho'; simp [AH.set, upd, ho']
  · intro o' b' ob hne hob hb'
    refine ⟨setRow_other w b b' _ ?_, fun h => h⟩
    rintro rfl
    exact hne (H.sep o' o b' ob _ hob hobj hb' (by rw [ha]; rfl))
  · intro ob hob
    simp only [AH.set, upd, if_true, Option.some.injEq] at hob
    subst hob
    have hlen : (splice c.toList off vs.toList).length = c.size := by rw [splice_length _ _ _ (by simp; omega)]; simp
    refine ⟨b, _, T, ha, Nat.zero_le _, hnD, setRow_heap w b c _ T (0, 0) hw, ?_, ?_⟩
    · rw [splice_length _ _ _ (by omega), List.size_toArray, hlen, hsz]
    · intro j y v hy hv
      rw [List.getElem?_toArray, splice_get _ _ _ _ (by simp; omega)] at hv
      rw [splice_get _ _ _ _ (by omega)] at hy
      by_cases hj : off ≤ j ∧ j < off + vs.size
      · rw [if_pos (by simpa using hj)] at hv
        rw [if_pos (by omega)] at hy
        obtain ⟨q1, q2⟩ := hxr (j - off) y v hy (by simpa using hv)
        exact ⟨q1.ext hext, q2⟩
      · rw [if_neg (by simpa using hj)] at hv
        rw [if_neg (by omega)] at hy
        obtain ⟨q1, q2⟩ := hr j y v hy (by simpa using hv)
        exact ⟨q1.ext hext, q2⟩
  · intro ob b' _ hb'; exact H.ow o _ b' hobj hb'
  · intro o' b' ob ob' hne hob _ hb' hb''
    exact hne (H.sep o' o b' ob _ hob hobj hb' hb'')
theorem withCells_cells {y : FV} {cs : List FV} (hl : cs.length = y.cells.length) (h1 : cs.all FV.one = true) (hy : y.cells.all FV.one = true) : (y.withCells cs).cells = cs := by
  have lone : y.cells = [y] → y.withCells cs = cs.headD .nil → (y.withCells cs).cells = cs := by
    intro e e'
    rw [e] at hl
    match cs, hl with
    | [c], _ =>
      rw [e']
      have : c.one = true := by simpa using h1
      simp only [List.headD_cons]
      cases c <;> first | rfl | simp [FV.one] at this
  cases y <;> first | rfl | exact lone rfl rfl
theorem flat_set {xs : List FV} {es i : Nat} {y' : FV} (hes : 0 < es) (hlen : ∀ x ∈ xs, x.cells.length = es) (hy : y'.cells.length = es) (hi : i < xs.length) (j : Nat) :
    (FV.flat (xs.set i y'))[j]? = if i * es ≤ j ∧ j < i * es + es then y'.cells[j - i * es]? else (FV.flat xs)[j]? := by
  have hlen' : ∀ x ∈ xs.set i y', x.cells.length = es := by
    intro x hx
    rcases List.mem_or_eq_of_mem_set hx with h | h
    · exact hlen x h
    · rw [h]; exact hy
  have hj : j = j / es * es + j % es := by rw [Nat.mul_comm]; exact (Nat.div_add_mod j es).symm
  have hm := Nat.mod_lt j hes
  by_cases hjl : j / es < xs.length
  · have h1 := flat_get hlen' (j / es) (j % es) ((xs.set i y')[j / es]'(by simpa using hjl)) (by simp [hjl]) hm
    have h2 := flat_get hlen (j / es) (j % es) xs[j / es] (by simp [hjl]) hm
    rw [← hj] at h1 h2
    rw [h1, h2]
    by_cases e : j / es = i
    · rw [if_pos (by rw [← e]; omega)]
      subst e
      simp only [List.getElem_set_self]
      congr 1; omega
    · have : ¬ (i * es ≤ j ∧ j < i * es + es) := by
        rintro ⟨h3, h4⟩
        apply e
        have h5 : i * es + es = (i + 1) * es := by rw [Nat.add_mul, Nat.one_mul]
        have h6 : i ≤ j / es := (Nat.le_div_iff_mul_le hes).2 h3
        have h7 : j / es < i + 1 := (Nat.div_lt_iff_lt_mul hes).2 (by omega)
        omega
      rw [if_neg this, List.getElem_set_ne (fun h => e h.symm)]
  · have hl1 := flat_length hlen
    have hl2 := flat_length hlen'
    simp only [List.length_set] at hl2
    have hge : xs.length * es ≤ j := (Nat.le_div_iff_mul_le hes).1 (by omega)
    have hi' : (i + 1) * es ≤ xs.length * es := Nat.mul_le_mul_right _ (by omega)
    have h5 : i * es + es = (i + 1) * es := by rw [Nat.add_mul, Nat.one_mul]
    rw [if_neg (by omega), List.getElem?_eq_none (by omega), List.getElem?_eq_none (by omega)]
theorem store_elem (H : Heap P cx h w D an) {t n : Nat} {agg : Bool} {va vx : Value} {o g es i off e : Nat} {nil : Bool} {xs : List FV} {y : FV} {fs : List FV}
    (hl : lay P t = some (agg, n)) (hva : LVRep P w D h.gen an va (.elem o g es i off)) (hb : h.lst o g = some (e, es, false, nil, xs)) (hy : xs[i]? = some y) (hfl : fs.length = n) (hoff : off + n ≤ es) (hf1 : fs.all FV.one = true)
    (hxs : vx.cells.size = n) (hxr : ∀ (j : Nat) (y : FV) (u : Value), fs[j]? = some y → vx.cells[j]? = some u → Rep w D u y) :
    ∃ w', (Instr.storeAt t va vx).run P w = .ok () w' ∧ Heap P cx (h.set o (.list e es false nil (xs.set i (y.withCells (splice y.cells off fs))))) w' D an ∧ Ext w D h.gen an w' D h.gen an := by
  obtain ⟨hg, hobj⟩ := AH.lst_spec hb
  obtain ⟨⟨vs, hown, hnil, hes, hlen, hrep⟩, hfz⟩ := H.obj o _ hobj
  cases hva with
  | elem _ _ _ _ _ _ hpp hgg he =>
    obtain ⟨b, n', cap', ha, rfl⟩ := he hg
    have hil : i < xs.length := (List.getElem?_eq_some_iff.1 hy).1
    rcases hown.2 with ⟨hn, _⟩ | ⟨b', cap, cur, ha', hB, hw, hnc, hcm, hcs, htake⟩
    · rw [ha] at hn; simp at hn
    · rw [ha] at ha'
      simp only [Value.slice.injEq, Option.some.injEq, Addr.mk.injEq, and_true, true_and] at ha'
      obtain ⟨rfl, rfl, rfl⟩ := ha'
      have hnD : ¬ D b := (hfz b (by rw [ha]; rfl)).2 rfl
      have hyl := hlen y (List.mem_of_getElem? hy)
      have hpos : i * es + es ≤ xs.length * es := by
        have : (i + 1) * es ≤ xs.length * es := Nat.mul_le_mul_right _ hil
        rw [Nat.add_mul, Nat.one_mul] at this; exact this
      have hcapes : xs.length * es ≤ cap' * es := Nat.mul_le_mul_right _ hnc
      have hcurl : i * es + off + n ≤ cur.size := by omega
      have hrun := storeVar_run (P := P) (v := vx) hl hw hxs hcurl (fun u hu => by
        obtain ⟨j, hj, rfl⟩ := Array.mem_iff_getElem.1 hu
        have hjf : j < fs.length := by omega
        exact (hxr j fs[j] _ (by simp) (by simp)).oneCell (List.all_eq_true.1 hf1 _ (by simp)))
      obtain ⟨us, hus⟩ : ∃ us, us = vx.cells := ⟨_, rfl⟩
      rw [← hus] at hrun hxs hxr
      have hext : Ext w D h.gen an (w.setRow b (splice cur.toList (i * es + off) us.toList).toArray) D h.gen an :=
        ⟨fun _ h => h, fun k hk => setRow_other w b k _ (by rintro rfl; exact hnD hk), fun _ => Nat.le_refl _, fun _ _ => rfl⟩
      refine ⟨_, by simpa [Instr.storeAt, Instr.sureAddr] using hrun, ?_, hext⟩
      refine H.step o (below_setRow (H.ow o _ b hobj (by rw [ha]; rfl)) _) hext.dd hext.keep (fun k hk => by simpa [World.setRow] using H.lt k hk) (fun _ h => .inl h) hext.mono hext.anc ?_ (fun _ _ => rfl) ?_ ?_ ?_ ?_ rfl (fun b' _ hno => setRow_other w b b' _ (by rintro rfl; exact hno _ hobj (by rw [ha]; rfl))) (fun ob b' _ hb' => H.ysep o _ b' hobj hb')
      · intro o' ho'; simp [AH.set, upd, ho']
      · intro o' b' ob hne hob hb'
        refine ⟨setRow_other w b b' _ ?_, fun h => h⟩
        rintro rfl
        exact hne (H.sep o' o b' ob _ hob hobj hb' (by rw [ha]; rfl))
      · intro ob hob
        simp only [AH.set, upd, if_true, Option.some.injEq] at hob
        subst hob
        have hsl : (splice y.cells off fs).length = y.cells.length := splice_length _ _ _ (by omega)
        have hs1 : (splice y.cells off fs).all FV.one = true := by
          rw [List.all_eq_true]
          intro z hz
          obtain ⟨j, hj, rfl⟩ := List.mem_iff_getElem.1 hz
          have h3 := splice_get y.cells fs off j (by omega)
          rw [List.getElem?_eq_getElem hj] at h3
          split at h3
          · exact List.all_eq_true.1 hf1 _ (List.mem_of_getElem? h3.symm)
          · exact List.all_eq_true.1 hyl.2 _ (List.mem_of_getElem? h3.symm)
        have hwc := withCells_cells hsl hs1 hyl.2
        have hcl : (splice cur.toList (i * es + off) us.toList).length = cur.size := by rw [splice_length _ _ _ (by simp; omega)]; simp
        refine ⟨⟨splice vs (i * es + off) us.toList, ⟨?_, .inr ⟨b, cap', _, by rw [ha]; simp, hB, setRow_heap w b cur _ e (0, 0) hw, by simpa using hnc, hcm, by rw [List.size_toArray, hcl, hcs], ?_⟩⟩, hnil, hes, ?_, ?_⟩, hfz⟩
        · rw [splice_length _ _ _ (by rw [hown.1]; simp; omega), hown.1]; simp
        · apply List.ext_getElem?
          intro j
          rw [List.getElem?_take]
          simp only [List.length_set]
          rw [splice_get _ _ _ _ (by simp; omega), splice_get _ _ _ _ (by rw [hown.1]; simp; omega), ← htake, List.getElem?_take]
          simp only [Array.length_toList]
          by_cases hj : j < xs.length * es
          · rw [if_pos hj, if_pos hj]
          · rw [if_neg hj, if_neg hj, if_neg (by omega)]
        · intro x hx
          rcases List.mem_or_eq_of_mem_set hx with h | h
          · exact hlen x h
          · rw [h, hwc, hsl]; exact ⟨hyl.1, hs1⟩
        · intro j z u hz hu
          rw [flat_set hes (fun x hx => (hlen x hx).1) (by rw [hwc, hsl]; exact hyl.1) hil, hwc] at hz
          rw [splice_get _ _ _ _ (by rw [hown.1]; simp; omega)] at hu
          have hflat : ∀ r, r < es → (FV.flat xs)[i * es + r]? = y.cells[r]? := fun r hr => flat_get (fun x hx => (hlen x hx).1) i r y hy hr
          simp only [Array.length_toList] at hu
          split at hz
          · rename_i hj
            rw [splice_get _ _ _ _ (by omega)] at hz
            split at hz
            · rename_i hj2
              rw [if_pos (by omega)] at hu
              refine (hxr _ z u hz ?_).ext hext
              rw [← hu]
              simp only [Array.getElem?_toList]
              congr 1; omega
            · rename_i hj2
              rw [if_neg (by omega)] at hu
              refine (hrep j z u ?_ hu).ext hext
              have := hflat (j - i * es) (by omega)
              rw [← hz, ← this]
              congr 1; omega
          · rw [if_neg (by omega)] at hu
            exact (hrep j z u hz hu).ext hext
      · intro ob b' _ hb'; exact H.ow o _ b' hobj hb'
      · intro o' b' ob ob' hne hob _ hb' hb''
        exact hne (H.sep o' o b' ob _ hob hobj hb' hb'')
theorem store_sound (H : Heap P cx h w D an) {ρ : Nat → LV} {a : Act} (hs : ∀ i, LVRep P w D h.gen an (a.tmps.getD i Go.undef) (ρ i)) (o : Oper) (t : Nat) (ad x : Operand) (ho : o.op = .store t ad x)
    {K : LV → AH → Prop} (hq : effV P o.dst o.op o.type (evL ρ) h K) : Left P cx h w D an ((execOp a.eval o).run P w) K := by
  rw [ho] at hq
  simp only [effV] at hq
  have hva := ev_sound (P := P) (w := w) (D := D) (an := an) hs ad
  split at hq
  · rename_i agg n o' g off hl hea
    rw [hea] at hva
    obtain ⟨cs, hb, hn, hoff, h1, hK⟩ := hq
    obtain ⟨w', hrun, H', he⟩ := store_box H hs hl hva hb hn hoff h1
    refine ⟨_, _, Go.undef, w', D, an, hK, .inr ⟨?_, rfl⟩, H', he, .undef _⟩
    simp [execOp, ho, hrun]
  · rename_i agg n o' g es i off hl hea
    rw [hea] at hva
    obtain ⟨fs, h', hf, hfl, hf1, e, nil, xs, y, hb, hy, hoff, hK⟩ := hq
    have hx := ev_sound (P := P) (w := w) (D := D) (an := an) hs x
    have hall : (evL ρ x).cells.all LV.one = true := by
      rw [List.all_eq_true]
      have : ∀ (cs : List LV) (h : AH) (fs : List FV) (h' : AH), frzS h cs = some (fs, h') → fs.all FV.one = true → ∀ c ∈ cs, c.one = true := by
        intro cs
        induction cs with
        | nil => intro h fs h' _ _ c hc; simp at hc
        | cons c cs ih =>
          intro h fs h' hq ha
          simp only [frzS, Option.bind_eq_some_iff, Option.map_eq_some_iff] at hq
          obtain ⟨⟨r, h1⟩, hr1, ⟨rs, h2⟩, hr2, hq⟩ := hq
          simp only [Prod.mk.injEq] at hq
          obtain ⟨rfl, rfl⟩ := hq
          simp only [List.all_cons, Bool.and_eq_true] at ha
          intro c' hc'
          rcases List.mem_cons.1 hc' with rfl | hc'
          · unfold frz1 at hr1
            split at hr1
            · simp at hr1; obtain ⟨rfl, rfl⟩ := hr1; exact ha.1
            · rfl
            · simp at hr1
          · exact ih h1 rs h2 hr2 ha.2 c' hc'
      exact this _ _ _ _ hf hf1
    obtain ⟨hxs, hxr⟩ := hx.cells hall
    obtain ⟨D', H', hg, hDD, hlen, hrep⟩ := frzS_sound H (cs := (evL ρ x).cells) (vs := (a.eval x).cells.toList) (by simpa using hxs) (fun j y v hy hv => (hxr j y v hy (by simpa using hv)).1) hf
    have hext := frz_ext (w := w) (an := an) hg hDD
    obtain ⟨w', hrun, H'', he⟩ := store_elem H' (vx := a.eval x) hl (hva.ext hext) hb hy hfl hoff hf1 (by omega) (fun j y u hy hu => hrep j y u hy (by simpa using hu))
    refine ⟨_, _, Go.undef, w', D', an, hK, .inr ⟨?_, rfl⟩, H'', hext.trans he, .undef _⟩
    simp [execOp, ho, hrun]
  · exact hq.elim
end
end Abs

namespace Abs
open Go
open Go.RowKit (Below)
theorem flat_drop {es : Nat} : ∀ (zs : List FV) (n : Nat), (∀ x ∈ zs, x.cells.length = es) → FV.flat (zs.drop n) = (FV.flat zs).drop (n * es) := by
  intro zs
  induction zs with
  | nil => intro n _; simp [FV.flat]
  | cons z zs ih =>
    intro n hz
    cases n with
    | zero => simp
    | succ n =>
      simp only [List.drop_succ_cons]
      rw [ih n fun x hx => hz x (by simp [hx])]
      simp only [FV.flat, List.flatMap_cons]
      rw [Nat.add_mul, Nat.one_mul, Nat.add_comm (n * es), ← hz z (by simp), List.drop_append]
      simp [List.drop_drop]
theorem flat_take {es : Nat} : ∀ (zs : List FV) (n : Nat), (∀ x ∈ zs, x.cells.length = es) → FV.flat (zs.take n) = (FV.flat zs).take (n * es) := by
  intro zs
  induction zs with
  | nil => intro n _; simp [FV.flat]
  | cons z zs ih =>
    intro n hz
    cases n with
    | zero => simp [FV.flat]
    | succ n =>
      simp only [List.take_succ_cons, FV.flat, List.flatMap_cons] at *
      rw [ih n fun x hx => hz x (by simp [hx])]
      rw [Nat.add_mul, Nat.one_mul, Nat.add_comm (n * es), ← hz z (by simp), List.take_append]
      simp [List.take_of_length_le]
section
variable {P : Program} {cx : Cx} {w : World} {D : Nat → Prop} {h : AH} {an : Nat → Value}
theorem elems_spec (H : Heap P cx h w D an) {v : Value} {y : LV} {ys : List FV} {es : Nat} (hv : LVRep P w D h.gen an v y) (hq : elemsOf h y = some ys) (hes : ∀ x ∈ ys, x.cells.length = es) :
    (v = .slice none 0 0 ∧ ys = []) ∨ ∃ (ad : Addr) (c : Nat) (news : List Value), v = .slice (some ad) ys.length c ∧ news.length = ys.length * es ∧ (∀ (j : Nat) (u : Value), news[j]? = some u → w.cell? (ad.add j) = some u) ∧
      (∀ u ∈ news, u.oneCell' = true) ∧ (∀ x ∈ ys, x.cells.all FV.one = true) ∧ ∀ (j : Nat) (z : FV) (u : Value), (FV.flat ys)[j]? = some z → news[j]? = some u → Rep w D u z := by
  unfold elemsOf at hq
  split at hq
  · rename_i full ys'
    simp only [Option.some.injEq] at hq
    subst hq
    have hr := hv.fv_inv
    cases hr with
    | empty _ ad => exact .inr ⟨ad, 0, [], rfl, by simp, by simp, by simp, by simp, by simp [FV.flat]⟩
    | list _ _ b off cap es' cs hcap hmax hfull hes' hlen hDb hcell hrep =>
      right
      have hfl := flat_length hes
      refine ⟨⟨b, off, none⟩, cap, (List.range (ys'.length * es)).map cs, rfl, by simp, ?_, ?_, fun x hx => (hlen x hx).2, ?_⟩
      · intro j u hu
        simp only [List.getElem?_map, Option.map_eq_some_iff] at hu
        obtain ⟨k, hk, rfl⟩ := hu
        have hj : j < ys'.length * es := by
          rcases Nat.lt_or_ge j (ys'.length * es) with h | h
          · exact h
          · rw [List.getElem?_eq_none (by simpa using h)] at hk; simp at hk
        rw [List.getElem?_range hj] at hk
        simp at hk; subst hk
        rw [lone_add]
        exact hcell j (FV.flat ys')[j] (by simp [hfl, hj])
      · intro u hu
        simp only [List.mem_map, List.mem_range] at hu
        obtain ⟨j, hj, rfl⟩ := hu
        have hz : (FV.flat ys')[j]? = some (FV.flat ys')[j] := by simp [hfl, hj]
        refine (hrep j _ hz).oneCell ?_
        have : (FV.flat ys')[j] ∈ FV.flat ys' := List.getElem_mem _
        simp only [FV.flat, List.mem_flatMap] at this
        obtain ⟨x, hx, hxm⟩ := this
        exact List.all_eq_true.1 (hlen x hx).2 _ hxm
      · intro j z u hz hu
        have hj : j < ys'.length * es := by rw [← hfl]; exact (List.getElem?_eq_some_iff.1 hz).1
        simp only [List.getElem?_map, List.getElem?_range hj, Option.map_some, Option.some.injEq] at hu
        subst hu
        exact hrep j z hz
  · simp only [Option.some.injEq] at hq
    subst hq
    left; exact ⟨Rep.val_inv hv.fv_inv, rfl⟩
  · rename_i o g
    simp only [Option.map_eq_some_iff] at hq
    obtain ⟨⟨e, es', fz, nil, xs⟩, hb, rfl⟩ := hq
    obtain ⟨rfl, ho⟩ := AH.lst_spec hb
    obtain ⟨⟨vs, hown, hnil, hes', hlen, hrep⟩, _⟩ := H.obj _ _ ho
    cases hv with
    | gl _ _ _ hp hg he =>
      have := he rfl
      subst this
      have hone : ∀ u ∈ vs, u.oneCell' = true := by
        intro u hu
        obtain ⟨j, hj, rfl⟩ := List.mem_iff_getElem.1 hu
        have hfl := flat_length fun x hx => (hlen x hx).1
        have hjf : j < (FV.flat xs).length := by rw [hfl, ← hown.1]; exact hj
        refine (hrep j (FV.flat xs)[j] vs[j] (by simp [hjf]) (by simp)).oneCell ?_
        have : (FV.flat xs)[j] ∈ FV.flat xs := List.getElem_mem _
        simp only [FV.flat, List.mem_flatMap] at this
        obtain ⟨x, hx, hxm⟩ := this
        exact List.all_eq_true.1 (hlen x hx).2 _ hxm
      rcases hown.2 with ⟨hn, hz⟩ | ⟨b, cap, cur, ha, hB, hw, _⟩
      · left; exact ⟨hn, List.eq_nil_of_length_eq_zero hz⟩
      · right
        refine ⟨⟨b, 0, none⟩, cap, vs, ha, ?_, hown.cells (by rw [ha]; rfl), hone, fun x hx => (hlen x hx).2, hrep⟩
        rw [hown.1]
        cases hxs : xs with
        | nil => simp
        | cons x l =>
          have e1 := (hlen x (by simp [hxs])).1
          have e2 := hes x (by simp [hxs])
          rw [← e1, e2]
  · rename_i o g s i j
    simp only [Option.bind_eq_some_iff] at hq
    obtain ⟨⟨e, es', fz, nil, xs⟩, hb, hq⟩ := hq
    simp only at hq
    split at hq
    · rename_i hs
      subst hs
      simp only [Option.some.injEq] at hq
      obtain ⟨rfl, ho⟩ := AH.lst_spec hb
      obtain ⟨⟨vs, hown, hnil, hes', hlen, hrep⟩, _⟩ := H.obj _ _ ho
      cases hv with
      | sub _ _ _ _ _ _ hp hg he =>
        obtain ⟨hij, b, n, cap, ha, hjn, rfl⟩ := he rfl
        rcases hown.2 with ⟨hn, hz⟩ | ⟨b', cap', cur, ha', hB, hw, hnc, _⟩
        · rw [ha] at hn; simp at hn
        · have hanb : an o = .slice (some ⟨b', 0, none⟩) xs.length cap' := ha'
          rw [ha] at ha'
          simp only [Value.slice.injEq, Option.some.injEq, Addr.mk.injEq, and_true, true_and] at ha'
          obtain ⟨rfl, rfl, rfl⟩ := ha'
          right
          have hyl : ys.length = j - i := by rw [← hq]; simp; omega
          have hsub : ∀ y ∈ ys, y ∈ xs := fun y hy => List.mem_of_mem_take (List.mem_of_mem_drop (hq ▸ hy))
          have hfl : FV.flat ys = ((FV.flat xs).take (j * es')).drop (i * es') := by
            rw [← hq, flat_drop _ _ (fun x hx => (hlen x (List.mem_of_mem_take hx)).1), flat_take _ _ (fun x hx => (hlen x hx).1)]
          have hcells : ∀ (k : Nat) (u : Value), vs[k]? = some u → w.cell? ((⟨b, 0, none⟩ : Addr).add k) = some u := hown.cells (by rw [ha]; rfl)
          have hvl : vs.length = xs.length * es' := hown.1
          have hje : j * es' ≤ xs.length * es' := Nat.mul_le_mul_right _ hjn
          have hsub2 : (j - i) * es' = j * es' - i * es' := Nat.sub_mul _ _ _
          have hget : ∀ (k : Nat) (u : Value), ((vs.take (j * es')).drop (i * es'))[k]? = some u → vs[i * es' + k]? = some u := by
            intro k u hu
            rw [List.getElem?_drop, List.getElem?_take] at hu
            split at hu
            · exact hu
            · simp at hu
          refine ⟨⟨b, if cap = i then 0 else i * es', none⟩, cap - i, (vs.take (j * es')).drop (i * es'), by rw [hyl], ?_, ?_, ?_, fun x hx => (hlen x (hsub x hx)).2, ?_⟩
          · simp only [List.length_drop, List.length_take, hvl]
            rw [hyl]
            cases hys : ys with
            | nil =>
              have : j - i = 0 := by rw [← hyl, hys]; rfl
              rw [this, Nat.zero_mul]
              have : j = i := by omega
              subst this
              omega
            | cons x l =>
              have e1 := (hlen x (hsub x (by simp [hys]))).1
              have e2 := hes x (by simp [hys])
              have : es = es' := by omega
              subst this
              rw [hsub2]; omega
          · intro k u hu
            have hu' := hget k u hu
            have hk : k < (j - i) * es' := by
              have := (List.getElem?_eq_some_iff.1 hu).1
              simp only [List.length_drop, List.length_take] at this
              rw [hsub2]; omega
            have hci : ¬ cap = i := by
              rintro rfl
              have : j - cap = 0 := by omega
              rw [this] at hk; simp at hk
            have := hcells _ u hu'
            rw [lone_add] at this ⊢
            rw [if_neg hci]
            simpa using this
          · intro u hu
            obtain ⟨k, hk⟩ := List.mem_iff_getElem?.1 hu
            have hu' := hget k u hk
            have hflx := flat_length fun x hx => (hlen x hx).1
            have hjf : i * es' + k < (FV.flat xs).length := by rw [hflx, ← hvl]; exact (List.getElem?_eq_some_iff.1 hu').1
            refine (hrep (i * es' + k) (FV.flat xs)[i * es' + k] u (by simp [hjf]) hu').oneCell ?_
            have : (FV.flat xs)[i * es' + k] ∈ FV.flat xs := List.getElem_mem _
            simp only [FV.flat, List.mem_flatMap] at this
            obtain ⟨x, hx, hxm⟩ := this
            exact List.all_eq_true.1 (hlen x hx).2 _ hxm
          · intro k z u hz hu
            have hu' := hget k u hu
            rw [hfl, List.getElem?_drop, List.getElem?_take] at hz
            split at hz
            · exact hrep _ z u hz hu'
            · simp at hz
    · simp at hq
  · simp at hq
theorem append_nil2 {t e : Nat} {agg : Bool} {es : Nat} (hi : idx P t = some (none, e, agg, es)) (hn : Bool) {B n : Nat} {v : Value} {vs : List Value} (hown : w.ownsRow B e es v n vs) (ty : Nat) :
    (Builtin.append_ #[t, t] ty #[v, .slice none 0 0]).run P w = .ok v w := by
  obtain ⟨hl, hu⟩ := idx_spec hi
  rcases hu with ⟨m', hm, _⟩ | ⟨_, hu⟩
  · simp at hm
  simp only at hl hu
  obtain ⟨i, hinfo, hsz⟩ := lay_idx hl
  rcases hown.2 with ⟨rfl, _⟩ | ⟨b, cap, cur, rfl, hB, hw, hnc, _⟩
  · simp [Builtin.append_, run_underlying hu, Go.sizeOf, typeInfo, hinfo, Builtin.lenOf, Builtin.firstCells]
  · simp [Builtin.append_, run_underlying hu, Go.sizeOf, typeInfo, hinfo, Builtin.lenOf, Builtin.firstCells, hnc, storeCells]
theorem append_own {t e : Nat} {agg : Bool} {es : Nat} (hi : idx P t = some (none, e, agg, es)) (hzs : (zeros P e).isSome = true) {B : Nat} (hB : B ≤ w.heap.size) {v : Value} {nil : Bool} {xs ys : List FV} (ho : OwnList w D B v e es nil xs)
    (hDv : ∀ b, blk v = some b → ¬ D b) (hlt : ∀ b, D b → b < w.heap.size)
    {vy : Value} (hy : (vy = .slice none 0 0 ∧ ys = []) ∨ ∃ (ad : Addr) (c : Nat) (news : List Value), vy = .slice (some ad) ys.length c ∧ news.length = ys.length * es ∧ (∀ (j : Nat) (u : Value), news[j]? = some u → w.cell? (ad.add j) = some u) ∧
      (∀ u ∈ news, u.oneCell' = true) ∧ (∀ x ∈ ys, x.cells.all FV.one = true) ∧ ∀ (j : Nat) (z : FV) (u : Value), (FV.flat ys)[j]? = some z → news[j]? = some u → Rep w D u z)
    (hes : ∀ x ∈ ys, x.cells.length = es) (hbytes : (xs.length + ys.length) * P.bytesOf e ≤ 140737488355328) (hmax : xs.length + ys.length ≤ maxLen) (ty : Nat) :
    ∃ v' w', (Builtin.append_ #[t, t] ty #[v, vy]).run P w = .ok v' w' ∧ OwnList w' D B v' e es (nil && ys.isEmpty) (xs ++ ys) ∧ w.grownBy w' (blk v) ∧ (blk v' = blk v ∨ (blk v' = some w.heap.size ∧ w.heap.size < w'.heap.size)) := by
  obtain ⟨zs, hz⟩ := Option.isSome_iff_exists.1 hzs
  obtain ⟨i, z, hinfo, hz0, rfl, hzsz, hz1, _⟩ := zeros_spec hz
  obtain ⟨vs, hown, hnil, hes0, hlen, hrep⟩ := ho
  rcases hy with ⟨rfl, rfl⟩ | ⟨ad, c, news, rfl, hnl, hncell, hn1, hyone, hnrep⟩
  · refine ⟨v, w, append_nil2 hi nil hown ty, ⟨vs, by simpa using hown, by simpa using hnil, hes0, by simpa using hlen, by simpa using hrep⟩, ⟨rfl, rfl, rfl, Nat.le_refl _, fun _ _ _ => rfl⟩, .inl rfl⟩
  · obtain ⟨hl, hu⟩ := idx_spec hi
    rcases hu with ⟨m', hm, _⟩ | ⟨_, hu⟩
    · simp at hm
    simp only at hl hu
    obtain ⟨i', hinfo', hsz⟩ := lay_idx hl
    rw [hinfo] at hinfo'; simp at hinfo'; subst hinfo'
    have hby : P.bytesOf e = i.bytes := by simp [Program.bytesOf, hinfo]
    have hbl : v.ownBlock = blk v := by
      rcases hown.2 with ⟨rfl, _⟩ | ⟨g, cap, cur, rfl, _⟩ <;> rfl
    obtain ⟨v', w', hr, hown', hgr, hnil'⟩ := run_append_own (P := P) w B t ty e i z es i.bytes hu hinfo hz0 hsz rfl (by omega) hes0 v xs.length vs hown ad ys.length c news hnl hncell hn1 hmax (by rw [← hby]; exact hbytes) hB
    rw [hbl] at hgr
    have hkeep : ∀ k, D k → w'.heap[k]? = w.heap[k]? := fun k hk => hgr.block k (hlt k hk) (fun e => hDv k e.symm hk)
    refine ⟨v', w', hr, ⟨vs ++ news, by simpa using hown', ?_, hes0, ?_, ?_⟩, hgr, ?_⟩
    · simp only [Bool.and_eq_true, List.isEmpty_iff]
      rw [hnil', hnil]
      constructor
      · rintro ⟨h1, h2⟩; exact ⟨h1, by simp [h2]⟩
      · rintro ⟨h1, h2⟩; exact ⟨h1, List.eq_nil_of_length_eq_zero h2⟩
    · intro x hx
      rcases List.mem_append.1 hx with hx | hx
      · exact hlen x hx
      · exact ⟨hes x hx, hyone x hx⟩
    · intro j y u hy hu'
      have hfx := flat_length fun x hx => (hlen x hx).1
      have hvl := hown.1
      rw [show FV.flat (xs ++ ys) = FV.flat xs ++ FV.flat ys by simp [FV.flat]] at hy
      by_cases hj : j < (FV.flat xs).length
      · rw [List.getElem?_append_left hj] at hy
        rw [List.getElem?_append_left (by omega)] at hu'
        exact (hrep j y u hy hu').keep (fun _ h => h) hkeep
      · rw [List.getElem?_append_right (by omega)] at hy hu'
        rw [show j - vs.length = j - (FV.flat xs).length by omega] at hu'
        exact (hnrep _ y u hy hu').keep (fun _ h => h) hkeep
    · -- the new row, or the elder one
      rcases hown'.2 with ⟨hn', _⟩ | ⟨g, cap, cur, hv', hB', hg', _⟩
      · have := hnil'.1 hn'
        left; rw [hn', this.1]
      · rw [hv']
        simp only [blk]
        by_cases hgs : g < w.heap.size
        · left
          rcases hown.2 with ⟨rfl, hz⟩ | ⟨g0, cap0, cur0, rfl, hB0, hg0, hnc0, hcm0, hcs0, _⟩
          · -- a nil list grows into a new row
            by_cases hm0 : ys.length = 0
            · have := hnil'.2 ⟨rfl, hm0⟩
              rw [this] at hv'; simp at hv'
            · have hrn := run_append_nil (P := P) w t ty e i z hu hinfo hz0 ad ys.length c news (by rw [hnl, hsz]) hncell (by omega) (by simp only [maxLen] at hmax; omega) (by rw [hby] at hbytes; have : ys.length * i.bytes ≤ (xs.length + ys.length) * i.bytes := Nat.mul_le_mul_right _ (by omega); omega)
              rw [hrn] at hr
              simp only [Result.ok.injEq] at hr
              rw [← hr.1] at hv'
              simp at hv'
          · simp only [Option.some.injEq]
            by_cases hroom : xs.length + ys.length ≤ cap0
            · have hfit : xs.length * i.size + news.length ≤ cur0.size := by rw [hnl, hcs0, hsz, ← Nat.add_mul]; exact Nat.mul_le_mul_right _ hroom
              have hrr := run_append_room (P := P) w t ty e i hu hinfo g0 xs.length cap0 cur0 hg0 ad ys.length c news (by rw [hnl, hsz]) hncell hn1 hroom hfit
              rw [hrr] at hr
              simp only [Result.ok.injEq] at hr
              rw [← hr.1] at hv'
              simp at hv'
              exact hv'.1.symm
            · have hrg := run_append_grow (P := P) w t ty e i z hu hinfo hz0 ⟨g0, 0, none⟩ xs.length cap0 vs (by rw [hown.1, hsz]) (hown.cells rfl) ad ys.length c news (by rw [hnl, hsz]) hncell (by omega) (by simp only [maxLen] at hmax; omega) (growslice_fits (by omega) (by rw [← hby]; exact hbytes))
              rw [hrg] at hr
              simp only [Result.ok.injEq] at hr
              rw [← hr.1] at hv'
              simp at hv'
        · right
          have hgl : g < w'.heap.size := (Array.getElem?_eq_some_iff.1 hg').1
          -- the run tells where
          rcases hown.2 with ⟨rfl, hz⟩ | ⟨g0, cap0, cur0, rfl, hB0, hg0, hnc0, hcm0, hcs0, _⟩
          · by_cases hm0 : ys.length = 0
            · have := hnil'.2 ⟨rfl, hm0⟩
              rw [this] at hv'; simp at hv'
            · have hrn := run_append_nil (P := P) w t ty e i z hu hinfo hz0 ad ys.length c news (by rw [hnl, hsz]) hncell (by omega) (by simp only [maxLen] at hmax; omega) (by rw [hby] at hbytes; have : ys.length * i.bytes ≤ (xs.length + ys.length) * i.bytes := Nat.mul_le_mul_right _ (by omega); omega)
              rw [hrn] at hr
              simp only [Result.ok.injEq] at hr
              rw [← hr.1] at hv'
              simp at hv'
              exact ⟨by simp; omega, by omega⟩
          · have hg0l : g0 < w.heap.size := (Array.getElem?_eq_some_iff.1 hg0).1
            by_cases hroom : xs.length + ys.length ≤ cap0
            · have hfit : xs.length * i.size + news.length ≤ cur0.size := by rw [hnl, hcs0, hsz, ← Nat.add_mul]; exact Nat.mul_le_mul_right _ hroom
              have hrr := run_append_room (P := P) w t ty e i hu hinfo g0 xs.length cap0 cur0 hg0 ad ys.length c news (by rw [hnl, hsz]) hncell hn1 hroom hfit
              rw [hrr] at hr
              simp only [Result.ok.injEq] at hr
              rw [← hr.1] at hv'
              simp at hv'
            · have hrg := run_append_grow (P := P) w t ty e i z hu hinfo hz0 ⟨g0, 0, none⟩ xs.length cap0 vs (by rw [hown.1, hsz]) (hown.cells rfl) ad ys.length c news (by rw [hnl, hsz]) hncell (by omega) (by simp only [maxLen] at hmax; omega) (growslice_fits (by omega) (by rw [← hby]; exact hbytes))
              rw [hrg] at hr
              simp only [Result.ok.injEq] at hr
              rw [← hr.1] at hv'
              simp at hv'
              exact ⟨by simp; omega, by omega⟩
theorem pfx_run {dst : Option Nat} {type : Nat} {pos : String} {after : Array Edge} {guard : Option (Nat × Bool)} {a : Act} {s x : Operand} {t t' : Nat} {v : Value} {w' : World}
    (hr : (Builtin.append_ #[t, t'] type #[a.eval s, a.eval x]).run P w = .ok v w') :
    (execOp a.eval ⟨dst, .call { callee := .builtin .append, args := #[s, x], argTypes := #[t, t'] }, type, pos, after, guard⟩).run P w = .ok (.value v) w' := by
  simp [execOp, resolve, invoke, builtin, hr]
theorem OwnList.ge {B : Nat} {v : Value} {e es : Nat} {nil : Bool} {xs : List FV} (h : OwnList w D B v e es nil xs) : ∀ b, blk v = some b → B ≤ b := by
  obtain ⟨vs, hown, _⟩ := h
  intro b hb
  rcases hown.2 with ⟨rfl, _⟩ | ⟨g, cap, cur, rfl, hB, _⟩
  · simp [blk] at hb
  · simp [blk] at hb; omega
theorem OwnList.oneCell {B : Nat} {v : Value} {e es : Nat} {nil : Bool} {xs : List FV} (h : OwnList w D B v e es nil xs) : v.oneCell' = true := by
  obtain ⟨vs, hown, _⟩ := h
  rcases hown.2 with ⟨rfl, _⟩ | ⟨g, cap, cur, rfl, hB, _⟩ <;> rfl
theorem append_gl (H : Heap P cx h w D an) {o e es t : Nat} {agg nil : Bool} {xs ys : List FV} {y : LV} {vy : Value} (hobj : h.obj o = some (.list e es false nil xs)) (hi : idx P t = some (none, e, agg, es))
    (hxv : LVRep P w D h.gen an vy y) (hel : elemsOf h y = some ys) (hlen : ∀ x ∈ ys, x.cells.length = es) (hz : (zeros P e).isSome = true) (hby : (xs.length + ys.length) * P.bytesOf e ≤ 140737488355328) (hmax : xs.length + ys.length ≤ maxLen) (type : Nat) :
    ∃ v' w', (Builtin.append_ #[t, t] type #[an o, vy]).run P w = .ok v' w' ∧ Heap P cx (h.renew o (h.gen o + 1) (.list e es false (nil && ys.isEmpty) (xs ++ ys))) w' D (upd an o v') ∧
      Ext w D h.gen an w' D (upd h.gen o (h.gen o + 1)) (upd an o v') ∧ LVRep P w' D (upd h.gen o (h.gen o + 1)) (upd an o v') v' (.gl o (h.gen o + 1)) := by
  obtain ⟨hown, hfz⟩ := H.obj _ _ hobj
  have hnD : ∀ b, blk (an o) = some b → ¬ D b := fun b hb => (hfz b hb).2 rfl
  obtain ⟨v', w', hr, hown', hgr, hbl⟩ := append_own (P := P) (B := 0) hi hz (Nat.zero_le _) hown hnD H.lt (elems_spec H hxv hel hlen) hlen hby hmax type
  have hge : ∀ b, blk (an o) = some b → cx.wi.heap.size ≤ b ∨ cx.Ow b := fun b hb => H.ow o _ b hobj hb
  have hkeepD : ∀ b, D b → w'.heap[b]? = w.heap[b]? := fun b hb => hgr.block b (H.lt b hb) (fun e => hnD b e.symm hb)
  have hsize : w.heap.size ≤ w'.heap.size := hgr.size
  have hbel : BelowM cx.M cx.wi.heap.size w w' := ⟨hgr.os, hgr.tape, hgr.output, hsize, fun k hk hm => hgr.block k (by have := H.below.size; omega) (fun e => by
    rcases hge k e.symm with h | h
    · omega
    · exact hm (cx.sub _ h))⟩
  have hext : Ext w D h.gen an w' D (upd h.gen o (h.gen o + 1)) (upd an o v') := by
    refine ⟨fun _ h => h, hkeepD, fun o' => ?_, fun o' ho' => ?_⟩
    · simp only [upd]; split
      · rename_i e; rw [e]; omega
      · exact Nat.le_refl _
    · simp only [upd] at ho' ⊢; split
      · rename_i e; rw [if_pos e] at ho'; rw [e] at ho'; omega
      · rfl
  have hv'D : ∀ b, blk v' = some b → ¬ D b := by
    intro b hb' hD
    rcases hbl with h1 | ⟨h1, _⟩
    · exact hnD b (by rw [← h1]; exact hb') hD
    · rw [h1] at hb'; simp at hb'; subst hb'; have := H.lt _ hD; omega
  refine ⟨v', w', hr, ?_, hext, .gl _ _ _ hown'.oneCell (by simp [AH.renew, upd]) fun _ => by simp [upd]⟩
  refine H.step (h' := h.renew o (h.gen o + 1) (.list e es false (nil && ys.isEmpty) (xs ++ ys))) o hbel hext.dd hext.keep (fun b hb => Nat.lt_of_lt_of_le (H.lt b hb) hsize) (fun _ h => .inl h) hext.mono hext.anc ?_ ?_ ?_ ?_ ?_ ?_ rfl (fun b hb hno => hgr.block b hb (fun e => hno _ hobj e.symm)) ?_
  · intro o' ho'; simp [AH.renew, upd, ho']
  · intro o' ho'; simp [upd, ho']
  · intro o' b ob hne' hob hb'
    exact ⟨hgr.block b (H.blk_lt hob hb') (fun e => hne' (H.sep o' o b ob _ hob hobj hb' e.symm)), fun h => h⟩
  · intro ob hob
    simp only [AH.renew, upd, if_true, Option.some.injEq] at hob
    subst hob
    simp only [AH.renew, upd, if_true]
    exact ⟨hown', fun b hb' => ⟨by simp, fun _ => hv'D b hb'⟩⟩
  · intro ob b _ hb'
    simp only [upd, if_true] at hb'
    rcases hbl with h1 | ⟨h1, _⟩
    · exact hge b (by rw [← h1]; exact hb')
    · rw [h1] at hb'; simp at hb'; have := H.below.size; exact .inl (by omega)
  · intro o' b ob ob' hne' hob _ hb' hb''
    simp only [upd, if_true] at hb''
    rcases hbl with h1 | ⟨h1, _⟩
    · exact hne' (H.sep o' o b ob _ hob hobj hb' (by rw [← h1]; exact hb''))
    · rw [h1] at hb''; simp at hb''; have := H.blk_lt hob hb'; omega
  · intro ob b _ hb' hY
    simp only [upd, if_true] at hb'
    rcases hbl with h1 | ⟨h1, _⟩
    · exact H.ysep o _ b hobj (by rw [← h1]; exact hb') hY
    · rw [h1] at hb'; simp at hb'; have := H.ylt b hY; omega
theorem cut_own (H : Heap P cx h w D an) {o e es b n cap j : Nat} {xs : List FV} (hobj : h.obj o = some (.list e es false false xs)) (ha : an o = .slice (some ⟨b, 0, none⟩) n cap) (hj : j ≤ xs.length) :
    Heap P cx (h.renew o (h.gen o + 1) (.list e es false false (xs.take j))) w D (upd an o (.slice (some ⟨b, 0, none⟩) j cap)) ∧
      Ext w D h.gen an w D (h.renew o (h.gen o + 1) (.list e es false false (xs.take j))).gen (upd an o (.slice (some ⟨b, 0, none⟩) j cap)) := by
  obtain ⟨⟨vs, hown, hnil, hes, hlen, hrep⟩, hfz⟩ := H.obj o _ hobj
  rcases hown.2 with ⟨hn, hz⟩ | ⟨b', cap', cur, ha', hB, hw, hnc, hcm, hcs, htake⟩
  · rw [ha] at hn; simp at hn
  rw [ha] at ha'
  simp only [Value.slice.injEq, Option.some.injEq, Addr.mk.injEq, and_true, true_and] at ha'
  obtain ⟨rfl, rfl, rfl⟩ := ha'
  have hnD : ¬ D b := (hfz b (by rw [ha]; rfl)).2 rfl
  have ow := H.ow o _ b hobj (by rw [ha]; rfl)
  have hext : Ext w D h.gen an w D (h.renew o (h.gen o + 1) (.list e es false false (xs.take j))).gen (upd an o (.slice (some ⟨b, 0, none⟩) j cap)) := by
    refine ⟨fun _ h => h, fun k hk => rfl, fun k => ?_, fun k hk => ?_⟩
    · simp only [AH.renew, upd]
      split
      · rename_i e2; subst e2; omega
      · exact Nat.le_refl _
    · simp only [AH.renew, upd] at hk ⊢
      split at hk
      · rename_i e2; subst e2; omega
      · rename_i e2; rw [if_neg e2]
  refine ⟨?_, hext⟩
  refine H.step o ⟨rfl, rfl, rfl, Nat.le_refl _, fun _ _ _ => rfl⟩ hext.dd hext.keep H.lt (fun _ h => .inl h) hext.mono hext.anc ?_ (fun k hk => by simp [upd, hk]) ?_ ?_ ?_ ?_ rfl (fun b' _ _ => rfl) ?_
  · intro o' ho'; simp [AH.renew, upd, ho']
  · intro o' b' ob hne' hob hb'
    exact ⟨rfl, fun h => h⟩
  · intro ob hob
    simp only [AH.renew, upd, if_true, Option.some.injEq] at hob
    subst hob
    have e3 : upd an o (.slice (some ⟨b, 0, none⟩) j cap) o = .slice (some ⟨b, 0, none⟩) j cap := by simp [upd]
    rw [e3]
    have hl2 : (xs.take j).length = j := by simp; omega
    have hvl : vs.length = xs.length * es := hown.1
    have hje : j * es ≤ xs.length * es := Nat.mul_le_mul_right _ hj
    refine ⟨⟨vs.take (j * es), ⟨by rw [hl2]; simp; omega, .inr ⟨b, cap, cur, by rw [hl2], Nat.zero_le _, hw, by rw [hl2]; omega, hcm, hcs, ?_⟩⟩, ⟨fun h => by simp at h, fun h => by simp at h⟩, hes, fun x hx => hlen x (List.mem_of_mem_take hx), ?_⟩, fun b' hb' => ?_⟩
    · rw [hl2, ← htake, List.take_take]
      congr 1; omega
    · intro k y u hy hu
      rw [flat_take _ _ fun x hx => (hlen x hx).1, List.getElem?_take] at hy
      rw [List.getElem?_take] at hu
      split at hy
      · rename_i hk
        rw [if_pos hk] at hu
        exact hrep k y u hy hu
      · simp at hy
    · simp only [blk, Option.some.injEq] at hb'
      subst hb'
      exact ⟨fun h => by simp at h, fun _ => hnD⟩
  · intro ob b' _ hb'
    simp only [upd, if_true, blk, Option.some.injEq] at hb'
    subst hb'
    exact ow
  · intro o' b' ob ob' hne' hob _ hb' hb''
    simp only [upd, if_true, blk, Option.some.injEq] at hb''
    subst hb''
    exact hne' (H.sep o' o b ob _ hob hobj hb' (by rw [ha]; rfl))
  · intro ob b' _ hb'
    simp only [upd, if_true, blk, Option.some.injEq] at hb'
    subst hb'
    exact H.ysep o _ b hobj (by rw [ha]; rfl)
theorem appZ_sound (H : Heap P cx h w D an) {d : Option Nat} {t t' : Nat} {v u : Value} {a x : LV} {K : LV → AH → Prop} (ha : LVRep P w D h.gen an v a) (hx : LVRep P w D h.gen an u x) (hq : appZ P d t t' a x h K) (type : Nat) :
    ∃ v' w' lv, ∃ h' : AH, ∃ an', K lv h' ∧ (Builtin.append_ #[t, t'] type #[v, u]).run P w = .ok v' w' ∧ Heap P cx h' w' D an' ∧ Ext w D h.gen an w' D h'.gen an' ∧ LVRep P w' D h'.gen an' v' lv := by
  obtain ⟨kn, e, es, agg, n, zs, d', hkn, rfl, hn, h0, hi, rfl, hes, hby, hm, hz, hagg, hK⟩ := hq
  obtain ⟨k, rfl⟩ := intOf_inv hn hx
  obtain rfl := Rep.val_inv ha.fv_inv
  obtain ⟨i, z, hinfo, hz0, rfl, hzsz, hz1, hzo⟩ := zeros_spec hz
  obtain ⟨hl, hu⟩ := idx_spec hi
  rcases hu with ⟨m', hm', _⟩ | ⟨_, hu⟩
  · simp at hm'
  simp only at hl hu
  have hls : i.size = es := by
    obtain ⟨i', hi', he'⟩ := lay_idx hl
    rw [hinfo] at hi'; simp at hi'; subst hi'; exact he'
  obtain ⟨n, rfl⟩ := Int.eq_ofNat_of_zero_le (Int.le_of_lt h0)
  simp only [Int.toNat_natCast] at hm hK
  have hb' : n * i.bytes ≤ 281474976710656 := by
    have : P.bytesOf e = i.bytes := by simp [Program.bytesOf, hinfo]
    rw [this] at hby
    have h : ((n * i.bytes : Nat) : Int) ≤ 281474976710656 := by rw [Int.natCast_mul]; exact hby
    omega
  have hzl : z.cells.size = es := by omega
  have hr := Go.Lib.run_append_nil_zeros (P := P) w t t' type e i z k kn hu hkn hinfo hz0 n (by omega) (by omega) (by simp only [maxLen] at hm; omega) hb'
  obtain ⟨m1, m2⟩ := made_rep (w := w) (D := D) (n := n) hzl hes hagg hz1 hzo
  have hb : Below w.heap.size w (w.drew.alloc (.cells (Builtin.zeroCells z.cells n ++ Builtin.zeroCells z.cells (grownCap w n 0 e - n)) e)) := ((Below.refl _ _).drew).alloc (Nat.le_refl _) _
  have hge := grownCap_ge w n 0 e
  have hcm := grownCap_le_maxLen w n 0 e hm
  have hzc : Builtin.zeroCells z.cells n = madeCells z.cells (n * es) := by rw [← hzl]; rfl
  have hol : OwnList (w.drew.alloc (.cells (Builtin.zeroCells z.cells n ++ Builtin.zeroCells z.cells (grownCap w n 0 e - n)) e)) D 0 (.slice (some ⟨w.heap.size, 0, none⟩) n (grownCap w n 0 e)) e es false (List.replicate n (FV.ofCells agg (z.cells.toList.map FV.val))) := by
    refine ⟨(madeCells z.cells (n * es)).toList, ⟨by simp [size_madeCells], .inr ⟨w.heap.size, grownCap w n 0 e, _, by simp, Nat.zero_le _, heap_alloc_new w.drew _, by simpa using hge, hcm, ?_, ?_⟩⟩, by simp, hes, m1, ?_⟩
    · rw [Array.size_append, size_zeroCells, size_zeroCells, hzl, ← Nat.add_mul]
      congr 1; omega
    · rw [List.length_replicate, Array.toList_append, hzc]
      rw [List.take_append_of_le_length (by simp [size_madeCells])]
      rw [List.take_of_length_le (by simp [size_madeCells])]
    · intro j y u hy hu'
      exact (m2 j y u hy hu').keep (fun _ h => h) fun b hb' => hb.block b (H.lt b hb')
  obtain ⟨e1, e2, e3⟩ := list_new H d' hb (by simp) (.inl rfl) hol
  exact ⟨_, _, _, _, _, hK, hr, e1, e2, e3⟩
theorem append_sound (H : Heap P cx h w D an) {ρ : Nat → LV} {a : Act} (hs : ∀ i, LVRep P w D h.gen an (a.tmps.getD i Go.undef) (ρ i)) (o : Oper) (args : Array Operand) (tys : Array TypeId) (ho : o.op = .call { callee := .builtin .append, args := args, argTypes := tys })
    {K : LV → AH → Prop} (hq : effV P o.dst o.op o.type (evL ρ) h K) : Left P cx h w D an ((execOp a.eval o).run P w) K := by
  obtain ⟨dst, op, type, pos, after, guard⟩ := o
  simp only at ho
  subst ho
  simp only [effV] at hq
  split at hq
  · rename_i s x t t' hargs htys
    have ha' : args = #[s, x] := by rw [← Array.toList_inj, hargs]
    have ht' : tys = #[t, t'] := by rw [← Array.toList_inj, htys]
    subst ha'; subst ht'
    have hsv := ev_sound (P := P) (w := w) (D := D) (an := an) hs s
    have hxv := ev_sound (P := P) (w := w) (D := D) (an := an) hs x
    split at hq
    · obtain ⟨v', w', _, _, _, hK, hr, hH, hext, hv'⟩ := appZ_sound H hsv hxv hq type
      exact ⟨_, _, v', w', D, _, hK, .inl (pfx_run hr), hH, hext, hv'⟩
    rename_i htt
    have htt := Decidable.not_not.1 htt
    subst htt
    split at hq
    · rename_i o g hes hex
      obtain ⟨e, es, nil, xs, hb, ⟨agg, hi⟩, hK⟩ := hq
      obtain ⟨rfl, hobj⟩ := AH.lst_spec hb
      obtain ⟨⟨vs, hown, _⟩, _⟩ := H.obj _ _ hobj
      rw [hes] at hsv
      rw [hex] at hxv
      have e1 := Rep.val_inv hxv.fv_inv
      refine .quiet H (v := a.eval s) (pfx_run ?_) hsv hK
      rw [e1]
      generalize a.eval s = v at hsv ⊢
      cases hsv with
      | gl _ _ _ hp hg he =>
        rw [he rfl]
        exact append_nil2 hi nil hown type
    · rename_i o g hes hne
      obtain ⟨e, es, nil, xs, ys, hb, ⟨agg, hi⟩, hel, hlen, hz, hby, hmax, hK⟩ := hq
      obtain ⟨rfl, hobj⟩ := AH.lst_spec hb
      rw [hes] at hsv
      obtain ⟨v', w', hr, hH, hext, hv'⟩ := append_gl H hobj hi hxv hel hlen hz hby hmax type
      have hsv' : a.eval s = an o := by
        generalize a.eval s = v at hsv ⊢
        cases hsv with
        | gl _ _ _ hp hg he => exact he rfl
      exact ⟨_, _, v', w', D, upd an o v', hK, .inl (pfx_run (by rw [hsv']; exact hr)), hH, hext, hv'⟩
    · rename_i o g es i j hes
      obtain ⟨e, xs, ys, rfl, hb, hj, ⟨agg, hi⟩, hel, hlen, hz, hby, hmax, hK⟩ := hq
      obtain ⟨rfl, hobj⟩ := AH.lst_spec hb
      rw [hes] at hsv
      obtain ⟨b, n, cap, ha, hjn, hv0⟩ : ∃ b n cap, an o = .slice (some ⟨b, 0, none⟩) n cap ∧ j ≤ n ∧ a.eval s = .slice (some ⟨b, 0, none⟩) j cap := by
        generalize a.eval s = v at hsv ⊢
        cases hsv with
        | sub _ _ _ _ _ _ hp hg he =>
          obtain ⟨_, b, n, cap, h1, h2, h3⟩ := he rfl
          refine ⟨b, n, cap, h1, h2, ?_⟩
          rw [h3]; simp
      obtain ⟨H2, E2⟩ := cut_own H hobj ha hj
      have hobj2 : (h.renew o (h.gen o + 1) (.list e es false false (xs.take j))).obj o = some (.list e es false false (xs.take j)) := by simp [AH.renew, upd]
      have hl2 : (xs.take j).length = j := by simp; omega
      obtain ⟨v', w', hr, hH, hext, hv'⟩ := append_gl H2 hobj2 hi (hxv.ext E2) hel hlen hz (by rw [hl2]; exact hby) (by rw [hl2]; exact hmax) type
      have e1 : (h.renew o (h.gen o + 1) (.list e es false false (xs.take j))).renew o (h.gen o + 2) (.list e es false (false && ys.isEmpty) (xs.take j ++ ys)) = h.renew o (h.gen o + 2) (.list e es false false (xs.take j ++ ys)) := by
        simp only [AH.renew, AH.mk.injEq, Bool.false_and, and_true]
        constructor <;> (funext k; simp only [upd]; split <;> rfl)
      have e0 : (h.renew o (h.gen o + 1) (.list e es false false (xs.take j))).gen o + 1 = h.gen o + 2 := by simp [AH.renew, upd]
      have ean : upd an o (.slice (some ⟨b, 0, none⟩) j cap) o = .slice (some ⟨b, 0, none⟩) j cap := by simp [upd]
      rw [e0] at hH hext hv'
      rw [e1] at hH
      rw [ean] at hr
      refine ⟨_, _, v', w', D, _, hK, .inl (pfx_run (by rw [hv0]; exact hr)), hH, ?_, ?_⟩
      · have := E2.trans hext
        have eg : (h.renew o (h.gen o + 2) (.list e es false false (xs.take j ++ ys))).gen = upd (h.renew o (h.gen o + 1) (.list e es false false (xs.take j))).gen o (h.gen o + 2) := by
          funext k; simp only [AH.renew, upd]; split <;> rfl
        rw [eg]; exact this
      · have eg : (h.renew o (h.gen o + 2) (.list e es false false (xs.take j ++ ys))).gen = upd (h.renew o (h.gen o + 1) (.list e es false false (xs.take j))).gen o (h.gen o + 2) := by
          funext k; simp only [AH.renew, upd]; split <;> rfl
        rw [eg]; exact hv'
    · rename_i hes
      obtain ⟨e, es, d', ys, ⟨agg, hi⟩, hd, hes0, hel, hlen, hz, hby, hmax, hK⟩ := hq
      rw [hes] at hsv
      have e1 := Rep.val_inv hsv.fv_inv
      have hown : OwnList w D 0 (.slice none 0 0) e es true [] := ⟨[], ⟨by simp, .inl ⟨rfl, rfl⟩⟩, by simp, hes0, by simp, by simp⟩
      obtain ⟨v', w', hr, hown', hgr, hbl⟩ := append_own (P := P) (B := 0) hi hz (Nat.zero_le _) hown (by simp [blk]) H.lt (elems_spec H hxv hel hlen) hlen (by simpa using hby) (by simpa using hmax) type
      simp only [Bool.true_and, List.nil_append] at hown'
      rcases hbl with h1 | ⟨h1, h2⟩
      · -- nothing was appended
        have hnone : blk v' = none := by rw [h1]; rfl
        have hv'n : v' = .slice none 0 0 := by
          obtain ⟨vs, ho, _⟩ := hown'
          rcases ho.2 with ⟨hn, _⟩ | ⟨g, cap, cur, ha, _⟩
          · exact hn
          · rw [ha] at hnone; simp [blk] at hnone
        have hysn : ys = [] := by
          obtain ⟨vs, ho, hnil, _⟩ := hown'
          have := hnil.2 hv'n
          simpa using this
        subst hysn
        subst hv'n
        have hww : w' = w := by
          rcases elems_spec H hxv hel hlen with ⟨hvy, _⟩ | ⟨⟨b, off, sp⟩, c, news, hvy, hnl, _⟩
          · rw [hvy, append_nil2 hi true ⟨by simp, .inl ⟨rfl, rfl⟩⟩ type (B := 0) (n := 0) (vs := [])] at hr
            simp at hr; exact hr.symm
          · obtain ⟨hl, hu⟩ := idx_spec hi
            rcases hu with ⟨m', hm, _⟩ | ⟨_, hu⟩
            · simp at hm
            simp only at hl hu
            obtain ⟨i', hinfo', hsz⟩ := lay_idx hl
            rw [hvy] at hr
            simp [Builtin.append_, run_underlying hu, Go.sizeOf, typeInfo, hinfo', Builtin.lenOf, Builtin.firstCells, loadCells, loadCellsFrom, storeCells] at hr
            exact hr.symm
        subst hww
        obtain ⟨e1', e2, e3⟩ := nil_new H d' e es hes0
        exact ⟨_, _, _, _, _, _, hK, .inl (pfx_run (by rw [e1]; exact hr)), e1', e2, e3⟩
      · have hb : Below w.heap.size w w' := ⟨hgr.os, hgr.tape, hgr.output, hgr.size, fun k hk => hgr.block k hk (by simp [blk])⟩
        obtain ⟨e1', e2, e3⟩ := list_new H d' hb h2 (.inl h1) hown'
        exact ⟨_, _, _, _, _, _, hK, .inl (pfx_run (by rw [e1]; exact hr)), e1', e2, e3⟩
    · rename_i xs hes
      obtain ⟨e, es, d', ys, ⟨agg, hi⟩, hd, hes0, hel, hne, hxlen, hlen, hz, hby, hmax, hK⟩ := hq
      rw [hes] at hsv
      have hsr := hsv.fv_inv
      generalize hgen : a.eval s = v at hsr
      obtain ⟨ad, cap, cs, hva, hcl, hcell, hrep, hlen'⟩ : ∃ (ad : Addr) (cap : Nat) (cs : Nat → Value), v = .slice (some ad) xs.length cap ∧ cap = xs.length ∧ (∀ (j : Nat) (y : FV), (FV.flat xs)[j]? = some y → w.cell? (ad.add j) = some (cs j)) ∧
          (∀ (j : Nat) (y : FV), (FV.flat xs)[j]? = some y → Rep w D (cs j) y) ∧ ∀ x ∈ xs, x.cells.all FV.one = true := by
        cases hsr with
        | empty _ ad => exact ⟨ad, 0, fun _ => Go.undef, rfl, rfl, by simp [FV.flat], by simp [FV.flat], by simp⟩
        | list _ _ b off cap es' cs hcap hmax' hfull hes' hlen' hDb hcell hrep =>
          exact ⟨⟨b, off, none⟩, cap, cs, rfl, hfull rfl, fun j y hy => by rw [lone_add]; exact hcell j y hy, hrep, fun x hx => (hlen' x hx).2⟩
      · subst hva
        rcases elems_spec H hxv hel hlen with ⟨hvy, hyn⟩ | ⟨ad2, c2, news, hvy, hnl, hncell, hn1, hyone, hnrep⟩
        · exact absurd hyn hne
        · obtain ⟨zs, hz'⟩ := Option.isSome_iff_exists.1 hz
          obtain ⟨i, z, hinfo, hz0, rfl, hzsz, hz1, _⟩ := zeros_spec hz'
          obtain ⟨hl, hu⟩ := idx_spec hi
          rcases hu with ⟨m', hm, _⟩ | ⟨_, hu⟩
          · simp at hm
          simp only at hl hu
          obtain ⟨i', hinfo', hsz⟩ := lay_idx hl
          rw [hinfo] at hinfo'; simp at hinfo'; subst hinfo'
          have hfl := flat_length hxlen
          have hbyb : P.bytesOf e = i.bytes := by simp [Program.bytesOf, hinfo]
          have hyl : 0 < ys.length := by cases ys with | nil => exact absurd rfl hne | cons => simp
          have hrg := run_append_grow (P := P) w t type e i z hu hinfo hz0 ad xs.length cap ((List.range (xs.length * es)).map cs) (by simp [hsz]) (by
            intro j u hu'
            have hj : j < xs.length * es := by
              have := (List.getElem?_eq_some_iff.1 hu').1; simpa using this
            simp only [List.getElem?_map, List.getElem?_range hj, Option.map_some, Option.some.injEq] at hu'
            subst hu'
            exact hcell j (FV.flat xs)[j] (by simp [hfl, hj])) ad2 ys.length c2 news (by rw [hnl, hsz]) hncell (by omega) (by simp only [maxLen] at hmax; omega) (growslice_fits (by omega) (by rw [← hbyb]; exact hby))
          have hge := grownCap_ge w (xs.length + ys.length) cap e
          have hcm := grownCap_le_maxLen w (xs.length + ys.length) cap e hmax
          obtain ⟨C, hC⟩ : ∃ C, C = (((List.range (xs.length * es)).map cs).toArray ++ news.toArray ++ Builtin.zeroCells z.cells (grownCap w (xs.length + ys.length) cap e - (xs.length + ys.length))) := ⟨_, rfl⟩
          rw [← hC] at hrg
          have hCs : C.size = grownCap w (xs.length + ys.length) cap e * es := by
            rw [hC]
            simp only [Array.size_append, List.size_toArray, size_zeroCells, List.length_map, List.length_range, hnl]
            rw [hzsz, hsz, ← Nat.add_mul, ← Nat.add_mul]; congr 1; omega
          have hb : Below w.heap.size w (w.drew.alloc (.cells C e)) := ((Below.refl _ w).drew).alloc (Nat.le_refl _) _
          have hol : OwnList (w.drew.alloc (.cells C e)) D 0 (.slice (some ⟨w.heap.size, 0, none⟩) (xs.length + ys.length) (grownCap w (xs.length + ys.length) cap e)) e es false (xs ++ ys) := by
            refine ⟨(List.range (xs.length * es)).map cs ++ news, ⟨by simp [hnl, Nat.add_mul], .inr ⟨w.heap.size, _, C, by simp, Nat.zero_le _, heap_alloc_new w.drew _, by simpa using hge, hcm, hCs, ?_⟩⟩, by simp, hes0, ?_, ?_⟩
            · rw [hC]
              simp only [Array.toList_append, List.append_assoc]
              rw [← List.append_assoc]
              refine List.take_left' ?_
              simp [hnl, Nat.add_mul]
            · intro x hx
              rcases List.mem_append.1 hx with hx | hx
              · exact ⟨hxlen x hx, hlen' x hx⟩
              · exact ⟨hlen x hx, hyone x hx⟩
            · intro j y u hy hu'
              rw [show FV.flat (xs ++ ys) = FV.flat xs ++ FV.flat ys by simp [FV.flat]] at hy
              by_cases hj : j < (FV.flat xs).length
              · rw [List.getElem?_append_left hj] at hy
                rw [List.getElem?_append_left (by simp; omega)] at hu'
                simp only [List.getElem?_map, List.getElem?_range (show j < xs.length * es by omega), Option.map_some, Option.some.injEq] at hu'
                subst hu'
                exact (hrep j y hy).keep (fun _ h => h) fun b hb' => hb.block b (H.lt b hb')
              · rw [List.getElem?_append_right (by omega)] at hy
                rw [List.getElem?_append_right (by simp; omega)] at hu'
                rw [show j - ((List.range (xs.length * es)).map cs).length = j - (FV.flat xs).length by simp [hfl]] at hu'
                exact (hnrep _ y u hy hu').keep (fun _ h => h) fun b hb' => hb.block b (H.lt b hb')
          obtain ⟨e1', e2, e3⟩ := list_new H d' hb (by simp) (.inl rfl) hol
          exact ⟨_, _, _, _, _, _, hK, .inl (pfx_run (by rw [hgen, hvy]; exact hrg)), e1', e2, e3⟩
    · exact hq.elim
  · exact hq.elim
end
end Abs

namespace Abs
open Go
open Go.RowKit (Below)
section
variable {P : Program} {cx : Cx} {w : World} {D : Nat → Prop} {h : AH} {an : Nat → Value}
theorem copy_sound (H : Heap P cx h w D an) {ρ : Nat → LV} {a : Act} (hs : ∀ i, LVRep P w D h.gen an (a.tmps.getD i Go.undef) (ρ i)) (o : Oper) (args : Array Operand) (tys : Array TypeId) (ho : o.op = .call { callee := .builtin .copy, args := args, argTypes := tys })
    {K : LV → AH → Prop} (hq : effV P o.dst o.op o.type (evL ρ) h K) : Left P cx h w D an ((execOp a.eval o).run P w) K := by
  obtain ⟨dst, op, type, pos, after, guard⟩ := o
  simp only at ho
  subst ho
  simp only [effV] at hq
  split at hq
  · rename_i s x t tl hargs htys
    have ha' : args = #[s, x] := by rw [← Array.toList_inj, hargs]
    subst ha'
    have ht0 : tys[0]? = some t := by rw [← Array.getElem?_toList, htys]; rfl
    have hsv := ev_sound (P := P) (w := w) (D := D) (an := an) hs s
    have hxv := ev_sound (P := P) (w := w) (D := D) (an := an) hs x
    split at hq
    · rename_i o g hes
      obtain ⟨e, es, nil, xs, ys, hb, ⟨agg, hi⟩, hel, hylen, hne, hK⟩ := hq
      obtain ⟨rfl, hobj⟩ := AH.lst_spec hb
      obtain ⟨⟨vs, hown, hnil, hes0, hlen, hrep⟩, hfz⟩ := H.obj _ _ hobj
      rw [hes] at hsv
      have hsv' : a.eval s = an o := by
        generalize a.eval s = v at hsv ⊢
        cases hsv with
        | gl _ _ _ hp hg he => exact he rfl
      obtain ⟨hl, hu⟩ := idx_spec hi
      rcases hu with ⟨m', hm, _⟩ | ⟨_, hu⟩
      · simp at hm
      simp only at hl hu
      obtain ⟨i', hinfo', hsz⟩ := lay_idx hl
      have hnD : ∀ b, blk (an o) = some b → ¬ D b := fun b hb => (hfz b hb).2 rfl
      have pfx : ∀ {v : Value} {w' : World}, (Builtin.copy_ tys type #[an o, a.eval x]).run P w = .ok v w' →
          (execOp a.eval ⟨dst, .call { callee := .builtin .copy, args := #[s, x], argTypes := tys }, type, pos, after, guard⟩).run P w = .ok (.value v) w' := by
        intro v w' hr
        simp [execOp, resolve, invoke, builtin, hsv', hr]
      -- what is copied
      have hfx := flat_length fun x hx => (hlen x hx).1
      have hfy := flat_length hylen
      have main : ∀ (b n cap : Nat), an o = .slice (some ⟨b, 0, none⟩) n cap → ∀ (cur : Array Value), w.heap[b]? = some (.cells cur e (0, 0)) → n = xs.length → n ≤ cap → cap ≤ maxLen → cur.size = cap * es → cur.toList.take (n * es) = vs → True →
          ∀ (ns : List Value), ns.length = min ys.length xs.length * es → (∀ u ∈ ns, u.oneCell' = true) → (∀ x ∈ ys, x.cells.all FV.one = true) → (∀ (j : Nat) (z : FV) (u : Value), (FV.flat ys)[j]? = some z → ns[j]? = some u → Rep w D u z) →
          (Builtin.copy_ tys type #[an o, a.eval x]).run P w = .ok (.int .i64 (min ys.length xs.length : Nat)) (w.setRow b (splice cur.toList 0 ns).toArray) →
          Left P cx h w D an ((execOp a.eval ⟨dst, .call { callee := .builtin .copy, args := #[s, x], argTypes := tys }, type, pos, after, guard⟩).run P w) K := by
        rintro b n cap ha cur hw rfl hnc hcm hcs htake hB ns hnl hn1 hyone hnrep hr
        have hnDb : ¬ D b := hnD b (by rw [ha]; rfl)
        have hext : Ext w D h.gen an (w.setRow b (splice cur.toList 0 ns).toArray) D h.gen an :=
          ⟨fun _ h => h, fun k hk => setRow_other w b k _ (by rintro rfl; exact hnDb hk), fun _ => Nat.le_refl _, fun _ _ => rfl⟩
        have hmin : min ys.length xs.length * es ≤ xs.length * es := Nat.mul_le_mul_right _ (Nat.min_le_right _ _)
        have hcape : xs.length * es ≤ cap * es := Nat.mul_le_mul_right _ hnc
        have hnlc : 0 + ns.length ≤ cur.toList.length := by simp; omega
        have hnlv : 0 + ns.length ≤ vs.length := by have := hown.1; omega
        refine ⟨_, _, _, _, D, an, hK, .inl (pfx hr), ?_, hext, .fv _ _ (.val _)⟩
        refine H.step o (below_setRow (H.ow o _ b hobj (by rw [ha]; rfl)) _) hext.dd hext.keep (fun k hk => by simpa [World.setRow] using H.lt k hk) (fun _ h => .inl h) hext.mono hext.anc ?_ (fun _ _ => rfl) ?_ ?_ ?_ ?_ rfl (fun b' _ hno => setRow_other w b b' _ (by rintro rfl; exact hno _ hobj (by rw [ha]; rfl))) (fun ob b' _ hb' => H.ysep o _ b' hobj hb')
        · intro o' ho'; simp [AH.set, upd, ho']
        · intro o' b' ob hne hob hb'
          refine ⟨setRow_other w b b' _ ?_, fun h => h⟩
          rintro rfl
          exact hne (H.sep o' o b' ob _ hob hobj hb' (by rw [ha]; rfl))
        · intro ob hob
          simp only [AH.set, upd, if_true, Option.some.injEq] at hob
          subst hob
          have hcl : (splice cur.toList 0 ns).length = cur.size := by rw [splice_length _ _ _ hnlc]; simp
          have hxl : (ys.take xs.length ++ xs.drop ys.length).length = xs.length := by simp; omega
          refine ⟨⟨splice vs 0 ns, ⟨?_, .inr ⟨b, cap, _, by rw [ha, hxl], Nat.zero_le _, setRow_heap w b cur _ e (0, 0) hw, by rw [hxl]; exact hnc, hcm, by rw [List.size_toArray, hcl, hcs], ?_⟩⟩, hnil, hes0, ?_, ?_⟩, hfz⟩
          · rw [splice_length _ _ _ hnlv, hown.1, hxl]
          · apply List.ext_getElem?
            intro j
            rw [List.getElem?_take, hxl]
            simp only
            rw [splice_get _ _ _ _ hnlc, splice_get _ _ _ _ hnlv, ← htake, List.getElem?_take]
            by_cases hj : j < xs.length * es
            · rw [if_pos hj, if_pos hj]
            · rw [if_neg hj, if_neg hj, if_neg (by omega)]
          · intro z hz
            rcases List.mem_append.1 hz with hz | hz
            · have hz' := List.mem_of_mem_take hz
              exact ⟨hylen z hz', hyone z hz'⟩
            · exact hlen z (List.mem_of_mem_drop hz)
          · intro j z u hz hu
            rw [show FV.flat (ys.take xs.length ++ xs.drop ys.length) = FV.flat (ys.take xs.length) ++ FV.flat (xs.drop ys.length) by simp [FV.flat],
              flat_take _ _ hylen, flat_drop _ _ (fun x hx => (hlen x hx).1)] at hz
            have hminmul : min (xs.length * es) (ys.length * es) = min ys.length xs.length * es := by rw [Nat.min_comm, Nat.mul_min_mul_right]
            have htl : ((FV.flat ys).take (xs.length * es)).length = ns.length := by rw [List.length_take, hfy, hnl, hminmul]
            rw [splice_get _ _ _ _ hnlv] at hu
            by_cases hj : j < ns.length
            · rw [List.getElem?_append_left (by omega), List.getElem?_take] at hz
              rw [if_pos (by omega)] at hu
              split at hz
              · exact (hnrep j z u hz (by simpa using hu)).ext hext
              · simp at hz
            · rw [List.getElem?_append_right (by omega), List.getElem?_drop, htl] at hz
              rw [if_neg (by omega)] at hu
              have hjv : j < vs.length := (List.getElem?_eq_some_iff.1 hu).1
              have : ys.length * es = ns.length := by
                rw [hnl]
                have h1 := hown.1
                by_cases hle : ys.length ≤ xs.length
                · rw [Nat.min_eq_left hle]
                · rw [Nat.min_eq_right (by omega)] at hnl
                  omega
              rw [this] at hz
              rw [show ns.length + (j - ns.length) = j by omega] at hz
              exact (hrep j z u hz hu).ext hext
        · intro ob b' _ hb'; exact H.ow o _ b' hobj hb'
        · intro o' b' ob ob' hne hob _ hb' hb''
          exact hne (H.sep o' o b' ob _ hob hobj hb' hb'')
      rcases hown.2 with ⟨hn, hz⟩ | ⟨b, cap, cur, ha, hB, hw, hnc, hcm, hcs, htake⟩
      · -- into nil
        have hx0 : xs = [] := List.eq_nil_of_length_eq_zero hz
        subst hx0
        have hr : (Builtin.copy_ tys type #[an o, a.eval x]).run P w = .ok (.int .i64 (0 : Nat)) w := by
          rw [hn]
          rcases elems_spec H hxv hel hylen with ⟨hvy, _⟩ | ⟨ad2, c2, news, hvy, _⟩
          · rw [hvy]; simp [Builtin.copy_, ht0, run_underlying hu, run_size hl, Builtin.lenOf, Builtin.firstCells, goInt]
          · rw [hvy]; simp [Builtin.copy_, ht0, run_underlying hu, run_size hl, Builtin.lenOf, Builtin.firstCells, loadCells, loadCellsFrom, goInt]
        refine ⟨_, _, _, w, D, an, hK, .inl (pfx (by simpa using hr)), ?_, .refl _ _ _ _, .fv _ _ (.val _)⟩
        have : h.set o (.list e es false nil (ys.take ([] : List FV).length ++ ([] : List FV).drop ys.length)) = h := by
          simp only [List.length_nil, List.take_zero, List.drop_nil, List.append_nil, AH.set]
          cases h with
          | mk gen obj y =>
            simp only [AH.mk.injEq, true_and, and_true]
            funext k
            simp only [upd]
            split
            · rename_i e'; rw [e']; exact hobj.symm
            · rfl
        rw [this]; exact H
      · rcases elems_spec H hxv hel hylen with ⟨hvy, hyn⟩ | ⟨ad2, c2, news, hvy, hnl, hncell, hn1, hyone, hnrep⟩
        · subst hyn
          refine main b _ cap ha cur hw rfl hnc hcm hcs htake trivial [] (by simp) (by simp) (by simp) (by simp [FV.flat]) ?_
          have hself : (splice cur.toList 0 []).toArray = cur := by simp [splice]
          rw [hself, setRow_self w b cur e (0, 0) hw, ha, hvy]
          simp [Builtin.copy_, ht0, run_underlying hu, run_size hl, Builtin.lenOf, Builtin.firstCells, goInt, storeCells]
        · have hmin : min ys.length xs.length * es ≤ ys.length * es := Nat.mul_le_mul_right _ (Nat.min_le_left _ _)
          have hmin2 : min ys.length xs.length * es ≤ xs.length * es := Nat.mul_le_mul_right _ (Nat.min_le_right _ _)
          have hcape : xs.length * es ≤ cap * es := Nat.mul_le_mul_right _ hnc
          refine main b _ cap ha cur hw rfl hnc hcm hcs htake trivial (news.take (min ys.length xs.length * es)) (by simp; omega) (fun u hu => hn1 u (List.mem_of_mem_take hu)) hyone ?_ ?_
          · intro j z u hz hu
            rw [List.getElem?_take] at hu
            split at hu
            · exact hnrep j z u hz hu
            · simp at hu
          · rw [ha, hvy]
            have hf := run_firstCells_some (P := P) w es (min ys.length xs.length) ad2 ys.length c2 (news.take (min ys.length xs.length * es)) (by simp; omega) (fun j u hu => by
              rw [List.getElem?_take] at hu
              split at hu
              · exact hncell j u hu
              · simp at hu)
            have hst := run_storeCells_at P b 0 e (news.take (min ys.length xs.length * es)) 0 cur w hw (by simp; omega) (fun u hu => hn1 u (List.mem_of_mem_take hu))
            simp only [Builtin.copy_, ht0, Sem.run_bind, run_underlying hu, Result.andThen_ok, run_size hl, Builtin.lenOf, Sem.run_pure, hf, hst, goInt, splice, List.getElem?_toArray, List.getElem?_cons_zero, List.getElem?_cons_succ, Nat.zero_add, Nat.add_zero]
    · exact hq.elim
  · exact hq.elim
end
end Abs

