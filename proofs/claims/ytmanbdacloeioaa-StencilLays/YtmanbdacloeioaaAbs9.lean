/- A part of the proof: Abs9. -/
import Derived.Test.YtmanbdacloeioaaAbs7
set_option linter.unusedSimpArgs false
set_option linter.unusedVariables false
namespace Abs
open Go
open Go.RowKit (Below)
section
variable {P : Program} {cx : Cx} {w : World} {D : Nat → Prop} {h : AH} {an : Nat → Value}

theorem Left.quiet {run : Result Next} {K : LV → AH → Prop} (H : Heap P cx h w D an) {v : Value} {lv : LV} (hr : run = .ok (.value v) w) (hv : LVRep P w D h.gen an v lv) (hK : K lv h) :
    Left P cx h w D an run K := ⟨lv, h, v, w, D, an, hK, .inl hr, H, .refl _ _ _ _, hv⟩

/-- The name of an object that holds nothing yet. -/
theorem nil_new (H : Heap P cx h w D an) (d : Nat) (e es : Nat) (hes : 0 < es) :
    Heap P cx (h.new d (.list e es false true [])) w D (upd an d (.slice none 0 0)) ∧ Ext w D h.gen an w D (h.new d (.list e es false true [])).gen (upd an d (.slice none 0 0)) ∧
    LVRep P w D (h.new d (.list e es false true [])).gen (upd an d (.slice none 0 0)) (.slice none 0 0) (.gl d (h.gen d + 1)) := by
  have he := new_ext (h := h) (an := an) d (.list e es false true []) (.slice none 0 0) H.lt (Below.refl w.heap.size w)
  refine ⟨?_, he, .gl _ _ _ rfl (by simp [AH.new, upd]) fun _ => by simp [upd]⟩
  refine H.step d (.refl _ _ _) he.dd he.keep H.lt (fun _ h => .inl h) he.mono he.anc ?_ ?_ ?_ ?_ ?_ ?_ rfl (fun _ _ _ => rfl) ?_
  · intro o ho; simp [AH.new, upd, ho]
  · intro o ho; simp [upd, ho]
  · intro o b ob _ _ _; exact ⟨rfl, fun h => h⟩
  · intro ob hob
    simp only [AH.new, upd, if_true, Option.some.injEq] at hob
    subst hob
    refine ⟨⟨[], ⟨by simp, .inl ⟨by simp [upd], rfl⟩⟩, by simp [upd], hes, by simp, by simp⟩, fun b hb => by simp [upd, blk] at hb⟩
  · intro ob b _ hb
    simp [upd, blk] at hb
  · intro o b ob ob' _ _ _ _
    simp [upd, blk]
  · intro ob b _ hb
    simp [upd, blk] at hb

theorem assign_sound (H : Heap P cx h w D an) {ρ : Nat → LV} {a : Act} (hs : ∀ i, LVRep P w D h.gen an (a.tmps.getD i Go.undef) (ρ i)) (o : Oper) (x : Operand) (ho : o.op = .assign x)
    {K : LV → AH → Prop} (hq : effV P o.dst o.op o.type (evL ρ) h K) : Left P cx h w D an ((execOp a.eval o).run P w) K := by
  have hrun : (execOp a.eval o).run P w = .ok (.value (a.eval x)) w := by simp [execOp, ho]
  rw [ho] at hq
  unfold effV at hq
  split at hq
  · rename_i hx
    simp only [Op.assign.injEq] at hx
    subst hx
    split at hq
    · rename_i d e agg es hd hi
      obtain ⟨h1, h2, h3⟩ := nil_new H d e es hq.1
      exact ⟨_, _, _, _, _, _, hq.2, .inl hrun, h1, h2, h3⟩
    · exact .quiet H hrun (.fv _ _ (.val _)) hq
  · rename_i y hy hx
    simp only [Op.assign.injEq] at hx
    subst hx
    exact .quiet H hrun (ev_sound hs _) hq
  all_goals first | exact hq.elim | (rename_i hx; simp at hx; done)

theorem lay_idx {t : Nat} {agg : Bool} {n : Nat} (hl : lay P t = some (agg, n)) : ∃ i, P.info? t = some i ∧ i.size = n := by
  obtain ⟨i, d, hi, _, _, hn⟩ := lay_spec hl
  exact ⟨i, hi, hn⟩

theorem box_sound (H : Heap P cx h w D an) {ρ : Nat → LV} {a : Act} (hs : ∀ i, LVRep P w D h.gen an (a.tmps.getD i Go.undef) (ρ i)) (o : Oper) (t : Nat) (x : Operand) (ho : o.op = .box t x)
    {K : LV → AH → Prop} (hq : effV P o.dst o.op o.type (evL ρ) h K) : Left P cx h w D an ((execOp a.eval o).run P w) K := by
  rw [ho] at hq
  simp only [effV] at hq
  split at hq
  · rename_i d agg n hd hl
    obtain ⟨hn, h1, hK⟩ := hq
    obtain ⟨hsz, hr⟩ := (ev_sound hs x).cells h1
    obtain ⟨e1, e2, e3⟩ := box_new H d (evL ρ x).cells (a.eval x).cells t hsz hr
    refine ⟨_, _, _, _, _, _, hK, .inl ?_, e1, e2, e3⟩
    simp [execOp, ho, Instr.box, newVar, newRow, newObj, Sem.run]
  · exact hq.elim

theorem alloc_sound (H : Heap P cx h w D an) {ρ : Nat → LV} {a : Act} (o : Oper) (t : Nat) (ho : o.op = .alloc t)
    {K : LV → AH → Prop} (hq : effV P o.dst o.op o.type (evL ρ) h K) : Left P cx h w D an ((execOp a.eval o).run P w) K := by
  rw [ho] at hq
  simp only [effV] at hq
  split at hq
  · rename_i d zs hd hz
    obtain ⟨i, z, hi, hz0, rfl, hsz, h1, _⟩ := zeros_spec hz
    obtain ⟨e1, e2, e3⟩ := box_new H d ((z.cells.toList.map FV.val).map .fv) z.cells t (by simp) (fun j y u hy hu => by
      simp only [List.getElem?_map, Array.getElem?_toList, hu, Option.map_some, Option.some.injEq] at hy
      subst hy
      exact ⟨.fv _ _ (.val _), h1 _ (Array.mem_of_getElem? hu)⟩)
    refine ⟨_, _, _, _, _, _, hq, .inl ?_, e1, e2, e3⟩
    simp [execOp, ho, Instr.alloc, newVar, newRow, newObj, Sem.run, zeroValue, typeInfo, hi, hz0]
  · exact hq.elim

/-- Filling cells with parts, in their order. -/
theorem fill_all (es : Nat) : ∀ (vs : List Value) (k : Nat) (pre : List Value) (cells : Array Value), (∀ v ∈ vs, v.cells.size = es) → cells.size = (k + vs.length) * es → cells.toList.take (k * es) = pre →
    Instr.fill (fun i => some (i * es, es)) cells ((List.range' k vs.length).zip vs) = some (pre ++ vs.flatMap fun v => v.cells.toList).toArray := by
  intro vs
  induction vs with
  | nil =>
    intro k pre cells _ hsz hpre
    simp only [List.length_nil, List.range'_zero, List.zip_nil_left, Instr.fill, List.flatMap_nil, List.append_nil, Option.some.injEq]
    rw [← hpre, List.take_of_length_le (by simp at hsz ⊢; omega)]
  | cons v vs ih =>
    intro k pre cells hv hsz hpre
    have hve := hv v (by simp)
    have hkes : (k + 1) * es = k * es + es := by rw [Nat.add_mul, Nat.one_mul]
    have hbig : k * es + es ≤ cells.size := by
      rw [hsz, ← hkes]
      exact Nat.mul_le_mul_right _ (by simp)
    simp only [List.length_cons, List.range'_succ, List.zip_cons_cons, Instr.fill]
    rw [if_neg (by rw [hve]; simp; try omega)]
    have hfold : ∀ (l : List Value) (j : Nat) (cs : Array Value) (o : Nat), o + j + l.length ≤ cs.size → ((l.zipIdx j).foldl (fun cs (c, j) => cs.setIfInBounds (o + j) c) cs).toList = cs.toList.take (o + j) ++ l ++ cs.toList.drop (o + j + l.length) := by
      intro l
      induction l with
      | nil => intro j cs o _; simp
      | cons x l ih =>
        intro j cs o hb
        simp only [List.length_cons] at hb
        simp only [List.zipIdx_cons, List.foldl_cons]
        rw [ih (j + 1) _ o (by simp; omega)]
        simp only [Array.toList_setIfInBounds, List.length_cons]
        rw [← Nat.add_assoc, List.take_set, List.drop_set_of_lt (by omega)]
        have e : cs.toList.take (o + j + 1) = cs.toList.take (o + j) ++ [cs.toList[o + j]'(by simp; omega)] := by
          rw [List.take_succ_eq_append_getElem (by simp; omega)]
        rw [e, List.set_append_right _ _ (by simp; omega)]
        have e2 : min (o + j) cs.size = o + j := by omega
        simp [e2]
        try constructor
        all_goals try omega
        all_goals (congr 1; omega)
    have hz : v.cells.zipIdx.foldl (fun cs (c, j) => cs.setIfInBounds (k * es + j) c) cells = (cells.toList.take (k * es) ++ v.cells.toList ++ cells.toList.drop (k * es + es)).toArray := by
      rw [← Array.toList_inj, ← Array.foldl_toList, Array.toList_zipIdx, hfold _ 0 _ _ (by simp [hve]; omega)]
      simp [hve]
    rw [hz]
    have hrest := ih (k + 1) (pre ++ v.cells.toList) (cells.toList.take (k * es) ++ v.cells.toList ++ cells.toList.drop (k * es + es)).toArray (fun u hu => hv u (by simp [hu]))
      (by
        have e3 : (k + 1 + vs.length) * es = cells.size := by rw [hsz]; congr 1; simp; omega
        rw [e3]
        simp [hve]
        omega)
      (by
        rw [hpre, hkes]
        have hpl : pre.length = k * es := by rw [← hpre]; simp; omega
        have hvl : v.cells.toList.length = es := by simpa using hve
        simp only [List.append_assoc]
        rw [List.take_append, List.take_append, hpl, hvl]
        simp [hvl, List.take_of_length_le, hpl])
    rw [hrest]
    simp
end
end Abs

