/- A part of the proof: Abs18, Abs26, Abs27, Abs28. -/
import Derived.Test.YtncbkgbdpaibmaaAbs29
import Derived.RangeFuncOwn
set_option linter.unusedSimpArgs false
set_option linter.unusedVariables false
namespace Abs
open Go
open Go.RowKit (Below)
def partners (bad : List (Nat × Nat)) (i : Nat) : List Nat :=
  bad.filterMap fun p => if p.1 = i then some p.2 else if p.2 = i then some p.1 else none
def clOf (bad : List (Nat × Nat)) (W : Nat → List Nat) (i : Nat) : Option Cl :=
  match partners bad i with
  | [] => none
  | ps => some ⟨W i, ps.flatMap W⟩
def okPair (bad : List (Nat × Nat)) (k i : Nat) (x y : SO) : Bool :=
  x.free y && ((isPure x.op && (partners bad k).isEmpty) || (isPure y.op && (partners bad i).isEmpty) || (isQuiet x.op && isQuiet y.op) || (((isCellQ x.op && isMapW y.op) || (isMapW x.op && isCellQ y.op)) && (partners bad k).isEmpty && (partners bad i).isEmpty) || bad.contains (k, i))
def okDraw (nb : Nat) (ops : Array Oper) (bad : List (Nat × Nat)) : Bool :=
  (List.range ops.size).all fun i =>
    match ops[i]? with
    | none => false
    | some o =>
      o.after.all (fun e => !Region.binds .any e || decide (e.on < i)) &&
      (List.range i).all fun k =>
        ((Region.before ops).getD i 0).testBit k && o.after.any (fun e => Region.binds .any e && (e.on == k || (decide (k < e.on) && decide (e.on < i) && ((Region.before ops).getD e.on 0).testBit k))) ||
        !((Region.before ops).getD i 0).testBit k &&
        (match (ops[k]?).bind (sko nb ops), (ops[i]?).bind (sko nb ops) with
        | some x, some y => okPair bad k i x y
        | _, _ => false)
def badOf (nb : Nat) (ops : Array Oper) : List (Nat × Nat) :=
  let sk := (List.range ops.size).map fun i => (ops[i]?).bind (sko nb ops)
  let bf := Region.before ops
  (List.range ops.size).flatMap fun i => (List.range i).filterMap fun k =>
    if (bf.getD i 0).testBit k then none else
    match (sk[k]?).bind id, (sk[i]?).bind id with
    | some x, some y => if isPure x.op || isPure y.op || (isQuiet x.op && isQuiet y.op) || ((isCellQ x.op && isMapW y.op) || (isMapW x.op && isCellQ y.op)) then none else some (k, i)
    | _, _ => none
def aSOD (P : Program) (c : Option Cl) (o : SO) (σ : St) (K : St → Prop) : Prop :=
  match c with
  | none => aSO P o σ K
  | some c =>
    (match o.g with
    | none => (o.op.operands.toList.all fun x => avoid c.F (isCall o.op) σ.h 6 (evL σ.ρ x)) = true ∧ stepE0 P o.nm o.op o.ty (evL σ.ρ) σ.h fun lv h' => Agree c.W σ.h h' ∧ K (σ.put o.d lv h')
    | some (s, want) =>
      (match σ.ρ s with
      | .fv (.val (.bool b)) => if b = want then (o.op.operands.toList.all fun x => avoid c.F (isCall o.op) σ.h 6 (evL σ.ρ x)) = true ∧ stepE0 P o.nm o.op o.ty (evL σ.ρ) σ.h fun lv h' => Agree c.W σ.h h' ∧ K (σ.put o.d lv h') else K (σ.put o.d (.tup []) σ.h)
      | .tup [] => K (σ.put o.d (.tup []) σ.h)
      | _ => False))
def aLD (P : Program) (C : Nat → Option Cl) : Nat → List SO → St → (St → Prop) → Prop
  | _, [], σ, K => K σ
  | i, o :: r, σ, K => aSOD P (C i) o σ fun σ' => aLD P C (i + 1) r σ' K
def aIdxD (P : Program) (C : Nat → Option Cl) (nb : Nat) (ops : Array Oper) : List Nat → St → (St → Prop) → Prop
  | [], σ, K => K σ
  | i :: l, σ, K =>
    match (ops[i]?).bind (sko nb ops) with
    | some s => aSOD P (C i) s σ fun σ' => aIdxD P C nb ops l σ' K
    | none => False
section
variable {P : Program}
theorem aSOD_iff {c : Option Cl} {o : SO} {σ : St} {K : St → Prop} : aSOD P c o σ K ↔ outD P c o σ.ρ σ.h fun lv h' => K (σ.put o.d lv h') := by
  cases c with
  | none => exact aSO_outcome
  | some c =>
    simp only [aSOD, outD, goes, List.all_eq_true, Array.mem_toList_iff]
    cases o.g with
    | none => simp
    | some g =>
      obtain ⟨s, want⟩ := g
      simp only
      split
      · rename_i b hb
        simp only [hb]
        by_cases e : b = want
        · subst e; simp
        · have : (b == want) = false := by simpa using e
          simp [e, this]
      · rename_i hb; simp [hb]
      · rename_i hne hne2
        split
        · rename_i b hb; exact (hne b hb).elim
        · rename_i hb; exact (hne2 hb).elim
        · simp
theorem aSOD_mono {c : Option Cl} {o : SO} {σ : St} {K K' : St → Prop} (hK : ∀ σ, K σ → K' σ) (hq : aSOD P c o σ K) : aSOD P c o σ K' := by
  rw [aSOD_iff] at hq ⊢
  exact outD_mono (fun _ _ => hK _) hq
theorem aSOD_aSO {c : Option Cl} {o : SO} {σ : St} {K : St → Prop} (hq : aSOD P c o σ K) : aSO P o σ K := by
  rw [aSOD_iff] at hq
  rw [aSO_outcome]
  exact outD_outcome hq
theorem aLD_mono {C : Nat → Option Cl} : ∀ (l : List SO) (i : Nat) {σ : St} {K K' : St → Prop}, (∀ σ, K σ → K' σ) → aLD P C i l σ K → aLD P C i l σ K'
  | [], _, _, _, _, hK, h => hK _ h
  | o :: l, i, _, _, _, hK, h => aSOD_mono (fun _ => aLD_mono l (i + 1) hK) h
theorem aSOD_swap {W : Nat → List Nat} {bad : List (Nat × Nat)} (hW : ∀ p ∈ bad, ∀ o ∈ W p.1, o ∉ W p.2) {k i : Nat} {x y : SO} (hc : okPair bad k i x y = true) {σ : St} {K : St → Prop}
    (hq : aSOD P (clOf bad W k) x σ fun σ1 => aSOD P (clOf bad W i) y σ1 K) : aSOD P (clOf bad W i) y σ fun σ1 => aSOD P (clOf bad W k) x σ1 K := by
  have hh : ∀ (d : Option Nat) (lv : LV) (h : AH), (σ.put d lv h).h = h := fun d lv h => by cases d <;> rfl
  simp only [aSOD_iff, hh] at hq ⊢
  simp only [okPair, Bool.and_eq_true, Bool.or_eq_true] at hc
  refine outD_swap' hc.1 ?_ hq
  have hnil : ∀ j, (partners bad j).isEmpty = true → clOf bad W j = none := by
    intro j hj
    unfold clOf
    rw [List.isEmpty_iff.1 hj]
  rcases hc.2 with (((⟨h1, h2⟩ | ⟨h1, h2⟩) | h1) | ⟨⟨h1, h2⟩, h3⟩) | h1
  · exact .inl (.inl ⟨h1, hnil _ h2⟩)
  · exact .inl (.inr (.inl ⟨h1, hnil _ h2⟩))
  · exact .inl (.inr (.inr (.inl h1)))
  · exact .inr ⟨hnil _ h2, hnil _ h3, h1⟩
  · refine .inl (.inr (.inr (.inr ?_)))
    have hm : (k, i) ∈ bad := by simpa using h1
    have hki : i ∈ partners bad k := by
      unfold partners
      rw [List.mem_filterMap]
      exact ⟨(k, i), hm, by simp⟩
    have hik : k ∈ partners bad i := by
      unfold partners
      rw [List.mem_filterMap]
      refine ⟨(k, i), hm, ?_⟩
      by_cases e : k = i
      · simp [e]
      · simp [e]
    have hsome : ∀ {j m : Nat}, m ∈ partners bad j → clOf bad W j = some ⟨W j, (partners bad j).flatMap W⟩ := by
      intro j m hj
      unfold clOf
      split
      · rename_i e; rw [e] at hj; simp at hj
      · rfl
    refine ⟨_, _, hsome hki, hsome hik, ?_, ?_, hW _ hm⟩
    · intro o ho; exact List.mem_flatMap.2 ⟨k, hik, ho⟩
    · intro o ho; exact List.mem_flatMap.2 ⟨i, hki, ho⟩
end
section
variable {P : Program} {cx : Cx} {w : World} {D : Nat → Prop} {an : Nat → Value} {nb : Nat} {ops : Array Oper} {bad : List (Nat × Nat)} {W : Nat → List Nat}
theorem okDraw_at (hok : okDraw nb ops bad = true) {i : Nat} {o : Oper} (ho : ops[i]? = some o) :
    (∀ e ∈ o.after, Region.binds .any e = true → e.on < i) ∧ ∀ k, k < i →
      (((Region.before ops).getD i 0).testBit k = true ∧ ∃ e ∈ o.after, Region.binds .any e = true ∧ (e.on = k ∨ (k < e.on ∧ e.on < i ∧ ((Region.before ops).getD e.on 0).testBit k = true))) ∨
      (((Region.before ops).getD i 0).testBit k = false ∧ ∃ x y, (ops[k]?).bind (sko nb ops) = some x ∧ (ops[i]?).bind (sko nb ops) = some y ∧ okPair bad k i x y = true) := by
  have hi : i < ops.size := (Array.getElem?_eq_some_iff.1 ho).1
  have h1 := List.all_eq_true.1 hok i (List.mem_range.2 hi)
  rw [ho] at h1
  simp only [Bool.and_eq_true] at h1
  obtain ⟨h2, h3⟩ := h1
  refine ⟨fun e he hb => ?_, fun k hk => ?_⟩
  · have := (Array.all_eq_true_iff_forall_mem.1 h2) e he
    simpa [hb] using this
  · have := List.all_eq_true.1 h3 k (List.mem_range.2 hk)
    simp only [Bool.or_eq_true, Bool.and_eq_true] at this
    rcases this with ⟨h4, h5⟩ | ⟨h4, h5⟩
    · left
      refine ⟨h4, ?_⟩
      rw [Array.any_eq_true'] at h5
      obtain ⟨e, he, h6⟩ := h5
      simp only [Bool.and_eq_true, Bool.or_eq_true, beq_iff_eq, decide_eq_true_eq] at h6
      exact ⟨e, he, h6.1, h6.2.imp id fun h => ⟨h.1.1, h.1.2, h.2⟩⟩
    · right
      refine ⟨by simpa using h4, ?_⟩
      split at h5
      · rename_i x y hx hy; exact ⟨x, y, hx, by rw [ho]; exact hy, h5⟩
      · simp at h5
def Closed (ops : Array Oper) (listed : Array Bool) : Prop :=
  ∀ i o, ops[i]? = some o → listed.getD i false = true → ∀ e ∈ o.after, Region.binds .any e = true → listed.getD e.on false = true
theorem before_listed (hok : okDraw nb ops bad = true) {listed : Array Bool} (hc : Closed ops listed) : ∀ (i : Nat) (o : Oper) (k : Nat), ops[i]? = some o → k < i → ((Region.before ops).getD i 0).testBit k = true →
    (∀ e ∈ o.after, Region.binds .any e = true → listed.getD e.on false = true) → listed.getD k false = true := by
  intro i
  induction i using Nat.strongRecOn with
  | _ i ih =>
    intro o k ho hk hb hl
    rcases (okDraw_at hok ho).2 k hk with ⟨_, e, he, hbe, h⟩ | ⟨h, _⟩
    · rcases h with rfl | ⟨h1, h2, h3⟩
      · exact hl e he hbe
      · have hle := hl e he hbe
        have hen : e.on < ops.size := by have := (Array.getElem?_eq_some_iff.1 ho).1; omega
        exact ih e.on h2 ops[e.on] k (by simp) h1 h3 (fun e' he' hb' => hc e.on _ (by simp) hle e' he' hb')
    · rw [hb] at h; simp at h
theorem aIdx_front (hW : ∀ p ∈ bad, ∀ o ∈ W p.1, o ∉ W p.2) (i : Nat) : ∀ (pre post : List Nat) {σ : St} {K : St → Prop}, (∀ k ∈ pre, ∃ x y, (ops[k]?).bind (sko nb ops) = some x ∧ (ops[i]?).bind (sko nb ops) = some y ∧ okPair bad k i x y = true) →
    aIdxD P (clOf bad W) nb ops (pre ++ i :: post) σ K → aIdxD P (clOf bad W) nb ops (i :: (pre ++ post)) σ K
  | [], post, σ, K, _, h => h
  | k :: pre, post, σ, K, hc, h => by
    obtain ⟨x, y, hx, hy, hxy⟩ := hc k (by simp)
    have h1 : aSOD P (clOf bad W k) x σ fun σ1 => aIdxD P (clOf bad W) nb ops (i :: (pre ++ post)) σ1 K := by
      simp only [List.cons_append, aIdxD, hx] at h
      exact aSOD_mono (fun σ1 h2 => aIdx_front hW i pre post (fun k hk => hc k (by simp [hk])) h2) h
    simp only [aIdxD, hy] at h1
    have := aSOD_swap hW hxy h1
    simp only [List.cons_append, aIdxD, hx, hy]
    exact this
theorem ready_spec {listed : Array Bool} {i : Nat} : i ∈ Region.ready .any ops listed ↔ i < ops.size ∧ listed.getD i true = false ∧ ∃ o, ops[i]? = some o ∧ ∀ e ∈ o.after, Region.binds .any e = true → listed.getD e.on false = true := by
  unfold Region.ready
  simp only [List.mem_filter, List.mem_range, Bool.and_eq_true, Bool.not_eq_true']
  constructor
  · rintro ⟨h1, h2, h3⟩
    refine ⟨h1, h2, ops[i], by simp, ?_⟩
    simp only [Array.getElem?_eq_getElem h1, Option.map_some, Option.getD_some] at h3
    intro e he hb
    have := (Array.all_eq_true_iff_forall_mem.1 h3) e he
    simpa [hb] using this
  · rintro ⟨h1, h2, o, ho, h3⟩
    refine ⟨h1, h2, ?_⟩
    rw [ho]
    simp only [Option.map_some, Option.getD_some]
    rw [Array.all_eq_true_iff_forall_mem]
    intro e he
    cases hb : Region.binds .any e
    · rfl
    · simp [h3 e he hb]
def rem (ops : Array Oper) (listed : Array Bool) : List Nat := (List.range ops.size).filter fun i => !listed.getD i true
theorem rem_split {listed : Array Bool} (hs : listed.size = ops.size) {i : Nat} (hi : i < ops.size) (hl : listed.getD i true = false) :
    ∃ pre post, rem ops listed = pre ++ i :: post ∧ rem ops (listed.setIfInBounds i true) = pre ++ post ∧ ∀ k ∈ pre, k < i ∧ listed.getD k true = false := by
  have key : ∀ (l : List Nat), l.Pairwise (· < ·) → i ∈ l → ∃ pre post, l.filter (fun i => !listed.getD i true) = pre ++ i :: post ∧ l.filter (fun k => !(listed.setIfInBounds i true).getD k true) = pre ++ post ∧ ∀ k ∈ pre, k < i ∧ listed.getD k true = false := by
    intro l
    induction l with
    | nil => intro _ h; simp at h
    | cons a l ih =>
      intro hp hm
      rw [List.pairwise_cons] at hp
      have hother : ∀ k, k ≠ i → (listed.setIfInBounds i true).getD k true = listed.getD k true := by
        intro k hk
        simp [Array.getD_eq_getD_getElem?, Array.getElem?_setIfInBounds_ne (fun h => hk h.symm)]
      have hself : (listed.setIfInBounds i true).getD i true = true := by
        simp [Array.getD_eq_getD_getElem?, Array.getElem?_setIfInBounds]
        split <;> rfl
      by_cases e : a = i
      · subst e
        refine ⟨[], l.filter (fun i => !listed.getD i true), ?_, ?_, by simp⟩
        · rw [List.filter_cons, if_pos (by rw [hl]; rfl)]; rfl
        · rw [List.filter_cons, if_neg (by rw [hself]; simp)]
          simp only [List.nil_append]
          refine List.filter_congr fun k hk => ?_
          rw [hother k (by have := hp.1 k hk; omega)]
      · have hm' : i ∈ l := by
          rcases List.mem_cons.1 hm with h | h
          · exact absurd h.symm e
          · exact h
        obtain ⟨pre, post, e1, e2, e3⟩ := ih hp.2 hm'
        by_cases ha : listed.getD a true = true
        · refine ⟨pre, post, ?_, ?_, e3⟩
          · rw [List.filter_cons, if_neg (by rw [ha]; simp)]; exact e1
          · rw [List.filter_cons, if_neg (by rw [hother a e, ha]; simp)]; exact e2
        · have ha' : listed.getD a true = false := by simpa using ha
          refine ⟨a :: pre, post, ?_, ?_, ?_⟩
          · rw [List.filter_cons, if_pos (by rw [ha']; rfl), e1]; rfl
          · rw [List.filter_cons, if_pos (by rw [hother a e, ha']; rfl), e2]; rfl
          · intro k hk
            rcases List.mem_cons.1 hk with rfl | hk
            · exact ⟨hp.1 i hm', ha'⟩
            · exact e3 k hk
  exact key _ List.pairwise_lt_range (List.mem_range.2 hi)
theorem aAny_sound {ro : Option Nat} {m n : Nat} (hW : ∀ p ∈ bad, ∀ o ∈ W p.1, o ∉ W p.2) (hok : okDraw nb ops bad = true) (hdst : ∀ (i : Nat) (o : Oper) (k : Nat), ops[i]? = some o → o.dst = some k → k < n) {Q : Exit → Act → World → Prop} {K : St → Prop} (hQ : ∀ σ' a' w' D' an', K σ' → RS P ro cx n σ' a' w' D' an' → Q .normal a' w') :
    ∀ (fuel : Nat) (listed : Array Bool), listed.size = ops.size → Closed ops listed → (rem ops listed).length = fuel →
    ∀ {σ : St} {a : Act} {w : World} {D : Nat → Prop} {an : Nat → Value}, RS P ro cx n σ a w D an → aIdxD P (clOf bad W) nb ops (rem ops listed) σ K → wpAnyIn (FX ro) m P .any ops Q fuel listed a w := by
  have hnil : ∀ (listed : Array Bool), Region.ready .any ops listed = [] → listed.size = ops.size → rem ops listed = [] := by
    intro listed hr hs
    cases hrem : rem ops listed with
    | nil => rfl
    | cons i l =>
      exfalso
      have hmem : i ∈ rem ops listed := by rw [hrem]; simp
      simp only [rem, List.mem_filter, List.mem_range, Bool.not_eq_true'] at hmem
      obtain ⟨hi, hl⟩ := hmem
      have : i ∈ Region.ready .any ops listed := by
        rw [ready_spec]
        refine ⟨hi, hl, ops[i], by simp, fun e he hb => ?_⟩
        have hlt := (okDraw_at hok (show ops[i]? = some ops[i] by simp)).1 e he hb
        -- the least that is left: all before it is listed
        have hleast : ∀ k, k < i → listed.getD k true = true := by
          intro k hk
          by_cases hkl : listed.getD k true = true
          · exact hkl
          · exfalso
            have hkm : k ∈ rem ops listed := by
              simp only [rem, List.mem_filter, List.mem_range, Bool.not_eq_true']
              exact ⟨by omega, by simpa using hkl⟩
            have hp : (rem ops listed).Pairwise (· < ·) := List.Pairwise.filter _ List.pairwise_lt_range
            rw [hrem] at hp hkm
            rw [List.pairwise_cons] at hp
            rcases List.mem_cons.1 hkm with h | h
            · omega
            · have := hp.1 k h; omega
        have := hleast e.on hlt
        have hsz : e.on < listed.size := by omega
        simp only [Array.getD_eq_getD_getElem?, Array.getElem?_eq_getElem hsz, Option.getD_some] at this ⊢
        exact this
      rw [hr] at this; simp at this
  intro fuel
  induction fuel with
  | zero =>
    intro listed hs hc hf σ a w D an r hq
    have hr0 : rem ops listed = [] := List.eq_nil_of_length_eq_zero hf
    rw [hr0] at hq
    refine ⟨?_, hQ _ _ _ _ _ hq r⟩
    cases hr : Region.ready .any ops listed with
    | nil => rfl
    | cons i l =>
      have : i ∈ Region.ready .any ops listed := by rw [hr]; simp
      rw [ready_spec] at this
      have : i ∈ rem ops listed := by
        simp only [rem, List.mem_filter, List.mem_range, Bool.not_eq_true']
        exact ⟨this.1, this.2.1⟩
      rw [hr0] at this; simp at this
  | succ fuel ih =>
    intro listed hs hc hf σ a w D an r hq
    refine ⟨fun hr => ?_, fun i hi => ?_⟩
    · rw [hnil listed hr hs] at hq
      exact hQ _ _ _ _ _ hq r
    · rw [ready_spec] at hi
      obtain ⟨hil, hl, o, ho, hed⟩ := hi
      obtain ⟨pre, post, e1, e2, e3⟩ := rem_split hs hil hl
      have hc' : Closed ops (listed.setIfInBounds i true) := by
        intro j o' ho' hj e he hb
        have hmono : ∀ k, listed.getD k false = true → (listed.setIfInBounds i true).getD k false = true := by
          intro k hk
          simp only [Array.getD_eq_getD_getElem?, Array.getElem?_setIfInBounds] at hk ⊢
          split
          · split
            · rfl
            · rename_i h1 h2; subst h1; omega
          · exact hk
        apply hmono
        by_cases e4 : j = i
        · subst e4
          rw [ho] at ho'; simp at ho'; subst ho'
          exact hed e he hb
        · refine hc j o' ho' ?_ e he hb
          simpa [Array.getD_eq_getD_getElem?, Array.getElem?_setIfInBounds_ne (fun h => e4 h.symm)] using hj
      rw [e1] at hq
      have hfront : aIdxD P (clOf bad W) nb ops (i :: (pre ++ post)) σ K := by
        refine aIdx_front hW i pre post (fun k hk => ?_) hq
        obtain ⟨hki, hkl⟩ := e3 k hk
        rcases (okDraw_at hok ho).2 k hki with ⟨hb, _⟩ | ⟨_, h⟩
        · have := before_listed hok hc i o k ho hki hb hed
          have hsz : k < listed.size := by omega
          simp only [Array.getD_eq_getD_getElem?, Array.getElem?_eq_getElem hsz, Option.getD_some] at this hkl
          rw [this] at hkl; simp at hkl
        · exact h
      unfold aIdxD at hfront
      split at hfront
      · rename_i s hsk
        refine aSO_sound r hsk ?_ (aSOD_aSO hfront) fun σ' a' w' D' an' h' r' => ?_
        · rw [Option.bind_eq_some_iff] at hsk
          obtain ⟨o', ho', hs'⟩ := hsk
          intro k hk
          refine hdst i o' k ho' ?_
          rw [← hk]
          unfold sko at hs'
          split at hs'
          · simp at hs'; subst hs'; rfl
          · simp only [Option.map_eq_some_iff] at hs'; obtain ⟨_, _, rfl⟩ := hs'; rfl
        · refine ih (listed.setIfInBounds i true) (by simpa using hs) hc' ?_ r' (by rw [e2]; exact h')
          rw [e2]
          rw [e1] at hf
          simp at hf ⊢; omega
      · exact hfront.elim
theorem rem_all : rem ops (Array.replicate ops.size false) = List.range ops.size := by
  unfold rem
  rw [List.filter_eq_self]
  intro i hi
  simp [Array.getD_eq_getD_getElem?, List.mem_range.1 hi]
theorem closed_none : Closed ops (Array.replicate ops.size false) := by
  intro i o ho hl
  simp [Array.getD_eq_getD_getElem?, Array.getElem?_replicate] at hl
  split at hl <;> simp at hl
theorem aIdx_none {nb : Nat} {ops : Array Oper} : ∀ (l : List Nat) {σ : St} {K : St → Prop}, aIdx P nb ops l σ K → aIdxD P (clOf [] fun _ => []) nb ops l σ K
  | [], σ, K, h => h
  | i :: l, σ, K, h => by
    unfold aIdx at h
    unfold aIdxD
    split at h
    · rename_i s hs
      simp only [hs]
      exact aSO_mono (fun σ' => aIdx_none l) h
    · exact h.elim
theorem drew_rs {ro : Option Nat} {n : Nat} {σ : St} {a : Act} (r : RS P ro cx n σ a w D an) : RS P ro cx n σ a { w with drawn := w.drawn + 1 } D an := by
  have hb : Below w.heap.size w w.drew := (Below.refl _ w).drew
  have hh : ∀ (k : Nat), w.drew.heap[k]? = w.heap[k]? := fun _ => rfl
  have E : Ext w D σ.h.gen an w.drew D σ.h.gen an := ⟨fun _ h => h, fun _ _ => rfl, fun _ => Nat.le_refl _, fun _ _ => rfl⟩
  obtain ⟨Y, hY, H⟩ := r.heap.heap
  refine ⟨r.heap.next E hY ?_, fun i => (r.slots i).ext E, r.marks, r.rnd, r.size⟩
  exact ⟨H.init, H.lt, H.new, H.below.trans ⟨rfl, rfl, rfl, Nat.le_refl _, fun _ _ _ => rfl⟩, fun o ob ho => (H.obj o ob ho).keep (fun _ h => h) (fun _ _ => rfl) (fun _ _ => ⟨rfl, fun h => h⟩) (fun _ => Nat.le_refl _) (fun _ _ => rfl), H.ow, H.sep, H.gmono, H.anc, cx.J.stable H.yJ rfl rfl rfl (Nat.le_refl _) (fun _ _ _ => rfl) (fun _ h => h) (fun _ h => .inl h) H.lt, H.ylt, H.ysep⟩
theorem regionD_sound {ro : Option Nat} {m n id : Nat} (hW : ∀ p ∈ bad, ∀ o ∈ W p.1, o ∉ W p.2) (hok : okDraw nb ops bad = true) (hmix : P.follows .mixedOrders = true) (hdst : ∀ (i : Nat) (o : Oper) (k : Nat), ops[i]? = some o → o.dst = some k → k < n) {Q : Exit → Act → World → Prop} {K : St → Prop} (hQ : ∀ σ' a' w' D' an', K σ' → RS P ro cx n σ' a' w' D' an' → Q .normal a' w')
    {σ : St} {a : Act} (r : RS P ro cx n σ a w D an) (hq : aIdxD P (clOf bad W) nb ops (List.range ops.size) σ K) : (Code.region id ops true).wpIn (FX ro) m P Q a w := by
  refine wpIn_region_any hmix ?_
  exact aAny_sound hW hok hdst hQ _ _ (by simp) closed_none (by rw [rem_all]; simp) (drew_rs r) (by rw [rem_all]; exact hq)
theorem region_sound {ro : Option Nat} {m n id : Nat} {draw : Bool} (hok : draw = true → okDraw nb ops [] = true) (hmix : P.follows .mixedOrders = true) (hdst : ∀ (i : Nat) (o : Oper) (k : Nat), ops[i]? = some o → o.dst = some k → k < n) {Q : Exit → Act → World → Prop} {K : St → Prop} (hQ : ∀ σ' a' w' D' an', K σ' → RS P ro cx n σ' a' w' D' an' → Q .normal a' w')
    {σ : St} {a : Act} (r : RS P ro cx n σ a w D an) (hq : aIdx P nb ops (List.range ops.size) σ K) : (Code.region id ops draw).wpIn (FX ro) m P Q a w := by
  cases draw with
  | false => exact wpIn_region (aIdx_sound hdst _ r hq hQ)
  | true => exact regionD_sound (bad := []) (W := fun _ => []) (fun p hp => by simp at hp) (hok rfl) hmix hdst hQ r (aIdx_none _ hq)
end
end Abs

namespace Abs
open Go
open Go.RowKit (Below)
section
variable {P : Program} {cx : Cx} {w : World} {D : Nat → Prop} {h : AH} {an : Nat → Value}
def Obj.isOwn : Obj → Bool
  | .cells .. | .map .. | .mapIter .. => true
  | _ => false
theorem own_kind (H : Heap P cx h w D an) {b : Nat} (hb : ownBlk h an b) : ∃ o, w.heap[b]? = some o ∧ Obj.isOwn o = true := by
  obtain ⟨o, ob, ho, hbk⟩ := hb
  have := H.obj o ob ho
  cases ob with
  | box cells =>
    obtain ⟨b', c, T, ha, _, _, hw, _⟩ := this
    rw [ha] at hbk; simp [blk] at hbk; subst hbk
    exact ⟨_, hw, rfl⟩
  | list e es fz nil xs =>
    obtain ⟨⟨vs, hown, _⟩, _⟩ := this
    rcases hown.2 with ⟨hn, _⟩ | ⟨g, cap, cur, ha, _, hg, _⟩
    · rw [hn] at hbk; simp [blk] at hbk
    · rw [ha] at hbk; simp [blk] at hbk; subst hbk
      exact ⟨_, hg, rfl⟩
  | map fz es =>
    obtain ⟨b', arr, ha, _, _, hw, _⟩ := this
    rw [ha] at hbk; simp [blk] at hbk; subst hbk
    exact ⟨_, hw, rfl⟩
  | iter left cur =>
    obtain ⟨b', m, arr, last, seen, ha, _, hw, _⟩ := this
    rw [ha] at hbk; simp [blk] at hbk; subst hbk
    exact ⟨_, hw, rfl⟩
theorem Heap.other (H : Heap P cx h w D an) {w' : World} {l : Nat} (hb : BelowM (fun b => b = l) w.heap.size w w') (h1 : cx.wi.heap.size ≤ l) (h2 : ¬ ownBlk h an l) (h3 : ¬ D l) (h4 : ¬ cx.Yb l) : Heap P cx h w' D an := by
  have hsz : cx.wi.heap.size ≤ w.heap.size := H.below.size
  have hD : ∀ b, D b → w'.heap[b]? = w.heap[b]? := fun b hd => hb.block b (H.lt b hd) fun e => h3 (e ▸ hd)
  refine ⟨H.init, fun b hd => Nat.lt_of_lt_of_le (H.lt b hd) hb.size, H.new, H.below.trans ⟨hb.os, hb.tape, hb.output, hb.size, fun b hlt hm => hb.block b (by omega) (by omega)⟩, fun o ob ho => ?_, H.ow, H.sep, H.gmono, H.anc, ?_, fun b hy => Nat.lt_of_lt_of_le (H.ylt b hy) hb.size, H.ysep⟩
  · refine (H.obj o ob ho).keep (fun _ h => h) hD (fun b hbk => ⟨hb.block b (H.blk_lt ho hbk) fun e => h2 ⟨o, ob, ho, e ▸ hbk⟩, fun h => h⟩) (fun _ => Nat.le_refl _) fun _ _ => rfl
  · refine cx.J.stable H.yJ hb.os hb.tape hb.output hb.size (fun b hlt hc => hb.block b hlt fun e => ?_) (fun _ h => h) (fun _ h => .inl h) fun b hd => Nat.lt_of_lt_of_le (H.lt b hd) hb.size
    subst e
    rcases hc with hc | hc | hc
    · have := cx.jB; omega
    · exact h4 hc
    · exact h3 hc
theorem Heap.grow (H : Heap P cx h w D an) {w' : World} (hb : Below w.heap.size w w') : Heap P cx h w' D an :=
  H.other (l := w.heap.size) ⟨hb.os, hb.tape, hb.output, hb.size, fun b hlt _ => hb.block b hlt⟩ H.below.size (fun h => by obtain ⟨o, ob, ho, hbk⟩ := h; have := H.blk_lt ho hbk; omega) (fun h => by have := H.lt _ h; omega) (fun h => by have := H.ylt _ h; omega)
theorem putObj_below (w : World) (l : Nat) (o : Obj) : BelowM (fun b => b = l) w.heap.size w (w.putObj l o) :=
  ⟨rfl, rfl, rfl, by simp, fun b _ hn => World.putObj_heap_other hn⟩
theorem Heap.beside (H : Heap P cx h w D an) {w' : World} {D' : Nat → Prop} (hos : w'.os = w.os) (htp : w'.tape = w.tape) (hou : w'.output = w.output) (hsz : w.heap.size ≤ w'.heap.size)
    (hk : ∀ b, b < w.heap.size → (b < cx.wi.heap.size ∨ ownBlk h an b ∨ cx.Yb b ∨ D b) → w'.heap[b]? = w.heap[b]?) (hd : ∀ b, D b → D' b)
    (hn : ∀ b, D' b → D b ∨ (cx.wi.heap.size ≤ b ∧ ¬ ownBlk h an b ∧ ¬ cx.Yb b)) (hlt : ∀ b, D' b → b < w'.heap.size) : Heap P cx h w' D' an := by
  have h0 : cx.wi.heap.size ≤ w.heap.size := H.below.size
  refine ⟨fun b hb => hd b (H.init b hb), hlt, fun b hb => ?_, H.below.trans ⟨hos, htp, hou, hsz, fun b hlt hm => hk b (by omega) (.inl hlt)⟩, fun o ob ho => ?_, H.ow, H.sep, H.gmono, H.anc, ?_, fun b hy => Nat.lt_of_lt_of_le (H.ylt b hy) hsz, H.ysep⟩
  · rcases hn b hb with h1 | h1
    · exact H.new b h1
    · exact .inr (.inl h1.1)
  · refine (H.obj o ob ho).keep hd (fun b hb => hk b (H.lt b hb) (.inr (.inr (.inr hb)))) (fun b hbk => ⟨hk b (H.blk_lt ho hbk) (.inr (.inl ⟨o, ob, ho, hbk⟩)), fun h1 => ?_⟩) (fun _ => Nat.le_refl _) fun _ _ => rfl
    rcases hn b h1 with h2 | h2
    · exact h2
    · exact absurd ⟨o, ob, ho, hbk⟩ h2.2.1
  · refine cx.J.stable H.yJ hos htp hou hsz (fun b hlt hc => hk b hlt ?_) hd (fun b hb => ?_) hlt
    · rcases hc with hc | hc | hc
      · exact .inl (Nat.lt_of_lt_of_le hc cx.jB)
      · exact .inr (.inr (.inl hc))
      · exact .inr (.inr (.inr hc))
    · rcases hn b hb with h1 | h1
      · exact .inl h1
      · exact .inr ⟨Nat.le_trans cx.jB h1.1, h1.2.2⟩
structure Cx.le (P : Program) (cx' cx : Cx) : Prop where
  hy : ∀ (h : AH) (w : World) (D : Nat → Prop) (an : Nat → Value), HeapY P cx' h w D an → HeapY P cx h w D an
  hb : cx'.base = cx.base
  hp : ∀ (h : AH) (w : World) (D : Nat → Prop) (an : Nat → Value) (Y : Nat → Prop), (∀ b, Y b → b < cx'.wi.heap.size → cx'.M b) → Heap P (cx'.wY Y) h w D an → (∀ b, Y b → b < cx.wi.heap.size → cx.M b) ∧ Heap P (cx.wY Y) h w D an
theorem Cx.le_refl (P : Program) (cx : Cx) : Cx.le P cx cx := ⟨fun _ _ _ _ h => h, rfl, fun _ _ _ _ _ h1 h2 => ⟨h1, h2⟩⟩
def RX (P : Program) (ro : Option Nat) (cx : Cx) (n : Nat) (σ : St) (a : Act) (w : World) : Prop :=
  ∃ cx' D an, Cx.le P cx' cx ∧ RS P ro cx' n σ a w D an
def setps (ρ : Nat → LV) : List Nat → List FV → (Nat → LV)
  | p :: ps, x :: xs => setps (upd ρ p (.fv x)) ps xs
  | _, _ => ρ
def aFold (A B : St → (Exit → St → Prop) → Prop) (ρ : Nat → LV) (ps : List Nat) : List (List FV) → AH → (Exit → St → Prop) → Prop
  | [], h, Q => Q .normal ⟨ρ, h⟩
  | x :: xs, h, Q => x.length = ps.length ∧ A ⟨setps ρ ps x, h⟩ fun e σ1 => match e with
    | .normal => B σ1 fun e σ2 => match e with
      | .normal => aFold A B ρ ps xs σ2.h Q
      | .ret => Q .ret ⟨ρ, σ2.h⟩
      | .exit id => Q (.exit id) ⟨ρ, σ2.h⟩
      | .goto l => Q (.goto l) ⟨ρ, σ2.h⟩
      | _ => False
    | _ => False
theorem setps_sound {gen : Nat → Nat} : ∀ (ps : List Nat) (xs : List FV) (vs : List Value) (tmps : Array Value) (ρ : Nat → LV), (∀ p ∈ ps, p < tmps.size) → xs.length = ps.length → vs.length = ps.length →
    (∀ i, LVRep P w D gen an (tmps.getD i Go.undef) (ρ i)) → (∀ (j : Nat) (y : FV) (v : Value), xs[j]? = some y → vs[j]? = some v → Rep w D v y) →
    ((ps.zip vs).foldl (fun t p => t.setIfInBounds p.1 p.2) tmps).size = tmps.size ∧ ∀ i, LVRep P w D gen an (((ps.zip vs).foldl (fun t p => t.setIfInBounds p.1 p.2) tmps).getD i Go.undef) (setps ρ ps xs i) := by
  intro ps
  induction ps with
  | nil => intro xs vs tmps ρ _ _ _ hs _; exact ⟨rfl, by cases xs <;> simpa [setps] using hs⟩
  | cons p ps ih =>
    intro xs vs tmps ρ hp hx hv hs hr
    cases xs with
    | nil => simp at hx
    | cons x xs =>
      cases vs with
      | nil => simp at hv
      | cons v vs =>
        simp only [List.zip_cons_cons, List.foldl_cons, setps]
        obtain ⟨e1, e2⟩ := ih xs vs (tmps.setIfInBounds p v) (upd ρ p (.fv x)) (fun q hq => by simpa using hp q (by simp [hq])) (by simpa using hx) (by simpa using hv) (fun i => by
          have hpl : p < tmps.size := hp p (by simp)
          simp only [upd, Array.getD_eq_getD_getElem?]
          by_cases e : i = p
          · subst e
            rw [if_pos rfl, Array.getElem?_setIfInBounds_self_of_lt hpl]
            exact .fv _ _ (hr 0 x v rfl rfl)
          · rw [if_neg e, Array.getElem?_setIfInBounds_ne (fun h => e h.symm)]
            have := hs i
            rwa [Array.getD_eq_getD_getElem?] at this) (fun j y u hy hu => hr (j + 1) y u (by simpa using hy) (by simpa using hu))
        exact ⟨by simpa using e1, e2⟩
end
end Abs

namespace Abs
open Go
open Go.RowKit (Below)
section
variable {P : Program}
def jumpOf : Exit → Option Code
  | .ret => some .ret
  | .exit id => some (.exit id)
  | .goto t => some (.goto t)
  | _ => none
structure LoopJ (P : Program) (cx : Cx) (A B : St → (Exit → St → Prop) → Prop) (ρ : Nat → LV) (ps : List Nat) (rec : LoopState → Option Code → Loop) (l : Nat) (mk : List Nat) (Bd : Nat)
    (w0 : World) (D0 : Nat → Prop) (gen0 : Nat → Nat) (an0 : Nat → Value) (Q : Exit → St → Prop) (y : Option (List (List FV))) (W : World) (Y D : Nat → Prop) (h : AH) (an : Nat → Value) (Yc : Nat → Prop) : Prop where
  heap : Heap P (cx.wY Yc) h W D an
  yc : ∀ b, Yc b → b < cx.wi.heap.size → cx.M b
  ext : Ext w0 D0 gen0 an0 W D h.gen an
  yy : ∀ b, Y b ↔ ownBlk h an b ∨ Yc b ∨ b = l
  lD : ¬ D l
  lY : ¬ Yc l
  lB : l < Bd
  BW : Bd ≤ W.heap.size
  lw : cx.wi.heap.size ≤ l
  mks : ∀ r ∈ mk, W.heap[r]? = some (.deferred (some [])) ∧ ¬ D r ∧ ¬ Yc r ∧ r ≠ l ∧ r < Bd
  rest : match y with
    | some rest => W.heap[l]? = some (.loop (rec .ready none)) ∧ aFold A B ρ ps rest h Q
    | none => ∃ e c, jumpOf e = some c ∧ W.heap[l]? = some (.loop (rec .done (some c))) ∧ Q e ⟨ρ, h⟩
variable {cx : Cx} {A B : St → (Exit → St → Prop) → Prop} {ρ : Nat → LV} {ps : List Nat} {rec : LoopState → Option Code → Loop} {l : Nat} {mk : List Nat} {Bd : Nat}
    {w0 : World} {D0 : Nat → Prop} {gen0 : Nat → Nat} {an0 : Nat → Value} {Q : Exit → St → Prop}
theorem LoopJ.stable {y : Option (List (List FV))} {w w' : World} {Y D D' : Nat → Prop} {h : AH} {an : Nat → Value} {Yc : Nat → Prop} (j : LoopJ P cx A B ρ ps rec l mk Bd w0 D0 gen0 an0 Q y w Y D h an Yc)
    (hos : w'.os = w.os) (htp : w'.tape = w.tape) (hou : w'.output = w.output) (hsz : w.heap.size ≤ w'.heap.size) (hk : ∀ b, b < w.heap.size → (b < Bd ∨ Y b ∨ D b) → w'.heap[b]? = w.heap[b]?)
    (hd : ∀ b, D b → D' b) (hn : ∀ b, D' b → D b ∨ (Bd ≤ b ∧ ¬ Y b)) (hlt : ∀ b, D' b → b < w'.heap.size) : LoopJ P cx A B ρ ps rec l mk Bd w0 D0 gen0 an0 Q y w' Y D' h an Yc := by
  have hlw := j.lw
  have hlB := j.lB
  have hBW := j.BW
  refine ⟨j.heap.beside hos htp hou hsz (fun b hlt hc => hk b hlt ?_) hd (fun b hb => ?_) hlt, j.yc, j.ext.trans ⟨hd, fun b hb => hk b (j.heap.lt b hb) (.inr (.inr hb)), fun _ => Nat.le_refl _, fun _ _ => rfl⟩, j.yy, fun hl => ?_, j.lY, j.lB, by omega, j.lw, fun r hr => ?_, ?_⟩
  · rcases hc with hc | hc | hc | hc
    · exact .inl (by have : b < cx.wi.heap.size := hc; omega)
    · exact .inr (.inl ((j.yy b).2 (.inl hc)))
    · exact .inr (.inl ((j.yy b).2 (.inr (.inl hc))))
    · exact .inr (.inr hc)
  · rcases hn b hb with h1 | ⟨h1, h2⟩
    · exact .inl h1
    · exact .inr ⟨by show cx.wi.heap.size ≤ b; omega, fun h3 => h2 ((j.yy b).2 (.inl h3)), fun h3 => h2 ((j.yy b).2 (.inr (.inl h3)))⟩
  · rcases hn l hl with h1 | ⟨h1, h2⟩
    · exact j.lD h1
    · omega
  · obtain ⟨h1, h2, h3, h4, h5⟩ := j.mks r hr
    refine ⟨(hk r (by omega) (.inl h5)).trans h1, fun h6 => ?_, h3, h4, h5⟩
    rcases hn r h6 with h7 | ⟨h7, _⟩
    · exact h2 h7
    · omega
  · have hl := hk l (by omega) (.inl hlB)
    have := j.rest
    cases y with
    | some rest => exact ⟨hl.trans this.1, this.2⟩
    | none => obtain ⟨e, c, h1, h2, h3⟩ := this; exact ⟨e, c, h1, hl.trans h2, h3⟩
def loopYS (P : Program) (cx : Cx) (A B : St → (Exit → St → Prop) → Prop) (ρ : Nat → LV) (ps : List Nat) (rec : LoopState → Option Code → Loop) (l : Nat) (mk : List Nat) (Bd : Nat)
    (w0 : World) (D0 : Nat → Prop) (gen0 : Nat → Nat) (an0 : Nat → Value) (Q : Exit → St → Prop) : YS where
  J y W Y D := ∃ h an Yc, LoopJ P cx A B ρ ps rec l mk Bd w0 D0 gen0 an0 Q y W Y D h an Yc
  B := Bd
  stable := fun ⟨h, an, Yc, j⟩ h1 h2 h3 h4 h5 h6 h7 h8 => ⟨h, an, Yc, j.stable h1 h2 h3 h4 h5 h6 h7 h8⟩
def BodyOk (P : Program) (n : Nat) (A : St → (Exit → St → Prop) → Prop) (c : Code) : Prop :=
  ∀ {ro : Option Nat} {m : Nat} {cx : Cx} {σ : St} {a : Act} {w : World} {Q : Exit → St → Prop}, RX P ro cx n σ a w → A σ Q → c.wpIn (FX ro) m P (fun e a w => ∃ σ, Q e σ ∧ RX P ro cx n σ a w) a w
theorem own_not {h : AH} {w : World} {D : Nat → Prop} {an : Nat → Value} (H : Heap P cx h w D an) {b : Nat} {o : Obj} (ho : w.heap[b]? = some o) (hk : Obj.isOwn o = false) : ¬ ownBlk h an b := by
  intro hb
  obtain ⟨o', ho', hk'⟩ := own_kind H hb
  rw [ho] at ho'; simp at ho'; subst ho'; rw [hk] at hk'; simp at hk'
set_option maxHeartbeats 1000000 in
theorem loop_rule {n : Nat} {fn : FuncId} {tmps : Array Value} {params : Array Tmp} {assign body : Code} {dfs : Nat} {h0 : AH} (H00 : HeapY P cx h0 w0 D0 an0) (hA : BodyOk P n A assign) (hB : BodyOk P n B body)
    (hslots : ∀ i, LVRep P w0 D0 h0.gen an0 (tmps.getD i Go.undef) (ρ i)) (htn : tmps.size = n) (hps : ∀ p ∈ params.toList, p < n) :
    YRule P (.func (.yield l) #[] #[]) (loopYS P cx A B ρ params.toList (fun st pe => { state := st, pending := pe, fn, tmps, params, assign, body, defers := dfs }) l mk Bd w0 D0 h0.gen an0 Q) := by
  rintro x rest W Y D vs ⟨h, an, Yc, j⟩ hBd hD hYlt hrep
  obtain ⟨hl, hx, hfold⟩ := j.rest
  have hlw := j.lw
  have hlB := j.lB
  have hBW := j.BW
  have hsv : vs.size = params.size := by rw [hrep.1, hx, Array.length_toList]
  refine .inr ⟨l, fn, _, assign, body, rfl, run_yield hl hsv, fun m => ?_⟩
  refine roundIn_of_wpIn trivial ?_
  have HY : HeapY P cx h W D an := H00.next j.ext j.yc j.heap
  have hlo : ¬ ownBlk h an l := own_not j.heap hl rfl
  have hlM : ¬ (ownBlk h an l ∨ Yc l) := fun hc => hc.elim hlo j.lY
  have hfe : (params.zip vs).foldl (fun tmps x => tmps.setIfInBounds x.1 x.2) tmps = (params.toList.zip vs.toList).foldl (fun t p => t.setIfInBounds p.1 p.2) tmps := by
    rw [← Array.foldl_toList, Array.toList_zip]
  obtain ⟨hts, htr⟩ := setps_sound (P := P) (w := W) (D := D) (gen := h.gen) (an := an) params.toList x vs.toList tmps ρ (fun p hp => by rw [htn]; exact hps p hp) hx (by simpa using hsv) (fun i => (hslots i).ext j.ext) (fun k y v hy hv => hrep.2 k y v hy (by simpa using hv))
  have r1 : RS P (some l) (cx.re j.heap) n ⟨setps ρ params.toList x, h⟩ { tmps := (params.zip vs).foldl (fun tmps x => tmps.setIfInBounds x.1 x.2) tmps, defers := [] } W D an := by
    refine ⟨HY.re j.heap, ?_, ⟨[], rfl, List.nodup_nil, fun _ => rfl, by simp⟩, ?_, ?_⟩
    · rw [hfe]; exact htr
    · intro l' e; simp at e; subst e; exact ⟨by show l < W.heap.size; omega, hlM, _, hl⟩
    · rw [hfe]; exact hts.trans htn
  refine wpIn_mono (hA (ro := some l) ⟨_, D, an, Cx.le_refl _ _, r1⟩ hfold) ?_
  rintro e a1 W1 ⟨σ1, hq, cx3, D1, an1, hle3, r3⟩
  cases e <;> simp only at hq <;> try exact hq.elim
  simp only [Exit.then]
  have K2 := hle3.hy _ _ _ _ r3.heap
  have E1 := HeapY.ext_re j.heap K2
  obtain ⟨Y2, hY2, G2⟩ := K2.heap
  have keep1 : ∀ r, r < W.heap.size → ¬ (ownBlk h an r ∨ Yc r) → W1.heap[r]? = W.heap[r]? := fun r h1 h2 => G2.below.block r h1 h2
  have hl1 := (keep1 l (by omega) hlM).trans hl
  have nD1 : ∀ r, r < W.heap.size → ¬ D r → ¬ (ownBlk h an r ∨ Yc r) → ¬ D1 r := by
    intro r h1 h2 h3 h4
    rcases G2.new r h4 with h5 | h5 | h5
    · exact h2 h5
    · have : W.heap.size ≤ r := h5; omega
    · exact h3 h5
  have nY2 : ∀ r, r < W.heap.size → ¬ (ownBlk h an r ∨ Yc r) → ¬ Y2 r := fun r h1 h2 h3 => h2 (hY2 r h3 h1)
  obtain ⟨G1, hY1⟩ := Heap.unre j.yc j.heap hY2 G2
  have hlD1 := nD1 l (by omega) j.lD hlM
  have hlY2 := nY2 l (by omega) hlM
  obtain ⟨W2, hW2⟩ : ∃ W2, W1.putObj l (.loop { state := .busy, pending := none, fn, tmps, params, assign, body, defers := dfs }) = W2 := ⟨_, rfl⟩
  have hsz1 : W.heap.size ≤ W1.heap.size := G2.below.size
  have hbr : (Instr.beginRound l).run P W1 = .ok () W2 := by rw [← hW2]; exact run_beginRound hl1 rfl
  have hl2 : W2.heap[l]? = some (.loop { state := .busy, pending := none, fn, tmps, params, assign, body, defers := dfs }) := by rw [← hW2]; exact World.putObj_heap_same (by omega)
  have hw2 : ∀ b, b ≠ l → W2.heap[b]? = W1.heap[b]? := fun b hb => by rw [← hW2]; exact World.putObj_heap_other hb
  have hs2 : W2.heap.size = W1.heap.size := by rw [← hW2]; simp
  have G1' : Heap P (cx.wY Y2) σ1.h W2 D1 an1 := by
    rw [← hW2]
    exact G1.other (putObj_below _ _ _) j.lw (own_not G1 hl1 rfl) hlD1 hlY2
  have E2 : Ext W1 D1 σ1.h.gen an1 W2 D1 σ1.h.gen an1 := ⟨fun _ h => h, fun b hb => hw2 b fun e => hlD1 (e ▸ hb), fun _ => Nat.le_refl _, fun _ _ => rfl⟩
  have EW2 : Ext w0 D0 h0.gen an0 W2 D1 σ1.h.gen an1 := (j.ext.trans E1).trans E2
  have K4' : HeapY P cx σ1.h W2 D1 an1 := H00.next EW2 hY1 G1'
  have hlM2 : ¬ (ownBlk σ1.h an1 l ∨ Y2 l) := fun hc => hc.elim (own_not G1' hl2 rfl) hlY2
  have r4 : RS P (some l) (cx.re G1') n σ1 a1 W2 D1 an1 := by
    refine ⟨K4'.re G1', fun i => (r3.slots i).ext E2, ?_, ?_, r3.size⟩
    · obtain ⟨ms, q1, q2, q3, q4⟩ := r3.marks
      have := q3 rfl
      subst this
      exact ⟨[], q1, q2, fun _ => rfl, by simp⟩
    · intro l' e; simp at e; subst e; exact ⟨by show l < W2.heap.size; omega, hlM2, _, hl2⟩
  refine ⟨W2, hbr, wpIn_mono (hB (ro := some l) ⟨_, D1, an1, Cx.le_refl _ _, r4⟩ hq) ?_⟩
  clear hq hfold r1 r4
  rintro e a2 W3 ⟨σ2, hq, cx5, D2, an2, hle5, r5⟩
  have K4 := hle5.hy _ _ _ _ r5.heap
  have E3 := HeapY.ext_re G1' K4
  obtain ⟨Y3, hY3, G4⟩ := K4.heap
  have hsz3 : W2.heap.size ≤ W3.heap.size := G4.below.size
  have keep3 : ∀ r, r < W2.heap.size → ¬ (ownBlk σ1.h an1 r ∨ Y2 r) → W3.heap[r]? = W2.heap[r]? := fun r h1 h2 => G4.below.block r h1 h2
  have hl3 := (keep3 l (by omega) hlM2).trans hl2
  have nD2 : ∀ r, r < W2.heap.size → ¬ D1 r → ¬ (ownBlk σ1.h an1 r ∨ Y2 r) → ¬ D2 r := by
    intro r h1 h2 h3 h4
    rcases G4.new r h4 with h5 | h5 | h5
    · exact h2 h5
    · have : W2.heap.size ≤ r := h5; omega
    · exact h3 h5
  have nY3 : ∀ r, r < W2.heap.size → ¬ (ownBlk σ1.h an1 r ∨ Y2 r) → ¬ Y3 r := fun r h1 h2 h3 => h2 (hY3 r h3 h1)
  obtain ⟨G3, hY3'⟩ := Heap.unre hY1 G1' hY3 G4
  have hlD2 := nD2 l (by omega) hlD1 hlM2
  have hlY3 := nY3 l (by omega) hlM2
  have EW3 : Ext w0 D0 h0.gen an0 W3 D2 σ2.h.gen an2 := EW2.trans E3
  -- the round's end
  have fin : ∀ (jump : Option Code) (y' : Option (List (List FV))),
      (match y' with
        | some rest => jump = none ∧ aFold A B ρ params.toList rest σ2.h Q
        | none => ∃ e c, jumpOf e = some c ∧ jump = some c ∧ Q e ⟨ρ, σ2.h⟩) →
      ∃ v w', (Instr.endRound l jump).run P W3 = .ok v w' ∧ v = .bool jump.isNone ∧ ∃ Y', YStep W Y D w' Y' D2 ∧ ∃ h an Yc, LoopJ P cx A B ρ params.toList (fun st pe => { state := st, pending := pe, fn, tmps, params, assign, body, defers := dfs }) l mk Bd w0 D0 h0.gen an0 Q y' w' Y' D2 h an Yc := by
    intro jump y' hy'
    have hend := run_endRound (P := P) jump hl3
    refine ⟨_, _, hend, rfl, fun b => ownBlk σ2.h an2 b ∨ Y3 b ∨ b = l, ?_⟩
    obtain ⟨W4, hW4⟩ : ∃ W4, W3.putObj l (.loop { state := if jump.isNone then .ready else .done, pending := jump, fn, tmps, params, assign, body, defers := dfs }) = W4 := ⟨_, rfl⟩
    have hW4' : W3.putObj l (.loop { ({ state := .busy, pending := none, fn, tmps, params, assign, body, defers := dfs } : Loop) with state := if jump.isNone then .ready else .done, pending := jump }) = W4 := hW4
    rw [hW4']
    have hl4 : W4.heap[l]? = some (.loop { state := if jump.isNone then .ready else .done, pending := jump, fn, tmps, params, assign, body, defers := dfs }) := by rw [← hW4]; exact World.putObj_heap_same (by omega)
    have hw4 : ∀ b, b ≠ l → W4.heap[b]? = W3.heap[b]? := fun b hb => by rw [← hW4]; exact World.putObj_heap_other hb
    have hs4 : W4.heap.size = W3.heap.size := by rw [← hW4]; simp
    have G5 : Heap P (cx.wY Y3) σ2.h W4 D2 an2 := by
      rw [← hW4]
      exact G3.other (putObj_below _ _ _) j.lw (own_not G3 hl3 rfl) hlD2 hlY3
    have E4 : Ext W3 D2 σ2.h.gen an2 W4 D2 σ2.h.gen an2 := ⟨fun _ h => h, fun b hb => hw4 b fun e => hlD2 (e ▸ hb), fun _ => Nat.le_refl _, fun _ _ => rfl⟩
    have EE : Ext W D h.gen an W4 D2 σ2.h.gen an2 := ((E1.trans E2).trans E3).trans E4
    -- blocks of W
    have same : ∀ b, b < W.heap.size → ¬ Y b → W4.heap[b]? = W.heap[b]? ∧ ¬ (ownBlk h an b ∨ Yc b) ∧ b ≠ l ∧ ¬ (ownBlk σ1.h an1 b ∨ Y2 b) := by
      intro b hb hy
      have hne : b ≠ l := fun e => hy ((j.yy b).2 (.inr (.inr e)))
      have h1 : ¬ (ownBlk h an b ∨ Yc b) := fun hc => hy ((j.yy b).2 (hc.elim .inl fun h => .inr (.inl h)))
      have h2 : ¬ (ownBlk σ1.h an1 b ∨ Y2 b) := by
        rintro (⟨o, ob, ho, hbk⟩ | hc)
        · rcases G2.ow o ob b ho hbk with h3 | h3
          · have : W.heap.size ≤ b := h3; omega
          · exact h1 (.inl h3)
        · exact nY2 b hb h1 hc
      exact ⟨(hw4 b hne).trans ((keep3 b (by omega) h2).trans ((hw2 b hne).trans (keep1 b hb h1))), h1, hne, h2⟩
    have hos3 := G4.below.os
    have hos1 := G2.below.os
    refine ⟨⟨⟨?_, ?_, ?_, by omega, fun b hb hy => (same b hb hy).1⟩, EE.keep, EE.dd, fun b hb => ?_, fun b hb => by have := G3.lt b hb; omega, fun b hb => ?_, fun b hb => ?_⟩, σ2.h, an2, Y3, G5, hY3', (EW3.trans E4), fun b => Iff.rfl, hlD2, hlY3, hlB, by omega, hlw, fun r hr => ?_, ?_⟩
    · rw [← hW4]; show W3.os = W.os; rw [show W3.os = W2.os from G4.below.os, ← hW2]; exact G2.below.os
    · rw [← hW4]; show W3.tape = W.tape; rw [show W3.tape = W2.tape from G4.below.tape, ← hW2]; exact G2.below.tape
    · rw [← hW4]; show W3.output = W.output; rw [show W3.output = W2.output from G4.below.output, ← hW2]; exact G2.below.output
    · by_cases hlt : b < W.heap.size
      · by_cases hy : Y b
        · exact .inr (.inl hy)
        · obtain ⟨_, q1, q2, q3⟩ := same b hlt hy
          by_cases hd : D b
          · exact .inl hd
          · exact absurd hb (nD2 b (by omega) (nD1 b hlt hd q1) q3)
      · exact .inr (.inr (by omega))
    · by_cases hlt : b < W.heap.size
      · by_cases hy : Y b
        · exact .inl hy
        · obtain ⟨_, q1, q2, q3⟩ := same b hlt hy
          exfalso
          rcases hb with ⟨o, ob, ho, hbk⟩ | hb | hb
          · rcases G4.ow o ob b ho hbk with h3 | h3
            · have : W2.heap.size ≤ b := h3; omega
            · exact q3 (.inl h3)
          · exact nY3 b (by omega) q3 hb
          · exact q2 hb
      · exact .inr (by omega)
    · rcases hb with ⟨o, ob, ho, hbk⟩ | hb | hb
      · exact G5.blk_lt ho hbk
      · exact G5.ylt b hb
      · omega
    · obtain ⟨q1, q2, q3, q4, q5⟩ := j.mks r hr
      have hrW : r < W.heap.size := (Array.getElem?_eq_some_iff.1 q1).1
      have hry : ¬ Y r := fun hy => by
        rcases (j.yy r).1 hy with h1 | h1 | h1
        · exact own_not j.heap q1 rfl h1
        · exact q3 h1
        · exact q4 h1
      obtain ⟨p1, p2, p3, p4⟩ := same r hrW hry
      exact ⟨p1.trans q1, nD2 r (by omega) (nD1 r hrW q2 p2) p4, nY3 r (by omega) p4, q4, q5⟩
    · cases y' with
      | some rest' => obtain ⟨rfl, h2⟩ := hy'; exact ⟨hl4, h2⟩
      | none => obtain ⟨e, c, h1, rfl, h3⟩ := hy'; exact ⟨e, c, h1, hl4, h3⟩
  cases e with
  | normal =>
    obtain ⟨v, w', h1, rfl, Y', h2, h3⟩ := fin none (some rest) ⟨rfl, hq⟩
    exact ⟨_, w', h1, true, Y', D2, rfl, h2, h3⟩
  | ret =>
    obtain ⟨v, w', h1, rfl, Y', h2, h3⟩ := fin (some .ret) none ⟨.ret, .ret, rfl, rfl, hq⟩
    exact ⟨_, w', h1, false, Y', D2, rfl, h2, h3⟩
  | exit id =>
    obtain ⟨v, w', h1, rfl, Y', h2, h3⟩ := fin (some (.exit id)) none ⟨.exit id, .exit id, rfl, rfl, hq⟩
    exact ⟨_, w', h1, false, Y', D2, rfl, h2, h3⟩
  | goto t =>
    obtain ⟨v, w', h1, rfl, Y', h2, h3⟩ := fin (some (.goto t)) none ⟨.goto t, .goto t, rfl, rfl, hq⟩
    exact ⟨_, w', h1, false, Y', D2, rfl, h2, h3⟩
  | panic c => exact hq.elim
  | outgrown => exact hq.elim
end
end Abs

namespace Abs
open Go
open Go.RowKit (Below)
section
variable {P : Program}
theorem run_enterLoop_in {w : World} {l0 : Nat} {r0 : Loop} (hl : w.heap[l0]? = some (.loop r0)) (fn : FuncId) (tmps : Array Value) (ps : Array Tmp) (assign body : Code) :
    (Instr.enterLoop fn tmps ps assign body (some l0)).run P w =
      .ok (w.heap.size, []) (w.alloc (.loop { state := .ready, pending := none, fn, tmps, params := ps, assign, body, defers := r0.defers })) := by
  unfold Instr.enterLoop
  simp only [Sem.run_bind, run_getLoop hl, run_newObj_alloc, Result.andThen, Sem.run_pure, World.size_alloc]
theorem enter_loop {w : World} {ro : Option Nat} (hro : ∀ l, ro = some l → ∃ r, w.heap[l]? = some (.loop r)) (fn : FuncId) (tmps : Array Value) (ps : Array Tmp) (assign body : Code) :
    ∃ l mk w1 dfs, (Instr.enterLoop fn tmps ps assign body ro).run P w = .ok (l, mk.map markD) w1 ∧ Below w.heap.size w w1 ∧ w.heap.size ≤ l ∧ l < w1.heap.size ∧
      w1.heap[l]? = some (.loop { state := .ready, pending := none, fn, tmps, params := ps, assign, body, defers := dfs }) ∧ (mk = [] ∨ mk = [w.heap.size]) ∧ (ro.isSome = true → mk = []) ∧
      ∀ r ∈ mk, r ≠ l ∧ r < w1.heap.size ∧ w1.heap[r]? = some (.deferred (some [])) := by
  cases ro with
  | none =>
    refine ⟨w.heap.size + 1, [w.heap.size], _, w.heap.size, run_enterLoop_outer fn tmps ps assign body, ((Below.refl _ w).alloc (Nat.le_refl _) _).alloc (by simp) _, by omega, by simp, ?_, .inr rfl, by simp, ?_⟩
    · have := World.alloc_heap_new (w.alloc (.deferred (some []))) (.loop { state := .ready, pending := none, fn, tmps, params := ps, assign, body, defers := w.heap.size })
      rwa [World.size_alloc] at this
    · intro r hr
      simp at hr; subst hr
      refine ⟨by omega, by simp; omega, (Below.heap_alloc _ _ _ (by simp)).trans (World.alloc_heap_new w _)⟩
  | some l0 =>
    obtain ⟨r0, hl⟩ := hro l0 rfl
    exact ⟨w.heap.size, [], _, r0.defers, run_enterLoop_in hl fn tmps ps assign body, (Below.refl _ w).alloc (Nat.le_refl _) _, Nat.le_refl _, by simp, World.alloc_heap_new w _, .inl rfl, fun _ => rfl, by simp⟩
set_option maxHeartbeats 1000000 in
/-- A RANGE OVER A FUNCTION. -/
theorem range_sound {n m : Nat} {ro : Option Nat} {cx : Cx} {σ : St} {a : Act} {w : World} {g : Operand} {params : Array Tmp} {assign body : Code} {A B : St → (Exit → St → Prop) → Prop} {Q : Exit → St → Prop}
    (r : RX P ro cx n σ a w) (hA : BodyOk P n A assign) (hB : BodyOk P n B body) (hps : ∀ p ∈ params.toList, p < n)
    (hq : ∃ os xs, argOf P (fun _ => false) (σ.h.frzObjs os) (evL σ.ρ g) (.sq xs) ∧ aFold A B σ.ρ params.toList xs (σ.h.frzObjs os) Q) :
    (Code.rangeFunc g params assign body).wpIn (FX ro) m P (fun e a w => ∃ σ, Q e σ ∧ RX P ro cx n σ a w) a w := by
  obtain ⟨os, xs, harg, hfold⟩ := hq
  obtain ⟨cx1, D, an, hle, r⟩ := r
  obtain ⟨Y, hY, H⟩ := r.heap.heap
  obtain ⟨D0, H1, hg1, hd1⟩ := frzObjs_sound os H
  have E0 := frz_ext (w := w) (an := an) hg1 hd1
  have HY0 : HeapY P cx1 (σ.h.frzObjs os) w D0 an := r.heap.next E0 hY H1
  have hslots : ∀ i, LVRep P w D0 (σ.h.frzObjs os).gen an (a.tmps.getD i Go.undef) (σ.ρ i) := fun i => (r.slots i).ext E0
  have hseq : SeqImpl P w D0 (a.eval g) xs := by
    have := argOf_sound H1 (ev_sound hslots g) harg
    refine SeqImpl.keep this ?_ fun _ _ => rfl
    rintro b (hb | ⟨_, _, h1, _⟩)
    · exact hb
    · simp at h1
  have hrl : ∀ l, ro = some l → ∃ rr, w.heap[l]? = some (.loop rr) := by
    intro l e
    obtain ⟨h1, h2, rr, h3⟩ := r.rnd l e
    exact ⟨rr, (H.below.block l h1 h2).trans h3⟩
  generalize hh0 : σ.h.frzObjs os = h0 at *
  clear hh0
  refine wpIn_rangeFunc fun fn _ => ?_
  rw [FX_round]
  obtain ⟨l, mk, w1, dfs, hent, hbel, hlw, hl1, hlo, hmk1, hmk2, hmk3⟩ := enter_loop (P := P) hrl fn a.tmps params assign body
  obtain ⟨f, first, caps, hgv, hen, hcall⟩ := hseq
  have hsz : cx1.wi.heap.size ≤ w.heap.size := H1.below.size
  have hsz1 : w.heap.size ≤ w1.heap.size := hbel.size
  have Hw1 : Heap P (cx1.wY Y) h0 w1 D0 an := H1.grow hbel
  have Ew1 : Ext w D0 h0.gen an w1 D0 h0.gen an := ⟨fun _ h => h, fun b hb => hbel.block b (H1.lt b hb), fun _ => Nat.le_refl _, fun _ _ => rfl⟩
  have hlD : ¬ D0 l := fun h => by have := H1.lt l h; omega
  have hlY : ¬ Y l := fun h => by have : l < w.heap.size := H1.ylt l h; omega
  have hrule := loop_rule (cx := cx1) (l := l) (mk := mk) (Bd := w1.heap.size) (Q := Q) (fn := fn) (dfs := dfs) HY0 hA hB hslots r.size hps
  have hJ0 : LoopJ P cx1 A B σ.ρ params.toList (fun st pe => { state := st, pending := pe, fn, tmps := a.tmps, params, assign, body, defers := dfs }) l mk w1.heap.size w D0 h0.gen an Q (some xs) w1 (fun b => ownBlk h0 an b ∨ Y b ∨ b = l) D0 h0 an Y :=
    ⟨Hw1, hY, Ew1, fun _ => Iff.rfl, hlD, hlY, hl1, Nat.le_refl _, by omega, fun r hr => by
      obtain ⟨h1, h2, h3⟩ := hmk3 r hr
      have hrw : r = w.heap.size := by
        rcases hmk1 with e | e <;> rw [e] at hr <;> simp at hr
        exact hr
      exact ⟨h3, fun h => by have := H1.lt r h; omega, fun h => by have : r < w.heap.size := H1.ylt r h; omega, h1, h2⟩, hlo, hfold⟩
  refine ⟨l, mk.map markD, w1, { target := .fn (.func f) caps, args := first ++ #[.func (.yield l) #[] #[]] }, w1, f, first ++ #[.func (.yield l) #[] #[]] ++ caps, w1, hent, ?_, fun _ _ => trivial, ?_, fun h => FX_depth h, ?_⟩
  · simp only [resolve, hgv, rangeCall, Deferred.ofValue, Sem.run_bind, Sem.run_pure, Result.andThen_ok]
    have : Array.map a.eval #[Operand.const (Value.func (Fn.yield l) #[] #[])] = #[Value.func (Fn.yield l) #[] #[]] := by simp [Act.eval]
    rw [this]
  · simp only [invoke, Sem.run_pure]
    exact hen _ _
  · refine callsFX.2 ((hcall w1 D0 (fun _ h => h) (fun b hb => hbel.block b (H1.lt b hb)) Hw1.lt (.func (.yield l) #[] #[]) _ _ hrule rfl (Nat.le_refl _) (fun b hb => ?_) ⟨h0, an, Y, hJ0⟩).mono ?_)
    · rcases hb with ⟨o, ob, ho, hbk⟩ | hb | hb
      · exact Hw1.blk_lt ho hbk
      · exact Hw1.ylt b hb
      · omega
    · rintro e w2 ⟨v, Y', D', rfl, hstep, hJ⟩
      have key : ∀ (y : Option (List (List FV))), (∃ h an' Yc, LoopJ P cx1 A B σ.ρ params.toList (fun st pe => { state := st, pending := pe, fn, tmps := a.tmps, params, assign, body, defers := dfs }) l mk w1.heap.size w D0 h0.gen an Q y w2 Y' D' h an' Yc) →
          ∃ jump w3, (Instr.endLoop l).run P w2 = .ok jump w3 ∧ ∃ h, RX P ro cx n ⟨σ.ρ, h⟩ { a with defers := mk.map markD ++ a.defers } w3 ∧
            (∀ rest, y = some rest → jump = none ∧ aFold A B σ.ρ params.toList rest h Q) ∧ (y = none → ∃ e c, jumpOf e = some c ∧ jump = some c ∧ Q e ⟨σ.ρ, h⟩) := by
        rintro y ⟨h, an', Yc, j⟩
        obtain ⟨st, pe, hl2, hnb, hy⟩ : ∃ st pe, w2.heap[l]? = some (.loop { state := st, pending := pe, fn, tmps := a.tmps, params, assign, body, defers := dfs }) ∧ st ≠ .busy ∧
            (∀ rest, y = some rest → pe = none ∧ aFold A B σ.ρ params.toList rest h Q) ∧ (y = none → ∃ e c, jumpOf e = some c ∧ pe = some c ∧ Q e ⟨σ.ρ, h⟩) := by
          have := j.rest
          cases y with
          | some rest => exact ⟨_, _, this.1, by simp, fun rest' e => by simp at e; subst e; exact ⟨rfl, this.2⟩, by simp⟩
          | none => obtain ⟨e, c, q1, q2, q3⟩ := this; exact ⟨_, _, q2, by simp, by simp, fun _ => ⟨e, c, q1, rfl, q3⟩⟩
        have hend := run_endLoop (P := P) hl2 hnb
        refine ⟨pe, _, hend, h, ?_, hy.1, hy.2⟩
        obtain ⟨w3, hw3⟩ : ∃ w3, w2.putObj l (.loop { ({ state := st, pending := pe, fn, tmps := a.tmps, params, assign, body, defers := dfs } : Loop) with state := .exhausted }) = w3 := ⟨_, rfl⟩
        rw [hw3]
        have G : Heap P (cx1.wY Yc) h w3 D' an' := by
          rw [← hw3]; exact j.heap.other (putObj_below _ _ _) j.lw (own_not j.heap hl2 rfl) j.lD j.lY
        have hother : ∀ b, b ≠ l → w3.heap[b]? = w2.heap[b]? := fun b hb => by rw [← hw3]; exact World.putObj_heap_other hb
        have E3 : Ext w D0 h0.gen an w3 D' h.gen an' := j.ext.trans ⟨fun _ h => h, fun b hb => hother b fun e => j.lD (e ▸ hb), fun _ => Nat.le_refl _, fun _ _ => rfl⟩
        have HY3 := HY0.next E3 j.yc G
        have hs3 : w3.heap.size = w2.heap.size := by rw [← hw3]; simp
        have hBW := j.BW
        have elder : ∀ b o, b < cx1.wi.heap.size → ¬ cx1.M b → cx1.wi.heap[b]? = some o → Obj.isOwn o = false → b < w3.heap.size ∧ ¬ (ownBlk h an' b ∨ Yc b) ∧ w3.heap[b]? = some o := by
          intro b o h1 h2 h3 h4
          have e1 : w3.heap[b]? = some o := (G.below.block b h1 h2).trans h3
          refine ⟨by omega, ?_, e1⟩
          rintro (hc | hc)
          · exact own_not G e1 h4 hc
          · exact h2 (j.yc b hc h1)
        refine ⟨cx1.re G, D', an', ⟨fun h' w' D'' an'' hh => hle.hy _ _ _ _ (HY3.unre j.yc G hh), hle.hb, fun h' w' D'' an'' Y'' hY'' hh => by
          obtain ⟨q1, q2⟩ := Heap.unre j.yc G hY'' hh
          exact hle.hp _ _ _ _ _ q2 q1⟩, HY3.re G, fun i => (hslots i).ext E3, ?_, ?_, r.size⟩
        · obtain ⟨ms, q1, q2, q3, q4⟩ := r.marks
          refine ⟨mk ++ ms, by simp [q1], ?_, fun e => by rw [hmk2 e, q3 e]; rfl, fun b hb => ?_⟩
          · rw [List.nodup_append]
            refine ⟨by rcases hmk1 with e | e <;> rw [e] <;> simp, q2, fun x hx y hy e => ?_⟩
            subst e
            have := (q4 x hy).2.1
            rcases hmk1 with e | e <;> rw [e] at hx <;> simp at hx
            omega
          · rcases List.mem_append.1 hb with hb | hb
            · obtain ⟨p1, p2, p3, p4, p5⟩ := j.mks b hb
              have e1 : w3.heap[b]? = some (.deferred (some [])) := (hother b p4).trans p1
              refine ⟨?_, by show b < w3.heap.size; omega, ?_, p2, e1⟩
              · have hb1 : cx1.base ≤ cx1.wi.heap.size := cx1.baseLe
                have : b = w.heap.size := by rcases hmk1 with e | e <;> rw [e] at hb <;> simp at hb; exact hb
                show cx1.base ≤ b
                omega
              · rintro (hc | hc)
                · exact own_not G e1 rfl hc
                · exact p3 hc
            · obtain ⟨p0, p1, p2, p4, p3⟩ := q4 b hb
              obtain ⟨t1, t2, t3⟩ := elder b _ p1 p2 p3 rfl
              refine ⟨p0, t1, t2, fun hd => ?_, t3⟩
              rcases G.new b hd with h5 | h5 | h5
              · exact p4 h5
              · have : cx1.wi.heap.size ≤ b := h5; omega
              · exact p2 h5
        · intro l0 e
          obtain ⟨p1, p2, rr, p3⟩ := r.rnd l0 e
          obtain ⟨t1, t2, t3⟩ := elder l0 _ p1 p2 p3 rfl
          exact ⟨t1, t2, rr, t3⟩
      rcases hJ with hJ | hJ
      · obtain ⟨jump, w3, h1, h, h2, h3, _⟩ := key _ hJ
        obtain ⟨rfl, h4⟩ := h3 [] rfl
        exact ⟨none, w3, h1, _, h4, h2⟩
      · obtain ⟨jump, w3, h1, h, h2, _, h3⟩ := key _ hJ
        obtain ⟨e, c, h3, rfl, h4⟩ := h3 rfl
        refine ⟨some c, w3, h1, ?_⟩
        cases e <;> simp only [jumpOf, Option.some.injEq, reduceCtorEq] at h3 <;> subst h3
        · exact wpIn_exit ⟨_, h4, h2⟩
        · exact wpIn_goto ⟨_, h4, h2⟩
        · exact wpIn_ret ⟨_, h4, h2⟩
end
end Abs

