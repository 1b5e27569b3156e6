/- A part of the proof: Abs18. -/
import Derived.Test.YtmanbdacloeioaaAbs29
set_option linter.unusedSimpArgs false
set_option linter.unusedVariables false
namespace Abs
open Go
open Go.RowKit (Below)

/-- The operations that an operation must keep clear of. -/
def partners (bad : List (Nat × Nat)) (i : Nat) : List Nat :=
  bad.filterMap fun p => if p.1 = i then some p.2 else if p.2 = i then some p.1 else none
def clOf (bad : List (Nat × Nat)) (W : Nat → List Nat) (i : Nat) : Option Cl :=
  match partners bad i with
  | [] => none
  | ps => some ⟨W i, ps.flatMap W⟩

def okPair (bad : List (Nat × Nat)) (k i : Nat) (x y : SO) : Bool :=
  x.free y && ((isPure x.op && (partners bad k).isEmpty) || (isPure y.op && (partners bad i).isEmpty) || (isQuiet x.op && isQuiet y.op) || (((isCellQ x.op && isMapW y.op) || (isMapW x.op && isCellQ y.op)) && (partners bad k).isEmpty && (partners bad i).isEmpty) || bad.contains (k, i))

/-- The check of a region that draws its order: each operation's edges lead back; two operations, the later one of which need not wait for the earlier one, may change places. -/
def okDraw (nb : Nat) (ops : Array Oper) (bad : List (Nat × Nat)) : Bool :=
  (List.range ops.size).all fun i =>
    match ops[i]? with
    | none => false
    | some o =>
      o.after.all (fun e => !Region.binds .any e || decide (e.on < i)) &&
      (List.range i).all fun k =>
        ((Region.before ops).getD i 0).testBit k && o.after.any (fun e => Region.binds .any e && (e.on == k || (decide (k < e.on) && decide (e.on < i) && ((Region.before ops).getD e.on 0).testBit k))) ||
        !((Region.before ops).getD i 0).testBit k &&
        (match (ops[k]?).bind (sko nb ops), (ops[i]?).bind (sko nb ops) with
        | some x, some y => okPair bad k i x y
        | _, _ => false)

/-- The pairs that must keep clear of one another. -/
def badOf (nb : Nat) (ops : Array Oper) : List (Nat × Nat) :=
  let sk := (List.range ops.size).map fun i => (ops[i]?).bind (sko nb ops)
  let bf := Region.before ops
  (List.range ops.size).flatMap fun i => (List.range i).filterMap fun k =>
    if (bf.getD i 0).testBit k then none else
    match (sk[k]?).bind id, (sk[i]?).bind id with
    | some x, some y => if isPure x.op || isPure y.op || (isQuiet x.op && isQuiet y.op) || ((isCellQ x.op && isMapW y.op) || (isMapW x.op && isCellQ y.op)) then none else some (k, i)
    | _, _ => none

/-- An operation that keeps to its clearance. -/
def aSOD (P : Program) (c : Option Cl) (o : SO) (σ : St) (K : St → Prop) : Prop :=
  match c with
  | none => aSO P o σ K
  | some c =>
    (match o.g with
    | none => (o.op.operands.toList.all fun x => avoid c.F (isCall o.op) σ.h 6 (evL σ.ρ x)) = true ∧ stepE0 P o.nm o.op o.ty (evL σ.ρ) σ.h fun lv h' => Agree c.W σ.h h' ∧ K (σ.put o.d lv h')
    | some (s, want) =>
      (match σ.ρ s with
      | .fv (.val (.bool b)) => if b = want then (o.op.operands.toList.all fun x => avoid c.F (isCall o.op) σ.h 6 (evL σ.ρ x)) = true ∧ stepE0 P o.nm o.op o.ty (evL σ.ρ) σ.h fun lv h' => Agree c.W σ.h h' ∧ K (σ.put o.d lv h') else K (σ.put o.d (.tup []) σ.h)
      | .tup [] => K (σ.put o.d (.tup []) σ.h)
      | _ => False))

def aLD (P : Program) (C : Nat → Option Cl) : Nat → List SO → St → (St → Prop) → Prop
  | _, [], σ, K => K σ
  | i, o :: r, σ, K => aSOD P (C i) o σ fun σ' => aLD P C (i + 1) r σ' K

def aIdxD (P : Program) (C : Nat → Option Cl) (nb : Nat) (ops : Array Oper) : List Nat → St → (St → Prop) → Prop
  | [], σ, K => K σ
  | i :: l, σ, K =>
    match (ops[i]?).bind (sko nb ops) with
    | some s => aSOD P (C i) s σ fun σ' => aIdxD P C nb ops l σ' K
    | none => False

section
variable {P : Program}
theorem aSOD_iff {c : Option Cl} {o : SO} {σ : St} {K : St → Prop} : aSOD P c o σ K ↔ outD P c o σ.ρ σ.h fun lv h' => K (σ.put o.d lv h') := by
  cases c with
  | none => exact aSO_outcome
  | some c =>
    simp only [aSOD, outD, goes, List.all_eq_true, Array.mem_toList_iff]
    cases o.g with
    | none => simp
    | some g =>
      obtain ⟨s, want⟩ := g
      simp only
      split
      · rename_i b hb
        simp only [hb]
        by_cases e : b = want
        · subst e; simp
        · have : (b == want) = false := by simpa using e
          simp [e, this]
      · rename_i hb; simp [hb]
      · rename_i hne hne2
        split
        · rename_i b hb; exact (hne b hb).elim
        · rename_i hb; exact (hne2 hb).elim
        · simp
theorem aSOD_mono {c : Option Cl} {o : SO} {σ : St} {K K' : St → Prop} (hK : ∀ σ, K σ → K' σ) (hq : aSOD P c o σ K) : aSOD P c o σ K' := by
  rw [aSOD_iff] at hq ⊢
  exact outD_mono (fun _ _ => hK _) hq
theorem aSOD_aSO {c : Option Cl} {o : SO} {σ : St} {K : St → Prop} (hq : aSOD P c o σ K) : aSO P o σ K := by
  rw [aSOD_iff] at hq
  rw [aSO_outcome]
  exact outD_outcome hq
theorem aLD_mono {C : Nat → Option Cl} : ∀ (l : List SO) (i : Nat) {σ : St} {K K' : St → Prop}, (∀ σ, K σ → K' σ) → aLD P C i l σ K → aLD P C i l σ K'
  | [], _, _, _, _, hK, h => hK _ h
  | o :: l, i, _, _, _, hK, h => aSOD_mono (fun _ => aLD_mono l (i + 1) hK) h
theorem aSOD_swap {W : Nat → List Nat} {bad : List (Nat × Nat)} (hW : ∀ p ∈ bad, ∀ o ∈ W p.1, o ∉ W p.2) {k i : Nat} {x y : SO} (hc : okPair bad k i x y = true) {σ : St} {K : St → Prop}
    (hq : aSOD P (clOf bad W k) x σ fun σ1 => aSOD P (clOf bad W i) y σ1 K) : aSOD P (clOf bad W i) y σ fun σ1 => aSOD P (clOf bad W k) x σ1 K := by
  have hh : ∀ (d : Option Nat) (lv : LV) (h : AH), (σ.put d lv h).h = h := fun d lv h => by cases d <;> rfl
  simp only [aSOD_iff, hh] at hq ⊢
  simp only [okPair, Bool.and_eq_true, Bool.or_eq_true] at hc
  refine outD_swap' hc.1 ?_ hq
  have hnil : ∀ j, (partners bad j).isEmpty = true → clOf bad W j = none := by
    intro j hj
    unfold clOf
    rw [List.isEmpty_iff.1 hj]
  rcases hc.2 with (((⟨h1, h2⟩ | ⟨h1, h2⟩) | h1) | ⟨⟨h1, h2⟩, h3⟩) | h1
  · exact .inl (.inl ⟨h1, hnil _ h2⟩)
  · exact .inl (.inr (.inl ⟨h1, hnil _ h2⟩))
  · exact .inl (.inr (.inr (.inl h1)))
  · exact .inr ⟨hnil _ h2, hnil _ h3, h1⟩
  · refine .inl (.inr (.inr (.inr ?_)))
    have hm : (k, i) ∈ bad := by simpa using h1
    have hki : i ∈ partners bad k := by
      unfold partners
      rw [List.mem_filterMap]
      exact ⟨(k, i), hm, by simp⟩
    have hik : k ∈ partners bad i := by
      unfold partners
      rw [List.mem_filterMap]
      refine ⟨(k, i), hm, ?_⟩
      by_cases e : k = i
      · simp [e]
      · simp [e]
    have hsome : ∀ {j m : Nat}, m ∈ partners bad j → clOf bad W j = some ⟨W j, (partners bad j).flatMap W⟩ := by
      intro j m hj
      unfold clOf
      split
      · rename_i e; rw [e] at hj; simp at hj
      · rfl
    refine ⟨_, _, hsome hki, hsome hik, ?_, ?_, hW _ hm⟩
    · intro o ho; exact List.mem_flatMap.2 ⟨k, hik, ho⟩
    · intro o ho; exact List.mem_flatMap.2 ⟨i, hki, ho⟩
end

section
variable {P : Program} {cx : Cx} {w : World} {D : Nat → Prop} {an : Nat → Value} {nb : Nat} {ops : Array Oper} {bad : List (Nat × Nat)} {W : Nat → List Nat}

theorem okDraw_at (hok : okDraw nb ops bad = true) {i : Nat} {o : Oper} (ho : ops[i]? = some o) :
    (∀ e ∈ o.after, Region.binds .any e = true → e.on < i) ∧ ∀ k, k < i →
      (((Region.before ops).getD i 0).testBit k = true ∧ ∃ e ∈ o.after, Region.binds .any e = true ∧ (e.on = k ∨ (k < e.on ∧ e.on < i ∧ ((Region.before ops).getD e.on 0).testBit k = true))) ∨
      (((Region.before ops).getD i 0).testBit k = false ∧ ∃ x y, (ops[k]?).bind (sko nb ops) = some x ∧ (ops[i]?).bind (sko nb ops) = some y ∧ okPair bad k i x y = true) := by
  have hi : i < ops.size := (Array.getElem?_eq_some_iff.1 ho).1
  have h1 := List.all_eq_true.1 hok i (List.mem_range.2 hi)
  rw [ho] at h1
  simp only [Bool.and_eq_true] at h1
  obtain ⟨h2, h3⟩ := h1
  refine ⟨fun e he hb => ?_, fun k hk => ?_⟩
  · have := (Array.all_eq_true_iff_forall_mem.1 h2) e he
    simpa [hb] using this
  · have := List.all_eq_true.1 h3 k (List.mem_range.2 hk)
    simp only [Bool.or_eq_true, Bool.and_eq_true] at this
    rcases this with ⟨h4, h5⟩ | ⟨h4, h5⟩
    · left
      refine ⟨h4, ?_⟩
      rw [Array.any_eq_true'] at h5
      obtain ⟨e, he, h6⟩ := h5
      simp only [Bool.and_eq_true, Bool.or_eq_true, beq_iff_eq, decide_eq_true_eq] at h6
      exact ⟨e, he, h6.1, h6.2.imp id fun h => ⟨h.1.1, h.1.2, h.2⟩⟩
    · right
      refine ⟨by simpa using h4, ?_⟩
      split at h5
      · rename_i x y hx hy; exact ⟨x, y, hx, by rw [ho]; exact hy, h5⟩
      · simp at h5

/-- What is listed is closed under what must come before. -/
def Closed (ops : Array Oper) (listed : Array Bool) : Prop :=
  ∀ i o, ops[i]? = some o → listed.getD i false = true → ∀ e ∈ o.after, Region.binds .any e = true → listed.getD e.on false = true

theorem before_listed (hok : okDraw nb ops bad = true) {listed : Array Bool} (hc : Closed ops listed) : ∀ (i : Nat) (o : Oper) (k : Nat), ops[i]? = some o → k < i → ((Region.before ops).getD i 0).testBit k = true →
    (∀ e ∈ o.after, Region.binds .any e = true → listed.getD e.on false = true) → listed.getD k false = true := by
  intro i
  induction i using Nat.strongRecOn with
  | _ i ih =>
    intro o k ho hk hb hl
    rcases (okDraw_at hok ho).2 k hk with ⟨_, e, he, hbe, h⟩ | ⟨h, _⟩
    · rcases h with rfl | ⟨h1, h2, h3⟩
      · exact hl e he hbe
      · have hle := hl e he hbe
        have hen : e.on < ops.size := by have := (Array.getElem?_eq_some_iff.1 ho).1; omega
        exact ih e.on h2 ops[e.on] k (by simp) h1 h3 (fun e' he' hb' => hc e.on _ (by simp) hle e' he' hb')
    · rw [hb] at h; simp at h

theorem aIdx_front (hW : ∀ p ∈ bad, ∀ o ∈ W p.1, o ∉ W p.2) (i : Nat) : ∀ (pre post : List Nat) {σ : St} {K : St → Prop}, (∀ k ∈ pre, ∃ x y, (ops[k]?).bind (sko nb ops) = some x ∧ (ops[i]?).bind (sko nb ops) = some y ∧ okPair bad k i x y = true) →
    aIdxD P (clOf bad W) nb ops (pre ++ i :: post) σ K → aIdxD P (clOf bad W) nb ops (i :: (pre ++ post)) σ K
  | [], post, σ, K, _, h => h
  | k :: pre, post, σ, K, hc, h => by
    obtain ⟨x, y, hx, hy, hxy⟩ := hc k (by simp)
    have h1 : aSOD P (clOf bad W k) x σ fun σ1 => aIdxD P (clOf bad W) nb ops (i :: (pre ++ post)) σ1 K := by
      simp only [List.cons_append, aIdxD, hx] at h
      exact aSOD_mono (fun σ1 h2 => aIdx_front hW i pre post (fun k hk => hc k (by simp [hk])) h2) h
    simp only [aIdxD, hy] at h1
    have := aSOD_swap hW hxy h1
    simp only [List.cons_append, aIdxD, hx, hy]
    exact this

theorem ready_spec {listed : Array Bool} {i : Nat} : i ∈ Region.ready .any ops listed ↔ i < ops.size ∧ listed.getD i true = false ∧ ∃ o, ops[i]? = some o ∧ ∀ e ∈ o.after, Region.binds .any e = true → listed.getD e.on false = true := by
  unfold Region.ready
  simp only [List.mem_filter, List.mem_range, Bool.and_eq_true, Bool.not_eq_true']
  constructor
  · rintro ⟨h1, h2, h3⟩
    refine ⟨h1, h2, ops[i], by simp, ?_⟩
    simp only [Array.getElem?_eq_getElem h1, Option.map_some, Option.getD_some] at h3
    intro e he hb
    have := (Array.all_eq_true_iff_forall_mem.1 h3) e he
    simpa [hb] using this
  · rintro ⟨h1, h2, o, ho, h3⟩
    refine ⟨h1, h2, ?_⟩
    rw [ho]
    simp only [Option.map_some, Option.getD_some]
    rw [Array.all_eq_true_iff_forall_mem]
    intro e he
    cases hb : Region.binds .any e
    · rfl
    · simp [h3 e he hb]

/-- What is not yet listed, in the order of the text. -/
def rem (ops : Array Oper) (listed : Array Bool) : List Nat := (List.range ops.size).filter fun i => !listed.getD i true

theorem rem_split {listed : Array Bool} (hs : listed.size = ops.size) {i : Nat} (hi : i < ops.size) (hl : listed.getD i true = false) :
    ∃ pre post, rem ops listed = pre ++ i :: post ∧ rem ops (listed.setIfInBounds i true) = pre ++ post ∧ ∀ k ∈ pre, k < i ∧ listed.getD k true = false := by
  have key : ∀ (l : List Nat), l.Pairwise (· < ·) → i ∈ l → ∃ pre post, l.filter (fun i => !listed.getD i true) = pre ++ i :: post ∧ l.filter (fun k => !(listed.setIfInBounds i true).getD k true) = pre ++ post ∧ ∀ k ∈ pre, k < i ∧ listed.getD k true = false := by
    intro l
    induction l with
    | nil => intro _ h; simp at h
    | cons a l ih =>
      intro hp hm
      rw [List.pairwise_cons] at hp
      have hother : ∀ k, k ≠ i → (listed.setIfInBounds i true).getD k true = listed.getD k true := by
        intro k hk
        simp [Array.getD_eq_getD_getElem?, Array.getElem?_setIfInBounds_ne (fun h => hk h.symm)]
      have hself : (listed.setIfInBounds i true).getD i true = true := by
        simp [Array.getD_eq_getD_getElem?, Array.getElem?_setIfInBounds]
        split <;> rfl
      by_cases e : a = i
      · subst e
        refine ⟨[], l.filter (fun i => !listed.getD i true), ?_, ?_, by simp⟩
        · rw [List.filter_cons, if_pos (by rw [hl]; rfl)]; rfl
        · rw [List.filter_cons, if_neg (by rw [hself]; simp)]
          simp only [List.nil_append]
          refine List.filter_congr fun k hk => ?_
          rw [hother k (by have := hp.1 k hk; omega)]
      · have hm' : i ∈ l := by
          rcases List.mem_cons.1 hm with h | h
          · exact absurd h.symm e
          · exact h
        obtain ⟨pre, post, e1, e2, e3⟩ := ih hp.2 hm'
        by_cases ha : listed.getD a true = true
        · refine ⟨pre, post, ?_, ?_, e3⟩
          · rw [List.filter_cons, if_neg (by rw [ha]; simp)]; exact e1
          · rw [List.filter_cons, if_neg (by rw [hother a e, ha]; simp)]; exact e2
        · have ha' : listed.getD a true = false := by simpa using ha
          refine ⟨a :: pre, post, ?_, ?_, ?_⟩
          · rw [List.filter_cons, if_pos (by rw [ha']; rfl), e1]; rfl
          · rw [List.filter_cons, if_pos (by rw [hother a e, ha']; rfl), e2]; rfl
          · intro k hk
            rcases List.mem_cons.1 hk with rfl | hk
            · exact ⟨hp.1 i hm', ha'⟩
            · exact e3 k hk
  exact key _ List.pairwise_lt_range (List.mem_range.2 hi)

theorem aAny_sound {ro : Option Nat} {m n : Nat} (hW : ∀ p ∈ bad, ∀ o ∈ W p.1, o ∉ W p.2) (hok : okDraw nb ops bad = true) (hdst : ∀ (i : Nat) (o : Oper) (k : Nat), ops[i]? = some o → o.dst = some k → k < n) {Q : Exit → Act → World → Prop} {K : St → Prop} (hQ : ∀ σ' a' w' D' an', K σ' → RS P ro cx n σ' a' w' D' an' → Q .normal a' w') :
    ∀ (fuel : Nat) (listed : Array Bool), listed.size = ops.size → Closed ops listed → (rem ops listed).length = fuel →
    ∀ {σ : St} {a : Act} {w : World} {D : Nat → Prop} {an : Nat → Value}, RS P ro cx n σ a w D an → aIdxD P (clOf bad W) nb ops (rem ops listed) σ K → wpAnyIn (FX ro) m P .any ops Q fuel listed a w := by
  have hnil : ∀ (listed : Array Bool), Region.ready .any ops listed = [] → listed.size = ops.size → rem ops listed = [] := by
    intro listed hr hs
    cases hrem : rem ops listed with
    | nil => rfl
    | cons i l =>
      exfalso
      have hmem : i ∈ rem ops listed := by rw [hrem]; simp
      simp only [rem, List.mem_filter, List.mem_range, Bool.not_eq_true'] at hmem
      obtain ⟨hi, hl⟩ := hmem
      have : i ∈ Region.ready .any ops listed := by
        rw [ready_spec]
        refine ⟨hi, hl, ops[i], by simp, fun e he hb => ?_⟩
        have hlt := (okDraw_at hok (show ops[i]? = some ops[i] by simp)).1 e he hb
        -- the least that is left: all before it is listed
        have hleast : ∀ k, k < i → listed.getD k true = true := by
          intro k hk
          by_cases hkl : listed.getD k true = true
          · exact hkl
          · exfalso
            have hkm : k ∈ rem ops listed := by
              simp only [rem, List.mem_filter, List.mem_range, Bool.not_eq_true']
              exact ⟨by omega, by simpa using hkl⟩
            have hp : (rem ops listed).Pairwise (· < ·) := List.Pairwise.filter _ List.pairwise_lt_range
            rw [hrem] at hp hkm
            rw [List.pairwise_cons] at hp
            rcases List.mem_cons.1 hkm with h | h
            · omega
            · have := hp.1 k h; omega
        have := hleast e.on hlt
        have hsz : e.on < listed.size := by omega
        simp only [Array.getD_eq_getD_getElem?, Array.getElem?_eq_getElem hsz, Option.getD_some] at this ⊢
        exact this
      rw [hr] at this; simp at this
  intro fuel
  induction fuel with
  | zero =>
    intro listed hs hc hf σ a w D an r hq
    have hr0 : rem ops listed = [] := List.eq_nil_of_length_eq_zero hf
    rw [hr0] at hq
    refine ⟨?_, hQ _ _ _ _ _ hq r⟩
    cases hr : Region.ready .any ops listed with
    | nil => rfl
    | cons i l =>
      have : i ∈ Region.ready .any ops listed := by rw [hr]; simp
      rw [ready_spec] at this
      have : i ∈ rem ops listed := by
        simp only [rem, List.mem_filter, List.mem_range, Bool.not_eq_true']
        exact ⟨this.1, this.2.1⟩
      rw [hr0] at this; simp at this
  | succ fuel ih =>
    intro listed hs hc hf σ a w D an r hq
    refine ⟨fun hr => ?_, fun i hi => ?_⟩
    · rw [hnil listed hr hs] at hq
      exact hQ _ _ _ _ _ hq r
    · rw [ready_spec] at hi
      obtain ⟨hil, hl, o, ho, hed⟩ := hi
      obtain ⟨pre, post, e1, e2, e3⟩ := rem_split hs hil hl
      have hc' : Closed ops (listed.setIfInBounds i true) := by
        intro j o' ho' hj e he hb
        have hmono : ∀ k, listed.getD k false = true → (listed.setIfInBounds i true).getD k false = true := by
          intro k hk
          simp only [Array.getD_eq_getD_getElem?, Array.getElem?_setIfInBounds] at hk ⊢
          split
          · split
            · rfl
            · rename_i h1 h2; subst h1; omega
          · exact hk
        apply hmono
        by_cases e4 : j = i
        · subst e4
          rw [ho] at ho'; simp at ho'; subst ho'
          exact hed e he hb
        · refine hc j o' ho' ?_ e he hb
          simpa [Array.getD_eq_getD_getElem?, Array.getElem?_setIfInBounds_ne (fun h => e4 h.symm)] using hj
      rw [e1] at hq
      have hfront : aIdxD P (clOf bad W) nb ops (i :: (pre ++ post)) σ K := by
        refine aIdx_front hW i pre post (fun k hk => ?_) hq
        obtain ⟨hki, hkl⟩ := e3 k hk
        rcases (okDraw_at hok ho).2 k hki with ⟨hb, _⟩ | ⟨_, h⟩
        · have := before_listed hok hc i o k ho hki hb hed
          have hsz : k < listed.size := by omega
          simp only [Array.getD_eq_getD_getElem?, Array.getElem?_eq_getElem hsz, Option.getD_some] at this hkl
          rw [this] at hkl; simp at hkl
        · exact h
      unfold aIdxD at hfront
      split at hfront
      · rename_i s hsk
        refine aSO_sound r hsk ?_ (aSOD_aSO hfront) fun σ' a' w' D' an' h' r' => ?_
        · rw [Option.bind_eq_some_iff] at hsk
          obtain ⟨o', ho', hs'⟩ := hsk
          intro k hk
          refine hdst i o' k ho' ?_
          rw [← hk]
          unfold sko at hs'
          split at hs'
          · simp at hs'; subst hs'; rfl
          · simp only [Option.map_eq_some_iff] at hs'; obtain ⟨_, _, rfl⟩ := hs'; rfl
        · refine ih (listed.setIfInBounds i true) (by simpa using hs) hc' ?_ r' (by rw [e2]; exact h')
          rw [e2]
          rw [e1] at hf
          simp at hf ⊢; omega
      · exact hfront.elim

theorem rem_all : rem ops (Array.replicate ops.size false) = List.range ops.size := by
  unfold rem
  rw [List.filter_eq_self]
  intro i hi
  simp [Array.getD_eq_getD_getElem?, List.mem_range.1 hi]

theorem closed_none : Closed ops (Array.replicate ops.size false) := by
  intro i o ho hl
  simp [Array.getD_eq_getD_getElem?, Array.getElem?_replicate] at hl
  split at hl <;> simp at hl

theorem aIdx_none {nb : Nat} {ops : Array Oper} : ∀ (l : List Nat) {σ : St} {K : St → Prop}, aIdx P nb ops l σ K → aIdxD P (clOf [] fun _ => []) nb ops l σ K
  | [], σ, K, h => h
  | i :: l, σ, K, h => by
    unfold aIdx at h
    unfold aIdxD
    split at h
    · rename_i s hs
      simp only [hs]
      exact aSO_mono (fun σ' => aIdx_none l) h
    · exact h.elim

theorem drew_rs {ro : Option Nat} {n : Nat} {σ : St} {a : Act} (r : RS P ro cx n σ a w D an) : RS P ro cx n σ a { w with drawn := w.drawn + 1 } D an := by
  have hb : Below w.heap.size w w.drew := (Below.refl _ w).drew
  have hh : ∀ (k : Nat), w.drew.heap[k]? = w.heap[k]? := fun _ => rfl
  have E : Ext w D σ.h.gen an w.drew D σ.h.gen an := ⟨fun _ h => h, fun _ _ => rfl, fun _ => Nat.le_refl _, fun _ _ => rfl⟩
  obtain ⟨Y, hY, H⟩ := r.heap.heap
  refine ⟨r.heap.next E hY ?_, fun i => (r.slots i).ext E, r.marks, r.rnd, r.size⟩
  exact ⟨H.init, H.lt, H.new, H.below.trans ⟨rfl, rfl, rfl, Nat.le_refl _, fun _ _ _ => rfl⟩, fun o ob ho => (H.obj o ob ho).keep (fun _ h => h) (fun _ _ => rfl) (fun _ _ => ⟨rfl, fun h => h⟩) (fun _ => Nat.le_refl _) (fun _ _ => rfl), H.ow, H.sep, H.gmono, H.anc, cx.J.stable H.yJ rfl rfl rfl (Nat.le_refl _) (fun _ _ _ => rfl) (fun _ h => h) (fun _ h => .inl h) H.lt, H.ylt, H.ysep⟩

/-- A region that draws: the operations in the order of the text, each within its clearance, whatever the order that is drawn. -/
theorem regionD_sound {ro : Option Nat} {m n id : Nat} (hW : ∀ p ∈ bad, ∀ o ∈ W p.1, o ∉ W p.2) (hok : okDraw nb ops bad = true) (hmix : P.follows .mixedOrders = true) (hdst : ∀ (i : Nat) (o : Oper) (k : Nat), ops[i]? = some o → o.dst = some k → k < n) {Q : Exit → Act → World → Prop} {K : St → Prop} (hQ : ∀ σ' a' w' D' an', K σ' → RS P ro cx n σ' a' w' D' an' → Q .normal a' w')
    {σ : St} {a : Act} (r : RS P ro cx n σ a w D an) (hq : aIdxD P (clOf bad W) nb ops (List.range ops.size) σ K) : (Code.region id ops true).wpIn (FX ro) m P Q a w := by
  refine wpIn_region_any hmix ?_
  exact aAny_sound hW hok hdst hQ _ _ (by simp) closed_none (by rw [rem_all]; simp) (drew_rs r) (by rw [rem_all]; exact hq)

/-- A region: the operations in the order of the text, whatever the order that is drawn. -/
theorem region_sound {ro : Option Nat} {m n id : Nat} {draw : Bool} (hok : draw = true → okDraw nb ops [] = true) (hmix : P.follows .mixedOrders = true) (hdst : ∀ (i : Nat) (o : Oper) (k : Nat), ops[i]? = some o → o.dst = some k → k < n) {Q : Exit → Act → World → Prop} {K : St → Prop} (hQ : ∀ σ' a' w' D' an', K σ' → RS P ro cx n σ' a' w' D' an' → Q .normal a' w')
    {σ : St} {a : Act} (r : RS P ro cx n σ a w D an) (hq : aIdx P nb ops (List.range ops.size) σ K) : (Code.region id ops draw).wpIn (FX ro) m P Q a w := by
  cases draw with
  | false => exact wpIn_region (aIdx_sound hdst _ r hq hQ)
  | true => exact regionD_sound (bad := []) (W := fun _ => []) (fun p hp => by simp at hp) (hok rfl) hmix hdst hQ r (aIdx_none _ hq)
end
end Abs

