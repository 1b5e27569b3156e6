/- A part of the proof: AbsI. -/
import Derived.Test.YtmanbdacloeioaaAbsW
set_option linter.unusedSimpArgs false
set_option linter.unusedVariables false
set_option linter.unusedSectionVars false
namespace Abs
open Go
/-! Common plain definitions, and maps with keys of a type. -/
def inB (a b n : Int) : Bool := !(decide (n < a) || decide (n > b))
theorem inB_iff {a b n : Int} : inB a b n = true ↔ a ≤ n ∧ n ≤ b := by
  simp only [inB, Bool.not_eq_true', Bool.or_eq_false_iff, decide_eq_false_iff_not]
  omega
def lstN (xs : List FV) : FV := if xs.isEmpty then .nil else .list false xs
theorem lsOf_lstN (xs : List FV) : lsOf (lstN xs) = some xs := by cases xs <;> rfl
theorem lstN_one (xs : List FV) : (LV.fv (lstN xs)).one = true := by cases xs <;> rfl
theorem ls_one {s : FV} {xs : List FV} (h : lsOf s = some xs) : (LV.fv s).one = true := by rcases ls_cases h with ⟨f, rfl⟩ | ⟨rfl, _⟩ <;> rfl
theorem ls_fone {s : FV} {xs : List FV} (h : lsOf s = some xs) : s.one = true := by rcases ls_cases h with ⟨f, rfl⟩ | ⟨rfl, _⟩ <;> rfl
theorem ls_cells {s : FV} {xs : List FV} (h : lsOf s = some xs) : s.cells = [s] := by rcases ls_cases h with ⟨f, rfl⟩ | ⟨rfl, _⟩ <;> rfl
theorem ls_lcells {s : FV} {xs : List FV} (h : lsOf s = some xs) : (LV.fv s).cells = [.fv s] := by rcases ls_cases h with ⟨f, rfl⟩ | ⟨rfl, _⟩ <;> rfl
theorem partL_get {n : Nat} {cs : List LV} {k : Nat} {v : LV} (h : cs[k]? = some v) : partL false n (cs.drop k) = some v := by
  cases e : cs.drop k with
  | nil => have := congrArg (·[0]?) e; simp [h] at this
  | cons x r => have := congrArg (·[0]?) e; simp [h] at this; subst this; rfl
theorem partF_get {n : Nat} {cs : List FV} {k : Nat} {v : FV} (h : cs[k]? = some v) : partF false n (cs.drop k) = some (.fv v) := by
  cases e : cs.drop k with
  | nil => have := congrArg (·[0]?) e; simp [h] at this
  | cons x r => have := congrArg (·[0]?) e; simp [h] at this; subst this; rfl
section
variable {α β : Type} [DecidableEq α] (kF : α → FV) (vF : β → FV)
def esF (M : List (α × β)) : List (FV × FV) := M.map fun e => (kF e.1, vF e.2)
def kIdx (M : List (α × β)) (k : α) : Nat := M.findIdx fun e => e.1 == k
def kGet (M : List (α × β)) (k : α) (z : β) : β := (M.lookup k).getD z
def kEnt (M : List (α × β)) (k : α) (z : β) : List (α × β) := if k ∈ M.map Prod.fst then M else M ++ [(k, z)]
def kUp (M : List (α × β)) (k : α) (z v : β) : List (α × β) := (kEnt M k z).map fun e => if e.1 = k then (k, v) else e
theorem lookup_none {M : List (α × β)} {k : α} : M.lookup k = none ↔ k ∉ M.map Prod.fst := by
  induction M with
  | nil => simp
  | cons e M ih =>
    obtain ⟨a, b⟩ := e
    simp only [List.lookup, List.map_cons, List.mem_cons, not_or]
    by_cases h : k = a
    · subst h; simp
    · have : (k == a) = false := by simpa using h
      simp [this, ih, h]
theorem lookup_mem {M : List (α × β)} {k : α} {v : β} (h : M.lookup k = some v) : (k, v) ∈ M := by
  induction M with
  | nil => simp at h
  | cons e M ih =>
    obtain ⟨a, b⟩ := e
    simp only [List.lookup] at h
    split at h
    · rename_i h2
      simp only [beq_iff_eq] at h2
      subst h2
      simp at h; subst h; simp
    · exact List.mem_cons_of_mem _ (ih h)
theorem lookup_of_mem {M : List (α × β)} {k : α} {v : β} (nd : (M.map Prod.fst).Nodup) (h : (k, v) ∈ M) : M.lookup k = some v := by
  induction M with
  | nil => simp at h
  | cons e M ih =>
    obtain ⟨a, b⟩ := e
    simp only [List.map_cons, List.nodup_cons] at nd
    rcases List.mem_cons.1 h with h | h
    · simp at h; obtain ⟨rfl, rfl⟩ := h
      simp [List.lookup]
    · have hne : k ≠ a := fun e => nd.1 (List.mem_map.2 ⟨(k, v), h, e⟩)
      have : (k == a) = false := by simpa using hne
      simp only [List.lookup, this]
      exact ih nd.2 h
theorem kEnt_fst (M : List (α × β)) (k : α) (z : β) : (kEnt M k z).map Prod.fst = if k ∈ M.map Prod.fst then M.map Prod.fst else M.map Prod.fst ++ [k] := by
  unfold kEnt; split <;> simp
theorem kUp_fst (M : List (α × β)) (k : α) (z v : β) : (kUp M k z v).map Prod.fst = (kEnt M k z).map Prod.fst := by
  unfold kUp
  rw [List.map_map]
  congr 1
  funext e
  simp only [Function.comp]
  split
  · rename_i h; exact h.symm
  · rfl
theorem kUp_nodup {M : List (α × β)} (k : α) (z v : β) (nd : (M.map Prod.fst).Nodup) : ((kUp M k z v).map Prod.fst).Nodup := by
  rw [kUp_fst, kEnt_fst]
  split
  · exact nd
  · rename_i h
    refine List.nodup_append.2 ⟨nd, by simp, ?_⟩
    intro a ha b hb
    simp at hb; subst hb
    rintro rfl; exact h ha
theorem kUp_mem {M : List (α × β)} {k : α} {z v : β} {e : α × β} (h : e ∈ kUp M k z v) : e ∈ M ∨ e = (k, v) := by
  unfold kUp at h
  obtain ⟨x, hx, rfl⟩ := List.mem_map.1 h
  split
  · exact .inr rfl
  · rename_i hn
    unfold kEnt at hx
    split at hx
    · exact .inl hx
    · rcases List.mem_append.1 hx with hx | hx
      · exact .inl hx
      · simp at hx; subst hx; exact absurd rfl hn
theorem kUp_keys {M : List (α × β)} {k k' : α} {z v : β} : k' ∈ (kUp M k z v).map Prod.fst ↔ k' = k ∨ k' ∈ M.map Prod.fst := by
  rw [kUp_fst, kEnt_fst]
  split
  · rename_i h
    constructor
    · exact .inr
    · rintro (rfl | h') <;> assumption
  · simp only [List.mem_append, List.mem_singleton]
    exact Or.comm
theorem kUp_lookup {M : List (α × β)} {k k' : α} {z v : β} (nd : (M.map Prod.fst).Nodup) : (kUp M k z v).lookup k' = if k' = k then some v else M.lookup k' := by
  have nd' := kUp_nodup k z v nd
  by_cases h : k' = k
  · subst h
    rw [if_pos rfl]
    refine lookup_of_mem nd' ?_
    unfold kUp
    have hin : k' ∈ (kEnt M k' z).map Prod.fst := by
      rw [kEnt_fst]; split <;> simp_all
    obtain ⟨e, he, rfl⟩ := List.mem_map.1 hin
    exact List.mem_map.2 ⟨e, he, by simp⟩
  · rw [if_neg h]
    cases hl : M.lookup k' with
    | none =>
      rw [lookup_none] at hl ⊢
      rw [kUp_keys]
      simp [h, hl]
    | some w =>
      refine lookup_of_mem nd' ?_
      have hm := lookup_mem hl
      unfold kUp
      refine List.mem_map.2 ⟨(k', w), ?_, by simp [h]⟩
      unfold kEnt
      split
      · exact hm
      · exact List.mem_append_left _ hm
theorem kGet_up {M : List (α × β)} {k k' : α} {z v y : β} (nd : (M.map Prod.fst).Nodup) : kGet (kUp M k z v) k' y = if k' = k then v else kGet M k' y := by
  unfold kGet
  rw [kUp_lookup nd]
  split <;> rfl
theorem kIdx_get {M : List (α × β)} {k : α} {i : Nat} {y : β} (nd : (M.map Prod.fst).Nodup) (h : M[i]? = some (k, y)) : kIdx M k = i ∧ M.lookup k = some y := by
  refine ⟨?_, lookup_of_mem nd (List.mem_of_getElem? h)⟩
  unfold kIdx
  induction M generalizing i with
  | nil => simp at h
  | cons e M ih =>
    simp only [List.map_cons, List.nodup_cons] at nd
    cases i with
    | zero => simp at h; subst h; simp [List.findIdx_cons]
    | succ i =>
      simp only [List.getElem?_cons_succ] at h
      have hne : (e.1 == k) = false := by
        simp only [beq_eq_false_iff_ne, ne_eq]
        intro e2
        exact nd.1 (e2 ▸ List.mem_map.2 ⟨_, List.mem_of_getElem? h, rfl⟩)
      rw [List.findIdx_cons, hne]
      simp [ih nd.2 h]
theorem kIdx_none {M : List (α × β)} {k : α} (h : k ∉ M.map Prod.fst) : kIdx M k = M.length := by
  unfold kIdx
  rw [List.findIdx_eq_length]
  intro e he
  simp only [beq_eq_false_iff_ne, ne_eq]
  rintro rfl
  exact h (List.mem_map.2 ⟨e, he, rfl⟩)
theorem kEnt_get (M : List (α × β)) (k : α) (z : β) (nd : (M.map Prod.fst).Nodup) : (kEnt M k z)[kIdx M k]? = some (k, kGet M k z) := by
  unfold kEnt
  split
  · rename_i h
    cases hl : M.lookup k with
    | none => exact absurd h (lookup_none.1 hl)
    | some y =>
      obtain ⟨i, hi⟩ := List.mem_iff_getElem?.1 (lookup_mem hl)
      obtain ⟨e1, e2⟩ := kIdx_get nd hi
      rw [e1, hi]
      simp [kGet, hl]
  · rename_i h
    rw [kIdx_none h]
    have := lookup_none.2 h
    simp [kGet, this]
theorem map_set_if {M : List (α × β)} {k : α} {v y : β} {i : Nat} (nd : (M.map Prod.fst).Nodup) (h : M[i]? = some (k, y)) : M.set i (k, v) = M.map fun e => if e.1 = k then (k, v) else e := by
  induction M generalizing i with
  | nil => simp at h
  | cons e M ih =>
    simp only [List.map_cons, List.nodup_cons] at nd
    cases i with
    | zero =>
      simp at h; subst h
      simp only [List.set_cons_zero, List.map_cons, if_true]
      congr 1
      rw [List.map_congr_left (g := id), List.map_id]
      intro a ha
      rw [if_neg]; rfl
      rintro rfl
      exact nd.1 (List.mem_map.2 ⟨a, ha, rfl⟩)
    | succ i =>
      simp only [List.getElem?_cons_succ] at h
      simp only [List.set_cons_succ, List.map_cons]
      rw [ih nd.2 h, if_neg]
      intro e2
      exact nd.1 (e2 ▸ List.mem_map.2 ⟨_, List.mem_of_getElem? h, rfl⟩)
end
theorem erase_map {α β : Type} (f : α → β) : ∀ (l : List α) (i : Nat), (l.map f).eraseIdx i = (l.eraseIdx i).map f
  | [], _ => rfl
  | _ :: _, 0 => rfl
  | x :: l, i + 1 => by simp only [List.map_cons, List.eraseIdx_cons_succ, erase_map f l i]
section
variable {P : Program} {α β : Type} [DecidableEq α] {kF : α → FV} {vF : β → FV} {nm d : Option Nat} {r : List SO} {fs : List Fr} {ρ : Nat → LV} {h : AH} {Q : Exit → St → Prop}
theorem mpEntry {t kt et o g : Nat} {m x : Operand} {M : List (α × β)} {k : α} {z : β} (ht : mapTy P t = some (kt, et)) (hm : evL ρ m = .mp o g) (ho : h.mpo o g = some (false, esF kF vF M)) (hx : evL ρ x = .fv (kF k))
    (inj : ∀ a b, kF a = kF b → a = b) (K : Maps.Keyed P kt) (hk : ∀ e ∈ M, KeyOk P kt (kF e.1)) (hkk : KeyOk P kt (kF k)) (hz : zeroF P et = some (vF z)) (nd : (M.map Prod.fst).Nodup)
    (hq : L P r fs (St.put ⟨ρ, h.set o (.map false (esF kF vF (kEnt M k z)))⟩ d (.tup [.fv (vF (kGet M k z)), .fv (.int (kIdx M k : Nat))]) (h.set o (.map false (esF kF vF (kEnt M k z))))) Q) : Mp P nm (.mapEntry t m x) ρ h d r fs Q := by
  refine ⟨kt, et, o, g, esF kF vF M, kF k, vF z, ht, hm, ho, hx, K, ?_, hkk, hz, ?_, ?_⟩
  · intro e he
    obtain ⟨e', he', rfl⟩ := List.mem_map.1 he
    exact hk e' he'
  · intro i y0 hi
    simp only [esF, List.getElem?_map, Option.map_eq_some_iff] at hi
    obtain ⟨⟨a, b⟩, h1, h2⟩ := hi
    simp only [Prod.mk.injEq] at h2
    obtain ⟨h3, rfl⟩ := h2
    obtain rfl := inj _ _ h3
    obtain ⟨e1, e2⟩ := kIdx_get nd h1
    have e3 : kEnt M a z = M := by unfold kEnt; rw [if_pos]; exact List.mem_map.2 ⟨_, List.mem_of_getElem? h1, rfl⟩
    rw [e3] at hq
    rw [e1] at hq
    simp only [kGet, e2, Option.getD_some] at hq
    exact hq
  · intro hno
    have h1 : k ∉ M.map Prod.fst := by
      intro hin
      obtain ⟨e, he, rfl⟩ := List.mem_map.1 hin
      exact hno (vF e.2) (List.mem_map.2 ⟨e, he, rfl⟩)
    have e3 : kEnt M k z = M ++ [(k, z)] := by unfold kEnt; rw [if_neg h1]
    rw [e3, kIdx_none h1] at hq
    simp only [kGet, lookup_none.2 h1, Option.getD_none] at hq
    simpa [esF, Kl] using hq
theorem mpStore {t o g : Nat} {m s v : Operand} {M : List (α × β)} {k : α} {z v' : β} (hm : evL ρ m = .mp o g) (ho : h.mpo o g = some (false, esF kF vF (kEnt M k z))) (hs : evL ρ s = .fv (.int (kIdx M k : Nat))) (nd : (M.map Prod.fst).Nodup)
    (hv : evL ρ v = .fv (vF v'))
    (hq : L P r fs (St.put ⟨ρ, h.set o (.map false (esF kF vF (kUp M k z v')))⟩ d .undef (h.set o (.map false (esF kF vF (kUp M k z v'))))) Q) : Mp P nm (.entryStore t m s v) ρ h d r fs Q := by
  have h1 := kEnt_get M k z nd
  refine ⟨o, g, esF kF vF (kEnt M k z), kIdx M k, kF k, vF (kGet M k z), vF v', hm, ho, hs, ?_, hv, ?_⟩
  · simp [esF, h1]
  · have nd' : ((kEnt M k z).map Prod.fst).Nodup := by
      have := kUp_nodup k z z nd
      rwa [kUp_fst] at this
    have e : (esF kF vF (kEnt M k z)).set (kIdx M k) (kF k, vF v') = esF kF vF (kUp M k z v') := by
      unfold esF kUp
      rw [← map_set_if (v := v') nd' h1, List.map_set]
    rw [e]
    exact hq
theorem mpLook {t kt et : Nat} {m x : Operand} {M : List (α × β)} {k : α} {z : β} (ht : mapTy P t = some (kt, et)) (hm : mapOf h (evL ρ m) = some (esF kF vF M)) (hx : evL ρ x = .fv (kF k))
    (inj : ∀ a b, kF a = kF b → a = b) (K : Maps.Keyed P kt) (hk : ∀ e ∈ M, KeyOk P kt (kF e.1)) (hkk : KeyOk P kt (kF k)) (hz : zeroF P et = some (vF z)) (nd : (M.map Prod.fst).Nodup)
    (hq : L P r fs (St.put ⟨ρ, h⟩ d (.fv (vF (kGet M k z))) h) Q) : Mp P nm (.lookup t m x false) ρ h d r fs Q := by
  refine ⟨kt, et, esF kF vF M, kF k, vF z, ht, hm, hx, K, ?_, hkk, hz, ?_, ?_⟩
  · intro e he
    obtain ⟨e', he', rfl⟩ := List.mem_map.1 he
    exact hk e' he'
  · intro y hy
    obtain ⟨⟨a, b⟩, h1, h2⟩ := List.mem_map.1 hy
    simp only [Prod.mk.injEq] at h2
    obtain ⟨h3, rfl⟩ := h2
    obtain rfl := inj _ _ h3
    simp only [kGet, lookup_of_mem nd h1, Option.getD_some] at hq
    exact hq
  · intro hno
    have h1 : k ∉ M.map Prod.fst := by
      intro hin
      obtain ⟨e, he, rfl⟩ := List.mem_map.1 hin
      exact hno (vF e.2) (List.mem_map.2 ⟨e, he, rfl⟩)
    simp only [kGet, lookup_none.2 h1, Option.getD_none] at hq
    exact hq
theorem mpUpd {t kt et o g : Nat} {m x v : Operand} {M : List (α × β)} {k : α} {v' : β} (ht : mapTy P t = some (kt, et)) (hm : evL ρ m = .mp o g) (ho : h.mpo o g = some (false, esF kF vF M)) (hx : evL ρ x = .fv (kF k)) (hv : evL ρ v = .fv (vF v'))
    (inj : ∀ a b, kF a = kF b → a = b) (K : Maps.Keyed P kt) (hk : ∀ e ∈ M, KeyOk P kt (kF e.1)) (hkk : KeyOk P kt (kF k)) (nd : (M.map Prod.fst).Nodup) (z : β)
    (hq : L P r fs (St.put ⟨ρ, h.set o (.map false (esF kF vF (kUp M k z v')))⟩ d .undef (h.set o (.map false (esF kF vF (kUp M k z v'))))) Q) : Mp P nm (.mapUpdate t m x v) ρ h d r fs Q := by
  refine ⟨kt, et, o, g, esF kF vF M, kF k, vF v', ht, hm, ho, hx, hv, K, ?_, hkk, ?_, ?_⟩
  · intro e he
    obtain ⟨e', he', rfl⟩ := List.mem_map.1 he
    exact hk e' he'
  · intro i y0 hi
    simp only [esF, List.getElem?_map, Option.map_eq_some_iff] at hi
    obtain ⟨⟨a, b⟩, h1, h2⟩ := hi
    simp only [Prod.mk.injEq] at h2
    obtain ⟨h3, rfl⟩ := h2
    obtain rfl := inj _ _ h3
    have e3 : kEnt M a z = M := by unfold kEnt; rw [if_pos]; exact List.mem_map.2 ⟨_, List.mem_of_getElem? h1, rfl⟩
    have e4 : (esF kF vF M).set i (kF a, vF v') = esF kF vF (kUp M a z v') := by
      unfold esF kUp
      rw [e3, ← map_set_if (v := v') nd h1, List.map_set]
    rw [e4]
    exact hq
  · intro hno
    have h1 : k ∉ M.map Prod.fst := by
      intro hin
      obtain ⟨e, he, rfl⟩ := List.mem_map.1 hin
      exact hno (vF e.2) (List.mem_map.2 ⟨e, he, rfl⟩)
    have e3 : kEnt M k z = M ++ [(k, z)] := by unfold kEnt; rw [if_neg h1]
    have e4 : esF kF vF (kUp M k z v') = esF kF vF M ++ [(kF k, vF v')] := by
      unfold esF kUp
      rw [e3]
      simp only [List.map_append, List.map_cons, List.map_nil, if_true, List.map_map]
      congr 1
      refine List.map_congr_left fun e he => ?_
      simp only [Function.comp]
      rw [if_neg]
      rintro rfl
      exact h1 (List.mem_map.2 ⟨e, he, rfl⟩)
    rw [← e4]
    exact hq
theorem mpRangeF {t kt et n : Nat} {x : Operand} {M : List (α × β)} (ht : mapTy P t = some (kt, et)) (hx : evL ρ x = .fv (.map (esF kF vF M)))
    (hq : L P r fs (St.put ⟨ρ, h.new n (.iter (esF kF vF M) none)⟩ d (.it n (h.gen n + 1)) (h.new n (.iter (esF kF vF M) none))) Q) : Mp P (some n) (.range t x) ρ h d r fs Q :=
  ⟨n, kt, et, esF kF vF M, rfl, ht, .inr (.inl ⟨hx, hq⟩)⟩
theorem mpRangeO {t kt et n o g : Nat} {fz : Bool} {x : Operand} {M : List (α × β)} (ht : mapTy P t = some (kt, et)) (hx : evL ρ x = .mp o g) (ho : h.mpo o g = some (fz, esF kF vF M))
    (hq : L P r fs (St.put ⟨ρ, (h.set o (.map true (esF kF vF M))).new n (.iter (esF kF vF M) none)⟩ d (.it n ((h.set o (.map true (esF kF vF M))).gen n + 1)) ((h.set o (.map true (esF kF vF M))).new n (.iter (esF kF vF M) none))) Q) : Mp P (some n) (.range t x) ρ h d r fs Q :=
  ⟨n, kt, et, esF kF vF M, rfl, ht, .inl ⟨o, g, fz, hx, ho, hq⟩⟩
theorem mpNext {it : Operand} {o g : Nat} {R : List (α × β)} {cur : Option (FV × FV)} (hx : evL ρ it = .it o g) (ho : h.ito o g = some (esF kF vF R, cur))
    (h0 : R = [] → L P r fs (St.put ⟨ρ, h⟩ d (.tup [.fv (.bool false)]) h) Q)
    (h1 : ∀ i a b, R[i]? = some (a, b) → L P r fs (St.put ⟨ρ, h.set o (.iter (esF kF vF (R.eraseIdx i)) (some (kF a, vF b)))⟩ d (.tup [.fv (.bool true), .fv (kF a), .fv (vF b)]) (h.set o (.iter (esF kF vF (R.eraseIdx i)) (some (kF a, vF b))))) Q) :
    Mp P nm (.next it false) ρ h d r fs Q := by
  refine ⟨o, g, esF kF vF R, cur, hx, ho, fun e => h0 (by simpa [esF] using e), fun i k y hi => ?_⟩
  simp only [esF, List.getElem?_map, Option.map_eq_some_iff] at hi
  obtain ⟨⟨a, b⟩, h2, h3⟩ := hi
  simp only [Prod.mk.injEq] at h3
  obtain ⟨rfl, rfl⟩ := h3
  have e : (esF kF vF R).eraseIdx i = esF kF vF (R.eraseIdx i) := by
    unfold esF
    exact erase_map _ R i
  rw [e]
  exact h1 i a b h2
theorem mpEntryOf {it : Operand} {o g : Nat} {l : List (FV × FV)} {k y : FV} (hx : evL ρ it = .it o g) (ho : h.ito o g = some (l, some (k, y))) (hq : L P r fs (St.put ⟨ρ, h⟩ d (.tup [.fv k, .fv y]) h) Q) : Mp P nm (.entry it) ρ h d r fs Q :=
  ⟨o, g, l, k, y, hx, ho, hq⟩
theorem mpMake {t n : Nat} (hq : L P r fs (St.put ⟨ρ, h.new n (.map false [])⟩ d (.mp n (h.gen n + 1)) (h.new n (.map false []))) Q) : Mp P (some n) (.makeMap t none) ρ h d r fs Q := ⟨n, rfl, hq⟩
end
@[go_sem] theorem mapOf_fv (h : AH) (es : List (FV × FV)) : mapOf h (.fv (.map es)) = some es := rfl
@[go_sem] theorem mapOf_mp (h : AH) (o g : Nat) : mapOf h (.mp o g) = (h.mpo o g).map (·.2) := rfl
theorem int_inj (a b : Int) (h : FV.int a = FV.int b) : a = b := by simpa using h
def pF (p : Int × Int) : FV := .agg [.int p.1, .int p.2]
theorem pF_inj (a b : Int × Int) (h : pF a = pF b) : a = b := by
  obtain ⟨a1, a2⟩ := a; obtain ⟨b1, b2⟩ := b
  simpa [pF] using h
def FV.toP : FV → Int × Int
  | .agg [.val (.int _ a), .val (.int _ b)] => (a, b)
  | _ => (0, 0)
theorem toP_pF (p : Int × Int) : FV.toP (pF p) = p := rfl
theorem pF_elem (l : List (Int × Int)) : ∀ x ∈ l.map pF, Elem true 2 x := map_elem _ fun _ => ⟨rfl, rfl⟩
theorem pF_any (l : List (Int × Int)) (p : Int × Int → Bool) : (l.map pF).any (fun x => p x.toP) = l.any p := by
  induction l with
  | nil => rfl
  | cons x l ih => simp only [List.map_cons, List.any_cons, toP_pF, ih]
def FV.toL : FV → List Int
  | .list _ xs => xs.map FV.toI
  | _ => []
theorem toI_ints (l : List Int) : (ints l).map FV.toI = l := by
  induction l with
  | nil => rfl
  | cons x l ih => simp only [ints, List.map_cons] at ih ⊢; rw [ih]; rfl
theorem toL_ls {s : FV} {l : List Int} (h : lsOf s = some (ints l)) : s.toL = l := by
  rcases ls_cases h with ⟨f, rfl⟩ | ⟨rfl, e⟩
  · exact toI_ints l
  · cases l with
    | nil => rfl
    | cons => simp [ints] at e
attribute [go_sem] Nat.mul_one List.length_map ints_length Int.lt_irrefl List.getElem?_map gt_iff_lt ge_iff_le
theorem index_map {P : Program} {α : Type} {f : α → FV} {s : FV} {xs : List α} (hs : lsOf s = some (xs.map f)) {H : AH} {t e n : Nat} {agg : Bool} (ht : idx P t = some (none, e, agg, n)) {k : Nat} {x : α} (hk : xs[k]? = some x) (hx : (f x).cells.length = n) :
    indexA P H t (.fv s) (k : Int) = some (.fv (.ptr (f x).cells)) := index_ls hs ht (by simp [hk]) hx
theorem drop_get {α : Type} {l : List α} {k : Nat} {x : α} (h : l[k]? = some x) : l.drop k = x :: l.drop (k + 1) := by
  obtain ⟨h1, rfl⟩ := List.getElem?_eq_some_iff.1 h
  exact List.drop_eq_getElem_cons h1
section
variable {P : Program} {c : SC} {fs : List Fr} {Q : Exit → St → Prop} {σ : St} {α β : Type}
def NxtL (I : List α → Nat → β → Prop) (J : Nat → β → (Nat → LV) → AH → Prop) (n : Nat) (l : List Nat) (no : Nat) (lo : List Nat) (σ : St) (ys : List α) (k : Nat) (σ' : St) : Prop :=
  ∃ b', I ys (k + 1) b' ∧ OffR n l σ.ρ σ'.ρ ∧ OffH no lo σ.h σ'.h ∧ J (k + 1) b' σ'.ρ σ'.h
theorem nxtL {I : List α → Nat → β → Prop} {J : Nat → β → (Nat → LV) → AH → Prop} {n no : Nat} {l lo : List Nat} {σ σ' : St} {ys : List α} {k : Nat} (b' : β) (h : I ys (k + 1) b') (h3 : OffR n l σ.ρ σ'.ρ ∧ OffH no lo σ.h σ'.h ∧ J (k + 1) b' σ'.ρ σ'.h) : NxtL I J n l no lo σ ys k σ' :=
  ⟨b', h, h3.1, h3.2.1, h3.2.2⟩
theorem lpL (n : Nat) (l : List Nat) (no : Nat) (lo : List Nat) (xs : List α) (hl : xs.length ≤ 9223372036854775807) (I : List α → Nat → β → Prop) (J : Nat → β → (Nat → LV) → AH → Prop) (b : β) (hI : I xs 0 b) (hJ : J 0 b σ.ρ σ.h)
    (hend : ∀ b ρ h, I [] xs.length b → J xs.length b ρ h → W P c [] ⟨hav n l σ.ρ ρ, havH no lo σ.h h⟩ (LpI P (fun _ => False) fs Q))
    (hstep : ∀ x ys k b ρ h, xs[k]? = some x → k < xs.length → x ∈ xs → ((k : Int) < (xs.length : Nat)) → IntKind.i64.wrap ((k : Int) + 1) = ((k + 1 : Nat) : Int) → I (x :: ys) k b → J k b ρ h →
      W P c [] ⟨hav n l σ.ρ ρ, havH no lo σ.h h⟩ (LpI P (NxtL I J n l no lo σ ys k) fs Q)) : Lp P c fs σ Q := by
  refine lpH n l no lo (fun a : List α × Nat × β => a.1.length) (fun a => xs.drop a.2.1 = a.1 ∧ a.2.1 ≤ xs.length ∧ I a.1 a.2.1 a.2.2) (fun a => J a.2.1 a.2.2) (xs, 0, b) ⟨rfl, Nat.zero_le _, hI⟩ hJ ?_
  rintro ⟨ys, k, b⟩ ρ h ⟨e1, e2, h1⟩ h2
  dsimp only at e1 e2 h1 h2
  cases ys with
  | nil =>
    have : k = xs.length := by have := drop_end e1; omega
    subst this
    refine aWp_mono c (fun e σ' hq => ?_) (show aWp P c _ (LpI P (fun _ => False) fs Q) from hend b ρ h h1 h2)
    cases e <;> first | exact hq.elim | exact hq
  | cons x ys =>
    obtain ⟨d1, d2, d3, d4⟩ := drop_tail e1
    refine aWp_mono c (fun e σ' hq => ?_) (show aWp P c _ (LpI P (NxtL I J n l no lo σ ys k) fs Q) from hstep x ys k b ρ h d2 d3 d4 (by exact_mod_cast d3) (wr _ (by omega) (by omega)) h1 h2)
    cases e <;> first | exact hq | skip
    obtain ⟨b', g1, g2, g3, g4⟩ := hq
    exact ⟨(ys, k + 1, b'), Nat.lt_succ_self _, ⟨d1, d3, g1⟩, g2, g3, g4⟩
end
theorem callV {P : Program} {nm : Option Nat} {f : Nat} {cs : List FV} {args : List LV} {h : AH} {d : Option Nat} {r : List SO} {fs : List Fr} {ρ : Nat → LV} {Q : Exit → St → Prop} (os : List Nat) (own : Bool) (as : List Arg) {rv : RV}
    (hF : Fn P f (as ++ cs.map .fo) rv) (ha : argsOf P (fun _ => own) (h.frzObjs os) args as) (ho : own = false ∨ rv.shallow = true)
    (hk : L P r fs (St.put ⟨ρ, (impR (h.frzObjs os) nm rv).2⟩ d (impR (h.frzObjs os) nm rv).1 (impR (h.frzObjs os) nm rv).2) Q) : Cl' P nm (.fv (.clos f cs)) args h d r fs ρ Q :=
  .inl ⟨os, own, as, rv, ha, hF, ho, hk⟩
/-! Three cells, an array of integers, and more. -/
def gI (arr : List Int) (i : Int) : Int := arr.getD i.toNat 0
section
variable {a b c : LV} {r : List LV} {arr : List Int} {k : Nat}
theorem arr_get (hk : k < arr.length) : partL false 1 (List.drop (3 + k) (a :: b :: c :: (arr.map (fun n => LV.fv (.int n)) ++ r))) = some (.fv (.int (arr.getD k 0))) := by
  refine partL_get ?_
  rw [show 3 + k = k + 1 + 1 + 1 by omega]
  simp only [List.getElem?_cons_succ]
  rw [List.getElem?_append_left (by simpa using hk)]
  simp [List.getElem?_map, List.getD, List.getElem?_eq_getElem hk]
theorem arr_last' {m : LV} (hl : arr.length = k) : partL false 1 (List.drop k (arr.map (fun n => LV.fv (.int n)) ++ m :: r)) = some m := by
  refine partL_get ?_
  rw [List.getElem?_append_right (by simp; omega)]
  simp [hl]
theorem arr_set {v : Int} (hk : k < arr.length) : splice (a :: b :: c :: (arr.map (fun n => LV.fv (.int n)) ++ r)) (3 + k) [LV.fv (.int v)] = a :: b :: c :: ((arr.set k v).map (fun n => LV.fv (.int n)) ++ r) := by
  have e : 3 + k = k + 1 + 1 + 1 := by omega
  unfold splice
  rw [e]
  simp only [List.take_succ_cons, List.length_singleton, List.drop_succ_cons, List.cons_append]
  congr 3
  rw [List.take_append_of_le_length (by simp; omega), List.drop_append_of_le_length (by simp; omega), List.set_eq_take_append_cons_drop, if_pos hk]
  simp [List.map_take, List.map_drop]
end
theorem mapO_append (f : LV → Option FV) (xs ys : List LV) : mapO f (xs ++ ys) = (mapO f xs).bind fun a => (mapO f ys).map (a ++ ·) := by
  induction xs with
  | nil => simp only [List.nil_append, mapO, Option.bind_some]; cases mapO f ys <;> rfl
  | cons x xs ih =>
    simp only [List.cons_append, mapO, ih]
    cases f x with
    | none => rfl
    | some y =>
      simp only [Option.bind_some]
      cases mapO f xs with
      | none => rfl
      | some z =>
        simp only [Option.bind_some, Option.map_some]
        cases mapO f ys <;> rfl
theorem mapO_ints (own : Nat → Bool) (h : AH) (n : Nat) (arr : List Int) : mapO (peek own h (n + 1)) (arr.map (fun n => LV.fv (.int n))) = some (arr.map .int) := by
  induction arr with
  | nil => rfl
  | cons x xs ih => simp only [List.map_cons, mapO, ih]; rfl
def AccRep (h : AH) (v : LV) (n e es : Nat) (acc : List FV) : Prop := (acc = [] ∧ v = .fv .nil) ∨ (v = .gl n (h.gen n) ∧ h.obj n = some (.list e es false false acc) ∧ acc ≠ [])
theorem app_acc {P : Program} {fs : List Fr} {Q : Exit → St → Prop} {d : Option Nat} {r : List SO} {t e es n : Nat} {agg : Bool} {acc ys : List FV} {v y : LV} {h : AH} {ρ : Nat → LV} (ha : AccRep h v n e es acc) (h2 : idx P t = some (none, e, agg, es)) (h0 : 0 < es) (h3 : elemsOf h y = some ys) (hne : ys ≠ []) (h4 : ∀ x ∈ ys, x.cells.length = es)
    (h5 : (zeros P e).isSome = true) (h6 : (acc.length + ys.length) * P.bytesOf e ≤ 140737488355328) (h7 : acc.length + ys.length ≤ maxLen) (hy : y ≠ .fv .nil)
    (hk : L P r fs (St.put ⟨ρ, h.new n (.list e es false false (acc ++ ys))⟩ d (.gl n (h.gen n + 1)) (h.new n (.list e es false false (acc ++ ys)))) Q) : App P t v y h (some n) d r fs ρ Q := by
  rcases ha with ⟨rfl, rfl⟩ | ⟨rfl, ho, hn⟩
  · refine app_nil h2 h0 h3 h4 h5 (by simpa using h6) (by simpa using h7) ?_
    have : ys.isEmpty = false := by simpa using hne
    rw [this]
    exact hk
  · refine app_gl (nil := false) (by simp [AH.lst, ho]) h2 h3 h4 h5 h6 h7 hy ?_
    exact hk
theorem AccRep.frz {h : AH} {v : LV} {n e es : Nat} {acc : List FV} (ha : AccRep h v n e es acc) (own : Nat → Bool) (ho : own n = true) (m : Nat) : peek own h (m + 1) v = some (lstN acc) := by
  rcases ha with ⟨rfl, rfl⟩ | ⟨rfl, h1, hn⟩
  · rfl
  · have : acc.isEmpty = false := by simpa using hn
    simp [peek, AH.lst, h1, ho, lstN, this]
theorem AccRep.one {h : AH} {v : LV} {n e es : Nat} {acc : List FV} (ha : AccRep h v n e es acc) : v.one = true ∧ v.cells = [v] := by
  rcases ha with ⟨rfl, rfl⟩ | ⟨rfl, h1, hn⟩ <;> exact ⟨rfl, rfl⟩
def Lists (s : FV) (W : List (List Int)) : Prop := ∃ wl : List FV, lsOf s = some wl ∧ wl.map FV.toL = W ∧ ∀ x ∈ wl, ∃ l : List Int, lsOf x = some (ints l) ∧ l.length ≤ 9223372036854775807
theorem ls_elem {x : FV} {xs : List FV} (h : lsOf x = some xs) : Elem false 1 x := by rcases ls_cases h with ⟨f, rfl⟩ | ⟨rfl, _⟩ <;> exact ⟨rfl, rfl⟩
/-! Arrays of integers. -/
section
variable {r : List LV} {fr : List FV} {arr : List Int} {k n : Nat}
@[go_sem] theorem map_fv_int (arr : List Int) : List.map LV.fv (List.map FV.int arr) = List.map (fun n => LV.fv (.int n)) arr := by simp
@[go_sem] theorem all_li (arr : List Int) : (List.map (fun n => LV.fv (.int n)) arr).all LV.one = true := by simp [LV.one, FV.one]
theorem arr_get0 (hk : k < arr.length) : partL false 1 (List.drop k (arr.map (fun n => LV.fv (.int n)))) = some (.fv (.int (arr.getD k 0))) :=
  partL_get (by simp [List.getElem?_map, List.getD, List.getElem?_eq_getElem hk])
theorem arr_set0 {v : Int} (hk : k < arr.length) : splice (arr.map (fun n => LV.fv (.int n))) k [LV.fv (.int v)] = (arr.set k v).map (fun n => LV.fv (.int n)) := by
  unfold splice
  rw [List.set_eq_take_append_cons_drop, if_pos hk]
  simp [List.map_take, List.map_drop]
theorem arr_all {cs : List LV} (hl : cs.length = arr.length) : splice cs 0 (arr.map (fun n => LV.fv (.int n))) = arr.map (fun n => LV.fv (.int n)) := by
  simp [splice, hl]
theorem unFV_ints (arr : List Int) : unFV (arr.map (fun n => LV.fv (.int n))) = some (arr.map .int) := by
  induction arr with
  | nil => rfl
  | cons x xs ih => simp only [List.map_cons, unFV, ih]; rfl
theorem arr_load (hl : arr.length = n) (h0 : n ≠ 0) : partL true n (arr.map (fun n => LV.fv (.int n))) = some (.fv (.agg (arr.map .int))) := by
  cases arr with
  | nil => simp at hl; omega
  | cons x xs =>
    have h1 : ((x :: xs).map fun n => LV.fv (.int n)).take n = (x :: xs).map fun n => LV.fv (.int n) := List.take_of_length_le (by simp at hl ⊢; omega)
    have h2 := unFV_ints (x :: xs)
    simp only [List.map_cons] at h1 h2 ⊢
    rw [partL_agg, if_pos (by simp at hl ⊢; omega), h1]
    unfold mkAgg
    rw [h2]
theorem farr_get (hk : k < arr.length) : partF false 1 (List.drop k (arr.map .int ++ fr)) = some (.fv (.int (arr.getD k 0))) := by
  refine partF_get ?_
  rw [List.getElem?_append_left (by simpa using hk)]
  simp [List.getElem?_map, List.getD, List.getElem?_eq_getElem hk]
theorem farr_get0 (hk : k < arr.length) : partF false 1 (List.drop k (arr.map .int)) = some (.fv (.int (arr.getD k 0))) :=
  partF_get (by simp [List.getElem?_map, List.getD, List.getElem?_eq_getElem hk])
theorem farr_last {m : FV} (hl : arr.length = k) : partF false 1 (List.drop k (arr.map .int ++ m :: fr)) = some (.fv m) := by
  refine partF_get ?_
  rw [List.getElem?_append_right (by simp; omega)]
  simp [hl]
end
def addAt (p : List Int) (j v : Int) : List Int := p.set j.toNat (p.getD j.toNat 0 + v)
theorem addAt_len (p : List Int) (j v : Int) : (addAt p j v).length = p.length := by simp [addAt]
theorem gI_addAt {p : List Int} {i j v : Int} (h1 : 0 ≤ j) (h2 : j < p.length) (h3 : 0 ≤ i) : gI (addAt p j v) i = if i = j then gI p j + v else gI p i := by
  unfold gI addAt
  simp only [List.getD_eq_getElem?_getD]
  by_cases e : i = j
  · subst e
    rw [if_pos rfl, List.getElem?_set_self (by omega)]
    rfl
  · rw [if_neg e, List.getElem?_set_ne (by omega)]
theorem gI_get {p : List Int} {i : Int} (h1 : 0 ≤ i) (h2 : i < p.length) : p[i.toNat]? = some (gI p i) := by
  unfold gI
  have : i.toNat < p.length := by omega
  simp [List.getD, List.getElem?_eq_getElem this]
theorem not_any {α : Type} {p : α → Bool} {l : List α} (h : l.any p = false) {x : α} (hx : x ∈ l) : p x = false := by
  cases e : p x
  · rfl
  · rw [List.any_eq_true.2 ⟨x, hx, e⟩] at h; exact h
theorem ret_own {o g e es : Nat} {nil : Bool} {xs : List FV} {h : AH} (h1 : h.gen o ≠ 0) (h2 : h.lst o g = some (e, es, false, nil, xs)) : retF (.one (.own e es nil xs)) [.gl o g] h := ⟨fun _ => false, .inl ⟨o, g, rfl, rfl, h1, h2⟩⟩
def mx (a b : Int) : Int := if a < b then b else a
def maxN (f : Nat → Int) : Nat → Int
  | 0 => 0
  | n + 1 => mx (maxN f n) (f n)
theorem maxN_nn (f : Nat → Int) : ∀ n, 0 ≤ maxN f n
  | 0 => Int.le_refl _
  | n + 1 => by have := maxN_nn f n; unfold maxN mx; split <;> omega
theorem maxN_le (f : Nat → Int) : ∀ n i, i < n → f i ≤ maxN f n
  | 0, i, h => by omega
  | n + 1, i, h => by
    unfold maxN mx
    by_cases e : i = n
    · subst e; split <;> omega
    · have := maxN_le f n i (by omega)
      split <;> omega
theorem maxN_is (f : Nat → Int) : ∀ n, maxN f n = 0 ∨ ∃ i, i < n ∧ f i = maxN f n
  | 0 => .inl rfl
  | n + 1 => by
    unfold maxN mx
    split
    · exact .inr ⟨n, by omega, rfl⟩
    · rcases maxN_is f n with h | ⟨i, h1, h2⟩
      · exact .inl h
      · exact .inr ⟨i, by omega, h2⟩
end Abs

