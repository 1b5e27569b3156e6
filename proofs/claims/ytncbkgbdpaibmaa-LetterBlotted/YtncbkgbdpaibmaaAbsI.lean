/- A part of the proof: AbsI. -/
import Derived.Test.YtncbkgbdpaibmaaAbsW
set_option linter.unusedSimpArgs false
set_option linter.unusedVariables false
set_option linter.unusedSectionVars false
namespace Abs
open Go
/-! Common plain definitions, and maps with keys of a type. -/
def inB (a b n : Int) : Bool := !(decide (n < a) || decide (n > b))
theorem inB_iff {a b n : Int} : inB a b n = true ↔ a ≤ n ∧ n ≤ b := by
  simp only [inB, Bool.not_eq_true', Bool.or_eq_false_iff, decide_eq_false_iff_not]
  omega
theorem inB_ok {a b n : Int} (h1 : a ≤ n) (h2 : n ≤ b) : inB a b n = true := inB_iff.2 ⟨h1, h2⟩
def lstN (xs : List FV) : FV := if xs.isEmpty then .nil else .list false xs
theorem lsOf_lstN (xs : List FV) : lsOf (lstN xs) = some xs := by cases xs <;> rfl
theorem ls_one {s : FV} {xs : List FV} (h : lsOf s = some xs) : (LV.fv s).one = true := by rcases ls_cases h with ⟨f, rfl⟩ | ⟨rfl, _⟩ <;> rfl
theorem ls_fone {s : FV} {xs : List FV} (h : lsOf s = some xs) : s.one = true := by rcases ls_cases h with ⟨f, rfl⟩ | ⟨rfl, _⟩ <;> rfl
theorem ls_cells {s : FV} {xs : List FV} (h : lsOf s = some xs) : s.cells = [s] := by rcases ls_cases h with ⟨f, rfl⟩ | ⟨rfl, _⟩ <;> rfl
theorem ls_lcells {s : FV} {xs : List FV} (h : lsOf s = some xs) : (LV.fv s).cells = [.fv s] := by rcases ls_cases h with ⟨f, rfl⟩ | ⟨rfl, _⟩ <;> rfl
theorem partF_get {n : Nat} {cs : List FV} {k : Nat} {v : FV} (h : cs[k]? = some v) : partF false n (cs.drop k) = some (.fv v) := by
  cases e : cs.drop k with
  | nil => have := congrArg (·[0]?) e; simp [h] at this
  | cons x r => have := congrArg (·[0]?) e; simp [h] at this; subst this; rfl
section
variable {α β : Type} [DecidableEq α] (kF : α → FV) (vF : β → FV)
def esF (M : List (α × β)) : List (FV × FV) := M.map fun e => (kF e.1, vF e.2)
def kIdx (M : List (α × β)) (k : α) : Nat := M.findIdx fun e => e.1 == k
def kGet (M : List (α × β)) (k : α) (z : β) : β := (M.lookup k).getD z
def kEnt (M : List (α × β)) (k : α) (z : β) : List (α × β) := if k ∈ M.map Prod.fst then M else M ++ [(k, z)]
def kUp (M : List (α × β)) (k : α) (z v : β) : List (α × β) := (kEnt M k z).map fun e => if e.1 = k then (k, v) else e
theorem lookup_none {M : List (α × β)} {k : α} : M.lookup k = none ↔ k ∉ M.map Prod.fst := by
  induction M with
  | nil => simp
  | cons e M ih =>
    obtain ⟨a, b⟩ := e
    simp only [List.lookup, List.map_cons, List.mem_cons, not_or]
    by_cases h : k = a
    · subst h; simp
    · have : (k == a) = false := by simpa using h
      simp [this, ih, h]
theorem lookup_mem {M : List (α × β)} {k : α} {v : β} (h : M.lookup k = some v) : (k, v) ∈ M := by
  induction M with
  | nil => simp at h
  | cons e M ih =>
    obtain ⟨a, b⟩ := e
    simp only [List.lookup] at h
    split at h
    · rename_i h2
      simp only [beq_iff_eq] at h2
      subst h2
      simp at h; subst h; simp
    · exact List.mem_cons_of_mem _ (ih h)
theorem lookup_of_mem {M : List (α × β)} {k : α} {v : β} (nd : (M.map Prod.fst).Nodup) (h : (k, v) ∈ M) : M.lookup k = some v := by
  induction M with
  | nil => simp at h
  | cons e M ih =>
    obtain ⟨a, b⟩ := e
    simp only [List.map_cons, List.nodup_cons] at nd
    rcases List.mem_cons.1 h with h | h
    · simp at h; obtain ⟨rfl, rfl⟩ := h
      simp [List.lookup]
    · have hne : k ≠ a := fun e => nd.1 (List.mem_map.2 ⟨(k, v), h, e⟩)
      have : (k == a) = false := by simpa using hne
      simp only [List.lookup, this]
      exact ih nd.2 h
theorem kEnt_fst (M : List (α × β)) (k : α) (z : β) : (kEnt M k z).map Prod.fst = if k ∈ M.map Prod.fst then M.map Prod.fst else M.map Prod.fst ++ [k] := by
  unfold kEnt; split <;> simp
theorem kUp_fst (M : List (α × β)) (k : α) (z v : β) : (kUp M k z v).map Prod.fst = (kEnt M k z).map Prod.fst := by
  unfold kUp
  rw [List.map_map]
  congr 1
  funext e
  simp only [Function.comp]
  split
  · rename_i h; exact h.symm
  · rfl
theorem kUp_nodup {M : List (α × β)} (k : α) (z v : β) (nd : (M.map Prod.fst).Nodup) : ((kUp M k z v).map Prod.fst).Nodup := by
  rw [kUp_fst, kEnt_fst]
  split
  · exact nd
  · rename_i h
    refine List.nodup_append.2 ⟨nd, by simp, ?_⟩
    intro a ha b hb
    simp at hb; subst hb
    rintro rfl; exact h ha
theorem kUp_mem {M : List (α × β)} {k : α} {z v : β} {e : α × β} (h : e ∈ kUp M k z v) : e ∈ M ∨ e = (k, v) := by
  unfold kUp at h
  obtain ⟨x, hx, rfl⟩ := List.mem_map.1 h
  split
  · exact .inr rfl
  · rename_i hn
    unfold kEnt at hx
    split at hx
    · exact .inl hx
    · rcases List.mem_append.1 hx with hx | hx
      · exact .inl hx
      · simp at hx; subst hx; exact absurd rfl hn
theorem kUp_keys {M : List (α × β)} {k k' : α} {z v : β} : k' ∈ (kUp M k z v).map Prod.fst ↔ k' = k ∨ k' ∈ M.map Prod.fst := by
  rw [kUp_fst, kEnt_fst]
  split
  · rename_i h
    constructor
    · exact .inr
    · rintro (rfl | h') <;> assumption
  · simp only [List.mem_append, List.mem_singleton]
    exact Or.comm
theorem kUp_lookup {M : List (α × β)} {k k' : α} {z v : β} (nd : (M.map Prod.fst).Nodup) : (kUp M k z v).lookup k' = if k' = k then some v else M.lookup k' := by
  have nd' := kUp_nodup k z v nd
  by_cases h : k' = k
  · subst h
    rw [if_pos rfl]
    refine lookup_of_mem nd' ?_
    unfold kUp
    have hin : k' ∈ (kEnt M k' z).map Prod.fst := by
      rw [kEnt_fst]; split <;> simp_all
    obtain ⟨e, he, rfl⟩ := List.mem_map.1 hin
    exact List.mem_map.2 ⟨e, he, by simp⟩
  · rw [if_neg h]
    cases hl : M.lookup k' with
    | none =>
      rw [lookup_none] at hl ⊢
      rw [kUp_keys]
      simp [h, hl]
    | some w =>
      refine lookup_of_mem nd' ?_
      have hm := lookup_mem hl
      unfold kUp
      refine List.mem_map.2 ⟨(k', w), ?_, by simp [h]⟩
      unfold kEnt
      split
      · exact hm
      · exact List.mem_append_left _ hm
theorem kGet_up {M : List (α × β)} {k k' : α} {z v y : β} (nd : (M.map Prod.fst).Nodup) : kGet (kUp M k z v) k' y = if k' = k then v else kGet M k' y := by
  unfold kGet
  rw [kUp_lookup nd]
  split <;> rfl
theorem map_set_if {M : List (α × β)} {k : α} {v y : β} {i : Nat} (nd : (M.map Prod.fst).Nodup) (h : M[i]? = some (k, y)) : M.set i (k, v) = M.map fun e => if e.1 = k then (k, v) else e := by
  induction M generalizing i with
  | nil => simp at h
  | cons e M ih =>
    simp only [List.map_cons, List.nodup_cons] at nd
    cases i with
    | zero =>
      simp at h; subst h
      simp only [List.set_cons_zero, List.map_cons, if_true]
      congr 1
      rw [List.map_congr_left (g := id), List.map_id]
      intro a ha
      rw [if_neg]; rfl
      rintro rfl
      exact nd.1 (List.mem_map.2 ⟨a, ha, rfl⟩)
    | succ i =>
      simp only [List.getElem?_cons_succ] at h
      simp only [List.set_cons_succ, List.map_cons]
      rw [ih nd.2 h, if_neg]
      intro e2
      exact nd.1 (e2 ▸ List.mem_map.2 ⟨_, List.mem_of_getElem? h, rfl⟩)
end
section
variable {P : Program} {α β : Type} [DecidableEq α] {kF : α → FV} {vF : β → FV} {nm d : Option Nat} {r : List SO} {fs : List Fr} {ρ : Nat → LV} {h : AH} {Q : Exit → St → Prop}
theorem mpLook {t kt et : Nat} {m x : Operand} {M : List (α × β)} {k : α} {z : β} (ht : mapTy P t = some (kt, et)) (hm : mapOf h (evL ρ m) = some (esF kF vF M)) (hx : evL ρ x = .fv (kF k))
    (inj : ∀ a b, kF a = kF b → a = b) (K : Maps.Keyed P kt) (hk : ∀ e ∈ M, KeyOk P kt (kF e.1)) (hkk : KeyOk P kt (kF k)) (hz : zeroF P et = some (vF z)) (nd : (M.map Prod.fst).Nodup)
    (hq : L P r fs (St.put ⟨ρ, h⟩ d (.fv (vF (kGet M k z))) h) Q) : Mp P nm (.lookup t m x false) ρ h d r fs Q := by
  refine ⟨kt, et, esF kF vF M, kF k, vF z, ht, hm, hx, K, ?_, hkk, hz, ?_, ?_⟩
  · intro e he
    obtain ⟨e', he', rfl⟩ := List.mem_map.1 he
    exact hk e' he'
  · intro y hy
    obtain ⟨⟨a, b⟩, h1, h2⟩ := List.mem_map.1 hy
    simp only [Prod.mk.injEq] at h2
    obtain ⟨h3, rfl⟩ := h2
    obtain rfl := inj _ _ h3
    simp only [kGet, lookup_of_mem nd h1, Option.getD_some] at hq
    exact hq
  · intro hno
    have h1 : k ∉ M.map Prod.fst := by
      intro hin
      obtain ⟨e, he, rfl⟩ := List.mem_map.1 hin
      exact hno (vF e.2) (List.mem_map.2 ⟨e, he, rfl⟩)
    simp only [kGet, lookup_none.2 h1, Option.getD_none] at hq
    exact hq
theorem mpUpd {t kt et o g : Nat} {m x v : Operand} {M : List (α × β)} {k : α} {v' : β} (ht : mapTy P t = some (kt, et)) (hm : evL ρ m = .mp o g) (ho : h.mpo o g = some (false, esF kF vF M)) (hx : evL ρ x = .fv (kF k)) (hv : evL ρ v = .fv (vF v'))
    (inj : ∀ a b, kF a = kF b → a = b) (K : Maps.Keyed P kt) (hk : ∀ e ∈ M, KeyOk P kt (kF e.1)) (hkk : KeyOk P kt (kF k)) (nd : (M.map Prod.fst).Nodup) (z : β)
    (hq : L P r fs (St.put ⟨ρ, h.set o (.map false (esF kF vF (kUp M k z v')))⟩ d .undef (h.set o (.map false (esF kF vF (kUp M k z v'))))) Q) : Mp P nm (.mapUpdate t m x v) ρ h d r fs Q := by
  refine ⟨kt, et, o, g, esF kF vF M, kF k, vF v', ht, hm, ho, hx, hv, K, ?_, hkk, ?_, ?_⟩
  · intro e he
    obtain ⟨e', he', rfl⟩ := List.mem_map.1 he
    exact hk e' he'
  · intro i y0 hi
    simp only [esF, List.getElem?_map, Option.map_eq_some_iff] at hi
    obtain ⟨⟨a, b⟩, h1, h2⟩ := hi
    simp only [Prod.mk.injEq] at h2
    obtain ⟨h3, rfl⟩ := h2
    obtain rfl := inj _ _ h3
    have e3 : kEnt M a z = M := by unfold kEnt; rw [if_pos]; exact List.mem_map.2 ⟨_, List.mem_of_getElem? h1, rfl⟩
    have e4 : (esF kF vF M).set i (kF a, vF v') = esF kF vF (kUp M a z v') := by
      unfold esF kUp
      rw [e3, ← map_set_if (v := v') nd h1, List.map_set]
    rw [e4]
    exact hq
  · intro hno
    have h1 : k ∉ M.map Prod.fst := by
      intro hin
      obtain ⟨e, he, rfl⟩ := List.mem_map.1 hin
      exact hno (vF e.2) (List.mem_map.2 ⟨e, he, rfl⟩)
    have e3 : kEnt M k z = M ++ [(k, z)] := by unfold kEnt; rw [if_neg h1]
    have e4 : esF kF vF (kUp M k z v') = esF kF vF M ++ [(kF k, vF v')] := by
      unfold esF kUp
      rw [e3]
      simp only [List.map_append, List.map_cons, List.map_nil, if_true, List.map_map]
      congr 1
      refine List.map_congr_left fun e he => ?_
      simp only [Function.comp]
      rw [if_neg]
      rintro rfl
      exact h1 (List.mem_map.2 ⟨e, he, rfl⟩)
    rw [← e4]
    exact hq
theorem mpMake {t n : Nat} (hq : L P r fs (St.put ⟨ρ, h.new n (.map false [])⟩ d (.mp n (h.gen n + 1)) (h.new n (.map false []))) Q) : Mp P (some n) (.makeMap t none) ρ h d r fs Q := ⟨n, rfl, hq⟩
end
@[go_sem] theorem mapOf_fv (h : AH) (es : List (FV × FV)) : mapOf h (.fv (.map es)) = some es := rfl
def pF (p : Int × Int) : FV := .agg [.int p.1, .int p.2]
theorem pF_inj (a b : Int × Int) (h : pF a = pF b) : a = b := by
  obtain ⟨a1, a2⟩ := a; obtain ⟨b1, b2⟩ := b
  simpa [pF] using h
def FV.toP : FV → Int × Int
  | .agg [.val (.int _ a), .val (.int _ b)] => (a, b)
  | _ => (0, 0)
def FV.toL : FV → List Int
  | .list _ xs => xs.map FV.toI
  | _ => []
theorem toI_ints (l : List Int) : (ints l).map FV.toI = l := by
  induction l with
  | nil => rfl
  | cons x l ih => simp only [ints, List.map_cons] at ih ⊢; rw [ih]; rfl
theorem toL_ls {s : FV} {l : List Int} (h : lsOf s = some (ints l)) : s.toL = l := by
  rcases ls_cases h with ⟨f, rfl⟩ | ⟨rfl, e⟩
  · exact toI_ints l
  · cases l with
    | nil => rfl
    | cons => simp [ints] at e
attribute [go_sem] Nat.mul_one List.length_map ints_length Int.lt_irrefl List.getElem?_map gt_iff_lt ge_iff_le
theorem index_map {P : Program} {α : Type} {f : α → FV} {s : FV} {xs : List α} (hs : lsOf s = some (xs.map f)) {H : AH} {t e n : Nat} {agg : Bool} (ht : idx P t = some (none, e, agg, n)) {k : Nat} {x : α} (hk : xs[k]? = some x) (hx : (f x).cells.length = n) :
    indexA P H t (.fv s) (k : Int) = some (.fv (.ptr (f x).cells)) := index_ls hs ht (by simp [hk]) hx
section
variable {P : Program} {c : SC} {fs : List Fr} {Q : Exit → St → Prop} {σ : St} {α β : Type}
def NxtL (I : List α → Nat → β → Prop) (J : Nat → β → (Nat → LV) → AH → Prop) (n : Nat) (l : List Nat) (no : Nat) (lo : List Nat) (σ : St) (ys : List α) (k : Nat) (σ' : St) : Prop :=
  ∃ b', I ys (k + 1) b' ∧ OffR n l σ.ρ σ'.ρ ∧ OffH no lo σ.h σ'.h ∧ J (k + 1) b' σ'.ρ σ'.h
theorem nxtL {I : List α → Nat → β → Prop} {J : Nat → β → (Nat → LV) → AH → Prop} {n no : Nat} {l lo : List Nat} {σ σ' : St} {ys : List α} {k : Nat} (b' : β) (h : I ys (k + 1) b') (h3 : OffR n l σ.ρ σ'.ρ ∧ OffH no lo σ.h σ'.h ∧ J (k + 1) b' σ'.ρ σ'.h) : NxtL I J n l no lo σ ys k σ' :=
  ⟨b', h, h3.1, h3.2.1, h3.2.2⟩
theorem lpL (n : Nat) (l : List Nat) (no : Nat) (lo : List Nat) (xs : List α) (hl : xs.length ≤ 9223372036854775807) (I : List α → Nat → β → Prop) (J : Nat → β → (Nat → LV) → AH → Prop) (b : β) (hI : I xs 0 b) (hJ : J 0 b σ.ρ σ.h)
    (hend : ∀ b ρ h, I [] xs.length b → J xs.length b ρ h → W P c [] ⟨hav n l σ.ρ ρ, havH no lo σ.h h⟩ (LpI P (fun _ => False) fs Q))
    (hstep : ∀ x ys k b ρ h, xs[k]? = some x → k < xs.length → x ∈ xs → ((k : Int) < (xs.length : Nat)) → IntKind.i64.wrap ((k : Int) + 1) = ((k + 1 : Nat) : Int) → I (x :: ys) k b → J k b ρ h →
      W P c [] ⟨hav n l σ.ρ ρ, havH no lo σ.h h⟩ (LpI P (NxtL I J n l no lo σ ys k) fs Q)) : Lp P c fs σ Q := by
  refine lpH n l no lo (fun a : List α × Nat × β => a.1.length) (fun a => xs.drop a.2.1 = a.1 ∧ a.2.1 ≤ xs.length ∧ I a.1 a.2.1 a.2.2) (fun a => J a.2.1 a.2.2) (xs, 0, b) ⟨rfl, Nat.zero_le _, hI⟩ hJ ?_
  rintro ⟨ys, k, b⟩ ρ h ⟨e1, e2, h1⟩ h2
  dsimp only at e1 e2 h1 h2
  cases ys with
  | nil =>
    have : k = xs.length := by have := drop_end e1; omega
    subst this
    refine aWp_mono c (fun e σ' hq => ?_) (show aWp P c _ (LpI P (fun _ => False) fs Q) from hend b ρ h h1 h2)
    cases e <;> first | exact hq.elim | exact hq
  | cons x ys =>
    obtain ⟨d1, d2, d3, d4⟩ := drop_tail e1
    refine aWp_mono c (fun e σ' hq => ?_) (show aWp P c _ (LpI P (NxtL I J n l no lo σ ys k) fs Q) from hstep x ys k b ρ h d2 d3 d4 (by exact_mod_cast d3) (wr _ (by omega) (by omega)) h1 h2)
    cases e <;> first | exact hq | skip
    obtain ⟨b', g1, g2, g3, g4⟩ := hq
    exact ⟨(ys, k + 1, b'), Nat.lt_succ_self _, ⟨d1, d3, g1⟩, g2, g3, g4⟩
end
/-! Three cells, an array of integers, and more. -/
def gI (arr : List Int) (i : Int) : Int := arr.getD i.toNat 0
section
variable {a b c : LV} {r : List LV} {arr : List Int} {k : Nat}
end
def AccRep (h : AH) (v : LV) (n e es : Nat) (acc : List FV) : Prop := (acc = [] ∧ v = .fv .nil) ∨ (v = .gl n (h.gen n) ∧ h.obj n = some (.list e es false false acc) ∧ acc ≠ [])
theorem app_acc {P : Program} {fs : List Fr} {Q : Exit → St → Prop} {d : Option Nat} {r : List SO} {t e es n : Nat} {agg : Bool} {acc ys : List FV} {v y : LV} {h : AH} {ρ : Nat → LV} (ha : AccRep h v n e es acc) (h2 : idx P t = some (none, e, agg, es)) (h0 : 0 < es) (h3 : elemsOf h y = some ys) (hne : ys ≠ []) (h4 : ∀ x ∈ ys, x.cells.length = es)
    (h5 : (zeros P e).isSome = true) (h6 : (acc.length + ys.length) * P.bytesOf e ≤ 140737488355328) (h7 : acc.length + ys.length ≤ maxLen) (hy : y ≠ .fv .nil)
    (hk : L P r fs (St.put ⟨ρ, h.new n (.list e es false false (acc ++ ys))⟩ d (.gl n (h.gen n + 1)) (h.new n (.list e es false false (acc ++ ys)))) Q) : App P t v y h (some n) d r fs ρ Q := by
  rcases ha with ⟨rfl, rfl⟩ | ⟨rfl, ho, hn⟩
  · refine app_nil h2 h0 h3 h4 h5 (by simpa using h6) (by simpa using h7) ?_
    have : ys.isEmpty = false := by simpa using hne
    rw [this]
    exact hk
  · refine app_gl (nil := false) (by simp [AH.lst, ho]) h2 h3 h4 h5 h6 h7 hy ?_
    exact hk
theorem AccRep.frz {h : AH} {v : LV} {n e es : Nat} {acc : List FV} (ha : AccRep h v n e es acc) (own : Nat → Bool) (ho : own n = true) (m : Nat) : peek own h (m + 1) v = some (lstN acc) := by
  rcases ha with ⟨rfl, rfl⟩ | ⟨rfl, h1, hn⟩
  · rfl
  · have : acc.isEmpty = false := by simpa using hn
    simp [peek, AH.lst, h1, ho, lstN, this]
theorem AccRep.one {h : AH} {v : LV} {n e es : Nat} {acc : List FV} (ha : AccRep h v n e es acc) : v.one = true ∧ v.cells = [v] := by
  rcases ha with ⟨rfl, rfl⟩ | ⟨rfl, h1, hn⟩ <;> exact ⟨rfl, rfl⟩
def Lists (s : FV) (W : List (List Int)) : Prop := ∃ wl : List FV, lsOf s = some wl ∧ wl.map FV.toL = W ∧ ∀ x ∈ wl, ∃ l : List Int, lsOf x = some (ints l) ∧ l.length ≤ 9223372036854775807
theorem ls_elem {x : FV} {xs : List FV} (h : lsOf x = some xs) : Elem false 1 x := by rcases ls_cases h with ⟨f, rfl⟩ | ⟨rfl, _⟩ <;> exact ⟨rfl, rfl⟩
/-! Arrays of integers. -/
section
variable {r : List LV} {fr : List FV} {arr : List Int} {k n : Nat}
end
def addAt (p : List Int) (j v : Int) : List Int := p.set j.toNat (p.getD j.toNat 0 + v)
theorem gI_get {p : List Int} {i : Int} (h1 : 0 ≤ i) (h2 : i < p.length) : p[i.toNat]? = some (gI p i) := by
  unfold gI
  have : i.toNat < p.length := by omega
  simp [List.getD, List.getElem?_eq_getElem this]
theorem not_any {α : Type} {p : α → Bool} {l : List α} (h : l.any p = false) {x : α} (hx : x ∈ l) : p x = false := by
  cases e : p x
  · rfl
  · rw [List.any_eq_true.2 ⟨x, hx, e⟩] at h; exact h
@[go_sem] theorem retC_own (own : Nat → Bool) (h : AH) (lv : LV) (e es : Nat) (nil : Bool) (xs : List FV) : retC own h lv (.own e es nil xs) = ∃ o g, lv = .gl o g ∧ own o = false ∧ h.gen o ≠ 0 ∧ h.lst o g = some (e, es, false, nil, xs) := rfl
theorem ret_own {o g e es : Nat} {nil : Bool} {xs : List FV} {h : AH} (h1 : h.gen o ≠ 0) (h2 : h.lst o g = some (e, es, false, nil, xs)) : retF (.one (.own e es nil xs)) [.gl o g] h := ⟨fun _ => false, .inl ⟨o, g, rfl, rfl, h1, h2⟩⟩
theorem ret_sub {o g e es j : Nat} {ys : List FV} {h : AH} (h1 : h.gen o ≠ 0) (h2 : h.lst o g = some (e, es, false, false, ys)) (h3 : j ≤ ys.length) : retF (.one (.own e es false (ys.take j))) [.sub o g es 0 j] h := ⟨fun _ => false, .inr ⟨o, g, e, es, j, ys, rfl, rfl, rfl, h1, h3, h2⟩⟩
def mx (a b : Int) : Int := if a < b then b else a
def maxN (f : Nat → Int) : Nat → Int
  | 0 => 0
  | n + 1 => mx (maxN f n) (f n)
end Abs

