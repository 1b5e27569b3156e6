/- A part of the proof: Abs17. -/
import Derived.Test.YtncbkgbdpaibmaaAbs16
set_option linter.unusedSimpArgs false
set_option linter.unusedVariables false
namespace Abs
open Go
open Go.RowKit (Below)
section
variable {P : Program}
theorem map_ev {ev ev' : Operand → LV} {args : Array Operand} (h : ∀ x ∈ args, ev x = ev' x) : args.toList.map ev = args.toList.map ev' :=
  List.map_congr_left fun x hx => h x (by simpa using hx)
theorem quietV_congr {op : Op} {ev ev' : Operand → LV} {h : AH} (hev : ∀ x ∈ op.operands, ev x = ev' x) : quietV P op ev h = quietV P op ev' h := by
  cases op <;> simp only [Op.operands] at hev <;> (try rfl)
  case move x => simp [quietV, hev x (by simp)]
  case pick c a b => simp [quietV, hev c (by simp), hev a (by simp), hev b (by simp)]
  case nilCheck x => simp [quietV, hev x (by simp)]
  case sliceToArrayPointer t x => simp [quietV, hev x (by simp)]
  case load t x => simp [quietV, hev x (by simp)]
  case binOp op t x y t' => simp [quietV, hev x (by simp), hev y (by simp)]
  case unOp op t x => simp [quietV, hev x (by simp)]
  case convert s t x => simp [quietV, hev x (by simp)]
  case makeFunc fn first caps =>
    cases fn <;> simp only [quietV]
    have : caps.toList.map ev = caps.toList.map ev' := map_ev fun x hx => hev x (by simp [hx])
    have h2 : first.toList.map ev = first.toList.map ev' := map_ev fun x hx => hev x (by simp [hx])
    rw [this, h2]
  case fieldAddr t x f => simp [quietV, hev x (by simp)]
  case field t x f => simp [quietV, hev x (by simp)]
  case indexAddr t x i => simp [quietV, hev x (by simp), hev i (by simp)]
  case index t x i => simp [quietV, hev x (by simp), hev i (by simp)]
  case extract t i => simp [quietV, hev t (by simp)]
  case build t parts =>
    have : parts.toList.map (fun p => (p.1, ev p.2)) = parts.toList.map (fun p => (p.1, ev' p.2)) :=
      List.map_congr_left fun p hp => by rw [hev p.2 (by simp; exact ⟨p.1, by simpa using hp⟩)]
    simp only [quietV, this]
  case slice t x lo hi mx =>
    have h1 : ∀ (o : Option Operand) (d : Int), (∀ y, o = some y → ev y = ev' y) → o.elim (some d) (fun o => intOf (ev o)) = o.elim (some d) (fun o => intOf (ev' o)) := by
      intro o d ho
      cases o with
      | none => rfl
      | some y => simp [ho y rfl]
    have h2 : mx.elim (some none) (fun o => (intOf (ev o)).map some) = mx.elim (some none) (fun o => (intOf (ev' o)).map some) := by
      cases mx with
      | none => rfl
      | some y => simp [hev y (by simp)]
    have hlo : ∀ y, lo = some y → ev y = ev' y := fun y e => hev y (by simp [e])
    have hhi : ∀ y, hi = some y → ev y = ev' y := fun y e => hev y (by simp [e])
    have hmx : ∀ y, mx = some y → ev y = ev' y := fun y e => hev y (by simp [e])
    simp only [quietV, hev x (by simp), h1 lo _ hlo, h1 hi _ hhi, h1 mx _ hmx, h2]
  case call c =>
    obtain ⟨callee, args, tys⟩ := c
    cases callee <;> simp only [Call.operands] at hev <;> (try rfl)
    rename_i b
    have hm : args.toList.map ev = args.toList.map ev' := map_ev fun x hx => hev x (by simp [hx])
    cases b <;> simp only [quietV] <;> (try rfl)
    case min => rw [hm]
    case max => rw [hm]
    case len =>
      cases ha : args.toList with
      | nil => rfl
      | cons x l =>
        cases l with
        | nil =>
          have hx : ev x = ev' x := by rw [ha] at hm; simpa using hm
          cases ht : tys.toList with
          | nil => rfl
          | cons t tl =>
            cases tl with
            | nil => simp only [hx]
            | cons => rfl
        | cons y l => rfl
    case cap =>
      cases ha : args.toList with
      | nil => rfl
      | cons x l =>
        cases l with
        | nil =>
          have hx : ev x = ev' x := by rw [ha] at hm; simpa using hm
          cases ht : tys.toList with
          | nil => rfl
          | cons t tl =>
            cases tl with
            | nil => simp only [hx]
            | cons => rfl
        | cons y l => rfl
theorem effV_congr {d : Option Nat} {op : Op} {ty : Nat} {ev ev' : Operand → LV} {h : AH} {K : LV → AH → Prop} (hev : ∀ x ∈ op.operands, ev x = ev' x) (hq : effV P d op ty ev h K) : effV P d op ty ev' h K := by
  cases op <;> simp only [Op.operands] at hev <;> (try exact hq)
  case assign x =>
    have hx := hev x (by simp)
    unfold effV at hq ⊢
    split at hq
    · exact hq
    · rename_i y hy e
      simp only [Op.assign.injEq] at e; subst e
      rw [hx] at hq
      exact hq
    all_goals (rename_i e; first | exact hq.elim | (simp at e; done))
  case box t x =>
    have hx := hev x (by simp)
    simp only [effV, hx] at hq ⊢; exact hq
  case buildSlice t n parts =>
    have : (parts.toList.map fun p => ev p.2) = parts.toList.map fun p => ev' p.2 := List.map_congr_left fun p hp => hev p.2 (by simp; exact ⟨p.1, by simpa using hp⟩)
    simp only [effV, this] at hq ⊢; exact hq
  case makeSlice t l c =>
    simp only [effV, hev l (by simp), hev c (by simp)] at hq ⊢; exact hq
  case store t a x =>
    simp only [effV, hev a (by simp), hev x (by simp)] at hq ⊢; exact hq
  case call c =>
    obtain ⟨callee, args, tys⟩ := c
    cases callee <;> simp only [Call.operands] at hev <;> (try exact hq)
    rename_i b
    have h' : ∀ x ∈ args, ev x = ev' x := fun x hx => hev x (by simp [hx])
    cases b <;> (try exact hq)
    case append =>
      simp only [effV] at hq ⊢
      split at hq
      · rename_i s x t t' ha ht
        have e1 : ev s = ev' s := h' s (by rw [← Array.mem_toList_iff, ha]; simp)
        have e2 : ev x = ev' x := h' x (by rw [← Array.mem_toList_iff, ha]; simp)
        simp only [ha, ht, e1, e2] at hq ⊢; exact hq
      · exact hq.elim
    case copy =>
      simp only [effV] at hq ⊢
      split at hq
      · rename_i s x t tl ha ht
        have e1 : ev s = ev' s := h' s (by rw [← Array.mem_toList_iff, ha]; simp)
        have e2 : ev x = ev' x := h' x (by rw [← Array.mem_toList_iff, ha]; simp)
        simp only [ha, ht, e1, e2] at hq ⊢; exact hq
      · exact hq.elim
theorem mapE_congr {d : Option Nat} {op : Op} {ev ev' : Operand → LV} {h : AH} {K : LV → AH → Prop} (hev : ∀ x ∈ op.operands, ev x = ev' x) (hq : mapE P d op ev h K) : mapE P d op ev' h K := by
  unfold mapE at hq ⊢
  split at hq <;> simp only [Op.operands] at hev <;> (try exact hq)
  · rename_i t m x ok; rw [← hev m (by simp), ← hev x (by simp)]; exact hq
  · rename_i t m x v; rw [← hev m (by simp), ← hev x (by simp), ← hev v (by simp)]; exact hq
  · rename_i t m x; rw [← hev m (by simp), ← hev x (by simp)]; exact hq
  · rename_i t m s v; rw [← hev m (by simp), ← hev s (by simp), ← hev v (by simp)]; exact hq
  · rename_i t x; rw [← hev x (by simp)]; exact hq
  · rename_i it; rw [← hev it (by simp)]; exact hq
  · rename_i it; rw [← hev it (by simp)]; exact hq
theorem stepE_congr {d : Option Nat} {op : Op} {ty : Nat} {ev ev' : Operand → LV} {h : AH} {K : LV → AH → Prop} (hev : ∀ x ∈ op.operands, ev x = ev' x) (hq : stepE P d op ty ev h K) : stepE P d op ty ev' h K := by
  unfold stepE at hq ⊢
  split
  · rename_i f args tys
    simp only at hq
    rw [← hev f (by simp [Op.operands, Call.operands]), ← map_ev (args := args) fun x hx => hev x (by simp [Op.operands, Call.operands, hx])]
    exact hq
  · rename_i op' hne
    split at hq
    · exact (hne _ _ _ rfl).elim
    · split
      · rename_i he; rw [if_pos he] at hq; exact mapE_congr hev hq
      rename_i he'; rw [if_neg he'] at hq
      split
      · rename_i he; rw [if_pos he] at hq; exact effV_congr hev hq
      · rename_i he; rw [if_neg he] at hq; obtain ⟨lv, h1, h2⟩ := hq; exact ⟨lv, by rw [← quietV_congr hev]; exact h1, h2⟩
def isPure : Op → Bool
  | .move _ | .pick .. | .nilCheck _ | .unOp .. | .convert .. | .makeFunc .. | .fieldAddr .. | .field .. | .index .. | .build .. | .extract .. => true
  | .call { callee := .builtin .min, .. } | .call { callee := .builtin .max, .. } => true
  | .binOp op _ _ _ _ => (match op with | .eql | .neq => false | _ => true)
  | _ => false
def isQuiet (op : Op) : Bool := !isEff op && !isCall op && !isMap op
theorem isPure_quiet {op : Op} (hp : isPure op = true) : isQuiet op = true := by
  cases op
  case call c =>
    obtain ⟨callee, args, tys⟩ := c
    cases callee with
    | builtin b => cases b <;> first | rfl | (simp [isPure] at hp; done)
    | _ => simp [isPure] at hp
  all_goals first | rfl | (simp [isPure] at hp; done)
theorem pure_heap {op : Op} (hp : isPure op = true) (ev : Operand → LV) (h h' : AH) : quietV P op ev h = quietV P op ev h' := by
  cases op
  case call c =>
    obtain ⟨callee, args, tys⟩ := c
    cases callee with
    | builtin b => cases b <;> first | rfl | (simp [isPure] at hp; done)
    | _ => simp [isPure] at hp
  case binOp op t x y t' => cases op <;> first | rfl | (simp [isPure] at hp; done)
  case makeFunc fn first caps => cases fn <;> rfl
  all_goals first | rfl | (simp [isPure] at hp; done)
theorem stepE_quiet {d : Option Nat} {op : Op} {ty : Nat} {ev : Operand → LV} {h : AH} {K : LV → AH → Prop} (hq : isQuiet op = true) :
    stepE P d op ty ev h K ↔ ∃ lv, quietV P op ev h = some lv ∧ K lv h := by
  simp only [isQuiet, Bool.and_eq_true, Bool.not_eq_true'] at hq
  unfold stepE
  split
  · simp [isCall] at hq
  · rw [if_neg (by simp [hq.2]), if_neg (by simp [hq.1])]
theorem stepE_some {d : Option Nat} {op : Op} {ty : Nat} {ev : Operand → LV} {h : AH} {K : LV → AH → Prop} (hq : stepE P d op ty ev h K) : ∃ lv h', K lv h' := by
  have hall : ¬ ∀ lv h', ¬ K lv h' := by
    intro hn
    have hF := stepE_mono (K' := fun _ _ => False) (fun lv h hk => hn lv h hk) hq
    clear hq hn
    unfold stepE at hF
    split at hF
    · rcases hF with hF | hF
      case inr => obtain ⟨_, _, hF⟩ := callA_some hF; exact hF
      obtain ⟨os, own, hF⟩ := hF
      split at hF
      · obtain ⟨as, cs, r, _, _, _, _, hF⟩ := hF; exact hF
      · obtain ⟨as, r, _, _, _, hF⟩ := hF; exact hF
      · obtain ⟨xs, r, _, _, _, hF⟩ := hF; exact hF
      · exact hF
    · split at hF
      · obtain ⟨_, _, hF⟩ := mapE_some hF; exact hF
      split at hF
      · unfold effV at hF
        split at hF
        · split at hF
          · exact hF.2
          · exact hF
        · exact hF
        · split at hF
          · exact hF.2.2
          · exact hF
        · split at hF
          · exact hF
          · exact hF
        · split at hF
          · obtain ⟨_, _, _, _, _, _, _, _, hF⟩ := hF; exact hF
          · exact hF
        · split at hF
          · obtain ⟨_, _, _, _, _, _, _, _, hF⟩ := hF; exact hF
          · exact hF
        · split at hF
          · obtain ⟨_, _, _, _, _, hF⟩ := hF; exact hF
          · obtain ⟨_, _, _, _, _, _, _, _, _, _, _, _, hF⟩ := hF; exact hF
          · exact hF
        · split at hF
          · split at hF
            · obtain ⟨_, _, _, _, _, _, _, _, _, _, _, _, _, _, _, _, _, _, hF⟩ := hF; exact hF
            split at hF
            · obtain ⟨_, _, _, _, _, _, hF⟩ := hF; exact hF
            · obtain ⟨_, _, _, _, _, _, _, _, _, _, _, _, hF⟩ := hF; exact hF
            · obtain ⟨_, _, _, _, _, _, _, _, _, _, _, _, hF⟩ := hF; exact hF
            · obtain ⟨_, _, _, _, _, _, _, _, _, _, _, _, hF⟩ := hF; exact hF
            · obtain ⟨_, _, _, _, _, _, _, _, _, _, _, _, _, _, hF⟩ := hF; exact hF
            · exact hF
          · exact hF
        · split at hF
          · split at hF
            · obtain ⟨_, _, _, _, _, _, _, _, _, _, hF⟩ := hF; exact hF
            · exact hF
          · exact hF
        · exact hF
      · obtain ⟨_, _, hF⟩ := hF; exact hF
  exact Classical.byContradiction fun hn => hall fun lv h' hk => hn ⟨lv, h', hk⟩
def SO.looks (o : SO) : List Nat :=
  (o.op.operands.toList.filterMap fun | .tmp t => some t | _ => none) ++ (match o.g with | some (s, _) => [s] | none => [])
def SO.comm (x y : SO) : Bool :=
  (match x.d with | some d => !(y.looks).contains d && y.d != some d | none => true) &&
  (match y.d with | some d => !(x.looks).contains d | none => true) &&
  (isPure x.op || isPure y.op || (isQuiet x.op && isQuiet y.op))
theorem put_comm {σ : St} {d e : Option Nat} {a b : LV} {h h' h'' : AH} (hne : ∀ k, d = some k → e ≠ some k) : (σ.put d a h).put e b h'' = (σ.put e b h').put d a h'' := by
  cases d with
  | none => cases e <;> rfl
  | some d =>
    cases e with
    | none => rfl
    | some e =>
      have : e ≠ d := fun h => hne d rfl (by rw [h])
      simp only [St.put, St.mk.injEq, and_true]
      funext i
      simp only [upd]
      by_cases h1 : i = e
      · subst h1; rw [if_pos rfl, if_neg this, if_pos rfl]
      · by_cases h2 : i = d
        · subst h2; rw [if_neg h1, if_pos rfl, if_pos rfl]
        · rw [if_neg h1, if_neg h2, if_neg h2, if_neg h1]
theorem evL_put {σ : St} {d : Option Nat} {a : LV} {h : AH} {x : Operand} (hx : ∀ k, d = some k → x ≠ .tmp k) : evL (σ.put d a h).ρ x = evL σ.ρ x := by
  cases d with
  | none => rfl
  | some d =>
    cases x with
    | tmp t =>
      have : t ≠ d := fun h => hx d rfl (by rw [h])
      simp [evL, St.put, upd, this]
    | _ => rfl
theorem rho_put {σ : St} {d : Option Nat} {a : LV} {h : AH} {s : Nat} (hx : ∀ k, d = some k → s ≠ k) : (σ.put d a h).ρ s = σ.ρ s := by
  cases d with
  | none => rfl
  | some d => simp [St.put, upd, hx d rfl]
theorem looks_op {o : SO} {k : Nat} (h : k ∉ o.looks) : ∀ x ∈ o.op.operands, x ≠ .tmp k := by
  rintro x hx rfl
  apply h
  unfold SO.looks
  refine List.mem_append_left _ ?_
  rw [List.mem_filterMap]
  exact ⟨.tmp k, by simpa using hx, rfl⟩
def goes (o : SO) (ρ : Nat → LV) : Option Bool :=
  match o.g with
  | none => some true
  | some (s, want) => (match ρ s with | .fv (.val (.bool b)) => some (b == want) | .tup [] => some false | _ => none)
theorem aSO_goes {o : SO} {σ : St} {K : St → Prop} : aSO P o σ K ↔ (goes o σ.ρ = some true ∧ stepE P o.nm o.op o.ty (evL σ.ρ) σ.h (fun lv h' => K (σ.put o.d lv h'))) ∨ (goes o σ.ρ = some false ∧ K (σ.put o.d (.tup []) σ.h)) := by
  unfold aSO goes
  cases o.g with
  | none => simp
  | some g =>
    obtain ⟨s, want⟩ := g
    simp only
    split
    · rename_i b hb
      simp only [hb]
      by_cases e : b = want
      · subst e; simp
      · have : (b == want) = false := by simpa using e
        simp [e, this]
    · rename_i hb; simp [hb]
    · rename_i hne hne2
      split
      · rename_i b hb; exact (hne b hb).elim
      · rename_i hb; exact (hne2 hb).elim
      · simp
def outcome (P : Program) (o : SO) (ρ : Nat → LV) (h : AH) (K : LV → AH → Prop) : Prop :=
  (goes o ρ = some true ∧ stepE P o.nm o.op o.ty (evL ρ) h K) ∨ (goes o ρ = some false ∧ K (.tup []) h)
theorem aSO_outcome {o : SO} {σ : St} {K : St → Prop} : aSO P o σ K ↔ outcome P o σ.ρ σ.h fun lv h' => K (σ.put o.d lv h') := aSO_goes
theorem outcome_mono {o : SO} {ρ : Nat → LV} {h : AH} {K K' : LV → AH → Prop} (hK : ∀ lv h, K lv h → K' lv h) : outcome P o ρ h K → outcome P o ρ h K'
  | .inl ⟨h1, h2⟩ => .inl ⟨h1, stepE_mono hK h2⟩
  | .inr ⟨h1, h2⟩ => .inr ⟨h1, hK _ _ h2⟩
theorem outcome_some {o : SO} {ρ : Nat → LV} {h : AH} {K : LV → AH → Prop} : outcome P o ρ h K → ∃ lv h', K lv h'
  | .inl ⟨_, h2⟩ => stepE_some h2
  | .inr ⟨_, h2⟩ => ⟨_, _, h2⟩
theorem outcome_congr {o : SO} {σ : St} {d : Option Nat} {a : LV} {h h' : AH} {K : LV → AH → Prop} (hd : ∀ k, d = some k → k ∉ o.looks) : outcome P o (σ.put d a h').ρ h K ↔ outcome P o σ.ρ h K := by
  have hop : ∀ x ∈ o.op.operands, evL (σ.put d a h').ρ x = evL σ.ρ x := fun x hx => evL_put fun k hk => looks_op (hd k hk) x hx
  have hg : goes o (σ.put d a h').ρ = goes o σ.ρ := by
    unfold goes
    cases hgo : o.g with
    | none => rfl
    | some g =>
      obtain ⟨s, want⟩ := g
      simp only
      rw [rho_put fun k hk e => ?_]
      apply hd k hk
      unfold SO.looks
      rw [hgo]
      exact List.mem_append_right _ (by simp [e])
  unfold outcome
  rw [hg]
  constructor
  · rintro (⟨h1, h2⟩ | h2)
    · exact .inl ⟨h1, stepE_congr hop h2⟩
    · exact .inr h2
  · rintro (⟨h1, h2⟩ | h2)
    · exact .inl ⟨h1, stepE_congr (fun x hx => (hop x hx).symm) h2⟩
    · exact .inr h2
theorem outcome_quiet {o : SO} (hq : isQuiet o.op = true) {ρ : Nat → LV} {h : AH} {K : LV → AH → Prop} (ho : outcome P o ρ h K) : ∃ lv, K lv h ∧ ∀ K' : LV → AH → Prop, K' lv h → outcome P o ρ h K' := by
  rcases ho with ⟨h1, h2⟩ | ⟨h1, h2⟩
  · obtain ⟨lv, h3, h4⟩ := (stepE_quiet hq).1 h2
    exact ⟨lv, h4, fun K' hK' => .inl ⟨h1, (stepE_quiet hq).2 ⟨lv, h3, hK'⟩⟩⟩
  · exact ⟨_, h2, fun K' hK' => .inr ⟨h1, hK'⟩⟩
theorem outcome_pure {o : SO} (hq : isPure o.op = true) {ρ : Nat → LV} {h : AH} {K : LV → AH → Prop} (ho : outcome P o ρ h K) : ∃ lv, K lv h ∧ ∀ (h' : AH) (K' : LV → AH → Prop), K' lv h' → outcome P o ρ h' K' := by
  rcases ho with ⟨h1, h2⟩ | ⟨h1, h2⟩
  · obtain ⟨lv, h3, h4⟩ := (stepE_quiet (isPure_quiet hq)).1 h2
    exact ⟨lv, h4, fun h' K' hK' => .inl ⟨h1, (stepE_quiet (isPure_quiet hq)).2 ⟨lv, by rw [← pure_heap hq _ h h']; exact h3, hK'⟩⟩⟩
  · exact ⟨_, h2, fun h' K' hK' => .inr ⟨h1, hK'⟩⟩
end
end Abs

