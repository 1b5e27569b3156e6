/- A part of the proof: Abs5. -/
import Derived.Test.YtncbkgbdpaibmaaAbs3
import Derived.Laws.StructEq
import Derived.Laws.Cover3
set_option linter.unusedSimpArgs false
set_option linter.unusedVariables false
namespace Abs
open Go
open Go.RowKit (Below)
section
variable {P : Program} {cx : Cx} {w : World} {D : Nat → Prop} {h : AH} {an : Nat → Value}
theorem binV_sound {op : BinOp} {t : Nat} {k k' : IntKind} {a b : Int} {v : Value} (hq : binV op (.int k a) (.int k' b) = some v) (w : World) :
    (binOp op t (.int k a) (.int k' b)).run P w = .ok v w := by
  cases op <;> simp only [binV] at hq <;> (try split at hq) <;>
    first
    | (simp at hq; done)
    | (simp only [Option.some.injEq] at hq; subst hq; simp_all [binOp, Op.intArith, Op.intDiv, Op.intBits, Op.intCmp, Op.shift]; done)
    | (simp only [Option.some.injEq] at hq; subst hq; simp_all [binOp, Op.intArith, Op.intDiv, Op.intBits, Op.intCmp, Op.shift]; omega)
theorem Rep.val_inv {v v' : Value} (hr : Rep w D v (.val v')) : v = v' := by cases hr; rfl
theorem eqGuard_nil {op : BinOp} {t : Nat} {x y : Operand} {a b : Value} (h1 : a ≠ .nilIface ∨ b ≠ .nilIface) (h2 : (∀ vs, a ≠ .agg vs) ∨ P.eqGuardType P.depth t = false) (w : World) :
    (eqGuard op t x y a b).run P w = .ok () w := by
  have hm : (match a, b with
      | .nilIface, .nilIface =>
        (if (x matches .const _) || (y matches .const _) then pure () else do
        if ← Op.eqGuardIn Op.maxDepth t a b then unsupported (.noEntry "binop/eql: two nil values of an interface type with methods, neither of them the literal nil") : Sem Unit)
      | .agg _, .agg _ => do
        if !(← program).eqGuardType (← program).depth t then return
        if ← Op.eqGuardIn Op.maxDepth t a b then unsupported (.noEntry "binop/eql: two nil values of an interface type with methods, in a part of a struct or an array")
      | _, _ => pure ()).run P w = .ok () w := by
    split
    · simp at h1
    · rename_i vs us
      rcases h2 with h2 | h2
      · exact absurd rfl (h2 vs)
      · simp [program, Sem.run, h2]
    · rfl
  unfold eqGuard
  cases op <;> first | rfl | exact hm
theorem part_int {t : Nat} {k : IntKind} {vs : Array Value} {i : Nat} {v : Value} (hu : P.underlying t = some (.int k)) (hv : vs[i]? = some v) (w : World) :
    (part t vs i).run P w = .ok v w := by
  simp [part, isAgg, run_underlying hu, hv]
theorem eqFields_run (d : Nat) (vs us : Array Value) : ∀ (fs : List Field) (i : Nat) (xs ys : List FV) (r : Bool), flatFields P i fs = true → xs.length = fs.length →
    (∀ (j : Nat) (y : FV) (v : Value), xs[j]? = some y → vs[i + j]? = some v → Rep w D v y) → (∀ (j : Nat) (y : FV) (v : Value), ys[j]? = some y → us[i + j]? = some v → Rep w D v y) →
    i + xs.length ≤ vs.size → i + ys.length ≤ us.size → eqCells xs ys = some r → (Op.eqFields (d + 1) vs us fs).run P w = .ok r w := by
  intro fs
  induction fs with
  | nil =>
    intro i xs ys r hf hl hx hy h1 h2 he
    have : xs = [] := List.eq_nil_of_length_eq_zero (by simpa using hl)
    subst this
    cases ys with
    | nil => simp [eqCells] at he; subst he; simp [Op.eqFields]
    | cons y ys => simp [eqCells] at he
  | cons f fs ih =>
    intro i xs ys r hf hl hx hy h1 h2 he
    cases xs with
    | nil => simp at hl
    | cons x xs =>
      cases ys with
      | nil => simp [eqCells] at he
      | cons y ys =>
        unfold eqCells at he
        split at he
        · rename_i heq _; simp at heq
        · rename_i k a xs' k' b ys' e1 e2
          simp at e1 e2
          obtain ⟨rfl, rfl⟩ := e1
          obtain ⟨rfl, rfl⟩ := e2
          split at he
          · rename_i hk
            subst hk
            simp only [Option.map_eq_some_iff] at he
            obtain ⟨r', hr', rfl⟩ := he
            simp only [flatFields, Bool.and_eq_true, bne_iff_ne, beq_iff_eq] at hf
            obtain ⟨⟨⟨hn, ho⟩, ht⟩, hrest⟩ := hf
            split at ht
            · rename_i kk hu
              simp only [List.length_cons] at h1 h2
              have hv : vs[i]? = some vs[i] := by simp
              have hu' : us[i]? = some us[i] := by simp
              have e1 := hx 0 (.val (.int k a)) vs[i] rfl hv
              have e2 := hy 0 (.val (.int k b)) us[i] rfl hu'
              have e1 := Rep.val_inv e1
              have e2 := Rep.val_inv e2
              rw [e1] at hv
              rw [e2] at hu'
              have hrec := ih (i + 1) xs ys r' hrest (by simpa using hl) (fun j y v hy' hv' => hx (j + 1) y v (by simpa using hy') (by rw [← hv']; congr 1; omega))
                (fun j y v hy' hv' => hy (j + 1) y v (by simpa using hy') (by rw [← hv']; congr 1; omega)) (by omega) (by omega) hr'
              rw [Op.eqFields]
              simp only [if_pos hn, Sem.run_bind, ho, part_int hu hv, part_int hu hu', Result.andThen_ok, run_equalIn_int (P := P) w d f.type k kk a b hu]
              cases hab : (a == b)
              · simp
              · simpa using hrec
            · simp at ht
          · simp at he
        · simp at he
theorem nilEq_sound (H : Heap P cx h w D an) {t : Nat} {v c : Value} {x : LV} {b : Bool} (hx : LVRep P w D h.gen an v x) (hq : nilEq P h t c x = some b) :
    (Op.equal t v c).run P w = .ok b w ∧ v ≠ .nilIface ∧ (∀ vs, v ≠ .agg vs) ∧ (∀ op, (op = .eql ∨ op = .neq) → binOp op t v c = (do let r ← Op.equal t v c; pure (.bool (if op = .eql then r else !r)))) := by
  have fin : ∀ {v c : Value}, (∀ k n, v ≠ .int k n) → (∀ k n, v ≠ .float k n) → (∀ k n m, v ≠ .complex k n m) → (∀ s, v ≠ .string s) →
      (∀ op, (op = .eql ∨ op = .neq) → binOp op t v c = (do let r ← Op.equal t v c; pure (.bool (if op = .eql then r else !r)))) := by
    intro v c h1 h2 h3 h4 op hop
    rcases hop with rfl | rfl <;> cases v <;> simp_all [binOp]
  unfold nilEq at hq
  split at hq <;> (try (simp at hq; done))
  all_goals (try (simp only [Option.some.injEq] at hq; subst hq))
  · have hu := ‹P.underlying t = some (.slice _)›
    obtain rfl := Rep.val_inv hx.fv_inv
    exact ⟨by simpa using run_equal_slice_nil w t _ none _ _ hu, by simp, by simp, (fin (by simp) (by simp) (by simp) (by simp))⟩
  · have hu := ‹P.underlying t = some (.slice _)›
    cases hx.fv_inv
    all_goals exact ⟨run_equal_slice_nil w t _ _ _ _ hu, by simp, by simp, (fin (by simp) (by simp) (by simp) (by simp))⟩
  · have hu := ‹P.underlying t = some (.slice _)›
    simp only [Option.map_eq_some_iff] at hq
    obtain ⟨⟨e', es, fz, nil, xs⟩, hb, rfl⟩ := hq
    obtain ⟨rfl, ho⟩ := AH.lst_spec hb
    obtain ⟨⟨vs, hown, hnil, hes, hlen, hrep⟩, _⟩ := H.obj _ _ ho
    cases hx with
    | gl _ _ _ hp hg he =>
      have := he rfl
      subst this
      rcases hown.2 with ⟨ha, hz⟩ | ⟨b, cap, cur, ha, _⟩
      · rw [ha]
        have : nil = true := hnil.2 ha
        subst this
        exact ⟨by simpa using run_equal_slice_nil w t _ none _ _ hu, by simp, by simp, (fin (by simp) (by simp) (by simp) (by simp))⟩
      · rw [ha]
        have : nil = false := by cases nil; rfl; simp [ha] at hnil
        subst this
        exact ⟨run_equal_slice_nil w t _ _ _ _ hu, by simp, by simp, (fin (by simp) (by simp) (by simp) (by simp))⟩
  · have hu := ‹P.underlying t = some (.pointer _)›
    obtain rfl := Rep.val_inv hx.fv_inv
    exact ⟨by unfold Op.equal Op.maxDepth Op.equalIn; simp [run_underlying hu], by simp, by simp, (fin (by simp) (by simp) (by simp) (by simp))⟩
  · have hu := ‹P.underlying t = some (.pointer _)›
    obtain ⟨b, off, rfl, _⟩ := hx.fv_inv.ptr_inv
    exact ⟨by unfold Op.equal Op.maxDepth Op.equalIn; simp [run_underlying hu], by simp, by simp, (fin (by simp) (by simp) (by simp) (by simp))⟩
  · have hu := ‹P.underlying t = some (.pointer _)›
    cases hx with
    | ptr _ _ _ _ hp hg he =>
      obtain ⟨b, k, rfl⟩ := hp
      exact ⟨by unfold Op.equal Op.maxDepth Op.equalIn; simp [run_underlying hu], by simp, by simp, (fin (by simp) (by simp) (by simp) (by simp))⟩
  · have hu := ‹P.underlying t = some (.map _ _)›
    obtain rfl := Rep.val_inv hx.fv_inv
    exact ⟨by unfold Op.equal Op.maxDepth Op.equalIn; simp [run_underlying hu], by simp, by simp, (fin (by simp) (by simp) (by simp) (by simp))⟩
  · have hu := ‹P.underlying t = some (.func _ _ _)›
    obtain rfl := Rep.val_inv hx.fv_inv
    exact ⟨by unfold Op.equal Op.maxDepth Op.equalIn; simp [run_underlying hu], by simp, by simp, (fin (by simp) (by simp) (by simp) (by simp))⟩
  · have hu := ‹P.underlying t = some (.func _ _ _)›
    cases hx
    exact ⟨by unfold Op.equal Op.maxDepth Op.equalIn; simp [run_underlying hu], by simp, by simp, (fin (by simp) (by simp) (by simp) (by simp))⟩
  · have hu := ‹P.underlying t = some (.func _ _ _)›
    cases hx.fv_inv
    exact ⟨by unfold Op.equal Op.maxDepth Op.equalIn; simp [run_underlying hu], by simp, by simp, (fin (by simp) (by simp) (by simp) (by simp))⟩
  · have hu := ‹P.underlying t = some (.func _ _ _)›
    cases hx with
    | fn _ _ hf =>
      obtain ⟨f, first, caps, rfl, _⟩ := hf
      exact ⟨by unfold Op.equal Op.maxDepth Op.equalIn; simp [run_underlying hu], by simp, by simp, (fin (by simp) (by simp) (by simp) (by simp))⟩
theorem eqV_sound (H : Heap P cx h w D an) {t : Nat} {v c : Value} {x y : LV} {b : Bool} (hx : LVRep P w D h.gen an v x) (hy : LVRep P w D h.gen an c y) (hq : eqV P h t x y = some b) (op : BinOp) (hop : op = .eql ∨ op = .neq) (ox oy : Operand) :
    (do eqGuard op t ox oy v c; binOp op t v c : Sem Value).run P w = .ok (.bool (if op = .eql then b else !b)) w := by
  unfold eqV at hq
  split at hq
  · rename_i p q
    obtain rfl := Rep.val_inv hx.fv_inv
    obtain rfl := Rep.val_inv hy.fv_inv
    split at hq
    · rename_i hb
      unfold boolTy at hb
      split at hb
      · rename_i hu
        simp only [Option.some.injEq] at hq
        subst hq
        simp only [Sem.run_bind, eqGuard_nil (P := P) (op := op) (t := t) (x := ox) (y := oy) (a := .bool p) (b := .bool q) (.inl (by simp)) (.inl (by simp)), Result.andThen_ok]
        rcases hop with rfl | rfl <;> simp [binOp, run_equal_bool w t p q hu]
      · simp at hb
    · simp at hq
  · rename_i xs ys
    rw [Option.bind_eq_some_iff] at hq
    obtain ⟨n, hn, hq⟩ := hq
    split at hq
    · rename_i hlen
      unfold flatInts at hn
      split at hn
      · rename_i fs hu
        split at hn
        · rename_i hc
          simp only [Bool.and_eq_true, Bool.not_eq_true'] at hc
          obtain ⟨⟨h1, h2⟩, h3⟩ := hc
          simp only [Option.some.injEq] at hn
          have hx' := hx.fv_inv
          have hy' := hy.fv_inv
          cases hx' with
          | agg vs _ hs hone hrep =>
          cases hy' with
          | agg us _ hs' hone' hrep' =>
          have hf : P.fieldsOf t = fs := by simp [Program.fieldsOf, hu]
          have hrun := eqFields_run (P := P) (w := w) (D := D) 9998 vs us fs.toList 0 xs ys b h3 (by simp; omega) (fun j y v h h' => hrep j y v h (by simpa using h')) (fun j y v h h' => hrep' j y v h (by simpa using h')) (by omega) (by omega) hq
          have heq : (Op.equalIn 10000 t (.agg vs) (.agg us)).run P w = .ok b w := by
            rw [run_equalIn_struct (P := P) w 9999 t vs us (by rw [hf]; exact hu) h1, hf]
            exact hrun
          simp only [Sem.run_bind, eqGuard_nil (P := P) (op := op) (t := t) (x := ox) (y := oy) (a := .agg vs) (b := .agg us) (.inl (by simp)) (.inr h2), Result.andThen_ok]
          rcases hop with rfl | rfl
          · rw [run_eql_struct]; simp [heq]
          · rw [run_neq_struct]; simp [heq]
        · simp at hn
      · simp at hn
    · simp at hq
  · rename_i v' _ _
    obtain rfl := Rep.val_inv hy.fv_inv
    obtain ⟨h1, h2, h3, h4⟩ := nilEq_sound H hx hq
    simp only [Sem.run_bind, eqGuard_nil (P := P) (op := op) (t := t) (x := ox) (y := oy) (a := v) (b := c) (.inl h2) (.inl h3), Result.andThen_ok, h4 op hop, h1]
    rfl
  · simp at hq
end
end Abs

