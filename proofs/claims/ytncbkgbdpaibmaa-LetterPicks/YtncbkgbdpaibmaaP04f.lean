/- A part of the proof: P04f. -/
import Derived.Test.YtncbkgbdpaibmaaH04h
set_option linter.unusedVariables false
set_option linter.unusedSimpArgs false
namespace S04
open Go Abs
/-! All lists of plates. -/
def pkG (f : List Int → List (List Int)) (need : Int) (b : List Int) : List Int → Nat → List (List Int)
  | [], _ => []
  | n :: ns, i => (if b.contains (i : Int) = false ∧ need ≤ n then f (b ++ [(i : Int)]) else []) ++ pkG f need b ns (i + 1)
def Cs.pks (c : Cs) (pl : List Int) : List (List Int) → List Int → List (List Int)
  | [], b => [b]
  | w :: ws, b => pkG (c.pks pl ws) (c.nd w) b pl 0
def longF (pl : List Int) : List Int → Int
  | [] => 0
  | x :: xs => gI pl x + longF pl xs
theorem longF_app (pl : List Int) : ∀ a b : List Int, longF pl (a ++ b) = longF pl a + longF pl b
  | [], b => by simp [longF]
  | x :: a, b => by simp [longF, longF_app pl a b, Int.add_assoc]
def upd3 (pl : List Int) (b : Option (List Int × Int)) (l : List Int) : Option (List Int × Int) := match b with
  | none => some (l, longF pl l)
  | some x => if longF pl l < x.2 then some (l, longF pl l) else some x
theorem pkG_mem {f : List Int → List (List Int)} {need : Int} {b : List Int} {Pr : List Int → Prop} (N : Nat) (hf : ∀ i : Nat, i < N → ∀ x ∈ f (b ++ [(i : Int)]), Pr x) : ∀ (ns : List Int) (i : Nat), i + ns.length ≤ N → ∀ x ∈ pkG f need b ns i, Pr x
  | [], i, _, x, h => by simp [pkG] at h
  | n :: ns, i, hl, x, h => by
    simp only [List.length_cons] at hl
    simp only [pkG, List.mem_append] at h
    rcases h with h | h
    · split at h
      · exact hf i (by omega) x h
      · simp at h
    · exact pkG_mem N hf ns (i + 1) (by omega) x h
theorem gI_pl {pl : List Int} (hp : ∀ x ∈ pl, 1 ≤ x ∧ x ≤ 400) {i : Nat} (h : i < pl.length) : 1 ≤ gI pl (i : Nat) ∧ gI pl (i : Nat) ≤ 400 := by
  have := gI_get (p := pl) (i := (i : Int)) (by omega) (by omega)
  exact hp _ (List.mem_of_getElem? this)
theorem pks_long {c : Cs} {pl : List Int} (hp : ∀ x ∈ pl, 1 ≤ x ∧ x ≤ 400) : ∀ (ws : List (List Int)) (b : List Int), ∀ x ∈ c.pks pl ws b, longF pl b ≤ longF pl x ∧ x.length = b.length + ws.length ∧ ∀ y ∈ x, y ∈ b ∨ (0 ≤ y ∧ y < pl.length)
  | [], b, x, h => by
    simp only [Cs.pks, List.mem_singleton] at h
    subst h
    exact ⟨Int.le_refl _, by simp, fun y hy => .inl hy⟩
  | w :: ws, b, x, h => by
    refine pkG_mem (f := c.pks pl ws) (b := b) (need := c.nd w) (Pr := fun x => longF pl b ≤ longF pl x ∧ x.length = b.length + (w :: ws).length ∧ ∀ y ∈ x, y ∈ b ∨ (0 ≤ y ∧ y < pl.length)) pl.length (fun i hi x hx => ?_) pl 0 (by omega) x h
    obtain ⟨h1, h2, h3⟩ := pks_long hp ws (b ++ [(i : Int)]) x hx
    have g := gI_pl hp hi
    rw [longF_app] at h1
    simp only [longF] at h1
    refine ⟨by omega, by simp at h2 ⊢; omega, fun y hy => ?_⟩
    rcases h3 y hy with h | h
    · rcases List.mem_append.1 h with h | h
      · exact .inl h
      · simp at h; subst h; exact .inr ⟨by omega, by omega⟩
    · exact .inr h
theorem pks_len {c : Cs} {pl : List Int} (hl : pl.length ≤ 6) : ∀ (ws : List (List Int)) (b : List Int), (c.pks pl ws b).length ≤ 6 ^ ws.length
  | [], b => by simp [Cs.pks]
  | w :: ws, b => by
    have key : ∀ (ns : List Int) (i : Nat), (pkG (c.pks pl ws) (c.nd w) b ns i).length ≤ ns.length * 6 ^ ws.length := by
      intro ns
      induction ns with
      | nil => intro i; simp [pkG]
      | cons n ns ih =>
        intro i
        have h1 := ih (i + 1)
        have h2 := pks_len (c := c) hl ws (b ++ [(i : Int)])
        simp only [pkG, List.length_append, List.length_cons, Nat.add_mul, Nat.one_mul]
        split
        · omega
        · simp; omega
    have h := key pl 0
    have : pl.length * 6 ^ ws.length ≤ 6 * 6 ^ ws.length := Nat.mul_le_mul_right _ hl
    simp only [Cs.pks, List.length_cons, Nat.pow_succ]
    omega
theorem fold_stop {pl : List Int} {x : List Int × Int} : ∀ (L : List (List Int)), (∀ l ∈ L, x.2 ≤ longF pl l) → L.foldl (upd3 pl) (some x) = some x
  | [], _ => rfl
  | l :: L, h => by
    have := h l (by simp)
    rw [List.foldl_cons]
    have : upd3 pl (some x) l = some x := by simp only [upd3]; rw [if_neg (by omega)]
    rw [this]
    exact fold_stop L fun y hy => h y (by simp [hy])
theorem onG_pkG {c : Cs} {pl : List Int} {ws : List (List Int)} {list : List Int} {need : Int} (ih : ∀ (i : Nat) (b : Option (List Int × Int)), i < pl.length → c.on pl ws (list ++ [(i : Int)]) (longF pl (list ++ [(i : Int)])) b = (c.pks pl ws (list ++ [(i : Int)])).foldl (upd3 pl) b) :
    ∀ (ns : List Int) (i : Nat) (b : Option (List Int × Int)), pl.drop i = ns → onG (c.on pl ws) need list (longF pl list) ns i b = (pkG (c.pks pl ws) need list ns i).foldl (upd3 pl) b
  | [], i, b, _ => rfl
  | n :: ns, i, b, hd => by
    obtain ⟨d1, d2, d3, _⟩ := drop_tail hd
    have hg : gI pl (i : Nat) = n := by simp [gI, List.getD, d2]
    rw [onG, pkG, List.foldl_append, onG_pkG ih ns (i + 1) _ d1]
    congr 1
    by_cases h : list.contains (i : Int) = false ∧ need ≤ n
    · rw [if_pos h, if_pos ⟨h.2, h.1⟩, ← ih i b d3, longF_app]
      simp only [longF, hg, Int.add_zero]
    · rw [if_neg h, if_neg (fun e => h ⟨e.2, e.1⟩)]
      rfl
theorem on_pks {c : Cs} {pl : List Int} (hp : ∀ x ∈ pl, 1 ≤ x ∧ x ≤ 400) : ∀ (ws : List (List Int)) (list : List Int) (b : Option (List Int × Int)), c.on pl ws list (longF pl list) b = (c.pks pl ws list).foldl (upd3 pl) b
  | [], list, none => by simp [Cs.on, Cs.pks, stopB, upd3]
  | [], list, some x => by
    by_cases h : x.2 ≤ longF pl list
    · rw [fold_stop _ fun l hl => Int.le_trans h (pks_long hp [] list l hl).1]
      simp [Cs.on, stopB, h]
    · have : longF pl list < x.2 := by omega
      simp [Cs.on, Cs.pks, stopB, h, upd3, this]
  | w :: ws, list, none => by
    simp only [Cs.on, Cs.pks, stopB, Bool.false_eq_true, if_false]
    exact onG_pkG (fun i b _ => on_pks hp ws _ b) pl 0 none rfl
  | w :: ws, list, some x => by
    by_cases h : x.2 ≤ longF pl list
    · rw [fold_stop _ fun l hl => Int.le_trans h (pks_long hp (w :: ws) list l hl).1]
      simp [Cs.on, stopB, h]
    · simp only [Cs.on, Cs.pks, stopB, decide_eq_false h, Bool.false_eq_true, if_false]
      exact onG_pkG (fun i b _ => on_pks hp ws _ b) pl 0 (some x) rfl
def refP (pl : List Int) : List (List Int) → Option (List Int)
  | [] => none
  | l :: L => some (L.foldl (fun b x => if longF pl x < longF pl b then x else b) l)
theorem fold_ref {pl : List Int} : ∀ (L : List (List Int)) (l : List Int), L.foldl (upd3 pl) (some (l, longF pl l)) = some (L.foldl (fun b x => if longF pl x < longF pl b then x else b) l, longF pl (L.foldl (fun b x => if longF pl x < longF pl b then x else b) l))
  | [], l => rfl
  | x :: L, l => by
    rw [List.foldl_cons, List.foldl_cons]
    simp only [upd3]
    split
    · exact fold_ref L x
    · exact fold_ref L l
theorem pk_ref {c : Cs} {W : List (List Int)} {pl : List Int} (hp : ∀ x ∈ pl, 1 ≤ x ∧ x ≤ 400) : (c.pk W pl).map (·.1) = refP pl (c.pks pl W []) := by
  unfold Cs.pk
  have := on_pks (c := c) hp W [] none
  rw [show longF pl [] = 0 from rfl] at this
  rw [this]
  cases c.pks pl W [] with
  | nil => rfl
  | cons l L =>
    rw [List.foldl_cons]
    simp only [upd3, refP]
    rw [fold_ref]
    rfl
end S04

