/- A part of the proof: P04p. -/
import Derived.Test.YtncbkgbdpaibmaaP04h
import Derived.Test.YtncbkgbdpaibmaaX04p
set_option linter.unusedVariables false
set_option linter.unusedSimpArgs false
namespace S04
open Go Abs
/-! Words that can have been blotted so. -/
def Agr (n : Nat) : List Int → List Int → Prop
  | [], [] => True
  | x :: w, y :: u => (if x = -1 then 0 ≤ y ∧ y < n else y = x) ∧ Agr n w u
  | _, _ => False
theorem agr_iff {n : Nat} : ∀ (w u : List Int), Agr n w u ↔ ∃ ys, Sq n (blF w 0).length ys ∧ flB w ys = u
  | [], [] => by
    simp only [Agr, true_iff]
    exact ⟨[], ⟨rfl, by simp⟩, rfl⟩
  | [], _ :: _ => by simp [Agr, flB]
  | x :: w, [] => by
    simp only [Agr, false_iff]
    rintro ⟨ys, _, h⟩
    have := congrArg List.length h
    rw [flB_len] at this
    simp at this
  | x :: w, y :: u => by
    have ih := agr_iff (n := n) w u
    simp only [Agr]
    rw [ih]
    by_cases e : x = -1
    · rw [if_pos e, blF, if_pos e, List.length_cons, blF_len w (0 + 1) 0]
      constructor
      · rintro ⟨⟨y0, y1⟩, ys, h1, h2⟩
        refine ⟨y :: ys, Sq.cons h1 y0 y1, ?_⟩
        rw [flB_eq e, h2]
      · rintro ⟨ys, h1, h2⟩
        cases ys with
        | nil => exact absurd h1.1 (by simp)
        | cons z zs =>
          rw [flB_eq e] at h2
          simp only [List.cons.injEq] at h2
          obtain ⟨rfl, h3⟩ := h2
          have := h1.2 z (by simp)
          exact ⟨this, zs, ⟨by have := h1.1; simpa using this, fun q hq => h1.2 q (by simp [hq])⟩, h3⟩
    · rw [if_neg e, blF, if_neg e, blF_len w (0 + 1) 0]
      constructor
      · rintro ⟨rfl, ys, h1, h2⟩
        exact ⟨ys, h1, by rw [flB_ne e, h2]⟩
      · rintro ⟨ys, h1, h2⟩
        rw [flB_ne e] at h2
        simp only [List.cons.injEq] at h2
        exact ⟨h2.1.symm, ys, h1, h2.2⟩
theorem mem_rds {n : Nat} {w u : List Int} : u ∈ rds n w ↔ Agr n w u := by
  rw [agr_iff, rds, List.mem_map]
  constructor
  · rintro ⟨ys, h1, h2⟩; exact ⟨ys, mem_sqs.1 h1, h2⟩
  · rintro ⟨ys, h1, h2⟩; exact ⟨ys, mem_sqs.2 h1, h2⟩
theorem agr_self {n : Nat} : ∀ w : List Int, (∀ x ∈ w, 0 ≤ x ∧ x < n) → Agr n w w
  | [], _ => trivial
  | x :: w, h => by
    have := h x (by simp)
    refine ⟨?_, agr_self w fun y hy => h y (by simp [hy])⟩
    rw [if_neg (by omega)]
theorem agr_set {n : Nat} : ∀ (w u : List Int) (b : Nat), Agr n w u → (∀ x ∈ u, 0 ≤ x ∧ x < n) → Agr n (w.set b (-1)) u
  | [], [], _, _, _ => by simp [Agr]
  | [], _ :: _, _, h, _ => h.elim
  | _ :: _, [], _, h, _ => h.elim
  | x :: w, y :: u, 0, h, hu => by
    rw [List.set_cons_zero]
    exact ⟨by rw [if_pos rfl]; exact hu y (by simp), h.2⟩
  | x :: w, y :: u, b + 1, h, hu => by
    rw [List.set_cons_succ]
    exact ⟨h.1, agr_set w u b h.2 fun z hz => hu z (by simp [hz])⟩
theorem blF_mem : ∀ (w : List Int) (k : Nat) (x : Int), x ∈ blF w k ↔ ∃ i : Nat, x = ((k + i : Nat) : Int) ∧ w[i]? = some (-1)
  | [], k, x => by simp [blF]
  | a :: w, k, x => by
    have ih := blF_mem w (k + 1) x
    rw [blF]
    have tail : (∃ i : Nat, x = ((k + 1 + i : Nat) : Int) ∧ w[i]? = some (-1)) ↔ ∃ i : Nat, x = ((k + (i + 1) : Nat) : Int) ∧ (a :: w)[i + 1]? = some (-1) := by
      simp only [List.getElem?_cons_succ]
      constructor
      · rintro ⟨i, h1, h2⟩; exact ⟨i, by omega, h2⟩
      · rintro ⟨i, h1, h2⟩; exact ⟨i, by omega, h2⟩
    split
    · rename_i e
      rw [List.mem_cons, ih, tail]
      constructor
      · rintro (h | ⟨i, h1, h2⟩)
        · exact ⟨0, by simpa using h, by simp [e]⟩
        · exact ⟨i + 1, h1, h2⟩
      · rintro ⟨i, h1, h2⟩
        cases i with
        | zero => exact .inl (by simpa using h1)
        | succ i => exact .inr ⟨i, h1, h2⟩
    · rename_i e
      rw [ih, tail]
      constructor
      · rintro ⟨i, h1, h2⟩; exact ⟨i + 1, h1, h2⟩
      · rintro ⟨i, h1, h2⟩
        cases i with
        | zero => simp at h2; exact absurd h2 e
        | succ i => exact ⟨i, h1, h2⟩
theorem pw_ext : ∀ (l l' : List Int), l.Pairwise (· < ·) → l'.Pairwise (· < ·) → (∀ x, x ∈ l ↔ x ∈ l') → l = l'
  | [], [], _, _, _ => rfl
  | [], b :: l', _, _, h => by have := (h b).2 (by simp); simp at this
  | a :: l, [], _, _, h => by have := (h a).1 (by simp); simp at this
  | a :: l, b :: l', h1, h2, h => by
    rw [List.pairwise_cons] at h1 h2
    have e : a = b := by
      have ha := (h a).1 (by simp)
      have hb := (h b).2 (by simp)
      rcases List.mem_cons.1 ha with h3 | h3
      · exact h3
      · rcases List.mem_cons.1 hb with h4 | h4
        · exact h4.symm
        · have := h1.1 b h4; have := h2.1 a h3; omega
    subst e
    congr 1
    refine pw_ext l l' h1.2 h2.2 fun x => ?_
    constructor
    · intro hx
      rcases List.mem_cons.1 ((h x).1 (by simp [hx])) with h3 | h3
      · have := h1.1 x hx; omega
      · exact h3
    · intro hx
      rcases List.mem_cons.1 ((h x).2 (by simp [hx])) with h3 | h3
      · have := h2.1 x hx; omega
      · exact h3
theorem bl_one {w : List Int} {a : Nat} (hw : ∀ x ∈ w, 0 ≤ x) (ha : a < w.length) : blF (w.set a (-1)) 0 = [(a : Int)] := by
  refine pw_ext _ _ (blF_pw _ 0) (by simp) fun x => ?_
  rw [blF_mem, List.mem_singleton]
  constructor
  · rintro ⟨i, rfl, h⟩
    by_cases e : a = i
    · omega
    · rw [List.getElem?_set_ne e] at h
      have := hw _ (List.mem_of_getElem? h); omega
  · rintro rfl
    exact ⟨a, by omega, by rw [List.getElem?_set_self ha]⟩
theorem bl_two {w : List Int} {a b : Nat} (hw : ∀ x ∈ w, 0 ≤ x) (ha : a < w.length) (hb : b < w.length) (hab : a < b) : blF ((w.set a (-1)).set b (-1)) 0 = [(a : Int), (b : Int)] := by
  refine pw_ext _ _ (blF_pw _ 0) (by simp; omega) fun x => ?_
  rw [blF_mem]
  simp only [List.mem_cons, List.not_mem_nil, or_false]
  constructor
  · rintro ⟨i, rfl, h⟩
    by_cases e : b = i
    · right; omega
    · rw [List.getElem?_set_ne e] at h
      by_cases e2 : a = i
      · left; omega
      · rw [List.getElem?_set_ne e2] at h
        have := hw _ (List.mem_of_getElem? h); omega
  · rintro (rfl | rfl)
    · exact ⟨a, by omega, by rw [List.getElem?_set_ne (by omega), List.getElem?_set_self ha]⟩
    · exact ⟨b, by omega, by rw [List.getElem?_set_self (by simpa using hb)]⟩
theorem mem_due {n : Nat} {P : List Int → Bool} {w : List Int} {i x : Int} : x ∈ dueF n P w i ↔ (0 ≤ x ∧ x < n) ∧ ∃ u, Agr n w u ∧ gI u i = x ∧ P u = true := by
  unfold dueF
  rw [List.mem_filter, mem_numFr, List.any_eq_true]
  constructor
  · rintro ⟨h, u, h1, h2⟩
    rw [Bool.and_eq_true, decide_eq_true_eq] at h2
    exact ⟨by omega, u, mem_rds.1 h1, h2⟩
  · rintro ⟨h, u, h1, h2, h3⟩
    exact ⟨by omega, u, mem_rds.2 h1, by rw [h3, Bool.and_true]; simpa using h2⟩
theorem due_pw {n : Nat} {P : List Int → Bool} {w : List Int} {i : Int} : (dueF n P w i).Pairwise (· < ·) := by
  unfold dueF
  refine List.Pairwise.sublist List.filter_sublist ?_
  unfold numFrom
  rw [List.pairwise_map]
  refine List.Pairwise.imp ?_ (List.pairwise_lt_range' (s := 0) (n := n))
  intro a b h; omega
theorem can_is {c : Cs} {w g : List Int} {lo hi : Int} (e : errC c = 0) (hw : isW c.W.length (-1) w = true) (hg : gapsB w.length g = true) (hb : (blF w 0).length ≤ 2) (l0 : 1 ≤ lo) (l1 : lo ≤ hi) (l2 : hi ≤ 400) {u : List Int} (hu : Agr c.W.length w u) (hp : c.bP g lo hi u = true) :
    errR c w g lo hi = 0 ∧ rdV c w g lo hi = lstN (lnF ((blF w 0).map (dueF c.W.length (c.bP g lo hi) w))) := by
  have n8 := (errC_ok e).n1
  obtain ⟨r1, r2⟩ := rd_sem (c := c) (w := w) (g := g) (lo := lo) (hi := hi) n8 hb
  have eQ : errQ c w g lo hi = 0 := by
    unfold errQ
    rw [if_neg (by simp [e]), if_neg (by rw [hw, hg]; simp), if_neg (by omega), if_neg]
    rintro (h | h)
    · rw [inB_ok (by omega) (by omega), inB_ok (by omega) (by omega)] at h; simp at h
    · omega
  have h1 : (c.rd w g lo hi).1 = true := by
    rw [r1, List.any_eq_true]
    exact ⟨u, mem_rds.2 hu, hp⟩
  have eR : errR c w g lo hi = 0 := by unfold errR; rw [if_neg (by simp [eQ]), if_pos h1]
  exact ⟨eR, by unfold rdV; rw [if_pos eR, r2]⟩
def gapF (v : Int) (m : Nat) : List Int := (List.range m).map fun (i : Nat) => (v.tdiv ((i + 1 : Nat) : Int)).tmod 20
theorem gapF_succ (v : Int) (m : Nat) : gapF v (m + 1) = gapF v m ++ [(v.tdiv ((m + 1 : Nat) : Int)).tmod 20] := by simp [gapF, List.range_succ]
theorem gapF_len (v : Int) (m : Nat) : (gapF v m).length = m := by simp [gapF]
theorem gapF_bd {v : Int} (v0 : 0 ≤ v) (m : Nat) : ∀ x ∈ gapF v m, 0 ≤ x ∧ x < 20 := by
  intro x hx
  unfold gapF at hx
  rw [List.mem_map] at hx
  obtain ⟨i, _, rfl⟩ := hx
  have h1 : 0 ≤ v.tdiv ((i + 1 : Nat) : Int) := Int.tdiv_nonneg v0 (by omega)
  exact ⟨Int.tmod_nonneg 20 h1, Int.tmod_lt_of_pos _ (by decide)⟩
theorem gapF_sum {v : Int} (v0 : 0 ≤ v) : ∀ m : Nat, 0 ≤ sumI (gapF v m) ∧ sumI (gapF v m) ≤ 20 * m
  | 0 => by simp [gapF, sumI]
  | m + 1 => by
    have := gapF_sum v0 m
    rw [gapF_succ, sumI_app]
    have := gapF_bd v0 (m + 1) ((v.tdiv ((m + 1 : Nat) : Int)).tmod 20) (by rw [gapF_succ]; simp)
    simp only [sumI]
    omega
end S04

