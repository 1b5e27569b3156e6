/- A part of the proof: P04h, P04i. -/
import Derived.Test.YtncbkgbdpaibmaaP04d
import Derived.Test.YtncbkgbdpaibmaaH04c
set_option linter.unusedVariables false
namespace S04
open Go Abs
theorem numFr_succ (i n : Nat) : numFrom i (n + 1) = (i : Int) :: numFrom (i + 1) n := by simp [numFrom, List.range'_succ]
theorem numFr_app (i : Nat) : ∀ (n m : Nat), numFrom i (n + m) = numFrom i n ++ numFrom (i + n) m
  | n, m => by
    unfold numFrom
    rw [← List.map_append, List.range'_append_1]
theorem mem_numFr {i n : Nat} {x : Int} : x ∈ numFrom i n ↔ (i : Int) ≤ x ∧ x < i + n := by
  unfold numFrom
  rw [List.mem_map]
  constructor
  · rintro ⟨k, h1, rfl⟩
    rw [List.mem_range'_1] at h1
    omega
  · rintro ⟨h1, h2⟩
    exact ⟨x.toNat, by rw [List.mem_range'_1]; omega, by omega⟩
/-! What a word with blots can be. -/
def Sq (n k : Nat) (xs : List Int) : Prop := xs.length = k ∧ ∀ x ∈ xs, 0 ≤ x ∧ x < n
def flB : List Int → List Int → List Int
  | [], _ => []
  | x :: w, ys => if x = -1 then (match ys with | [] => x :: flB w [] | y :: ys => y :: flB w ys) else x :: flB w ys
theorem flB_ne {x : Int} (h : x ≠ -1) (w ys : List Int) : flB (x :: w) ys = x :: flB w ys := by simp only [flB, if_neg h]
theorem flB_eq {x : Int} (h : x = -1) (w : List Int) (y : Int) (ys : List Int) : flB (x :: w) (y :: ys) = y :: flB w ys := by simp only [flB, if_pos h]
def sqs (n : Nat) : Nat → List (List Int)
  | 0 => [[]]
  | k + 1 => (numFrom 0 n).flatMap fun x => (sqs n k).map (x :: ·)
theorem mem_sqs {n : Nat} : ∀ {k : Nat} {xs : List Int}, xs ∈ sqs n k ↔ Sq n k xs
  | 0, xs => by
    simp only [sqs, Sq, List.mem_singleton, List.length_eq_zero_iff]
    constructor
    · rintro rfl; simp
    · exact fun h => h.1
  | k + 1, xs => by
    simp only [sqs, List.mem_flatMap, List.mem_map]
    constructor
    · rintro ⟨x, hx, ys, hy, rfl⟩
      obtain ⟨h1, h2⟩ := mem_sqs.1 hy
      have := mem_numFr.1 hx
      refine ⟨by simp [h1], fun z hz => ?_⟩
      rcases List.mem_cons.1 hz with rfl | hz
      · omega
      · exact h2 z hz
    · rintro ⟨h1, h2⟩
      cases xs with
      | nil => simp at h1
      | cons x xs =>
        refine ⟨x, mem_numFr.2 (by have := h2 x (by simp); omega), xs, mem_sqs.2 ⟨by simpa using h1, fun z hz => h2 z (by simp [hz])⟩, rfl⟩
def rds (n : Nat) (w : List Int) : List (List Int) := (sqs n (blF w 0).length).map (flB w)
theorem blF_len : ∀ (w : List Int) (k j : Nat), (blF w k).length = (blF w j).length
  | [], _, _ => rfl
  | x :: w, k, j => by
    unfold blF
    split
    · simp [blF_len w (k + 1) (j + 1)]
    · exact blF_len w (k + 1) (j + 1)
theorem flB_len : ∀ (w ys : List Int), (flB w ys).length = w.length
  | [], _ => rfl
  | x :: w, ys => by
    unfold flB
    split
    · cases ys <;> simp [flB_len w]
    · simp [flB_len w]
def stB : List Int → List Int → List Int → List Int
  | w, p :: ps, x :: xs => stB (w.set p.toNat x) ps xs
  | w, _, _ => w
theorem stB_flB : ∀ (w a xs : List Int), xs.length = (blF w a.length).length → stB (a ++ w) (blF w a.length) xs = a ++ flB w xs
  | [], a, xs, h => by
    simp [blF, flB, stB]
  | x :: w, a, xs, h => by
    rw [blF] at h ⊢
    by_cases e : x = -1
    · rw [if_pos e] at h ⊢
      cases xs with
      | nil => simp at h
      | cons y ys =>
        have := stB_flB w (a ++ [y]) ys (by simpa using h)
        rw [List.length_append, List.length_singleton] at this
        simp only [stB, Int.toNat_natCast, flB_eq e]
        rw [List.set_append_right _ _ (Nat.le_refl _), Nat.sub_self, List.set_cons_zero]
        rw [List.append_cons, this]
        simp
    · rw [if_neg e] at h ⊢
      have := stB_flB w (a ++ [x]) xs (by simpa using h)
      rw [List.length_append, List.length_singleton] at this
      rw [List.append_cons, this, flB_ne e]
      simp
theorem stB_comm : ∀ (ps w xs : List Int) (p : Int) (y : Int), (∀ q ∈ ps, q.toNat ≠ p.toNat) → stB (w.set p.toNat y) ps xs = (stB w ps xs).set p.toNat y
  | [], w, xs, p, y, _ => by cases xs <;> rfl
  | q :: ps, w, [], p, y, _ => rfl
  | q :: ps, w, x :: xs, p, y, h => by
    simp only [stB]
    rw [List.set_comm _ _ (fun e => h q (by simp) e.symm), stB_comm ps _ xs p y fun q hq => h q (by simp [hq])]
def EqB (ps v w : List Int) : Prop := ∀ xs : List Int, xs.length = ps.length → stB v ps xs = stB w ps xs
theorem EqB.set {ps v w : List Int} {p : Int} (hp : ∀ q ∈ ps, q.toNat ≠ p.toNat) {x : Int} (h : EqB ps v (w.set p.toNat x)) : EqB (p :: ps) v w := by
  intro xs hx
  cases xs with
  | nil => simp at hx
  | cons y ys =>
    simp only [stB]
    rw [stB_comm ps v ys p y hp, h ys (by simpa using hx), stB_comm ps w ys p x hp, List.set_set, stB_comm ps w ys p y hp]
theorem EqB.trans {ps u v w : List Int} (h1 : EqB ps u v) (h2 : EqB ps v w) : EqB ps u w := fun xs hx => (h1 xs hx).trans (h2 xs hx)
theorem EqB.inner {ps v w : List Int} {p x : Int} (h : EqB (p :: ps) v w) : EqB ps (v.set p.toNat x) (w.set p.toNat x) := fun xs hx => h (x :: xs) (by simp [hx])
theorem getD_set {l : List Bool} {i j : Nat} (hi : i < l.length) : (l.set i true).getD j false = true ↔ l.getD j false = true ∨ j = i := by
  simp only [List.getD_eq_getElem?_getD, List.getElem?_set]
  by_cases e : i = j
  · subst e; simp [hi]
  · rw [if_neg e]
    constructor
    · exact .inl
    · rintro (h | h)
      · exact h
      · exact absurd h.symm e
structure RX (c : Cs) (P : List Int → Bool) (bl : List Int) (at' k : Nat) (w : List Int) (can : List Bool) (r : Bool × List Int × List Bool) : Prop where
  f : r.1 = true ↔ ∃ xs, Sq c.W.length k xs ∧ P (stB w (bl.drop at') xs) = true
  e : EqB (bl.drop at') r.2.1 w
  l : r.2.2.length = can.length
  c : ∀ j : Nat, r.2.2.getD j false = true ↔ can.getD j false = true ∨ ∃ xs, Sq c.W.length k xs ∧ P (stB w (bl.drop at') xs) = true ∧ ∃ (t : Nat) (x : Int), xs[t]? = some x ∧ j = (at' + t) * 8 + x.toNat
theorem Sq.cons {n k : Nat} {x : Int} {xs : List Int} (h : Sq n k xs) (h0 : 0 ≤ x) (h1 : x < n) : Sq n (k + 1) (x :: xs) :=
  ⟨by simp [h.1], fun z hz => by rcases List.mem_cons.1 hz with rfl | hz; exact ⟨h0, h1⟩; exact h.2 z hz⟩
theorem readX_sem {c : Cs} {P : List Int → Bool} {bl : List Int} {at' k : Nat} {p : Int} {ps w0 : List Int} (hd : bl.drop at' = p :: ps) (hps : bl.drop (at' + 1) = ps) (hp : ∀ q ∈ ps, q.toNat ≠ p.toNat) (n8 : c.W.length ≤ 8) (can0 : List Bool) (hc : at' * 8 + 8 ≤ can0.length) (hpl : ps.length = k)
    {f : List Int → List Bool → Bool × List Int × List Bool} (hf : ∀ w can, can.length = can0.length → RX c P bl (at' + 1) k w can (f w can)) :
    ∀ (n x : Nat) (s : Bool × List Int × List Bool), x + n ≤ c.W.length → EqB (p :: ps) s.2.1 w0 → s.2.2.length = can0.length →
      (s.1 = true ↔ ∃ y : Int, 0 ≤ y ∧ y < x ∧ ∃ xs, Sq c.W.length k xs ∧ P (stB w0 (p :: ps) (y :: xs)) = true) →
      (∀ j : Nat, s.2.2.getD j false = true ↔ can0.getD j false = true ∨ ∃ y : Int, 0 ≤ y ∧ y < x ∧ ∃ xs, Sq c.W.length k xs ∧ P (stB w0 (p :: ps) (y :: xs)) = true ∧ ∃ (t : Nat) (z : Int), (y :: xs)[t]? = some z ∧ j = (at' + t) * 8 + z.toNat) →
      ((readX f p at' n x s).1 = true ↔ ∃ y : Int, 0 ≤ y ∧ y < (x + n : Nat) ∧ ∃ xs, Sq c.W.length k xs ∧ P (stB w0 (p :: ps) (y :: xs)) = true) ∧
      EqB (p :: ps) (readX f p at' n x s).2.1 w0 ∧ (readX f p at' n x s).2.2.length = can0.length ∧
      (∀ j : Nat, (readX f p at' n x s).2.2.getD j false = true ↔ can0.getD j false = true ∨ ∃ y : Int, 0 ≤ y ∧ y < (x + n : Nat) ∧ ∃ xs, Sq c.W.length k xs ∧ P (stB w0 (p :: ps) (y :: xs)) = true ∧ ∃ (t : Nat) (z : Int), (y :: xs)[t]? = some z ∧ j = (at' + t) * 8 + z.toNat)
  | 0, x, s, hx, h1, h2, h3, h4 => ⟨h3, h1, h2, h4⟩
  | n + 1, x, s, hx, h1, h2, h3, h4 => by
    have R := hf (s.2.1.set p.toNat (x : Int)) s.2.2 h2
    rw [readX, show x + (n + 1) = x + 1 + n by omega]
    generalize f (s.2.1.set p.toNat (x : Int)) s.2.2 = r at R ⊢
    obtain ⟨f1, f2, f3, f4⟩ := R
    rw [hps] at f1 f2 f4
    have ein : ∀ xs : List Int, Sq c.W.length k xs → stB (s.2.1.set p.toNat (x : Int)) ps xs = stB w0 (p :: ps) ((x : Int) :: xs) := fun xs hs => h1.inner xs (by rw [hpl]; exact hs.1)
    have ew : EqB (p :: ps) r.2.1 w0 := (EqB.set hp f2).trans h1
    have split : ∀ (Q : Int → Prop), (∃ y : Int, 0 ≤ y ∧ y < ((x + 1 : Nat) : Int) ∧ Q y) ↔ (∃ y : Int, 0 ≤ y ∧ y < (x : Nat) ∧ Q y) ∨ Q (x : Int) := fun Q => by
      constructor
      · rintro ⟨y, y0, y1, hq⟩
        by_cases e : y = x
        · subst e; exact .inr hq
        · exact .inl ⟨y, y0, by omega, hq⟩
      · rintro (⟨y, y0, y1, hq⟩ | hq)
        · exact ⟨y, y0, by omega, hq⟩
        · exact ⟨x, by omega, by omega, hq⟩
    have f1' : r.1 = true ↔ ∃ xs, Sq c.W.length k xs ∧ P (stB w0 (p :: ps) ((x : Int) :: xs)) = true := f1.trans (exists_congr fun xs => by
      constructor
      · rintro ⟨h, g⟩; exact ⟨h, by rw [← ein xs h]; exact g⟩
      · rintro ⟨h, g⟩; exact ⟨h, by rw [ein xs h]; exact g⟩)
    have f4' : ∀ j : Nat, r.2.2.getD j false = true ↔ s.2.2.getD j false = true ∨ ∃ xs, Sq c.W.length k xs ∧ P (stB w0 (p :: ps) ((x : Int) :: xs)) = true ∧ ∃ (t : Nat) (z : Int), xs[t]? = some z ∧ j = (at' + 1 + t) * 8 + z.toNat := fun j => (f4 j).trans (or_congr Iff.rfl (exists_congr fun xs => by
      constructor
      · rintro ⟨h, g, i⟩; exact ⟨h, by rw [← ein xs h]; exact g, i⟩
      · rintro ⟨h, g, i⟩; exact ⟨h, by rw [ein xs h]; exact g, i⟩))
    have key : ∀ (xs : List Int) (j : Nat), (∃ (t : Nat) (z : Int), ((x : Int) :: xs)[t]? = some z ∧ j = (at' + t) * 8 + z.toNat) ↔ (j = at' * 8 + x ∨ ∃ (t : Nat) (z : Int), xs[t]? = some z ∧ j = (at' + 1 + t) * 8 + z.toNat) := fun xs j => by
      constructor
      · rintro ⟨t, z, hz, hj⟩
        cases t with
        | zero => simp at hz; subst hz; exact .inl (by simpa using hj)
        | succ t => exact .inr ⟨t, z, by simpa using hz, by rw [hj]; omega⟩
      · rintro (hj | ⟨t, z, hz, hj⟩)
        · exact ⟨0, x, rfl, by simpa using hj⟩
        · exact ⟨t + 1, z, by simpa using hz, by rw [hj]; omega⟩
    cases hr : r.1
    · rw [if_neg (by simp)]
      rw [hr] at f1'
      have fno : ¬ ∃ xs, Sq c.W.length k xs ∧ P (stB w0 (p :: ps) ((x : Int) :: xs)) = true := fun h => by simpa using f1'.2 h
      refine readX_sem hd hps hp n8 can0 hc hpl hf n (x + 1) _ (by omega) ew (by rw [← h2]; exact f3) ?_ ?_
      · rw [split]
        constructor
        · exact fun h => .inl (h3.1 h)
        · rintro (h | h)
          · exact h3.2 h
          · exact absurd h fno
      · intro j
        rw [split, f4' j, h4 j]
        constructor
        · rintro ((h | h) | ⟨xs, h, g, _⟩)
          · exact .inl h
          · exact .inr (.inl h)
          · exact absurd ⟨xs, h, g⟩ fno
        · rintro (h | h | ⟨xs, h, g, _⟩)
          · exact .inl (.inl h)
          · exact .inl (.inr h)
          · exact absurd ⟨xs, h, g⟩ fno
    · rw [if_pos rfl]
      have fyes := f1'.1 hr
      refine readX_sem hd hps hp n8 can0 hc hpl hf n (x + 1) _ (by omega) ew (by rw [List.length_set, ← h2]; exact f3) ?_ ?_
      · rw [split]
        exact ⟨fun _ => .inr fyes, fun _ => rfl⟩
      · intro j
        rw [getD_set (by rw [f3, h2]; omega), split, f4' j, h4 j]
        constructor
        · rintro (((h | h) | ⟨xs, h, g, i⟩) | h)
          · exact .inl h
          · exact .inr (.inl h)
          · exact .inr (.inr ⟨xs, h, g, (key xs j).2 (.inr i)⟩)
          · obtain ⟨xs, h5, g⟩ := fyes
            exact .inr (.inr ⟨xs, h5, g, (key xs j).2 (.inl h)⟩)
        · rintro (h | h | ⟨xs, h, g, i⟩)
          · exact .inl (.inl (.inl h))
          · exact .inl (.inl (.inr h))
          · rcases (key xs j).1 i with i | i
            · exact .inr i
            · exact .inl (.inr ⟨xs, h, g, i⟩)
theorem read_sem {c : Cs} {bl : List Int} {lo hi gaps : Int} (n8 : c.W.length ≤ 8) (b0 : ∀ x ∈ bl, 0 ≤ x) (bp : bl.Pairwise (· < ·)) : ∀ (k at' : Nat) (w : List Int) (can : List Bool), bl.length = at' + k → bl.length * 8 ≤ can.length →
    RX c (fun w => inB lo hi (c.wd w + gaps)) bl at' k w can (c.read bl lo hi gaps k at' w can)
  | 0, at', w, can, hl, hc => by
    have e : bl.drop at' = [] := List.drop_of_length_le (by omega)
    have s0 : ∀ xs : List Int, Sq c.W.length 0 xs ↔ xs = [] := fun xs => ⟨fun h => List.length_eq_zero_iff.1 h.1, fun h => by subst h; exact ⟨rfl, by simp⟩⟩
    refine ⟨?_, fun xs _ => rfl, rfl, fun j => ?_⟩
    · simp only [Cs.read, e]
      constructor
      · exact fun h => ⟨[], (s0 []).2 rfl, h⟩
      · rintro ⟨xs, h, g⟩; rw [(s0 xs).1 h] at g; exact g
    · constructor
      · exact .inl
      · rintro (h | ⟨xs, h, _, t, x, hx, _⟩)
        · exact h
        · rw [(s0 xs).1 h] at hx; simp at hx
  | k + 1, at', w, can, hl, hc => by
    have hb : at' < bl.length := by omega
    have hd : bl.drop at' = bl[at'] :: bl.drop (at' + 1) := List.drop_eq_getElem_cons hb
    have eg : gI bl (at' : Nat) = bl[at'] := by simp [gI, List.getD, hb]
    have hp : ∀ q ∈ bl.drop (at' + 1), q.toNat ≠ (bl[at']).toNat := fun q hq => by
      have h1 : (bl.drop at').Pairwise (· < ·) := bp.sublist (List.drop_sublist _ _)
      rw [hd, List.pairwise_cons] at h1
      have := h1.1 q hq
      have := b0 bl[at'] (List.getElem_mem _)
      omega
    have hs := readX_sem (c := c) (P := fun w => inB lo hi (c.wd w + gaps)) (k := k) (w0 := w) hd rfl hp n8 can (by omega) (by rw [List.length_drop]; omega) (f := fun w can => c.read bl lo hi gaps k (at' + 1) w can) (fun w' can' hl' => read_sem n8 b0 bp k (at' + 1) w' can' (by omega) (by omega)) c.W.length 0 (false, w, can) (by omega) (fun _ _ => rfl) rfl ?_ ?_
    · rw [Cs.read, eg]
      obtain ⟨g1, g2, g3, g4⟩ := hs
      have conv : ∀ (Q : List Int → Prop), (∃ y : Int, 0 ≤ y ∧ y < ((0 + c.W.length : Nat) : Int) ∧ ∃ xs, Sq c.W.length k xs ∧ Q (y :: xs)) ↔ ∃ xs, Sq c.W.length (k + 1) xs ∧ Q xs := fun Q => by
        constructor
        · rintro ⟨y, y0, y1, xs, h, q⟩
          exact ⟨y :: xs, h.cons y0 (by omega), q⟩
        · rintro ⟨xs, ⟨h1, h2⟩, q⟩
          cases xs with
          | nil => simp at h1
          | cons y xs =>
            have := h2 y (by simp)
            exact ⟨y, this.1, by omega, xs, ⟨by simpa using h1, fun z hz => h2 z (by simp [hz])⟩, q⟩
      refine ⟨?_, by rw [hd]; exact g2, g3, fun j => ?_⟩
      · rw [g1, conv fun xs => inB lo hi (c.wd (stB w (bl[at'] :: bl.drop (at' + 1)) xs) + gaps) = true, hd]
      · rw [g4 j, conv fun xs => inB lo hi (c.wd (stB w (bl[at'] :: bl.drop (at' + 1)) xs) + gaps) = true ∧ ∃ (t : Nat) (z : Int), xs[t]? = some z ∧ j = (at' + t) * 8 + z.toNat, hd]
    · simp; omega
    · intro j
      constructor
      · exact .inl
      · rintro (h | ⟨y, y0, y1, _⟩)
        · exact h
        · simp at y1; omega
end S04

namespace S04
open Go Abs
theorem flB_at : ∀ (w : List Int) (k t : Nat) (p : Int) (xs : List Int), (blF w k)[t]? = some p → xs.length = (blF w k).length → (k : Int) ≤ p ∧ (flB w xs)[p.toNat - k]? = xs[t]?
  | [], k, t, p, xs, h, _ => by simp [blF] at h
  | x :: w, k, t, p, xs, h, hl => by
    unfold blF at h hl
    by_cases e : x = -1
    · rw [if_pos e] at h hl
      cases xs with
      | nil => simp at hl
      | cons y ys =>
        rw [flB_eq e]
        cases t with
        | zero => simp at h; subst h; simp
        | succ t =>
          obtain ⟨h1, h2⟩ := flB_at w (k + 1) t p ys (by simpa using h) (by simpa using hl)
          refine ⟨by omega, ?_⟩
          rw [show p.toNat - k = (p.toNat - (k + 1)) + 1 by omega, List.getElem?_cons_succ, h2, List.getElem?_cons_succ]
    · rw [if_neg e] at h hl
      rw [flB_ne e]
      obtain ⟨h1, h2⟩ := flB_at w (k + 1) t p xs h hl
      refine ⟨by omega, ?_⟩
      rw [show p.toNat - k = (p.toNat - (k + 1)) + 1 by omega, List.getElem?_cons_succ, h2]
theorem chF_filter : ∀ (l : List Bool) (k : Nat), chF l k = (numFrom k l.length).filter fun x => l.getD (x.toNat - k) false
  | [], k => by simp [chF, numFrom]
  | b :: l, k => by
    rw [List.length_cons, numFr_succ, chF, chF_filter l (k + 1), List.filter_cons]
    have e : (numFrom (k + 1) l.length).filter (fun x => l.getD (x.toNat - (k + 1)) false) = (numFrom (k + 1) l.length).filter (fun x => (b :: l).getD (x.toNat - k) false) := by
      refine List.filter_congr fun x hx => ?_
      have := mem_numFr.1 hx
      rw [show x.toNat - k = (x.toNat - (k + 1)) + 1 by omega]
      simp
    rw [e]
    cases b <;> simp
def dueF (n : Nat) (P : List Int → Bool) (w : List Int) (i : Int) : List Int := (numFrom 0 n).filter fun x => (rds n w).any fun w' => decide (gI w' i = x) && P w'
theorem blF_pw : ∀ (w : List Int) (k : Nat), (blF w k).Pairwise (· < ·)
  | [], k => by simp [blF]
  | x :: w, k => by
    unfold blF
    split
    · rw [List.pairwise_cons]
      refine ⟨fun y hy => ?_, blF_pw w (k + 1)⟩
      have := (blF_bd w (k + 1)).2 y hy
      omega
    · exact blF_pw w (k + 1)
def Cs.bP (c : Cs) (g : List Int) (lo hi : Int) (w : List Int) : Bool := inB lo hi (c.wd w + sumI g)
theorem rd_sem {c : Cs} {w g : List Int} {lo hi : Int} (n8 : c.W.length ≤ 8) (b2 : (blF w 0).length ≤ 2) :
    (c.rd w g lo hi).1 = (rds c.W.length w).any (c.bP g lo hi) ∧ canV (c.rd w g lo hi).2.2 (blF w 0).length = (blF w 0).map (dueF c.W.length (c.bP g lo hi) w) := by
  have hbd := blF_bd w 0
  have R := read_sem (c := c) (lo := lo) (hi := hi) (gaps := sumI g) (bl := blF w 0) n8 (fun x hx => by have := hbd.2 x hx; omega) (blF_pw w 0) (blF w 0).length 0 w (List.replicate 16 false) (by simp) (by simp; omega)
  rw [← Cs.rd] at R
  generalize c.rd w g lo hi = r at R
  obtain ⟨f1, _, f3, f4⟩ := R
  rw [List.drop_zero] at f1 f4
  have est : ∀ xs, Sq c.W.length (blF w 0).length xs → stB w (blF w 0) xs = flB w xs := fun xs h => by simpa using stB_flB w [] xs h.1
  have any_iff : ∀ (Q : List Int → Bool), (rds c.W.length w).any Q = true ↔ ∃ xs, Sq c.W.length (blF w 0).length xs ∧ Q (flB w xs) = true := fun Q => by
    unfold rds
    rw [List.any_map, List.any_eq_true]
    constructor
    · rintro ⟨xs, h1, h2⟩; exact ⟨xs, mem_sqs.1 h1, h2⟩
    · rintro ⟨xs, h1, h2⟩; exact ⟨xs, mem_sqs.2 h1, h2⟩
  refine ⟨?_, ?_⟩
  · rw [Bool.eq_iff_iff, f1, any_iff]
    refine exists_congr fun xs => ?_
    constructor
    · rintro ⟨h, q⟩; rw [est xs h] at q; exact ⟨h, q⟩
    · rintro ⟨h, q⟩; exact ⟨h, by rw [est xs h]; exact q⟩
  · have step : ∀ t (ht : t < (blF w 0).length), chF (canR r.2.2 t) 0 = dueF c.W.length (c.bP g lo hi) w (blF w 0)[t] := by
      intro t ht
      have l8 : (canR r.2.2 t).length = 8 := by unfold canR; simp [f3]; omega
      rw [chF_filter, l8]
      have e8 : numFrom 0 8 = numFrom 0 c.W.length ++ numFrom (0 + c.W.length) (8 - c.W.length) := by rw [← numFr_app]; congr 1; omega
      have main : ∀ x : Int, 0 ≤ x → x < 8 → ((canR r.2.2 t).getD (x.toNat - 0) false = true ↔ ∃ xs, Sq c.W.length (blF w 0).length xs ∧ c.bP g lo hi (flB w xs) = true ∧ xs[t]? = some x) := by
        intro x x0 x8
        have e1 : (canR r.2.2 t).getD (x.toNat - 0) false = r.2.2.getD (t * 8 + x.toNat) false := by
          unfold canR
          simp only [List.getD_eq_getElem?_getD]
          rw [List.getElem?_take_of_lt (by omega), List.getElem?_drop, Nat.sub_zero]
        rw [e1, f4]
        constructor
        · rintro (h | ⟨xs, h, q, t', z, hz, hj⟩)
          · rw [List.getD_eq_getElem?_getD, List.getElem?_replicate] at h
            split at h <;> simp at h
          · rw [est xs h] at q
            have hb := h.2 z (List.mem_of_getElem? hz)
            have : t = t' ∧ x.toNat = z.toNat := by omega
            obtain ⟨rfl, hxz⟩ := this
            have : x = z := by omega
            subst this
            exact ⟨xs, h, q, hz⟩
        · rintro ⟨xs, h, q, hz⟩
          exact .inr ⟨xs, h, by rw [est xs h]; exact q, t, x, hz, by omega⟩
      have hat : ∀ xs, Sq c.W.length (blF w 0).length xs → ∀ x : Int, (gI (flB w xs) (blF w 0)[t] = x ↔ xs[t]? = some x) := by
        intro xs h x
        have h1 := (flB_at w 0 t (blF w 0)[t] xs (by simp) h.1).2
        rw [Nat.sub_zero] at h1
        have hx : t < xs.length := by rw [h.1]; exact ht
        rw [List.getElem?_eq_getElem hx] at h1 ⊢
        have : gI (flB w xs) (blF w 0)[t] = xs[t] := by simp only [gI, List.getD_eq_getElem?_getD, h1, Option.getD_some]
        rw [this]
        simp
      rw [e8, List.filter_append]
      have e0 : (numFrom (0 + c.W.length) (8 - c.W.length)).filter (fun x => (canR r.2.2 t).getD (x.toNat - 0) false) = [] := by
        rw [List.filter_eq_nil_iff]
        intro x hx
        have hx' := mem_numFr.1 hx
        rw [main x (by omega) (by omega)]
        rintro ⟨xs, h, _, hz⟩
        have := h.2 x (List.mem_of_getElem? hz)
        omega
      rw [e0, List.append_nil]
      unfold dueF
      refine List.filter_congr fun x hx => ?_
      have hx' := mem_numFr.1 hx
      rw [Bool.eq_iff_iff, main x (by omega) (by omega), any_iff]
      refine exists_congr fun xs => ?_
      simp only [Bool.and_eq_true, decide_eq_true_eq]
      constructor
      · rintro ⟨h, q, hz⟩; exact ⟨h, (hat xs h x).2 hz, q⟩
      · rintro ⟨h, hz, q⟩; exact ⟨h, q, (hat xs h x).1 hz⟩
    have all : ∀ k, k ≤ (blF w 0).length → canV r.2.2 k = ((blF w 0).take k).map (dueF c.W.length (c.bP g lo hi) w) := by
      intro k
      induction k with
      | zero => intro _; simp [canV]
      | succ k ih =>
        intro hk
        rw [canV, ih (by omega), step k (by omega), List.take_add_one, List.getElem?_eq_getElem (by omega), List.map_append]
        rfl
    have := all (blF w 0).length (Nat.le_refl _)
    rwa [List.take_length] at this
end S04

