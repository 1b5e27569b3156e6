/- A part of the proof: P04g, P04h, P04l. -/
import Derived.Test.YtncbkgbdpaibmaaP04b
import Derived.Test.YtncbkgbdpaibmaaP04d
import Derived.Test.YtncbkgbdpaibmaaG04v
import Derived.Test.YtncbkgbdpaibmaaH04c
set_option linter.unusedVariables false
set_option linter.unusedSimpArgs false
namespace S04
open Go Abs
/-! The rests of lines that begin so. -/
def Cs.rsO (c : Cs) (n : Int) (W : List (List Int)) : Nat → List Int → Option Int
  | a, [] => if 0 ≤ c.rest n ((W.take W.length).drop a) then some (c.rest n ((W.take W.length).drop a)) else none
  | a, b :: t => if c.rest n ((W.take b.toNat).drop a) < 0 then none else (c.rsO n W b.toNat t).map (max (c.rest n ((W.take b.toNat).drop a)))
theorem ln_app (c : Cs) : ∀ A B : List (List Int), c.ln (A ++ B) = c.ln A + c.ln B
  | [], B => by simp [Cs.ln]
  | x :: A, B => by simp [Cs.ln, ln_app c A B, Int.add_assoc]
theorem rest_mono {c : Cs} {n : Int} {W : List (List Int)} (h : ∀ w ∈ W, 0 ≤ c.nd w - 2 * c.R + c.B) {a b b' : Nat} (hb : b ≤ b') : c.rest n ((W.take b').drop a) ≤ c.rest n ((W.take b).drop a) := by
  unfold Cs.rest
  have key : ∀ L : List (List Int), (∀ w ∈ L, w ∈ W) → 0 ≤ c.ln L := by
    intro L
    induction L with
    | nil => intro _; simp [Cs.ln]
    | cons w L ih =>
      intro hL
      have := ih fun x hx => hL x (by simp [hx])
      have := h w (hL w (by simp))
      simp only [Cs.ln]; omega
  have e : W.take b' = W.take b ++ (W.take b').drop b := by
    have := List.take_append_drop b (W.take b')
    rw [List.take_take, Nat.min_eq_left hb] at this
    exact this.symm
  rw [e, List.drop_append]
  rw [ln_app]
  have := key (((W.take b').drop b).drop (a - (W.take b).length)) fun w hw => List.mem_of_mem_take (List.mem_of_mem_drop (List.mem_of_mem_drop hw))
  omega
theorem numFrom_succ (i n : Nat) : numFrom i (n + 1) = (i : Int) :: numFrom (i + 1) n := by simp [numFrom, List.range'_succ]
theorem brk_eq {c : Cs} {n : Int} {W : List (List Int)} (h : ∀ w ∈ W, 0 ≤ c.nd w - 2 * c.R + c.B) : ∀ (L a : Nat), c.brk n W (L + 1) a = (setsF L (numFrom (a + 1) (W.length - (a + 1)))).filterMap fun t => (c.rsO n W a t).map fun r => ((a : Int) :: t, r)
  | 0, a => by
    simp only [Cs.brk, setsF, List.filterMap_cons, List.filterMap_nil, Cs.rsO]
    split <;> rfl
  | L + 1, a => by
    have ih := brk_eq (n := n) h L
    rw [Cs.brk]
    have key : ∀ (k to' : Nat), to' + k = W.length → c.stepG n W (c.brk n W (L + 1)) a k to' = (setsF (L + 1) (numFrom to' k)).filterMap fun t => (c.rsO n W a t).map fun r => ((a : Int) :: t, r) := by
      intro k
      induction k with
      | zero => intro to' _; simp [Cs.stepG, numFrom, setsF]
      | succ k ihk =>
        intro to' hto
        rw [numFrom_succ, setsF, List.filterMap_append, Cs.stepG]
        by_cases hr : c.rest n ((W.take to').drop a) < 0
        · rw [if_pos hr]
          have n1 : ((setsF L (numFrom (to' + 1) k)).map ((to' : Int) :: ·)).filterMap (fun t => (c.rsO n W a t).map fun r => ((a : Int) :: t, r)) = [] := by
            rw [List.filterMap_eq_nil_iff]
            intro t ht
            obtain ⟨t', _, rfl⟩ := List.mem_map.1 ht
            simp [Cs.rsO, hr]
          have n2 : (setsF (L + 1) (numFrom (to' + 1) k)).filterMap (fun t => (c.rsO n W a t).map fun r => ((a : Int) :: t, r)) = [] := by
            rw [List.filterMap_eq_nil_iff]
            intro t ht
            obtain ⟨h1, h2⟩ := (mem_setsF _ _ _).1 ht
            cases t with
            | nil => simp at h2
            | cons b t =>
              have hb : b ∈ numFrom (to' + 1) k := h1.subset (by simp)
              simp only [numFrom, List.mem_map, List.mem_range'_1] at hb
              obtain ⟨j, hj, rfl⟩ := hb
              have := rest_mono (n := n) h (a := a) (show to' ≤ j by omega)
              simp only [Cs.rsO, Int.toNat_natCast]
              rw [if_pos (by omega)]
              rfl
          rw [n1, n2]
          rfl
        · rw [if_neg hr, ihk (to' + 1) (by omega), ih to', show W.length - (to' + 1) = k by omega]
          congr 1
          rw [List.filterMap_map, List.map_filterMap]
          refine congrArg (fun f => (setsF L (numFrom (to' + 1) k)).filterMap f) (funext fun t => ?_)
          simp only [Function.comp, Cs.rsO, Int.toNat_natCast]
          rw [if_neg hr]
          cases c.rsO n W to' t <;> rfl
    by_cases ha : a + 1 ≤ W.length
    · exact key _ _ (by omega)
    · have e0 : W.length - (a + 1) = 0 := by omega
      rw [e0]
      simp [Cs.stepG, numFrom, setsF]
/-! The best lines. -/
def kle (x y : List Int × Int) : Prop := x.1.length < y.1.length ∨ (x.1.length = y.1.length ∧ (x.2 < y.2 ∨ (x.2 = y.2 ∧ cmpL x.1 y.1 ≤ 0)))
theorem kle_refl (x : List Int × Int) : kle x x := .inr ⟨rfl, .inr ⟨rfl, by rw [cmpL_refl]; exact Int.le_refl _⟩⟩
theorem kle_trans {x y z : List Int × Int} (h1 : kle x y) (h2 : kle y z) : kle x z := by
  unfold kle at *
  rcases h1 with h1 | ⟨h1, g1⟩ <;> rcases h2 with h2 | ⟨h2, g2⟩
  · exact .inl (by omega)
  · exact .inl (by omega)
  · exact .inl (by omega)
  · refine .inr ⟨by omega, ?_⟩
    rcases g1 with g1 | ⟨g1, k1⟩ <;> rcases g2 with g2 | ⟨g2, k2⟩
    · exact .inl (by omega)
    · exact .inl (by omega)
    · exact .inl (by omega)
    · exact .inr ⟨by omega, cmpL_trans k1 k2⟩
def KM (S : List Int × Int → Prop) (o : Option (List Int × Int)) : Prop := match o with | none => ∀ x, ¬ S x | some l => S l ∧ ∀ x, S x → kle l x
theorem KM.congr {S T : List Int × Int → Prop} {o : Option (List Int × Int)} (e : ∀ x, S x ↔ T x) (h : KM S o) : KM T o := by
  cases o with
  | none => exact fun x hx => h x ((e x).2 hx)
  | some l => exact ⟨(e l).1 h.1, fun x hx => h.2 x ((e x).2 hx)⟩
def Cs.Ls (c : Cs) (n : Int) (W : List (List Int)) (x : List Int × Int) : Prop := ∃ t : List Int, t.Sublist (numFrom 1 (W.length - 1)) ∧ c.rsO n W 0 t = some x.2 ∧ x.1 = 0 :: t
theorem best2_min : ∀ (A : List (List Int × Int)) (b : List Int × Int) (N : Nat), (∀ x ∈ b :: A, x.1.length = N) → (b :: A).Pairwise (fun x y => cmpL x.1 y.1 ≤ 0) → ∃ r, A.foldl best2 (some b) = some r ∧ r ∈ b :: A ∧ ∀ x ∈ b :: A, kle r x
  | [], b, N, hN, hp => ⟨b, rfl, by simp, fun x hx => by simp at hx; subst hx; exact kle_refl _⟩
  | a :: A, b, N, hN, hp => by
    rw [List.pairwise_cons] at hp
    have hba := hp.1 a (by simp)
    have la := hN a (by simp)
    have lb := hN b (by simp)
    rw [List.foldl_cons]
    simp only [best2]
    by_cases h : a.2 < b.2
    · rw [if_pos h]
      obtain ⟨r, h1, h2, h3⟩ := best2_min A a N (fun x hx => hN x (List.mem_cons_of_mem _ hx)) hp.2
      refine ⟨r, h1, List.mem_cons_of_mem _ h2, fun x hx => ?_⟩
      rcases List.mem_cons.1 hx with rfl | hx
      · exact kle_trans (h3 a (by simp)) (.inr ⟨by omega, .inl h⟩)
      · exact h3 x hx
    · rw [if_neg h]
      have hp2 : (b :: A).Pairwise (fun x y => cmpL x.1 y.1 ≤ 0) := by
        rw [List.pairwise_cons]
        rw [List.pairwise_cons] at hp
        exact ⟨fun x hx => hp.1 x (List.mem_cons_of_mem _ hx), hp.2.2⟩
      obtain ⟨r, h1, h2, h3⟩ := best2_min A b N (fun x hx => by
        rcases List.mem_cons.1 hx with rfl | hx
        · exact lb
        · exact hN x (by simp [hx])) hp2
      refine ⟨r, h1, ?_, fun x hx => ?_⟩
      · rcases List.mem_cons.1 h2 with rfl | h2
        · simp
        · simp [h2]
      · rcases List.mem_cons.1 hx with rfl | hx
        · exact h3 x (by simp)
        · rcases List.mem_cons.1 hx with rfl | hx
          · refine kle_trans (h3 b (by simp)) (.inr ⟨by omega, ?_⟩)
            by_cases e : b.2 = x.2
            · exact .inr ⟨e, hba⟩
            · exact .inl (by omega)
          · exact h3 x (by simp [hx])
theorem numFrom_pw (i n : Nat) : (numFrom i n).Pairwise (· < ·) := by
  unfold numFrom
  rw [List.pairwise_map]
  have : ∀ (n i : Nat), (List.range' i n).Pairwise (· < ·) := by
    intro n
    induction n with
    | zero => intro i; simp
    | succ n ih =>
      intro i
      rw [List.range'_succ, List.pairwise_cons]
      refine ⟨fun x hx => ?_, ih (i + 1)⟩
      rw [List.mem_range'_1] at hx
      omega
  refine (this n i).imp fun {a b} h => ?_
  exact_mod_cast h
theorem lines_KM {c : Cs} {n : Int} {W : List (List Int)} (h : ∀ w ∈ W, 0 ≤ c.nd w - 2 * c.R + c.B) {r : List Int × Int} (hr : LinesIs c n W r) : KM (c.Ls n W) (some r) := by
  obtain ⟨L, L1, L10, H1, H2⟩ := hr
  obtain ⟨L', rfl⟩ : ∃ L', L = L' + 1 := ⟨L - 1, by omega⟩
  have hb := brk_eq (n := n) h L' 0
  have hlen := brk_len c n W (L' + 1) 0
  have hpw : (c.brk n W (L' + 1) 0).Pairwise (fun x y => cmpL x.1 y.1 ≤ 0) := by
    rw [hb, List.pairwise_filterMap]
    refine (setsF_pw L' _ (numFrom_pw _ _)).imp fun {t t'} ht x hx y hy => ?_
    simp only [Option.map_eq_some_iff] at hx hy
    obtain ⟨r1, _, rfl⟩ := hx
    obtain ⟨r2, _, rfl⟩ := hy
    simp only [cmpL, cmpI_eq, ne_eq, not_true, if_false]
    exact ht
  cases hA : c.brk n W (L' + 1) 0 with
  | nil => rw [hA] at H1; simp at H1
  | cons b A =>
    rw [hA] at H1 hlen hpw
    rw [List.foldl_cons] at H1
    obtain ⟨r', g1, g2, g3⟩ := best2_min A b (L' + 1) hlen hpw
    have e : r' = r := by
      have : A.foldl best2 (best2 none b) = A.foldl best2 (some b) := rfl
      rw [this, g1] at H1
      simpa using H1
    subst e
    have mem : ∀ x, x ∈ b :: A ↔ c.Ls n W x ∧ x.1.length = L' + 1 := by
      intro x
      rw [← hA, hb, List.mem_filterMap]
      simp only [mem_setsF, Option.map_eq_some_iff]
      constructor
      · rintro ⟨t, ⟨h1, h2⟩, r1, h3, rfl⟩
        exact ⟨⟨t, by simpa using h1, h3, rfl⟩, by simp [h2]⟩
      · rintro ⟨⟨t, h1, h3, h4⟩, h5⟩
        refine ⟨t, ⟨by simpa using h1, by rw [h4] at h5; simpa using h5⟩, x.2, h3, ?_⟩
        rw [show ((0 : Nat) : Int) = 0 from rfl, ← h4]
    refine ⟨((mem r').1 g2).1, fun x hx => ?_⟩
    have lr := ((mem r').1 g2).2
    rcases Nat.lt_trichotomy x.1.length (L' + 1) with hl | hl | hl
    · exfalso
      have hx0 := hx
      obtain ⟨t, h1, h3, h4⟩ := hx
      obtain ⟨k, hk⟩ : ∃ k, x.1.length = k + 1 := ⟨t.length, by rw [h4]; simp⟩
      have := H2 (k + 1) (by omega) (by omega)
      have hb2 := brk_eq (n := n) h k 0
      rw [this] at hb2
      have hm : x ∈ (setsF k (numFrom (0 + 1) (W.length - (0 + 1)))).filterMap fun t => (c.rsO n W 0 t).map fun r => (((0 : Nat) : Int) :: t, r) := by
        rw [List.mem_filterMap]
        refine ⟨t, (mem_setsF _ _ _).2 ⟨by simpa using h1, by rw [h4] at hk; simpa using hk⟩, ?_⟩
        simp only [Option.map_eq_some_iff]
        exact ⟨x.2, h3, by rw [show ((0 : Nat) : Int) = 0 from rfl, ← h4]⟩
      rw [← hb2] at hm
      simp at hm
    · exact g3 x ((mem x).2 ⟨hx, hl⟩)
    · exact .inl (by omega)
theorem lines_ex {c : Cs} {n : Int} {W : List (List Int)} (h : ∀ w ∈ W, 0 ≤ c.nd w - 2 * c.R + c.B) (hn : ∀ w ∈ W, c.nd w ≤ n) (w0 : W ≠ []) (w5 : W.length ≤ 5) : ∃ r, LinesIs c n W r := by
  have pos : 0 < W.length := List.length_pos_iff.2 w0
  have single : ∀ (k a : Nat), a + k + 1 = W.length → c.rsO n W a (numFrom (a + 1) k) ≠ none := by
    intro k
    induction k with
    | zero =>
      intro a ha
      have e : (W.take W.length).drop a = [W[a]] := by
        rw [List.take_length, List.drop_eq_getElem_cons (by omega), List.drop_of_length_le (by omega)]
      simp only [numFrom, List.range'_zero, List.map_nil, Cs.rsO, e]
      have := hn W[a] (List.getElem_mem _)
      rw [if_pos (by simp only [Cs.rest, Cs.ln]; omega)]
      simp
    | succ k ih =>
      intro a ha
      rw [numFrom_succ, Cs.rsO]
      have e : (W.take (((a + 1 : Nat) : Int).toNat)).drop a = [W[a]] := by
        rw [Int.toNat_natCast, List.take_add_one, List.getElem?_eq_getElem (by omega), List.drop_append_of_le_length (by simp; omega), List.drop_of_length_le (by simp; omega)]
        rfl
      rw [e]
      have := hn W[a] (List.getElem_mem _)
      rw [if_neg (by simp only [Cs.rest, Cs.ln]; omega)]
      have := ih (a + 1) (by omega)
      intro hx
      rw [Option.map_eq_none_iff] at hx
      exact this (by rw [Int.toNat_natCast] at hx; exact hx)
  have hne : c.brk n W (W.length - 1 + 1) 0 ≠ [] := by
    rw [brk_eq h]
    have hs := single (W.length - 1) 0 (by omega)
    obtain ⟨r, hr⟩ := Option.ne_none_iff_exists'.1 hs
    intro hx
    rw [List.filterMap_eq_nil_iff] at hx
    have := hx (numFrom (0 + 1) (W.length - 1)) ((mem_setsF _ _ _).2 ⟨by simp, by simp [numFrom]⟩)
    rw [hr] at this
    simp at this
  obtain ⟨m, hm, h2, h3⟩ := least (fun k => c.brk n W (k + 1) 0 ≠ []) (W.length - 1) hne
  cases hA : c.brk n W (m + 1) 0 with
  | nil => exact absurd hA h2
  | cons b A =>
    have : ∃ r, A.foldl best2 (some b) = some r := by
      have : ∀ (A : List (List Int × Int)) (b : List Int × Int), ∃ r, A.foldl best2 (some b) = some r := by
        intro A
        induction A with
        | nil => intro b; exact ⟨b, rfl⟩
        | cons a A ih =>
          intro b
          rw [List.foldl_cons]
          simp only [best2]
          split
          · exact ih a
          · exact ih b
      exact this A b
    obtain ⟨r, hr⟩ := this
    refine ⟨r, m + 1, by omega, by omega, by rw [hA]; exact hr, fun k k1 k2 => ?_⟩
    have := h3 (k - 1) (by omega)
    rw [show k - 1 + 1 = k by omega] at this
    exact Classical.byContradiction this
/-! The reference. -/
def setM (N s : Nat) : List Int := (setL N s).map (· + 1)
def betL (l : List Int) (r : Int) : Option (List Int × Int) → Bool
  | none => true
  | some x => decide (l.length < x.1.length ∨ l.length = x.1.length ∧ (r < x.2 ∨ r = x.2 ∧ cmpL l x.1 < 0))
def upL (b : Option (List Int × Int)) (l : List Int) (o : Option Int) : Option (List Int × Int) := match o with
  | none => b
  | some r => if betL l r b then some (l, r) else b
def rfS (val : List Int → Option Int) (N : Nat) : Nat → Nat → Option (List Int × Int) → Option (List Int × Int)
  | 0, _, b => b
  | k + 1, s, b => rfS val N k (s + 1) (upL b (0 :: setM N s) (val (setM N s)))
end S04

namespace S04
open Go Abs
theorem numFr_app (i : Nat) : ∀ (n m : Nat), numFrom i (n + m) = numFrom i n ++ numFrom (i + n) m
  | n, m => by
    unfold numFrom
    rw [← List.map_append, List.range'_append_1]
theorem mem_numFr {i n : Nat} {x : Int} : x ∈ numFrom i n ↔ (i : Int) ≤ x ∧ x < i + n := by
  unfold numFrom
  rw [List.mem_map]
  constructor
  · rintro ⟨k, h1, rfl⟩
    rw [List.mem_range'_1] at h1
    omega
  · rintro ⟨h1, h2⟩
    exact ⟨x.toNat, by rw [List.mem_range'_1]; omega, by omega⟩
/-! What a word with blots can be. -/
def Sq (n k : Nat) (xs : List Int) : Prop := xs.length = k ∧ ∀ x ∈ xs, 0 ≤ x ∧ x < n
def flB : List Int → List Int → List Int
  | [], _ => []
  | x :: w, ys => if x = -1 then (match ys with | [] => x :: flB w [] | y :: ys => y :: flB w ys) else x :: flB w ys
def sqs (n : Nat) : Nat → List (List Int)
  | 0 => [[]]
  | k + 1 => (numFrom 0 n).flatMap fun x => (sqs n k).map (x :: ·)
def rds (n : Nat) (w : List Int) : List (List Int) := (sqs n (blF w 0).length).map (flB w)
def stB : List Int → List Int → List Int → List Int
  | w, p :: ps, x :: xs => stB (w.set p.toNat x) ps xs
  | w, _, _ => w
theorem stB_comm : ∀ (ps w xs : List Int) (p : Int) (y : Int), (∀ q ∈ ps, q.toNat ≠ p.toNat) → stB (w.set p.toNat y) ps xs = (stB w ps xs).set p.toNat y
  | [], w, xs, p, y, _ => by cases xs <;> rfl
  | q :: ps, w, [], p, y, _ => rfl
  | q :: ps, w, x :: xs, p, y, h => by
    simp only [stB]
    rw [List.set_comm _ _ (fun e => h q (by simp) e.symm), stB_comm ps _ xs p y fun q hq => h q (by simp [hq])]
def EqB (ps v w : List Int) : Prop := ∀ xs : List Int, xs.length = ps.length → stB v ps xs = stB w ps xs
theorem EqB.set {ps v w : List Int} {p : Int} (hp : ∀ q ∈ ps, q.toNat ≠ p.toNat) {x : Int} (h : EqB ps v (w.set p.toNat x)) : EqB (p :: ps) v w := by
  intro xs hx
  cases xs with
  | nil => simp at hx
  | cons y ys =>
    simp only [stB]
    rw [stB_comm ps v ys p y hp, h ys (by simpa using hx), stB_comm ps w ys p x hp, List.set_set, stB_comm ps w ys p y hp]
theorem EqB.trans {ps u v w : List Int} (h1 : EqB ps u v) (h2 : EqB ps v w) : EqB ps u w := fun xs hx => (h1 xs hx).trans (h2 xs hx)
structure RX (c : Cs) (P : List Int → Bool) (bl : List Int) (at' k : Nat) (w : List Int) (can : List Bool) (r : Bool × List Int × List Bool) : Prop where
  f : r.1 = true ↔ ∃ xs, Sq c.W.length k xs ∧ P (stB w (bl.drop at') xs) = true
  e : EqB (bl.drop at') r.2.1 w
  l : r.2.2.length = can.length
  c : ∀ j : Nat, r.2.2.getD j false = true ↔ can.getD j false = true ∨ ∃ xs, Sq c.W.length k xs ∧ P (stB w (bl.drop at') xs) = true ∧ ∃ (t : Nat) (x : Int), xs[t]? = some x ∧ j = (at' + t) * 8 + x.toNat
theorem Sq.cons {n k : Nat} {x : Int} {xs : List Int} (h : Sq n k xs) (h0 : 0 ≤ x) (h1 : x < n) : Sq n (k + 1) (x :: xs) :=
  ⟨by simp [h.1], fun z hz => by rcases List.mem_cons.1 hz with rfl | hz; exact ⟨h0, h1⟩; exact h.2 z hz⟩
end S04

namespace S04
open Go Abs
/-! The greatest rest, word by word. -/
theorem rsO_ge {c : Cs} {n : Int} {W : List (List Int)} : ∀ (t : List Int) (a : Nat) (r : Int), c.rsO n W a t = some r → 0 ≤ r
  | [], a, r, h => by
    simp only [Cs.rsO] at h
    split at h
    · simp only [Option.some.injEq] at h; omega
    · simp at h
  | b :: t, a, r, h => by
    simp only [Cs.rsO] at h
    split at h
    · simp at h
    · rw [Option.map_eq_some_iff] at h
      obtain ⟨q, h1, h2⟩ := h
      omega
def cmb (m : Int) (o : Option Int) : Int := match o with
  | none => -1
  | some r => max m r
theorem cmb_max (m r : Int) (o : Option Int) : cmb m (o.map (max r)) = cmb (max m r) o := by
  cases o with
  | none => rfl
  | some x => simp only [Option.map_some, cmb]; omega
structure GI (c : Cs) (n : Int) (W : List (List Int)) (l : List Int) (fin : Int) (i : Nat) (most line : Int) : Prop where
  m : -1 ≤ most
  c : (i = W.length ∧ most = fin) ∨ (i < W.length ∧ ∃ (a : Nat) (t : List Int), a ≤ i ∧ cmb most (c.rsO n W a t) = fin ∧ (∀ x : Int, (i : Int) + 1 ≤ x → (x ∈ l ↔ x ∈ t)) ∧ t.Pairwise (· < ·) ∧ (∀ x ∈ t, (i : Int) < x ∧ x < W.length) ∧
    ((a = i ∧ (i : Int) ∈ l) ∨ (a < i ∧ (i : Int) ∉ l ∧ line = n - c.rest n ((W.take i).drop a) ∧ 0 ≤ c.rest n ((W.take i).drop a))))
theorem gr_step {c : Cs} {n : Int} {W : List (List Int)} {l : List Int} {fin most line : Int} {i : Nat} (h0 : ∀ w ∈ W, 0 ≤ c.nd w - 2 * c.R + c.B) (g : GI c n W l fin i most line) (hi : i < W.length) {w : List Int} (hw : W[i]? = some w) {line' : Int} (e : line' = (if l.contains (i : Int) then 2 * c.R else line + c.B) + (c.nd w - 2 * c.R)) :
    (n < line' → fin = -1) ∧ (line' ≤ n → GI c n W l fin (i + 1) (if i + 1 = W.length ∨ l.contains ((i : Int) + 1) = true then max most (n - line') else most) line') := by
  obtain ⟨m, hc⟩ := g
  rcases hc with ⟨e1, _⟩ | ⟨_, a, t, ai, f, hl, pw, hb, hs⟩
  · omega
  have et : (W.take (i + 1)).drop a = (W.take i).drop a ++ [w] := by
    rw [List.take_add_one, hw, List.drop_append, show a - (W.take i).length = 0 by simp; omega]; rfl
  have er : line' = n - c.rest n ((W.take (i + 1)).drop a) := by
    rw [et]
    unfold Cs.rest
    rw [ln_app]
    simp only [Cs.ln]
    rcases hs with ⟨rfl, hm⟩ | ⟨_, hm, hline, _⟩
    · rw [if_pos (by simpa using hm)] at e
      rw [List.drop_of_length_le (show (W.take a).length ≤ a by simp; omega)]
      simp only [Cs.ln]; omega
    · rw [if_neg (by simpa using hm)] at e
      unfold Cs.rest at hline
      omega
  generalize hR : c.rest n ((W.take (i + 1)).drop a) = R at *
  constructor
  · intro hn
    have hneg : R < 0 := by omega
    rw [← f]
    cases t with
    | nil =>
      have := rest_mono (n := n) h0 (a := a) (b := i + 1) (b' := W.length) (by omega)
      rw [Cs.rsO, if_neg (by omega)]; rfl
    | cons b t =>
      have := hb b (by simp)
      have := rest_mono (n := n) h0 (a := a) (b := i + 1) (b' := b.toNat) (by omega)
      rw [Cs.rsO, if_pos (by omega)]; rfl
  · intro hn
    have eR : n - line' = R := by omega
    rw [eR]
    by_cases hN : i + 1 = W.length
    · rw [if_pos (.inl hN)]
      have : t = [] := by
        cases t with
        | nil => rfl
        | cons b t => have := hb b (by simp); omega
      subst this
      refine ⟨by omega, .inl ⟨hN, ?_⟩⟩
      rw [← f, Cs.rsO, ← hN, hR, if_pos (by omega)]
      rfl
    · by_cases hm : ((i : Int) + 1) ∈ l
      · rw [if_pos (.inr (by simpa using hm))]
        have hmt := (hl _ (Int.le_refl _)).1 hm
        cases t with
        | nil => simp at hmt
        | cons b t =>
          have hb0 := hb b (by simp)
          rw [List.pairwise_cons] at pw
          have : b = (i : Int) + 1 := by
            rcases List.mem_cons.1 hmt with e | e
            · exact e.symm
            · have := pw.1 _ e; omega
          subst this
          refine ⟨by omega, .inr ⟨by omega, i + 1, t, by omega, ?_, ?_, pw.2, ?_, .inl ⟨rfl, by simpa using hm⟩⟩⟩
          · rw [← f, Cs.rsO, show ((i : Int) + 1).toNat = i + 1 by omega, hR, if_neg (by omega), cmb_max]
          · intro x hx
            rw [hl x (by omega), List.mem_cons]
            constructor
            · rintro (h | h)
              · omega
              · exact h
            · exact .inr
          · intro x hx
            have := pw.1 x hx
            have := hb x (by simp [hx])
            omega
      · rw [if_neg (by rintro (h | h); exact hN h; exact hm (by simpa using h))]
        refine ⟨m, .inr ⟨by omega, a, t, by omega, f, ?_, pw, ?_, .inr ⟨by omega, by simpa using hm, by rw [hR]; exact er, by rw [hR]; omega⟩⟩⟩
        · intro x hx; exact hl x (by omega)
        · intro x hx
          have := hb x hx
          have : x ≠ (i : Int) + 1 := by rintro rfl; exact hm ((hl _ (Int.le_refl _)).2 hx)
          omega
theorem gr_zero {c : Cs} {n : Int} {W : List (List Int)} {t : List Int} (n0 : 0 ≤ n) (hW : W ≠ []) (ht : t.Sublist (numFrom 1 (W.length - 1))) (line : Int) : GI c n W (0 :: t) (cmb (-1) (c.rsO n W 0 t)) 0 (-1) line := by
  have l0 := List.length_pos_iff.2 hW
  refine ⟨by omega, .inr ⟨l0, 0, t, Nat.le_refl _, rfl, ?_, List.Pairwise.sublist ht (numFrom_pw _ _), ?_, .inl ⟨rfl, by simp⟩⟩⟩
  · intro x hx
    rw [List.mem_cons]
    constructor
    · rintro (h | h)
      · omega
      · exact h
    · exact .inr
  · intro x hx
    have := mem_numFr.1 (ht.subset hx)
    omega
end S04

