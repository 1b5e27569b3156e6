/- A part of the proof: P04f, P04g, P04h, P04l, P04m. -/
import Derived.Test.YtncbkgbdpaibmaaH04h
import Derived.Test.YtncbkgbdpaibmaaP04b
import Derived.Test.YtncbkgbdpaibmaaP04d
import Derived.Test.YtncbkgbdpaibmaaG04v
import Derived.Test.YtncbkgbdpaibmaaH04c
set_option linter.unusedVariables false
set_option linter.unusedSimpArgs false
namespace S04
open Go Abs
/-! All lists of plates. -/
def pkG (f : List Int → List (List Int)) (need : Int) (b : List Int) : List Int → Nat → List (List Int)
  | [], _ => []
  | n :: ns, i => (if b.contains (i : Int) = false ∧ need ≤ n then f (b ++ [(i : Int)]) else []) ++ pkG f need b ns (i + 1)
def Cs.pks (c : Cs) (pl : List Int) : List (List Int) → List Int → List (List Int)
  | [], b => [b]
  | w :: ws, b => pkG (c.pks pl ws) (c.nd w) b pl 0
def longF (pl : List Int) : List Int → Int
  | [] => 0
  | x :: xs => gI pl x + longF pl xs
theorem longF_app (pl : List Int) : ∀ a b : List Int, longF pl (a ++ b) = longF pl a + longF pl b
  | [], b => by simp [longF]
  | x :: a, b => by simp [longF, longF_app pl a b, Int.add_assoc]
def upd3 (pl : List Int) (b : Option (List Int × Int)) (l : List Int) : Option (List Int × Int) := match b with
  | none => some (l, longF pl l)
  | some x => if longF pl l < x.2 then some (l, longF pl l) else some x
theorem pkG_mem {f : List Int → List (List Int)} {need : Int} {b : List Int} {Pr : List Int → Prop} (N : Nat) (hf : ∀ i : Nat, i < N → ∀ x ∈ f (b ++ [(i : Int)]), Pr x) : ∀ (ns : List Int) (i : Nat), i + ns.length ≤ N → ∀ x ∈ pkG f need b ns i, Pr x
  | [], i, _, x, h => by simp [pkG] at h
  | n :: ns, i, hl, x, h => by
    simp only [List.length_cons] at hl
    simp only [pkG, List.mem_append] at h
    rcases h with h | h
    · split at h
      · exact hf i (by omega) x h
      · simp at h
    · exact pkG_mem N hf ns (i + 1) (by omega) x h
theorem gI_pl {pl : List Int} (hp : ∀ x ∈ pl, 1 ≤ x ∧ x ≤ 400) {i : Nat} (h : i < pl.length) : 1 ≤ gI pl (i : Nat) ∧ gI pl (i : Nat) ≤ 400 := by
  have := gI_get (p := pl) (i := (i : Int)) (by omega) (by omega)
  exact hp _ (List.mem_of_getElem? this)
theorem pks_long {c : Cs} {pl : List Int} (hp : ∀ x ∈ pl, 1 ≤ x ∧ x ≤ 400) : ∀ (ws : List (List Int)) (b : List Int), ∀ x ∈ c.pks pl ws b, longF pl b ≤ longF pl x ∧ x.length = b.length + ws.length ∧ ∀ y ∈ x, y ∈ b ∨ (0 ≤ y ∧ y < pl.length)
  | [], b, x, h => by
    simp only [Cs.pks, List.mem_singleton] at h
    subst h
    exact ⟨Int.le_refl _, by simp, fun y hy => .inl hy⟩
  | w :: ws, b, x, h => by
    refine pkG_mem (f := c.pks pl ws) (b := b) (need := c.nd w) (Pr := fun x => longF pl b ≤ longF pl x ∧ x.length = b.length + (w :: ws).length ∧ ∀ y ∈ x, y ∈ b ∨ (0 ≤ y ∧ y < pl.length)) pl.length (fun i hi x hx => ?_) pl 0 (by omega) x h
    obtain ⟨h1, h2, h3⟩ := pks_long hp ws (b ++ [(i : Int)]) x hx
    have g := gI_pl hp hi
    rw [longF_app] at h1
    simp only [longF] at h1
    refine ⟨by omega, by simp at h2 ⊢; omega, fun y hy => ?_⟩
    rcases h3 y hy with h | h
    · rcases List.mem_append.1 h with h | h
      · exact .inl h
      · simp at h; subst h; exact .inr ⟨by omega, by omega⟩
    · exact .inr h
theorem fold_stop {pl : List Int} {x : List Int × Int} : ∀ (L : List (List Int)), (∀ l ∈ L, x.2 ≤ longF pl l) → L.foldl (upd3 pl) (some x) = some x
  | [], _ => rfl
  | l :: L, h => by
    have := h l (by simp)
    rw [List.foldl_cons]
    have : upd3 pl (some x) l = some x := by simp only [upd3]; rw [if_neg (by omega)]
    rw [this]
    exact fold_stop L fun y hy => h y (by simp [hy])
theorem onG_pkG {c : Cs} {pl : List Int} {ws : List (List Int)} {list : List Int} {need : Int} (ih : ∀ (i : Nat) (b : Option (List Int × Int)), i < pl.length → c.on pl ws (list ++ [(i : Int)]) (longF pl (list ++ [(i : Int)])) b = (c.pks pl ws (list ++ [(i : Int)])).foldl (upd3 pl) b) :
    ∀ (ns : List Int) (i : Nat) (b : Option (List Int × Int)), pl.drop i = ns → onG (c.on pl ws) need list (longF pl list) ns i b = (pkG (c.pks pl ws) need list ns i).foldl (upd3 pl) b
  | [], i, b, _ => rfl
  | n :: ns, i, b, hd => by
    obtain ⟨d1, d2, d3, _⟩ := drop_tail hd
    have hg : gI pl (i : Nat) = n := by simp [gI, List.getD, d2]
    rw [onG, pkG, List.foldl_append, onG_pkG ih ns (i + 1) _ d1]
    congr 1
    by_cases h : list.contains (i : Int) = false ∧ need ≤ n
    · rw [if_pos h, if_pos ⟨h.2, h.1⟩, ← ih i b d3, longF_app]
      simp only [longF, hg, Int.add_zero]
    · rw [if_neg h, if_neg (fun e => h ⟨e.2, e.1⟩)]
      rfl
theorem on_pks {c : Cs} {pl : List Int} (hp : ∀ x ∈ pl, 1 ≤ x ∧ x ≤ 400) : ∀ (ws : List (List Int)) (list : List Int) (b : Option (List Int × Int)), c.on pl ws list (longF pl list) b = (c.pks pl ws list).foldl (upd3 pl) b
  | [], list, none => by simp [Cs.on, Cs.pks, stopB, upd3]
  | [], list, some x => by
    by_cases h : x.2 ≤ longF pl list
    · rw [fold_stop _ fun l hl => Int.le_trans h (pks_long hp [] list l hl).1]
      simp [Cs.on, stopB, h]
    · have : longF pl list < x.2 := by omega
      simp [Cs.on, Cs.pks, stopB, h, upd3, this]
  | w :: ws, list, none => by
    simp only [Cs.on, Cs.pks, stopB, Bool.false_eq_true, if_false]
    exact onG_pkG (fun i b _ => on_pks hp ws _ b) pl 0 none rfl
  | w :: ws, list, some x => by
    by_cases h : x.2 ≤ longF pl list
    · rw [fold_stop _ fun l hl => Int.le_trans h (pks_long hp (w :: ws) list l hl).1]
      simp [Cs.on, stopB, h]
    · simp only [Cs.on, Cs.pks, stopB, decide_eq_false h, Bool.false_eq_true, if_false]
      exact onG_pkG (fun i b _ => on_pks hp ws _ b) pl 0 (some x) rfl
def refP (pl : List Int) : List (List Int) → Option (List Int)
  | [] => none
  | l :: L => some (L.foldl (fun b x => if longF pl x < longF pl b then x else b) l)
theorem fold_ref {pl : List Int} : ∀ (L : List (List Int)) (l : List Int), L.foldl (upd3 pl) (some (l, longF pl l)) = some (L.foldl (fun b x => if longF pl x < longF pl b then x else b) l, longF pl (L.foldl (fun b x => if longF pl x < longF pl b then x else b) l))
  | [], l => rfl
  | x :: L, l => by
    rw [List.foldl_cons, List.foldl_cons]
    simp only [upd3]
    split
    · exact fold_ref L x
    · exact fold_ref L l
theorem pk_ref {c : Cs} {W : List (List Int)} {pl : List Int} (hp : ∀ x ∈ pl, 1 ≤ x ∧ x ≤ 400) : (c.pk W pl).map (·.1) = refP pl (c.pks pl W []) := by
  unfold Cs.pk
  have := on_pks (c := c) hp W [] none
  rw [show longF pl [] = 0 from rfl] at this
  rw [this]
  cases c.pks pl W [] with
  | nil => rfl
  | cons l L =>
    rw [List.foldl_cons]
    simp only [upd3, refP]
    rw [fold_ref]
    rfl
end S04

namespace S04
open Go Abs
/-! The rests of lines that begin so. -/
def Cs.rsO (c : Cs) (n : Int) (W : List (List Int)) : Nat → List Int → Option Int
  | a, [] => if 0 ≤ c.rest n ((W.take W.length).drop a) then some (c.rest n ((W.take W.length).drop a)) else none
  | a, b :: t => if c.rest n ((W.take b.toNat).drop a) < 0 then none else (c.rsO n W b.toNat t).map (max (c.rest n ((W.take b.toNat).drop a)))
/-! The best lines. -/
def kle (x y : List Int × Int) : Prop := x.1.length < y.1.length ∨ (x.1.length = y.1.length ∧ (x.2 < y.2 ∨ (x.2 = y.2 ∧ cmpL x.1 y.1 ≤ 0)))
def KM (S : List Int × Int → Prop) (o : Option (List Int × Int)) : Prop := match o with | none => ∀ x, ¬ S x | some l => S l ∧ ∀ x, S x → kle l x
theorem KM.congr {S T : List Int × Int → Prop} {o : Option (List Int × Int)} (e : ∀ x, S x ↔ T x) (h : KM S o) : KM T o := by
  cases o with
  | none => exact fun x hx => h x ((e x).2 hx)
  | some l => exact ⟨(e l).1 h.1, fun x hx => h.2 x ((e x).2 hx)⟩
def Cs.Ls (c : Cs) (n : Int) (W : List (List Int)) (x : List Int × Int) : Prop := ∃ t : List Int, t.Sublist (numFrom 1 (W.length - 1)) ∧ c.rsO n W 0 t = some x.2 ∧ x.1 = 0 :: t
/-! The reference. -/
def setM (N s : Nat) : List Int := (setL N s).map (· + 1)
def betL (l : List Int) (r : Int) : Option (List Int × Int) → Bool
  | none => true
  | some x => decide (l.length < x.1.length ∨ l.length = x.1.length ∧ (r < x.2 ∨ r = x.2 ∧ cmpL l x.1 < 0))
def upL (b : Option (List Int × Int)) (l : List Int) (o : Option Int) : Option (List Int × Int) := match o with
  | none => b
  | some r => if betL l r b then some (l, r) else b
def rfS (val : List Int → Option Int) (N : Nat) : Nat → Nat → Option (List Int × Int) → Option (List Int × Int)
  | 0, _, b => b
  | k + 1, s, b => rfS val N k (s + 1) (upL b (0 :: setM N s) (val (setM N s)))
end S04

namespace S04
open Go Abs
/-! What a word with blots can be. -/
def Sq (n k : Nat) (xs : List Int) : Prop := xs.length = k ∧ ∀ x ∈ xs, 0 ≤ x ∧ x < n
def flB : List Int → List Int → List Int
  | [], _ => []
  | x :: w, ys => if x = -1 then (match ys with | [] => x :: flB w [] | y :: ys => y :: flB w ys) else x :: flB w ys
def sqs (n : Nat) : Nat → List (List Int)
  | 0 => [[]]
  | k + 1 => (numFrom 0 n).flatMap fun x => (sqs n k).map (x :: ·)
def rds (n : Nat) (w : List Int) : List (List Int) := (sqs n (blF w 0).length).map (flB w)
def stB : List Int → List Int → List Int → List Int
  | w, p :: ps, x :: xs => stB (w.set p.toNat x) ps xs
  | w, _, _ => w
theorem stB_comm : ∀ (ps w xs : List Int) (p : Int) (y : Int), (∀ q ∈ ps, q.toNat ≠ p.toNat) → stB (w.set p.toNat y) ps xs = (stB w ps xs).set p.toNat y
  | [], w, xs, p, y, _ => by cases xs <;> rfl
  | q :: ps, w, [], p, y, _ => rfl
  | q :: ps, w, x :: xs, p, y, h => by
    simp only [stB]
    rw [List.set_comm _ _ (fun e => h q (by simp) e.symm), stB_comm ps _ xs p y fun q hq => h q (by simp [hq])]
def EqB (ps v w : List Int) : Prop := ∀ xs : List Int, xs.length = ps.length → stB v ps xs = stB w ps xs
theorem EqB.set {ps v w : List Int} {p : Int} (hp : ∀ q ∈ ps, q.toNat ≠ p.toNat) {x : Int} (h : EqB ps v (w.set p.toNat x)) : EqB (p :: ps) v w := by
  intro xs hx
  cases xs with
  | nil => simp at hx
  | cons y ys =>
    simp only [stB]
    rw [stB_comm ps v ys p y hp, h ys (by simpa using hx), stB_comm ps w ys p x hp, List.set_set, stB_comm ps w ys p y hp]
theorem EqB.trans {ps u v w : List Int} (h1 : EqB ps u v) (h2 : EqB ps v w) : EqB ps u w := fun xs hx => (h1 xs hx).trans (h2 xs hx)
structure RX (c : Cs) (P : List Int → Bool) (bl : List Int) (at' k : Nat) (w : List Int) (can : List Bool) (r : Bool × List Int × List Bool) : Prop where
  f : r.1 = true ↔ ∃ xs, Sq c.W.length k xs ∧ P (stB w (bl.drop at') xs) = true
  e : EqB (bl.drop at') r.2.1 w
  l : r.2.2.length = can.length
  c : ∀ j : Nat, r.2.2.getD j false = true ↔ can.getD j false = true ∨ ∃ xs, Sq c.W.length k xs ∧ P (stB w (bl.drop at') xs) = true ∧ ∃ (t : Nat) (x : Int), xs[t]? = some x ∧ j = (at' + t) * 8 + x.toNat
theorem Sq.cons {n k : Nat} {x : Int} {xs : List Int} (h : Sq n k xs) (h0 : 0 ≤ x) (h1 : x < n) : Sq n (k + 1) (x :: xs) :=
  ⟨by simp [h.1], fun z hz => by rcases List.mem_cons.1 hz with rfl | hz; exact ⟨h0, h1⟩; exact h.2 z hz⟩
end S04

namespace S04
open Go Abs
/-! The greatest rest, word by word. -/
def cmb (m : Int) (o : Option Int) : Int := match o with
  | none => -1
  | some r => max m r
structure GI (c : Cs) (n : Int) (W : List (List Int)) (l : List Int) (fin : Int) (i : Nat) (most line : Int) : Prop where
  m : -1 ≤ most
  c : (i = W.length ∧ most = fin) ∨ (i < W.length ∧ ∃ (a : Nat) (t : List Int), a ≤ i ∧ cmb most (c.rsO n W a t) = fin ∧ (∀ x : Int, (i : Int) + 1 ≤ x → (x ∈ l ↔ x ∈ t)) ∧ t.Pairwise (· < ·) ∧ (∀ x ∈ t, (i : Int) < x ∧ x < W.length) ∧
    ((a = i ∧ (i : Int) ∈ l) ∨ (a < i ∧ (i : Int) ∉ l ∧ line = n - c.rest n ((W.take i).drop a) ∧ 0 ≤ c.rest n ((W.take i).drop a))))
end S04

namespace S04
open Go Abs
/-! Which lists of plates there are, and the one that is picked. -/
def Pkv (c : Cs) (pl : List Int) : List Int → List (List Int) → List Int → Prop
  | _, [], y => y = []
  | b, w :: ws, y => ∃ (i : Nat) (ys : List Int), y = (i : Int) :: ys ∧ i < pl.length ∧ b.contains (i : Int) = false ∧ c.nd w ≤ gI pl (i : Nat) ∧ Pkv c pl (b ++ [(i : Int)]) ws ys
theorem mem_pkG {f : List Int → List (List Int)} {need : Int} {b x : List Int} : ∀ (ns : List Int) (i : Nat), x ∈ pkG f need b ns i ↔ ∃ (j : Nat) (n : Int), ns[j]? = some n ∧ b.contains ((i + j : Nat) : Int) = false ∧ need ≤ n ∧ x ∈ f (b ++ [((i + j : Nat) : Int)])
  | [], i => by simp [pkG]
  | n :: ns, i => by
    simp only [pkG, List.mem_append]
    rw [mem_pkG ns (i + 1)]
    constructor
    · rintro (h | ⟨j, m, h1, h2⟩)
      · split at h
        · rename_i h2
          exact ⟨0, n, rfl, h2.1, h2.2, h⟩
        · simp at h
      · exact ⟨j + 1, m, by simpa using h1, by rw [show i + (j + 1) = i + 1 + j by omega]; exact h2⟩
    · rintro ⟨j, m, h1, h2, h3, h4⟩
      cases j with
      | zero =>
        simp at h1
        subst h1
        left
        rw [if_pos ⟨h2, h3⟩]
        exact h4
      | succ j =>
        right
        exact ⟨j, m, by simpa using h1, by rw [show i + 1 + j = i + (j + 1) by omega]; exact ⟨h2, h3, h4⟩⟩
theorem mem_pks {c : Cs} {pl x : List Int} : ∀ (W : List (List Int)) (b : List Int), x ∈ c.pks pl W b ↔ ∃ y, x = b ++ y ∧ Pkv c pl b W y
  | [], b => by simp [Cs.pks, Pkv]
  | w :: ws, b => by
    rw [Cs.pks, mem_pkG]
    constructor
    · rintro ⟨j, n, h1, h2, h3, h4⟩
      rw [Nat.zero_add] at h2 h4
      obtain ⟨y, e, h5⟩ := (mem_pks ws _).1 h4
      have hj := (List.getElem?_eq_some_iff.1 h1).1
      refine ⟨(j : Int) :: y, by rw [e]; simp, j, y, rfl, hj, h2, ?_, h5⟩
      have := gI_get (p := pl) (i := (j : Int)) (by omega) (by omega)
      rw [Int.toNat_natCast, h1] at this
      simp only [Option.some.injEq] at this
      omega
    · rintro ⟨y, e, i, ys, rfl, hi, h2, h3, h4⟩
      have := gI_get (p := pl) (i := (i : Int)) (by omega) (by omega)
      rw [Int.toNat_natCast] at this
      refine ⟨i, _, this, by rw [Nat.zero_add]; exact h2, h3, ?_⟩
      rw [Nat.zero_add]
      exact (mem_pks ws _).2 ⟨ys, by rw [e]; simp, h4⟩
theorem cmpL_same : ∀ (a x y : List Int), cmpL (a ++ x) (a ++ y) = cmpL x y
  | [], x, y => rfl
  | z :: a, x, y => by
    simp only [List.cons_append, cmpL]
    rw [show cmpI z z = 0 by simp [cmpI], if_neg (by simp)]
    exact cmpL_same a x y
theorem pks_pw {c : Cs} {pl : List Int} : ∀ (W : List (List Int)) (b : List Int), (c.pks pl W b).Pairwise fun x y => cmpL x y ≤ 0
  | [], b => by simp [Cs.pks]
  | w :: ws, b => by
    rw [Cs.pks]
    have key : ∀ (ns : List Int) (i : Nat), (pkG (c.pks pl ws) (c.nd w) b ns i).Pairwise fun x y => cmpL x y ≤ 0 := by
      intro ns
      induction ns with
      | nil => intro i; simp [pkG]
      | cons n ns ih =>
        intro i
        simp only [pkG]
        rw [List.pairwise_append]
        refine ⟨?_, ih (i + 1), ?_⟩
        · split
          · exact pks_pw ws _
          · simp
        · intro x hx y hy
          split at hx
          · obtain ⟨x', rfl, _⟩ := (mem_pks ws _).1 hx
            obtain ⟨j, m, _, _, _, h4⟩ := (mem_pkG ns (i + 1)).1 hy
            obtain ⟨y', rfl, _⟩ := (mem_pks ws _).1 h4
            rw [List.append_assoc, List.append_assoc, cmpL_same]
            simp only [List.singleton_append, cmpL]
            have : cmpI (i : Int) ((i + 1 + j : Nat) : Int) = -1 := by unfold cmpI; rw [if_pos (by omega)]
            rw [this, if_pos (by decide)]
            decide
          · simp at hx
    exact key pl 0
theorem fold_min {pl : List Int} : ∀ (L : List (List Int)) (b : List Int), (b :: L).Pairwise (fun x y => cmpL x y ≤ 0) →
    let r := L.foldl (fun b x => if longF pl x < longF pl b then x else b) b
    r ∈ b :: L ∧ ∀ y ∈ b :: L, longF pl r < longF pl y ∨ (longF pl r = longF pl y ∧ cmpL r y ≤ 0)
  | [], b, _ => by
    refine ⟨by simp, fun y hy => ?_⟩
    simp at hy
    subst hy
    exact .inr ⟨rfl, by rw [List.foldl_nil, cmpL_refl]; decide⟩
  | x :: L, b, hp => by
    simp only [List.foldl_cons]
    rw [List.pairwise_cons, List.pairwise_cons] at hp
    obtain ⟨h1, h2, h3⟩ := hp
    by_cases e : longF pl x < longF pl b
    · rw [if_pos e]
      obtain ⟨g1, g2⟩ := fold_min L x (List.pairwise_cons.2 ⟨h2, h3⟩)
      refine ⟨by simp only [List.mem_cons] at g1 ⊢; rcases g1 with g | g; exact .inr (.inl g); exact .inr (.inr g), fun y hy => ?_⟩
      rcases List.mem_cons.1 hy with rfl | hy
      · have := g2 x (by simp)
        left
        omega
      · exact g2 y hy
    · rw [if_neg e]
      obtain ⟨g1, g2⟩ := fold_min L b (List.pairwise_cons.2 ⟨fun y hy => h1 y (by simp [hy]), h3⟩)
      refine ⟨by simp only [List.mem_cons] at g1 ⊢; rcases g1 with g | g; exact .inl g; exact .inr (.inr g), fun y hy => ?_⟩
      rcases List.mem_cons.1 hy with rfl | hy
      · exact g2 y (by simp)
      · rcases List.mem_cons.1 hy with rfl | hy
        · have hb := g2 b (by simp)
          rcases hb with hb | ⟨hb, hc⟩
          · left; omega
          · by_cases e2 : longF pl b = longF pl y
            · exact .inr ⟨by omega, cmpL_trans hc (h1 y (by simp))⟩
            · left; omega
        · exact g2 y (by simp [hy])
def PkI (c : Cs) (pl : List Int) (W : List (List Int)) (o : Option (List Int)) : Prop := match o with
  | none => ∀ y, ¬ Pkv c pl [] W y
  | some l => Pkv c pl [] W l ∧ ∀ y, Pkv c pl [] W y → longF pl l < longF pl y ∨ (longF pl l = longF pl y ∧ cmpL l y ≤ 0)
theorem pk_is {c : Cs} {W : List (List Int)} {pl : List Int} (hp : ∀ x ∈ pl, 1 ≤ x ∧ x ≤ 400) : PkI c pl W ((c.pk W pl).map (·.1)) := by
  rw [pk_ref hp]
  have hm := fun x => mem_pks (c := c) (pl := pl) (x := x) W []
  have hpw := pks_pw (c := c) (pl := pl) W []
  generalize c.pks pl W [] = L at *
  have hm' : ∀ x, x ∈ L ↔ Pkv c pl [] W x := fun x => by rw [hm]; simp
  cases L with
  | nil => exact fun y hy => by have := (hm' y).2 hy; simp at this
  | cons b L =>
    obtain ⟨h1, h2⟩ := fold_min (pl := pl) L b hpw
    exact ⟨(hm' _).1 h1, fun y hy => h2 y ((hm' y).2 hy)⟩
theorem Pkv_at {c : Cs} {pl : List Int} : ∀ (W : List (List Int)) (b y : List Int), Pkv c pl b W y → y.length = W.length ∧ ∀ (k : Nat) (x : Int) (w : List Int), y[k]? = some x → W[k]? = some w → 0 ≤ x ∧ x < pl.length ∧ c.nd w ≤ gI pl x ∧ x ∉ b ∧ x ∉ y.take k
  | [], b, y, h => by
    simp only [Pkv] at h
    subst h
    simp
  | w :: ws, b, y, h => by
    obtain ⟨i, ys, rfl, hi, h2, h3, h4⟩ := h
    obtain ⟨g1, g2⟩ := Pkv_at ws _ ys h4
    refine ⟨by simp [g1], fun k x w' hx hw => ?_⟩
    cases k with
    | zero =>
      simp at hx hw
      subst hx; subst hw
      exact ⟨by omega, by omega, h3, by simpa using h2, by simp⟩
    | succ k =>
      obtain ⟨q1, q2, q3, q4, q5⟩ := g2 k x w' (by simpa using hx) (by simpa using hw)
      simp only [List.mem_append, List.mem_singleton, not_or] at q4
      refine ⟨q1, q2, q3, q4.1, ?_⟩
      rw [List.take_succ_cons, List.mem_cons, not_or]
      exact ⟨q4.2, q5⟩
theorem Pkv_snoc {c : Cs} {pl : List Int} {w : List Int} {i : Nat} (hi : i < pl.length) (hw : c.nd w ≤ gI pl (i : Nat)) : ∀ (W : List (List Int)) (b y : List Int), Pkv c pl b W y → (i : Int) ∉ b → (i : Int) ∉ y → Pkv c pl b (W ++ [w]) (y ++ [(i : Int)])
  | [], b, y, h, h1, h2 => by
    simp only [Pkv] at h
    subst h
    exact ⟨i, [], rfl, hi, by simpa using h1, hw, rfl⟩
  | w' :: ws, b, y, h, h1, h2 => by
    obtain ⟨j, ys, rfl, hj, g2, g3, g4⟩ := h
    simp only [List.mem_cons, not_or] at h2
    refine ⟨j, ys ++ [(i : Int)], rfl, hj, g2, g3, Pkv_snoc hi hw ws _ ys g4 ?_ h2.2⟩
    simp only [List.mem_append, List.mem_singleton, not_or]
    exact ⟨h1, h2.1⟩
end S04

