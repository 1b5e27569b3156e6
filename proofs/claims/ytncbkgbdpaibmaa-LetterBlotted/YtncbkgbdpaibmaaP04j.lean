/- A part of the proof: P04j, P04k. -/
import Derived.Test.YtncbkgbdpaibmaaP04a
import Derived.Test.YtncbkgbdpaibmaaX04s
import Derived.Test.YtncbkgbdpaibmaaP04b
set_option linter.unusedVariables false
namespace S04
open Go Abs
theorem dup_nodup : ∀ (P : List (Int × Int × Int)) (K : List (Int × Int)), (K ++ P.map keyT).Nodup → dupK K P = false
  | [], _, _ => rfl
  | p :: P, K, h => by
    rw [dupK, Bool.or_eq_false_iff]
    constructor
    · rw [List.nodup_append] at h
      have := h.2.2
      simp only [List.map_cons, List.mem_cons] at this
      rw [Bool.eq_false_iff]
      intro e
      exact this (keyT p) (by simpa using e) (keyT p) (.inl rfl) rfl
    · exact dup_nodup P _ (by simpa using h)
theorem fold_nodup : ∀ (l : List (Int × Int)) (acc : List (Int × Int × Int)), (acc.map keyT).Nodup → ((l.foldl pStep acc).map keyT).Nodup
  | [], acc, h => h
  | p :: l, acc, h => by
    rw [List.foldl_cons]
    refine fold_nodup l _ ?_
    unfold pStep
    split
    · exact h
    · rename_i hn
      rw [List.map_append, List.nodup_append]
      refine ⟨h, by simp, fun a ha b hb => ?_⟩
      simp only [List.map_cons, List.map_nil, List.mem_singleton] at hb
      subst hb
      rintro rfl
      apply hn
      rw [List.mem_map] at ha
      obtain ⟨q, hq, e⟩ := ha
      rw [List.any_eq_true]
      refine ⟨q, hq, ?_⟩
      simp only [keyT, Prod.mk.injEq] at e
      simp [sameK, e.1, e.2]
theorem fold_all {G : Int × Int × Int → Prop} : ∀ (l : List (Int × Int)) (acc : List (Int × Int × Int)), (∀ p ∈ acc, G p) → (∀ p ∈ l, G (tPB p)) → ∀ p ∈ l.foldl pStep acc, G p
  | [], acc, h, _ => h
  | p :: l, acc, h, h2 => by
    rw [List.foldl_cons]
    refine fold_all l _ ?_ fun q hq => h2 q (by simp [hq])
    unfold pStep
    split
    · exact h
    · intro q hq
      rcases List.mem_append.1 hq with hq | hq
      · exact h q hq
      · simp at hq; subst hq; exact h2 p (by simp)
theorem tm_bd {x : Int} {n : Int} (h : 0 ≤ x) (hn : 0 < n) : 0 ≤ x.tmod n ∧ x.tmod n < n := ⟨Int.tmod_nonneg n h, Int.tmod_lt_of_pos x hn⟩
theorem made_ok {ws : List Int} {pl : List (Int × Int)} {f0 f1 f2 : Int} (hw : ws.length = 6) (wb : ∀ x ∈ ws, 0 ≤ x ∧ x < 256) (hb : BB pl) (b0 : 0 ≤ f0) (b1 : 0 ≤ f1) (b2 : 0 ≤ f2) : errC (madeC ws pl f0 f1 f2) = 0 ∧ (madeC ws pl f0 f1 f2).W.length = 6 := by
  have hW : (madeC ws pl f0 f1 f2).W.length = 6 := by simp [madeC, hw]
  refine ⟨?_, hW⟩
  have m0 := tm_bd b0 (show (0 : Int) < 12 by decide)
  have m1 := tm_bd b1 (show (0 : Int) < 6 by decide)
  have m2 := tm_bd b2 (show (0 : Int) < 15 by decide)
  have hP : (madeC ws pl f0 f1 f2).P.length ≤ 10 := by
    have := foldP_len (pl.take 10) []
    simp only [madeC, madeP]
    rw [List.length_take, List.length_nil] at this
    omega
  unfold errC
  rw [if_neg ?_, if_neg ?_, if_neg (by omega), if_neg ?_, if_neg ?_]
  · have : ¬ dupK [] (madeC ws pl f0 f1 f2).P = true := by
      rw [dup_nodup _ [] (by simpa [madeC, madeP] using fold_nodup (pl.take 10) [] (by simp))]
      simp
    exact fun h => this ((dup_M _).2 h)
  · have : ∀ p ∈ (madeC ws pl f0 f1 f2).P, badT (madeC ws pl f0 f1 f2).W.length p = false := by
      rw [hW]
      refine fold_all (G := fun p => badT 6 p = false) (pl.take 10) [] (by simp) fun p hp => ?_
      obtain ⟨x0, x1, y0, y1⟩ := hb p (List.mem_of_mem_take hp)
      have d1 : 0 ≤ p.1.tdiv 6 := Int.tdiv_nonneg x0 (by decide)
      have n1 := tm_bd x0 (show (0 : Int) < 6 by decide)
      have n2 := tm_bd d1 (show (0 : Int) < 6 by decide)
      have n3 := tm_bd y0 (show (0 : Int) < 11 by decide)
      simp only [badT, tPB]
      rw [inB_ok (by omega) (by omega), inB_ok (by omega) (by omega), inB_ok (by omega) (by omega)]
      rfl
    rw [List.any_eq_true]
    rintro ⟨p, hp, h⟩
    rw [this p hp] at h
    simp at h
  · simp only [madeC]
    rw [inB_ok (by omega) (by omega), inB_ok (by omega) (by omega), inB_ok (by omega) (by omega)]
    simp
  · rw [hW, inB_ok (by decide) (by decide)]
    have : (madeC ws pl f0 f1 f2).W.all (inB 1 30) = true := by
      rw [List.all_eq_true]
      intro x hx
      simp only [madeC, List.mem_map] at hx
      obtain ⟨y, hy, rfl⟩ := hx
      have := tm_bd (wb y hy).1 (show (0 : Int) < 25 by decide)
      exact inB_ok (by omega) (by omega)
    rw [this]
    simp
theorem wordF_ok {bs : List Int} (h : ∀ x ∈ bs, 0 ≤ x ∧ x < 256) : 1 ≤ (wordF bs).length ∧ (wordF bs).length ≤ 7 ∧ ∀ x ∈ wordF bs, 0 ≤ x ∧ x < 6 := by
  unfold wordF
  by_cases e : bs = []
  · rw [if_pos e]; simp
  · rw [if_neg e]
    have := List.length_pos_iff.2 e
    refine ⟨by simp; omega, by simp; omega, fun x hx => ?_⟩
    rw [List.mem_map] at hx
    obtain ⟨y, hy, rfl⟩ := hx
    exact tm_bd (h y (List.mem_of_mem_take hy)).1 (by decide)
end S04

namespace S04
open Go Abs
@[reducible] def tyA (a0 a1 a2 a3 a4 a5 : Int) (s : FV) (f0 f1 f2 : Int) : List FV := [u8 a0, u8 a1, u8 a2, u8 a3, u8 a4, u8 a5, s, u8 f0, u8 f1, u8 f2]
structure TY (x : List FV) (s : FV) (c : Cs) (sw sp : FV) : Prop where
  fn : Fn Q 50 [.fo (.agg x)] (.one (.fx (c.fv sw sp)))
  v : CV c sw sp
  e : errC c = 0
  n6 : c.W.length = 6
  r : c.R ≤ 11
  l : c.L ≤ 5
  b : c.B ≤ 14
  w : ∀ y ∈ c.W, 1 ≤ y ∧ y ≤ 25
  o : (LV.fv s).one = true
theorem made_ty {a0 a1 a2 a3 a4 a5 : Int} {s : FV} {pl : List (Int × Int)} {f0 f1 f2 : Int} (wb : ∀ x ∈ [a0, a1, a2, a3, a4, a5], 0 ≤ x ∧ x < 256) (h : lsOf s = some (pl.map pU)) (hb : BB pl) (hl : pl.length ≤ 9223372036854775807) (b0 : 0 ≤ f0 ∧ f0 < 256) (b1 : 0 ≤ f1 ∧ f1 < 256) (b2 : 0 ≤ f2 ∧ f2 < 256) :
    ∃ c sw sp, TY (tyA a0 a1 a2 a3 a4 a5 s f0 f1 f2) s c sw sp := by
  have m0 := tm_bd b0.1 (show (0 : Int) < 12 by decide)
  have m1 := tm_bd b1.1 (show (0 : Int) < 6 by decide)
  have m2 := tm_bd b2.1 (show (0 : Int) < 15 by decide)
  obtain ⟨k1, k2⟩ := made_ok (ws := [a0, a1, a2, a3, a4, a5]) rfl wb hb b0.1 b1.1 b2.1
  have hP := foldP_len (pl.take 10) []
  rw [List.length_take, List.length_nil] at hP
  refine ⟨madeC [a0, a1, a2, a3, a4, a5] pl f0 f1 f2, _, _, t50 (ws := [a0, a1, a2, a3, a4, a5]) rfl wb h hb hl b0 b1 b2, ⟨rfl, lsOf_lstN _, by simp [madeC], ?_⟩, k1, k2, ?_, ?_, ?_, ?_, ls_one h⟩
  · simp only [madeC, madeP]; omega
  · simp only [madeC]; omega
  · simp only [madeC]; omega
  · simp only [madeC]; omega
  · intro y hy
    simp only [madeC] at hy
    rw [List.mem_map] at hy
    obtain ⟨z, hz, rfl⟩ := hy
    have := tm_bd (wb z hz).1 (show (0 : Int) < 25 by decide)
    omega
theorem ws_25 {c : Cs} (h : ∀ y ∈ c.W, 1 ≤ y ∧ y ≤ 25) : ∀ w : List Int, (∀ x ∈ w, 0 ≤ x ∧ x < c.W.length) → (w.length : Int) ≤ c.ws w ∧ c.ws w ≤ 25 * w.length
  | [], _ => by simp [Cs.ws]
  | x :: xs, hb => by
    have h1 := hb x (by simp)
    have g := gI_get h1.1 h1.2
    have := h _ (List.mem_of_getElem? g)
    have := ws_25 h xs fun y hy => hb y (by simp [hy])
    simp only [Cs.ws, List.length_cons]
    omega
theorem clo_5 {L : Int} (l0 : 0 ≤ L) (l1 : L ≤ 5) : ∀ ms : List Int, bdd 5 ms → 0 ≤ clo L ms ∧ clo L ms ≤ 10 * ms.length
  | [], _ => by simp [clo]
  | m :: ms, h => by
    have := h m (by simp)
    have := clo_5 l0 l1 ms fun x hx => h x (by simp [hx])
    simp only [clo, List.length_cons]
    omega
theorem TY.nd {x : List FV} {s : FV} {c : Cs} {sw sp : FV} (t : TY x s c sw sp) {w : List Int} (hw : ∀ x ∈ w, 0 ≤ x ∧ x < c.W.length) (h1 : 1 ≤ w.length) (h7 : w.length ≤ 7) : 1 ≤ c.nd w ∧ c.nd w ≤ 257 ∧ c.nd w = c.wd w + clo c.L (c.loo w) ∧ 0 ≤ clo c.L (c.loo w) ∧ 1 ≤ c.wd w := by
  have ok := errC_ok t.e
  have h2 := ws_25 t.w w hw
  have h3 := clo_5 ok.l0 t.l _ (ok.loo w)
  rw [c.loo_len] at h3
  have h4 := ok.r0
  have h5 := t.r
  refine ⟨?_, ?_, rfl, h3.1, ?_⟩ <;> simp only [Cs.nd, Cs.wd] <;> omega
structure LayG (ms : List Int) (L all : Int) (l : List Int) (W : Int) : Prop where
  len : l.length = ms.length
  spr : sprF (lks ms l) = W
  ge : ∀ y ∈ lks ms l, L ≤ y
  nn : ∀ y ∈ l, 0 ≤ y
  sum : sumI l = all
  best : ∀ x : List Int, x.length = ms.length → (∀ y ∈ lks ms x, L ≤ y) → (∀ y ∈ x, 0 ≤ y) → sumI x = all → W ≤ sprF (lks ms x) ∧ (sprF (lks ms x) = W → ¬ cmpL x l < 0)
structure Gp (ms : List Int) (L all : Int) (x : List Int) : Prop where
  len : x.length = ms.length
  ge : ∀ (i : Nat), i < ms.length → max 0 (L - gI ms (i : Nat)) ≤ gI x (i : Nat)
  sum : sumI x = clo L ms + all
theorem Gp.looks {ms x : List Int} {L all : Int} (h : Gp ms L all x) : (∀ y ∈ lks ms x, L ≤ y) ∧ ∀ y ∈ x, 0 ≤ y := by
  have gx : ∀ i < x.length, x[i]? = some (gI x (i : Nat)) := fun i hi => by have := gI_get (p := x) (i := (i : Int)) (by omega) (by omega); simpa using this
  constructor
  · intro y hy
    obtain ⟨i, hi, e⟩ := List.getElem_of_mem hy
    have hl := lks_len ms x h.len
    have e2 := lks_at ms x i h.len _ (gx i (by omega))
    rw [List.getElem?_eq_getElem hi, e] at e2
    simp only [Option.some.injEq] at e2
    have := h.ge i (by have := h.len; omega)
    omega
  · intro y hy
    obtain ⟨i, hi, e⟩ := List.getElem_of_mem hy
    have e2 := gx i hi
    rw [List.getElem?_eq_getElem hi, e] at e2
    simp only [Option.some.injEq] at e2
    have := h.ge i (by have := h.len; omega)
    omega
end S04

