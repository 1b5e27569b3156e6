/- A part of the proof: G07v, G07w, G07x. -/
import Derived.Test.YtmanbdacloeioaaG07s
set_option linter.unusedVariables false
set_option linter.unusedSimpArgs false
set_option maxRecDepth 20000
namespace S07
open Go Abs
def askF (f : Nat → Int) : Nat → Nat → Int × Int → Int × Int
  | 0, _, r => r
  | n + 1, p, r => askF f n (p + 1) (if f p < r.2 then ((p : Int), f p) else r)
def askR (N : Int) (H A : List (Int × Int)) (W : List (List Int)) (s : List Int) (most : Int) : Int × Int :=
  askF (fun p => (alOf N H A).leftR W s most p (meantR N H A W s most)) s.length 0 (0, ((meantR N H A W s most).length : Nat))
def errK (N : Int) (H A : List (Int × Int)) (W : List (List Int)) (s : List Int) (most : Int) : Int :=
  if errM N H A W s most ≠ 0 then errM N H A W s most else if (askR N H A W s most).2 = ((meantR N H A W s most).length : Nat) then 6 else 0
theorem meantF_mem {q : Al} {s : List Int} {most : Int} : ∀ (W : List (List Int)) (k : Nat) (i : Int), i ∈ q.meantF s most W k → (k : Int) ≤ i ∧ i < ((k + W.length : Nat) : Int) ∧ q.isMeant s most (W.getD (i.toNat - k) []) = true
  | [], k, i, h => by simp [Al.meantF] at h
  | w :: ws, k, i, h => by
    have step : i ∈ q.meantF s most ws (k + 1) → (k : Int) ≤ i ∧ i < ((k + (w :: ws).length : Nat) : Int) ∧ q.isMeant s most ((w :: ws).getD (i.toNat - k) []) = true := by
      intro h
      obtain ⟨h1, h2, h3⟩ := meantF_mem ws (k + 1) i h
      refine ⟨by omega, by simp only [List.length_cons]; omega, ?_⟩
      have : i.toNat - k = (i.toNat - (k + 1)) + 1 := by omega
      rw [this]
      simpa using h3
    unfold Al.meantF at h
    split at h
    · rename_i hm
      rcases List.mem_cons.1 h with rfl | h
      · exact ⟨by omega, by simp only [List.length_cons]; omega, by simpa using hm⟩
      · exact step h
    · exact step h
theorem meantF_len {q : Al} {s : List Int} {most : Int} : ∀ (W : List (List Int)) (k : Nat), (q.meantF s most W k).length ≤ W.length
  | [], _ => by simp [Al.meantF]
  | w :: ws, k => by
    have := meantF_len (q := q) (s := s) (most := most) ws (k + 1)
    unfold Al.meantF
    split <;> simp <;> omega
theorem mean_ok {q : Al} {W : List (List Int)} {s : List Int} {most : Int} {wl : List FV} (hw2 : wl.map FV.toL = W) (hw3 : ∀ x ∈ wl, ∃ l : List Int, lsOf x = some (ints l) ∧ l.length ≤ 9223372036854775807) (h5 : W.length ≤ 5) (hww : ∀ w ∈ W, WordOk q.N w) : MeanOk q W s (q.meantF s most W 0) wl := by
  refine ⟨hw2, hw3, fun i hi => ?_, by have := meantF_len (q := q) (s := s) (most := most) W 0; omega⟩
  obtain ⟨h1, h2, h3⟩ := meantF_mem W 0 i hi
  simp only [Nat.sub_zero, Nat.zero_add] at h2 h3
  have h4 : W[i.toNat]? = some (W.getD i.toNat []) := by
    have : i.toNat < W.length := by omega
    simp [List.getD, List.getElem?_eq_getElem this]
  simp only [Al.isMeant, Bool.and_eq_true, decide_eq_true_eq] at h3
  exact ⟨by omega, h2, h3.1, hww _ (List.mem_of_getElem? h4)⟩
theorem t19 {s : FV} {N : Int} {hs al sW ss : FV} {H A : List (Int × Int)} {W : List (List Int)} {sg : List Int} {most : Int} (v : SetV s N hs al H A) (hW : Lists sW W) (hl : W.length ≤ 9223372036854775807) (h2 : lsOf ss = some (ints sg)) (hl2 : sg.length ≤ 9223372036854775807) :
    Fn Q 19 [.fo s, .fo sW, .fo ss, .fo (.int most)] (.tup [.fx (.int (if errK N H A W sg most = 0 then (askR N H A W sg most).1 else 0)), .fx (.int (if errK N H A W sg most = 0 then (askR N H A W sg most).2 else 0)), .fx (.int (errK N H A W sg most))]) := by
  have c := t60 v hW hl h2 hl2 (most := most)
  have os := ls_one h2
  have fs' := ls_lcells h2
  obtain ⟨wl, hw1, hw2, hw3⟩ := hW
  have ow := ls_one hw1
  have fw := ls_lcells hw1
  obtain ⟨rfl, hH, hA, lH, lA⟩ := v
  have o1 := ls_one hH
  have o2 := ls_one hA
  by_cases e : errM N H A W sg most = 0
  · obtain ⟨eA, h5, hww, es, m0, m1, _⟩ := errM_ok e
    have ok := alOf_ok eA
    have M := mean_ok (q := alOf N H A) (s := sg) (most := most) hw2 hw3 h5 hww
    have c61 := fun p hp => t61 (p := p) ok (hs := hs) (al := al) (ss := ss) (most := most) hw1 h2 M hp m0 m1
    rw [show (alOf N H A).meantF sg most W 0 = meantR N H A W sg most from rfl] at c61 M
    have few := M.few
    have ol := lstN_one (ints (meantR N H A W sg most))
    have fl := ls_lcells (lsOf_lstN (ints (meantR N H A W sg most)))
    have hml := lsOf_lstN (ints (meantR N H A W sg most))
    rw [meanR, if_pos e, e] at c
    have eK : errK N H A W sg most = if (askR N H A W sg most).2 = ((meantR N H A W sg most).length : Nat) then 6 else 0 := by simp [errK, e]
    have eA2 : askR N H A W sg most = askF (fun p => (alOf N H A).leftR W sg most p (meantR N H A W sg most)) sg.length 0 (0, ((meantR N H A W sg most).length : Nat)) := rfl
    rw [eK]
    generalize hR : askR N H A W sg most = R at *
    generalize meantR N H A W sg most = mt at *
    generalize hf : (fun p => (alOf N H A).leftR W sg most p mt) = f at *
    have hfp : ∀ p, (alOf N H A).leftR W sg most p mt = f p := fun p => by rw [← hf]
    simp only [hfp] at c61
    generalize lstN (ints mt) = sm at *
    refine w19 ?_
    dsimp only [c19, sop, gop, nop, qmv, qsg, qex, qld, qcl, qln, qix, qbo, qt, qi]
    simp -implicitDefEqProofs only [go_sem, simprocAttr, o1, o2]
    refine call1 [] false (c) ?_
    simp -implicitDefEqProofs only [go_sem, simprocAttr, meanV, Al.fv, alphaV, os, ow, fw, fs', ol, fl, lenV_ls hml, lenV_ls h2]
    refine lpL (β := Int × Int) 30 [12, 13, 8, 9] 30 [] sg (by omega) (fun ys k r => askF f ys.length k r = R) (fun k r ρ h => ρ 30 = .fv (.int k) ∧ ρ 8 = .fv (.int r.1) ∧ ρ 9 = .fv (.int r.2)) (0, (mt.length : Nat)) eA2.symm ?_ ?_ ?_
    · simp -implicitDefEqProofs only [go_sem, simprocAttr]
    · rintro r ρ h er ⟨r30, r8, r9⟩
      simp only [List.length_nil, askF] at er
      subst er
      by_cases ek : r.2 = (mt.length : Nat)
      · have ek' : (r.2 == ((mt.length : Nat) : Int)) = true := by simpa using ek
        simp -implicitDefEqProofs only [go_sem, simprocAttr, r30, r8, r9, lenV_ls hml, ek']
        refine ret_tup (fun _ => true) ?_ (by simp [ownNames])
        simp -implicitDefEqProofs only [go_sem, simprocAttr, ek]
      · have ek' : (r.2 == ((mt.length : Nat) : Int)) = false := by simpa using ek
        simp -implicitDefEqProofs only [go_sem, simprocAttr, r30, r8, r9, lenV_ls hml, ek']
        refine ret_tup (fun _ => true) ?_ (by simp [ownNames])
        simp -implicitDefEqProofs only [go_sem, simprocAttr, ek]
    · rintro y ys k r ρ h hx hk hm hk' hw' er ⟨r30, r8, r9⟩
      rw [List.length_cons, askF] at er
      by_cases hc : f k < r.2
      · rw [if_pos hc] at er
        simp -implicitDefEqProofs only [go_sem, simprocAttr, r30, hk']
        refine call1 [] false (c61 k hk) ?_
        simp -implicitDefEqProofs only [go_sem, simprocAttr, r8, r9, hc, r30, hw']
        refine nxtL ((k : Int), f k) er ?_
        simp -implicitDefEqProofs only [go_sem, simprocAttr]
      · rw [if_neg hc] at er
        simp -implicitDefEqProofs only [go_sem, simprocAttr, r30, hk']
        refine call1 [] false (c61 k hk) ?_
        simp -implicitDefEqProofs only [go_sem, simprocAttr, r8, r9, hc, r30, hw']
        refine nxtL r er ?_
        simp -implicitDefEqProofs only [go_sem, simprocAttr, r8, r9]
  · have e' : (errM N H A W sg most != 0) = true := by simpa using e
    have eK : errK N H A W sg most = errM N H A W sg most := by simp [errK, e]
    rw [meanR, if_neg e] at c
    by_cases e7 : errM N H A W sg most = 7
    · rw [if_pos e7, e7] at c
      refine w19 ?_
      dsimp only [c19, sop, gop, nop, qmv, qsg, qex, qld, qcl, qln, qix, qbo, qt, qi]
      simp -implicitDefEqProofs only [go_sem, simprocAttr, o1, o2]
      refine call1 [] false (c) ?_
      simp -implicitDefEqProofs only [go_sem, simprocAttr, meanV, Al.fv, alphaV, os, ow, fw, fs']
      refine ret_tup (fun _ => true) ?_ (by simp [ownNames])
      simp -implicitDefEqProofs only [go_sem, simprocAttr, eK, e7]
    · rw [if_neg e7] at c
      refine w19 ?_
      dsimp only [c19, sop, gop, nop, qmv, qsg, qex, qld, qcl, qln, qix, qbo, qt, qi]
      simp -implicitDefEqProofs only [go_sem, simprocAttr, o1, o2]
      refine call1 [] false (c) ?_
      simp -implicitDefEqProofs only [go_sem, simprocAttr, meanZ, e']
      refine ret_tup (fun _ => true) ?_ (by simp [ownNames])
      simp -implicitDefEqProofs only [go_sem, simprocAttr, eK, e]
/-! Helpers of the laws. -/
theorem t17 {s : FV} {l : List Int} (h : lsOf s = some (ints l)) (hl : l.length ≤ 1000000) : Fn Q 17 [.fo s] (.one (.fx (.list false (ints l)))) := by
  rcases ls_cases h with ⟨f, rfl⟩ | ⟨rfl, e⟩
  · refine w17 ?_
    dsimp only [c17, sop, gop, nop, qmv, qsg, qex, qld, qcl, qln, qix, qbo, qt, qi]
    simp -implicitDefEqProofs only [go_sem, simprocAttr]
    refine app_gl (by simp -implicitDefEqProofs only [go_sem, simprocAttr]; rfl) idx_26 (by simp -implicitDefEqProofs only [go_sem, simprocAttr]) (fun x hx => (ints_elem l x hx).1) (by simp -implicitDefEqProofs only [go_sem, simprocAttr]) (by simp [byt_3, ints]; omega) (by simp [maxLen, ints]; omega) (by simp) ?_
    simp -implicitDefEqProofs only [go_sem, simprocAttr]
    exact ret_fx (fun _ => true) (by simp -implicitDefEqProofs only [go_sem, simprocAttr])
  · refine w17 ?_
    dsimp only [c17, sop, gop, nop, qmv, qsg, qex, qld, qcl, qln, qix, qbo, qt, qi]
    simp -implicitDefEqProofs only [go_sem, simprocAttr]
    refine app_none (by simp -implicitDefEqProofs only [go_sem, simprocAttr]; rfl) idx_26 ?_
    simp -implicitDefEqProofs only [go_sem, simprocAttr]
    exact ret_fx (fun _ => true) (by simp -implicitDefEqProofs only [go_sem, simprocAttr, e])
def I64 (n : Int) : Prop := -9223372036854775808 ≤ n ∧ n ≤ 9223372036854775807
def ordF : List Int → List Int → Int
  | x :: xs, y :: ys => if x = y then ordF xs ys else IntKind.i64.wrap (x - y)
  | xs, ys => (xs.length : Int) - (ys.length : Int)
theorem wrap_ne {x y : Int} (h1 : I64 x) (h2 : I64 y) (h : x ≠ y) : IntKind.i64.wrap (x - y) ≠ 0 := by
  unfold IntKind.wrap I64 at *
  simp [IntKind.signed, IntKind.bits]
  omega
theorem ordF_eq : ∀ (a b : List Int), (∀ n ∈ a, I64 n) → (∀ n ∈ b, I64 n) → (ordF a b = 0 ↔ a = b)
  | [], [], _, _ => by simp [ordF]
  | [], y :: ys, _, _ => by simp [ordF]; omega
  | x :: xs, [], _, _ => by simp [ordF]; omega
  | x :: xs, y :: ys, ha, hb => by
    have ih := ordF_eq xs ys (fun n hn => ha n (by simp [hn])) (fun n hn => hb n (by simp [hn]))
    unfold ordF
    split
    · rename_i e; subst e; rw [ih]; simp
    · rename_i e
      have := wrap_ne (ha x (by simp)) (hb y (by simp)) e
      simp [this, e]
theorem t62 {sa sb : FV} {a b : List Int} (h1 : lsOf sa = some (ints a)) (h2 : lsOf sb = some (ints b)) (l1 : a.length ≤ 1000000) (l2 : b.length ≤ 1000000) : Fn Q 62 [.fo sa, .fo sb] (.one (.fx (.int (ordF a b)))) := by
  refine w62 ?_
  dsimp only [c62, sop, gop, nop, qmv, qsg, qex, qld, qcl, qln, qix, qbo, qt, qi]
  simp -implicitDefEqProofs only [go_sem, simprocAttr]
  refine lpH 6 [5] 6 [] (fun k : Nat => a.length - k) (fun k => k ≤ a.length ∧ k ≤ b.length ∧ ordF a b = ordF (a.drop k) (b.drop k)) (fun k ρ h => ρ 5 = .fv (.int k)) 0 ⟨Nat.zero_le _, Nat.zero_le _, rfl⟩ ?_ ?_
  · simp -implicitDefEqProofs only [go_sem, simprocAttr]
  · rintro k ρ h ⟨ka, kb, e⟩ r5
    have wl : IntKind.i64.wrap ((a.length : Int) - (b.length : Int)) = (a.length : Int) - (b.length : Int) := wr _ (by omega) (by omega)
    by_cases q1 : k < a.length
    · have q1' : (k : Int) < (a.length : Nat) := by omega
      by_cases q2 : k < b.length
      · have q2' : (k : Int) < (b.length : Nat) := by omega
        obtain ⟨x, hx⟩ : ∃ x, a[k]? = some x := ⟨_, List.getElem?_eq_getElem q1⟩
        obtain ⟨y, hy⟩ : ∃ y, b[k]? = some y := ⟨_, List.getElem?_eq_getElem q2⟩
        rw [drop_get hx, drop_get hy, ordF] at e
        have hw : IntKind.i64.wrap ((k : Int) + 1) = ((k + 1 : Nat) : Int) := wr _ (by omega) (by omega)
        by_cases hxy : x = y
        · subst hxy
          rw [if_pos rfl] at e
          simp -implicitDefEqProofs only [go_sem, simprocAttr, r5, lenV_ls h1, lenV_ls h2, q1', q2', index_map h1 idx_26 hx rfl, index_map h2 idx_26 hy rfl, hw]
          refine nxt (k + 1) (by omega) ⟨by omega, by omega, e⟩ ?_
          simp -implicitDefEqProofs only [go_sem, simprocAttr]
        · have hxy' : (x != y) = true := by simpa using hxy
          rw [if_neg hxy] at e
          simp -implicitDefEqProofs only [go_sem, simprocAttr, r5, lenV_ls h1, lenV_ls h2, q1', q2', index_map h1 idx_26 hx rfl, index_map h2 idx_26 hy rfl, hxy']
          exact ret_eq (by rw [e])
      · have q2' : ¬ (k : Int) < (b.length : Nat) := by omega
        simp -implicitDefEqProofs only [go_sem, simprocAttr, r5, lenV_ls h1, lenV_ls h2, q1', q2', wl]
        have e0 : b.drop k = [] := by simp; omega
        rw [e0] at e
        refine ret_eq ?_
        rw [e]
        have : ordF (a.drop k) [] = ((a.drop k).length : Int) - 0 := by cases a.drop k <;> simp [ordF]
        rw [this]
        have : (a.drop k).length = a.length - k := by simp
        rw [this]
        congr 2
        omega
    · have q1' : ¬ (k : Int) < (a.length : Nat) := by omega
      simp -implicitDefEqProofs only [go_sem, simprocAttr, r5, lenV_ls h1, lenV_ls h2, q1', wl]
      have e0 : a.drop k = [] := by simp; omega
      rw [e0] at e
      refine ret_eq ?_
      rw [e]
      have : ordF [] (b.drop k) = 0 - ((b.drop k).length : Int) := by cases b.drop k <;> simp [ordF]
      rw [this]
      have : (b.drop k).length = b.length - k := by simp
      rw [this]
      congr 2
      omega
theorem t22 {sa sb : FV} {a b : List Int} (h1 : lsOf sa = some (ints a)) (h2 : lsOf sb = some (ints b)) (l1 : a.length ≤ 1000000) (l2 : b.length ≤ 1000000) (ha : ∀ n ∈ a, I64 n) (hb : ∀ n ∈ b, I64 n) : Fn Q 22 [.fo sa, .fo sb] (.one (.fx (.bool (decide (a = b))))) := by
  have e : (ordF a b == 0) = decide (a = b) := by
    rw [Bool.eq_iff_iff]
    simp [ordF_eq a b ha hb]
  refine w22 ?_
  dsimp only [c22, sop, gop, nop, qmv, qsg, qex, qld, qcl, qln, qix, qbo, qt, qi]
  simp -implicitDefEqProofs only [go_sem, simprocAttr]
  refine call1 [] false (t62 h1 h2 l1 l2) ?_
  simp -implicitDefEqProofs only [go_sem, simprocAttr, e]
  exact ret_fv
end S07

namespace S07
open Go Abs
theorem t48 {s : FV} {l : List Int} (h : lsOf s = some (ints l)) (hl : l.length ≤ 1000000) : Fn Q 48 [.fo s] (.one (.fx (.list false (ints l)))) := by
  refine w48 ?_
  dsimp only [c48, sop, gop, nop, qmv, qsg, qex, qld, qcl, qln, qix, qbo, qt, qi]
  simp -implicitDefEqProofs only [go_sem, simprocAttr]
  refine lpH 5 [3, 4] 5 [] (fun k : Nat => l.length - k) (fun k => k ≤ l.length) (fun k ρ h => ρ 4 = .fv (.int k) ∧ ρ 3 = .gl 5 (h.gen 5) ∧ h.obj 5 = some (.list 3 1 false false (ints (l.take k)))) 0 (Nat.zero_le _) ?_ ?_
  · simp -implicitDefEqProofs only [go_sem, simprocAttr, List.take_zero, ints]
  · rintro k ρ h' hk ⟨r4, r3, o5⟩
    by_cases q1 : k < l.length
    · have q1' : (k : Int) < (l.length : Nat) := by omega
      obtain ⟨x, hx⟩ : ∃ x, l[k]? = some x := ⟨_, List.getElem?_eq_getElem q1⟩
      have hw : IntKind.i64.wrap ((k : Int) + 1) = ((k + 1 : Nat) : Int) := wr _ (by omega) (by omega)
      have et : l.take (k + 1) = l.take k ++ [x] := by rw [List.take_add_one, hx]; rfl
      simp -implicitDefEqProofs only [go_sem, simprocAttr, r4, r3, lenV_ls h, q1', index_map h idx_82 hx rfl]
      refine app_gl (by simp -implicitDefEqProofs only [go_sem, simprocAttr, o5]; rfl) idx_26 (by simp -implicitDefEqProofs only [go_sem, simprocAttr]; rfl) (by simp [FV.cells]) (by simp -implicitDefEqProofs only [go_sem, simprocAttr]) (by simp [byt_3, ints]; omega) (by simp [maxLen, ints]; omega) (by simp) ?_
      simp -implicitDefEqProofs only [go_sem, simprocAttr, r4, hw]
      refine nxt (k + 1) (by omega) (by omega) ?_
      simp -implicitDefEqProofs only [go_sem, simprocAttr, et, ints, List.map_append]
    · have q1' : ¬ (k : Int) < (l.length : Nat) := by omega
      have et : l.take k = l := List.take_of_length_le (by omega)
      simp -implicitDefEqProofs only [go_sem, simprocAttr, r4, r3, lenV_ls h, q1']
      exact ret_fx (fun _ => true) (by simp -implicitDefEqProofs only [go_sem, simprocAttr, o5, et])
theorem lists_get {s : FV} {W : List (List Int)} {wl : List FV} (hw2 : wl.map FV.toL = W) (hw3 : ∀ x ∈ wl, ∃ l : List Int, lsOf x = some (ints l) ∧ l.length ≤ 9223372036854775807) {k : Nat} {x : FV} (hx : wl[k]? = some x) : ∃ l, lsOf x = some (ints l) ∧ W[k]? = some l ∧ x.cells = [x] := by
  obtain ⟨l, hl, _⟩ := hw3 x (List.mem_of_getElem? hx)
  refine ⟨l, hl, ?_, ls_cells hl⟩
  rw [← hw2, List.getElem?_map, hx, Option.map_some, toL_ls hl]
theorem t21 {sa sb : FV} {A B : List (List Int)} (h1 : Lists sa A) (h2 : Lists sb B) (l1 : A.length ≤ 1000000) (l2 : B.length ≤ 1000000) (lA : ∀ l ∈ A, l.length ≤ 1000000 ∧ ∀ n ∈ l, I64 n) (lB : ∀ l ∈ B, l.length ≤ 1000000 ∧ ∀ n ∈ l, I64 n) : Fn Q 21 [.fo sa, .fo sb] (.one (.fx (.bool (decide (A = B))))) := by
  obtain ⟨wa, a1, a2, a3⟩ := h1
  obtain ⟨wb, b1, b2, b3⟩ := h2
  have la : wa.length = A.length := by rw [← a2]; simp
  have lb : wb.length = B.length := by rw [← b2]; simp
  by_cases hl : A.length = B.length
  · have hl' : (((A.length : Nat) : Int) != (B.length : Nat)) = false := by simp [hl]
    refine w21 ?_
    dsimp only [c21, sop, gop, nop, qmv, qsg, qex, qld, qcl, qln, qix, qbo, qt, qi]
    simp -implicitDefEqProofs only [go_sem, simprocAttr, lenV_ls a1, lenV_ls b1, la, lb, hl']
    refine lpH 6 [5] 6 [] (fun k : Nat => A.length - k) (fun k => k ≤ A.length ∧ A.take k = B.take k) (fun k ρ h => ρ 5 = .fv (.int k)) 0 ⟨Nat.zero_le _, by simp⟩ ?_ ?_
    · simp -implicitDefEqProofs only [go_sem, simprocAttr]
    · rintro k ρ h' ⟨hk, et⟩ r5
      by_cases q1 : k < A.length
      · have q1' : (k : Int) < (A.length : Nat) := by omega
        have ka : k < wa.length := by omega
        have kb : k < wb.length := by omega
        obtain ⟨x, hx⟩ : ∃ x, wa[k]? = some x := ⟨_, List.getElem?_eq_getElem ka⟩
        obtain ⟨y, hy⟩ : ∃ y, wb[k]? = some y := ⟨_, List.getElem?_eq_getElem kb⟩
        obtain ⟨a, ha1, ha2, ha3⟩ := lists_get (s := sa) a2 a3 hx
        obtain ⟨b, hb1, hb2, hb3⟩ := lists_get (s := sb) b2 b3 hy
        have qa := lA a (List.mem_of_getElem? ha2)
        have qb := lB b (List.mem_of_getElem? hb2)
        have c22 := t22 ha1 hb1 qa.1 qb.1 qa.2 qb.2
        have hw : IntKind.i64.wrap ((k : Int) + 1) = ((k + 1 : Nat) : Int) := wr _ (by omega) (by omega)
        by_cases hab : a = b
        · have e1 : decide (a = b) = true := by simpa using hab
          rw [e1] at c22
          simp -implicitDefEqProofs only [go_sem, simprocAttr, r5, lenV_ls a1, la, q1', index_ls a1 idx_25 hx (by rw [ha3]; rfl), index_ls b1 idx_25 hy (by rw [hb3]; rfl), ha3, hb3]
          refine call1 [] false (c22) ?_
          simp -implicitDefEqProofs only [go_sem, simprocAttr, r5, hw]
          refine nxt (k + 1) (by omega) ⟨by omega, by rw [List.take_add_one, List.take_add_one, et, ha2, hb2, hab]⟩ ?_
          simp -implicitDefEqProofs only [go_sem, simprocAttr]
        · have e1 : decide (a = b) = false := by simpa using hab
          rw [e1] at c22
          simp -implicitDefEqProofs only [go_sem, simprocAttr, r5, lenV_ls a1, la, q1', index_ls a1 idx_25 hx (by rw [ha3]; rfl), index_ls b1 idx_25 hy (by rw [hb3]; rfl), ha3, hb3]
          refine call1 [] false (c22) ?_
          simp -implicitDefEqProofs only [go_sem, simprocAttr]
          have : ¬ A = B := by rintro rfl; rw [ha2] at hb2; simp at hb2; exact hab hb2
          exact ret_eq (by simp [this])
      · have q1' : ¬ (k : Int) < (A.length : Nat) := by omega
        simp -implicitDefEqProofs only [go_sem, simprocAttr, r5, lenV_ls a1, la, q1']
        have e1 : A = B := by
          have h1 : A.take k = A := List.take_of_length_le (by omega)
          have h2 : B.take k = B := List.take_of_length_le (by omega)
          rw [h1, h2] at et; exact et
        exact ret_eq (by simp [e1])
  · have hl' : (((A.length : Nat) : Int) != (B.length : Nat)) = true := by simp; omega
    have : ¬ A = B := by rintro rfl; exact hl rfl
    refine w21 ?_
    dsimp only [c21, sop, gop, nop, qmv, qsg, qex, qld, qcl, qln, qix, qbo, qt, qi]
    simp -implicitDefEqProofs only [go_sem, simprocAttr, lenV_ls a1, lenV_ls b1, la, lb, hl']
    exact ret_eq (by simp [this])
def HK : List (Int × Int) := [(0, 1), (2, 2), (3, 3)]
def AK : List (Int × Int) := [(0, 2), (3, 4)]
def setK : FV := .agg [.int 5, .list false (HK.map pF), .list false (AK.map pF)]
theorem setK_v : SetV setK 5 (.list false (HK.map pF)) (.list false (AK.map pF)) HK AK := ⟨rfl, rfl, rfl, by decide, by decide⟩
def WK : List (List Int) := [[0, 3, 4], [1, 3, 4], [2, 3, 4], [0, 4, 3]]
def CK : List (List Int) := [[1, 0, 1, 1, 1], [0, 1, 1, 0, 2], [2, 0, 0, 1, 0]]
def lsV (W : List (List Int)) : FV := .list false (lsF W)
theorem lsV_lists (W : List (List Int)) (h : ∀ l ∈ W, l.length ≤ 9223372036854775807) : Lists (lsV W) W := by
  refine ⟨lsF W, rfl, ?_, ?_⟩
  · simp only [lsF, List.map_map]
    rw [List.map_congr_left (g := id), List.map_id]
    intro l _
    exact toI_ints l
  · intro x hx
    obtain ⟨l, hl, rfl⟩ := List.mem_map.1 hx
    exact ⟨l, rfl, h l hl⟩
theorem t57 : Fn Q 57 [] (.one (.fx setK)) := by
  refine w57 ?_
  dsimp only [c57, sop, gop, nop, qmv, qsg, qex, qld, qcl, qln, qix, qbo, qt, qi]
  simp -implicitDefEqProofs only [go_sem, simprocAttr]
  exact ret_fx (fun _ => true) (by simp -implicitDefEqProofs only [go_sem, simprocAttr, setK, HK, AK, pF])
theorem t58 : Fn Q 58 [] (.one (.fx (lsV WK))) := by
  refine w58 ?_
  dsimp only [c58, sop, gop, nop, qmv, qsg, qex, qld, qcl, qln, qix, qbo, qt, qi]
  simp -implicitDefEqProofs only [go_sem, simprocAttr]
  exact ret_fx (fun _ => true) (by simp -implicitDefEqProofs only [go_sem, simprocAttr, lsV, lsF, WK, ints])
theorem t59 : Fn Q 59 [] (.one (.fx (lsV CK))) := by
  refine w59 ?_
  dsimp only [c59, sop, gop, nop, qmv, qsg, qex, qld, qcl, qln, qix, qbo, qt, qi]
  simp -implicitDefEqProofs only [go_sem, simprocAttr]
  exact ret_fx (fun _ => true) (by simp -implicitDefEqProofs only [go_sem, simprocAttr, lsV, lsF, CK, ints])
def sK : List Int := [1, 3, 4]
def fK : List Int := [1, 0, 1, 1, 1]
theorem small {l : List Int} (h : (l.all fun n => decide (-1000 ≤ n) && decide (n ≤ 1000)) = true) : ∀ n ∈ l, I64 n := by
  intro n hn
  have := List.all_eq_true.1 h n hn
  simp only [Bool.and_eq_true, decide_eq_true_eq] at this
  unfold I64; omega
theorem kI22 (a b : List Int) {f g : Bool} (l1 : a.length ≤ 1000000) (l2 : b.length ≤ 1000000) (ha : (a.all fun n => decide (-1000 ≤ n) && decide (n ≤ 1000)) = true) (hb : (b.all fun n => decide (-1000 ≤ n) && decide (n ≤ 1000)) = true) : Fn Q 22 [.fo (.list f (ints a)), .fo (.list g (ints b))] (.one (.fx (.bool (decide (a = b))))) :=
  t22 rfl rfl l1 l2 (small ha) (small hb)
theorem v45 : Fn Q 45 [.fo setK, .fo (.list false (ints [0, 3, 4])), .fo (.list false (ints sK))] (.tup [.fx (.list false [.list false (ints [1]), .list false (ints [0, 1]), .list false (ints [0])]), .fx (.int 0)]) := by
  have c := t45 setK_v (sw := .list false (ints [0, 3, 4])) (ss := .list false (ints sK)) (w := [0, 3, 4]) (sg := sK) rfl (by decide) rfl (by decide)
  rw [show errR 5 HK AK [0, 3, 4] sK = 0 from by decide +kernel, show (alOf 5 HK AK).waysR [0, 3, 4] sK = [[1], [0, 1], [0]] from by decide +kernel] at c
  exact c
theorem v47 : Fn Q 47 [.fo setK, .fo (.list false (ints [0, 3, 4])), .fo (.list false (ints sK))] (.tup [.fx (.list false (ints [1, 0, 0])), .fx (.int 1), .fx (.int 0)]) := by
  have c := t47 setK_v (sw := .list false (ints [0, 3, 4])) (ss := .list false (ints sK)) (w := [0, 3, 4]) (sg := sK) rfl (by decide) rfl (by decide)
  rw [show errF 5 HK AK [0, 3, 4] sK = 0 from by decide +kernel, show fewR 5 HK AK [0, 3, 4] sK = some ([1, 0, 0], 1) from by decide +kernel] at c
  exact c
theorem wkl : ∀ l ∈ WK, l.length ≤ 9223372036854775807 := by intro l hl; simp [WK] at hl; rcases hl with rfl | rfl | rfl | rfl <;> simp
theorem ckl : ∀ l ∈ CK, l.length ≤ 9223372036854775807 := by intro l hl; simp [CK] at hl; rcases hl with rfl | rfl | rfl <;> simp
theorem v18a : Fn Q 18 [.fo setK, .fo (lsV WK), .fo (.list false (ints sK)), .fo (.int 1)] (.tup [.fx (.list false (ints [0, 1])), .fx (.int 0)]) := by
  have c := t18 setK_v (lsV_lists WK wkl) (by decide) (ss := .list false (ints sK)) (sg := sK) rfl (by decide) (most := 1)
  rw [show errM 5 HK AK WK sK 1 = 0 from by decide +kernel, show meantR 5 HK AK WK sK 1 = [0, 1] from by decide +kernel] at c
  exact c
theorem v18b : Fn Q 18 [.fo setK, .fo (lsV WK), .fo (.list false (ints sK)), .fo (.int 2)] (.tup [.fx (.list false (ints [0, 1, 2])), .fx (.int 0)]) := by
  have c := t18 setK_v (lsV_lists WK wkl) (by decide) (ss := .list false (ints sK)) (sg := sK) rfl (by decide) (most := 2)
  rw [show errM 5 HK AK WK sK 2 = 0 from by decide +kernel, show meantR 5 HK AK WK sK 2 = [0, 1, 2] from by decide +kernel] at c
  exact c
theorem v19 : Fn Q 19 [.fo setK, .fo (lsV WK), .fo (.list false (ints sK)), .fo (.int 2)] (.tup [.fx (.int 0), .fx (.int 2), .fx (.int 0)]) := by
  have c := t19 setK_v (lsV_lists WK wkl) (by decide) (ss := .list false (ints sK)) (sg := sK) rfl (by decide) (most := 2)
  rw [show errK 5 HK AK WK sK 2 = 0 from by decide +kernel, show askR 5 HK AK WK sK 2 = (0, 2) from by decide +kernel] at c
  exact c
theorem v29 : Fn Q 29 [.fo setK, .fo (.list false (ints fK)), .fo (.list false (ints sK))] (.tup [.fx (.list false (ints [0, 3, 4])), .fx (.int 0)]) := by
  have c := t29 setK_v (sc := .list false (ints fK)) (sw := .list false (ints sK)) (c := fK) (w := sK) rfl (by decide) rfl (by decide)
  rw [show errLay 5 HK AK fK sK = 0 from by decide +kernel, show (alOf 5 HK AK).layF sK fK = [0, 3, 4] from by decide +kernel] at c
  exact c
theorem v30 : Fn Q 30 [.fo setK, .fo (.list false (ints fK)), .fo (.list false (ints [0, 1]))] (.tup [.fx (.list false (ints [0])), .fx (.int 0)]) := by
  have c := t30 setK_v (sc := .list false (ints fK)) (sw := .list false (ints [0, 1])) (c := fK) (w := [0, 1]) rfl (by decide) rfl (by decide)
  rw [show errLack 5 HK AK fK [0, 1] = 0 from by decide +kernel, show lackR 5 HK AK fK [0, 1] = [0] from by decide +kernel] at c
  exact c
theorem v35 : Fn Q 35 [.fo setK, .fo (.list false (ints fK)), .fo (lsV [[0, 1], [1, 3, 4]])] (.tup [.fx (.list false (ints [0, 1, 0, 0, 0])), .fx (.int 0)]) := by
  have c := t35 setK_v (sc := .list false (ints fK)) (c := fK) rfl (by decide) (lsV_lists [[0, 1], [1, 3, 4]] (by intro l hl; simp at hl; rcases hl with rfl | rfl <;> simp)) (by decide)
  rw [show errL 5 HK AK fK [[0, 1], [1, 3, 4]] = 0 from by decide +kernel, show cutR 5 HK AK fK [[0, 1], [1, 3, 4]] = [0, 1, 0, 0, 0] from by decide +kernel] at c
  exact c
def hK : List Int := [1, 1, 1, 1, 2]
theorem v37 : Fn Q 37 [.fo setK, .fo (lsV CK), .fo (.list false (ints hK)), .fo (.int 2)] (.tup [.fx (lsV [[0, 1], [1, 2]]), .fx (.int 0)]) := by
  have c := t37 setK_v (sc := .list false (ints hK)) (c := hK) rfl (by decide) (lsV_lists CK ckl) (by decide) (lost := 2)
  rw [show errW 5 HK AK CK hK 2 = 0 from by decide +kernel, show whoseR 5 CK hK 2 = [[0, 1], [1, 2]] from by decide +kernel] at c
  exact c
theorem v38 : Fn Q 38 [.fo setK, .fo (lsV CK), .fo (.list false (ints hK)), .fo (.int 2)] (.tup [.fx (.list false (ints [1])), .fx (.list false (ints [0, 1, 2])), .fx (.int 0)]) := by
  have c := t38 setK_v (sc := .list false (ints hK)) (c := hK) rfl (by decide) (lsV_lists CK ckl) (by decide) (lost := 2)
  rw [show errW 5 HK AK CK hK 2 = 0 from by decide +kernel, show whoseR 5 CK hK 2 = [[0, 1], [1, 2]] from by decide +kernel, show mixS [[0, 1], [1, 2]] = [1] from by decide +kernel, show mixP [[0, 1], [1, 2]] = [0, 1, 2] from by decide +kernel] at c
  exact c
end S07

namespace S07
open Go Abs
theorem t14 : Fn Q 14 [] (.one (.fx (.bool true))) := by
  have i1 := t17 (s := .list false (ints sK)) (l := sK) rfl (by decide)
  have i2 := t17 (s := .list false (ints fK)) (l := fK) rfl (by decide)
  refine w14 ?_
  dsimp only [c14, sop, gop, nop, qmv, qsg, qex, qld, qcl, qln, qix, qbo, qt, qi]
  simp -implicitDefEqProofs only [go_sem, simprocAttr]
  refine W_opsD _ _ _ (Vs [[], [], [], [], [], [26]]) ?_ ?_
  · decide
  simp -implicitDefEqProofs only [go_sem, simprocAttr]
  refine call1 [] false (t57) ?_
  simp -implicitDefEqProofs only [go_sem, simprocAttr]
  refine call1 [] false (t58) ?_
  simp -implicitDefEqProofs only [go_sem, simprocAttr, lsV, lsF, WK, List.map_cons, ints]
  refine callD [26] false [.fo (.list false (ints sK))] [] i1 ⟨rfl, trivial⟩ rfl (.inl rfl) ?_
  simp -implicitDefEqProofs only [go_sem, simprocAttr, sK, ints]
  refine call1 [] false (v45) ?_
  simp -implicitDefEqProofs only [go_sem, simprocAttr, ints]
  refine W_opsD _ _ _ (Vs [[], [], [], [], [], [26]]) ?_ ?_
  · decide
  simp -implicitDefEqProofs only [go_sem, simprocAttr]
  refine call1 [] false (t57) ?_
  simp -implicitDefEqProofs only [go_sem, simprocAttr]
  refine call1 [] false (t58) ?_
  simp -implicitDefEqProofs only [go_sem, simprocAttr, lsV, lsF, WK, List.map_cons, ints]
  refine callD [26] false [.fo (.list false (ints sK))] [] i1 ⟨rfl, trivial⟩ rfl (.inl rfl) ?_
  simp -implicitDefEqProofs only [go_sem, simprocAttr, sK, ints]
  refine call1 [] false (v47) ?_
  simp -implicitDefEqProofs only [go_sem, simprocAttr, ints]
  refine call1 [] false (t57) ?_
  simp -implicitDefEqProofs only [go_sem, simprocAttr]
  refine call1 [] false (t58) ?_
  simp -implicitDefEqProofs only [go_sem, simprocAttr]
  refine call1 [] false (i1) ?_
  simp -implicitDefEqProofs only [go_sem, simprocAttr]
  refine call1 [] false (v18a) ?_
  simp -implicitDefEqProofs only [go_sem, simprocAttr, ints]
  refine call1 [] false (t57) ?_
  simp -implicitDefEqProofs only [go_sem, simprocAttr]
  refine call1 [] false (t58) ?_
  simp -implicitDefEqProofs only [go_sem, simprocAttr]
  refine call1 [] false (i1) ?_
  simp -implicitDefEqProofs only [go_sem, simprocAttr]
  refine call1 [] false (v18b) ?_
  simp -implicitDefEqProofs only [go_sem, simprocAttr, ints]
  refine call1 [] false (t57) ?_
  simp -implicitDefEqProofs only [go_sem, simprocAttr]
  refine call1 [] false (t58) ?_
  simp -implicitDefEqProofs only [go_sem, simprocAttr]
  refine call1 [] false (i1) ?_
  simp -implicitDefEqProofs only [go_sem, simprocAttr]
  refine call1 [] false (v19) ?_
  simp -implicitDefEqProofs only [go_sem, simprocAttr, ints]
  refine call1 [] false (t57) ?_
  simp -implicitDefEqProofs only [go_sem, simprocAttr]
  refine call1 [27] false (i2) ?_
  simp -implicitDefEqProofs only [go_sem, simprocAttr]
  refine call1 [] false (i1) ?_
  simp -implicitDefEqProofs only [go_sem, simprocAttr]
  refine call1 [] false (v29) ?_
  simp -implicitDefEqProofs only [go_sem, simprocAttr, ints]
  refine call1 [] false (t57) ?_
  simp -implicitDefEqProofs only [go_sem, simprocAttr]
  refine call1 [] false (i2) ?_
  simp -implicitDefEqProofs only [go_sem, simprocAttr]
  refine call1 [87] false (v30) ?_
  simp -implicitDefEqProofs only [go_sem, simprocAttr, ints]
  refine call1 [] false (t57) ?_
  simp -implicitDefEqProofs only [go_sem, simprocAttr]
  refine call1 [] false (i2) ?_
  simp -implicitDefEqProofs only [go_sem, simprocAttr]
  refine call1 [97] false (v35) ?_
  simp -implicitDefEqProofs only [go_sem, simprocAttr, ints]
  refine call1 [] false (t57) ?_
  simp -implicitDefEqProofs only [go_sem, simprocAttr]
  refine call1 [] false (t59) ?_
  simp -implicitDefEqProofs only [go_sem, simprocAttr]
  refine call1 [104] false (v37) ?_
  simp -implicitDefEqProofs only [go_sem, simprocAttr, ints]
  refine call1 [] false (t57) ?_
  simp -implicitDefEqProofs only [go_sem, simprocAttr]
  refine call1 [] false (t59) ?_
  simp -implicitDefEqProofs only [go_sem, simprocAttr]
  refine call1 [111] false (v38) ?_
  simp -implicitDefEqProofs only [go_sem, simprocAttr, ints]
  refine call1 [] false (t48 (s := .list false (ints [1])) (l := [1]) rfl (by decide)) ?_
  simp -implicitDefEqProofs only [go_sem, simprocAttr]
  refine call1 [] true (kI22 [1] [1] (f := false) (g := false) (by decide) (by decide) rfl rfl) ?_
  simp -implicitDefEqProofs only [go_sem, simprocAttr]
  refine call1 [] false (t48 (s := .list false (ints [0, 1])) (l := [0, 1]) rfl (by decide)) ?_
  simp -implicitDefEqProofs only [go_sem, simprocAttr]
  refine call1 [] true (kI22 [0, 1] [0, 1] (f := false) (g := false) (by decide) (by decide) rfl rfl) ?_
  simp -implicitDefEqProofs only [go_sem, simprocAttr]
  refine call1 [] false (t48 (s := .list false (ints [0])) (l := [0]) rfl (by decide)) ?_
  simp -implicitDefEqProofs only [go_sem, simprocAttr]
  refine call1 [] true (kI22 [0] [0] (f := false) (g := false) (by decide) (by decide) rfl rfl) ?_
  simp -implicitDefEqProofs only [go_sem, simprocAttr]
  refine call1 [] false (t48 (s := .list false (ints [1, 0, 0])) (l := [1, 0, 0]) rfl (by decide)) ?_
  simp -implicitDefEqProofs only [go_sem, simprocAttr]
  refine call1 [] true (kI22 [1, 0, 0] [1, 0, 0] (f := false) (g := false) (by decide) (by decide) rfl rfl) ?_
  simp -implicitDefEqProofs only [go_sem, simprocAttr]
  refine call1 [] true (kI22 [0, 1] [0, 1] (f := false) (g := false) (by decide) (by decide) rfl rfl) ?_
  simp -implicitDefEqProofs only [go_sem, simprocAttr]
  refine call1 [] true (kI22 [0, 1, 2] [0, 1, 2] (f := false) (g := false) (by decide) (by decide) rfl rfl) ?_
  simp -implicitDefEqProofs only [go_sem, simprocAttr]
  refine call1 [] true (kI22 [0, 3, 4] [0, 3, 4] (f := false) (g := false) (by decide) (by decide) rfl rfl) ?_
  simp -implicitDefEqProofs only [go_sem, simprocAttr]
  refine call1 [] true (kI22 [0] [0] (f := false) (g := false) (by decide) (by decide) rfl rfl) ?_
  simp -implicitDefEqProofs only [go_sem, simprocAttr]
  refine call1 [] true (kI22 [0, 1, 0, 0, 0] [0, 1, 0, 0, 0] (f := false) (g := false) (by decide) (by decide) rfl rfl) ?_
  simp -implicitDefEqProofs only [go_sem, simprocAttr]
  refine call1 [] true (t21 (lsV_lists [[0, 1], [1, 2]] (by simp)) (lsV_lists [[0, 1], [1, 2]] (by simp)) (by decide) (by decide) (by simp [I64]) (by simp [I64])) ?_
  simp -implicitDefEqProofs only [go_sem, simprocAttr]
  refine call1 [] true (kI22 [1] [1] (f := false) (g := false) (by decide) (by decide) rfl rfl) ?_
  simp -implicitDefEqProofs only [go_sem, simprocAttr]
  refine call1 [] true (kI22 [0, 1, 2] [0, 1, 2] (f := false) (g := false) (by decide) (by decide) rfl rfl) ?_
  simp -implicitDefEqProofs only [go_sem, simprocAttr]
  exact ret_fv
end S07

