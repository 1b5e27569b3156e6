/- A part of the proof: H07a. -/
import Derived.Test.YtmanbdacloeioaaG07v
import Derived.Test.YtmanbdacloeioaaC07h0
set_option linter.unusedVariables false
set_option linter.unusedSimpArgs false
set_option maxRecDepth 20000
namespace S07
open Go Abs
def u8 (x : Int) : FV := .val (.int .u8 x)
theorem t49 {s : FV} {l : List Int} (h : lsOf s = some (ints l)) (hl : l.length ≤ 1000000) (x : Int) : Fn Q 49 [.fo s, .fo (.int x)] (.one (.fx (.bool (l.contains x)))) := by
  refine w49 ?_
  dsimp only [c49, sop, gop, nop, qmv, qsg, qex, qld, qcl, qln, qix, qbo, qt, qi]
  simp -implicitDefEqProofs only [go_sem, simprocAttr]
  refine lpH 6 [5] 6 [] (fun k : Nat => l.length - k) (fun k => k ≤ l.length ∧ (l.take k).contains x = false) (fun k ρ h => ρ 5 = .fv (.int k)) 0 ⟨Nat.zero_le _, by simp⟩ ?_ ?_
  · simp -implicitDefEqProofs only [go_sem, simprocAttr]
  · rintro k ρ h' ⟨hk, hn⟩ r5
    by_cases q1 : k < l.length
    · have q1' : (k : Int) < (l.length : Nat) := by omega
      obtain ⟨y, hy⟩ : ∃ y, l[k]? = some y := ⟨_, List.getElem?_eq_getElem q1⟩
      have hw : IntKind.i64.wrap ((k : Int) + 1) = ((k + 1 : Nat) : Int) := wr _ (by omega) (by omega)
      by_cases e : y = x
      · subst e
        simp -implicitDefEqProofs only [go_sem, simprocAttr, r5, lenV_ls h, q1', index_map h idx_26 hy rfl]
        have : y ∈ l := List.mem_of_getElem? hy
        exact ret_eq (by simp [this])
      · have e' : ¬ (x = y) := fun h => e h.symm
        have e2 : (y == x) = false := by simpa using e
        simp -implicitDefEqProofs only [go_sem, simprocAttr, r5, lenV_ls h, q1', index_map h idx_26 hy rfl, e2]
        simp -implicitDefEqProofs only [go_sem, simprocAttr, r5, hw]
        refine nxt (k + 1) (by omega) ⟨by omega, by rw [List.take_add_one, hy]; simpa [e, e'] using hn⟩ ?_
        simp -implicitDefEqProofs only [go_sem, simprocAttr]
    · have q1' : ¬ (k : Int) < (l.length : Nat) := by omega
      rw [List.take_of_length_le (by omega)] at hn
      simp -implicitDefEqProofs only [go_sem, simprocAttr, r5, lenV_ls h, q1']
      exact ret_eq (by simp at hn; simp [hn])
def wordF (N : Int) (bs : List Int) : List Int := if bs = [] then [0] else (bs.take 6).map (·.tmod N)
theorem t43 {st : FV} {N : Int} {hs al s : FV} {H A : List (Int × Int)} {bs : List Int} (v : SetV st N hs al H A) (n0 : 1 ≤ N) (h : lsOf s = some (bs.map u8)) (hb : ∀ x ∈ bs, 0 ≤ x ∧ x < 256) (hl : bs.length ≤ 9223372036854775807) :
    Fn Q 43 [.fo st, .fo s] (.one (.fx (.list false (ints (wordF N bs))))) := by
  obtain ⟨rfl, hH, hA, lH, lA⟩ := v
  have o1 := ls_one hH
  have o2 := ls_one hA
  have n1 : ¬ (N = 0) := by omega
  refine w43 ?_
  dsimp only [c43, sop, gop, nop, qmv, qsg, qex, qld, qcl, qln, qix, qbo, qt, qi]
  simp -implicitDefEqProofs only [go_sem, simprocAttr, o1, o2]
  refine lpH 7 [5, 6] 7 [] (fun k : Nat => 6 - k) (fun k => k ≤ 6 ∧ k ≤ bs.length) (fun k ρ h => ρ 6 = .fv (.int k) ∧ ρ 5 = .gl 7 (h.gen 7) ∧ h.obj 7 = some (.list 3 1 false false (ints ((bs.take k).map (·.tmod N))))) 0 ⟨by omega, by omega⟩ ?_ ?_
  · simp -implicitDefEqProofs only [go_sem, simprocAttr, List.take_zero, ints]
  · rintro k ρ h' ⟨hk, hk2⟩ ⟨r6, r5, o7⟩
    by_cases q1 : k < bs.length
    · have q1' : (k : Int) < (bs.length : Nat) := by omega
      by_cases q2 : k < 6
      · have q2' : (k : Int) < 6 := by omega
        obtain ⟨x, hx⟩ : ∃ x, bs[k]? = some x := ⟨_, List.getElem?_eq_getElem q1⟩
        have hxb := hb x (List.mem_of_getElem? hx)
        have hw : IntKind.i64.wrap ((k : Int) + 1) = ((k + 1 : Nat) : Int) := wr _ (by omega) (by omega)
        have hwx : IntKind.i64.wrap x = x := wr _ (by omega) (by omega)
        have et : bs.take (k + 1) = bs.take k ++ [x] := by rw [List.take_add_one, hx]; rfl
        simp -implicitDefEqProofs only [go_sem, simprocAttr, r6, r5, lenV_ls h, q1', q2', index_map h idx_72 hx rfl, u8, hwx, n1]
        refine app_gl (by simp -implicitDefEqProofs only [go_sem, simprocAttr, o7]; rfl) idx_26 (by simp -implicitDefEqProofs only [go_sem, simprocAttr]; rfl) (by simp [FV.cells]) (by simp -implicitDefEqProofs only [go_sem, simprocAttr]) (by simp [byt_3, ints]; omega) (by simp [maxLen, ints]; omega) (by simp) ?_
        simp -implicitDefEqProofs only [go_sem, simprocAttr, r6, hw]
        refine nxt (k + 1) (by omega) ⟨by omega, by omega⟩ ?_
        simp -implicitDefEqProofs only [go_sem, simprocAttr, et, ints, List.map_append]
      · have q2' : ¬ (k : Int) < 6 := by omega
        have e6 : k = 6 := by omega
        subst e6
        have q3 : (6 : Int) < (bs.length : Nat) := by omega
        have hne : ¬ (bs = []) := by rintro rfl; simp at hk2
        have z : ((((List.take 6 bs).length : Nat) : Int) == 0) = false := by simp; omega
        simp -implicitDefEqProofs only [go_sem, simprocAttr, r6, r5, lenV_ls h, q3, o7, z]
        exact ret_fx (fun _ => true) (by simp -implicitDefEqProofs only [go_sem, simprocAttr, o7, wordF, hne])
    · have q1' : ¬ (k : Int) < (bs.length : Nat) := by omega
      have e6 : k = bs.length := by omega
      by_cases hne : bs = []
      · have l0 : bs.length = 0 := by simp [hne]
        have e0 : k = 0 := by omega
        subst e0
        have hh := lenV_ls h
        simp -implicitDefEqProofs only [go_sem, simprocAttr, r6, r5, hh, l0, o7]
        refine app_gl (by simp -implicitDefEqProofs only [go_sem, simprocAttr, o7]; rfl) idx_26 (by simp -implicitDefEqProofs only [go_sem, simprocAttr]; rfl) (by simp [FV.cells]) (by simp -implicitDefEqProofs only [go_sem, simprocAttr]) (by simp [byt_3, ints]) (by simp [maxLen, ints]) (by simp) ?_
        simp -implicitDefEqProofs only [go_sem, simprocAttr]
        exact ret_fx (fun _ => true) (by simp -implicitDefEqProofs only [go_sem, simprocAttr, o7, wordF, hne, ints])
      · have z : ((((List.take k bs).length : Nat) : Int) == 0) = false := by
          have h3 := List.length_pos_iff.2 hne
          simp only [List.length_take, beq_eq_false_iff_ne, ne_eq]; omega
        have e7 : bs.take 6 = bs.take k := by rw [List.take_of_length_le (by omega), List.take_of_length_le (by omega)]
        simp -implicitDefEqProofs only [go_sem, simprocAttr, r6, r5, lenV_ls h, q1', o7, z]
        exact ret_fx (fun _ => true) (by simp -implicitDefEqProofs only [go_sem, simprocAttr, o7, wordF, hne, e7])
def countF (N : Int) (bs : List Int) : List Int := (bs.take N.toNat).map (·.tmod 6)
theorem t53 {st : FV} {N : Int} {hs al : FV} {H A : List (Int × Int)} {bs : List Int} (v : SetV st N hs al H A) (n0 : 1 ≤ N) (n8 : N ≤ 8) (hb : ∀ x ∈ bs, 0 ≤ x ∧ x < 256) (hl : bs.length = 8) :
    Fn Q 53 [.fo st, .fo (.agg (bs.map u8))] (.one (.fx (.list false (ints (countF N bs))))) := by
  obtain ⟨rfl, hH, hA, lH, lA⟩ := v
  have o1 := ls_one hH
  have o2 := ls_one hA
  have o3 : ((bs.map u8).map LV.fv).all LV.one = true := by simp [u8, LV.one, FV.one]
  refine w53 ?_
  dsimp only [c53, sop, gop, nop, qmv, qsg, qex, qld, qcl, qln, qix, qbo, qt, qi]
  simp -implicitDefEqProofs only [go_sem, simprocAttr, o1, o2, o3, hl]
  refine lpH 7 [5, 6] 7 [] (fun k : Nat => N.toNat - k) (fun k => k ≤ N.toNat) (fun k ρ h => ρ 6 = .fv (.int k) ∧ ρ 5 = .gl 7 (h.gen 7) ∧ h.obj 7 = some (.list 3 1 false false (ints ((bs.take k).map (·.tmod 6))))) 0 (by omega) ?_ ?_
  · simp -implicitDefEqProofs only [go_sem, simprocAttr, List.take_zero, ints]
  · rintro k ρ h' hk ⟨r6, r5, o7⟩
    by_cases q1 : k < N.toNat
    · have q1' : (k : Int) < N := by omega
      obtain ⟨x, hx⟩ : ∃ x, bs[k]? = some x := ⟨_, List.getElem?_eq_getElem (by omega)⟩
      have hxb := hb x (List.mem_of_getElem? hx)
      have hw : IntKind.i64.wrap ((k : Int) + 1) = ((k + 1 : Nat) : Int) := wr _ (by omega) (by omega)
      have hwx : IntKind.i64.wrap x = x := wr _ (by omega) (by omega)
      have et : bs.take (k + 1) = bs.take k ++ [x] := by rw [List.take_add_one, hx]; rfl
      have k8 : (k : Int) < 8 := by omega
      have hg : partL false 1 (List.drop k ((bs.map u8).map LV.fv)) = some (.fv (u8 x)) := partL_get (by simp [hx])
      simp -implicitDefEqProofs only [go_sem, simprocAttr, r6, r5, q1', k8, hg, u8, hwx]
      refine app_gl (by simp -implicitDefEqProofs only [go_sem, simprocAttr, o7]; rfl) idx_26 (by simp -implicitDefEqProofs only [go_sem, simprocAttr]; rfl) (by simp [FV.cells]) (by simp -implicitDefEqProofs only [go_sem, simprocAttr]) (by simp [byt_3, ints]; omega) (by simp [maxLen, ints]; omega) (by simp) ?_
      simp -implicitDefEqProofs only [go_sem, simprocAttr, r6, hw]
      refine nxt (k + 1) (by omega) (by omega) ?_
      simp -implicitDefEqProofs only [go_sem, simprocAttr, et, ints, List.map_append]
    · have e6 : k = N.toNat := by omega
      have q1' : ¬ (k : Int) < N := by omega
      simp -implicitDefEqProofs only [go_sem, simprocAttr, r6, r5, q1']
      exact ret_fx (fun _ => true) (by simp -implicitDefEqProofs only [go_sem, simprocAttr, o7, countF, e6])
def setC (N : Int) (H A : List (Int × Int)) : FV := .agg [.int N, .list false (H.map pF), .list false (A.map pF)]
theorem pF_len (l : List (Int × Int)) : ∀ x ∈ l.map pF, x.cells.length = 2 := by
  intro x hx
  obtain ⟨p, _, rfl⟩ := List.mem_map.1 hx
  rfl
theorem setC_v {N : Int} {H A : List (Int × Int)} (lH : H.length ≤ 9223372036854775807) (lA : A.length ≤ 9223372036854775807) : SetV (setC N H A) N (.list false (H.map pF)) (.list false (A.map pF)) H A := ⟨rfl, rfl, rfl, lH, lA⟩
theorem t46 {st : FV} {N : Int} {hs al : FV} {H A : List (Int × Int)} (v : SetV st N hs al H A) (lH : H.length ≤ 1000000) (lA : A.length ≤ 1000000) :
    Fn Q 46 [.fo st] (.one (.fx (setC N H A))) := by
  obtain ⟨rfl, hH, hA, _, _⟩ := v
  rcases ls_cases hH with ⟨f, rfl⟩ | ⟨rfl, e1⟩ <;> rcases ls_cases hA with ⟨f', rfl⟩ | ⟨rfl, e2⟩
  · refine w46 ?_
    dsimp only [c46, sop, gop, nop, qmv, qsg, qex, qld, qcl, qln, qix, qbo, qt, qi]
    simp -implicitDefEqProofs only [go_sem, simprocAttr]
    refine W_opsD _ _ _ (Vs [[3],[],[],[3,6],[7],[],[],[7,10],[],[2],[],[2]]) ?_ ?_
    · decide
    simp -implicitDefEqProofs only [go_sem, simprocAttr]
    refine app_gl (ys := H.map pF) (by simp -implicitDefEqProofs only [go_sem, simprocAttr]; rfl) idx_22 (by simp -implicitDefEqProofs only [go_sem, simprocAttr]) (fun x hx => pF_len _ x hx) (by simp -implicitDefEqProofs only [go_sem, simprocAttr]) (by simp [byt_115]; omega) (by simp [maxLen]; omega) (by simp) ?_
    simp -implicitDefEqProofs only [go_sem, simprocAttr]
    refine app_gl (ys := A.map pF) (by simp -implicitDefEqProofs only [go_sem, simprocAttr]; rfl) idx_22 (by simp -implicitDefEqProofs only [go_sem, simprocAttr]) (fun x hx => pF_len _ x hx) (by simp -implicitDefEqProofs only [go_sem, simprocAttr]) (by simp [byt_115]; omega) (by simp [maxLen]; omega) (by simp) ?_
    simp -implicitDefEqProofs only [go_sem, simprocAttr]
    exact ret_fx (fun _ => true) (by simp -implicitDefEqProofs only [go_sem, simprocAttr, setC])
  · rw [List.map_eq_nil_iff] at e2
    subst e2
    refine w46 ?_
    dsimp only [c46, sop, gop, nop, qmv, qsg, qex, qld, qcl, qln, qix, qbo, qt, qi]
    simp -implicitDefEqProofs only [go_sem, simprocAttr]
    refine W_opsD _ _ _ (Vs [[3],[],[],[3,6],[7],[],[],[7,10],[],[2],[],[2]]) ?_ ?_
    · decide
    simp -implicitDefEqProofs only [go_sem, simprocAttr]
    refine app_gl (ys := H.map pF) (by simp -implicitDefEqProofs only [go_sem, simprocAttr]; rfl) idx_22 (by simp -implicitDefEqProofs only [go_sem, simprocAttr]) (fun x hx => pF_len _ x hx) (by simp -implicitDefEqProofs only [go_sem, simprocAttr]) (by simp [byt_115]; omega) (by simp [maxLen]; omega) (by simp) ?_
    simp -implicitDefEqProofs only [go_sem, simprocAttr]
    refine app_none (by simp -implicitDefEqProofs only [go_sem, simprocAttr]; rfl) idx_22 ?_
    simp -implicitDefEqProofs only [go_sem, simprocAttr]
    exact ret_fx (fun _ => true) (by simp -implicitDefEqProofs only [go_sem, simprocAttr, setC])
  · rw [List.map_eq_nil_iff] at e1
    subst e1
    refine w46 ?_
    dsimp only [c46, sop, gop, nop, qmv, qsg, qex, qld, qcl, qln, qix, qbo, qt, qi]
    simp -implicitDefEqProofs only [go_sem, simprocAttr]
    refine W_opsD _ _ _ (Vs [[3],[],[],[3,6],[7],[],[],[7,10],[],[2],[],[2]]) ?_ ?_
    · decide
    simp -implicitDefEqProofs only [go_sem, simprocAttr]
    refine app_none (by simp -implicitDefEqProofs only [go_sem, simprocAttr]; rfl) idx_22 ?_
    simp -implicitDefEqProofs only [go_sem, simprocAttr]
    refine app_gl (ys := A.map pF) (by simp -implicitDefEqProofs only [go_sem, simprocAttr]; rfl) idx_22 (by simp -implicitDefEqProofs only [go_sem, simprocAttr]) (fun x hx => pF_len _ x hx) (by simp -implicitDefEqProofs only [go_sem, simprocAttr]) (by simp [byt_115]; omega) (by simp [maxLen]; omega) (by simp) ?_
    simp -implicitDefEqProofs only [go_sem, simprocAttr]
    exact ret_fx (fun _ => true) (by simp -implicitDefEqProofs only [go_sem, simprocAttr, setC])
  · rw [List.map_eq_nil_iff] at e1 e2
    subst e1
    subst e2
    refine w46 ?_
    dsimp only [c46, sop, gop, nop, qmv, qsg, qex, qld, qcl, qln, qix, qbo, qt, qi]
    simp -implicitDefEqProofs only [go_sem, simprocAttr]
    refine W_opsD _ _ _ (Vs [[3],[],[],[3,6],[7],[],[],[7,10],[],[2],[],[2]]) ?_ ?_
    · decide
    simp -implicitDefEqProofs only [go_sem, simprocAttr]
    refine app_none (by simp -implicitDefEqProofs only [go_sem, simprocAttr]; rfl) idx_22 ?_
    simp -implicitDefEqProofs only [go_sem, simprocAttr]
    refine app_none (by simp -implicitDefEqProofs only [go_sem, simprocAttr]; rfl) idx_22 ?_
    simp -implicitDefEqProofs only [go_sem, simprocAttr]
    exact ret_fx (fun _ => true) (by simp -implicitDefEqProofs only [go_sem, simprocAttr, setC])
def headF : List (Int × Int) → Int → Int
  | [], _ => -1
  | p :: ps, x => if x = p.1 then p.2 else if x = p.2 then p.1 else headF ps x
theorem t50 {st : FV} {N : Int} {hs al : FV} {H A : List (Int × Int)} (v : SetV st N hs al H A) (x : Int) :
    Fn Q 50 [.fo st, .fo (.int x)] (.one (.fx (.int (headF H x)))) := by
  obtain ⟨rfl, hH, hA, lH, lA⟩ := v
  have o1 := ls_one hH
  have o2 := ls_one hA
  refine w50 ?_
  dsimp only [c50, sop, gop, nop, qmv, qsg, qex, qld, qcl, qln, qix, qbo, qt, qi]
  simp -implicitDefEqProofs only [go_sem, simprocAttr, o1, o2]
  refine lpL (β := Unit) 6 [5] 6 [] H (by omega) (fun r _ _ => headF H x = headF r x) (fun k _ ρ h => ρ 5 = .fv (.int k)) () rfl (by simp -implicitDefEqProofs only [go_sem, simprocAttr]) ?_ ?_
  · rintro _ ρ h e r5
    simp -implicitDefEqProofs only [go_sem, simprocAttr, r5, lenV_ls hH, List.length_map]
    rw [e]
    exact ret_eq (by simp [headF])
  · rintro p ys k _ ρ h hx hk hm hk' hw e r5
    by_cases e1 : x = p.1
    · have b1 : (x == p.1) = true := by simpa using e1
      simp -implicitDefEqProofs only [go_sem, simprocAttr, r5, lenV_ls hH, List.length_map, hk', index_map hH idx_22 hx rfl, pF, b1]
      rw [e]
      exact ret_eq (by simp [headF, e1])
    · have b1 : (x == p.1) = false := by simpa using e1
      by_cases e2 : x = p.2
      · have b2 : (x == p.2) = true := by simpa using e2
        simp -implicitDefEqProofs only [go_sem, simprocAttr, r5, lenV_ls hH, List.length_map, hk', index_map hH idx_22 hx rfl, pF, b1, b2]
        rw [e]
        have e3 : ¬ p.2 = p.1 := e2 ▸ e1
        exact ret_eq (by simp [headF, e2, e3])
      · have b2 : (x == p.2) = false := by simpa using e2
        simp -implicitDefEqProofs only [go_sem, simprocAttr, r5, lenV_ls hH, List.length_map, hk', index_map hH idx_22 hx rfl, pF, b1, b2]
        simp -implicitDefEqProofs only [go_sem, simprocAttr, r5, hw]
        refine nxtL () ?_ ?_
        · rw [e]; simp [headF, e1, e2]
        · simp -implicitDefEqProofs only [go_sem, simprocAttr]
theorem t51 {s : FV} {W : List (List Int)} (h : Lists s W) (l1 : W.length ≤ 1000000) (lW : ∀ l ∈ W, l.length ≤ 1000000) : Fn Q 51 [.fo s] (.one (.fx (lsV W))) := by
  obtain ⟨wl, h1, h2, h3⟩ := h
  have la : wl.length = W.length := by rw [← h2]; simp
  refine w51 ?_
  dsimp only [c51, sop, gop, nop, qmv, qsg, qex, qld, qcl, qln, qix, qbo, qt, qi]
  simp -implicitDefEqProofs only [go_sem, simprocAttr]
  refine lpH 5 [3, 4] 5 [] (fun k : Nat => W.length - k) (fun k => k ≤ W.length) (fun k ρ h => ρ 4 = .fv (.int k) ∧ ρ 3 = .gl 5 (h.gen 5) ∧ h.obj 5 = some (.list 26 1 false false (lsF (W.take k)))) 0 (Nat.zero_le _) ?_ ?_
  · simp -implicitDefEqProofs only [go_sem, simprocAttr, List.take_zero, lsF]
  · rintro k ρ h' hk ⟨r4, r3, o5⟩
    by_cases q1 : k < W.length
    · have q1' : (k : Int) < (W.length : Nat) := by omega
      have kb : k < wl.length := by omega
      obtain ⟨y, hy⟩ : ∃ y, wl[k]? = some y := ⟨_, List.getElem?_eq_getElem kb⟩
      obtain ⟨l, hl1, hl2, hl3⟩ := lists_get (s := s) h2 h3 hy
      have hw : IntKind.i64.wrap ((k : Int) + 1) = ((k + 1 : Nat) : Int) := wr _ (by omega) (by omega)
      have et : W.take (k + 1) = W.take k ++ [l] := by rw [List.take_add_one, hl2]; rfl
      simp -implicitDefEqProofs only [go_sem, simprocAttr, r4, r3, lenV_ls h1, la, q1', index_ls h1 idx_25 hy (by rw [hl3]; rfl), hl3]
      refine call1 [] false (t17 hl1 (lW l (List.mem_of_getElem? hl2))) ?_
      simp -implicitDefEqProofs only [go_sem, simprocAttr, r3, ints]
      refine app_gl (by simp -implicitDefEqProofs only [go_sem, simprocAttr, o5]; rfl) idx_25 (by simp -implicitDefEqProofs only [go_sem, simprocAttr]; rfl) (by simp [FV.cells]) (by simp -implicitDefEqProofs only [go_sem, simprocAttr]) (by simp [byt_26, lsF]; omega) (by simp [maxLen, lsF]; omega) (by simp) ?_
      simp -implicitDefEqProofs only [go_sem, simprocAttr, r4, hw]
      refine nxt (k + 1) (by omega) (by omega) ?_
      simp -implicitDefEqProofs only [go_sem, simprocAttr, et, lsF, ints, List.map_append]
    · have q1' : ¬ (k : Int) < (W.length : Nat) := by omega
      have et : W.take k = W := List.take_of_length_le (by omega)
      simp -implicitDefEqProofs only [go_sem, simprocAttr, r4, r3, lenV_ls h1, la, q1']
      exact ret_fx (fun _ => true) (by simp -implicitDefEqProofs only [go_sem, simprocAttr, o5, et, lsV])
end S07

