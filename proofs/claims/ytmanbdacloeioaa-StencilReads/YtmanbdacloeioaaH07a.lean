/- A part of the proof: H07a, H07b. -/
import Derived.Test.YtmanbdacloeioaaG07v
import Derived.Test.YtmanbdacloeioaaC07h0
set_option linter.unusedVariables false
set_option linter.unusedSimpArgs false
set_option maxRecDepth 20000
namespace S07
open Go Abs
def u8 (x : Int) : FV := .val (.int .u8 x)
theorem t49 {s : FV} {l : List Int} (h : lsOf s = some (ints l)) (hl : l.length ≤ 1000000) (x : Int) : Fn Q 49 [.fo s, .fo (.int x)] (.one (.fx (.bool (l.contains x)))) := by
  refine w49 ?_
  dsimp only [c49, sop, gop, nop, qmv, qsg, qex, qld, qcl, qln, qix, qbo, qt, qi]
  simp -implicitDefEqProofs only [go_sem, simprocAttr]
  refine lpH 6 [5] 6 [] (fun k : Nat => l.length - k) (fun k => k ≤ l.length ∧ (l.take k).contains x = false) (fun k ρ h => ρ 5 = .fv (.int k)) 0 ⟨Nat.zero_le _, by simp⟩ ?_ ?_
  · simp -implicitDefEqProofs only [go_sem, simprocAttr]
  · rintro k ρ h' ⟨hk, hn⟩ r5
    by_cases q1 : k < l.length
    · have q1' : (k : Int) < (l.length : Nat) := by omega
      obtain ⟨y, hy⟩ : ∃ y, l[k]? = some y := ⟨_, List.getElem?_eq_getElem q1⟩
      have hw : IntKind.i64.wrap ((k : Int) + 1) = ((k + 1 : Nat) : Int) := wr _ (by omega) (by omega)
      by_cases e : y = x
      · subst e
        simp -implicitDefEqProofs only [go_sem, simprocAttr, r5, lenV_ls h, q1', index_map h idx_26 hy rfl]
        have : y ∈ l := List.mem_of_getElem? hy
        exact ret_eq (by simp [this])
      · have e' : ¬ (x = y) := fun h => e h.symm
        have e2 : (y == x) = false := by simpa using e
        simp -implicitDefEqProofs only [go_sem, simprocAttr, r5, lenV_ls h, q1', index_map h idx_26 hy rfl, e2]
        simp -implicitDefEqProofs only [go_sem, simprocAttr, r5, hw]
        refine nxt (k + 1) (by omega) ⟨by omega, by rw [List.take_add_one, hy]; simpa [e, e'] using hn⟩ ?_
        simp -implicitDefEqProofs only [go_sem, simprocAttr]
    · have q1' : ¬ (k : Int) < (l.length : Nat) := by omega
      rw [List.take_of_length_le (by omega)] at hn
      simp -implicitDefEqProofs only [go_sem, simprocAttr, r5, lenV_ls h, q1']
      exact ret_eq (by simp at hn; simp [hn])
def wordF (N : Int) (bs : List Int) : List Int := if bs = [] then [0] else (bs.take 6).map (·.tmod N)
theorem t43 {st : FV} {N : Int} {hs al s : FV} {H A : List (Int × Int)} {bs : List Int} (v : SetV st N hs al H A) (n0 : 1 ≤ N) (h : lsOf s = some (bs.map u8)) (hb : ∀ x ∈ bs, 0 ≤ x ∧ x < 256) (hl : bs.length ≤ 9223372036854775807) :
    Fn Q 43 [.fo st, .fo s] (.one (.fx (.list false (ints (wordF N bs))))) := by
  obtain ⟨rfl, hH, hA, lH, lA⟩ := v
  have o1 := ls_one hH
  have o2 := ls_one hA
  have n1 : ¬ (N = 0) := by omega
  refine w43 ?_
  dsimp only [c43, sop, gop, nop, qmv, qsg, qex, qld, qcl, qln, qix, qbo, qt, qi]
  simp -implicitDefEqProofs only [go_sem, simprocAttr, o1, o2]
  refine lpH 7 [5, 6] 7 [] (fun k : Nat => 6 - k) (fun k => k ≤ 6 ∧ k ≤ bs.length) (fun k ρ h => ρ 6 = .fv (.int k) ∧ ρ 5 = .gl 7 (h.gen 7) ∧ h.obj 7 = some (.list 3 1 false false (ints ((bs.take k).map (·.tmod N))))) 0 ⟨by omega, by omega⟩ ?_ ?_
  · simp -implicitDefEqProofs only [go_sem, simprocAttr, List.take_zero, ints]
  · rintro k ρ h' ⟨hk, hk2⟩ ⟨r6, r5, o7⟩
    by_cases q1 : k < bs.length
    · have q1' : (k : Int) < (bs.length : Nat) := by omega
      by_cases q2 : k < 6
      · have q2' : (k : Int) < 6 := by omega
        obtain ⟨x, hx⟩ : ∃ x, bs[k]? = some x := ⟨_, List.getElem?_eq_getElem q1⟩
        have hxb := hb x (List.mem_of_getElem? hx)
        have hw : IntKind.i64.wrap ((k : Int) + 1) = ((k + 1 : Nat) : Int) := wr _ (by omega) (by omega)
        have hwx : IntKind.i64.wrap x = x := wr _ (by omega) (by omega)
        have et : bs.take (k + 1) = bs.take k ++ [x] := by rw [List.take_add_one, hx]; rfl
        simp -implicitDefEqProofs only [go_sem, simprocAttr, r6, r5, lenV_ls h, q1', q2', index_map h idx_72 hx rfl, u8, hwx, n1]
        refine app_gl (by simp -implicitDefEqProofs only [go_sem, simprocAttr, o7]; rfl) idx_26 (by simp -implicitDefEqProofs only [go_sem, simprocAttr]; rfl) (by simp [FV.cells]) (by simp -implicitDefEqProofs only [go_sem, simprocAttr]) (by simp [byt_3, ints]; omega) (by simp [maxLen, ints]; omega) (by simp) ?_
        simp -implicitDefEqProofs only [go_sem, simprocAttr, r6, hw]
        refine nxt (k + 1) (by omega) ⟨by omega, by omega⟩ ?_
        simp -implicitDefEqProofs only [go_sem, simprocAttr, et, ints, List.map_append]
      · have q2' : ¬ (k : Int) < 6 := by omega
        have e6 : k = 6 := by omega
        subst e6
        have q3 : (6 : Int) < (bs.length : Nat) := by omega
        have hne : ¬ (bs = []) := by rintro rfl; simp at hk2
        have z : ((((List.take 6 bs).length : Nat) : Int) == 0) = false := by simp; omega
        simp -implicitDefEqProofs only [go_sem, simprocAttr, r6, r5, lenV_ls h, q3, o7, z]
        exact ret_fx (fun _ => true) (by simp -implicitDefEqProofs only [go_sem, simprocAttr, o7, wordF, hne])
    · have q1' : ¬ (k : Int) < (bs.length : Nat) := by omega
      have e6 : k = bs.length := by omega
      by_cases hne : bs = []
      · have l0 : bs.length = 0 := by simp [hne]
        have e0 : k = 0 := by omega
        subst e0
        have hh := lenV_ls h
        simp -implicitDefEqProofs only [go_sem, simprocAttr, r6, r5, hh, l0, o7]
        refine app_gl (by simp -implicitDefEqProofs only [go_sem, simprocAttr, o7]; rfl) idx_26 (by simp -implicitDefEqProofs only [go_sem, simprocAttr]; rfl) (by simp [FV.cells]) (by simp -implicitDefEqProofs only [go_sem, simprocAttr]) (by simp [byt_3, ints]) (by simp [maxLen, ints]) (by simp) ?_
        simp -implicitDefEqProofs only [go_sem, simprocAttr]
        exact ret_fx (fun _ => true) (by simp -implicitDefEqProofs only [go_sem, simprocAttr, o7, wordF, hne, ints])
      · have z : ((((List.take k bs).length : Nat) : Int) == 0) = false := by
          have h3 := List.length_pos_iff.2 hne
          simp only [List.length_take, beq_eq_false_iff_ne, ne_eq]; omega
        have e7 : bs.take 6 = bs.take k := by rw [List.take_of_length_le (by omega), List.take_of_length_le (by omega)]
        simp -implicitDefEqProofs only [go_sem, simprocAttr, r6, r5, lenV_ls h, q1', o7, z]
        exact ret_fx (fun _ => true) (by simp -implicitDefEqProofs only [go_sem, simprocAttr, o7, wordF, hne, e7])
def countF (N : Int) (bs : List Int) : List Int := (bs.take N.toNat).map (·.tmod 6)
theorem t53 {st : FV} {N : Int} {hs al : FV} {H A : List (Int × Int)} {bs : List Int} (v : SetV st N hs al H A) (n0 : 1 ≤ N) (n8 : N ≤ 8) (hb : ∀ x ∈ bs, 0 ≤ x ∧ x < 256) (hl : bs.length = 8) :
    Fn Q 53 [.fo st, .fo (.agg (bs.map u8))] (.one (.fx (.list false (ints (countF N bs))))) := by
  obtain ⟨rfl, hH, hA, lH, lA⟩ := v
  have o1 := ls_one hH
  have o2 := ls_one hA
  have o3 : ((bs.map u8).map LV.fv).all LV.one = true := by simp [u8, LV.one, FV.one]
  refine w53 ?_
  dsimp only [c53, sop, gop, nop, qmv, qsg, qex, qld, qcl, qln, qix, qbo, qt, qi]
  simp -implicitDefEqProofs only [go_sem, simprocAttr, o1, o2, o3, hl]
  refine lpH 7 [5, 6] 7 [] (fun k : Nat => N.toNat - k) (fun k => k ≤ N.toNat) (fun k ρ h => ρ 6 = .fv (.int k) ∧ ρ 5 = .gl 7 (h.gen 7) ∧ h.obj 7 = some (.list 3 1 false false (ints ((bs.take k).map (·.tmod 6))))) 0 (by omega) ?_ ?_
  · simp -implicitDefEqProofs only [go_sem, simprocAttr, List.take_zero, ints]
  · rintro k ρ h' hk ⟨r6, r5, o7⟩
    by_cases q1 : k < N.toNat
    · have q1' : (k : Int) < N := by omega
      obtain ⟨x, hx⟩ : ∃ x, bs[k]? = some x := ⟨_, List.getElem?_eq_getElem (by omega)⟩
      have hxb := hb x (List.mem_of_getElem? hx)
      have hw : IntKind.i64.wrap ((k : Int) + 1) = ((k + 1 : Nat) : Int) := wr _ (by omega) (by omega)
      have hwx : IntKind.i64.wrap x = x := wr _ (by omega) (by omega)
      have et : bs.take (k + 1) = bs.take k ++ [x] := by rw [List.take_add_one, hx]; rfl
      have k8 : (k : Int) < 8 := by omega
      have hg : partL false 1 (List.drop k ((bs.map u8).map LV.fv)) = some (.fv (u8 x)) := partL_get (by simp [hx])
      simp -implicitDefEqProofs only [go_sem, simprocAttr, r6, r5, q1', k8, hg, u8, hwx]
      refine app_gl (by simp -implicitDefEqProofs only [go_sem, simprocAttr, o7]; rfl) idx_26 (by simp -implicitDefEqProofs only [go_sem, simprocAttr]; rfl) (by simp [FV.cells]) (by simp -implicitDefEqProofs only [go_sem, simprocAttr]) (by simp [byt_3, ints]; omega) (by simp [maxLen, ints]; omega) (by simp) ?_
      simp -implicitDefEqProofs only [go_sem, simprocAttr, r6, hw]
      refine nxt (k + 1) (by omega) (by omega) ?_
      simp -implicitDefEqProofs only [go_sem, simprocAttr, et, ints, List.map_append]
    · have e6 : k = N.toNat := by omega
      have q1' : ¬ (k : Int) < N := by omega
      simp -implicitDefEqProofs only [go_sem, simprocAttr, r6, r5, q1']
      exact ret_fx (fun _ => true) (by simp -implicitDefEqProofs only [go_sem, simprocAttr, o7, countF, e6])
def setC (N : Int) (H A : List (Int × Int)) : FV := .agg [.int N, .list false (H.map pF), .list false (A.map pF)]
theorem pF_len (l : List (Int × Int)) : ∀ x ∈ l.map pF, x.cells.length = 2 := by
  intro x hx
  obtain ⟨p, _, rfl⟩ := List.mem_map.1 hx
  rfl
theorem setC_v {N : Int} {H A : List (Int × Int)} (lH : H.length ≤ 9223372036854775807) (lA : A.length ≤ 9223372036854775807) : SetV (setC N H A) N (.list false (H.map pF)) (.list false (A.map pF)) H A := ⟨rfl, rfl, rfl, lH, lA⟩
theorem t46 {st : FV} {N : Int} {hs al : FV} {H A : List (Int × Int)} (v : SetV st N hs al H A) (lH : H.length ≤ 1000000) (lA : A.length ≤ 1000000) :
    Fn Q 46 [.fo st] (.one (.fx (setC N H A))) := by
  obtain ⟨rfl, hH, hA, _, _⟩ := v
  rcases ls_cases hH with ⟨f, rfl⟩ | ⟨rfl, e1⟩ <;> rcases ls_cases hA with ⟨f', rfl⟩ | ⟨rfl, e2⟩
  · refine w46 ?_
    dsimp only [c46, sop, gop, nop, qmv, qsg, qex, qld, qcl, qln, qix, qbo, qt, qi]
    simp -implicitDefEqProofs only [go_sem, simprocAttr]
    refine W_opsD _ _ _ (Vs [[3],[],[],[3,6],[7],[],[],[7,10],[],[2],[],[2]]) ?_ ?_
    · decide
    simp -implicitDefEqProofs only [go_sem, simprocAttr]
    refine app_gl (ys := H.map pF) (by simp -implicitDefEqProofs only [go_sem, simprocAttr]; rfl) idx_22 (by simp -implicitDefEqProofs only [go_sem, simprocAttr]) (fun x hx => pF_len _ x hx) (by simp -implicitDefEqProofs only [go_sem, simprocAttr]) (by simp [byt_115]; omega) (by simp [maxLen]; omega) (by simp) ?_
    simp -implicitDefEqProofs only [go_sem, simprocAttr]
    refine app_gl (ys := A.map pF) (by simp -implicitDefEqProofs only [go_sem, simprocAttr]; rfl) idx_22 (by simp -implicitDefEqProofs only [go_sem, simprocAttr]) (fun x hx => pF_len _ x hx) (by simp -implicitDefEqProofs only [go_sem, simprocAttr]) (by simp [byt_115]; omega) (by simp [maxLen]; omega) (by simp) ?_
    simp -implicitDefEqProofs only [go_sem, simprocAttr]
    exact ret_fx (fun _ => true) (by simp -implicitDefEqProofs only [go_sem, simprocAttr, setC])
  · rw [List.map_eq_nil_iff] at e2
    subst e2
    refine w46 ?_
    dsimp only [c46, sop, gop, nop, qmv, qsg, qex, qld, qcl, qln, qix, qbo, qt, qi]
    simp -implicitDefEqProofs only [go_sem, simprocAttr]
    refine W_opsD _ _ _ (Vs [[3],[],[],[3,6],[7],[],[],[7,10],[],[2],[],[2]]) ?_ ?_
    · decide
    simp -implicitDefEqProofs only [go_sem, simprocAttr]
    refine app_gl (ys := H.map pF) (by simp -implicitDefEqProofs only [go_sem, simprocAttr]; rfl) idx_22 (by simp -implicitDefEqProofs only [go_sem, simprocAttr]) (fun x hx => pF_len _ x hx) (by simp -implicitDefEqProofs only [go_sem, simprocAttr]) (by simp [byt_115]; omega) (by simp [maxLen]; omega) (by simp) ?_
    simp -implicitDefEqProofs only [go_sem, simprocAttr]
    refine app_none (by simp -implicitDefEqProofs only [go_sem, simprocAttr]; rfl) idx_22 ?_
    simp -implicitDefEqProofs only [go_sem, simprocAttr]
    exact ret_fx (fun _ => true) (by simp -implicitDefEqProofs only [go_sem, simprocAttr, setC])
  · rw [List.map_eq_nil_iff] at e1
    subst e1
    refine w46 ?_
    dsimp only [c46, sop, gop, nop, qmv, qsg, qex, qld, qcl, qln, qix, qbo, qt, qi]
    simp -implicitDefEqProofs only [go_sem, simprocAttr]
    refine W_opsD _ _ _ (Vs [[3],[],[],[3,6],[7],[],[],[7,10],[],[2],[],[2]]) ?_ ?_
    · decide
    simp -implicitDefEqProofs only [go_sem, simprocAttr]
    refine app_none (by simp -implicitDefEqProofs only [go_sem, simprocAttr]; rfl) idx_22 ?_
    simp -implicitDefEqProofs only [go_sem, simprocAttr]
    refine app_gl (ys := A.map pF) (by simp -implicitDefEqProofs only [go_sem, simprocAttr]; rfl) idx_22 (by simp -implicitDefEqProofs only [go_sem, simprocAttr]) (fun x hx => pF_len _ x hx) (by simp -implicitDefEqProofs only [go_sem, simprocAttr]) (by simp [byt_115]; omega) (by simp [maxLen]; omega) (by simp) ?_
    simp -implicitDefEqProofs only [go_sem, simprocAttr]
    exact ret_fx (fun _ => true) (by simp -implicitDefEqProofs only [go_sem, simprocAttr, setC])
  · rw [List.map_eq_nil_iff] at e1 e2
    subst e1
    subst e2
    refine w46 ?_
    dsimp only [c46, sop, gop, nop, qmv, qsg, qex, qld, qcl, qln, qix, qbo, qt, qi]
    simp -implicitDefEqProofs only [go_sem, simprocAttr]
    refine W_opsD _ _ _ (Vs [[3],[],[],[3,6],[7],[],[],[7,10],[],[2],[],[2]]) ?_ ?_
    · decide
    simp -implicitDefEqProofs only [go_sem, simprocAttr]
    refine app_none (by simp -implicitDefEqProofs only [go_sem, simprocAttr]; rfl) idx_22 ?_
    simp -implicitDefEqProofs only [go_sem, simprocAttr]
    refine app_none (by simp -implicitDefEqProofs only [go_sem, simprocAttr]; rfl) idx_22 ?_
    simp -implicitDefEqProofs only [go_sem, simprocAttr]
    exact ret_fx (fun _ => true) (by simp -implicitDefEqProofs only [go_sem, simprocAttr, setC])
def headF : List (Int × Int) → Int → Int
  | [], _ => -1
  | p :: ps, x => if x = p.1 then p.2 else if x = p.2 then p.1 else headF ps x
theorem t50 {st : FV} {N : Int} {hs al : FV} {H A : List (Int × Int)} (v : SetV st N hs al H A) (x : Int) :
    Fn Q 50 [.fo st, .fo (.int x)] (.one (.fx (.int (headF H x)))) := by
  obtain ⟨rfl, hH, hA, lH, lA⟩ := v
  have o1 := ls_one hH
  have o2 := ls_one hA
  refine w50 ?_
  dsimp only [c50, sop, gop, nop, qmv, qsg, qex, qld, qcl, qln, qix, qbo, qt, qi]
  simp -implicitDefEqProofs only [go_sem, simprocAttr, o1, o2]
  refine lpL (β := Unit) 6 [5] 6 [] H (by omega) (fun r _ _ => headF H x = headF r x) (fun k _ ρ h => ρ 5 = .fv (.int k)) () rfl (by simp -implicitDefEqProofs only [go_sem, simprocAttr]) ?_ ?_
  · rintro _ ρ h e r5
    simp -implicitDefEqProofs only [go_sem, simprocAttr, r5, lenV_ls hH, List.length_map]
    rw [e]
    exact ret_eq (by simp [headF])
  · rintro p ys k _ ρ h hx hk hm hk' hw e r5
    by_cases e1 : x = p.1
    · have b1 : (x == p.1) = true := by simpa using e1
      simp -implicitDefEqProofs only [go_sem, simprocAttr, r5, lenV_ls hH, List.length_map, hk', index_map hH idx_22 hx rfl, pF, b1]
      rw [e]
      exact ret_eq (by simp [headF, e1])
    · have b1 : (x == p.1) = false := by simpa using e1
      by_cases e2 : x = p.2
      · have b2 : (x == p.2) = true := by simpa using e2
        simp -implicitDefEqProofs only [go_sem, simprocAttr, r5, lenV_ls hH, List.length_map, hk', index_map hH idx_22 hx rfl, pF, b1, b2]
        rw [e]
        have e3 : ¬ p.2 = p.1 := e2 ▸ e1
        exact ret_eq (by simp [headF, e2, e3])
      · have b2 : (x == p.2) = false := by simpa using e2
        simp -implicitDefEqProofs only [go_sem, simprocAttr, r5, lenV_ls hH, List.length_map, hk', index_map hH idx_22 hx rfl, pF, b1, b2]
        simp -implicitDefEqProofs only [go_sem, simprocAttr, r5, hw]
        refine nxtL () ?_ ?_
        · rw [e]; simp [headF, e1, e2]
        · simp -implicitDefEqProofs only [go_sem, simprocAttr]
theorem t51 {s : FV} {W : List (List Int)} (h : Lists s W) (l1 : W.length ≤ 1000000) (lW : ∀ l ∈ W, l.length ≤ 1000000) : Fn Q 51 [.fo s] (.one (.fx (lsV W))) := by
  obtain ⟨wl, h1, h2, h3⟩ := h
  have la : wl.length = W.length := by rw [← h2]; simp
  refine w51 ?_
  dsimp only [c51, sop, gop, nop, qmv, qsg, qex, qld, qcl, qln, qix, qbo, qt, qi]
  simp -implicitDefEqProofs only [go_sem, simprocAttr]
  refine lpH 5 [3, 4] 5 [] (fun k : Nat => W.length - k) (fun k => k ≤ W.length) (fun k ρ h => ρ 4 = .fv (.int k) ∧ ρ 3 = .gl 5 (h.gen 5) ∧ h.obj 5 = some (.list 26 1 false false (lsF (W.take k)))) 0 (Nat.zero_le _) ?_ ?_
  · simp -implicitDefEqProofs only [go_sem, simprocAttr, List.take_zero, lsF]
  · rintro k ρ h' hk ⟨r4, r3, o5⟩
    by_cases q1 : k < W.length
    · have q1' : (k : Int) < (W.length : Nat) := by omega
      have kb : k < wl.length := by omega
      obtain ⟨y, hy⟩ : ∃ y, wl[k]? = some y := ⟨_, List.getElem?_eq_getElem kb⟩
      obtain ⟨l, hl1, hl2, hl3⟩ := lists_get (s := s) h2 h3 hy
      have hw : IntKind.i64.wrap ((k : Int) + 1) = ((k + 1 : Nat) : Int) := wr _ (by omega) (by omega)
      have et : W.take (k + 1) = W.take k ++ [l] := by rw [List.take_add_one, hl2]; rfl
      simp -implicitDefEqProofs only [go_sem, simprocAttr, r4, r3, lenV_ls h1, la, q1', index_ls h1 idx_25 hy (by rw [hl3]; rfl), hl3]
      refine call1 [] false (t17 hl1 (lW l (List.mem_of_getElem? hl2))) ?_
      simp -implicitDefEqProofs only [go_sem, simprocAttr, r3, ints]
      refine app_gl (by simp -implicitDefEqProofs only [go_sem, simprocAttr, o5]; rfl) idx_25 (by simp -implicitDefEqProofs only [go_sem, simprocAttr]; rfl) (by simp [FV.cells]) (by simp -implicitDefEqProofs only [go_sem, simprocAttr]) (by simp [byt_26, lsF]; omega) (by simp [maxLen, lsF]; omega) (by simp) ?_
      simp -implicitDefEqProofs only [go_sem, simprocAttr, r4, hw]
      refine nxt (k + 1) (by omega) (by omega) ?_
      simp -implicitDefEqProofs only [go_sem, simprocAttr, et, lsF, ints, List.map_append]
    · have q1' : ¬ (k : Int) < (W.length : Nat) := by omega
      have et : W.take k = W := List.take_of_length_le (by omega)
      simp -implicitDefEqProofs only [go_sem, simprocAttr, r4, r3, lenV_ls h1, la, q1']
      exact ret_fx (fun _ => true) (by simp -implicitDefEqProofs only [go_sem, simprocAttr, o5, et, lsV])
end S07

namespace S07
open Go Abs
def pU (p : Int × Int) : FV := .agg [u8 p.1, u8 p.2]
theorem pU_len (l : List (Int × Int)) : ∀ x ∈ l.map pU, x.cells.length = 2 := by
  intro x hx
  obtain ⟨p, _, rfl⟩ := List.mem_map.1 hx
  rfl
def BB (l : List (Int × Int)) : Prop := ∀ p ∈ l, 0 ≤ p.1 ∧ p.1 < 256 ∧ 0 ≤ p.2 ∧ p.2 < 256
def pN (N : Int) (p : Int × Int) : Int × Int := (p.1.tmod N, p.2.tmod N)
/-- Heads by bytes: letters used once. -/
def hStep (N : Int) (s : List (Int × Int) × List Bool) (p : Int × Int) : List (Int × Int) × List Bool :=
  if s.2.getD (pN N p).1.toNat false = false ∧ s.2.getD (pN N p).2.toNat false = false then (s.1 ++ [pN N p], (s.2.set (pN N p).1.toNat true).set (pN N p).2.toNat true) else s
def b8 : List Bool := [false, false, false, false, false, false, false, false]
def madeH (N : Int) (l : List (Int × Int)) : List (Int × Int) × List Bool := (l.take 6).foldl (hStep N) ([], b8)
def madeA (N : Int) (l : List (Int × Int)) : List (Int × Int) := ((l.take 6).map (pN N)).filter fun q => decide (q.1 ≠ q.2)
def madeN (b : Int) : Int := 1 + b.tmod 8
def madeV (b : Int) (hl al : List (Int × Int)) : FV := .agg [.int (madeN b), lstN ((madeH (madeN b) hl).1.map pF), lstN ((madeA (madeN b) al).map pF)]
theorem lstN_nil : lstN [] = .nil := rfl
theorem lstN_ne {xs : List FV} (h : xs ≠ []) : lstN xs = .list false xs := by cases xs <;> first | exact absurd rfl h | rfl
theorem hStep_len (N : Int) (s : List (Int × Int) × List Bool) (p : Int × Int) : (hStep N s p).2.length = s.2.length ∧ (hStep N s p).1.length ≤ s.1.length + 1 := by
  unfold hStep
  split <;> simp
def bL (b : Bool) : LV := .fv (.val (.bool b))
theorem bArr_get {U : List Bool} {k : Nat} (hk : k < U.length) : partL false 1 (List.drop k (U.map bL)) = some (.fv (.val (.bool (U.getD k false)))) :=
  partL_get (by simp [List.getElem?_map, List.getD, List.getElem?_eq_getElem hk, bL])
theorem bArr_set {U : List Bool} {k : Nat} {v : Bool} (hk : k < U.length) : splice (U.map bL) k [.fv (.val (.bool v))] = (U.set k v).map bL := by
  unfold splice
  rw [List.set_eq_take_append_cons_drop, if_pos hk]
  simp [List.map_take, List.map_drop, bL]
theorem hFold_len (N : Int) : ∀ (l : List (Int × Int)) (s : List (Int × Int) × List Bool), (l.foldl (hStep N) s).2.length = s.2.length ∧ (l.foldl (hStep N) s).1.length ≤ s.1.length + l.length
  | [], s => ⟨rfl, by simp⟩
  | p :: l, s => by
    obtain ⟨h1, h2⟩ := hStep_len N s p
    obtain ⟨h3, h4⟩ := hFold_len N l (hStep N s p)
    simp only [List.foldl_cons, List.length_cons]
    exact ⟨by omega, by omega⟩
theorem t42 {b : Int} {hs as_ : FV} {hl al : List (Int × Int)} (b0 : 0 ≤ b) (b1 : b < 256) (h1 : lsOf hs = some (hl.map pU)) (h2 : lsOf as_ = some (al.map pU)) (hb : BB hl) (ab : BB al) (l1 : hl.length ≤ 9223372036854775807) (l2 : al.length ≤ 9223372036854775807) :
    Fn Q 42 [.fo (.agg [u8 b, hs, as_])] (.one (.fx (madeV b hl al))) := by
  have o1 := ls_one h1
  have o2 := ls_one h2
  have m1 := Int.tmod_nonneg 8 b0
  have m2 := Int.tmod_lt_of_pos b (show (0 : Int) < 8 by decide)
  have wb : IntKind.i64.wrap b = b := wr _ (by omega) (by omega)
  have wN : IntKind.i64.wrap (1 + b.tmod 8) = madeN b := wr _ (by omega) (by omega)
  have n0 : 1 ≤ madeN b := by unfold madeN; omega
  have n8 : madeN b ≤ 8 := by unfold madeN; omega
  generalize hN : madeN b = N at *
  have n1 : ¬ (N = 0) := by omega
  unfold madeV
  rw [hN]
  refine w42 ?_
  dsimp only [c42, sop, gop, nop, qmv, qsg, qex, qld, qcl, qln, qix, qbo, qt, qi]
  simp -implicitDefEqProofs only [go_sem, simprocAttr, o1, o2, u8, wb, wN]
  refine lpH 16 [5, 6] 6 [3, 4] (fun k : Nat => 6 - k) (fun k => k ≤ 6 ∧ k ≤ hl.length) (fun k ρ h => ρ 5 = .fv (.int k) ∧ h.gen 4 = 1 ∧ h.gen 3 = 1 ∧ h.obj 4 = some (.box (((hl.take k).foldl (hStep N) ([], b8)).2.map bL)) ∧ ∃ v, h.obj 3 = some (.box [.fv (.int N), v, .fv .nil]) ∧ AccRep h v 64 115 2 (((hl.take k).foldl (hStep N) ([], b8)).1.map pF)) 0 ⟨by omega, by omega⟩ ?_ ?_
  · simp -implicitDefEqProofs only [go_sem, simprocAttr, List.take_zero]
    exact ⟨rfl, .fv .nil, rfl, .inl ⟨rfl, rfl⟩⟩
  · rintro k ρ h' ⟨hk, hk2⟩ ⟨r5, g4, g3, q4, v, q3, hv⟩
    obtain ⟨z1, z2⟩ := hFold_len N (hl.take k) ([], b8)
    simp only [List.length_nil, Nat.zero_add, List.length_take] at z1 z2
    have z1' : ((hl.take k).foldl (hStep N) ([], b8)).2.length = 8 := z1
    by_cases q1 : k < hl.length
    · have q1' : (k : Int) < (hl.length : Nat) := by omega
      by_cases q2 : k < 6
      · have q2' : (k : Int) < 6 := by omega
        obtain ⟨x, hx⟩ : ∃ x, hl[k]? = some x := ⟨_, List.getElem?_eq_getElem q1⟩
        obtain ⟨x0, x1, x2, x3⟩ := hb x (List.mem_of_getElem? hx)
        have hw : IntKind.i64.wrap ((k : Int) + 1) = ((k + 1 : Nat) : Int) := wr _ (by omega) (by omega)
        have w1 : IntKind.i64.wrap x.1 = x.1 := wr _ (by omega) (by omega)
        have w2 : IntKind.i64.wrap x.2 = x.2 := wr _ (by omega) (by omega)
        have et : (hl.take (k + 1)).foldl (hStep N) ([], b8) = hStep N ((hl.take k).foldl (hStep N) ([], b8)) x := by rw [List.take_add_one, hx]; simp
        have y1 := Int.tmod_nonneg N x0
        have y2 := Int.tmod_lt_of_pos x.1 (show 0 < N by omega)
        have y3 := Int.tmod_nonneg N x2
        have y4 := Int.tmod_lt_of_pos x.2 (show 0 < N by omega)
        generalize hS : (hl.take k).foldl (hStep N) ([], b8) = S at *
        generalize ha : x.1.tmod N = a at *
        generalize hc : x.2.tmod N = c at *
        simp -implicitDefEqProofs only [go_sem, simprocAttr, r5, lenV_ls h1, List.length_map, q1', q2']
        refine W_opsD _ _ _ (Vs [[], [], [], [], [], [], [], [], [], [], [], [], [], [], [], [], [], [], [], [], [], [6], [6]]) ?_ ?_
        · decide
        simp -implicitDefEqProofs only [go_sem, simprocAttr, r5, q3, g3, index_map h1 idx_69 hx rfl, pU, u8, w1, w2, n1, ha, hc]
        have i1 : 0 ≤ a ∧ a < 8 := by omega
        have i2 : 0 ≤ c ∧ c < 8 := by omega
        have t1 : a.toNat < S.2.length := by omega
        have t2 : c.toNat < S.2.length := by omega
        have t2' : c.toNat < (S.2.set a.toNat true).length := by simpa using t2
        by_cases u1 : S.2.getD a.toNat false = true
        · have e1 : hStep N S x = S := by simp only [hStep, pN, ha, u1]; simp
          simp -implicitDefEqProofs only [go_sem, simprocAttr, i1, g4, q4, bArr_get t1, u1]
          simp -implicitDefEqProofs only [go_sem, simprocAttr, r5, hw]
          refine nxt (k + 1) (by omega) ⟨by omega, by omega⟩ ?_
          rw [et, e1]
          simp -implicitDefEqProofs only [go_sem, simprocAttr]
          exact ⟨g4, g3, q4, v, q3, by simpa only [go_sem, simprocAttr, AccRep] using hv⟩
        · rw [Bool.not_eq_true] at u1
          by_cases u2 : S.2.getD c.toNat false = true
          · have e1 : hStep N S x = S := by simp only [hStep, pN, hc, u2]; simp
            simp -implicitDefEqProofs only [go_sem, simprocAttr, i1, i2, g4, q4, bArr_get t1, bArr_get t2, u1, u2]
            simp -implicitDefEqProofs only [go_sem, simprocAttr, r5, hw]
            refine nxt (k + 1) (by omega) ⟨by omega, by omega⟩ ?_
            rw [et, e1]
            simp -implicitDefEqProofs only [go_sem, simprocAttr]
            exact ⟨g4, g3, q4, v, q3, by simpa only [go_sem, simprocAttr, AccRep] using hv⟩
          · rw [Bool.not_eq_true] at u2
            have e1 : hStep N S x = (S.1 ++ [(a, c)], (S.2.set a.toNat true).set c.toNat true) := by simp only [hStep, pN, ha, hc, u1, u2]; simp
            simp -implicitDefEqProofs only [go_sem, simprocAttr, i1, i2, g4, q4, g3, q3, bArr_get t1, bArr_get t2, u1, u2]
            have hv1 := hv.one
            refine app_acc (e := 115) (es := 2) (n := 64) (acc := S.1.map pF) (ys := [pF (a, c)]) (by simpa only [go_sem, simprocAttr, AccRep] using hv) idx_22 (by omega) (by simp -implicitDefEqProofs only [go_sem, simprocAttr]; rfl) (by simp) (by simp [pF, FV.cells]) (by simp -implicitDefEqProofs only [go_sem, simprocAttr]) (by simp [byt_115]; omega) (by simp [maxLen]; omega) (by simp) ?_
            simp -implicitDefEqProofs only [go_sem, simprocAttr, q3, g3, hv1.2]
            refine W_opsD _ _ _ (Vs [[], [], [], [], [], [4], [], [4]]) ?_ ?_
            · decide
            have lA : a.toNat + 1 ≤ S.2.length := by omega
            have lC : c.toNat + 1 ≤ S.2.length := by omega
            simp -implicitDefEqProofs only [go_sem, simprocAttr, i1, i2, q3, g3, g4, q4, List.length_map, List.length_set, lA, lC, bArr_set t1, bArr_set t2']
            simp -implicitDefEqProofs only [go_sem, simprocAttr, r5, hw]
            refine nxt (k + 1) (by omega) ⟨by omega, by omega⟩ ?_
            rw [et, e1]
            simp -implicitDefEqProofs only [go_sem, simprocAttr]
            exact ⟨g4, g3, _, rfl, .inr ⟨by simp -implicitDefEqProofs only [go_sem, simprocAttr], by simp -implicitDefEqProofs only [go_sem, simprocAttr, List.map_append, List.map_cons, List.map_nil], by simp⟩⟩
      · have e6 : k = 6 := by omega
        subst e6
        have q3' : (6 : Int) < (hl.length : Nat) := by omega
        have eS : (hl.take 6).foldl (hStep N) ([], b8) = madeH N hl := rfl
        rw [eS] at hv z2
        simp -implicitDefEqProofs only [go_sem, simprocAttr, r5, lenV_ls h1, List.length_map, q3']
        refine lpH 72 [7, 8] 65 [3, 8] (fun k : Nat => 6 - k) (fun k => k ≤ 6 ∧ k ≤ al.length) (fun k ρ h => ρ 7 = .fv (.int k) ∧ h.gen 3 = 1 ∧ ∃ v2, h.obj 3 = some (.box [.fv (.int N), v, v2]) ∧ AccRep h v2 113 115 2 ((((al.take k).map (pN N)).filter fun q => decide (q.1 ≠ q.2)).map pF)) 0 ⟨by omega, by omega⟩ ?_ ?_
        · simp -implicitDefEqProofs only [go_sem, simprocAttr, List.take_zero, g3, q3]
          exact ⟨.fv .nil, rfl, .inl ⟨rfl, rfl⟩⟩
        · rintro k ρ h'' ⟨hk, hk2⟩ ⟨r7, g3', v2, q3', hv2⟩
          have la := List.length_filter_le (fun q : Int × Int => decide (q.1 ≠ q.2)) ((al.take k).map (pN N))
          simp only [List.length_map, List.length_take] at la
          by_cases j1 : k < al.length
          · have j1' : (k : Int) < (al.length : Nat) := by omega
            by_cases j2 : k < 6
            · have j2' : (k : Int) < 6 := by omega
              obtain ⟨x, hx⟩ : ∃ x, al[k]? = some x := ⟨_, List.getElem?_eq_getElem j1⟩
              obtain ⟨x0, x1, x2, x3⟩ := ab x (List.mem_of_getElem? hx)
              have hw : IntKind.i64.wrap ((k : Int) + 1) = ((k + 1 : Nat) : Int) := wr _ (by omega) (by omega)
              have w1 : IntKind.i64.wrap x.1 = x.1 := wr _ (by omega) (by omega)
              have w2 : IntKind.i64.wrap x.2 = x.2 := wr _ (by omega) (by omega)
              have et : ((al.take (k + 1)).map (pN N)).filter (fun q => decide (q.1 ≠ q.2)) = ((al.take k).map (pN N)).filter (fun q => decide (q.1 ≠ q.2)) ++ (if x.1.tmod N ≠ x.2.tmod N then [(x.1.tmod N, x.2.tmod N)] else []) := by
                rw [List.take_add_one, hx]
                simp only [Option.toList, List.map_append, List.map_cons, List.map_nil, List.filter_append, pN, List.filter_cons, List.filter_nil, decide_eq_true_eq]
              generalize hT : ((al.take k).map (pN N)).filter (fun q => decide (q.1 ≠ q.2)) = T at *
              generalize ha : x.1.tmod N = a at *
              generalize hc : x.2.tmod N = c at *
              simp -implicitDefEqProofs only [go_sem, simprocAttr, r7, lenV_ls h2, List.length_map, j1', j2']
              refine W_opsD _ _ _ (Vs [[], [], [], [], [], [], [], [], [], [], [], [], [], [], [], [], [], [], [], [], [], [8], [8]]) ?_ ?_
              · decide
              simp -implicitDefEqProofs only [go_sem, simprocAttr, r7, q3', g3', index_map h2 idx_69 hx rfl, pU, u8, w1, w2, n1, ha, hc]
              by_cases hac : a = c
              · have b1 : (a != c) = false := by simp [hac]
                simp -implicitDefEqProofs only [go_sem, simprocAttr, b1]
                simp -implicitDefEqProofs only [go_sem, simprocAttr, r7, hw]
                refine nxt (k + 1) (by omega) ⟨by omega, by omega⟩ ?_
                rw [et]
                simp only [hac, ne_eq, not_true_eq_false, if_false, List.append_nil]
                simp -implicitDefEqProofs only [go_sem, simprocAttr]
                exact ⟨g3', v2, q3', by simpa only [go_sem, simprocAttr, AccRep] using hv2⟩
              · have b1 : (a != c) = true := by simp [hac]
                have hv1 := hv2.one
                simp -implicitDefEqProofs only [go_sem, simprocAttr, b1, q3', g3']
                refine app_acc (e := 115) (es := 2) (n := 113) (acc := T.map pF) (ys := [pF (a, c)]) (by simpa only [go_sem, simprocAttr, AccRep] using hv2) idx_22 (by omega) (by simp -implicitDefEqProofs only [go_sem, simprocAttr]; rfl) (by simp) (by simp [pF, FV.cells]) (by simp -implicitDefEqProofs only [go_sem, simprocAttr]) (by simp [byt_115]; omega) (by simp [maxLen]; omega) (by simp) ?_
                simp -implicitDefEqProofs only [go_sem, simprocAttr, q3', g3', hv1.2]
                simp -implicitDefEqProofs only [go_sem, simprocAttr, r7, hw]
                refine nxt (k + 1) (by omega) ⟨by omega, by omega⟩ ?_
                rw [et]
                simp only [hac, ne_eq, not_false_eq_true, if_true]
                simp -implicitDefEqProofs only [go_sem, simprocAttr]
                exact ⟨g3', _, rfl, .inr ⟨by simp -implicitDefEqProofs only [go_sem, simprocAttr], by simp -implicitDefEqProofs only [go_sem, simprocAttr, List.map_append, List.map_cons, List.map_nil], by simp⟩⟩
            · have e6 : k = 6 := by omega
              subst e6
              have q3'' : (6 : Int) < (al.length : Nat) := by omega
              have eA : ((al.take 6).map (pN N)).filter (fun q => decide (q.1 ≠ q.2)) = madeA N al := rfl
              rw [eA] at hv2
              simp -implicitDefEqProofs only [go_sem, simprocAttr, r7, lenV_ls h2, List.length_map, q3'', g3', q3']
              generalize (madeH N hl).1.map pF = A1 at *
              generalize (madeA N al).map pF = A2 at *
              rcases hv with ⟨f1, rfl⟩ | ⟨rfl, f1, f2⟩ <;> rcases hv2 with ⟨f3, rfl⟩ | ⟨rfl, f3, f4⟩
              · simp -implicitDefEqProofs only [go_sem, simprocAttr, f1, f3]
                exact ret_fx (fun _ => true) (by simp -implicitDefEqProofs only [go_sem, simprocAttr, lstN_nil])
              · simp -implicitDefEqProofs only [go_sem, simprocAttr, f1, f3]
                exact ret_fx (fun _ => true) (by simp -implicitDefEqProofs only [go_sem, simprocAttr, lstN_nil, f3, lstN_ne f4])
              · simp -implicitDefEqProofs only [go_sem, simprocAttr, f1, f3]
                exact ret_fx (fun _ => true) (by simp -implicitDefEqProofs only [go_sem, simprocAttr, lstN_nil, f1, lstN_ne f2])
              · simp -implicitDefEqProofs only [go_sem, simprocAttr, f1, f3]
                exact ret_fx (fun _ => true) (by simp -implicitDefEqProofs only [go_sem, simprocAttr, f1, f3, lstN_ne f2, lstN_ne f4])
          · have e6 : al.take k = al.take 6 := by rw [List.take_of_length_le (by omega), List.take_of_length_le (by omega)]
            have eA : ((al.take k).map (pN N)).filter (fun q => decide (q.1 ≠ q.2)) = madeA N al := by rw [e6]; rfl
            have j1' : ¬ (k : Int) < (al.length : Nat) := by omega
            rw [eA] at hv2
            simp -implicitDefEqProofs only [go_sem, simprocAttr, r7, lenV_ls h2, List.length_map, j1', g3', q3']
            generalize (madeH N hl).1.map pF = A1 at *
            generalize (madeA N al).map pF = A2 at *
            rcases hv with ⟨f1, rfl⟩ | ⟨rfl, f1, f2⟩ <;> rcases hv2 with ⟨f3, rfl⟩ | ⟨rfl, f3, f4⟩
            · simp -implicitDefEqProofs only [go_sem, simprocAttr, f1, f3]
              exact ret_fx (fun _ => true) (by simp -implicitDefEqProofs only [go_sem, simprocAttr, lstN_nil])
            · simp -implicitDefEqProofs only [go_sem, simprocAttr, f1, f3]
              exact ret_fx (fun _ => true) (by simp -implicitDefEqProofs only [go_sem, simprocAttr, lstN_nil, f3, lstN_ne f4])
            · simp -implicitDefEqProofs only [go_sem, simprocAttr, f1, f3]
              exact ret_fx (fun _ => true) (by simp -implicitDefEqProofs only [go_sem, simprocAttr, lstN_nil, f1, lstN_ne f2])
            · simp -implicitDefEqProofs only [go_sem, simprocAttr, f1, f3]
              exact ret_fx (fun _ => true) (by simp -implicitDefEqProofs only [go_sem, simprocAttr, f1, f3, lstN_ne f2, lstN_ne f4])
    · have e6 : hl.take k = hl.take 6 := by rw [List.take_of_length_le (by omega), List.take_of_length_le (by omega)]
      have eS : (hl.take k).foldl (hStep N) ([], b8) = madeH N hl := by rw [e6]; rfl
      have q1' : ¬ (k : Int) < (hl.length : Nat) := by omega
      rw [eS] at hv z2
      simp -implicitDefEqProofs only [go_sem, simprocAttr, r5, lenV_ls h1, List.length_map, q1']
      refine lpH 72 [7, 8] 65 [3, 8] (fun k : Nat => 6 - k) (fun k => k ≤ 6 ∧ k ≤ al.length) (fun k ρ h => ρ 7 = .fv (.int k) ∧ h.gen 3 = 1 ∧ ∃ v2, h.obj 3 = some (.box [.fv (.int N), v, v2]) ∧ AccRep h v2 113 115 2 ((((al.take k).map (pN N)).filter fun q => decide (q.1 ≠ q.2)).map pF)) 0 ⟨by omega, by omega⟩ ?_ ?_
      · simp -implicitDefEqProofs only [go_sem, simprocAttr, List.take_zero, g3, q3]
        exact ⟨.fv .nil, rfl, .inl ⟨rfl, rfl⟩⟩
      · rintro k ρ h'' ⟨hk, hk2⟩ ⟨r7, g3', v2, q3', hv2⟩
        have la := List.length_filter_le (fun q : Int × Int => decide (q.1 ≠ q.2)) ((al.take k).map (pN N))
        simp only [List.length_map, List.length_take] at la
        by_cases j1 : k < al.length
        · have j1' : (k : Int) < (al.length : Nat) := by omega
          by_cases j2 : k < 6
          · have j2' : (k : Int) < 6 := by omega
            obtain ⟨x, hx⟩ : ∃ x, al[k]? = some x := ⟨_, List.getElem?_eq_getElem j1⟩
            obtain ⟨x0, x1, x2, x3⟩ := ab x (List.mem_of_getElem? hx)
            have hw : IntKind.i64.wrap ((k : Int) + 1) = ((k + 1 : Nat) : Int) := wr _ (by omega) (by omega)
            have w1 : IntKind.i64.wrap x.1 = x.1 := wr _ (by omega) (by omega)
            have w2 : IntKind.i64.wrap x.2 = x.2 := wr _ (by omega) (by omega)
            have et : ((al.take (k + 1)).map (pN N)).filter (fun q => decide (q.1 ≠ q.2)) = ((al.take k).map (pN N)).filter (fun q => decide (q.1 ≠ q.2)) ++ (if x.1.tmod N ≠ x.2.tmod N then [(x.1.tmod N, x.2.tmod N)] else []) := by
              rw [List.take_add_one, hx]
              simp only [Option.toList, List.map_append, List.map_cons, List.map_nil, List.filter_append, pN, List.filter_cons, List.filter_nil, decide_eq_true_eq]
            generalize hT : ((al.take k).map (pN N)).filter (fun q => decide (q.1 ≠ q.2)) = T at *
            generalize ha : x.1.tmod N = a at *
            generalize hc : x.2.tmod N = c at *
            simp -implicitDefEqProofs only [go_sem, simprocAttr, r7, lenV_ls h2, List.length_map, j1', j2']
            refine W_opsD _ _ _ (Vs [[], [], [], [], [], [], [], [], [], [], [], [], [], [], [], [], [], [], [], [], [], [8], [8]]) ?_ ?_
            · decide
            simp -implicitDefEqProofs only [go_sem, simprocAttr, r7, q3', g3', index_map h2 idx_69 hx rfl, pU, u8, w1, w2, n1, ha, hc]
            by_cases hac : a = c
            · have b1 : (a != c) = false := by simp [hac]
              simp -implicitDefEqProofs only [go_sem, simprocAttr, b1]
              simp -implicitDefEqProofs only [go_sem, simprocAttr, r7, hw]
              refine nxt (k + 1) (by omega) ⟨by omega, by omega⟩ ?_
              rw [et]
              simp only [hac, ne_eq, not_true_eq_false, if_false, List.append_nil]
              simp -implicitDefEqProofs only [go_sem, simprocAttr]
              exact ⟨g3', v2, q3', by simpa only [go_sem, simprocAttr, AccRep] using hv2⟩
            · have b1 : (a != c) = true := by simp [hac]
              have hv1 := hv2.one
              simp -implicitDefEqProofs only [go_sem, simprocAttr, b1, q3', g3']
              refine app_acc (e := 115) (es := 2) (n := 113) (acc := T.map pF) (ys := [pF (a, c)]) (by simpa only [go_sem, simprocAttr, AccRep] using hv2) idx_22 (by omega) (by simp -implicitDefEqProofs only [go_sem, simprocAttr]; rfl) (by simp) (by simp [pF, FV.cells]) (by simp -implicitDefEqProofs only [go_sem, simprocAttr]) (by simp [byt_115]; omega) (by simp [maxLen]; omega) (by simp) ?_
              simp -implicitDefEqProofs only [go_sem, simprocAttr, q3', g3', hv1.2]
              simp -implicitDefEqProofs only [go_sem, simprocAttr, r7, hw]
              refine nxt (k + 1) (by omega) ⟨by omega, by omega⟩ ?_
              rw [et]
              simp only [hac, ne_eq, not_false_eq_true, if_true]
              simp -implicitDefEqProofs only [go_sem, simprocAttr]
              exact ⟨g3', _, rfl, .inr ⟨by simp -implicitDefEqProofs only [go_sem, simprocAttr], by simp -implicitDefEqProofs only [go_sem, simprocAttr, List.map_append, List.map_cons, List.map_nil], by simp⟩⟩
          · have e6 : k = 6 := by omega
            subst e6
            have q3'' : (6 : Int) < (al.length : Nat) := by omega
            have eA : ((al.take 6).map (pN N)).filter (fun q => decide (q.1 ≠ q.2)) = madeA N al := rfl
            rw [eA] at hv2
            simp -implicitDefEqProofs only [go_sem, simprocAttr, r7, lenV_ls h2, List.length_map, q3'', g3', q3']
            generalize (madeH N hl).1.map pF = A1 at *
            generalize (madeA N al).map pF = A2 at *
            rcases hv with ⟨f1, rfl⟩ | ⟨rfl, f1, f2⟩ <;> rcases hv2 with ⟨f3, rfl⟩ | ⟨rfl, f3, f4⟩
            · simp -implicitDefEqProofs only [go_sem, simprocAttr, f1, f3]
              exact ret_fx (fun _ => true) (by simp -implicitDefEqProofs only [go_sem, simprocAttr, lstN_nil])
            · simp -implicitDefEqProofs only [go_sem, simprocAttr, f1, f3]
              exact ret_fx (fun _ => true) (by simp -implicitDefEqProofs only [go_sem, simprocAttr, lstN_nil, f3, lstN_ne f4])
            · simp -implicitDefEqProofs only [go_sem, simprocAttr, f1, f3]
              exact ret_fx (fun _ => true) (by simp -implicitDefEqProofs only [go_sem, simprocAttr, lstN_nil, f1, lstN_ne f2])
            · simp -implicitDefEqProofs only [go_sem, simprocAttr, f1, f3]
              exact ret_fx (fun _ => true) (by simp -implicitDefEqProofs only [go_sem, simprocAttr, f1, f3, lstN_ne f2, lstN_ne f4])
        · have e6 : al.take k = al.take 6 := by rw [List.take_of_length_le (by omega), List.take_of_length_le (by omega)]
          have eA : ((al.take k).map (pN N)).filter (fun q => decide (q.1 ≠ q.2)) = madeA N al := by rw [e6]; rfl
          have j1' : ¬ (k : Int) < (al.length : Nat) := by omega
          rw [eA] at hv2
          simp -implicitDefEqProofs only [go_sem, simprocAttr, r7, lenV_ls h2, List.length_map, j1', g3', q3']
          generalize (madeH N hl).1.map pF = A1 at *
          generalize (madeA N al).map pF = A2 at *
          rcases hv with ⟨f1, rfl⟩ | ⟨rfl, f1, f2⟩ <;> rcases hv2 with ⟨f3, rfl⟩ | ⟨rfl, f3, f4⟩
          · simp -implicitDefEqProofs only [go_sem, simprocAttr, f1, f3]
            exact ret_fx (fun _ => true) (by simp -implicitDefEqProofs only [go_sem, simprocAttr, lstN_nil])
          · simp -implicitDefEqProofs only [go_sem, simprocAttr, f1, f3]
            exact ret_fx (fun _ => true) (by simp -implicitDefEqProofs only [go_sem, simprocAttr, lstN_nil, f3, lstN_ne f4])
          · simp -implicitDefEqProofs only [go_sem, simprocAttr, f1, f3]
            exact ret_fx (fun _ => true) (by simp -implicitDefEqProofs only [go_sem, simprocAttr, lstN_nil, f1, lstN_ne f2])
          · simp -implicitDefEqProofs only [go_sem, simprocAttr, f1, f3]
            exact ret_fx (fun _ => true) (by simp -implicitDefEqProofs only [go_sem, simprocAttr, f1, f3, lstN_ne f2, lstN_ne f4])
end S07

