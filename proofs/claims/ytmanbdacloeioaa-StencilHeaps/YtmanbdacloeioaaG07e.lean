/- A part of the proof: G07e, G07f, G07g. -/
import Derived.Test.YtmanbdacloeioaaG07a
set_option linter.unusedVariables false
set_option linter.unusedSimpArgs false
set_option maxRecDepth 20000
namespace S07
open Go Abs
structure Al where
  N : Int
  arr : List Int
  M : List ((Int × Int) × Bool)
def Al.fv (q : Al) (hs al : FV) : FV := alphaV q.N hs al q.arr q.M
structure Al.Ok (q : Al) : Prop where
  n0 : 1 ≤ q.N
  n1 : q.N ≤ 8
  len : q.arr.length = 8
  nd : (q.M.map Prod.fst).Nodup
  key : ∀ e ∈ q.M, KeyOk Q 115 (pF e.1)
def alOf (N : Int) (H A : List (Int × Int)) : Al := ⟨N, (headsF H arr0).getD [], alikeF A []⟩
theorem alikeF_ok {N : Int} (h8 : N ≤ 8) : ∀ (A : List (Int × Int)) (M : List ((Int × Int) × Bool)), (∀ p ∈ A, 0 ≤ p.1 ∧ p.1 < N ∧ 0 ≤ p.2 ∧ p.2 < N) → (M.map Prod.fst).Nodup → (∀ e ∈ M, KeyOk Q 115 (pF e.1)) →
    ((alikeF A M).map Prod.fst).Nodup ∧ ∀ e ∈ alikeF A M, KeyOk Q 115 (pF e.1)
  | [], M, _, nd, hk => ⟨nd, hk⟩
  | p :: ps, M, hb, nd, hk => by
    obtain ⟨b1, b2, b3, b4⟩ := hb p (by simp)
    refine alikeF_ok h8 ps _ (fun x hx => hb x (by simp [hx])) (kUp_nodup _ _ _ (kUp_nodup _ _ _ nd)) ?_
    intro e he
    rcases kUp_mem he with he | rfl
    · rcases kUp_mem he with he | rfl
      · exact hk e he
      · exact kp b1 (by omega) b3 (by omega)
    · exact kp b3 (by omega) b1 (by omega)
theorem errA_ok {N : Int} {H A : List (Int × Int)} (h : errA N H A = 0) : 1 ≤ N ∧ N ≤ 8 ∧ H.any (badP N) = false ∧ A.any (badQ N) = false ∧ ∃ arr, headsF H arr0 = some arr := by
  unfold errA at h
  split at h
  · simp at h
  · rename_i h1
    split at h
    · simp at h
    · split at h
      · simp at h
      · rename_i h3
        split at h
        · simp at h
        · rename_i h4
          simp only [not_or, Bool.not_eq_true] at h3
          have h1' := inB_iff.1 (by simpa using h1)
          refine ⟨h1'.1, h1'.2, h3.1, h3.2, ?_⟩
          cases e : headsF H arr0 with
          | none => exact absurd e h4
          | some arr => exact ⟨arr, rfl⟩
theorem alOf_ok {N : Int} {H A : List (Int × Int)} (h : errA N H A = 0) : (alOf N H A).Ok := by
  obtain ⟨n0, n1, h3, h4, arr, e⟩ := errA_ok h
  have bA : ∀ p ∈ A, 0 ≤ p.1 ∧ p.1 < N ∧ 0 ≤ p.2 ∧ p.2 < N := fun p hp => not_bad (by have := not_any h4 hp; simp [badQ] at this; exact this.1)
  obtain ⟨nd, hk⟩ := alikeF_ok n1 A [] bA (by simp) (by simp)
  refine ⟨n0, n1, ?_, nd, hk⟩
  simp only [alOf, e, Option.getD_some]
  exact headsF_len H arr0 arr e
theorem alphaR_ok {N : Int} {hs al : FV} {H A : List (Int × Int)} (h : errA N H A = 0) : alphaR N hs al H A = (alOf N H A).fv hs al := by simp [alphaR, h, alOf, Al.fv]
def isWord (N : Int) (l others : List Int) : Bool := inB 1 6 (l.length : Nat) && l.all fun n => inB 0 (N - 1) n || others.contains n
theorem t106 {q : Al} (ok : q.Ok) {hs al so : FV} {others : List Int} (n : Int) (ho : lsOf so = some (ints others)) (hl : others.length ≤ 9223372036854775807) :
    Fn Q 106 [.fo (.int n), .fo (.ptr [q.fv hs al]), .fo (.ptr [so])] (.one (.fx (.bool (!(inB 0 (q.N - 1) n || others.contains n))))) := by
  obtain ⟨n0, n1, len, nd, hk⟩ := ok
  have w : IntKind.i64.wrap (q.N - 1) = q.N - 1 := wr _ (by omega) (by omega)
  refine w106 ?_
  dsimp only [c106, sop, gop, nop, qmv, qsg, qex, qld, qcl, qln, qix, qbo, qt, qi]
  simp -implicitDefEqProofs only [go_sem, simprocAttr, Al.fv, alphaV, w]
  refine call1 [] true (w1 0 (q.N - 1) n) ?_
  cases hb : inB 0 (q.N - 1) n
  · simp -implicitDefEqProofs only [go_sem, simprocAttr, hb]
    refine call1 [] false (t107 so others n ho hl) ?_
    simp -implicitDefEqProofs only [go_sem, simprocAttr]
    exact ret_fv
  · simp -implicitDefEqProofs only [go_sem, simprocAttr, hb]
    exact ret_fv
theorem t86 {q : Al} (ok : q.Ok) {hs al sl so : FV} {l others : List Int} (h1 : lsOf sl = some (ints l)) (hl1 : l.length ≤ 9223372036854775807) (ho : lsOf so = some (ints others)) (hl : others.length ≤ 9223372036854775807) :
    Fn Q 86 [.fo (q.fv hs al), .fo sl, .fo so] (.one (.fx (.bool (isWord q.N l others)))) := by
  have o1 := ls_one ho
  have f1 := ls_lcells ho
  refine w86 ?_
  dsimp only [c86, sop, gop, nop, qmv, qsg, qex, qld, qcl, qln, qix, qbo, qt, qi]
  simp -implicitDefEqProofs only [go_sem, simprocAttr, Al.fv, alphaV, o1, f1, lenV_ls h1]
  refine call1 [] true (w1 1 6 (l.length : Nat)) ?_
  cases hb : inB 1 6 (l.length : Nat)
  · simp -implicitDefEqProofs only [go_sem, simprocAttr, hb]
    exact ret_eq (by simp [isWord, hb])
  · simp -implicitDefEqProofs only [go_sem, simprocAttr, hb]
    refine callC t105 true (fun x => !(inB 0 (q.N - 1) x.toI || others.contains x.toI)) (by rfl) h1 (ints_elem l) (by rw [ints_length]; exact hl1) en106 (by rfl) ?_ ?_
    · intro x hx
      obtain ⟨n, _, rfl⟩ := List.mem_map.1 hx
      exact t106 ok (hs := hs) (al := al) n ho hl
    simp -implicitDefEqProofs only [go_sem, simprocAttr, ints_any l (fun n => !(inB 0 (q.N - 1) n || others.contains n))]
    exact ret_eq (by simp [isWord, hb, List.all_eq_not_any_not])
theorem t104 {q : Al} (ok : q.Ok) {hs al sl : FV} {l : List Int} (h1 : lsOf sl = some (ints l)) (hl1 : l.length ≤ 9223372036854775807) :
    Fn Q 104 [.fo sl, .fo (.ptr [q.fv hs al])] (.one (.fx (.bool (!isWord q.N l [])))) := by
  have c := t86 ok (hs := hs) (al := al) (so := .nil) (others := []) h1 hl1 rfl (by simp)
  refine w104 ?_
  dsimp only [c104, sop, gop, nop, qmv, qsg, qex, qld, qcl, qln, qix, qbo, qt, qi]
  simp -implicitDefEqProofs only [go_sem, simprocAttr, Al.fv, alphaV]
  refine call1 [] false (c) ?_
  simp -implicitDefEqProofs only [go_sem, simprocAttr]
  exact ret_fv
theorem t85 {q : Al} (ok : q.Ok) {hs al sw : FV} {W : List (List Int)} (hW : Lists sw W) (hl : W.length ≤ 9223372036854775807) :
    Fn Q 85 [.fo (q.fv hs al), .fo sw] (.one (.fx (.bool (W.all fun l => isWord q.N l [])))) := by
  obtain ⟨wl, h1, rfl, h2⟩ := hW
  refine w85 ?_
  dsimp only [c85, sop, gop, nop, qmv, qsg, qex, qld, qcl, qln, qix, qbo, qt, qi]
  simp -implicitDefEqProofs only [go_sem, simprocAttr, Al.fv, alphaV]
  refine callC t90 true (fun x => !isWord q.N x.toL []) (by rfl) h1 (fun x hx => ?_) (by simpa using hl) en104 (by rfl) ?_ ?_
  · obtain ⟨l, hl, _⟩ := h2 x hx
    exact ls_elem hl
  · intro x hx
    obtain ⟨l, hl, hb⟩ := h2 x hx
    have := t104 ok (hs := hs) (al := al) hl hb
    rw [← toL_ls hl] at this
    exact this
  simp -implicitDefEqProofs only [go_sem, simprocAttr]
  exact ret_eq (by simp [List.all_eq_not_any_not, List.any_map, Function.comp_def])
def isCount (N : Int) (l : List Int) (most : Int) : Bool := decide ((l.length : Nat) = N) && l.all (inB 0 most)
theorem t89 {q : Al} (ok : q.Ok) {hs al sl : FV} {l : List Int} (most : Int) (h1 : lsOf sl = some (ints l)) (hl1 : l.length ≤ 9223372036854775807) :
    Fn Q 89 [.fo (q.fv hs al), .fo sl, .fo (.int most)] (.one (.fx (.bool (isCount q.N l most)))) := by
  refine w89 ?_
  dsimp only [c89, sop, gop, nop, qmv, qsg, qex, qld, qcl, qln, qix, qbo, qt, qi]
  simp -implicitDefEqProofs only [go_sem, simprocAttr, Al.fv, alphaV, lenV_ls h1]
  by_cases hb : (l.length : Nat) = q.N
  · have hb' : (((l.length : Nat) : Int) == q.N) = true := by simpa using hb
    simp -implicitDefEqProofs only [go_sem, simprocAttr, hb']
    refine call1 [] false (t87 0 most sl l h1 hl1) ?_
    simp -implicitDefEqProofs only [go_sem, simprocAttr]
    exact ret_eq (by simp [isCount, hb])
  · have hb' : (((l.length : Nat) : Int) == q.N) = false := by simpa using hb
    simp -implicitDefEqProofs only [go_sem, simprocAttr, hb']
    exact ret_eq (by simp [isCount, hb])
end S07

namespace S07
open Go Abs
def Al.hd (q : Al) (l : Int) : Int := gI q.arr l
def Al.pool (q : Al) (l : Int) : Int := if q.hd l = -1 then l else if q.hd l < l then q.hd l else l
structure HdOk (N : Int) (arr : List Int) : Prop where
  len : arr.length = 8
  hd : ∀ l, 0 ≤ l → l < 8 → gI arr l = -1 ∨ (0 ≤ gI arr l ∧ gI arr l < N ∧ l < N ∧ gI arr (gI arr l) = l)
theorem gI_set {p : List Int} {i j v : Int} (h1 : 0 ≤ j) (h2 : j < p.length) (h3 : 0 ≤ i) : gI (p.set j.toNat v) i = if i = j then v else gI p i := by
  unfold gI
  simp only [List.getD_eq_getElem?_getD]
  by_cases e : i = j
  · subst e
    rw [if_pos rfl, List.getElem?_set_self (by omega)]
    rfl
  · rw [if_neg e, List.getElem?_set_ne (by omega)]
theorem headsF_ok {N : Int} (h8 : N ≤ 8) : ∀ (H : List (Int × Int)) (arr r : List Int), (∀ p ∈ H, 0 ≤ p.1 ∧ p.1 < N ∧ 0 ≤ p.2 ∧ p.2 < N) → HdOk N arr → headsF H arr = some r → HdOk N r
  | [], arr, r, _, h, e => by simp [headsF] at e; subst e; exact h
  | p :: ps, arr, r, hb, h, e => by
    obtain ⟨b1, b2, b3, b4⟩ := hb p (by simp)
    simp only [headsF] at e
    split at e
    · rename_i hu
      refine headsF_ok h8 ps _ r (fun x hx => hb x (by simp [hx])) ⟨by simpa using h.len, ?_⟩ e
      have hl := h.len
      have g1 : ∀ i, 0 ≤ i → gI ((arr.set p.1.toNat p.2).set p.2.toNat p.1) i = if i = p.2 then p.1 else if i = p.1 then p.2 else gI arr i := by
        intro i hi
        rw [gI_set b3 (by simp; omega) hi]
        split
        · rfl
        · rw [gI_set b1 (by omega) hi]
      intro l l0 l1
      rw [g1 l l0]
      by_cases e2 : l = p.2
      · rw [if_pos e2]
        refine .inr ⟨b1, b2, by omega, ?_⟩
        rw [g1 _ b1]
        by_cases e3 : p.1 = p.2
        · rw [if_pos e3]; omega
        · rw [if_neg e3, if_pos rfl]; omega
      · rw [if_neg e2]
        by_cases e1 : l = p.1
        · rw [if_pos e1]
          refine .inr ⟨b3, b4, by omega, ?_⟩
          rw [g1 _ b3, if_pos rfl]; omega
        · rw [if_neg e1]
          rcases h.hd l l0 l1 with q | ⟨q1, q2, q3, q4⟩
          · exact .inl q
          · refine .inr ⟨q1, q2, q3, ?_⟩
            rw [g1 _ q1]
            have n1 : gI arr l ≠ p.2 := by intro e4; rw [e4] at q4; omega
            have n2 : gI arr l ≠ p.1 := by intro e4; rw [e4] at q4; omega
            rw [if_neg n1, if_neg n2]; exact q4
    · simp at e
theorem hdOk {N : Int} {H A : List (Int × Int)} (h : errA N H A = 0) : HdOk N (alOf N H A).arr := by
  obtain ⟨n0, n1, h3, h4, arr, e⟩ := errA_ok h
  have bH : ∀ p ∈ H, 0 ≤ p.1 ∧ p.1 < N ∧ 0 ≤ p.2 ∧ p.2 < N := fun p hp => not_bad (not_any h3 hp)
  simp only [alOf, e, Option.getD_some]
  refine headsF_ok n1 H arr0 arr bH ⟨rfl, ?_⟩ e
  intro l l0 l1
  have : l = 0 ∨ l = 1 ∨ l = 2 ∨ l = 3 ∨ l = 4 ∨ l = 5 ∨ l = 6 ∨ l = 7 := by omega
  rcases this with rfl | rfl | rfl | rfl | rfl | rfl | rfl | rfl <;> exact .inl rfl
theorem pool_bd {q : Al} (hq : HdOk q.N q.arr) {l : Int} (l0 : 0 ≤ l) (l1 : l < 8) : 0 ≤ q.pool l ∧ q.pool l ≤ l := by
  unfold Al.pool Al.hd
  rcases hq.hd l l0 l1 with e | ⟨q1, q2, q3, q4⟩
  · rw [if_pos e]; omega
  · rw [if_neg (by omega)]
    split <;> omega
theorem t67 {q : Al} (hq : HdOk q.N q.arr) {hs al : FV} {l : Int} (l0 : 0 ≤ l) (l1 : l < 8) : Fn Q 67 [.fo (q.fv hs al), .fo (.int l)] (.one (.fx (.int (q.pool l)))) := by
  have len := hq.len
  have lk : l.toNat < q.arr.length := by omega
  have e : q.arr.getD l.toNat 0 = q.hd l := rfl
  refine w67 ?_
  dsimp only [c67, sop, gop, nop, qmv, qsg, qex, qld, qcl, qln, qix, qbo, qt, qi]
  simp -implicitDefEqProofs only [go_sem, simprocAttr, Al.fv, alphaV, l0, l1, farr_get lk, e]
  by_cases h : q.hd l = -1
  · have h' : (q.hd l != -1) = false := by simpa using h
    simp -implicitDefEqProofs only [go_sem, simprocAttr, h']
    exact ret_eq (by simp [Al.pool, h])
  · have h' : (q.hd l != -1) = true := by simpa using h
    simp -implicitDefEqProofs only [go_sem, simprocAttr, h', min2V]
    exact ret_eq (by simp [Al.pool, h])
def z8 : List Int := [0, 0, 0, 0, 0, 0, 0, 0]
def Al.hasF (q : Al) : List Int → Nat → List Int → List Int
  | [], _, p => p
  | n :: ns, i, p => q.hasF ns (i + 1) (addAt p (q.pool i) n)
def Al.needsF (q : Al) : List Int → List Int → List Int
  | [], p => p
  | l :: ls, p => q.needsF ls (addAt p (q.pool l) 1)
def agF (p : List Int) : FV := .agg (p.map .int)
theorem addAt_bd {p : List Int} {j v a b c : Int} (h : ∀ i, 0 ≤ i → a ≤ gI p i ∧ gI p i ≤ b) (j0 : 0 ≤ j) (j1 : j < p.length) (v0 : 0 ≤ v) (v1 : v ≤ c) : ∀ i, 0 ≤ i → a ≤ gI (addAt p j v) i ∧ gI (addAt p j v) i ≤ b + c := by
  intro i hi
  rw [gI_addAt j0 j1 hi]
  have h1 := h i hi
  have h2 := h j j0
  split <;> omega
theorem t70 {q : Al} (hq : HdOk q.N q.arr) {hs al sc : FV} {c : List Int} (h1 : lsOf sc = some (ints c)) (hl : c.length ≤ 8) (hc : ∀ n ∈ c, 0 ≤ n ∧ n ≤ 20) : Fn Q 70 [.fo (q.fv hs al), .fo sc] (.one (.fx (agF (q.hasF c 0 z8)))) := by
  refine w70 ?_
  dsimp only [c70, sop, gop, nop, qmv, qsg, qex, qld, qcl, qln, qix, qbo, qt, qi]
  simp -implicitDefEqProofs only [go_sem, simprocAttr, Al.fv, alphaV, lenV_ls h1]
  refine lpL (β := List Int) 9 [5, 6] 9 [4] c (by omega) (fun ns k p => q.hasF ns k p = q.hasF c 0 z8 ∧ p.length = 8 ∧ ∀ i, 0 ≤ i → 0 ≤ gI p i ∧ gI p i ≤ 20 * k) (fun k p ρ h => ρ 9 = .fv (.int k) ∧ h.gen 4 = 1 ∧ h.obj 4 = some (.box (p.map (fun n => LV.fv (.int n))))) z8 ⟨rfl, rfl, ?_⟩ ?_ ?_ ?_
  · intro i hi
    have : gI z8 i = 0 := by
      unfold gI z8
      simp only [List.getD_eq_getElem?_getD]
      rcases Nat.lt_or_ge i.toNat 8 with h | h
      · have : i.toNat = 0 ∨ i.toNat = 1 ∨ i.toNat = 2 ∨ i.toNat = 3 ∨ i.toNat = 4 ∨ i.toNat = 5 ∨ i.toNat = 6 ∨ i.toNat = 7 := by omega
        rcases this with e | e | e | e | e | e | e | e <;> rw [e] <;> rfl
      · rw [List.getElem?_eq_none (by simpa using h)]; rfl
    omega
  · simp -implicitDefEqProofs only [go_sem, simprocAttr, z8]
  · rintro p ρ h ⟨e, lp, _⟩ ⟨r9, g4, o4⟩
    simp only [Al.hasF] at e
    simp -implicitDefEqProofs only [go_sem, simprocAttr, r9, g4, o4, arr_load lp, lp, arr_all]
    exact ret_eq (by rw [e]; rfl)
  · rintro n ns k p ρ h hx hk hm hk' hw ⟨e, lp, bp⟩ ⟨r9, g4, o4⟩
    have hn := hc n hm
    obtain ⟨p0, p1⟩ := pool_bd hq (l := (k : Int)) (by omega) (by omega)
    have p2 : q.pool (k : Int) < 8 := by omega
    have pl : (q.pool (k : Int)).toNat < p.length := by omega
    have pb := bp _ p0
    have ge : p.getD (q.pool (k : Int)).toNat 0 = gI p (q.pool (k : Int)) := rfl
    have w : IntKind.i64.wrap (gI p (q.pool (k : Int)) + n) = gI p (q.pool (k : Int)) + n := wr _ (by omega) (by omega)
    have le1 : (q.pool (k : Int)).toNat + 1 ≤ p.length := by omega
    simp -implicitDefEqProofs only [go_sem, simprocAttr, r9, hk', index_map h1 idx_26 hx rfl]
    refine call1 [] false (t67 hq (hs := hs) (al := al) (l := (k : Int)) (by omega) (by omega)) ?_
    simp -implicitDefEqProofs only [go_sem, simprocAttr, g4, o4, p0, p2, arr_get0 pl, ge, w, arr_set0 pl, le1, r9, hw]
    refine nxtL (addAt p (q.pool k) n) ⟨by rw [← e]; rfl, by rw [addAt_len]; exact lp, ?_⟩ ?_
    · have := addAt_bd bp p0 (by omega) hn.1 hn.2
      intro i hi
      have := this i hi
      push_cast
      omega
    · simp -implicitDefEqProofs only [go_sem, simprocAttr, g4, addAt, ge]
end S07

namespace S07
open Go Abs
theorem gI_z8 (i : Int) : gI z8 i = 0 := by
  unfold gI z8
  simp only [List.getD_eq_getElem?_getD]
  rcases Nat.lt_or_ge i.toNat 8 with h | h
  · have : i.toNat = 0 ∨ i.toNat = 1 ∨ i.toNat = 2 ∨ i.toNat = 3 ∨ i.toNat = 4 ∨ i.toNat = 5 ∨ i.toNat = 6 ∨ i.toNat = 7 := by omega
    rcases this with e | e | e | e | e | e | e | e <;> rw [e] <;> rfl
  · rw [List.getElem?_eq_none (by simpa using h)]; rfl
theorem t71 {q : Al} (hq : HdOk q.N q.arr) {hs al sw : FV} {w : List Int} (h1 : lsOf sw = some (ints w)) (hl : w.length ≤ 6) (hw' : ∀ n ∈ w, 0 ≤ n ∧ n < 8) : Fn Q 71 [.fo (q.fv hs al), .fo sw] (.one (.fx (agF (q.needsF w z8)))) := by
  refine w71 ?_
  dsimp only [c71, sop, gop, nop, qmv, qsg, qex, qld, qcl, qln, qix, qbo, qt, qi]
  simp -implicitDefEqProofs only [go_sem, simprocAttr, Al.fv, alphaV, lenV_ls h1]
  refine lpL (β := List Int) 9 [6] 9 [4] w (by omega) (fun ns k p => q.needsF ns p = q.needsF w z8 ∧ p.length = 8 ∧ ∀ i, 0 ≤ i → 0 ≤ gI p i ∧ gI p i ≤ k) (fun k p ρ h => ρ 9 = .fv (.int k) ∧ h.gen 4 = 1 ∧ h.obj 4 = some (.box (p.map (fun n => LV.fv (.int n))))) z8 ⟨rfl, rfl, ?_⟩ ?_ ?_ ?_
  · intro i hi
    have := gI_z8 i
    omega
  · simp -implicitDefEqProofs only [go_sem, simprocAttr, z8]
  · rintro p ρ h ⟨e, lp, _⟩ ⟨r9, g4, o4⟩
    simp only [Al.needsF] at e
    simp -implicitDefEqProofs only [go_sem, simprocAttr, r9, g4, o4, arr_load lp, lp, arr_all]
    exact ret_eq (by rw [e]; rfl)
  · rintro n ns k p ρ h hx hk hm hk' hw ⟨e, lp, bp⟩ ⟨r9, g4, o4⟩
    have hn := hw' n hm
    obtain ⟨p0, p1⟩ := pool_bd hq hn.1 hn.2
    have p2 : q.pool n < 8 := by omega
    have pl : (q.pool n).toNat < p.length := by omega
    have pb := bp _ p0
    have ge : p.getD (q.pool n).toNat 0 = gI p (q.pool n) := rfl
    have w1 : IntKind.i64.wrap (gI p (q.pool n) + 1) = gI p (q.pool n) + 1 := wr _ (by omega) (by omega)
    have le1 : (q.pool n).toNat + 1 ≤ p.length := by omega
    simp -implicitDefEqProofs only [go_sem, simprocAttr, r9, hk', index_map h1 idx_26 hx rfl]
    refine call1 [] false (t67 hq (hs := hs) (al := al) hn.1 hn.2) ?_
    simp -implicitDefEqProofs only [go_sem, simprocAttr, g4, o4, p0, p2, arr_get0 pl, ge, w1, arr_set0 pl, le1, r9, hw]
    refine nxtL (addAt p (q.pool n) 1) ⟨by rw [← e]; rfl, by rw [addAt_len]; exact lp, ?_⟩ ?_
    · have := addAt_bd bp p0 (by omega) (show (0 : Int) ≤ 1 by omega) (show (1 : Int) ≤ 1 by omega)
      intro i hi
      have := this i hi
      push_cast
      omega
    · simp -implicitDefEqProofs only [go_sem, simprocAttr, g4, addAt, ge]
def errL (N : Int) (H A : List (Int × Int)) (c : List Int) (W : List (List Int)) : Int :=
  if errA N H A ≠ 0 then errA N H A else if 5 < W.length then 5 else if isCount N c 5 = false ∨ (W.all fun l => isWord N l []) = false then 4 else 0
theorem errL_ok {N : Int} {H A : List (Int × Int)} {c : List Int} {W : List (List Int)} (h : errL N H A c W = 0) : errA N H A = 0 ∧ W.length ≤ 5 ∧ isCount N c 5 = true ∧ (W.all fun l => isWord N l []) = true := by
  unfold errL at h
  split at h
  · rename_i h1; exact absurd h h1
  · split at h
    · simp at h
    · split at h
      · simp at h
      · rename_i h1 h2 h3
        simp only [not_or, Bool.not_eq_false] at h3
        exact ⟨by simpa using h1, by omega, h3.1, h3.2⟩
theorem t64 {s : FV} {N : Int} {hs al sc sW : FV} {H A : List (Int × Int)} {c : List Int} {W : List (List Int)} (v : SetV s N hs al H A) (h1 : lsOf sc = some (ints c)) (hl1 : c.length ≤ 9223372036854775807) (hW : Lists sW W) (hl : W.length ≤ 9223372036854775807) :
    Fn Q 64 [.fo s, .fo sc, .fo sW] (.tup [.fx (if errL N H A c W = 0 then (alOf N H A).fv hs al else .val (.pointer none)), .fx (.int (errL N H A c W))]) := by
  have c82 := t82 v
  obtain ⟨rfl, hH, hA, lH, lA⟩ := v
  have o1 := ls_one hH
  have o2 := ls_one hA
  by_cases e : errA N H A = 0
  · have ok := alOf_ok e
    have c89 := t89 ok (hs := hs) (al := al) (5 : Int) h1 hl1
    have c85 := t85 ok (hs := hs) (al := al) hW hl
    rw [alphaR_ok e, e] at c82
    simp only [show (alOf N H A).N = N from rfl] at c89 c85
    by_cases e5 : 5 < W.length
    · have e5' : (5 : Int) < (W.length : Nat) := by omega
      have eL : errL N H A c W = 5 := by simp [errL, e, e5]
      obtain ⟨wl, hw1, hw2, _⟩ := hW
      have hw3 : wl.length = W.length := by rw [← hw2]; simp
      refine w64 ?_
      dsimp only [c64, sop, gop, nop, qmv, qsg, qex, qld, qcl, qln, qix, qbo, qt, qi]
      simp -implicitDefEqProofs only [go_sem, simprocAttr, o1, o2]
      refine call1 [] false (c82) ?_
      simp -implicitDefEqProofs only [go_sem, simprocAttr, lenV_ls hw1, hw3, e5']
      refine ret_tup (fun _ => true) ?_ (by simp [ownNames])
      simp -implicitDefEqProofs only [go_sem, simprocAttr, eL]
    · have e5' : ¬ (5 : Int) < (W.length : Nat) := by omega
      have hW' := hW
      obtain ⟨wl, hw1, hw2, _⟩ := hW'
      have hw3 : wl.length = W.length := by rw [← hw2]; simp
      cases ec : isCount N c 5
      · have eL : errL N H A c W = 4 := by simp [errL, e, e5, ec]
        refine w64 ?_
        dsimp only [c64, sop, gop, nop, qmv, qsg, qex, qld, qcl, qln, qix, qbo, qt, qi]
        simp -implicitDefEqProofs only [go_sem, simprocAttr, o1, o2]
        refine call1 [] false (c82) ?_
        simp -implicitDefEqProofs only [go_sem, simprocAttr, lenV_ls hw1, hw3, e5']
        refine call1 [] false (c89) ?_
        simp -implicitDefEqProofs only [go_sem, simprocAttr, ec]
        refine ret_tup (fun _ => true) ?_ (by simp [ownNames])
        simp -implicitDefEqProofs only [go_sem, simprocAttr, eL]
      · cases ew : W.all fun l => isWord N l []
        · have eL : errL N H A c W = 4 := by simp only [errL, e, e5, ec, ew]; simp
          refine w64 ?_
          dsimp only [c64, sop, gop, nop, qmv, qsg, qex, qld, qcl, qln, qix, qbo, qt, qi]
          simp -implicitDefEqProofs only [go_sem, simprocAttr, o1, o2]
          refine call1 [] false (c82) ?_
          simp -implicitDefEqProofs only [go_sem, simprocAttr, lenV_ls hw1, hw3, e5']
          refine call1 [] false (c89) ?_
          simp -implicitDefEqProofs only [go_sem, simprocAttr, ec]
          refine call1 [] false (c85) ?_
          simp -implicitDefEqProofs only [go_sem, simprocAttr, ew]
          refine ret_tup (fun _ => true) ?_ (by simp [ownNames])
          simp -implicitDefEqProofs only [go_sem, simprocAttr, eL]
        · have eL : errL N H A c W = 0 := by simp only [errL, e, e5, ec, ew]; simp
          refine w64 ?_
          dsimp only [c64, sop, gop, nop, qmv, qsg, qex, qld, qcl, qln, qix, qbo, qt, qi]
          simp -implicitDefEqProofs only [go_sem, simprocAttr, o1, o2]
          refine call1 [] false (c82) ?_
          simp -implicitDefEqProofs only [go_sem, simprocAttr, lenV_ls hw1, hw3, e5']
          refine call1 [] false (c89) ?_
          simp -implicitDefEqProofs only [go_sem, simprocAttr, ec]
          refine call1 [] false (c85) ?_
          simp -implicitDefEqProofs only [go_sem, simprocAttr, ew]
          refine ret_tup (fun _ => true) ?_ (by simp [ownNames])
          simp -implicitDefEqProofs only [go_sem, simprocAttr, eL]
  · have e' : (errA N H A != 0) = true := by simpa using e
    have eL : errL N H A c W = errA N H A := by simp [errL, e]
    have eR : alphaR N hs al H A = .val (.pointer none) := by simp [alphaR, e]
    rw [eR] at c82
    refine w64 ?_
    dsimp only [c64, sop, gop, nop, qmv, qsg, qex, qld, qcl, qln, qix, qbo, qt, qi]
    simp -implicitDefEqProofs only [go_sem, simprocAttr, o1, o2]
    refine call1 [] false (c82) ?_
    simp -implicitDefEqProofs only [go_sem, simprocAttr, e']
    refine ret_tup (fun _ => true) ?_ (by simp [ownNames])
    simp -implicitDefEqProofs only [go_sem, simprocAttr, eL, e]
def Al.lackF (q : Al) (has : List Int) : List Int → Nat → List Int → List Int
  | [], _, _ => []
  | l :: ls, i, nd => if gI has (q.pool l) < gI nd (q.pool l) then (i : Int) :: q.lackF has ls (i + 1) (addAt nd (q.pool l) (-1)) else q.lackF has ls (i + 1) nd
structure CountOk (N : Int) (c : List Int) : Prop where
  len : (c.length : Nat) = N
  bd : ∀ n ∈ c, 0 ≤ n ∧ n ≤ 5
structure WordOk (N : Int) (w : List Int) : Prop where
  l1 : 1 ≤ w.length
  l6 : w.length ≤ 6
  bd : ∀ n ∈ w, 0 ≤ n ∧ n < N
theorem count_ok {N : Int} {c : List Int} (h : isCount N c 5 = true) : CountOk N c := by
  simp only [isCount, Bool.and_eq_true, decide_eq_true_eq, List.all_eq_true, inB_iff] at h
  exact ⟨h.1, h.2⟩
theorem word_ok {N : Int} {w : List Int} (h : isWord N w [] = true) : WordOk N w := by
  simp only [isWord, Bool.and_eq_true, List.all_eq_true, inB_iff, List.contains_nil, Bool.or_false] at h
  exact ⟨by omega, by omega, fun n hn => by have := h.2 n hn; omega⟩
theorem hasF_len (q : Al) : ∀ (c : List Int) (k : Nat) (p : List Int), (q.hasF c k p).length = p.length
  | [], _, _ => rfl
  | n :: ns, k, p => by rw [Al.hasF, hasF_len q ns]; exact addAt_len _ _ _
theorem needsF_len (q : Al) : ∀ (w p : List Int), (q.needsF w p).length = p.length
  | [], _ => rfl
  | n :: ns, p => by rw [Al.needsF, needsF_len q ns]; exact addAt_len _ _ _
theorem hasF_bd {q : Al} (hq : HdOk q.N q.arr) : ∀ (c : List Int) (k : Nat) (p : List Int) (b : Int), p.length = 8 → k + c.length ≤ 8 → (∀ n ∈ c, 0 ≤ n ∧ n ≤ 5) → (∀ i, 0 ≤ i → 0 ≤ gI p i ∧ gI p i ≤ b) → ∀ i, 0 ≤ i → 0 ≤ gI (q.hasF c k p) i ∧ gI (q.hasF c k p) i ≤ b + 5 * c.length
  | [], _, p, b, _, _, _, h => by simpa [Al.hasF] using h
  | n :: ns, k, p, b, lp, lk, hc, h => by
    have hn := hc n (by simp)
    simp only [List.length_cons] at lk
    obtain ⟨p0, p1⟩ := pool_bd hq (l := (k : Int)) (by omega) (by omega)
    have := hasF_bd hq ns (k + 1) (addAt p (q.pool k) n) (b + 5) (by rw [addAt_len]; exact lp) (by omega) (fun x hx => hc x (by simp [hx])) (addAt_bd h p0 (by omega) hn.1 hn.2)
    intro i hi
    have := this i hi
    simp only [Al.hasF, List.length_cons]
    push_cast
    omega
theorem needsF_bd {q : Al} (hq : HdOk q.N q.arr) : ∀ (w p : List Int) (b : Int), p.length = 8 → (∀ n ∈ w, 0 ≤ n ∧ n < 8) → (∀ i, 0 ≤ i → 0 ≤ gI p i ∧ gI p i ≤ b) → ∀ i, 0 ≤ i → 0 ≤ gI (q.needsF w p) i ∧ gI (q.needsF w p) i ≤ b + w.length
  | [], p, b, _, _, h => by simpa [Al.needsF] using h
  | n :: ns, p, b, lp, hc, h => by
    have hn := hc n (by simp)
    obtain ⟨p0, p1⟩ := pool_bd hq hn.1 hn.2
    have := needsF_bd hq ns (addAt p (q.pool n) 1) (b + 1) (by rw [addAt_len]; exact lp) (fun x hx => hc x (by simp [hx])) (addAt_bd h p0 (by omega) (by omega) (Int.le_refl 1))
    intro i hi
    have := this i hi
    simp only [Al.needsF, List.length_cons]
    push_cast
    omega
end S07

