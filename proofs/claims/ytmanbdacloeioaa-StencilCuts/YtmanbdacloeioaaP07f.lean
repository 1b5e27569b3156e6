/- A part of the proof: P07f, P07g, P07n. -/
import Derived.Test.YtmanbdacloeioaaP07al
import Derived.Test.YtmanbdacloeioaaH07z0
set_option linter.unusedVariables false
set_option linter.unusedSimpArgs false
set_option linter.unusedSectionVars false
namespace S07
open Go Abs
/-! What is cut. -/
theorem cntP_ex (f : Int → Int) (x : Int) : ∀ (w : List Int), 0 < cntP x (w.map f) → ∃ l ∈ w, f l = x
  | [], h => by simp [cntP] at h
  | l :: ls, h => by
    simp only [List.map_cons, cntP] at h
    by_cases e : f l = x
    · exact ⟨l, by simp, e⟩
    · rw [if_neg e] at h
      obtain ⟨y, h1, h2⟩ := cntP_ex f x ls (by omega)
      exact ⟨y, by simp [h1], h2⟩
section
variable {q : Al} (hq : HdOk q.N q.arr) (h8 : q.N ≤ 8)
include hq h8
theorem pool_top {p : Int} (p0 : 0 ≤ p) (p1 : p < q.N) (hp : q.pool p = p) : q.pool (q.top p) = p := by
  unfold Al.pool Al.top Al.hd at *
  rcases hq.hd p p0 (by omega) with e | ⟨a1, a2, a3, a4⟩
  · have n0 : ¬ p < gI q.arr p := by omega
    rw [if_neg n0, if_pos e]
  · have n1 : ¬ gI q.arr p = -1 := by omega
    by_cases c : p < gI q.arr p
    · rw [if_pos c, a4]
      rw [if_neg (by omega), if_pos c]
    · rw [if_neg c]; exact hp
theorem pool_idem {l : Int} (l0 : 0 ≤ l) (l1 : l < q.N) : q.pool (q.pool l) = q.pool l := by
  unfold Al.pool Al.hd
  rcases hq.hd l l0 (by omega) with e | ⟨a1, a2, a3, a4⟩
  · rw [if_pos e, if_pos e]
  · have n1 : ¬ gI q.arr l = -1 := by omega
    rw [if_neg n1]
    by_cases c : gI q.arr l < l
    · rw [if_pos c, a4, if_neg (by omega), if_neg (by omega)]
    · rw [if_neg c, if_neg n1, if_neg c]
theorem cutW_at {has : List Int} {t : Int} (t0 : 0 ≤ t) (t1 : t < q.N) : ∀ (ns : List Int) (i : Nat) (out : List Int), (out.length : Nat) = q.N → 0 ≤ gI out t →
    (∀ j n, ns[j]? = some n → gI has ((i + j : Nat) : Int) < n → q.pool ((i + j : Nat) : Int) = ((i + j : Nat) : Int) ∧ ((i + j : Nat) : Int) < q.N) →
    gI (q.cutW has ns i out) t = if (i : Int) ≤ q.pool t ∧ q.pool t < (i + ns.length : Nat) ∧ q.top (q.pool t) = t then mx (gI out t) (ns.getD (q.pool t - i).toNat 0 - gI has (q.pool t)) else gI out t
  | [], i, out, lo, h0, h => by
    rw [if_neg (by simp; omega)]; rfl
  | n :: ns, i, out, lo, h0, h => by
    have hn := h 0 n (by simp)
    have hns : ∀ j n', ns[j]? = some n' → gI has ((i + 1 + j : Nat) : Int) < n' → q.pool ((i + 1 + j : Nat) : Int) = ((i + 1 + j : Nat) : Int) ∧ ((i + 1 + j : Nat) : Int) < q.N := by
      intro j n' e1 e2
      have := h (j + 1) n' (by simpa using e1) (by rw [show i + (j + 1) = i + 1 + j by omega]; exact e2)
      rwa [show i + (j + 1) = i + 1 + j by omega] at this
    rw [Nat.add_zero] at hn
    unfold Al.cutW
    generalize hp : q.pool t = p at *
    by_cases c : n ≤ gI has i
    · rw [if_pos c]
      have ih := cutW_at (has := has) t0 t1 ns (i + 1) out lo h0 hns
      rw [hp] at ih
      rw [ih]
      by_cases e : (i : Int) = p
      · rw [if_neg (by omega)]
        by_cases e2 : q.top p = t
        · rw [if_pos ⟨by omega, by simp; omega, e2⟩]
          have : (p - (i : Int)).toNat = 0 := by omega
          rw [this, ← e]
          unfold mx
          simp only [List.getD_cons_zero]
          split <;> omega
        · rw [if_neg (fun h => e2 h.2.2)]
      · by_cases e3 : ((i + 1 : Nat) : Int) ≤ p ∧ p < (i + 1 + ns.length : Nat) ∧ q.top p = t
        · rw [if_pos e3, if_pos ⟨by omega, by simp; omega, e3.2.2⟩]
          have : (p - (i : Int)).toNat = (p - ((i + 1 : Nat) : Int)).toNat + 1 := by omega
          rw [this, List.getD_cons_succ]
        · rw [if_neg e3, if_neg (by simp; omega)]
    · rw [if_neg c]
      obtain ⟨hpi, hiN⟩ := hn (by omega)
      obtain ⟨tb0, tb1⟩ := top_bd hq h8 (l := (i : Int)) (by omega) hiN
      have gs := gI_set (p := out) (v := mx (gI out (q.top i)) (n - gI has i)) tb0 (by omega) t0
      have g0 : 0 ≤ gI (out.set (q.top i).toNat (mx (gI out (q.top i)) (n - gI has i))) t := by
        rw [gs]
        split
        · unfold mx; split <;> omega
        · exact h0
      have ih := cutW_at (has := has) t0 t1 ns (i + 1) _ (by simpa using lo) g0 hns
      rw [hp] at ih
      rw [ih]
      have key : t = q.top i ↔ ((i : Int) = p ∧ q.top p = t) := by
        constructor
        · intro e
          have := pool_top hq h8 (p := (i : Int)) (by omega) hiN hpi
          rw [← e, hp] at this
          exact ⟨this.symm, by rw [this, ← e]⟩
        · rintro ⟨e1, e2⟩; rw [e1, e2]
      by_cases e : (i : Int) = p
      · rw [if_neg (by omega), gs]
        by_cases e2 : q.top p = t
        · rw [if_pos (key.2 ⟨e, e2⟩), if_pos ⟨by omega, by simp; omega, e2⟩]
          have : (p - (i : Int)).toNat = 0 := by omega
          rw [this, List.getD_cons_zero, ← e]
          rw [key.2 ⟨e, e2⟩]
        · rw [if_neg (fun h => e2 (key.1 h).2), if_neg (fun h => e2 h.2.2)]
      · have nt : ¬ t = q.top i := fun h => e (key.1 h).1
        rw [gs, if_neg nt]
        by_cases e3 : ((i + 1 : Nat) : Int) ≤ p ∧ p < (i + 1 + ns.length : Nat) ∧ q.top p = t
        · rw [if_pos e3, if_pos ⟨by omega, by simp; omega, e3.2.2⟩]
          have : (p - (i : Int)).toNat = (p - ((i + 1 : Nat) : Int)).toNat + 1 := by omega
          rw [this, List.getD_cons_succ]
        · rw [if_neg e3, if_neg (by simp; omega)]
theorem cutW_word {has w out : List Int} {t : Int} (h0 : ∀ i : Int, 0 ≤ i → 0 ≤ gI has i) (hw : ∀ n ∈ w, 0 ≤ n ∧ n < q.N) (lo : (out.length : Nat) = q.N) (g0 : 0 ≤ gI out t) (t0 : 0 ≤ t) (t1 : t < q.N) :
    gI (q.cutW has (q.needsF w z8) 0 out) t = if q.top (q.pool t) = t then mx (gI out t) (cntP (q.pool t) (w.map q.pool) - gI has (q.pool t)) else gI out t := by
  have pb := pool_bd hq t0 (show t < 8 by omega)
  have n8 : (q.needsF w z8).length = 8 := needsF_len q w z8
  have nd : ∀ x : Int, 0 ≤ x → gI (q.needsF w z8) x = cntP x (w.map q.pool) := by
    intro x x0
    rw [needsF_cnt hq h8 w z8 x rfl hw x0, gI_z8 x]; omega
  rw [cutW_at hq h8 t0 t1 (q.needsF w z8) 0 out lo g0]
  · have e1 : (q.needsF w z8).getD (q.pool t - (0 : Nat)).toNat 0 = cntP (q.pool t) (w.map q.pool) := by
      rw [← nd _ pb.1]; unfold gI; congr 1; omega
    rw [e1]
    by_cases e : q.top (q.pool t) = t
    · rw [if_pos ⟨by omega, by rw [n8]; omega, e⟩, if_pos e]
    · rw [if_neg (fun h => e h.2.2), if_neg e]
  · intro j n hj hlt
    rw [Nat.zero_add] at hlt ⊢
    have e2 : gI (q.needsF w z8) (j : Nat) = n := by
      unfold gI; rw [List.getD_eq_getElem?_getD]; simp [hj]
    rw [nd _ (by omega)] at e2
    have hh := h0 (j : Nat) (by omega)
    obtain ⟨l, hl, hlj⟩ := cntP_ex q.pool (j : Nat) w (by omega)
    have hl' := hw l hl
    have := pool_idem hq h8 hl'.1 hl'.2
    have pl := pool_bd hq hl'.1 (show l < 8 by omega)
    rw [hlj] at this pl
    exact ⟨this, by omega⟩
omit hq h8 in
theorem cutF_len (has : List Int) : ∀ (W : List (List Int)) (out : List Int), (q.cutF has W out).length = out.length
  | [], _ => rfl
  | w :: ws, out => by rw [Al.cutF, cutF_len has ws, cutW_len]
theorem cutF_at {has : List Int} (h0 : ∀ i : Int, 0 ≤ i → 0 ≤ gI has i) {t : Int} (t0 : 0 ≤ t) (t1 : t < q.N) : ∀ (W : List (List Int)) (out : List Int), (∀ w ∈ W, ∀ n ∈ w, 0 ≤ n ∧ n < q.N) → (out.length : Nat) = q.N → 0 ≤ gI out t →
    gI out t ≤ gI (q.cutF has W out) t ∧ (q.top (q.pool t) = t → ∀ w ∈ W, cntP (q.pool t) (w.map q.pool) - gI has (q.pool t) ≤ gI (q.cutF has W out) t) ∧
    (gI (q.cutF has W out) t = gI out t ∨ (q.top (q.pool t) = t ∧ ∃ w ∈ W, gI (q.cutF has W out) t = cntP (q.pool t) (w.map q.pool) - gI has (q.pool t)))
  | [], out, _, _, _ => ⟨Int.le_refl _, by simp, .inl rfl⟩
  | w :: ws, out, hW, lo, g0 => by
    have cw := cutW_word hq h8 h0 (hW w (by simp)) lo g0 t0 t1
    have g1 : 0 ≤ gI (q.cutW has (q.needsF w z8) 0 out) t := by
      rw [cw]; split
      · unfold mx; split <;> omega
      · exact g0
    obtain ⟨i1, i2, i3⟩ := cutF_at h0 t0 t1 ws (q.cutW has (q.needsF w z8) 0 out) (fun x hx => hW x (by simp [hx])) (by rw [cutW_len]; exact lo) g1
    rw [Al.cutF]
    have le1 : gI out t ≤ gI (q.cutW has (q.needsF w z8) 0 out) t := by
      rw [cw]; split
      · unfold mx; split <;> omega
      · exact Int.le_refl _
    refine ⟨by omega, ?_, ?_⟩
    · intro ht x hx
      rcases List.mem_cons.1 hx with rfl | hx
      · rw [if_pos ht] at cw
        unfold mx at cw
        split at cw <;> omega
      · exact i2 ht x hx
    · rcases i3 with e | ⟨ht, x, hx, e⟩
      · rw [e, cw]
        by_cases ht : q.top (q.pool t) = t
        · rw [if_pos ht]
          unfold mx
          split
          · exact .inr ⟨ht, w, by simp, rfl⟩
          · exact .inl rfl
        · rw [if_neg ht]; exact .inl rfl
      · exact .inr ⟨ht, x, by simp [hx], e⟩
end
end S07

namespace S07
open Go Abs
theorem hasP_zip (f : Int → Int) (x : Int) : ∀ (a b : List Int) (i : Nat), a.length = b.length → hasP f (List.zipWith (· + ·) a b) i x = hasP f a i x + hasP f b i x
  | [], [], i, _ => by simp [hasP]
  | [], y :: ys, i, h => by simp at h
  | y :: ys, [], i, h => by simp at h
  | m :: a, n :: b, i, h => by
    have := hasP_zip f x a b (i + 1) (by simpa using h)
    simp only [List.zipWith_cons_cons, hasP, this]
    split <;> omega
theorem hasP_ge (f : Int → Int) (x : Int) : ∀ (c : List Int) (i j : Nat) (n : Int), (∀ y ∈ c, 0 ≤ y) → c[j]? = some n → f ((i + j : Nat) : Int) = x → n ≤ hasP f c i x
  | [], i, j, n, _, h, _ => by simp at h
  | m :: c, i, 0, n, h0, h, hf => by
    simp at h; subst h
    have := hasP_nn f x c (i + 1) fun y hy => h0 y (by simp [hy])
    rw [Nat.add_zero] at hf
    simp only [hasP]; rw [if_pos hf]; omega
  | m :: c, i, j + 1, n, h0, h, hf => by
    have := hasP_ge f x c (i + 1) j n (fun y hy => h0 y (by simp [hy])) (by simpa using h) (by rw [show i + 1 + j = i + (j + 1) by omega]; exact hf)
    have := h0 m (by simp)
    simp only [hasP]; split <;> omega
theorem hasP_only (f : Int → Int) (x : Int) : ∀ (c : List Int) (i : Nat) (k : Nat), (∀ (j : Nat) (n : Int), c[j]? = some n → j ≠ k → f ((i + j : Nat) : Int) = x → n = 0) → hasP f c i x = if f ((i + k : Nat) : Int) = x then c.getD k 0 else 0
  | [], i, k, _ => by simp [hasP]
  | m :: c, i, 0, h => by
    have := hasP_only f x c (i + 1) c.length (by
      intro j n hj _ hf
      exact h (j + 1) n (by simpa using hj) (by omega) (by rw [show i + (j + 1) = i + 1 + j by omega]; exact hf))
    simp only [hasP, this, Nat.add_zero, List.getD_cons_zero]
    have e : c.getD c.length 0 = 0 := by simp [List.getD_eq_getElem?_getD]
    rw [e]
    split <;> split <;> omega
  | m :: c, i, k + 1, h => by
    have := hasP_only f x c (i + 1) k (by
      intro j n hj hne hf
      exact h (j + 1) n (by simpa using hj) (by omega) (by rw [show i + (j + 1) = i + 1 + j by omega]; exact hf))
    have h1 := h 0 m (by simp) (by omega)
    rw [Nat.add_zero] at h1
    simp only [hasP, this, List.getD_cons_succ]
    rw [show i + 1 + k = i + (k + 1) by omega]
    by_cases e : f i = x
    · rw [if_pos e, h1 e]; omega
    · rw [if_neg e]; omega
theorem cntP_le (x : Int) : ∀ (w : List Int), cntP x w ≤ w.length
  | [] => by simp [cntP]
  | l :: ls => by have := cntP_le x ls; simp only [cntP, List.length_cons]; split <;> omega
section
variable {N : Int} {H A : List (Int × Int)} (eA : errA N H A = 0) {c : List Int} {W : List (List Int)} (hc : CountOk N c) (hW : ∀ w ∈ W, WordOk N w)
include eA hc hW
theorem cut_len : ((cutR N H A c W).length : Nat) = N := by
  obtain ⟨n0, n8, _⟩ := errA_ok eA
  unfold cutR
  rw [cutF_len]
  simp; omega
theorem cut_has : ∀ x : Int, 0 ≤ x → gI ((alOf N H A).hasF c 0 z8) x = hasP (alOf N H A).pool c 0 x := by
  intro x x0
  obtain ⟨n0, n8, _⟩ := errA_ok eA
  have := hc.len
  rw [hasF_cnt (hdOk eA) c 0 z8 x rfl (by omega) x0, gI_z8 x]; omega
theorem cut_at {t : Int} (t0 : 0 ≤ t) (t1 : t < N) :
    0 ≤ gI (cutR N H A c W) t ∧ gI (cutR N H A c W) t ≤ 6 ∧ ((alOf N H A).top ((alOf N H A).pool t) = t → ∀ w ∈ W, cntP ((alOf N H A).pool t) (w.map (alOf N H A).pool) - hasP (alOf N H A).pool c 0 ((alOf N H A).pool t) ≤ gI (cutR N H A c W) t) ∧
    (gI (cutR N H A c W) t = 0 ∨ ((alOf N H A).top ((alOf N H A).pool t) = t ∧ ∃ w ∈ W, gI (cutR N H A c W) t = cntP ((alOf N H A).pool t) (w.map (alOf N H A).pool) - hasP (alOf N H A).pool c 0 ((alOf N H A).pool t))) := by
  obtain ⟨n0, n8, _⟩ := errA_ok eA
  have hx := cut_has eA hc hW
  have c0 : ∀ n ∈ c, 0 ≤ n := fun n hn => (hc.bd n hn).1
  have pb := pool_bd (q := alOf N H A) (hdOk eA) t0 (show t < 8 by omega)
  have h0 : ∀ i : Int, 0 ≤ i → 0 ≤ gI ((alOf N H A).hasF c 0 z8) i := by
    intro i hi; rw [hx i hi]; exact hasP_nn _ _ _ _ c0
  obtain ⟨g1, g2, g3⟩ := cutF_at (q := alOf N H A) (hdOk eA) n8 h0 t0 t1 W (List.replicate N.toNat 0) (fun w hw n hn => (hW w hw).bd n hn) (by rw [List.length_replicate]; show ((N.toNat : Nat) : Int) = N; omega) (by rw [gI_rep]; exact Int.le_refl _)
  rw [gI_rep] at g1 g3
  rw [hx _ pb.1] at g2 g3
  refine ⟨g1, ?_, g2, g3⟩
  rcases g3 with e | ⟨_, w, hw, e⟩
  · show gI (cutR N H A c W) t ≤ 6
    unfold cutR; dsimp only; omega
  · have h1 := cntP_le ((alOf N H A).pool t) (w.map (alOf N H A).pool)
    have h2 := (hW w hw).l6
    have h3 := hasP_nn (alOf N H A).pool ((alOf N H A).pool t) c 0 c0
    rw [List.length_map] at h1
    unfold cutR; dsimp only; omega
end
end S07

namespace S07
open Go Abs
theorem zip_addAt : ∀ (a b : List Int) (k : Nat) (v : Int), a.length = b.length → List.zipWith (· + ·) a (addAt b (k : Nat) v) = addAt (List.zipWith (· + ·) a b) (k : Nat) v
  | [], [], k, v, _ => by simp [addAt]
  | [], _ :: _, _, _, h => by simp at h
  | _ :: _, [], _, _, h => by simp at h
  | x :: a, y :: b, 0, v, h => by simp [addAt]; omega
  | x :: a, y :: b, k + 1, v, h => by
    have := zip_addAt a b k v (by simpa using h)
    simp only [addAt, Int.toNat_natCast] at this
    simp only [addAt, Int.toNat_natCast, List.zipWith_cons_cons, List.set_cons_succ, List.getD_cons_succ, this]
section
variable {N : Int} {H A : List (Int × Int)} (eA : errA N H A = 0)
include eA
theorem help_iff {c w : List Int} (hc : CntB N c) (hw : ∀ l ∈ w, 0 ≤ l ∧ l < N) {k : Nat} (kN : (k : Int) < N) (hm : CntB N (addAt c (k : Nat) 1)) :
    (lackR N H A (addAt c (k : Nat) 1) w).length < (lackR N H A c w).length ↔ hasP (alOf N H A).pool c 0 ((alOf N H A).pool (k : Nat)) < cntP ((alOf N H A).pool (k : Nat)) (w.map (alOf N H A).pool) := by
  rw [lackR_is eA hc hw, lackR_is eA hm hw]
  have cl := hc.len
  have h0 := hasP_nn (alOf N H A).pool ((alOf N H A).pool (k : Nat)) c 0 fun n hn => (hc.bd n hn).1
  have h2 := lk_more ((alOf N H A).pool (k : Nat)) (w.map (alOf N H A).pool) (fun x => cntP x (w.map (alOf N H A).pool) - hasP (alOf N H A).pool c 0 x) (by omega)
  have e : lk (w.map (alOf N H A).pool) (fun x => cntP x (w.map (alOf N H A).pool) - hasP (alOf N H A).pool (addAt c (k : Nat) 1) 0 x) = lk (w.map (alOf N H A).pool) (dec1 (fun x => cntP x (w.map (alOf N H A).pool) - hasP (alOf N H A).pool c 0 x) ((alOf N H A).pool (k : Nat))) := by
    congr 1
    funext x
    unfold addAt
    rw [hasP_add _ _ _ _ _ _ (by omega)]
    simp only [dec1]
    have e : ((0 + ((k : Nat) : Int).toNat : Nat) : Int) = (k : Int) := by omega
    rw [e]
    by_cases f : x = (alOf N H A).pool (k : Nat)
    · rw [if_pos f, if_pos f.symm]; omega
    · rw [if_neg f, if_neg (fun h => f h.symm)]; omega
  rw [idxT_len, idxT_len]
  unfold fl0
  rw [e]
  by_cases hp : hasP (alOf N H A).pool c 0 ((alOf N H A).pool (k : Nat)) < cntP ((alOf N H A).pool (k : Nat)) (w.map (alOf N H A).pool)
  · rw [if_pos (by omega)] at h2
    exact ⟨fun _ => hp, fun _ => by omega⟩
  · rw [if_neg (by omega)] at h2
    exact ⟨fun h => by omega, fun h => absurd h hp⟩
end
structure CutI (N : Int) (H A : List (Int × Int)) (c : List Int) (W : List (List Int)) (k : Nat) (out : List Int) : Prop where
  len : (out.length : Int) = N
  lo : ∀ i : Nat, i < k → gI out (i : Nat) = 0
  hi : ∀ i : Nat, k < i → (i : Int) < N → gI out (i : Nat) = gI (cutR N H A c W) (i : Nat)
  at' : 0 ≤ gI out (k : Nat) ∧ gI out (k : Nat) ≤ gI (cutR N H A c W) (k : Nat)
section
variable {N : Int} {H A : List (Int × Int)} (eA : errA N H A = 0) {c : List Int} {W : List (List Int)} (hc : CountOk N c) (hW : ∀ w ∈ W, WordOk N w)
include eA hc hW
theorem cutI_bd {k : Nat} {out : List Int} (h : CutI N H A c W k out) : ∀ i : Nat, (i : Int) < N → 0 ≤ gI out (i : Nat) ∧ gI out (i : Nat) ≤ 6 := by
  intro i hi
  obtain ⟨g1, g2, _⟩ := cut_at eA hc hW (t := (i : Int)) (by omega) hi
  rcases Nat.lt_trichotomy i k with h1 | h1 | h1
  · rw [h.lo i h1]; omega
  · subst h1; have := h.at'; omega
  · rw [h.hi i h1 hi]; omega
theorem cutI_now {k : Nat} {out : List Int} (h : CutI N H A c W k out) : CntB N (List.zipWith (· + ·) c out) ∧ ∀ n ∈ List.zipWith (· + ·) c out, 0 ≤ n ∧ n ≤ 11 := by
  have cl := hc.len
  have ol := h.len
  have key : ∀ n ∈ List.zipWith (· + ·) c out, 0 ≤ n ∧ n ≤ 11 := by
    intro n hn
    obtain ⟨i, hi⟩ := List.mem_iff_getElem?.1 hn
    rw [List.getElem?_zipWith] at hi
    split at hi
    · rename_i a b e1 e2
      simp at hi; subst hi
      have b1 := hc.bd a (List.mem_of_getElem? e1)
      have il := (List.getElem?_eq_some_iff.1 e2).1
      have b2 := cutI_bd eA hc hW h i (by omega)
      have : gI out (i : Nat) = b := by unfold gI; rw [List.getD_eq_getElem?_getD]; simp [e2]
      omega
    · simp at hi
  exact ⟨⟨by rw [List.length_zipWith]; omega, fun n hn => by have := key n hn; omega⟩, key⟩
theorem cutI_help {k : Nat} {out : List Int} (kN : (k : Int) < N) (h : CutI N H A c W k out) :
    (W.any fun w => decide ((lackR N H A (addAt (List.zipWith (· + ·) c out) (k : Nat) 1) w).length < (lackR N H A (List.zipWith (· + ·) c out) w).length)) = decide (gI out (k : Nat) < gI (cutR N H A c W) (k : Nat)) := by
  obtain ⟨n0, n8, _⟩ := errA_ok eA
  have hq := hdOk eA
  have cl := hc.len
  have ol := h.len
  obtain ⟨nb, nb'⟩ := cutI_now eA hc hW h
  have nl : (List.zipWith (· + ·) c out).length = c.length := by rw [List.length_zipWith]; omega
  have mb : CntB N (addAt (List.zipWith (· + ·) c out) (k : Nat) 1) := by
    refine ⟨by rw [addAt_len, nl]; exact cl, fun n hn => ?_⟩
    unfold addAt at hn
    rw [Int.toNat_natCast] at hn
    rcases List.mem_or_eq_of_mem_set hn with hn | rfl
    · have := nb' n hn; omega
    · have e : (List.zipWith (· + ·) c out).getD k 0 ∈ List.zipWith (· + ·) c out := by
        rw [List.getD_eq_getElem?_getD, List.getElem?_eq_getElem (by omega)]; exact List.getElem_mem _
      have := nb' _ e
      omega
  obtain ⟨p, hp⟩ : ∃ p, (alOf N H A).pool (k : Nat) = p := ⟨_, rfl⟩
  have pb := pool_bd (q := alOf N H A) hq (show (0 : Int) ≤ (k : Nat) by omega) (by omega)
  rw [hp] at pb
  have hz : hasP (alOf N H A).pool (List.zipWith (· + ·) c out) 0 p = hasP (alOf N H A).pool c 0 p + hasP (alOf N H A).pool out 0 p := hasP_zip _ _ _ _ _ (by omega)
  obtain ⟨g1, g2, g3, g4⟩ := cut_at eA hc hW (t := (k : Int)) (by omega) kN
  rw [hp] at g3 g4
  have hiff : (W.any fun w => decide ((lackR N H A (addAt (List.zipWith (· + ·) c out) (k : Nat) 1) w).length < (lackR N H A (List.zipWith (· + ·) c out) w).length)) = true ↔ ∃ w ∈ W, hasP (alOf N H A).pool c 0 p + hasP (alOf N H A).pool out 0 p < cntP p (w.map (alOf N H A).pool) := by
    simp only [List.any_eq_true, decide_eq_true_eq]
    constructor
    · rintro ⟨w, hw, hh⟩
      have := (help_iff eA nb (hW w hw).bd kN mb).1 hh
      rw [hp, hz] at this
      exact ⟨w, hw, this⟩
    · rintro ⟨w, hw, hh⟩
      exact ⟨w, hw, (help_iff eA nb (hW w hw).bd kN mb).2 (by rw [hp, hz]; exact hh)⟩
  rw [Bool.eq_iff_iff, hiff, decide_eq_true_eq]
  -- the pool's members
  have hmem : ∀ j : Nat, (j : Int) < N → (alOf N H A).pool (j : Nat) = p → (j : Int) = p ∨ (j : Int) = (alOf N H A).top p := by
    intro j jN hj
    have hpp : (alOf N H A).pool p = p := by rw [← hp]; exact pool_idem (q := alOf N H A) hq n8 (by omega) kN
    unfold Al.pool Al.top Al.hd at *
    rcases hq.hd (j : Nat) (by omega) (by omega) with e1 | ⟨a1, a2, a3, a4⟩
    · rw [if_pos e1] at hj; exact .inl hj
    · rw [if_neg (by omega)] at hj
      by_cases c1 : gI (alOf N H A).arr (j : Nat) < (j : Int)
      · rw [if_pos c1] at hj
        right
        rw [← hj, a4, if_pos c1]
      · rw [if_neg c1] at hj; exact .inl hj
  by_cases ht : (alOf N H A).top p = (k : Int)
  · -- the greatest letter of its pool
    have ho : hasP (alOf N H A).pool out 0 p = gI out (k : Nat) := by
      rw [hasP_only (alOf N H A).pool p out 0 k ?_]
      · rw [if_pos (by rw [Nat.zero_add]; exact hp)]; simp [gI]
      · intro j n hj jk hpj
        rw [Nat.zero_add] at hpj
        have jl := (List.getElem?_eq_some_iff.1 hj).1
        rcases hmem j (by omega) hpj with e | e
        · have : j < k := by
            have : p ≤ (k : Int) := pb.2
            omega
          have := h.lo j this
          unfold gI at this
          rw [List.getD_eq_getElem?_getD] at this
          simpa [hj] using this
        · omega
    rw [ho]
    have ga := h.at'
    constructor
    · rintro ⟨w, hw, hh⟩
      have := g3 ht w hw
      omega
    · intro hlt
      rcases g4 with e | ⟨_, w, hw, e⟩
      · omega
      · exact ⟨w, hw, by omega⟩
  · -- another one is greater
    have hpk : p = (k : Int) := by
      rcases hmem k kN hp with e | e
      · exact e.symm
      · exact absurd e.symm ht
    have htN := top_bd (q := alOf N H A) hq n8 (l := p) pb.1 (by have : (alOf N H A).N = N := rfl; omega)
    have htp : (alOf N H A).pool ((alOf N H A).top p) = p := pool_top (q := alOf N H A) hq n8 pb.1 (by have : (alOf N H A).N = N := rfl; omega) (by rw [← hp]; exact pool_idem (q := alOf N H A) hq n8 (by omega) kN)
    have hgt : (k : Int) < (alOf N H A).top p := by
      unfold Al.top at ht ⊢
      split
      · omega
      · rename_i hn; rw [if_neg hn] at ht; exact absurd hpk ht
    obtain ⟨t, htn⟩ : ∃ t : Nat, (t : Int) = (alOf N H A).top p := ⟨((alOf N H A).top p).toNat, by omega⟩
    rw [← htn] at htp htN hgt
    have hN : (alOf N H A).N = N := rfl
    obtain ⟨r1, r2, r3, r4⟩ := cut_at eA hc hW (t := (t : Int)) (by omega) (by omega)
    rw [htp] at r3 r4
    have ho : gI (cutR N H A c W) (t : Nat) ≤ hasP (alOf N H A).pool out 0 p := by
      rw [← h.hi t (by omega) (by omega)]
      refine hasP_ge (alOf N H A).pool p out 0 t _ ?_ ?_ (by rw [Nat.zero_add]; exact htp)
      · intro y hy
        obtain ⟨i, hi⟩ := List.mem_iff_getElem?.1 hy
        have il := (List.getElem?_eq_some_iff.1 hi).1
        have := cutI_bd eA hc hW h i (by omega)
        have e : gI out (i : Nat) = y := by unfold gI; rw [List.getD_eq_getElem?_getD]; simp [hi]
        omega
      · have := gI_get (p := out) (i := (t : Int)) (by omega) (by omega)
        simpa using this
    have gz : gI (cutR N H A c W) (k : Nat) = 0 := by
      rcases g4 with e | ⟨e, _⟩
      · exact e
      · exact absurd e ht
    have ga := h.at'
    constructor
    · rintro ⟨w, hw, hh⟩
      have := r3 htn.symm w hw
      omega
    · intro hlt; omega
end
end S07

