/- A part of the proof: P07al, P07b, P07l, P07m. -/
import Derived.Test.YtmanbdacloeioaaH07a
import Derived.Test.YtmanbdacloeioaaP07ab
set_option linter.unusedVariables false
set_option linter.unusedSimpArgs false
set_option maxRecDepth 20000
set_option linter.unusedSectionVars false
namespace S07
open Go Abs
/-! What is lacking, by pools. -/
def dec1 (d : Int → Int) (p : Int) : Int → Int := fun x => if x = p then d x - 1 else d x
def lk : List Int → (Int → Int) → List Bool
  | [], _ => []
  | p :: ps, d => if 0 < d p then true :: lk ps (dec1 d p) else false :: lk ps d
def idxT : Nat → List Bool → List Int
  | _, [] => []
  | i, b :: bs => if b then (i : Int) :: idxT (i + 1) bs else idxT (i + 1) bs
def cntB (v : Bool) (x : Int) : List Int → List Bool → Int
  | p :: ps, b :: bs => (if p = x ∧ b = v then 1 else 0) + cntB v x ps bs
  | _, _ => 0
def cntP (x : Int) : List Int → Int
  | [] => 0
  | p :: ps => (if p = x then 1 else 0) + cntP x ps
theorem lk_len : ∀ (ps : List Int) (d : Int → Int), (lk ps d).length = ps.length
  | [], _ => rfl
  | p :: ps, d => by unfold lk; split <;> simp [lk_len ps]
theorem cnt_split (x : Int) : ∀ (ps : List Int) (bs : List Bool), bs.length = ps.length → cntB true x ps bs + cntB false x ps bs = cntP x ps
  | [], bs, _ => by cases bs <;> simp [cntB, cntP]
  | p :: ps, [], h => by simp at h
  | p :: ps, b :: bs, h => by
    have := cnt_split x ps bs (by simpa using h)
    simp only [cntB, cntP]
    by_cases e : p = x <;> cases b <;> simp [e] <;> omega
theorem lk_cnt (x : Int) : ∀ (ps : List Int) (d : Int → Int), d x ≤ cntP x ps → cntB true x ps (lk ps d) = if 0 < d x then d x else 0
  | [], d, h => by simp [cntP] at h; simp [lk, cntB]; omega
  | p :: ps, d, h => by
    simp only [cntP] at h
    unfold lk
    by_cases hp : 0 < d p
    · rw [if_pos hp]
      simp only [cntB]
      have e1 : dec1 d p x = if x = p then d x - 1 else d x := rfl
      have := lk_cnt x ps (dec1 d p) (by rw [e1]; by_cases e : p = x <;> simp [e] at h ⊢ <;> first | omega | (rw [if_neg (fun h => e h.symm)]; omega))
      rw [this, e1]
      by_cases e : p = x
      · subst e
        rw [if_pos hp, if_pos ⟨rfl, trivial⟩, if_pos rfl]; split <;> omega
      · rw [if_neg (show ¬ (p = x ∧ True) from fun h => e h.1), if_neg (show ¬ x = p from fun h => e h.symm)]; omega
    · rw [if_neg hp]
      simp only [cntB]
      by_cases e : p = x
      · subst e
        have h0 : cntP p ps ≥ 0 := by
          clear h
          induction ps with
          | nil => simp [cntP]
          | cons y ys ih => simp only [cntP]; split <;> omega
        rw [lk_cnt p ps d (by omega)]; simp [hp]
      · rw [lk_cnt x ps d (by rw [if_neg e] at h; omega)]; simp [e]
theorem lk_more (x : Int) : ∀ (ps : List Int) (d : Int → Int), d x ≤ cntP x ps → ((lk ps (dec1 d x)).filter id).length + (if 0 < d x then 1 else 0) = ((lk ps d).filter id).length
  | [], d, h => by simp [cntP] at h; simp [lk]; omega
  | p :: ps, d, h => by
    simp only [cntP] at h
    have e1 : ∀ y, dec1 d x y = if y = x then d y - 1 else d y := fun _ => rfl
    by_cases e : p = x
    · subst e
      simp only [if_true] at h
      have e2 : dec1 d p p = d p - 1 := by simp [dec1]
      by_cases h1 : 1 < d p
      · have := lk_more p ps (dec1 d p) (by rw [e2]; omega)
        rw [e2, if_pos (by omega)] at this
        unfold lk
        rw [e2, if_pos (by omega), if_pos (by omega), if_pos (by omega)]
        simp only [List.filter_cons, id, if_true, List.length_cons]
        omega
      · by_cases h2 : 0 < d p
        · unfold lk
          rw [e2, if_neg (by omega), if_pos (by omega), if_pos (by omega)]
          simp
        · have h0 : cntP p ps ≥ 0 := by
            clear h
            induction ps with
            | nil => simp [cntP]
            | cons y ys ih => simp only [cntP]; split <;> omega
          have := lk_more p ps d (by omega)
          rw [if_neg h2] at this
          unfold lk
          rw [e2, if_neg (by omega), if_neg (by omega), if_neg (by omega)]
          simpa using this
    · rw [if_neg e] at h
      have e2 : dec1 d x p = d p := by simp [dec1, e]
      by_cases h1 : 0 < d p
      · have e3 : dec1 (dec1 d x) p = dec1 (dec1 d p) x := by
          funext y
          simp only [dec1]
          by_cases f1 : y = p
          · have : ¬ y = x := fun h => e (f1 ▸ h)
            have f3 : ¬ p = x := e
            subst f1; simp [f3]
          · by_cases f2 : y = x
            · subst f2; simp [f1]
            · simp [f1, f2]
        have e5 : ¬ x = p := fun h => e h.symm
        have e4 : dec1 d p x = d x := by simp [dec1, e5]
        have := lk_more x ps (dec1 d p) (by rw [e4]; omega)
        unfold lk
        rw [e2, if_pos h1, if_pos h1, e3]
        rw [e4] at this
        simp only [List.filter_cons, id, if_true, List.length_cons]
        omega
      · have := lk_more x ps d (by omega)
        unfold lk
        rw [e2, if_neg h1, if_neg h1]
        simpa using this
/-! What is laid without some places. -/
def fal : List Int → List Bool → List Int
  | l :: ls, b :: bs => if b then fal ls bs else l :: fal ls bs
  | _, _ => []
theorem idxT_len : ∀ (i : Nat) (bs : List Bool), (idxT i bs).length = (bs.filter id).length
  | _, [] => rfl
  | i, b :: bs => by
    have := idxT_len (i + 1) bs
    cases b <;> simp [idxT, this]
theorem idxT_mem : ∀ (i : Nat) (bs : List Bool) (n : Int), n ∈ idxT i bs ↔ ∃ j : Nat, n = ((i + j : Nat) : Int) ∧ bs[j]? = some true
  | i, [], n => by simp [idxT]
  | i, b :: bs, n => by
    have ih := idxT_mem (i + 1) bs n
    have key : (∃ j : Nat, n = ((i + j : Nat) : Int) ∧ (b :: bs)[j]? = some true) ↔ (n = (i : Nat) ∧ b = true) ∨ ∃ j : Nat, n = ((i + 1 + j : Nat) : Int) ∧ bs[j]? = some true := by
      constructor
      · rintro ⟨j, h1, h2⟩
        cases j with
        | zero => exact .inl ⟨by simpa using h1, by simpa using h2⟩
        | succ j => exact .inr ⟨j, by omega, by simpa using h2⟩
      · rintro (⟨h1, h2⟩ | ⟨j, h1, h2⟩)
        · exact ⟨0, by simpa using h1, by simp [h2]⟩
        · exact ⟨j + 1, by omega, by simpa using h2⟩
    rw [key, ← ih]
    cases b <;> simp [idxT]
theorem cntB_nn (v : Bool) (x : Int) : ∀ (ps : List Int) (bs : List Bool), 0 ≤ cntB v x ps bs
  | [], bs => by simp [cntB]
  | p :: ps, [] => by simp [cntB]
  | p :: ps, b :: bs => by have := cntB_nn v x ps bs; simp only [cntB]; split <;> omega
theorem cnt_fal (f : Int → Int) (x : Int) : ∀ (w : List Int) (bs : List Bool), cntP x ((fal w bs).map f) = cntB false x (w.map f) bs
  | [], bs => by cases bs <;> rfl
  | l :: ls, [] => rfl
  | l :: ls, b :: bs => by
    have := cnt_fal f x ls bs
    cases b <;> simp [fal, cntB, cntP, this]
theorem fal_mem : ∀ (w : List Int) (bs : List Bool) (n : Int), n ∈ fal w bs → n ∈ w
  | [], bs, n, h => by cases bs <;> simp [fal] at h
  | l :: ls, [], n, h => by simp [fal] at h
  | l :: ls, b :: bs, n, h => by
    cases b
    · simp only [fal, Bool.false_eq_true, if_false, List.mem_cons] at h
      rcases h with rfl | h
      · simp
      · exact List.mem_cons_of_mem _ (fal_mem ls bs n h)
    · simp only [fal, if_true] at h
      exact List.mem_cons_of_mem _ (fal_mem ls bs n h)
theorem fal_len : ∀ (w : List Int) (bs : List Bool), (fal w bs).length ≤ w.length
  | [], bs => by cases bs <;> simp [fal]
  | l :: ls, [] => by simp [fal]
  | l :: ls, b :: bs => by
    have := fal_len ls bs
    cases b <;> simp [fal] <;> omega
theorem fal_take : ∀ (w : List Int) (bs : List Bool) (k : Nat) (l : Int) (b : Bool), w[k]? = some l → bs[k]? = some b → fal (w.take (k + 1)) (bs.take (k + 1)) = fal (w.take k) (bs.take k) ++ if b then [] else [l]
  | [], bs, k, l, b, h, _ => by simp at h
  | x :: w, [], k, l, b, _, h => by simp at h
  | x :: w, c :: bs, 0, l, b, h1, h2 => by
    simp at h1 h2
    subst h1; subst h2
    cases c <;> simp [fal]
  | x :: w, c :: bs, k + 1, l, b, h1, h2 => by
    have := fal_take w bs k l b (by simpa using h1) (by simpa using h2)
    rw [List.take_succ_cons, List.take_succ_cons, List.take_succ_cons, List.take_succ_cons]
    cases c
    · simp only [fal, Bool.false_eq_true, if_false, this, List.cons_append]
    · simp only [fal, if_true, this]
/-! Counts. -/
theorem lk_congr : ∀ (ps : List Int) (d d' : Int → Int), (∀ x ∈ ps, d x = d' x) → lk ps d = lk ps d'
  | [], _, _, _ => rfl
  | p :: ps, d, d', h => by
    unfold lk
    rw [h p (by simp)]
    split
    · rw [lk_congr ps (dec1 d p) (dec1 d' p) (fun x hx => by simp only [dec1, h x (by simp [hx])])]
    · rw [lk_congr ps d d' (fun x hx => h x (by simp [hx]))]
def hasP (f : Int → Int) : List Int → Nat → Int → Int
  | [], _, _ => 0
  | n :: ns, i, x => (if f i = x then n else 0) + hasP f ns (i + 1) x
theorem cntP_nn (x : Int) : ∀ ps, 0 ≤ cntP x ps
  | [] => by simp [cntP]
  | p :: ps => by have := cntP_nn x ps; simp only [cntP]; split <;> omega
theorem hasP_nn (f : Int → Int) (x : Int) : ∀ (c : List Int) (i : Nat), (∀ n ∈ c, 0 ≤ n) → 0 ≤ hasP f c i x
  | [], _, _ => by simp [hasP]
  | n :: ns, i, h => by
    have := hasP_nn f x ns (i + 1) fun y hy => h y (by simp [hy])
    have := h n (by simp)
    simp only [hasP]; split <;> omega
theorem hasP_add (f : Int → Int) (x v : Int) : ∀ (c : List Int) (i j : Nat), j < c.length → hasP f (c.set j (c.getD j 0 + v)) i x = hasP f c i x + if f ((i + j : Nat) : Int) = x then v else 0
  | [], i, j, h => by simp at h
  | n :: ns, i, 0, h => by
    simp only [List.set_cons_zero, hasP, List.getD_cons_zero, Nat.add_zero]; split <;> omega
  | n :: ns, i, j + 1, h => by
    have := hasP_add f x v ns (i + 1) j (by simpa using h)
    simp only [List.set_cons_succ, hasP, List.getD_cons_succ, this]
    rw [show i + 1 + j = i + (j + 1) by omega]; omega
section
variable {q : Al} (hq : HdOk q.N q.arr) (h8 : q.N ≤ 8)
include hq h8
theorem lackF_lk (has : List Int) : ∀ (w : List Int) (i : Nat) (nd : List Int), nd.length = 8 → (∀ n ∈ w, 0 ≤ n ∧ n < q.N) → q.lackF has w i nd = idxT i (lk (w.map q.pool) (fun x => gI nd x - gI has x))
  | [], i, nd, _, _ => rfl
  | l :: ls, i, nd, ln, hw => by
    have hl := hw l (by simp)
    have pb := pool_bd hq hl.1 (show l < 8 by omega)
    simp only [List.map_cons, Al.lackF, lk]
    by_cases h : gI has (q.pool l) < gI nd (q.pool l)
    · rw [if_pos h, if_pos (by omega), idxT, if_pos rfl, lackF_lk has ls (i + 1) _ (by rw [addAt_len]; exact ln) (fun n hn => hw n (by simp [hn]))]
      congr 2
      refine lk_congr _ _ _ fun x hx => ?_
      obtain ⟨y, hy, rfl⟩ := List.mem_map.1 hx
      have hy' := hw y (by simp [hy])
      have py := pool_bd hq hy'.1 (show y < 8 by omega)
      rw [gI_addAt pb.1 (by omega) py.1]
      by_cases e : q.pool y = q.pool l
      · simp [dec1, e]; omega
      · simp [dec1, e]
    · rw [if_neg h, if_neg (by omega), lackF_lk has ls (i + 1) nd ln (fun n hn => hw n (by simp [hn]))]
      simp [idxT]
theorem needsF_cnt : ∀ (w p : List Int) (x : Int), p.length = 8 → (∀ n ∈ w, 0 ≤ n ∧ n < q.N) → 0 ≤ x → gI (q.needsF w p) x = gI p x + cntP x (w.map q.pool)
  | [], p, x, _, _, _ => by simp [Al.needsF, cntP]
  | l :: ls, p, x, lp, hw, x0 => by
    have hl := hw l (by simp)
    have pb := pool_bd hq hl.1 (show l < 8 by omega)
    rw [Al.needsF, needsF_cnt ls _ x (by rw [addAt_len]; exact lp) (fun n hn => hw n (by simp [hn])) x0, gI_addAt pb.1 (by omega) x0]
    simp only [List.map_cons, cntP]
    by_cases e : x = q.pool l
    · rw [if_pos e, if_pos e.symm, e]; omega
    · rw [if_neg e, if_neg (fun h => e h.symm)]; omega
omit h8 in
theorem hasF_cnt : ∀ (c : List Int) (i : Nat) (p : List Int) (x : Int), p.length = 8 → i + c.length ≤ 8 → 0 ≤ x → gI (q.hasF c i p) x = gI p x + hasP q.pool c i x
  | [], i, p, x, _, _, _ => by simp [Al.hasF, hasP]
  | n :: ns, i, p, x, lp, hl, x0 => by
    simp only [List.length_cons] at hl
    have pb := pool_bd hq (show 0 ≤ (i : Int) by omega) (show (i : Int) < 8 by omega)
    rw [Al.hasF, hasF_cnt ns _ _ x (by rw [addAt_len]; exact lp) (by omega) x0, gI_addAt pb.1 (by omega) x0]
    simp only [hasP]
    by_cases e : x = q.pool i
    · rw [if_pos e, if_pos e.symm, e]; omega
    · rw [if_neg e, if_neg (fun h => e h.symm)]; omega
theorem lackR_lk {c w : List Int} (hc : c.length ≤ 8) (hw : ∀ n ∈ w, 0 ≤ n ∧ n < q.N) : q.lackF (q.hasF c 0 z8) w 0 (q.needsF w z8) = idxT 0 (lk (w.map q.pool) (fun x => cntP x (w.map q.pool) - hasP q.pool c 0 x)) := by
  rw [lackF_lk hq h8 _ w 0 _ (by rw [needsF_len]; rfl) hw]
  congr 1
  refine lk_congr _ _ _ fun x hx => ?_
  obtain ⟨y, hy, rfl⟩ := List.mem_map.1 hx
  have hy' := hw y hy
  have py := pool_bd hq hy'.1 (show y < 8 by omega)
  have z0 : ∀ x : Int, 0 ≤ x → gI z8 x = 0 := fun x hx => gI_z8 x
  rw [needsF_cnt hq h8 w z8 _ rfl hw py.1, hasF_cnt hq c 0 z8 _ rfl (by omega) py.1, z0 _ py.1]; omega
end
/-! The law of a case. -/
section
variable {q : Al} {c w : List Int}
def fl0 (q : Al) (c w : List Int) : List Bool := lk (w.map q.pool) (fun x => cntP x (w.map q.pool) - hasP q.pool c 0 x)
theorem fl0_len : (fl0 q c w).length = w.length := by unfold fl0; rw [lk_len]; simp
theorem fl0_cnt (c0 : ∀ n ∈ c, 0 ≤ n) (x : Int) : cntB true x (w.map q.pool) (fl0 q c w) = if 0 < cntP x (w.map q.pool) - hasP q.pool c 0 x then cntP x (w.map q.pool) - hasP q.pool c 0 x else 0 := by
  have := hasP_nn q.pool x c 0 c0
  exact lk_cnt x _ _ (by omega)
end
end S07

namespace S07
open Go Abs
theorem hasP_ex (f : Int → Int) (x : Int) : ∀ (c : List Int) (i : Nat), 0 < hasP f c i x → ∃ j : Nat, j < c.length ∧ f ((i + j : Nat) : Int) = x ∧ 0 < c.getD j 0
  | [], i, h => by simp [hasP] at h
  | n :: ns, i, h => by
    simp only [hasP] at h
    by_cases e : f i = x ∧ 0 < n
    · exact ⟨0, by simp, by simpa using e.1, by simpa using e.2⟩
    · have : 0 < hasP f ns (i + 1) x := by
        by_cases e1 : f i = x
        · rw [if_pos e1] at h
          have : ¬ 0 < n := fun h => e ⟨e1, h⟩
          omega
        · rw [if_neg e1] at h; omega
      obtain ⟨j, h1, h2, h3⟩ := hasP_ex f x ns (i + 1) this
      refine ⟨j + 1, by simp; omega, ?_, by simpa using h3⟩
      rw [show i + (j + 1) = i + 1 + j by omega]; exact h2
theorem gI_in {p : List Int} {i : Int} (h : 0 < gI p i) : gI p i ∈ p := by
  unfold gI at *
  rw [List.getD_eq_getElem?_getD] at *
  cases e : p[i.toNat]? with
  | none => rw [e] at h; simp at h
  | some v => rw [Option.getD_some]; exact List.mem_of_getElem? e
structure LayI (q : Al) (ws left : List Int) : Prop where
  len : (left.length : Nat) = q.N
  nn : ∀ n ∈ left, 0 ≤ n ∧ n ≤ 20
  en : ∀ x, cntP x (ws.map q.pool) ≤ hasP q.pool left 0 x
section
variable {q : Al} (hq : HdOk q.N q.arr) (n0 : 1 ≤ q.N) (h8 : q.N ≤ 8)
include hq n0 h8
theorem lay_step {l : Int} {ws left : List Int} (l0 : 0 ≤ l) (l1 : l < q.N) (h : LayI q (l :: ws) left) :
    0 ≤ q.stc l left ∧ q.stc l left < q.N ∧ 1 ≤ gI left (q.stc l left) ∧ (q.stc l left = l ∨ q.hd (q.stc l left) = l) ∧ LayI q ws (addAt left (q.stc l left) (-1)) := by
  obtain ⟨s0, s1⟩ := stc_bd hq h8 (left := left) l0 l1
  have pb := pool_bd hq l0 (show l < 8 by omega)
  have hl := h.en (q.pool l)
  simp only [List.map_cons, cntP, if_true] at hl
  have hc := cntP_nn (q.pool l) (ws.map q.pool)
  obtain ⟨j, j1, j2, j3⟩ := hasP_ex q.pool (q.pool l) left 0 (by omega)
  rw [Nat.zero_add] at j2
  have lenl := h.len
  have j8 : (j : Int) < 8 := by omega
  have key : 1 ≤ gI left (q.stc l left) ∧ q.pool (q.stc l left) = q.pool l ∧ (q.stc l left = l ∨ q.hd (q.stc l left) = l) := by
    have hdl := hq.hd l l0 (by omega)
    have hdj := hq.hd j (by omega) j8
    have gj : gI left (j : Int) = left.getD j 0 := by simp [gI]
    by_cases z : gI left (q.pool l) = 0
    · have es : q.stc l left = if l < q.hd l then q.hd l else l := by unfold Al.stc; rw [if_pos z]
      have pj : (j : Int) ≠ q.pool l := by intro e; rw [← e, gj] at z; omega
      have : (j : Int) = if l < q.hd l then q.hd l else l := by
        unfold Al.pool Al.hd at j2 pj
        unfold Al.hd
        generalize hlv : gI q.arr l = hv at *
        generalize hjv : gI q.arr (j : Int) = jv at *
        rcases hdl with e1 | ⟨a1, a2, a3, a4⟩ <;> rcases hdj with e2 | ⟨b1, b2, b3, b4⟩
        · rw [if_pos e1] at j2 pj; rw [if_pos e2] at j2; omega
        · have n1 : ¬ jv = -1 := by omega
          rw [if_pos e1] at j2 pj; rw [if_neg n1] at j2
          split at j2
          · rw [j2] at b4; rw [hlv] at b4; omega
          · omega
        · have n2 : ¬ hv = -1 := by omega
          rw [if_neg n2] at j2 pj; rw [if_pos e2] at j2
          omega
        · have n1 : ¬ jv = -1 := by omega
          have n2 : ¬ hv = -1 := by omega
          rw [if_neg n2] at j2 pj; rw [if_neg n1] at j2
          by_cases c1 : jv < j
          · rw [if_pos c1] at j2
            by_cases c2 : hv < l
            · rw [if_pos c2] at j2
              rw [j2] at b4
              rw [if_neg (by omega)]; omega
            · rw [if_neg c2] at j2 pj
              rw [j2] at b4
              split <;> omega
          · rw [if_neg c1] at j2
            by_cases c2 : hv < l
            · rw [if_pos c2] at j2 pj; omega
            · rw [if_neg c2] at j2 pj; omega
      rw [es, ← this]
      refine ⟨by omega, j2, ?_⟩
      rw [this]
      unfold Al.hd
      rcases hdl with e1 | ⟨a1, a2, a3, a4⟩
      · rw [e1, if_neg (by omega)]; exact .inl rfl
      · split
        · exact .inr a4
        · exact .inl rfl
    · have es : q.stc l left = q.pool l := by unfold Al.stc; rw [if_neg z]
      have pos : 0 ≤ gI left (q.pool l) := by
        have : gI left (q.pool l) = 0 ∨ gI left (q.pool l) ∈ left := by
          unfold gI
          rw [List.getD_eq_getElem?_getD]
          cases e : left[(q.pool l).toNat]? with
          | none => left; rfl
          | some v => right; exact List.mem_of_getElem? e
        rcases this with e | e
        · omega
        · exact (h.nn _ e).1
      rw [es]
      refine ⟨by omega, ?_, ?_⟩
      · unfold Al.pool Al.hd at *
        rcases hdl with e1 | ⟨a1, a2, a3, a4⟩
        · rw [if_pos e1, if_pos e1]
        · have hn : ¬ gI q.arr l = -1 := by omega
          rw [if_neg hn]
          by_cases c1 : gI q.arr l < l
          · rw [if_pos c1, a4, if_neg (by omega), if_neg (by omega)]
          · rw [if_neg c1, if_neg hn, if_neg c1]
      · unfold Al.pool Al.hd
        rcases hdl with e1 | ⟨a1, a2, a3, a4⟩
        · rw [if_pos e1]; exact .inl rfl
        · rw [if_neg (by omega)]
          split
          · exact .inr a4
          · exact .inl rfl
  obtain ⟨k1, k2, k3⟩ := key
  refine ⟨s0, s1, k1, k3, ⟨by rw [addAt_len]; exact h.len, ?_, ?_⟩⟩
  · intro n hn
    unfold addAt at hn
    rcases List.mem_or_eq_of_mem_set hn with hn | rfl
    · exact h.nn n hn
    · have km := (h.nn _ (gI_in (p := left) (i := q.stc l left) (by omega))).2
      unfold gI at k1 km; omega
  · intro x
    have := h.en x
    unfold addAt
    rw [hasP_add _ _ _ _ _ _ (by omega)]
    have e : ((0 + (q.stc l left).toNat : Nat) : Int) = q.stc l left := by omega
    rw [e, k2]
    simp only [List.map_cons, cntP] at this
    split at this <;> rename_i hx
    · rw [if_pos hx]; omega
    · rw [if_neg hx]; omega
end
end S07

namespace S07
open Go Abs
/-! Laying, all stencils tried. -/
def srch {α : Type} (f : Nat → Option α) : Nat → Nat → Option α
  | 0, _ => none
  | n + 1, k => match f k with
    | some r => some r
    | none => srch f n (k + 1)
theorem srch_none {α : Type} {f : Nat → Option α} : ∀ (n k : Nat), (∀ i, k ≤ i → i < k + n → f i = none) → srch f n k = none
  | 0, _, _ => rfl
  | n + 1, k, h => by
    rw [srch, h k (by omega) (by omega)]
    exact srch_none n (k + 1) fun i h1 h2 => h i (by omega) (by omega)
theorem srch_some {α : Type} {f : Nat → Option α} {k0 : Nat} {r : α} (hr : f k0 = some r) : ∀ (n k : Nat), k ≤ k0 → k0 < k + n → (∀ i, k ≤ i → i < k0 → f i = none) → srch f n k = some r
  | 0, k, h1, h2, _ => by omega
  | n + 1, k, h1, h2, h => by
    by_cases e : k = k0
    · subst e; rw [srch, hr]
    · rw [srch, h k (by omega) (by omega)]
      exact srch_some hr n (k + 1) (by omega) (by omega) fun i h1 h2 => h i (by omega) (by omega)
structure CntB (N : Int) (c : List Int) : Prop where
  len : (c.length : Nat) = N
  bd : ∀ n ∈ c, 0 ≤ n ∧ n ≤ 20
theorem CountOk.b {N : Int} {c : List Int} (h : CountOk N c) : CntB N c := ⟨h.len, fun n hn => by have := h.bd n hn; omega⟩
def layR (N : Int) (H : List (Int × Int)) : List Int → List Int → Option (List Int)
  | [], _ => some []
  | l :: ws, c => srch (fun st : Nat => if ((st : Int) = l ∨ headF H (st : Int) = l) ∧ gI c (st : Nat) ≠ 0 then (layR N H ws (addAt c (st : Nat) (-1))).map ((st : Int) :: ·) else none) N.toNat 0
def enough (q : Al) (ws c : List Int) : Prop := ∀ x, cntP x (ws.map q.pool) ≤ hasP q.pool c 0 x
section
variable {N : Int} {H A : List (Int × Int)} (eA : errA N H A = 0)
include eA
theorem cand_pool {st l : Int} (s0 : 0 ≤ st) (s1 : st < N) (l0 : 0 ≤ l) (l1 : l < N) (h : st = l ∨ headF H st = l) : (alOf N H A).pool st = (alOf N H A).pool l ∧ (alOf N H A).pool l ≤ st ∧ (st = (alOf N H A).pool l ∨ st = if l < (alOf N H A).hd l then (alOf N H A).hd l else l) := by
  obtain ⟨n0, n8, _⟩ := errA_ok eA
  have hq := hdOk eA
  have hh : headF H st = (alOf N H A).hd st := headF_hd eA s0 (by omega)
  rw [hh] at h
  have pl := pool_bd (q := alOf N H A) hq l0 (show l < 8 by omega)
  unfold Al.pool Al.hd at *
  rcases hq.hd l l0 (by omega) with e1 | ⟨a1, a2, a3, a4⟩ <;> rcases hq.hd st s0 (by omega) with e2 | ⟨b1, b2, b3, b4⟩
  · rcases h with rfl | h
    · exact ⟨rfl, pl.2, .inl (by rw [if_pos e1])⟩
    · omega
  · rcases h with rfl | h
    · omega
    · rw [h] at b4; omega
  · rcases h with rfl | h
    · omega
    · omega
  · have n1 : ¬ gI (alOf N H A).arr l = -1 := by omega
    have n2 : ¬ gI (alOf N H A).arr st = -1 := by omega
    rcases h with rfl | h
    · refine ⟨rfl, pl.2, ?_⟩
      rw [if_neg n1]
      by_cases c : gI (alOf N H A).arr st < st
      · right; rw [if_neg (by omega)]
      · left; rw [if_neg c]
    · rw [h] at b4
      rw [if_neg n1, if_neg n2, h, b4]
      refine ⟨?_, ?_, ?_⟩
      · by_cases c : l < st
        · rw [if_pos c, if_neg (by omega)]
        · by_cases c2 : st < l
          · rw [if_neg c, if_pos c2]
          · rw [if_neg c, if_neg c2]; omega
      · split <;> omega
      · by_cases c : st < l
        · left; rw [if_pos c]
        · by_cases c2 : l < st
          · right; rw [if_pos c2]
          · right; rw [if_neg c2]; omega
omit eA in
theorem enough_step {st l : Int} {ws c : List Int} (s0 : 0 ≤ st) (s1 : st < N) (cl : (c.length : Int) = N) (hp : (alOf N H A).pool st = (alOf N H A).pool l) : enough (alOf N H A) (l :: ws) c ↔ enough (alOf N H A) ws (addAt c st (-1)) := by
  unfold enough
  have key : ∀ x, hasP (alOf N H A).pool (addAt c st (-1)) 0 x = hasP (alOf N H A).pool c 0 x + if (alOf N H A).pool l = x then -1 else 0 := by
    intro x
    unfold addAt
    rw [hasP_add _ _ _ _ _ _ (by omega)]
    have e : ((0 + st.toNat : Nat) : Int) = st := by omega
    rw [e, hp]
  constructor
  · intro h x
    have := h x
    rw [key]
    simp only [List.map_cons, cntP] at this
    split at this <;> rename_i hx
    · rw [if_pos hx]; omega
    · rw [if_neg hx]; omega
  · intro h x
    have := h x
    rw [key] at this
    simp only [List.map_cons, cntP]
    split <;> rename_i hx
    · rw [if_pos hx] at this; omega
    · rw [if_neg hx] at this; omega
omit eA in
theorem addAt_dec {c : List Int} {st : Nat} (c0 : ∀ n ∈ c, 0 ≤ n ∧ n ≤ 20) (h : 1 ≤ gI c (st : Nat)) : ∀ n ∈ addAt c (st : Nat) (-1), 0 ≤ n ∧ n ≤ 20 := by
  intro n hn
  unfold addAt at hn
  rw [Int.toNat_natCast] at hn
  rcases List.mem_or_eq_of_mem_set hn with hn | rfl
  · exact c0 n hn
  · have := c0 _ (gI_in (p := c) (i := (st : Nat)) (by omega))
    have e : gI c (st : Nat) = c.getD st 0 := by simp [gI]
    omega
theorem layR_is : ∀ (ws c : List Int), (c.length : Int) = N → (∀ n ∈ c, 0 ≤ n ∧ n ≤ 20) → (∀ l ∈ ws, 0 ≤ l ∧ l < N) →
    (enough (alOf N H A) ws c → layR N H ws c = some ((alOf N H A).layF ws c)) ∧ (¬ enough (alOf N H A) ws c → layR N H ws c = none)
  | [], c, cl, c0, _ => ⟨fun _ => rfl, fun h => absurd (fun x => by simp only [List.map_nil, cntP]; exact hasP_nn _ _ _ _ fun n hn => (c0 n hn).1) h⟩
  | l :: ws, c, cl, c0, hw => by
    obtain ⟨n0, n8, _⟩ := errA_ok eA
    have hq := hdOk eA
    have lb := hw l (by simp)
    have hw' : ∀ x ∈ ws, 0 ≤ x ∧ x < N := fun x hx => hw x (by simp [hx])
    have ih := fun c' h1 h2 => layR_is ws c' h1 h2 hw'
    have hN : (alOf N H A).N = N := rfl
    have step : ∀ st : Nat, (st : Int) < N → ((st : Int) = l ∨ headF H (st : Int) = l) → gI c (st : Nat) ≠ 0 →
        (enough (alOf N H A) (l :: ws) c ↔ enough (alOf N H A) ws (addAt c (st : Nat) (-1))) ∧ ((addAt c (st : Nat) (-1)).length : Int) = N ∧ ∀ n ∈ addAt c (st : Nat) (-1), 0 ≤ n ∧ n ≤ 20 := by
      intro st s1 hc hz
      obtain ⟨p1, p2, p3⟩ := cand_pool eA (by omega) s1 lb.1 lb.2 hc
      have hg := c0 (gI c (st : Nat)) (gI_mem (by omega))
      exact ⟨enough_step (by omega) s1 cl p1, by rw [addAt_len]; exact cl, addAt_dec c0 (by omega)⟩
    constructor
    · intro h
      obtain ⟨s0, s1, s2, s3, s4⟩ := lay_step (q := alOf N H A) hq n0 n8 lb.1 lb.2 (⟨cl, c0, h⟩ : LayI _ (l :: ws) c)
      obtain ⟨sn, hsn⟩ : ∃ sn : Nat, (sn : Int) = (alOf N H A).stc l c := ⟨((alOf N H A).stc l c).toNat, by omega⟩
      rw [← hsn] at s0 s1 s2 s3 s4
      rw [hN] at s1
      have s3' : (sn : Int) = l ∨ headF H (sn : Int) = l := by rw [headF_hd eA (A := A) (by omega) (by omega)]; exact s3
      rw [Al.layF, ← hsn]
      unfold layR
      refine srch_some (k0 := sn) ?_ _ _ (by omega) (by omega) ?_
      · rw [if_pos ⟨s3', by omega⟩]
        obtain ⟨e1, e2, e3⟩ := step sn s1 s3' (by omega)
        rw [(ih _ e2 e3).1 (e1.1 h)]; rfl
      · intro i _ hi
        rw [if_neg]
        rintro ⟨hc, hz⟩
        obtain ⟨p1, p2, p3⟩ := cand_pool eA (by omega) (by omega) lb.1 lb.2 hc
        have es : (sn : Int) = if gI c ((alOf N H A).pool l) = 0 then (if l < (alOf N H A).hd l then (alOf N H A).hd l else l) else (alOf N H A).pool l := by rw [hsn]; rfl
        by_cases z : gI c ((alOf N H A).pool l) = 0
        · rw [if_pos z] at es
          rcases p3 with p3 | p3
          · rw [p3] at hz; exact hz z
          · omega
        · rw [if_neg z] at es; omega
    · intro h
      unfold layR
      refine srch_none _ _ fun i _ hi => ?_
      by_cases hc : ((i : Int) = l ∨ headF H (i : Int) = l) ∧ gI c (i : Nat) ≠ 0
      · rw [if_pos hc]
        obtain ⟨e1, e2, e3⟩ := step i (by omega) hc.1 hc.2
        rw [(ih _ e2 e3).2 fun h' => h (e1.2 h')]; rfl
      · rw [if_neg hc]
end
/-! The fewest places. -/
theorem cntB_le (x : Int) : ∀ (ps : List Int) (bs : List Bool), cntB true x ps bs ≤ cntP x ps
  | [], bs => by cases bs <;> simp [cntB, cntP]
  | p :: ps, [] => by have := cntP_nn x (p :: ps); simp [cntB]; exact this
  | p :: ps, b :: bs => by
    have := cntB_le x ps bs
    simp only [cntB, cntP]
    by_cases e : p = x <;> cases b <;> simp [e] <;> omega
def lex : List Int → List Int → Bool
  | [], _ => true
  | _ :: _, [] => false
  | a :: as_, b :: bs => if a = b then lex as_ bs else decide (a < b)
def leL (a b : List Int) : Prop := a.length < b.length ∨ (a.length = b.length ∧ lex a b = true)
theorem lex_anti : ∀ (a b : List Int), a.length = b.length → lex a b = true → lex b a = true → a = b
  | [], [], _, _, _ => rfl
  | [], _ :: _, h, _, _ => by simp at h
  | _ :: _, [], h, _, _ => by simp at h
  | x :: a, y :: b, h, h1, h2 => by
    simp only [lex] at h1 h2
    by_cases e : x = y
    · subst e
      rw [if_pos rfl] at h1 h2
      rw [lex_anti a b (by simpa using h) h1 h2]
    · rw [if_neg e] at h1
      rw [if_neg (fun h => e h.symm)] at h2
      simp at h1 h2; omega
theorem leL_anti {a b : List Int} (h1 : leL a b) (h2 : leL b a) : a = b := by
  rcases h1 with h1 | ⟨h1, h3⟩ <;> rcases h2 with h2 | ⟨h2, h4⟩
  · omega
  · omega
  · omega
  · exact lex_anti a b h1 h3 h4
theorem lk_min : ∀ (ps : List Int) (bs : List Bool) (d : Int → Int) (i : Nat), bs.length = ps.length → (∀ x, d x ≤ cntB true x ps bs) → leL (idxT i (lk ps d)) (idxT i bs)
  | [], [], d, i, _, _ => .inr ⟨rfl, rfl⟩
  | [], _ :: _, _, _, h, _ => by simp at h
  | _ :: _, [], _, _, h, _ => by simp at h
  | p :: ps, b :: bs, d, i, hl, h => by
    have hl' : bs.length = ps.length := by simpa using hl
    have hcons : ∀ {a c : List Int} {n : Int}, leL a c → leL (n :: a) (n :: c) := by
      intro a c n h
      rcases h with h | ⟨h, h'⟩
      · exact .inl (by simpa using h)
      · exact .inr ⟨by simpa using h, by simpa [lex] using h'⟩
    unfold lk
    by_cases hd : 0 < d p
    · rw [if_pos hd]
      cases b with
      | true =>
        simp only [idxT, if_true]
        refine hcons (lk_min ps bs (dec1 d p) (i + 1) hl' fun x => ?_)
        have := h x
        simp only [cntB] at this
        unfold dec1
        by_cases e : x = p
        · subst e; simp at this ⊢; omega
        · rw [if_neg e]; rw [if_neg (fun h => e h.1.symm)] at this; omega
      | false =>
        simp only [idxT, if_true, Bool.false_eq_true, if_false]
        have h' : ∀ x, d x ≤ cntB true x ps bs := fun x => by have := h x; simpa [cntB] using this
        have ih := lk_min ps bs d (i + 1) hl' h'
        have hm := lk_more p ps d (by have := h' p; have := cntB_le p ps bs; omega)
        rw [if_pos hd] at hm
        have e1 := idxT_len (i + 1) (lk ps d)
        have e2 := idxT_len (i + 1) (lk ps (dec1 d p))
        rcases ih with ih | ⟨ih, _⟩
        · left; simp only [List.length_cons]; omega
        · right
          refine ⟨by simp only [List.length_cons]; omega, ?_⟩
          cases eb : idxT (i + 1) bs with
          | nil => rw [eb] at ih; simp at ih; rw [ih] at e1; simp at e1; omega
          | cons y ys =>
            have hy : y ∈ idxT (i + 1) bs := by rw [eb]; simp
            obtain ⟨j, hj, _⟩ := (idxT_mem (i + 1) bs y).1 hy
            simp only [lex]
            rw [if_neg (by omega)]
            simp; omega
    · rw [if_neg hd]
      cases b with
      | true =>
        simp only [idxT, if_true, Bool.false_eq_true, if_false]
        have ih := lk_min ps bs d (i + 1) hl' fun x => by
          have := h x
          simp only [cntB] at this
          by_cases e : x = p
          · subst e
            have := cntB_nn true x ps bs
            omega
          · rw [if_neg (fun h => e h.1.symm)] at this; omega
        left
        simp only [List.length_cons]
        rcases ih with ih | ⟨ih, _⟩ <;> omega
      | false =>
        simp only [idxT, Bool.false_eq_true, if_false]
        exact lk_min ps bs d (i + 1) hl' fun x => by have := h x; simpa [cntB] using this
section
variable {N : Int} {H A : List (Int × Int)} (eA : errA N H A = 0) {c w : List Int} (hc : CntB N c) (hw : ∀ l ∈ w, 0 ≤ l ∧ l < N)
include eA hc hw
theorem feas_iff {bs : List Bool} (hl : bs.length = w.length) : (layR N H (fal w bs) c).isSome = true ↔ ∀ x, cntP x (w.map (alOf N H A).pool) - hasP (alOf N H A).pool c 0 x ≤ cntB true x (w.map (alOf N H A).pool) bs := by
  have hr := layR_is eA (fal w bs) c hc.len hc.bd fun l hl => hw l (fal_mem w bs l hl)
  have hiff : enough (alOf N H A) (fal w bs) c ↔ ∀ x, cntP x (w.map (alOf N H A).pool) - hasP (alOf N H A).pool c 0 x ≤ cntB true x (w.map (alOf N H A).pool) bs := by
    unfold enough
    refine forall_congr' fun x => ?_
    rw [cnt_fal]
    have := cnt_split x (w.map (alOf N H A).pool) bs (by rw [List.length_map]; exact hl)
    omega
  rw [← hiff]
  constructor
  · intro h
    refine Classical.byContradiction fun hn => ?_
    rw [hr.2 hn] at h; simp at h
  · intro h
    rw [hr.1 h]; rfl
theorem lack_min {bs : List Bool} (hl : bs.length = w.length) (hf : (layR N H (fal w bs) c).isSome = true) : leL (idxT 0 (fl0 (alOf N H A) c w)) (idxT 0 bs) :=
  lk_min _ bs _ 0 (by rw [List.length_map]; exact hl) ((feas_iff eA hc hw hl).1 hf)
theorem lack_feas : (layR N H (fal w (fl0 (alOf N H A) c w)) c).isSome = true := by
  rw [feas_iff eA hc hw (fl0_len)]
  intro x
  rw [fl0_cnt fun n hn => (hc.bd n hn).1]
  split <;> omega
theorem lackR_is : lackR N H A c w = idxT 0 (fl0 (alOf N H A) c w) := by
  obtain ⟨n0, n8, _⟩ := errA_ok eA
  exact lackR_lk (q := alOf N H A) (hdOk eA) n8 (by have := hc.len; omega) hw
end
end S07

namespace S07
open Go Abs
theorem lex_refl : ∀ (a : List Int), lex a a = true
  | [] => rfl
  | x :: a => by simp [lex, lex_refl a]
theorem lex_total : ∀ (a b : List Int), a.length = b.length → lex a b = false → lex b a = true
  | [], [], _, h => by simp [lex] at h
  | [], _ :: _, h, _ => by simp at h
  | _ :: _, [], h, _ => by simp at h
  | x :: a, y :: b, h, h1 => by
    simp only [lex] at h1 ⊢
    by_cases e : x = y
    · subst e
      rw [if_pos rfl] at h1 ⊢
      exact lex_total a b (by simpa using h) h1
    · rw [if_neg e] at h1
      rw [if_neg (fun h => e h.symm)]
      simp at h1 ⊢; omega
theorem lex_trans : ∀ (a b c : List Int), a.length = b.length → b.length = c.length → lex a b = true → lex b c = true → lex a c = true
  | [], _, _, _, _, _, _ => rfl
  | _ :: _, [], _, h, _, _, _ => by simp at h
  | _ :: _, _ :: _, [], _, h, _, _ => by simp at h
  | x :: a, y :: b, z :: c, h1, h2, h3, h4 => by
    simp only [lex] at h3 h4 ⊢
    by_cases e1 : x = y
    · subst e1
      rw [if_pos rfl] at h3
      by_cases e2 : x = z
      · subst e2
        rw [if_pos rfl] at h4 ⊢
        exact lex_trans a b c (by simpa using h1) (by simpa using h2) h3 h4
      · rw [if_neg e2] at h4 ⊢; exact h4
    · rw [if_neg e1] at h3
      simp at h3
      by_cases e2 : y = z
      · subst e2
        rw [if_neg e1]; simpa using h3
      · rw [if_neg e2] at h4
        simp at h4
        rw [if_neg (by omega)]
        simp; omega
theorem leL_refl (a : List Int) : leL a a := .inr ⟨rfl, lex_refl a⟩
theorem leL_trans {a b c : List Int} (h1 : leL a b) (h2 : leL b c) : leL a c := by
  rcases h1 with h1 | ⟨h1, h3⟩ <;> rcases h2 with h2 | ⟨h2, h4⟩
  · exact .inl (by omega)
  · exact .inl (by omega)
  · exact .inl (by omega)
  · exact .inr ⟨by omega, lex_trans a b c h1 h2 h3 h4⟩
theorem ord_lex : ∀ (a b : List Int), a.length = b.length → (∀ n ∈ a, 0 ≤ n ∧ n ≤ 1000000) → (∀ n ∈ b, 0 ≤ n ∧ n ≤ 1000000) → (0 < ordF a b ↔ lex a b = false)
  | [], [], _, _, _ => by simp [ordF, lex]
  | [], _ :: _, h, _, _ => by simp at h
  | _ :: _, [], h, _, _ => by simp at h
  | x :: a, y :: b, h, ha, hb => by
    have xb := ha x (by simp)
    have yb := hb y (by simp)
    simp only [ordF, lex]
    by_cases e : x = y
    · subst e
      rw [if_pos rfl, if_pos rfl]
      exact ord_lex a b (by simpa using h) (fun n hn => ha n (by simp [hn])) (fun n hn => hb n (by simp [hn]))
    · rw [if_neg e, if_neg e, wr _ (by omega) (by omega)]
      simp
      omega
def maskF (s k : Nat) : List Bool := (List.range k).map (fun i => Nat.testBit s i)
theorem mask_len (s k : Nat) : (maskF s k).length = k := by simp [maskF]
theorem mask_succ (s k : Nat) : maskF s (k + 1) = maskF s k ++ [Nat.testBit s k] := by simp [maskF, List.range_succ]
theorem mask_get {s k i : Nat} (h : i < k) : (maskF s k)[i]? = some (Nat.testBit s i) := by simp [maskF, h]
theorem mask_surj : ∀ (bs : List Bool), ∃ s, s < 2 ^ bs.length ∧ maskF s bs.length = bs
  | [] => ⟨0, by simp, rfl⟩
  | b :: bs => by
    obtain ⟨s, h1, h2⟩ := mask_surj bs
    refine ⟨2 * s + b.toNat, ?_, ?_⟩
    · simp only [List.length_cons, Nat.pow_succ]
      cases b <;> simp <;> omega
    · have h0 : Nat.testBit (2 * s + b.toNat) 0 = b := by
        cases b <;> simp [Nat.testBit_zero] <;> omega
      have hs : ∀ i, Nat.testBit (2 * s + b.toNat) (i + 1) = Nat.testBit s i := by
        intro i
        rw [Nat.testBit_succ]
        congr 1
        cases b <;> simp <;> omega
      unfold maskF at h2 ⊢
      rw [List.length_cons, List.range_succ_eq_map, List.map_cons, List.map_map, h0]
      congr 1
      rw [← h2]
      simp only [List.length_map, List.length_range]
      refine List.map_congr_left fun i _ => ?_
      exact hs i
theorem bit_int (s k : Nat) : ((s : Int) / 2 ^ k) % 2 = if Nat.testBit s k then 1 else 0 := by
  rw [Nat.testBit_eq_decide_div_mod_eq]
  have : ((s : Int) / 2 ^ k) % 2 = ((s / 2 ^ k % 2 : Nat) : Int) := by push_cast; rfl
  rw [this]
  have := Nat.mod_lt (s / 2 ^ k) (show 0 < 2 by decide)
  by_cases h : s / 2 ^ k % 2 = 1
  · simp [h]
  · simp [h]; omega
theorem idxT_app : ∀ (i : Nat) (bs : List Bool) (b : Bool), idxT i (bs ++ [b]) = idxT i bs ++ if b then [((i + bs.length : Nat) : Int)] else []
  | i, [], b => by cases b <;> simp [idxT]
  | i, a :: bs, b => by
    have ih := idxT_app (i + 1) bs b
    have e : i + 1 + bs.length = i + (a :: bs).length := by simp; omega
    rw [e] at ih
    cases a <;> simp only [List.cons_append, idxT, if_true, if_false, Bool.false_eq_true, ih]
theorem idxT_small {bs : List Bool} {m : Nat} (h : bs.length ≤ m) : ∀ n ∈ idxT 0 bs, 0 ≤ n ∧ n < (m : Nat) := by
  intro n hn
  obtain ⟨j, h1, h2⟩ := (idxT_mem 0 bs n).1 hn
  have := (List.getElem?_eq_some_iff.1 h2).1
  omega
end S07

