/- A part of the proof: P07a, H07z. -/
import Derived.Test.YtmanbdacloeioaaH07a
set_option linter.unusedVariables false
set_option linter.unusedSimpArgs false
set_option maxRecDepth 20000
namespace S07
open Go Abs
/-! What is made is an alphabet. -/
theorem headsF_app : ∀ (H : List (Int × Int)) (q : Int × Int) (arr : List Int), headsF (H ++ [q]) arr = (headsF H arr).bind fun a => headsF [q] a
  | [], q, arr => rfl
  | p :: ps, q, arr => by
    simp only [List.cons_append, headsF]
    split
    · rw [headsF_app ps q]; rfl
    · rfl
/-- The heads so far, and the letters that are used. -/
structure HInv (N : Int) (s : List (Int × Int) × List Bool) (arr : List Int) : Prop where
  e : headsF s.1 arr0 = some arr
  l : s.2.length = 8
  u : ∀ x : Int, 0 ≤ x → x < 8 → s.2.getD x.toNat false = false → gI arr x = -1
  b : ∀ p ∈ s.1, 0 ≤ p.1 ∧ p.1 < N ∧ 0 ≤ p.2 ∧ p.2 < N
theorem bset_get {U : List Bool} {a x : Int} {v : Bool} (a0 : 0 ≤ a) (a1 : a < U.length) (x0 : 0 ≤ x) : (U.set a.toNat v).getD x.toNat false = if x = a then v else U.getD x.toNat false := by
  simp only [List.getD_eq_getElem?_getD]
  by_cases e : x = a
  · subst e
    rw [if_pos rfl, List.getElem?_set_self (by omega)]; rfl
  · rw [if_neg e, List.getElem?_set_ne (by omega)]
theorem hInv_step {N : Int} {s : List (Int × Int) × List Bool} {arr : List Int} (n0 : 1 ≤ N) (n8 : N ≤ 8) (h : HInv N s arr) (p : Int × Int) (p0 : 0 ≤ p.1) (p1 : 0 ≤ p.2) : ∃ arr', HInv N (hStep N s p) arr' := by
  have y1 := Int.tmod_nonneg N p0
  have y2 := Int.tmod_lt_of_pos p.1 (show 0 < N by omega)
  have y3 := Int.tmod_nonneg N p1
  have y4 := Int.tmod_lt_of_pos p.2 (show 0 < N by omega)
  unfold hStep
  generalize hq : pN N p = q
  have e1 : q.1 = p.1.tmod N := by rw [← hq]; rfl
  have e2 : q.2 = p.2.tmod N := by rw [← hq]; rfl
  split
  · rename_i hu
    have g1 := h.u q.1 (by omega) (by omega) hu.1
    have g2 := h.u q.2 (by omega) (by omega) hu.2
    have la := headsF_len _ _ _ h.e
    have la' : arr.length = 8 := la
    refine ⟨(arr.set q.1.toNat q.2).set q.2.toNat q.1, ?_, by simp [h.l], ?_, ?_⟩
    · rw [headsF_app, h.e]
      simp [headsF, g1, g2]
    · intro x x0 x1 hx
      dsimp only at hx
      rw [bset_get (by omega) (by simp [h.l]; omega) x0, bset_get (by omega) (by rw [h.l]; omega) x0] at hx
      by_cases f2 : x = q.2
      · simp [f2] at hx
      · by_cases f1 : x = q.1
        · rw [if_neg f2, if_pos f1] at hx; simp at hx
        · rw [if_neg f2, if_neg f1] at hx
          rw [gI_set (by omega) (by simp; omega) x0, if_neg f2, gI_set (by omega) (by omega) x0, if_neg f1]
          exact h.u x x0 x1 hx
    · intro r hr
      rcases List.mem_append.1 hr with hr | hr
      · exact h.b r hr
      · simp at hr; subst hr; omega
  · exact ⟨arr, h⟩
theorem hInv_fold {N : Int} (n0 : 1 ≤ N) (n8 : N ≤ 8) : ∀ (l : List (Int × Int)) (s : List (Int × Int) × List Bool) (arr : List Int), BB l → HInv N s arr → ∃ arr', HInv N (l.foldl (hStep N) s) arr'
  | [], s, arr, _, h => ⟨arr, h⟩
  | p :: l, s, arr, hb, h => by
    have := hb p (by simp)
    obtain ⟨a, ha⟩ := hInv_step n0 n8 h p (by omega) (by omega)
    exact hInv_fold n0 n8 l _ a (fun x hx => hb x (by simp [hx])) ha
theorem madeN_bd {b : Int} (b0 : 0 ≤ b) : 1 ≤ madeN b ∧ madeN b ≤ 8 := by
  have m1 := Int.tmod_nonneg 8 b0
  have m2 := Int.tmod_lt_of_pos b (show (0 : Int) < 8 by decide)
  unfold madeN; omega
theorem made_ok {b : Int} {hl al : List (Int × Int)} (b0 : 0 ≤ b) (hb : BB hl) (ab : BB al) : errA (madeN b) (madeH (madeN b) hl).1 (madeA (madeN b) al) = 0 := by
  obtain ⟨n0, n8⟩ := madeN_bd b0
  generalize madeN b = N at *
  have i0 : HInv N ([], b8) arr0 := by
    refine ⟨rfl, rfl, ?_, by simp⟩
    intro x x0 x1 _
    have : x = 0 ∨ x = 1 ∨ x = 2 ∨ x = 3 ∨ x = 4 ∨ x = 5 ∨ x = 6 ∨ x = 7 := by omega
    rcases this with rfl | rfl | rfl | rfl | rfl | rfl | rfl | rfl <;> rfl
  obtain ⟨arr, h⟩ := hInv_fold n0 n8 (hl.take 6) _ _ (fun p hp => hb p (List.mem_of_mem_take hp)) i0
  have l1 := (hFold_len N (hl.take 6) ([], b8)).2
  simp only [List.length_nil, List.length_take] at l1
  have l2 : (madeA N al).length ≤ 6 := by
    unfold madeA
    refine Nat.le_trans (List.length_filter_le _ _) ?_
    simp; omega
  have hA : ∀ p ∈ madeA N al, 0 ≤ p.1 ∧ p.1 < N ∧ 0 ≤ p.2 ∧ p.2 < N ∧ p.1 ≠ p.2 := by
    intro p hp
    obtain ⟨h1, h2⟩ := List.mem_filter.1 hp
    obtain ⟨x, hx, rfl⟩ := List.mem_map.1 h1
    obtain ⟨x0, x1, x2, x3⟩ := ab x (List.mem_of_mem_take hx)
    have y1 := Int.tmod_nonneg N x0
    have y2 := Int.tmod_lt_of_pos x.1 (show 0 < N by omega)
    have y3 := Int.tmod_nonneg N x2
    have y4 := Int.tmod_lt_of_pos x.2 (show 0 < N by omega)
    exact ⟨y1, y2, y3, y4, by simpa using h2⟩
  have q1 : (madeH N hl).1.any (badP N) = false := by
    rw [List.any_eq_false]
    intro p hp
    have := h.b p hp
    rw [Bool.not_eq_true]
    unfold badP
    rw [inB_ok (by omega) (by omega), inB_ok (by omega) (by omega)]; rfl
  have q2 : (madeA N al).any (badQ N) = false := by
    rw [List.any_eq_false]
    intro p hp
    have := hA p hp
    rw [Bool.not_eq_true]
    unfold badQ badP
    rw [inB_ok (by omega) (by omega), inB_ok (by omega) (by omega)]; simp [this.2.2.2.2]
  unfold errA
  have q3 : headsF (madeH N hl).1 arr0 = some arr := h.e
  rw [inB_ok n0 n8, q1, q2, q3]
  have : ¬ (8 < (madeH N hl).1.length ∨ 8 < (madeA N al).length) := by
    have : (madeH N hl).1.length ≤ 6 := Nat.le_trans l1 (by omega)
    omega
  simp [this]
/-! How letters read on their heads. -/
theorem headF_used : ∀ (H : List (Int × Int)) (arr a : List Int) (x : Int), 0 ≤ x → arr.length = 8 → (∀ p ∈ H, 0 ≤ p.1 ∧ p.1 < 8 ∧ 0 ≤ p.2 ∧ p.2 < 8) → gI arr x ≠ -1 → headsF H arr = some a → headF H x = -1 ∧ gI a x = gI arr x
  | [], arr, a, x, _, _, _, _, h => by simp [headsF] at h; subst h; exact ⟨rfl, rfl⟩
  | p :: ps, arr, a, x, x0, la, hb, hg, h => by
    have bp := hb p (by simp)
    unfold headsF at h
    split at h
    · rename_i hc
      have f1 : x ≠ p.1 := by rintro rfl; exact hg hc.1
      have f2 : x ≠ p.2 := by rintro rfl; exact hg hc.2
      have e : gI ((arr.set p.1.toNat p.2).set p.2.toNat p.1) x = gI arr x := by
        rw [gI_set (by omega) (by simp; omega) x0, if_neg f2, gI_set (by omega) (by omega) x0, if_neg f1]
      obtain ⟨g1, g2⟩ := headF_used ps _ a x x0 (by simp [la]) (fun q hq => hb q (by simp [hq])) (by rw [e]; exact hg) h
      exact ⟨by simp [headF, f1, f2, g1], by rw [g2, e]⟩
    · simp at h
theorem headF_is : ∀ (H : List (Int × Int)) (arr a : List Int) (x : Int), 0 ≤ x → arr.length = 8 → (∀ p ∈ H, 0 ≤ p.1 ∧ p.1 < 8 ∧ 0 ≤ p.2 ∧ p.2 < 8) → gI arr x = -1 → headsF H arr = some a → headF H x = gI a x
  | [], arr, a, x, _, _, _, hg, h => by simp [headsF] at h; subst h; simp [headF, hg]
  | p :: ps, arr, a, x, x0, la, hb, hg, h => by
    have bp := hb p (by simp)
    unfold headsF at h
    split at h
    · rename_i hc
      have e : gI ((arr.set p.1.toNat p.2).set p.2.toNat p.1) x = if x = p.2 then p.1 else if x = p.1 then p.2 else gI arr x := by
        rw [gI_set (by omega) (by simp; omega) x0, gI_set (by omega) (by omega) x0]
      by_cases f1 : x = p.1
      · by_cases f2 : x = p.2
        · have := (headF_used ps _ a x x0 (by simp [la]) (fun q hq => hb q (by simp [hq])) (by rw [e, if_pos f2]; omega) h).2
          rw [this, e, if_pos f2]
          simp only [headF]; rw [if_pos f1, ← f2, f1]
        · have := (headF_used ps _ a x x0 (by simp [la]) (fun q hq => hb q (by simp [hq])) (by rw [e, if_neg f2, if_pos f1]; omega) h).2
          rw [this, e, if_neg f2, if_pos f1]
          simp only [headF]; rw [if_pos f1]
      · by_cases f2 : x = p.2
        · have := (headF_used ps _ a x x0 (by simp [la]) (fun q hq => hb q (by simp [hq])) (by rw [e, if_pos f2]; omega) h).2
          rw [this, e, if_pos f2]
          simp only [headF]; rw [if_neg f1, if_pos f2]
        · have := headF_is ps _ a x x0 (by simp [la]) (fun q hq => hb q (by simp [hq])) (by rw [e, if_neg f2, if_neg f1]; exact hg) h
          simp only [headF]; rw [if_neg f1, if_neg f2, this]
    · simp at h
theorem headF_hd {N : Int} {H A : List (Int × Int)} (h : errA N H A = 0) {x : Int} (x0 : 0 ≤ x) (x1 : x < 8) : headF H x = (alOf N H A).hd x := by
  obtain ⟨n0, n1, h3, h4, arr, e⟩ := errA_ok h
  have bH : ∀ p ∈ H, 0 ≤ p.1 ∧ p.1 < 8 ∧ 0 ≤ p.2 ∧ p.2 < 8 := fun p hp => by have := not_bad (not_any h3 hp); omega
  have : gI arr0 x = -1 := by
    have : x = 0 ∨ x = 1 ∨ x = 2 ∨ x = 3 ∨ x = 4 ∨ x = 5 ∨ x = 6 ∨ x = 7 := by omega
    rcases this with rfl | rfl | rfl | rfl | rfl | rfl | rfl | rfl <;> rfl
  rw [headF_is H arr0 arr x x0 rfl bH this e]
  simp [Al.hd, alOf, e]
/-! What is lacking, by pools. -/
def dec1 (d : Int → Int) (p : Int) : Int → Int := fun x => if x = p then d x - 1 else d x
def lk : List Int → (Int → Int) → List Bool
  | [], _ => []
  | p :: ps, d => if 0 < d p then true :: lk ps (dec1 d p) else false :: lk ps d
def idxT : Nat → List Bool → List Int
  | _, [] => []
  | i, b :: bs => if b then (i : Int) :: idxT (i + 1) bs else idxT (i + 1) bs
def cntB (v : Bool) (x : Int) : List Int → List Bool → Int
  | p :: ps, b :: bs => (if p = x ∧ b = v then 1 else 0) + cntB v x ps bs
  | _, _ => 0
def cntP (x : Int) : List Int → Int
  | [] => 0
  | p :: ps => (if p = x then 1 else 0) + cntP x ps
theorem lk_len : ∀ (ps : List Int) (d : Int → Int), (lk ps d).length = ps.length
  | [], _ => rfl
  | p :: ps, d => by unfold lk; split <;> simp [lk_len ps]
theorem cnt_split (x : Int) : ∀ (ps : List Int) (bs : List Bool), bs.length = ps.length → cntB true x ps bs + cntB false x ps bs = cntP x ps
  | [], bs, _ => by cases bs <;> simp [cntB, cntP]
  | p :: ps, [], h => by simp at h
  | p :: ps, b :: bs, h => by
    have := cnt_split x ps bs (by simpa using h)
    simp only [cntB, cntP]
    by_cases e : p = x <;> cases b <;> simp [e] <;> omega
theorem lk_cnt (x : Int) : ∀ (ps : List Int) (d : Int → Int), d x ≤ cntP x ps → cntB true x ps (lk ps d) = if 0 < d x then d x else 0
  | [], d, h => by simp [cntP] at h; simp [lk, cntB]; omega
  | p :: ps, d, h => by
    simp only [cntP] at h
    unfold lk
    by_cases hp : 0 < d p
    · rw [if_pos hp]
      simp only [cntB]
      have e1 : dec1 d p x = if x = p then d x - 1 else d x := rfl
      have := lk_cnt x ps (dec1 d p) (by rw [e1]; by_cases e : p = x <;> simp [e] at h ⊢ <;> first | omega | (rw [if_neg (fun h => e h.symm)]; omega))
      rw [this, e1]
      by_cases e : p = x
      · subst e
        rw [if_pos hp, if_pos ⟨rfl, trivial⟩, if_pos rfl]; split <;> omega
      · rw [if_neg (show ¬ (p = x ∧ True) from fun h => e h.1), if_neg (show ¬ x = p from fun h => e h.symm)]; omega
    · rw [if_neg hp]
      simp only [cntB]
      by_cases e : p = x
      · subst e
        have h0 : cntP p ps ≥ 0 := by
          clear h
          induction ps with
          | nil => simp [cntP]
          | cons y ys ih => simp only [cntP]; split <;> omega
        rw [lk_cnt p ps d (by omega)]; simp [hp]
      · rw [lk_cnt x ps d (by rw [if_neg e] at h; omega)]; simp [e]
theorem lk_more (x : Int) : ∀ (ps : List Int) (d : Int → Int), d x ≤ cntP x ps → ((lk ps (dec1 d x)).filter id).length + (if 0 < d x then 1 else 0) = ((lk ps d).filter id).length
  | [], d, h => by simp [cntP] at h; simp [lk]; omega
  | p :: ps, d, h => by
    simp only [cntP] at h
    have e1 : ∀ y, dec1 d x y = if y = x then d y - 1 else d y := fun _ => rfl
    by_cases e : p = x
    · subst e
      simp only [if_true] at h
      have e2 : dec1 d p p = d p - 1 := by simp [dec1]
      by_cases h1 : 1 < d p
      · have := lk_more p ps (dec1 d p) (by rw [e2]; omega)
        rw [e2, if_pos (by omega)] at this
        unfold lk
        rw [e2, if_pos (by omega), if_pos (by omega), if_pos (by omega)]
        simp only [List.filter_cons, id, if_true, List.length_cons]
        omega
      · by_cases h2 : 0 < d p
        · unfold lk
          rw [e2, if_neg (by omega), if_pos (by omega), if_pos (by omega)]
          simp
        · have h0 : cntP p ps ≥ 0 := by
            clear h
            induction ps with
            | nil => simp [cntP]
            | cons y ys ih => simp only [cntP]; split <;> omega
          have := lk_more p ps d (by omega)
          rw [if_neg h2] at this
          unfold lk
          rw [e2, if_neg (by omega), if_neg (by omega), if_neg (by omega)]
          simpa using this
    · rw [if_neg e] at h
      have e2 : dec1 d x p = d p := by simp [dec1, e]
      by_cases h1 : 0 < d p
      · have e3 : dec1 (dec1 d x) p = dec1 (dec1 d p) x := by
          funext y
          simp only [dec1]
          by_cases f1 : y = p
          · have : ¬ y = x := fun h => e (f1 ▸ h)
            have f3 : ¬ p = x := e
            subst f1; simp [f3]
          · by_cases f2 : y = x
            · subst f2; simp [f1]
            · simp [f1, f2]
        have e5 : ¬ x = p := fun h => e h.symm
        have e4 : dec1 d p x = d x := by simp [dec1, e5]
        have := lk_more x ps (dec1 d p) (by rw [e4]; omega)
        unfold lk
        rw [e2, if_pos h1, if_pos h1, e3]
        rw [e4] at this
        simp only [List.filter_cons, id, if_true, List.length_cons]
        omega
      · have := lk_more x ps d (by omega)
        unfold lk
        rw [e2, if_neg h1, if_neg h1]
        simpa using this
/-! What is laid without some places. -/
def fal : List Int → List Bool → List Int
  | l :: ls, b :: bs => if b then fal ls bs else l :: fal ls bs
  | _, _ => []
theorem idxT_len : ∀ (i : Nat) (bs : List Bool), (idxT i bs).length = (bs.filter id).length
  | _, [] => rfl
  | i, b :: bs => by
    have := idxT_len (i + 1) bs
    cases b <;> simp [idxT, this]
theorem idxT_mem : ∀ (i : Nat) (bs : List Bool) (n : Int), n ∈ idxT i bs ↔ ∃ j : Nat, n = ((i + j : Nat) : Int) ∧ bs[j]? = some true
  | i, [], n => by simp [idxT]
  | i, b :: bs, n => by
    have ih := idxT_mem (i + 1) bs n
    have key : (∃ j : Nat, n = ((i + j : Nat) : Int) ∧ (b :: bs)[j]? = some true) ↔ (n = (i : Nat) ∧ b = true) ∨ ∃ j : Nat, n = ((i + 1 + j : Nat) : Int) ∧ bs[j]? = some true := by
      constructor
      · rintro ⟨j, h1, h2⟩
        cases j with
        | zero => exact .inl ⟨by simpa using h1, by simpa using h2⟩
        | succ j => exact .inr ⟨j, by omega, by simpa using h2⟩
      · rintro (⟨h1, h2⟩ | ⟨j, h1, h2⟩)
        · exact ⟨0, by simpa using h1, by simp [h2]⟩
        · exact ⟨j + 1, by omega, by simpa using h2⟩
    rw [key, ← ih]
    cases b <;> simp [idxT]
theorem idxT_pair : ∀ (i : Nat) (bs : List Bool), (idxT i bs).Pairwise (· < ·)
  | _, [] => .nil
  | i, b :: bs => by
    have ih := idxT_pair (i + 1) bs
    cases b
    · simpa [idxT] using ih
    · simp only [idxT, if_true]
      refine List.pairwise_cons.2 ⟨?_, ih⟩
      intro n hn
      obtain ⟨j, h1, _⟩ := (idxT_mem (i + 1) bs n).1 hn
      omega
theorem cntB_nn (v : Bool) (x : Int) : ∀ (ps : List Int) (bs : List Bool), 0 ≤ cntB v x ps bs
  | [], bs => by simp [cntB]
  | p :: ps, [] => by simp [cntB]
  | p :: ps, b :: bs => by have := cntB_nn v x ps bs; simp only [cntB]; split <;> omega
theorem cntB_set (v : Int) : ∀ (ps : List Int) (bs : List Bool) (j : Nat) (p : Int), bs[j]? = some true → ps[j]? = some p → cntB false v ps (bs.set j false) = cntB false v ps bs + if p = v then 1 else 0
  | [], _, j, p, _, h => by simp at h
  | q :: ps, [], j, p, h, _ => by simp at h
  | q :: ps, b :: bs, 0, p, h1, h2 => by
    simp at h1 h2
    subst h1; subst h2
    simp [cntB]; omega
  | q :: ps, b :: bs, j + 1, p, h1, h2 => by
    have := cntB_set v ps bs j p (by simpa using h1) (by simpa using h2)
    simp only [List.set_cons_succ, cntB, this]; omega
theorem cnt_fal (f : Int → Int) (x : Int) : ∀ (w : List Int) (bs : List Bool), cntP x ((fal w bs).map f) = cntB false x (w.map f) bs
  | [], bs => by cases bs <;> rfl
  | l :: ls, [] => rfl
  | l :: ls, b :: bs => by
    have := cnt_fal f x ls bs
    cases b <;> simp [fal, cntB, cntP, this]
theorem fal_mem : ∀ (w : List Int) (bs : List Bool) (n : Int), n ∈ fal w bs → n ∈ w
  | [], bs, n, h => by cases bs <;> simp [fal] at h
  | l :: ls, [], n, h => by simp [fal] at h
  | l :: ls, b :: bs, n, h => by
    cases b
    · simp only [fal, Bool.false_eq_true, if_false, List.mem_cons] at h
      rcases h with rfl | h
      · simp
      · exact List.mem_cons_of_mem _ (fal_mem ls bs n h)
    · simp only [fal, if_true] at h
      exact List.mem_cons_of_mem _ (fal_mem ls bs n h)
theorem fal_len : ∀ (w : List Int) (bs : List Bool), (fal w bs).length ≤ w.length
  | [], bs => by cases bs <;> simp [fal]
  | l :: ls, [] => by simp [fal]
  | l :: ls, b :: bs => by
    have := fal_len ls bs
    cases b <;> simp [fal] <;> omega
theorem fal_take : ∀ (w : List Int) (bs : List Bool) (k : Nat) (l : Int) (b : Bool), w[k]? = some l → bs[k]? = some b → fal (w.take (k + 1)) (bs.take (k + 1)) = fal (w.take k) (bs.take k) ++ if b then [] else [l]
  | [], bs, k, l, b, h, _ => by simp at h
  | x :: w, [], k, l, b, _, h => by simp at h
  | x :: w, c :: bs, 0, l, b, h1, h2 => by
    simp at h1 h2
    subst h1; subst h2
    cases c <;> simp [fal]
  | x :: w, c :: bs, k + 1, l, b, h1, h2 => by
    have := fal_take w bs k l b (by simpa using h1) (by simpa using h2)
    rw [List.take_succ_cons, List.take_succ_cons, List.take_succ_cons, List.take_succ_cons]
    cases c
    · simp only [fal, Bool.false_eq_true, if_false, this, List.cons_append]
    · simp only [fal, if_true, this]
/-! Counts. -/
theorem lk_congr : ∀ (ps : List Int) (d d' : Int → Int), (∀ x ∈ ps, d x = d' x) → lk ps d = lk ps d'
  | [], _, _, _ => rfl
  | p :: ps, d, d', h => by
    unfold lk
    rw [h p (by simp)]
    split
    · rw [lk_congr ps (dec1 d p) (dec1 d' p) (fun x hx => by simp only [dec1, h x (by simp [hx])])]
    · rw [lk_congr ps d d' (fun x hx => h x (by simp [hx]))]
def hasP (f : Int → Int) : List Int → Nat → Int → Int
  | [], _, _ => 0
  | n :: ns, i, x => (if f i = x then n else 0) + hasP f ns (i + 1) x
theorem cntB_pos (v : Bool) (x : Int) : ∀ (ps : List Int) (bs : List Bool) (j : Nat), ps[j]? = some x → bs[j]? = some v → 0 < cntB v x ps bs
  | [], bs, j, h, _ => by simp at h
  | p :: ps, [], j, _, h => by simp at h
  | p :: ps, b :: bs, 0, h1, h2 => by
    simp at h1 h2
    have := cntB_nn v x ps bs
    simp [cntB, h1, h2]; omega
  | p :: ps, b :: bs, j + 1, h1, h2 => by
    have := cntB_pos v x ps bs j (by simpa using h1) (by simpa using h2)
    simp only [cntB]; split <;> omega
theorem cntB_ex (v : Bool) (x : Int) : ∀ (ps : List Int) (bs : List Bool), 0 < cntB v x ps bs → ∃ j : Nat, ps[j]? = some x ∧ bs[j]? = some v
  | [], bs, h => by simp [cntB] at h
  | p :: ps, [], h => by simp [cntB] at h
  | p :: ps, b :: bs, h => by
    simp only [cntB] at h
    by_cases e : p = x ∧ b = v
    · exact ⟨0, by simp [e.1], by simp [e.2]⟩
    · rw [if_neg e] at h
      obtain ⟨j, h1, h2⟩ := cntB_ex v x ps bs (by omega)
      exact ⟨j + 1, by simpa using h1, by simpa using h2⟩
theorem cntP_nn (x : Int) : ∀ ps, 0 ≤ cntP x ps
  | [] => by simp [cntP]
  | p :: ps => by have := cntP_nn x ps; simp only [cntP]; split <;> omega
theorem hasP_nn (f : Int → Int) (x : Int) : ∀ (c : List Int) (i : Nat), (∀ n ∈ c, 0 ≤ n) → 0 ≤ hasP f c i x
  | [], _, _ => by simp [hasP]
  | n :: ns, i, h => by
    have := hasP_nn f x ns (i + 1) fun y hy => h y (by simp [hy])
    have := h n (by simp)
    simp only [hasP]; split <;> omega
theorem hasP_add (f : Int → Int) (x v : Int) : ∀ (c : List Int) (i j : Nat), j < c.length → hasP f (c.set j (c.getD j 0 + v)) i x = hasP f c i x + if f ((i + j : Nat) : Int) = x then v else 0
  | [], i, j, h => by simp at h
  | n :: ns, i, 0, h => by
    simp only [List.set_cons_zero, hasP, List.getD_cons_zero, Nat.add_zero]; split <;> omega
  | n :: ns, i, j + 1, h => by
    have := hasP_add f x v ns (i + 1) j (by simpa using h)
    simp only [List.set_cons_succ, hasP, List.getD_cons_succ, this]
    rw [show i + 1 + j = i + (j + 1) by omega]; omega
section
variable {q : Al} (hq : HdOk q.N q.arr) (h8 : q.N ≤ 8)
include hq h8
theorem lackF_lk (has : List Int) : ∀ (w : List Int) (i : Nat) (nd : List Int), nd.length = 8 → (∀ n ∈ w, 0 ≤ n ∧ n < q.N) → q.lackF has w i nd = idxT i (lk (w.map q.pool) (fun x => gI nd x - gI has x))
  | [], i, nd, _, _ => rfl
  | l :: ls, i, nd, ln, hw => by
    have hl := hw l (by simp)
    have pb := pool_bd hq hl.1 (show l < 8 by omega)
    simp only [List.map_cons, Al.lackF, lk]
    by_cases h : gI has (q.pool l) < gI nd (q.pool l)
    · rw [if_pos h, if_pos (by omega), idxT, if_pos rfl, lackF_lk has ls (i + 1) _ (by rw [addAt_len]; exact ln) (fun n hn => hw n (by simp [hn]))]
      congr 2
      refine lk_congr _ _ _ fun x hx => ?_
      obtain ⟨y, hy, rfl⟩ := List.mem_map.1 hx
      have hy' := hw y (by simp [hy])
      have py := pool_bd hq hy'.1 (show y < 8 by omega)
      rw [gI_addAt pb.1 (by omega) py.1]
      by_cases e : q.pool y = q.pool l
      · simp [dec1, e]; omega
      · simp [dec1, e]
    · rw [if_neg h, if_neg (by omega), lackF_lk has ls (i + 1) nd ln (fun n hn => hw n (by simp [hn]))]
      simp [idxT]
theorem needsF_cnt : ∀ (w p : List Int) (x : Int), p.length = 8 → (∀ n ∈ w, 0 ≤ n ∧ n < q.N) → 0 ≤ x → gI (q.needsF w p) x = gI p x + cntP x (w.map q.pool)
  | [], p, x, _, _, _ => by simp [Al.needsF, cntP]
  | l :: ls, p, x, lp, hw, x0 => by
    have hl := hw l (by simp)
    have pb := pool_bd hq hl.1 (show l < 8 by omega)
    rw [Al.needsF, needsF_cnt ls _ x (by rw [addAt_len]; exact lp) (fun n hn => hw n (by simp [hn])) x0, gI_addAt pb.1 (by omega) x0]
    simp only [List.map_cons, cntP]
    by_cases e : x = q.pool l
    · rw [if_pos e, if_pos e.symm, e]; omega
    · rw [if_neg e, if_neg (fun h => e h.symm)]; omega
omit h8 in
theorem hasF_cnt : ∀ (c : List Int) (i : Nat) (p : List Int) (x : Int), p.length = 8 → i + c.length ≤ 8 → 0 ≤ x → gI (q.hasF c i p) x = gI p x + hasP q.pool c i x
  | [], i, p, x, _, _, _ => by simp [Al.hasF, hasP]
  | n :: ns, i, p, x, lp, hl, x0 => by
    simp only [List.length_cons] at hl
    have pb := pool_bd hq (show 0 ≤ (i : Int) by omega) (show (i : Int) < 8 by omega)
    rw [Al.hasF, hasF_cnt ns _ _ x (by rw [addAt_len]; exact lp) (by omega) x0, gI_addAt pb.1 (by omega) x0]
    simp only [hasP]
    by_cases e : x = q.pool i
    · rw [if_pos e, if_pos e.symm, e]; omega
    · rw [if_neg e, if_neg (fun h => e h.symm)]; omega
theorem lackR_lk {c w : List Int} (hc : c.length ≤ 8) (hw : ∀ n ∈ w, 0 ≤ n ∧ n < q.N) : q.lackF (q.hasF c 0 z8) w 0 (q.needsF w z8) = idxT 0 (lk (w.map q.pool) (fun x => cntP x (w.map q.pool) - hasP q.pool c 0 x)) := by
  rw [lackF_lk hq h8 _ w 0 _ (by rw [needsF_len]; rfl) hw]
  congr 1
  refine lk_congr _ _ _ fun x hx => ?_
  obtain ⟨y, hy, rfl⟩ := List.mem_map.1 hx
  have hy' := hw y hy
  have py := pool_bd hq hy'.1 (show y < 8 by omega)
  have z0 : ∀ x : Int, 0 ≤ x → gI z8 x = 0 := fun x hx => gI_z8 x
  rw [needsF_cnt hq h8 w z8 _ rfl hw py.1, hasF_cnt hq c 0 z8 _ rfl (by omega) py.1, z0 _ py.1]; omega
end
/-! The law of a case. -/
section
variable {q : Al} {c w : List Int}
def fl0 (q : Al) (c w : List Int) : List Bool := lk (w.map q.pool) (fun x => cntP x (w.map q.pool) - hasP q.pool c 0 x)
theorem fl0_len : (fl0 q c w).length = w.length := by unfold fl0; rw [lk_len]; simp
theorem fl0_cnt (c0 : ∀ n ∈ c, 0 ≤ n) (x : Int) : cntB true x (w.map q.pool) (fl0 q c w) = if 0 < cntP x (w.map q.pool) - hasP q.pool c 0 x then cntP x (w.map q.pool) - hasP q.pool c 0 x else 0 := by
  have := hasP_nn q.pool x c 0 c0
  exact lk_cnt x _ _ (by omega)
theorem idxT_nil_of {bs : List Bool} (h : ∀ j : Nat, bs[j]? ≠ some true) : idxT 0 bs = [] := by
  rw [List.eq_nil_iff_forall_not_mem]
  intro n hn
  obtain ⟨j, _, h2⟩ := (idxT_mem 0 bs n).1 hn
  exact h j h2
/-- Nothing is lacking if there are enough. -/
theorem fl0_enough (c0 : ∀ n ∈ c, 0 ≤ n) (h : ∀ x, cntP x (w.map q.pool) ≤ hasP q.pool c 0 x) : idxT 0 (fl0 q c w) = [] := by
  refine idxT_nil_of fun j hj => ?_
  have hl : j < w.length := by rw [← fl0_len (q := q) (c := c)]; exact (List.getElem?_eq_some_iff.1 hj).1
  have h1 : (w.map q.pool)[j]? = some (q.pool w[j]) := by simp [hl]
  have := cntB_pos true _ _ _ j h1 hj
  rw [fl0_cnt c0] at this
  have := h (q.pool w[j])
  split at * <;> omega
theorem fl0_short (c0 : ∀ n ∈ c, 0 ≤ n) {x : Int} (h : hasP q.pool c 0 x < cntP x (w.map q.pool)) : idxT 0 (fl0 q c w) ≠ [] := by
  have h1 := fl0_cnt (q := q) (w := w) c0 x
  rw [if_pos (by omega)] at h1
  obtain ⟨j, _, h2⟩ := cntB_ex true x (w.map q.pool) (fl0 q c w) (by omega)
  intro e
  have := (idxT_mem 0 (fl0 q c w) ((0 + j : Nat) : Int)).2 ⟨j, rfl, h2⟩
  rw [e] at this; simp at this
/-- What is left out of a word. -/
theorem rest_cnt (c0 : ∀ n ∈ c, 0 ≤ n) (x : Int) : cntP x ((fal w (fl0 q c w)).map q.pool) ≤ hasP q.pool c 0 x := by
  have h1 := cnt_fal q.pool x w (fl0 q c w)
  have h2 := cnt_split x (w.map q.pool) (fl0 q c w) (by rw [fl0_len]; simp)
  have h3 := fl0_cnt (q := q) (w := w) c0 x
  split at h3 <;> omega
theorem rest_more (c0 : ∀ n ∈ c, 0 ≤ n) {j : Nat} (hj : (fl0 q c w)[j]? = some true) : ∃ x, hasP q.pool c 0 x < cntP x ((fal w ((fl0 q c w).set j false)).map q.pool) := by
  have hl : j < w.length := by rw [← fl0_len (q := q) (c := c)]; exact (List.getElem?_eq_some_iff.1 hj).1
  have h1 : (w.map q.pool)[j]? = some (q.pool w[j]) := by simp [hl]
  refine ⟨q.pool w[j], ?_⟩
  have h2 := cnt_fal q.pool (q.pool w[j]) w ((fl0 q c w).set j false)
  rw [h2, cntB_set _ _ _ j _ hj h1, if_pos rfl]
  have h3 := cnt_split (q.pool w[j]) (w.map q.pool) (fl0 q c w) (by rw [fl0_len]; simp)
  have h4 := fl0_cnt (q := q) (w := w) c0 (q.pool w[j])
  have h5 := cntB_pos true _ _ _ j h1 hj
  split at h4 <;> omega
theorem more_len (c0 : ∀ n ∈ c, 0 ≤ n) {j : Nat} {l : Int} (hj : (fl0 q c w)[j]? = some true) (hw : w[j]? = some l) (l0 : 0 ≤ l) (l1 : l < c.length) : (idxT 0 (fl0 q (addAt c l 1) w)).length + 1 = (idxT 0 (fl0 q c w)).length := by
  have h1 : (w.map q.pool)[j]? = some (q.pool l) := by simp [hw]
  have h5 := cntB_pos true _ _ _ j h1 hj
  have h4 := fl0_cnt (q := q) (w := w) c0 (q.pool l)
  have hn := hasP_nn q.pool (q.pool l) c 0 c0
  have h2 := lk_more (q.pool l) (w.map q.pool) (fun x => cntP x (w.map q.pool) - hasP q.pool c 0 x) (by omega)
  rw [if_pos (by split at h4 <;> omega)] at h2
  rw [idxT_len, idxT_len]
  refine Eq.trans ?_ h2
  congr 3
  unfold fl0
  congr 1
  funext x
  unfold addAt
  rw [hasP_add _ _ _ _ _ _ (by omega)]
  simp only [dec1]
  have e : ((0 + l.toNat : Nat) : Int) = l := by omega
  rw [e]
  by_cases f : x = q.pool l
  · rw [if_pos f, if_pos f.symm]; omega
  · rw [if_neg f, if_neg (fun h => f h.symm)]; omega
end
end S07

namespace S07
open Go Abs
theorem countF_ok {N : Int} {cs : List Int} (n0 : 1 ≤ N) (n8 : N ≤ 8) (hb : ∀ x ∈ cs, 0 ≤ x ∧ x < 256) (hl : cs.length = 8) : CountOk N (countF N cs) := by
  refine ⟨by simp [countF, hl]; omega, ?_⟩
  intro n hn
  obtain ⟨x, hx, rfl⟩ := List.mem_map.1 hn
  have := hb x (List.mem_of_mem_take hx)
  have y1 := Int.tmod_nonneg 6 this.1
  have y2 := Int.tmod_lt_of_pos x (show (0 : Int) < 6 by decide)
  exact ⟨y1, by omega⟩
theorem wordF_ok {N : Int} {bs : List Int} (n0 : 1 ≤ N) (hb : ∀ x ∈ bs, 0 ≤ x ∧ x < 256) : WordOk N (wordF N bs) := by
  unfold wordF
  by_cases e : bs = []
  · rw [if_pos e]; exact ⟨by simp, by simp, by intro n hn; simp at hn; omega⟩
  · rw [if_neg e]
    have h3 := List.length_pos_iff.2 e
    refine ⟨by simp; omega, by simp; omega, ?_⟩
    intro n hn
    obtain ⟨x, hx, rfl⟩ := List.mem_map.1 hn
    have := hb x (List.mem_of_mem_take hx)
    exact ⟨Int.tmod_nonneg N this.1, Int.tmod_lt_of_pos x (by omega)⟩
theorem isCount_of {N : Int} {c : List Int} (h : CountOk N c) : isCount N c 5 = true := by
  simp only [isCount, Bool.and_eq_true, decide_eq_true_eq, List.all_eq_true, inB_iff]
  exact ⟨h.len, h.bd⟩
theorem isWord_of {N : Int} {w : List Int} (h : WordOk N w) : isWord N w [] = true := by
  simp only [isWord, Bool.and_eq_true, List.all_eq_true, inB_iff, List.contains_nil, Bool.or_false]
  have := h.l1; have := h.l6
  exact ⟨by omega, fun n hn => by have := h.bd n hn; omega⟩
theorem errL_zero {N : Int} {H A : List (Int × Int)} {c : List Int} {W : List (List Int)} (e : errA N H A = 0) (hc : CountOk N c) (hW : ∀ w ∈ W, WordOk N w) (hl : W.length ≤ 5) : errL N H A c W = 0 := by
  unfold errL
  rw [if_neg (by simp [e]), if_neg (by omega), isCount_of hc]
  have : (W.all fun l => isWord N l []) = true := List.all_eq_true.2 fun w hw => isWord_of (hW w hw)
  simp [this]
theorem made_v {b : Int} {hl al : List (Int × Int)} (b0 : 0 ≤ b) : SetV (madeV b hl al) (madeN b) (lstN ((madeH (madeN b) hl).1.map pF)) (lstN ((madeA (madeN b) al).map pF)) (madeH (madeN b) hl).1 (madeA (madeN b) al) := by
  have l1 := (hFold_len (madeN b) (hl.take 6) ([], b8)).2
  have l2 := List.length_filter_le (fun q : Int × Int => decide (q.1 ≠ q.2)) ((al.take 6).map (pN (madeN b)))
  simp only [List.length_nil, List.length_map, List.length_take] at l1 l2
  refine ⟨rfl, lsOf_lstN _, lsOf_lstN _, ?_, ?_⟩
  · show (((hl.take 6).foldl (hStep (madeN b)) ([], b8)).1).length ≤ _; omega
  · unfold madeA; omega
theorem errA_len {N : Int} {H A : List (Int × Int)} (h : errA N H A = 0) : H.length ≤ 8 ∧ A.length ≤ 8 := by
  unfold errA at h
  split at h
  · omega
  · split at h
    · omega
    · omega
theorem unFV_fs (fs : List FV) : unFV (fs.map LV.fv) = some fs := by
  induction fs with
  | nil => rfl
  | cons x xs ih => simp only [List.map_cons, unFV, ih]; rfl
theorem fs_load {fs : List FV} {n : Nat} (hl : fs.length = n) (h0 : n ≠ 0) : partL true n (fs.map LV.fv) = some (.fv (.agg fs)) := by
  cases fs with
  | nil => simp at hl; omega
  | cons x xs =>
    have h1 : ((x :: xs).map LV.fv).take n = (x :: xs).map LV.fv := List.take_of_length_le (by simp at hl ⊢; omega)
    have h2 := unFV_fs (x :: xs)
    simp only [List.map_cons] at h1 h2 ⊢
    rw [partL_agg, if_pos (by simp at hl ⊢; omega), h1]
    unfold mkAgg
    rw [h2]
theorem ints_len (l : List Int) : (ints l).length = l.length := by simp [ints]
theorem eqB (h : AH) (a b : Bool) : eqV Q h 4 (.fv (.val (.bool a))) (.fv (.val (.bool b))) = some (a == b) := by
  have : boolTy Q 4 = true := by kernel_rfl
  simp [eqV, this]
end S07

