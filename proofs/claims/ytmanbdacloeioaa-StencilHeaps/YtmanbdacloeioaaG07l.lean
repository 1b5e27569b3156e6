/- A part of the proof: G07l. -/
import Derived.Test.YtmanbdacloeioaaG07k
set_option linter.unusedVariables false
set_option linter.unusedSimpArgs false
set_option maxRecDepth 20000
namespace S07
open Go Abs
def addI : List Int → Nat → List Int → List Int
  | [], _, m => m
  | n :: ns, k, m => addI ns (k + 1) (m.set k (gI m (k : Nat) + n))
def own1 (c : List Int) (lost : Int) (l all : List Int) : List (List Int) := if isOfF c 0 all 0 lost then [l] else []
def loopG (c : List Int) (lost : Int) : List (List Int) → List Int → List Int → Nat → List (List Int)
  | [], _, _, _ => []
  | x :: xs, l, all, k => own1 c lost (l ++ [(k : Int)]) (addI x 0 all) ++ loopG c lost xs (l ++ [(k : Int)]) (addI x 0 all) (k + 1) ++ loopG c lost xs l all (k + 1)
def item (l : List Int) : List FV := [.list false (ints l)]
structure Env (q : Al) (sW sc : FV) (c : List Int) (wl : List FV) : Prop where
  hW : lsOf sW = some wl
  hw : ∀ x ∈ wl, ∃ l : List Int, lsOf x = some (ints l) ∧ l.length = c.length ∧ ∀ n ∈ l, 0 ≤ n ∧ n ≤ 5
  l4 : wl.length ≤ 4
  h1 : lsOf sc = some (ints c)
  l8 : c.length ≤ 8
  hc : ∀ n ∈ c, 0 ≤ n ∧ n ≤ 20
structure PH (q : Al) (hs al sW sc : FV) (lost : Int) (h : AH) : Prop where
  g2 : h.gen 2 = 1
  g3 : h.gen 3 = 1
  g4 : h.gen 4 = 1
  gy : h.gen 1000000000 = 0
  o2 : h.obj 2 = some (.box [.fv (q.fv hs al), .fv sW, .fv sc, .fv (.int lost)])
  o3 : h.obj 3 = some (.box [.it 1000000000 0])
  o4 : h.obj 4 = some (.box [.clos 93 [.ptr 2 1 0, .ptr 3 1 0, .ptr 4 1 0]])
def YR (rest : List (List FV)) (lv : LV) (h' : AH) : Prop := h'.gen 1000000000 = 0 ∧ ((lv = .fv (.bool true) ∧ h'.y = some rest) ∨ (lv = .fv (.bool false) ∧ h'.y = none))
theorem ex_YR {n : Nat} {l : List Nat} {h : AH} (gy : h.gen 1000000000 = 0) (rest : List (List FV)) : ∃ lv h', OffH n l h h' ∧ YR rest lv h' :=
  ⟨.fv (.bool true), ⟨h.gen, h.obj, some rest⟩, fun _ _ => ⟨rfl, rfl⟩, gy, .inl ⟨rfl, rfl⟩⟩
theorem addI_len : ∀ (x : List Int) (k : Nat) (m : List Int), (addI x k m).length = m.length
  | [], _, _ => rfl
  | n :: ns, k, m => by rw [addI, addI_len ns]; simp
theorem mem_gI {p : List Int} {n : Int} (h : n ∈ p) : ∃ i : Nat, i < p.length ∧ n = gI p (i : Nat) := by
  obtain ⟨i, hi, rfl⟩ := List.mem_iff_getElem.1 h
  exact ⟨i, hi, by simp [gI, List.getD, List.getElem?_eq_getElem hi]⟩
theorem gI_mem {p : List Int} {i : Nat} (h : i < p.length) : gI p (i : Nat) ∈ p := by
  have : p[i]? = some (gI p (i : Nat)) := by have := gI_get (p := p) (i := (i : Int)) (by omega) (by omega); simpa using this
  exact List.mem_of_getElem? this
theorem addI_bd {b : Int} : ∀ (x : List Int) (k : Nat) (m : List Int), k + x.length ≤ m.length → (∀ n ∈ x, 0 ≤ n ∧ n ≤ 5) → (∀ i : Nat, i < m.length → 0 ≤ gI m (i : Nat) ∧ gI m (i : Nat) ≤ (if i < k then b + 5 else b)) → 0 ≤ b → ∀ n ∈ addI x k m, 0 ≤ n ∧ n ≤ b + 5
  | [], k, m, _, _, h, b0 => by
    intro n hn
    change n ∈ m at hn
    obtain ⟨i, hi, rfl⟩ := mem_gI hn
    have := h i hi
    split at this <;> omega
  | n :: ns, k, m, hl, hx, h, b0 => by
    simp only [List.length_cons] at hl
    refine addI_bd ns (k + 1) _ (by simp; omega) (fun y hy => hx y (by simp [hy])) ?_ b0
    intro i hi
    have hk : k < m.length := by omega
    have e : gI (m.set k (gI m (k : Nat) + n)) (i : Nat) = if (i : Int) = (k : Nat) then gI m (k : Nat) + n else gI m (i : Nat) := by
      have := gI_set (p := m) (i := (i : Int)) (j := (k : Int)) (v := gI m (k : Nat) + n) (by omega) (by omega) (by omega)
      simpa using this
    have h1 := h i (by simpa using hi)
    have h2 := h k hk
    have h3 := hx n (by simp)
    rw [if_neg (Nat.lt_irrefl k)] at h2
    rw [e]
    rcases Nat.lt_trichotomy i k with hlt | heq | hgt
    · rw [if_pos hlt] at h1
      rw [if_neg (by omega), if_pos (by omega)]; exact h1
    · rw [if_pos (by omega), if_pos (by omega)]; omega
    · rw [if_neg (by omega)] at h1
      rw [if_neg (by omega), if_neg (by omega)]; exact h1
theorem addI_ok {m : Int} (m0 : 0 ≤ m) {x all : List Int} (hx : ∀ n ∈ x, 0 ≤ n ∧ n ≤ 5) (hl : x.length = all.length) (ha : ∀ n ∈ all, 0 ≤ n ∧ n ≤ m) : ∀ n ∈ addI x 0 all, 0 ≤ n ∧ n ≤ m + 5 :=
  addI_bd x 0 all (by omega) hx (fun i hi => by rw [if_neg (Nat.not_lt_zero i)]; exact ha _ (gI_mem hi)) m0
theorem a93_4 {q : Al} {hs al sW sc : FV} {c : List Int} {wl : List FV} {lost : Int} (E : Env q sW sc c wl) {l all : List Int} {next g1 g2 : Nat} {R : List (List FV)} {h : AH} (p : PH q hs al sW sc lost h)
    (hl : l.length = 4) (lg : h.gen 4062 = g1) (lo : h.obj 4062 = some (.list 3 1 false false (ints l))) (ag : h.gen 4037 = g2) (ao : h.obj 4037 = some (.list 3 1 false false (ints all))) (la : all.length = c.length) (ab : ∀ n ∈ all, 0 ≤ n ∧ n ≤ 20)
    (nx : 4 ≤ next) (nx4 : next ≤ wl.length) (hy : h.y = some ((own1 c lost l all ++ loopG c lost ((wl.drop next).map FV.toL) l all next).map item ++ R)) :
    AC Q 93 [.gl 4062 g1, .gl 4037 g2, .fv (.int next), .ptr 2 1 0, .ptr 3 1 0, .ptr 4 1 0] h fun lv h' => OffH 5000 [4062] h h' ∧ YR R lv h' := by
  have p0 := p
  have E0 := E
  obtain ⟨hW, hw, l4, h1, l8, hc⟩ := E
  obtain ⟨p2, p3, p4, gy, o2, o3, o4⟩ := p
  have ow := ls_one hW
  have oc := ls_one h1
  have ll : (0 : Int) < ((l.length : Nat) : Int) := by omega
  have c94 := t94 (q := q) (hs := hs) (al := al) (sa := .list false (ints all)) (lost := lost) hW h1 rfl la l8 hc (fun n hn => by have := ab n hn; omega)
  refine ac_intro (nb := 5000) Go.Proofs.Try.func93 rfl (by kernel_rfl) mix (k93 5000) (Nat.le_of_ble_eq_true (by kernel_rfl)) ?_
  refine Abs.walk ?_
  dsimp only [c93, sop, gop, nop, qmv, qsg, qex, qld, qcl, qln, qix, qbo, qt, qi]
  simp -implicitDefEqProofs only [go_sem, simprocAttr, lg, lo, ag, ao, p2, p3, p4, o2, o3, o4, ll]
  refine call0 [4062] true c94 (by simp -implicitDefEqProofs only [go_sem, simprocAttr, lg, lo, ag, ao, heapV]) (.inr rfl) ?_
  cases hb : isOfF c 0 all 0 lost
  · simp -implicitDefEqProofs only [go_sem, simprocAttr, lg, lo, ag, ao, p2, p3, p4, o2, o3, o4]
    refine lpH 9 [] 5000 [] (fun a : List FV × Nat => a.1.length) (fun a => wl.drop a.2 = a.1 ∧ a.2 ≤ wl.length ∧ 4 ≤ a.2) (fun a ρ h' => ρ 10 = .fv (.int a.2) ∧ h'.y = some ((loopG c lost (a.1.map FV.toL) l all a.2).map item ++ R) ∧ h'.gen 1000000000 = 0) (wl.drop next, next) ⟨rfl, nx4, nx⟩ ?_ ?_
    · simp -implicitDefEqProofs only [go_sem, simprocAttr, hy, own1, hb, gy]
    · rintro ⟨xs, k⟩ ρ k' ⟨ed, kl, km⟩ ⟨r10, hy', gy'⟩
      dsimp only at ed kl km r10 hy'
      cases xs with
      | nil =>
        have hk : ¬ (k : Int) < (wl.length : Nat) := by have := drop_end ed; omega
        simp -implicitDefEqProofs only [go_sem, simprocAttr, r10, p2, p3, o2, lenV_ls hW, hk]
        simp -implicitDefEqProofs only [go_sem, simprocAttr, resLV, YR, hy', gy', loopG]
      | cons x xs =>
        obtain ⟨d1, d2, d3, d4⟩ := drop_tail ed
        exact absurd d3 (by omega)
  · simp -implicitDefEqProofs only [go_sem, simprocAttr, lg, lo, ag, ao, p2, p3, p4, o2, o3, o4]
    refine callY [.list false (ints l)] ((loopG c lost ((wl.drop next).map FV.toL) l all next).map item ++ R) (by simp -implicitDefEqProofs only [go_sem, simprocAttr, yN, gy]) (by simp -implicitDefEqProofs only [go_sem, simprocAttr, lg, lo]) (by simp -implicitDefEqProofs only [go_sem, simprocAttr, hy, own1, hb, List.map_cons, List.map_append]; rfl) ?_ ?_
    · simp -implicitDefEqProofs only [go_sem, simprocAttr]
      refine lpH 9 [] 5000 [] (fun a : List FV × Nat => a.1.length) (fun a => wl.drop a.2 = a.1 ∧ a.2 ≤ wl.length ∧ 4 ≤ a.2) (fun a ρ h' => ρ 10 = .fv (.int a.2) ∧ h'.y = some ((loopG c lost (a.1.map FV.toL) l all a.2).map item ++ R) ∧ h'.gen 1000000000 = 0) (wl.drop next, next) ⟨rfl, nx4, nx⟩ ?_ ?_
      · simp -implicitDefEqProofs only [go_sem, simprocAttr, hy, own1, hb, gy]
      · rintro ⟨xs, k⟩ ρ k' ⟨ed, kl, km⟩ ⟨r10, hy', gy'⟩
        dsimp only at ed kl km r10 hy'
        cases xs with
        | nil =>
          have hk : ¬ (k : Int) < (wl.length : Nat) := by have := drop_end ed; omega
          simp -implicitDefEqProofs only [go_sem, simprocAttr, r10, p2, p3, o2, lenV_ls hW, hk]
          simp -implicitDefEqProofs only [go_sem, simprocAttr, resLV, YR, hy', gy', loopG]
        | cons x xs =>
          obtain ⟨d1, d2, d3, d4⟩ := drop_tail ed
          exact absurd d3 (by omega)
    · simp -implicitDefEqProofs only [go_sem, simprocAttr, resLV, YR, gy]
theorem a93_3 {q : Al} {hs al sW sc : FV} {c : List Int} {wl : List FV} {lost : Int} (E : Env q sW sc c wl) {l all : List Int} {next g1 g2 : Nat} {R : List (List FV)} {h : AH} (p : PH q hs al sW sc lost h)
    (hl : l.length = 3) (lg : h.gen 3062 = g1) (lo : h.obj 3062 = some (.list 3 1 false false (ints l))) (ag : h.gen 3037 = g2) (ao : h.obj 3037 = some (.list 3 1 false false (ints all))) (la : all.length = c.length) (ab : ∀ n ∈ all, 0 ≤ n ∧ n ≤ 15)
    (nx : 3 ≤ next) (nx4 : next ≤ wl.length) (hy : h.y = some ((own1 c lost l all ++ loopG c lost ((wl.drop next).map FV.toL) l all next).map item ++ R)) :
    AC Q 93 [.gl 3062 g1, .gl 3037 g2, .fv (.int next), .ptr 2 1 0, .ptr 3 1 0, .ptr 4 1 0] h fun lv h' => OffH 4000 [3062] h h' ∧ YR R lv h' := by
  have p0 := p
  have E0 := E
  obtain ⟨hW, hw, l4, h1, l8, hc⟩ := E
  obtain ⟨p2, p3, p4, gy, o2, o3, o4⟩ := p
  have ow := ls_one hW
  have oc := ls_one h1
  have ll : (0 : Int) < ((l.length : Nat) : Int) := by omega
  have c94 := t94 (q := q) (hs := hs) (al := al) (sa := .list false (ints all)) (lost := lost) hW h1 rfl la l8 hc (fun n hn => by have := ab n hn; omega)
  refine ac_intro (nb := 4000) Go.Proofs.Try.func93 rfl (by kernel_rfl) mix (k93 4000) (Nat.le_of_ble_eq_true (by kernel_rfl)) ?_
  refine Abs.walk ?_
  dsimp only [c93, sop, gop, nop, qmv, qsg, qex, qld, qcl, qln, qix, qbo, qt, qi]
  simp -implicitDefEqProofs only [go_sem, simprocAttr, lg, lo, ag, ao, p2, p3, p4, o2, o3, o4, ll]
  refine call0 [3062] true c94 (by simp -implicitDefEqProofs only [go_sem, simprocAttr, lg, lo, ag, ao, heapV]) (.inr rfl) ?_
  cases hb : isOfF c 0 all 0 lost
  · simp -implicitDefEqProofs only [go_sem, simprocAttr, lg, lo, ag, ao, p2, p3, p4, o2, o3, o4]
    refine lpH 9 [] 4000 [] (fun a : List FV × Nat => a.1.length) (fun a => wl.drop a.2 = a.1 ∧ a.2 ≤ wl.length ∧ 3 ≤ a.2) (fun a ρ h' => ρ 10 = .fv (.int a.2) ∧ h'.y = some ((loopG c lost (a.1.map FV.toL) l all a.2).map item ++ R) ∧ h'.gen 1000000000 = 0) (wl.drop next, next) ⟨rfl, nx4, nx⟩ ?_ ?_
    · simp -implicitDefEqProofs only [go_sem, simprocAttr, hy, own1, hb, gy]
    · rintro ⟨xs, k⟩ ρ k' ⟨ed, kl, km⟩ ⟨r10, hy', gy'⟩
      dsimp only at ed kl km r10 hy'
      cases xs with
      | nil =>
        have hk : ¬ (k : Int) < (wl.length : Nat) := by have := drop_end ed; omega
        simp -implicitDefEqProofs only [go_sem, simprocAttr, r10, p2, p3, o2, lenV_ls hW, hk]
        simp -implicitDefEqProofs only [go_sem, simprocAttr, resLV, YR, hy', gy', loopG]
      | cons x xs =>
        obtain ⟨d1, d2, d3, d4⟩ := drop_tail ed
        have hk : (k : Int) < (wl.length : Nat) := by omega
        have hw' : IntKind.i64.wrap ((k : Int) + 1) = ((k + 1 : Nat) : Int) := wr _ (by omega) (by omega)
        obtain ⟨xl, hxl, lxl, bxl⟩ := hw x d4
        have hcx : x.cells = [x] := ls_cells hxl
        rw [List.map_cons, loopG, toL_ls hxl] at hy'
        simp -implicitDefEqProofs only [go_sem, simprocAttr, r10, p2, o2, lenV_ls hW, hk, ag, ao]
        refine call0 [] true (t66 (f := false) (l := all) (by omega)) (by simp -implicitDefEqProofs only [go_sem, simprocAttr, ag, ao]) (.inr (by simp [RV.shallow, RC.shallow, ints, FV.shallow])) ?_
        simp -implicitDefEqProofs only [go_sem, simprocAttr, p2, o2, r10, index_ls hW idx_25 d2 (by rw [hcx]; rfl), hcx, lenV_ls hxl]
        refine lpL (β := List Int) 44 [12, 13] 4500 [4037] xl (by omega) (fun ns j mo => addI ns j mo = addI xl 0 all ∧ mo.length = all.length ∧ ∀ i, 0 ≤ i → 0 ≤ gI mo i ∧ gI mo i ≤ 15 + 5 * (j : Int))
          (fun j mo ρ2 h2 => ρ2 44 = .fv (.int j) ∧ h2.gen 4037 = k'.gen 4037 + 1 ∧ h2.obj 4037 = some (.list 3 1 false false (ints mo)) ∧ h2.y = k'.y ∧ h2.gen 1000000000 = 0) all ⟨rfl, rfl, ?_⟩ ?_ ?_ ?_
        · intro i hi
          rcases Int.lt_or_le i all.length with hlt | hge
          · have := ab _ (List.mem_of_getElem? (gI_get hi hlt))
            omega
          · rw [gI_nil_ge hge]; omega
        · simp -implicitDefEqProofs only [go_sem, simprocAttr, gy']
        · rintro mo ρ2 h2 ⟨e2, lm, bm⟩ ⟨r44, gG, oG, hy2, gy2⟩
          simp only [addI] at e2
          subst e2
          have bm' : ∀ n ∈ addI xl 0 all, 0 ≤ n ∧ n ≤ 20 := addI_ok (m := 15) (by omega) bxl (by omega) ab
          have hyN : k'.y = some ((own1 c lost (l ++ [(k : Int)]) (addI xl 0 all) ++ loopG c lost ((wl.drop (k + 1)).map FV.toL) (l ++ [(k : Int)]) (addI xl 0 all) (k + 1)).map item ++ ((loopG c lost (xs.map FV.toL) l all (k + 1)).map item ++ R)) := by
            rw [hy', d1]; simp [List.append_assoc]
          simp -implicitDefEqProofs only [go_sem, simprocAttr, r44]
          refine W_opsD _ _ _ (Vs [[], [], [], [], [4061], [4062]]) ?_ ?_
          · decide
          simp -implicitDefEqProofs only [go_sem, simprocAttr, p4, o4, r10]
          refine callD [] false [.fo (.list false (ints l))] [] (t95 (by omega)) ⟨by simp -implicitDefEqProofs only [go_sem, simprocAttr, lg, lo], trivial⟩ rfl (.inl rfl) ?_
          simp -implicitDefEqProofs only [go_sem, simprocAttr, r10]
          refine app_full idx_26 (by decide) (by simp -implicitDefEqProofs only [go_sem, simprocAttr]; rfl) (by simp) (fun x hx => (ints_elem l x hx).1) (by simp [FV.cells]) (by simp -implicitDefEqProofs only [go_sem, simprocAttr]) (by simp [byt_3, ints]; omega) (by simp [maxLen, ints]; omega) ?_
          simp -implicitDefEqProofs only [go_sem, simprocAttr, r10, hw', p4, o4, gG, List.isEmpty]
          refine callIH 5000 [4062] (a93_4 E0 (l := l ++ [(k : Int)]) (all := addI xl 0 all) (next := k + 1) (lost := lost) (hs := hs) (al := al) (R := (loopG c lost (xs.map FV.toL) l all (k + 1)).map item ++ R) ⟨by simp -implicitDefEqProofs only [go_sem, simprocAttr, p2], by simp -implicitDefEqProofs only [go_sem, simprocAttr, p3], by simp -implicitDefEqProofs only [go_sem, simprocAttr, p4], by simp -implicitDefEqProofs only [go_sem, simprocAttr, gy2], by simp -implicitDefEqProofs only [go_sem, simprocAttr, o2], by simp -implicitDefEqProofs only [go_sem, simprocAttr, o3], by simp -implicitDefEqProofs only [go_sem, simprocAttr, o4]⟩ (by simp [hl]) (by simp -implicitDefEqProofs only [go_sem, simprocAttr]) (by simp -implicitDefEqProofs only [go_sem, simprocAttr, ints, List.map_append]) (by simp -implicitDefEqProofs only [go_sem, simprocAttr, gG]) (by simp -implicitDefEqProofs only [go_sem, simprocAttr, oG]) (by omega) bm' (by omega) (by omega) (by simp -implicitDefEqProofs only [go_sem, simprocAttr, hy2, hyN])) (ex_YR (by simp -implicitDefEqProofs only [go_sem, simprocAttr, gy2]) _) ?_
          rintro lv h3 ⟨gy3, ⟨rfl, hy3⟩ | ⟨rfl, hy3⟩⟩
          · simp -implicitDefEqProofs only [go_sem, simprocAttr, Kl_eq, r10, hw']
            refine nxt (xs, k + 1) (Nat.lt_succ_self _) ⟨d1, d3, by dsimp only; omega⟩ ?_
            simp -implicitDefEqProofs only [go_sem, simprocAttr, hy3, gy3]
          · simp -implicitDefEqProofs only [go_sem, simprocAttr, Kl_eq]
            simp -implicitDefEqProofs only [go_sem, simprocAttr, resLV, YR, gy3, hy3]
        · rintro n ns j mo ρ2 h2 hx2 hj hm2 hj' hwj ⟨e2, lm, bm⟩ ⟨r44, gG, oG, hy2, gy2⟩
          have hn := bxl n hm2
          have jm : (j : Int) < (mo.length : Nat) := by omega
          have gj : (ints mo)[j]? = some (.int (gI mo (j : Int))) := by have := ints_get (l := mo) (i := (j : Int)) (by omega) jm; simpa using this
          have hbj := bm (j : Int) (by omega)
          have w1 : IntKind.i64.wrap (gI mo (j : Int) + n) = gI mo (j : Int) + n := wr _ (by omega) (by omega)
          simp -implicitDefEqProofs only [go_sem, simprocAttr, r44, hj', index_map hxl idx_26 hx2 rfl, gG, oG, jm, gj, w1]
          refine sto_elem (by rfl) (by rfl) (by rfl) (by simp -implicitDefEqProofs only [go_sem, simprocAttr, gG, oG]; rfl) gj (by decide) ?_
          simp -implicitDefEqProofs only [go_sem, simprocAttr, r44, hwj, FV.withCells, ints_set]
          refine nxtL (mo.set j (gI mo (j : Int) + n)) ⟨by rw [← e2]; rfl, by simpa using lm, ?_⟩ ?_
          · intro i hi
            have := gI_set (p := mo) (i := i) (j := (j : Int)) (v := gI mo (j : Int) + n) (by omega) jm hi
            simp only [Int.toNat_natCast] at this
            rw [this]
            have := bm i hi
            push_cast
            split <;> omega
          · simp -implicitDefEqProofs only [go_sem, simprocAttr, gG, hy2, gy2]
  · simp -implicitDefEqProofs only [go_sem, simprocAttr, lg, lo, ag, ao, p2, p3, p4, o2, o3, o4]
    refine callY [.list false (ints l)] ((loopG c lost ((wl.drop next).map FV.toL) l all next).map item ++ R) (by simp -implicitDefEqProofs only [go_sem, simprocAttr, yN, gy]) (by simp -implicitDefEqProofs only [go_sem, simprocAttr, lg, lo]) (by simp -implicitDefEqProofs only [go_sem, simprocAttr, hy, own1, hb, List.map_cons, List.map_append]; rfl) ?_ ?_
    · simp -implicitDefEqProofs only [go_sem, simprocAttr]
      refine lpH 9 [] 4000 [] (fun a : List FV × Nat => a.1.length) (fun a => wl.drop a.2 = a.1 ∧ a.2 ≤ wl.length ∧ 3 ≤ a.2) (fun a ρ h' => ρ 10 = .fv (.int a.2) ∧ h'.y = some ((loopG c lost (a.1.map FV.toL) l all a.2).map item ++ R) ∧ h'.gen 1000000000 = 0) (wl.drop next, next) ⟨rfl, nx4, nx⟩ ?_ ?_
      · simp -implicitDefEqProofs only [go_sem, simprocAttr, hy, own1, hb, gy]
      · rintro ⟨xs, k⟩ ρ k' ⟨ed, kl, km⟩ ⟨r10, hy', gy'⟩
        dsimp only at ed kl km r10 hy'
        cases xs with
        | nil =>
          have hk : ¬ (k : Int) < (wl.length : Nat) := by have := drop_end ed; omega
          simp -implicitDefEqProofs only [go_sem, simprocAttr, r10, p2, p3, o2, lenV_ls hW, hk]
          simp -implicitDefEqProofs only [go_sem, simprocAttr, resLV, YR, hy', gy', loopG]
        | cons x xs =>
          obtain ⟨d1, d2, d3, d4⟩ := drop_tail ed
          have hk : (k : Int) < (wl.length : Nat) := by omega
          have hw' : IntKind.i64.wrap ((k : Int) + 1) = ((k + 1 : Nat) : Int) := wr _ (by omega) (by omega)
          obtain ⟨xl, hxl, lxl, bxl⟩ := hw x d4
          have hcx : x.cells = [x] := ls_cells hxl
          rw [List.map_cons, loopG, toL_ls hxl] at hy'
          simp -implicitDefEqProofs only [go_sem, simprocAttr, r10, p2, o2, lenV_ls hW, hk, ag, ao]
          refine call0 [] true (t66 (f := false) (l := all) (by omega)) (by simp -implicitDefEqProofs only [go_sem, simprocAttr, ag, ao]) (.inr (by simp [RV.shallow, RC.shallow, ints, FV.shallow])) ?_
          simp -implicitDefEqProofs only [go_sem, simprocAttr, p2, o2, r10, index_ls hW idx_25 d2 (by rw [hcx]; rfl), hcx, lenV_ls hxl]
          refine lpL (β := List Int) 44 [12, 13] 4500 [4037] xl (by omega) (fun ns j mo => addI ns j mo = addI xl 0 all ∧ mo.length = all.length ∧ ∀ i, 0 ≤ i → 0 ≤ gI mo i ∧ gI mo i ≤ 15 + 5 * (j : Int))
            (fun j mo ρ2 h2 => ρ2 44 = .fv (.int j) ∧ h2.gen 4037 = k'.gen 4037 + 1 ∧ h2.obj 4037 = some (.list 3 1 false false (ints mo)) ∧ h2.y = k'.y ∧ h2.gen 1000000000 = 0) all ⟨rfl, rfl, ?_⟩ ?_ ?_ ?_
          · intro i hi
            rcases Int.lt_or_le i all.length with hlt | hge
            · have := ab _ (List.mem_of_getElem? (gI_get hi hlt))
              omega
            · rw [gI_nil_ge hge]; omega
          · simp -implicitDefEqProofs only [go_sem, simprocAttr, gy']
          · rintro mo ρ2 h2 ⟨e2, lm, bm⟩ ⟨r44, gG, oG, hy2, gy2⟩
            simp only [addI] at e2
            subst e2
            have bm' : ∀ n ∈ addI xl 0 all, 0 ≤ n ∧ n ≤ 20 := addI_ok (m := 15) (by omega) bxl (by omega) ab
            have hyN : k'.y = some ((own1 c lost (l ++ [(k : Int)]) (addI xl 0 all) ++ loopG c lost ((wl.drop (k + 1)).map FV.toL) (l ++ [(k : Int)]) (addI xl 0 all) (k + 1)).map item ++ ((loopG c lost (xs.map FV.toL) l all (k + 1)).map item ++ R)) := by
              rw [hy', d1]; simp [List.append_assoc]
            simp -implicitDefEqProofs only [go_sem, simprocAttr, r44]
            refine W_opsD _ _ _ (Vs [[], [], [], [], [4061], [4062]]) ?_ ?_
            · decide
            simp -implicitDefEqProofs only [go_sem, simprocAttr, p4, o4, r10]
            refine callD [] false [.fo (.list false (ints l))] [] (t95 (by omega)) ⟨by simp -implicitDefEqProofs only [go_sem, simprocAttr, lg, lo], trivial⟩ rfl (.inl rfl) ?_
            simp -implicitDefEqProofs only [go_sem, simprocAttr, r10]
            refine app_full idx_26 (by decide) (by simp -implicitDefEqProofs only [go_sem, simprocAttr]; rfl) (by simp) (fun x hx => (ints_elem l x hx).1) (by simp [FV.cells]) (by simp -implicitDefEqProofs only [go_sem, simprocAttr]) (by simp [byt_3, ints]; omega) (by simp [maxLen, ints]; omega) ?_
            simp -implicitDefEqProofs only [go_sem, simprocAttr, r10, hw', p4, o4, gG, List.isEmpty]
            refine callIH 5000 [4062] (a93_4 E0 (l := l ++ [(k : Int)]) (all := addI xl 0 all) (next := k + 1) (lost := lost) (hs := hs) (al := al) (R := (loopG c lost (xs.map FV.toL) l all (k + 1)).map item ++ R) ⟨by simp -implicitDefEqProofs only [go_sem, simprocAttr, p2], by simp -implicitDefEqProofs only [go_sem, simprocAttr, p3], by simp -implicitDefEqProofs only [go_sem, simprocAttr, p4], by simp -implicitDefEqProofs only [go_sem, simprocAttr, gy2], by simp -implicitDefEqProofs only [go_sem, simprocAttr, o2], by simp -implicitDefEqProofs only [go_sem, simprocAttr, o3], by simp -implicitDefEqProofs only [go_sem, simprocAttr, o4]⟩ (by simp [hl]) (by simp -implicitDefEqProofs only [go_sem, simprocAttr]) (by simp -implicitDefEqProofs only [go_sem, simprocAttr, ints, List.map_append]) (by simp -implicitDefEqProofs only [go_sem, simprocAttr, gG]) (by simp -implicitDefEqProofs only [go_sem, simprocAttr, oG]) (by omega) bm' (by omega) (by omega) (by simp -implicitDefEqProofs only [go_sem, simprocAttr, hy2, hyN])) (ex_YR (by simp -implicitDefEqProofs only [go_sem, simprocAttr, gy2]) _) ?_
            rintro lv h3 ⟨gy3, ⟨rfl, hy3⟩ | ⟨rfl, hy3⟩⟩
            · simp -implicitDefEqProofs only [go_sem, simprocAttr, Kl_eq, r10, hw']
              refine nxt (xs, k + 1) (Nat.lt_succ_self _) ⟨d1, d3, by dsimp only; omega⟩ ?_
              simp -implicitDefEqProofs only [go_sem, simprocAttr, hy3, gy3]
            · simp -implicitDefEqProofs only [go_sem, simprocAttr, Kl_eq]
              simp -implicitDefEqProofs only [go_sem, simprocAttr, resLV, YR, gy3, hy3]
          · rintro n ns j mo ρ2 h2 hx2 hj hm2 hj' hwj ⟨e2, lm, bm⟩ ⟨r44, gG, oG, hy2, gy2⟩
            have hn := bxl n hm2
            have jm : (j : Int) < (mo.length : Nat) := by omega
            have gj : (ints mo)[j]? = some (.int (gI mo (j : Int))) := by have := ints_get (l := mo) (i := (j : Int)) (by omega) jm; simpa using this
            have hbj := bm (j : Int) (by omega)
            have w1 : IntKind.i64.wrap (gI mo (j : Int) + n) = gI mo (j : Int) + n := wr _ (by omega) (by omega)
            simp -implicitDefEqProofs only [go_sem, simprocAttr, r44, hj', index_map hxl idx_26 hx2 rfl, gG, oG, jm, gj, w1]
            refine sto_elem (by rfl) (by rfl) (by rfl) (by simp -implicitDefEqProofs only [go_sem, simprocAttr, gG, oG]; rfl) gj (by decide) ?_
            simp -implicitDefEqProofs only [go_sem, simprocAttr, r44, hwj, FV.withCells, ints_set]
            refine nxtL (mo.set j (gI mo (j : Int) + n)) ⟨by rw [← e2]; rfl, by simpa using lm, ?_⟩ ?_
            · intro i hi
              have := gI_set (p := mo) (i := i) (j := (j : Int)) (v := gI mo (j : Int) + n) (by omega) jm hi
              simp only [Int.toNat_natCast] at this
              rw [this]
              have := bm i hi
              push_cast
              split <;> omega
            · simp -implicitDefEqProofs only [go_sem, simprocAttr, gG, hy2, gy2]
    · simp -implicitDefEqProofs only [go_sem, simprocAttr, resLV, YR, gy]
theorem a93_2 {q : Al} {hs al sW sc : FV} {c : List Int} {wl : List FV} {lost : Int} (E : Env q sW sc c wl) {l all : List Int} {next g1 g2 : Nat} {R : List (List FV)} {h : AH} (p : PH q hs al sW sc lost h)
    (hl : l.length = 2) (lg : h.gen 2062 = g1) (lo : h.obj 2062 = some (.list 3 1 false false (ints l))) (ag : h.gen 2037 = g2) (ao : h.obj 2037 = some (.list 3 1 false false (ints all))) (la : all.length = c.length) (ab : ∀ n ∈ all, 0 ≤ n ∧ n ≤ 10)
    (nx : 2 ≤ next) (nx4 : next ≤ wl.length) (hy : h.y = some ((own1 c lost l all ++ loopG c lost ((wl.drop next).map FV.toL) l all next).map item ++ R)) :
    AC Q 93 [.gl 2062 g1, .gl 2037 g2, .fv (.int next), .ptr 2 1 0, .ptr 3 1 0, .ptr 4 1 0] h fun lv h' => OffH 3000 [2062] h h' ∧ YR R lv h' := by
  have p0 := p
  have E0 := E
  obtain ⟨hW, hw, l4, h1, l8, hc⟩ := E
  obtain ⟨p2, p3, p4, gy, o2, o3, o4⟩ := p
  have ow := ls_one hW
  have oc := ls_one h1
  have ll : (0 : Int) < ((l.length : Nat) : Int) := by omega
  have c94 := t94 (q := q) (hs := hs) (al := al) (sa := .list false (ints all)) (lost := lost) hW h1 rfl la l8 hc (fun n hn => by have := ab n hn; omega)
  refine ac_intro (nb := 3000) Go.Proofs.Try.func93 rfl (by kernel_rfl) mix (k93 3000) (Nat.le_of_ble_eq_true (by kernel_rfl)) ?_
  refine Abs.walk ?_
  dsimp only [c93, sop, gop, nop, qmv, qsg, qex, qld, qcl, qln, qix, qbo, qt, qi]
  simp -implicitDefEqProofs only [go_sem, simprocAttr, lg, lo, ag, ao, p2, p3, p4, o2, o3, o4, ll]
  refine call0 [2062] true c94 (by simp -implicitDefEqProofs only [go_sem, simprocAttr, lg, lo, ag, ao, heapV]) (.inr rfl) ?_
  cases hb : isOfF c 0 all 0 lost
  · simp -implicitDefEqProofs only [go_sem, simprocAttr, lg, lo, ag, ao, p2, p3, p4, o2, o3, o4]
    refine lpH 9 [] 3000 [] (fun a : List FV × Nat => a.1.length) (fun a => wl.drop a.2 = a.1 ∧ a.2 ≤ wl.length ∧ 2 ≤ a.2) (fun a ρ h' => ρ 10 = .fv (.int a.2) ∧ h'.y = some ((loopG c lost (a.1.map FV.toL) l all a.2).map item ++ R) ∧ h'.gen 1000000000 = 0) (wl.drop next, next) ⟨rfl, nx4, nx⟩ ?_ ?_
    · simp -implicitDefEqProofs only [go_sem, simprocAttr, hy, own1, hb, gy]
    · rintro ⟨xs, k⟩ ρ k' ⟨ed, kl, km⟩ ⟨r10, hy', gy'⟩
      dsimp only at ed kl km r10 hy'
      cases xs with
      | nil =>
        have hk : ¬ (k : Int) < (wl.length : Nat) := by have := drop_end ed; omega
        simp -implicitDefEqProofs only [go_sem, simprocAttr, r10, p2, p3, o2, lenV_ls hW, hk]
        simp -implicitDefEqProofs only [go_sem, simprocAttr, resLV, YR, hy', gy', loopG]
      | cons x xs =>
        obtain ⟨d1, d2, d3, d4⟩ := drop_tail ed
        have hk : (k : Int) < (wl.length : Nat) := by omega
        have hw' : IntKind.i64.wrap ((k : Int) + 1) = ((k + 1 : Nat) : Int) := wr _ (by omega) (by omega)
        obtain ⟨xl, hxl, lxl, bxl⟩ := hw x d4
        have hcx : x.cells = [x] := ls_cells hxl
        rw [List.map_cons, loopG, toL_ls hxl] at hy'
        simp -implicitDefEqProofs only [go_sem, simprocAttr, r10, p2, o2, lenV_ls hW, hk, ag, ao]
        refine call0 [] true (t66 (f := false) (l := all) (by omega)) (by simp -implicitDefEqProofs only [go_sem, simprocAttr, ag, ao]) (.inr (by simp [RV.shallow, RC.shallow, ints, FV.shallow])) ?_
        simp -implicitDefEqProofs only [go_sem, simprocAttr, p2, o2, r10, index_ls hW idx_25 d2 (by rw [hcx]; rfl), hcx, lenV_ls hxl]
        refine lpL (β := List Int) 44 [12, 13] 3500 [3037] xl (by omega) (fun ns j mo => addI ns j mo = addI xl 0 all ∧ mo.length = all.length ∧ ∀ i, 0 ≤ i → 0 ≤ gI mo i ∧ gI mo i ≤ 10 + 5 * (j : Int))
          (fun j mo ρ2 h2 => ρ2 44 = .fv (.int j) ∧ h2.gen 3037 = k'.gen 3037 + 1 ∧ h2.obj 3037 = some (.list 3 1 false false (ints mo)) ∧ h2.y = k'.y ∧ h2.gen 1000000000 = 0) all ⟨rfl, rfl, ?_⟩ ?_ ?_ ?_
        · intro i hi
          rcases Int.lt_or_le i all.length with hlt | hge
          · have := ab _ (List.mem_of_getElem? (gI_get hi hlt))
            omega
          · rw [gI_nil_ge hge]; omega
        · simp -implicitDefEqProofs only [go_sem, simprocAttr, gy']
        · rintro mo ρ2 h2 ⟨e2, lm, bm⟩ ⟨r44, gG, oG, hy2, gy2⟩
          simp only [addI] at e2
          subst e2
          have bm' : ∀ n ∈ addI xl 0 all, 0 ≤ n ∧ n ≤ 15 := addI_ok (m := 10) (by omega) bxl (by omega) ab
          have hyN : k'.y = some ((own1 c lost (l ++ [(k : Int)]) (addI xl 0 all) ++ loopG c lost ((wl.drop (k + 1)).map FV.toL) (l ++ [(k : Int)]) (addI xl 0 all) (k + 1)).map item ++ ((loopG c lost (xs.map FV.toL) l all (k + 1)).map item ++ R)) := by
            rw [hy', d1]; simp [List.append_assoc]
          simp -implicitDefEqProofs only [go_sem, simprocAttr, r44]
          refine W_opsD _ _ _ (Vs [[], [], [], [], [3061], [3062]]) ?_ ?_
          · decide
          simp -implicitDefEqProofs only [go_sem, simprocAttr, p4, o4, r10]
          refine callD [] false [.fo (.list false (ints l))] [] (t95 (by omega)) ⟨by simp -implicitDefEqProofs only [go_sem, simprocAttr, lg, lo], trivial⟩ rfl (.inl rfl) ?_
          simp -implicitDefEqProofs only [go_sem, simprocAttr, r10]
          refine app_full idx_26 (by decide) (by simp -implicitDefEqProofs only [go_sem, simprocAttr]; rfl) (by simp) (fun x hx => (ints_elem l x hx).1) (by simp [FV.cells]) (by simp -implicitDefEqProofs only [go_sem, simprocAttr]) (by simp [byt_3, ints]; omega) (by simp [maxLen, ints]; omega) ?_
          simp -implicitDefEqProofs only [go_sem, simprocAttr, r10, hw', p4, o4, gG, List.isEmpty]
          refine callIH 4000 [3062] (a93_3 E0 (l := l ++ [(k : Int)]) (all := addI xl 0 all) (next := k + 1) (lost := lost) (hs := hs) (al := al) (R := (loopG c lost (xs.map FV.toL) l all (k + 1)).map item ++ R) ⟨by simp -implicitDefEqProofs only [go_sem, simprocAttr, p2], by simp -implicitDefEqProofs only [go_sem, simprocAttr, p3], by simp -implicitDefEqProofs only [go_sem, simprocAttr, p4], by simp -implicitDefEqProofs only [go_sem, simprocAttr, gy2], by simp -implicitDefEqProofs only [go_sem, simprocAttr, o2], by simp -implicitDefEqProofs only [go_sem, simprocAttr, o3], by simp -implicitDefEqProofs only [go_sem, simprocAttr, o4]⟩ (by simp [hl]) (by simp -implicitDefEqProofs only [go_sem, simprocAttr]) (by simp -implicitDefEqProofs only [go_sem, simprocAttr, ints, List.map_append]) (by simp -implicitDefEqProofs only [go_sem, simprocAttr, gG]) (by simp -implicitDefEqProofs only [go_sem, simprocAttr, oG]) (by omega) bm' (by omega) (by omega) (by simp -implicitDefEqProofs only [go_sem, simprocAttr, hy2, hyN])) (ex_YR (by simp -implicitDefEqProofs only [go_sem, simprocAttr, gy2]) _) ?_
          rintro lv h3 ⟨gy3, ⟨rfl, hy3⟩ | ⟨rfl, hy3⟩⟩
          · simp -implicitDefEqProofs only [go_sem, simprocAttr, Kl_eq, r10, hw']
            refine nxt (xs, k + 1) (Nat.lt_succ_self _) ⟨d1, d3, by dsimp only; omega⟩ ?_
            simp -implicitDefEqProofs only [go_sem, simprocAttr, hy3, gy3]
          · simp -implicitDefEqProofs only [go_sem, simprocAttr, Kl_eq]
            simp -implicitDefEqProofs only [go_sem, simprocAttr, resLV, YR, gy3, hy3]
        · rintro n ns j mo ρ2 h2 hx2 hj hm2 hj' hwj ⟨e2, lm, bm⟩ ⟨r44, gG, oG, hy2, gy2⟩
          have hn := bxl n hm2
          have jm : (j : Int) < (mo.length : Nat) := by omega
          have gj : (ints mo)[j]? = some (.int (gI mo (j : Int))) := by have := ints_get (l := mo) (i := (j : Int)) (by omega) jm; simpa using this
          have hbj := bm (j : Int) (by omega)
          have w1 : IntKind.i64.wrap (gI mo (j : Int) + n) = gI mo (j : Int) + n := wr _ (by omega) (by omega)
          simp -implicitDefEqProofs only [go_sem, simprocAttr, r44, hj', index_map hxl idx_26 hx2 rfl, gG, oG, jm, gj, w1]
          refine sto_elem (by rfl) (by rfl) (by rfl) (by simp -implicitDefEqProofs only [go_sem, simprocAttr, gG, oG]; rfl) gj (by decide) ?_
          simp -implicitDefEqProofs only [go_sem, simprocAttr, r44, hwj, FV.withCells, ints_set]
          refine nxtL (mo.set j (gI mo (j : Int) + n)) ⟨by rw [← e2]; rfl, by simpa using lm, ?_⟩ ?_
          · intro i hi
            have := gI_set (p := mo) (i := i) (j := (j : Int)) (v := gI mo (j : Int) + n) (by omega) jm hi
            simp only [Int.toNat_natCast] at this
            rw [this]
            have := bm i hi
            push_cast
            split <;> omega
          · simp -implicitDefEqProofs only [go_sem, simprocAttr, gG, hy2, gy2]
  · simp -implicitDefEqProofs only [go_sem, simprocAttr, lg, lo, ag, ao, p2, p3, p4, o2, o3, o4]
    refine callY [.list false (ints l)] ((loopG c lost ((wl.drop next).map FV.toL) l all next).map item ++ R) (by simp -implicitDefEqProofs only [go_sem, simprocAttr, yN, gy]) (by simp -implicitDefEqProofs only [go_sem, simprocAttr, lg, lo]) (by simp -implicitDefEqProofs only [go_sem, simprocAttr, hy, own1, hb, List.map_cons, List.map_append]; rfl) ?_ ?_
    · simp -implicitDefEqProofs only [go_sem, simprocAttr]
      refine lpH 9 [] 3000 [] (fun a : List FV × Nat => a.1.length) (fun a => wl.drop a.2 = a.1 ∧ a.2 ≤ wl.length ∧ 2 ≤ a.2) (fun a ρ h' => ρ 10 = .fv (.int a.2) ∧ h'.y = some ((loopG c lost (a.1.map FV.toL) l all a.2).map item ++ R) ∧ h'.gen 1000000000 = 0) (wl.drop next, next) ⟨rfl, nx4, nx⟩ ?_ ?_
      · simp -implicitDefEqProofs only [go_sem, simprocAttr, hy, own1, hb, gy]
      · rintro ⟨xs, k⟩ ρ k' ⟨ed, kl, km⟩ ⟨r10, hy', gy'⟩
        dsimp only at ed kl km r10 hy'
        cases xs with
        | nil =>
          have hk : ¬ (k : Int) < (wl.length : Nat) := by have := drop_end ed; omega
          simp -implicitDefEqProofs only [go_sem, simprocAttr, r10, p2, p3, o2, lenV_ls hW, hk]
          simp -implicitDefEqProofs only [go_sem, simprocAttr, resLV, YR, hy', gy', loopG]
        | cons x xs =>
          obtain ⟨d1, d2, d3, d4⟩ := drop_tail ed
          have hk : (k : Int) < (wl.length : Nat) := by omega
          have hw' : IntKind.i64.wrap ((k : Int) + 1) = ((k + 1 : Nat) : Int) := wr _ (by omega) (by omega)
          obtain ⟨xl, hxl, lxl, bxl⟩ := hw x d4
          have hcx : x.cells = [x] := ls_cells hxl
          rw [List.map_cons, loopG, toL_ls hxl] at hy'
          simp -implicitDefEqProofs only [go_sem, simprocAttr, r10, p2, o2, lenV_ls hW, hk, ag, ao]
          refine call0 [] true (t66 (f := false) (l := all) (by omega)) (by simp -implicitDefEqProofs only [go_sem, simprocAttr, ag, ao]) (.inr (by simp [RV.shallow, RC.shallow, ints, FV.shallow])) ?_
          simp -implicitDefEqProofs only [go_sem, simprocAttr, p2, o2, r10, index_ls hW idx_25 d2 (by rw [hcx]; rfl), hcx, lenV_ls hxl]
          refine lpL (β := List Int) 44 [12, 13] 3500 [3037] xl (by omega) (fun ns j mo => addI ns j mo = addI xl 0 all ∧ mo.length = all.length ∧ ∀ i, 0 ≤ i → 0 ≤ gI mo i ∧ gI mo i ≤ 10 + 5 * (j : Int))
            (fun j mo ρ2 h2 => ρ2 44 = .fv (.int j) ∧ h2.gen 3037 = k'.gen 3037 + 1 ∧ h2.obj 3037 = some (.list 3 1 false false (ints mo)) ∧ h2.y = k'.y ∧ h2.gen 1000000000 = 0) all ⟨rfl, rfl, ?_⟩ ?_ ?_ ?_
          · intro i hi
            rcases Int.lt_or_le i all.length with hlt | hge
            · have := ab _ (List.mem_of_getElem? (gI_get hi hlt))
              omega
            · rw [gI_nil_ge hge]; omega
          · simp -implicitDefEqProofs only [go_sem, simprocAttr, gy']
          · rintro mo ρ2 h2 ⟨e2, lm, bm⟩ ⟨r44, gG, oG, hy2, gy2⟩
            simp only [addI] at e2
            subst e2
            have bm' : ∀ n ∈ addI xl 0 all, 0 ≤ n ∧ n ≤ 15 := addI_ok (m := 10) (by omega) bxl (by omega) ab
            have hyN : k'.y = some ((own1 c lost (l ++ [(k : Int)]) (addI xl 0 all) ++ loopG c lost ((wl.drop (k + 1)).map FV.toL) (l ++ [(k : Int)]) (addI xl 0 all) (k + 1)).map item ++ ((loopG c lost (xs.map FV.toL) l all (k + 1)).map item ++ R)) := by
              rw [hy', d1]; simp [List.append_assoc]
            simp -implicitDefEqProofs only [go_sem, simprocAttr, r44]
            refine W_opsD _ _ _ (Vs [[], [], [], [], [3061], [3062]]) ?_ ?_
            · decide
            simp -implicitDefEqProofs only [go_sem, simprocAttr, p4, o4, r10]
            refine callD [] false [.fo (.list false (ints l))] [] (t95 (by omega)) ⟨by simp -implicitDefEqProofs only [go_sem, simprocAttr, lg, lo], trivial⟩ rfl (.inl rfl) ?_
            simp -implicitDefEqProofs only [go_sem, simprocAttr, r10]
            refine app_full idx_26 (by decide) (by simp -implicitDefEqProofs only [go_sem, simprocAttr]; rfl) (by simp) (fun x hx => (ints_elem l x hx).1) (by simp [FV.cells]) (by simp -implicitDefEqProofs only [go_sem, simprocAttr]) (by simp [byt_3, ints]; omega) (by simp [maxLen, ints]; omega) ?_
            simp -implicitDefEqProofs only [go_sem, simprocAttr, r10, hw', p4, o4, gG, List.isEmpty]
            refine callIH 4000 [3062] (a93_3 E0 (l := l ++ [(k : Int)]) (all := addI xl 0 all) (next := k + 1) (lost := lost) (hs := hs) (al := al) (R := (loopG c lost (xs.map FV.toL) l all (k + 1)).map item ++ R) ⟨by simp -implicitDefEqProofs only [go_sem, simprocAttr, p2], by simp -implicitDefEqProofs only [go_sem, simprocAttr, p3], by simp -implicitDefEqProofs only [go_sem, simprocAttr, p4], by simp -implicitDefEqProofs only [go_sem, simprocAttr, gy2], by simp -implicitDefEqProofs only [go_sem, simprocAttr, o2], by simp -implicitDefEqProofs only [go_sem, simprocAttr, o3], by simp -implicitDefEqProofs only [go_sem, simprocAttr, o4]⟩ (by simp [hl]) (by simp -implicitDefEqProofs only [go_sem, simprocAttr]) (by simp -implicitDefEqProofs only [go_sem, simprocAttr, ints, List.map_append]) (by simp -implicitDefEqProofs only [go_sem, simprocAttr, gG]) (by simp -implicitDefEqProofs only [go_sem, simprocAttr, oG]) (by omega) bm' (by omega) (by omega) (by simp -implicitDefEqProofs only [go_sem, simprocAttr, hy2, hyN])) (ex_YR (by simp -implicitDefEqProofs only [go_sem, simprocAttr, gy2]) _) ?_
            rintro lv h3 ⟨gy3, ⟨rfl, hy3⟩ | ⟨rfl, hy3⟩⟩
            · simp -implicitDefEqProofs only [go_sem, simprocAttr, Kl_eq, r10, hw']
              refine nxt (xs, k + 1) (Nat.lt_succ_self _) ⟨d1, d3, by dsimp only; omega⟩ ?_
              simp -implicitDefEqProofs only [go_sem, simprocAttr, hy3, gy3]
            · simp -implicitDefEqProofs only [go_sem, simprocAttr, Kl_eq]
              simp -implicitDefEqProofs only [go_sem, simprocAttr, resLV, YR, gy3, hy3]
          · rintro n ns j mo ρ2 h2 hx2 hj hm2 hj' hwj ⟨e2, lm, bm⟩ ⟨r44, gG, oG, hy2, gy2⟩
            have hn := bxl n hm2
            have jm : (j : Int) < (mo.length : Nat) := by omega
            have gj : (ints mo)[j]? = some (.int (gI mo (j : Int))) := by have := ints_get (l := mo) (i := (j : Int)) (by omega) jm; simpa using this
            have hbj := bm (j : Int) (by omega)
            have w1 : IntKind.i64.wrap (gI mo (j : Int) + n) = gI mo (j : Int) + n := wr _ (by omega) (by omega)
            simp -implicitDefEqProofs only [go_sem, simprocAttr, r44, hj', index_map hxl idx_26 hx2 rfl, gG, oG, jm, gj, w1]
            refine sto_elem (by rfl) (by rfl) (by rfl) (by simp -implicitDefEqProofs only [go_sem, simprocAttr, gG, oG]; rfl) gj (by decide) ?_
            simp -implicitDefEqProofs only [go_sem, simprocAttr, r44, hwj, FV.withCells, ints_set]
            refine nxtL (mo.set j (gI mo (j : Int) + n)) ⟨by rw [← e2]; rfl, by simpa using lm, ?_⟩ ?_
            · intro i hi
              have := gI_set (p := mo) (i := i) (j := (j : Int)) (v := gI mo (j : Int) + n) (by omega) jm hi
              simp only [Int.toNat_natCast] at this
              rw [this]
              have := bm i hi
              push_cast
              split <;> omega
            · simp -implicitDefEqProofs only [go_sem, simprocAttr, gG, hy2, gy2]
    · simp -implicitDefEqProofs only [go_sem, simprocAttr, resLV, YR, gy]
theorem a93_1 {q : Al} {hs al sW sc : FV} {c : List Int} {wl : List FV} {lost : Int} (E : Env q sW sc c wl) {l all : List Int} {next g1 g2 : Nat} {R : List (List FV)} {h : AH} (p : PH q hs al sW sc lost h)
    (hl : l.length = 1) (lg : h.gen 1062 = g1) (lo : h.obj 1062 = some (.list 3 1 false false (ints l))) (ag : h.gen 1037 = g2) (ao : h.obj 1037 = some (.list 3 1 false false (ints all))) (la : all.length = c.length) (ab : ∀ n ∈ all, 0 ≤ n ∧ n ≤ 5)
    (nx : 1 ≤ next) (nx4 : next ≤ wl.length) (hy : h.y = some ((own1 c lost l all ++ loopG c lost ((wl.drop next).map FV.toL) l all next).map item ++ R)) :
    AC Q 93 [.gl 1062 g1, .gl 1037 g2, .fv (.int next), .ptr 2 1 0, .ptr 3 1 0, .ptr 4 1 0] h fun lv h' => OffH 2000 [1062] h h' ∧ YR R lv h' := by
  have p0 := p
  have E0 := E
  obtain ⟨hW, hw, l4, h1, l8, hc⟩ := E
  obtain ⟨p2, p3, p4, gy, o2, o3, o4⟩ := p
  have ow := ls_one hW
  have oc := ls_one h1
  have ll : (0 : Int) < ((l.length : Nat) : Int) := by omega
  have c94 := t94 (q := q) (hs := hs) (al := al) (sa := .list false (ints all)) (lost := lost) hW h1 rfl la l8 hc (fun n hn => by have := ab n hn; omega)
  refine ac_intro (nb := 2000) Go.Proofs.Try.func93 rfl (by kernel_rfl) mix (k93 2000) (Nat.le_of_ble_eq_true (by kernel_rfl)) ?_
  refine Abs.walk ?_
  dsimp only [c93, sop, gop, nop, qmv, qsg, qex, qld, qcl, qln, qix, qbo, qt, qi]
  simp -implicitDefEqProofs only [go_sem, simprocAttr, lg, lo, ag, ao, p2, p3, p4, o2, o3, o4, ll]
  refine call0 [1062] true c94 (by simp -implicitDefEqProofs only [go_sem, simprocAttr, lg, lo, ag, ao, heapV]) (.inr rfl) ?_
  cases hb : isOfF c 0 all 0 lost
  · simp -implicitDefEqProofs only [go_sem, simprocAttr, lg, lo, ag, ao, p2, p3, p4, o2, o3, o4]
    refine lpH 9 [] 2000 [] (fun a : List FV × Nat => a.1.length) (fun a => wl.drop a.2 = a.1 ∧ a.2 ≤ wl.length ∧ 1 ≤ a.2) (fun a ρ h' => ρ 10 = .fv (.int a.2) ∧ h'.y = some ((loopG c lost (a.1.map FV.toL) l all a.2).map item ++ R) ∧ h'.gen 1000000000 = 0) (wl.drop next, next) ⟨rfl, nx4, nx⟩ ?_ ?_
    · simp -implicitDefEqProofs only [go_sem, simprocAttr, hy, own1, hb, gy]
    · rintro ⟨xs, k⟩ ρ k' ⟨ed, kl, km⟩ ⟨r10, hy', gy'⟩
      dsimp only at ed kl km r10 hy'
      cases xs with
      | nil =>
        have hk : ¬ (k : Int) < (wl.length : Nat) := by have := drop_end ed; omega
        simp -implicitDefEqProofs only [go_sem, simprocAttr, r10, p2, p3, o2, lenV_ls hW, hk]
        simp -implicitDefEqProofs only [go_sem, simprocAttr, resLV, YR, hy', gy', loopG]
      | cons x xs =>
        obtain ⟨d1, d2, d3, d4⟩ := drop_tail ed
        have hk : (k : Int) < (wl.length : Nat) := by omega
        have hw' : IntKind.i64.wrap ((k : Int) + 1) = ((k + 1 : Nat) : Int) := wr _ (by omega) (by omega)
        obtain ⟨xl, hxl, lxl, bxl⟩ := hw x d4
        have hcx : x.cells = [x] := ls_cells hxl
        rw [List.map_cons, loopG, toL_ls hxl] at hy'
        simp -implicitDefEqProofs only [go_sem, simprocAttr, r10, p2, o2, lenV_ls hW, hk, ag, ao]
        refine call0 [] true (t66 (f := false) (l := all) (by omega)) (by simp -implicitDefEqProofs only [go_sem, simprocAttr, ag, ao]) (.inr (by simp [RV.shallow, RC.shallow, ints, FV.shallow])) ?_
        simp -implicitDefEqProofs only [go_sem, simprocAttr, p2, o2, r10, index_ls hW idx_25 d2 (by rw [hcx]; rfl), hcx, lenV_ls hxl]
        refine lpL (β := List Int) 44 [12, 13] 2500 [2037] xl (by omega) (fun ns j mo => addI ns j mo = addI xl 0 all ∧ mo.length = all.length ∧ ∀ i, 0 ≤ i → 0 ≤ gI mo i ∧ gI mo i ≤ 5 + 5 * (j : Int))
          (fun j mo ρ2 h2 => ρ2 44 = .fv (.int j) ∧ h2.gen 2037 = k'.gen 2037 + 1 ∧ h2.obj 2037 = some (.list 3 1 false false (ints mo)) ∧ h2.y = k'.y ∧ h2.gen 1000000000 = 0) all ⟨rfl, rfl, ?_⟩ ?_ ?_ ?_
        · intro i hi
          rcases Int.lt_or_le i all.length with hlt | hge
          · have := ab _ (List.mem_of_getElem? (gI_get hi hlt))
            omega
          · rw [gI_nil_ge hge]; omega
        · simp -implicitDefEqProofs only [go_sem, simprocAttr, gy']
        · rintro mo ρ2 h2 ⟨e2, lm, bm⟩ ⟨r44, gG, oG, hy2, gy2⟩
          simp only [addI] at e2
          subst e2
          have bm' : ∀ n ∈ addI xl 0 all, 0 ≤ n ∧ n ≤ 10 := addI_ok (m := 5) (by omega) bxl (by omega) ab
          have hyN : k'.y = some ((own1 c lost (l ++ [(k : Int)]) (addI xl 0 all) ++ loopG c lost ((wl.drop (k + 1)).map FV.toL) (l ++ [(k : Int)]) (addI xl 0 all) (k + 1)).map item ++ ((loopG c lost (xs.map FV.toL) l all (k + 1)).map item ++ R)) := by
            rw [hy', d1]; simp [List.append_assoc]
          simp -implicitDefEqProofs only [go_sem, simprocAttr, r44]
          refine W_opsD _ _ _ (Vs [[], [], [], [], [2061], [2062]]) ?_ ?_
          · decide
          simp -implicitDefEqProofs only [go_sem, simprocAttr, p4, o4, r10]
          refine callD [] false [.fo (.list false (ints l))] [] (t95 (by omega)) ⟨by simp -implicitDefEqProofs only [go_sem, simprocAttr, lg, lo], trivial⟩ rfl (.inl rfl) ?_
          simp -implicitDefEqProofs only [go_sem, simprocAttr, r10]
          refine app_full idx_26 (by decide) (by simp -implicitDefEqProofs only [go_sem, simprocAttr]; rfl) (by simp) (fun x hx => (ints_elem l x hx).1) (by simp [FV.cells]) (by simp -implicitDefEqProofs only [go_sem, simprocAttr]) (by simp [byt_3, ints]; omega) (by simp [maxLen, ints]; omega) ?_
          simp -implicitDefEqProofs only [go_sem, simprocAttr, r10, hw', p4, o4, gG, List.isEmpty]
          refine callIH 3000 [2062] (a93_2 E0 (l := l ++ [(k : Int)]) (all := addI xl 0 all) (next := k + 1) (lost := lost) (hs := hs) (al := al) (R := (loopG c lost (xs.map FV.toL) l all (k + 1)).map item ++ R) ⟨by simp -implicitDefEqProofs only [go_sem, simprocAttr, p2], by simp -implicitDefEqProofs only [go_sem, simprocAttr, p3], by simp -implicitDefEqProofs only [go_sem, simprocAttr, p4], by simp -implicitDefEqProofs only [go_sem, simprocAttr, gy2], by simp -implicitDefEqProofs only [go_sem, simprocAttr, o2], by simp -implicitDefEqProofs only [go_sem, simprocAttr, o3], by simp -implicitDefEqProofs only [go_sem, simprocAttr, o4]⟩ (by simp [hl]) (by simp -implicitDefEqProofs only [go_sem, simprocAttr]) (by simp -implicitDefEqProofs only [go_sem, simprocAttr, ints, List.map_append]) (by simp -implicitDefEqProofs only [go_sem, simprocAttr, gG]) (by simp -implicitDefEqProofs only [go_sem, simprocAttr, oG]) (by omega) bm' (by omega) (by omega) (by simp -implicitDefEqProofs only [go_sem, simprocAttr, hy2, hyN])) (ex_YR (by simp -implicitDefEqProofs only [go_sem, simprocAttr, gy2]) _) ?_
          rintro lv h3 ⟨gy3, ⟨rfl, hy3⟩ | ⟨rfl, hy3⟩⟩
          · simp -implicitDefEqProofs only [go_sem, simprocAttr, Kl_eq, r10, hw']
            refine nxt (xs, k + 1) (Nat.lt_succ_self _) ⟨d1, d3, by dsimp only; omega⟩ ?_
            simp -implicitDefEqProofs only [go_sem, simprocAttr, hy3, gy3]
          · simp -implicitDefEqProofs only [go_sem, simprocAttr, Kl_eq]
            simp -implicitDefEqProofs only [go_sem, simprocAttr, resLV, YR, gy3, hy3]
        · rintro n ns j mo ρ2 h2 hx2 hj hm2 hj' hwj ⟨e2, lm, bm⟩ ⟨r44, gG, oG, hy2, gy2⟩
          have hn := bxl n hm2
          have jm : (j : Int) < (mo.length : Nat) := by omega
          have gj : (ints mo)[j]? = some (.int (gI mo (j : Int))) := by have := ints_get (l := mo) (i := (j : Int)) (by omega) jm; simpa using this
          have hbj := bm (j : Int) (by omega)
          have w1 : IntKind.i64.wrap (gI mo (j : Int) + n) = gI mo (j : Int) + n := wr _ (by omega) (by omega)
          simp -implicitDefEqProofs only [go_sem, simprocAttr, r44, hj', index_map hxl idx_26 hx2 rfl, gG, oG, jm, gj, w1]
          refine sto_elem (by rfl) (by rfl) (by rfl) (by simp -implicitDefEqProofs only [go_sem, simprocAttr, gG, oG]; rfl) gj (by decide) ?_
          simp -implicitDefEqProofs only [go_sem, simprocAttr, r44, hwj, FV.withCells, ints_set]
          refine nxtL (mo.set j (gI mo (j : Int) + n)) ⟨by rw [← e2]; rfl, by simpa using lm, ?_⟩ ?_
          · intro i hi
            have := gI_set (p := mo) (i := i) (j := (j : Int)) (v := gI mo (j : Int) + n) (by omega) jm hi
            simp only [Int.toNat_natCast] at this
            rw [this]
            have := bm i hi
            push_cast
            split <;> omega
          · simp -implicitDefEqProofs only [go_sem, simprocAttr, gG, hy2, gy2]
  · simp -implicitDefEqProofs only [go_sem, simprocAttr, lg, lo, ag, ao, p2, p3, p4, o2, o3, o4]
    refine callY [.list false (ints l)] ((loopG c lost ((wl.drop next).map FV.toL) l all next).map item ++ R) (by simp -implicitDefEqProofs only [go_sem, simprocAttr, yN, gy]) (by simp -implicitDefEqProofs only [go_sem, simprocAttr, lg, lo]) (by simp -implicitDefEqProofs only [go_sem, simprocAttr, hy, own1, hb, List.map_cons, List.map_append]; rfl) ?_ ?_
    · simp -implicitDefEqProofs only [go_sem, simprocAttr]
      refine lpH 9 [] 2000 [] (fun a : List FV × Nat => a.1.length) (fun a => wl.drop a.2 = a.1 ∧ a.2 ≤ wl.length ∧ 1 ≤ a.2) (fun a ρ h' => ρ 10 = .fv (.int a.2) ∧ h'.y = some ((loopG c lost (a.1.map FV.toL) l all a.2).map item ++ R) ∧ h'.gen 1000000000 = 0) (wl.drop next, next) ⟨rfl, nx4, nx⟩ ?_ ?_
      · simp -implicitDefEqProofs only [go_sem, simprocAttr, hy, own1, hb, gy]
      · rintro ⟨xs, k⟩ ρ k' ⟨ed, kl, km⟩ ⟨r10, hy', gy'⟩
        dsimp only at ed kl km r10 hy'
        cases xs with
        | nil =>
          have hk : ¬ (k : Int) < (wl.length : Nat) := by have := drop_end ed; omega
          simp -implicitDefEqProofs only [go_sem, simprocAttr, r10, p2, p3, o2, lenV_ls hW, hk]
          simp -implicitDefEqProofs only [go_sem, simprocAttr, resLV, YR, hy', gy', loopG]
        | cons x xs =>
          obtain ⟨d1, d2, d3, d4⟩ := drop_tail ed
          have hk : (k : Int) < (wl.length : Nat) := by omega
          have hw' : IntKind.i64.wrap ((k : Int) + 1) = ((k + 1 : Nat) : Int) := wr _ (by omega) (by omega)
          obtain ⟨xl, hxl, lxl, bxl⟩ := hw x d4
          have hcx : x.cells = [x] := ls_cells hxl
          rw [List.map_cons, loopG, toL_ls hxl] at hy'
          simp -implicitDefEqProofs only [go_sem, simprocAttr, r10, p2, o2, lenV_ls hW, hk, ag, ao]
          refine call0 [] true (t66 (f := false) (l := all) (by omega)) (by simp -implicitDefEqProofs only [go_sem, simprocAttr, ag, ao]) (.inr (by simp [RV.shallow, RC.shallow, ints, FV.shallow])) ?_
          simp -implicitDefEqProofs only [go_sem, simprocAttr, p2, o2, r10, index_ls hW idx_25 d2 (by rw [hcx]; rfl), hcx, lenV_ls hxl]
          refine lpL (β := List Int) 44 [12, 13] 2500 [2037] xl (by omega) (fun ns j mo => addI ns j mo = addI xl 0 all ∧ mo.length = all.length ∧ ∀ i, 0 ≤ i → 0 ≤ gI mo i ∧ gI mo i ≤ 5 + 5 * (j : Int))
            (fun j mo ρ2 h2 => ρ2 44 = .fv (.int j) ∧ h2.gen 2037 = k'.gen 2037 + 1 ∧ h2.obj 2037 = some (.list 3 1 false false (ints mo)) ∧ h2.y = k'.y ∧ h2.gen 1000000000 = 0) all ⟨rfl, rfl, ?_⟩ ?_ ?_ ?_
          · intro i hi
            rcases Int.lt_or_le i all.length with hlt | hge
            · have := ab _ (List.mem_of_getElem? (gI_get hi hlt))
              omega
            · rw [gI_nil_ge hge]; omega
          · simp -implicitDefEqProofs only [go_sem, simprocAttr, gy']
          · rintro mo ρ2 h2 ⟨e2, lm, bm⟩ ⟨r44, gG, oG, hy2, gy2⟩
            simp only [addI] at e2
            subst e2
            have bm' : ∀ n ∈ addI xl 0 all, 0 ≤ n ∧ n ≤ 10 := addI_ok (m := 5) (by omega) bxl (by omega) ab
            have hyN : k'.y = some ((own1 c lost (l ++ [(k : Int)]) (addI xl 0 all) ++ loopG c lost ((wl.drop (k + 1)).map FV.toL) (l ++ [(k : Int)]) (addI xl 0 all) (k + 1)).map item ++ ((loopG c lost (xs.map FV.toL) l all (k + 1)).map item ++ R)) := by
              rw [hy', d1]; simp [List.append_assoc]
            simp -implicitDefEqProofs only [go_sem, simprocAttr, r44]
            refine W_opsD _ _ _ (Vs [[], [], [], [], [2061], [2062]]) ?_ ?_
            · decide
            simp -implicitDefEqProofs only [go_sem, simprocAttr, p4, o4, r10]
            refine callD [] false [.fo (.list false (ints l))] [] (t95 (by omega)) ⟨by simp -implicitDefEqProofs only [go_sem, simprocAttr, lg, lo], trivial⟩ rfl (.inl rfl) ?_
            simp -implicitDefEqProofs only [go_sem, simprocAttr, r10]
            refine app_full idx_26 (by decide) (by simp -implicitDefEqProofs only [go_sem, simprocAttr]; rfl) (by simp) (fun x hx => (ints_elem l x hx).1) (by simp [FV.cells]) (by simp -implicitDefEqProofs only [go_sem, simprocAttr]) (by simp [byt_3, ints]; omega) (by simp [maxLen, ints]; omega) ?_
            simp -implicitDefEqProofs only [go_sem, simprocAttr, r10, hw', p4, o4, gG, List.isEmpty]
            refine callIH 3000 [2062] (a93_2 E0 (l := l ++ [(k : Int)]) (all := addI xl 0 all) (next := k + 1) (lost := lost) (hs := hs) (al := al) (R := (loopG c lost (xs.map FV.toL) l all (k + 1)).map item ++ R) ⟨by simp -implicitDefEqProofs only [go_sem, simprocAttr, p2], by simp -implicitDefEqProofs only [go_sem, simprocAttr, p3], by simp -implicitDefEqProofs only [go_sem, simprocAttr, p4], by simp -implicitDefEqProofs only [go_sem, simprocAttr, gy2], by simp -implicitDefEqProofs only [go_sem, simprocAttr, o2], by simp -implicitDefEqProofs only [go_sem, simprocAttr, o3], by simp -implicitDefEqProofs only [go_sem, simprocAttr, o4]⟩ (by simp [hl]) (by simp -implicitDefEqProofs only [go_sem, simprocAttr]) (by simp -implicitDefEqProofs only [go_sem, simprocAttr, ints, List.map_append]) (by simp -implicitDefEqProofs only [go_sem, simprocAttr, gG]) (by simp -implicitDefEqProofs only [go_sem, simprocAttr, oG]) (by omega) bm' (by omega) (by omega) (by simp -implicitDefEqProofs only [go_sem, simprocAttr, hy2, hyN])) (ex_YR (by simp -implicitDefEqProofs only [go_sem, simprocAttr, gy2]) _) ?_
            rintro lv h3 ⟨gy3, ⟨rfl, hy3⟩ | ⟨rfl, hy3⟩⟩
            · simp -implicitDefEqProofs only [go_sem, simprocAttr, Kl_eq, r10, hw']
              refine nxt (xs, k + 1) (Nat.lt_succ_self _) ⟨d1, d3, by dsimp only; omega⟩ ?_
              simp -implicitDefEqProofs only [go_sem, simprocAttr, hy3, gy3]
            · simp -implicitDefEqProofs only [go_sem, simprocAttr, Kl_eq]
              simp -implicitDefEqProofs only [go_sem, simprocAttr, resLV, YR, gy3, hy3]
          · rintro n ns j mo ρ2 h2 hx2 hj hm2 hj' hwj ⟨e2, lm, bm⟩ ⟨r44, gG, oG, hy2, gy2⟩
            have hn := bxl n hm2
            have jm : (j : Int) < (mo.length : Nat) := by omega
            have gj : (ints mo)[j]? = some (.int (gI mo (j : Int))) := by have := ints_get (l := mo) (i := (j : Int)) (by omega) jm; simpa using this
            have hbj := bm (j : Int) (by omega)
            have w1 : IntKind.i64.wrap (gI mo (j : Int) + n) = gI mo (j : Int) + n := wr _ (by omega) (by omega)
            simp -implicitDefEqProofs only [go_sem, simprocAttr, r44, hj', index_map hxl idx_26 hx2 rfl, gG, oG, jm, gj, w1]
            refine sto_elem (by rfl) (by rfl) (by rfl) (by simp -implicitDefEqProofs only [go_sem, simprocAttr, gG, oG]; rfl) gj (by decide) ?_
            simp -implicitDefEqProofs only [go_sem, simprocAttr, r44, hwj, FV.withCells, ints_set]
            refine nxtL (mo.set j (gI mo (j : Int) + n)) ⟨by rw [← e2]; rfl, by simpa using lm, ?_⟩ ?_
            · intro i hi
              have := gI_set (p := mo) (i := i) (j := (j : Int)) (v := gI mo (j : Int) + n) (by omega) jm hi
              simp only [Int.toNat_natCast] at this
              rw [this]
              have := bm i hi
              push_cast
              split <;> omega
            · simp -implicitDefEqProofs only [go_sem, simprocAttr, gG, hy2, gy2]
    · simp -implicitDefEqProofs only [go_sem, simprocAttr, resLV, YR, gy]
theorem a93_0 {q : Al} {hs al sW sc : FV} {c : List Int} {wl : List FV} {lost : Int} (E : Env q sW sc c wl) {all : List Int} {next g2 : Nat} {R : List (List FV)} {h : AH} (p : PH q hs al sW sc lost h)
    (ag : h.gen 13 = g2) (ao : h.obj 13 = some (.list 3 1 false false (ints all))) (la : all.length = c.length) (ab : ∀ n ∈ all, 0 ≤ n ∧ n ≤ 0)
    (nx : 0 ≤ next) (nx4 : next ≤ wl.length) (hy : h.y = some ((loopG c lost ((wl.drop next).map FV.toL) [] all next).map item ++ R)) :
    AC Q 93 [.fv .nil, .gl 13 g2, .fv (.int next), .ptr 2 1 0, .ptr 3 1 0, .ptr 4 1 0] h fun lv h' => OffH 1000 [] h h' ∧ YR R lv h' := by
  have p0 := p
  have E0 := E
  obtain ⟨hW, hw, l4, h1, l8, hc⟩ := E
  obtain ⟨p2, p3, p4, gy, o2, o3, o4⟩ := p
  have ow := ls_one hW
  have oc := ls_one h1
  refine ac_intro (nb := 1000) Go.Proofs.Try.func93 rfl (by kernel_rfl) mix (k93 1000) (Nat.le_of_ble_eq_true (by kernel_rfl)) ?_
  refine Abs.walk ?_
  dsimp only [c93, sop, gop, nop, qmv, qsg, qex, qld, qcl, qln, qix, qbo, qt, qi]
  simp -implicitDefEqProofs only [go_sem, simprocAttr, ag, ao, p2, p3, p4, o2, o3, o4]
  refine lpH 9 [] 1000 [] (fun a : List FV × Nat => a.1.length) (fun a => wl.drop a.2 = a.1 ∧ a.2 ≤ wl.length ∧ 0 ≤ a.2) (fun a ρ h' => ρ 10 = .fv (.int a.2) ∧ h'.y = some ((loopG c lost (a.1.map FV.toL) [] all a.2).map item ++ R) ∧ h'.gen 1000000000 = 0) (wl.drop next, next) ⟨rfl, nx4, nx⟩ ?_ ?_
  · simp -implicitDefEqProofs only [go_sem, simprocAttr, hy, gy]
  · rintro ⟨xs, k⟩ ρ k' ⟨ed, kl, km⟩ ⟨r10, hy', gy'⟩
    dsimp only at ed kl km r10 hy'
    cases xs with
    | nil =>
      have hk : ¬ (k : Int) < (wl.length : Nat) := by have := drop_end ed; omega
      simp -implicitDefEqProofs only [go_sem, simprocAttr, r10, p2, p3, o2, lenV_ls hW, hk]
      simp -implicitDefEqProofs only [go_sem, simprocAttr, resLV, YR, hy', gy', loopG]
    | cons x xs =>
      obtain ⟨d1, d2, d3, d4⟩ := drop_tail ed
      have hk : (k : Int) < (wl.length : Nat) := by omega
      have hw' : IntKind.i64.wrap ((k : Int) + 1) = ((k + 1 : Nat) : Int) := wr _ (by omega) (by omega)
      obtain ⟨xl, hxl, lxl, bxl⟩ := hw x d4
      have hcx : x.cells = [x] := ls_cells hxl
      rw [List.map_cons, loopG, toL_ls hxl] at hy'
      simp -implicitDefEqProofs only [go_sem, simprocAttr, r10, p2, o2, lenV_ls hW, hk, ag, ao]
      refine call0 [] true (t66 (f := false) (l := all) (by omega)) (by simp -implicitDefEqProofs only [go_sem, simprocAttr, ag, ao]) (.inr (by simp [RV.shallow, RC.shallow, ints, FV.shallow])) ?_
      simp -implicitDefEqProofs only [go_sem, simprocAttr, p2, o2, r10, index_ls hW idx_25 d2 (by rw [hcx]; rfl), hcx, lenV_ls hxl]
      refine lpL (β := List Int) 44 [12, 13] 1500 [1037] xl (by omega) (fun ns j mo => addI ns j mo = addI xl 0 all ∧ mo.length = all.length ∧ ∀ i, 0 ≤ i → 0 ≤ gI mo i ∧ gI mo i ≤ 0 + 5 * (j : Int))
        (fun j mo ρ2 h2 => ρ2 44 = .fv (.int j) ∧ h2.gen 1037 = k'.gen 1037 + 1 ∧ h2.obj 1037 = some (.list 3 1 false false (ints mo)) ∧ h2.y = k'.y ∧ h2.gen 1000000000 = 0) all ⟨rfl, rfl, ?_⟩ ?_ ?_ ?_
      · intro i hi
        rcases Int.lt_or_le i all.length with hlt | hge
        · have := ab _ (List.mem_of_getElem? (gI_get hi hlt))
          omega
        · rw [gI_nil_ge hge]; omega
      · simp -implicitDefEqProofs only [go_sem, simprocAttr, gy']
      · rintro mo ρ2 h2 ⟨e2, lm, bm⟩ ⟨r44, gG, oG, hy2, gy2⟩
        simp only [addI] at e2
        subst e2
        have bm' : ∀ n ∈ addI xl 0 all, 0 ≤ n ∧ n ≤ 5 := addI_ok (m := 0) (by omega) bxl (by omega) ab
        have hyN : k'.y = some ((own1 c lost ([] ++ [(k : Int)]) (addI xl 0 all) ++ loopG c lost ((wl.drop (k + 1)).map FV.toL) ([] ++ [(k : Int)]) (addI xl 0 all) (k + 1)).map item ++ ((loopG c lost (xs.map FV.toL) [] all (k + 1)).map item ++ R)) := by
          rw [hy', d1]; simp [List.append_assoc]
        simp -implicitDefEqProofs only [go_sem, simprocAttr, r44]
        refine W_opsD _ _ _ (Vs [[], [], [], [], [1061], [1062]]) ?_ ?_
        · decide
        simp -implicitDefEqProofs only [go_sem, simprocAttr, p4, o4, r10]
        refine callD [] false [.fo .nil] [] t95n ⟨rfl, trivial⟩ rfl (.inl rfl) ?_
        simp -implicitDefEqProofs only [go_sem, simprocAttr, r10]
        refine app_nil idx_26 (by decide) (by simp -implicitDefEqProofs only [go_sem, simprocAttr]; rfl) (by simp [FV.cells]) (by simp -implicitDefEqProofs only [go_sem, simprocAttr]) (by simp [byt_3]) (by simp [maxLen]) ?_
        simp -implicitDefEqProofs only [go_sem, simprocAttr, r10, hw', p4, o4, gG, List.isEmpty]
        refine callIH 2000 [1062] (a93_1 E0 (l := [(k : Int)]) (all := addI xl 0 all) (next := k + 1) (lost := lost) (hs := hs) (al := al) (R := (loopG c lost (xs.map FV.toL) [] all (k + 1)).map item ++ R) ⟨by simp -implicitDefEqProofs only [go_sem, simprocAttr, p2], by simp -implicitDefEqProofs only [go_sem, simprocAttr, p3], by simp -implicitDefEqProofs only [go_sem, simprocAttr, p4], by simp -implicitDefEqProofs only [go_sem, simprocAttr, gy2], by simp -implicitDefEqProofs only [go_sem, simprocAttr, o2], by simp -implicitDefEqProofs only [go_sem, simprocAttr, o3], by simp -implicitDefEqProofs only [go_sem, simprocAttr, o4]⟩ (by simp) (by simp -implicitDefEqProofs only [go_sem, simprocAttr]) (by simp -implicitDefEqProofs only [go_sem, simprocAttr, ints, List.map_append]) (by simp -implicitDefEqProofs only [go_sem, simprocAttr, gG]) (by simp -implicitDefEqProofs only [go_sem, simprocAttr, oG]) (by omega) bm' (by omega) (by omega) (by simp -implicitDefEqProofs only [go_sem, simprocAttr, hy2, hyN, List.nil_append])) (ex_YR (by simp -implicitDefEqProofs only [go_sem, simprocAttr, gy2]) _) ?_
        rintro lv h3 ⟨gy3, ⟨rfl, hy3⟩ | ⟨rfl, hy3⟩⟩
        · simp -implicitDefEqProofs only [go_sem, simprocAttr, Kl_eq, r10, hw']
          refine nxt (xs, k + 1) (Nat.lt_succ_self _) ⟨d1, d3, by dsimp only; omega⟩ ?_
          simp -implicitDefEqProofs only [go_sem, simprocAttr, hy3, gy3]
        · simp -implicitDefEqProofs only [go_sem, simprocAttr, Kl_eq]
          simp -implicitDefEqProofs only [go_sem, simprocAttr, resLV, YR, gy3, hy3]
      · rintro n ns j mo ρ2 h2 hx2 hj hm2 hj' hwj ⟨e2, lm, bm⟩ ⟨r44, gG, oG, hy2, gy2⟩
        have hn := bxl n hm2
        have jm : (j : Int) < (mo.length : Nat) := by omega
        have gj : (ints mo)[j]? = some (.int (gI mo (j : Int))) := by have := ints_get (l := mo) (i := (j : Int)) (by omega) jm; simpa using this
        have hbj := bm (j : Int) (by omega)
        have w1 : IntKind.i64.wrap (gI mo (j : Int) + n) = gI mo (j : Int) + n := wr _ (by omega) (by omega)
        simp -implicitDefEqProofs only [go_sem, simprocAttr, r44, hj', index_map hxl idx_26 hx2 rfl, gG, oG, jm, gj, w1]
        refine sto_elem (by rfl) (by rfl) (by rfl) (by simp -implicitDefEqProofs only [go_sem, simprocAttr, gG, oG]; rfl) gj (by decide) ?_
        simp -implicitDefEqProofs only [go_sem, simprocAttr, r44, hwj, FV.withCells, ints_set]
        refine nxtL (mo.set j (gI mo (j : Int) + n)) ⟨by rw [← e2]; rfl, by simpa using lm, ?_⟩ ?_
        · intro i hi
          have := gI_set (p := mo) (i := i) (j := (j : Int)) (v := gI mo (j : Int) + n) (by omega) jm hi
          simp only [Int.toNat_natCast] at this
          rw [this]
          have := bm i hi
          push_cast
          split <;> omega
        · simp -implicitDefEqProofs only [go_sem, simprocAttr, gG, hy2, gy2]
end S07

