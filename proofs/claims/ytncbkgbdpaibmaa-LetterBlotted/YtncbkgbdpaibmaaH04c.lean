/- A part of the proof: H04c. -/
import Derived.Test.YtncbkgbdpaibmaaH04b
set_option linter.unusedVariables false
set_option linter.unusedSimpArgs false
set_option maxRecDepth 20000
namespace S04
open Go Abs
theorem a104 {c : Cs} {sw sp sb : FV} {bl w : List Int} {lo hi gaps : Int} {g N : Nat} {can : List Bool} {h : AH} (v : CV c sw sp) (ok : c.Ok) (hb : lsOf sb = some (ints bl)) (H : RH c sw sp sb w can g h) (hb2 : bl.length ≤ 2) (hbx : ∀ x ∈ bl, 0 ≤ x ∧ x < N) (G : Good c bl 0 N w) (N7 : N ≤ 7) (g0 : 0 ≤ gaps) (g1 : gaps ≤ 10000) :
    AC Q 104 [.ptr 72 1 0, .gl 75 g, .fv (.int 0), .fv (.int gaps), .fv (.agg [.int lo, .int hi])] h fun lv h' => OffH 1000 [72, 75] h h' ∧ lv = .fv (.bool (c.read bl lo hi gaps bl.length 0 w can).1) ∧ RH c sw sp sb (c.read bl lo hi gaps bl.length 0 w can).2.1 (c.read bl lo hi gaps bl.length 0 w can).2.2 g h' := by
  rcases (show bl.length = 0 ∨ bl.length = 1 ∨ bl.length = 2 by omega) with e | e | e
  · have := a104_0_1000 (lo := lo) (hi := hi) (at' := 0) v ok hb H (by omega) hb2 hbx G N7 g0 g1
    rw [e]; exact this
  · have := a104_1_1000 (lo := lo) (hi := hi) (at' := 0) v ok hb H (by omega) hb2 hbx G N7 g0 g1
    rw [e]; exact this
  · have := a104_2_1000 (lo := lo) (hi := hi) (at' := 0) v ok hb H (by omega) hb2 hbx G N7 g0 g1
    rw [e]; exact this
theorem unFV_bools (l : List Bool) : unFV (l.map bF) = some (l.map .bool) := by
  induction l with
  | nil => rfl
  | cons x xs ih => simp only [List.map_cons, unFV, ih]; rfl
theorem bools_load {l : List Bool} (h : 8 ≤ l.length) : partL true 8 (l.map bF) = some (.fv (.agg ((l.take 8).map .bool))) := by
  cases l with
  | nil => simp at h
  | cons x xs =>
    have h2 := unFV_bools ((x :: xs).take 8)
    rw [List.map_cons, partL_agg, if_pos (by simpa using h), ← List.map_cons, ← List.map_take]
    unfold mkAgg
    rw [h2]
def canR (can : List Bool) (i : Nat) : List Bool := (can.drop (i * 8)).take 8
section
variable {a0 a1 a2 a3 a4 a5 a6 : LV} {can : List Bool} {i : Nat}
theorem can_load (hl : can.length = 16) (hi : i < 2) : partL true 8 (List.drop (7 + i * 8) (a0 :: a1 :: a2 :: a3 :: a4 :: a5 :: a6 :: can.map bF)) = some (.fv (.agg ((canR can i).map .bool))) := by
  rw [show 7 + i * 8 = i * 8 + 1 + 1 + 1 + 1 + 1 + 1 + 1 by omega]
  simp only [List.drop_succ_cons]
  rw [← List.map_drop, bools_load (by simp; omega)]
  rfl
end
def chF : List Bool → Nat → List Int
  | [], _ => []
  | b :: bs, k => if b then (k : Int) :: chF bs (k + 1) else chF bs (k + 1)
theorem chF_len : ∀ (l : List Bool) (k : Nat), (chF l k).length ≤ l.length
  | [], _ => by simp [chF]
  | b :: bs, k => by
    have := chF_len bs (k + 1)
    unfold chF
    split <;> simp <;> omega
def canV (can : List Bool) : Nat → List (List Int)
  | 0 => []
  | n + 1 => canV can n ++ [chF (canR can n) 0]
def lnF (L : List (List Int)) : List FV := L.map fun l => lstN (ints l)
theorem canV_len (can : List Bool) : ∀ n, (canV can n).length = n
  | 0 => rfl
  | n + 1 => by simp [canV, canV_len can n]
def errQ (c : Cs) (w g : List Int) (lo hi : Int) : Int := if errC c ≠ 0 then errC c else if (isW c.W.length (-1) w && gapsB w.length g) = false then 4 else if 2 < (blF w 0).length then 8 else if (inB 1 400 lo && inB 1 400 hi) = false ∨ hi < lo then 3 else 0
def Cs.rd (c : Cs) (w g : List Int) (lo hi : Int) : Bool × List Int × List Bool := c.read (blF w 0) lo hi (sumI g) (blF w 0).length 0 w (List.replicate 16 false)
def errR (c : Cs) (w g : List Int) (lo hi : Int) : Int := if errQ c w g lo hi ≠ 0 then errQ c w g lo hi else if (c.rd w g lo hi).1 then 0 else 9
def rdV (c : Cs) (w g : List Int) (lo hi : Int) : FV := if errR c w g lo hi = 0 then lstN (lnF (canV (c.rd w g lo hi).2.2 (blF w 0).length)) else .nil
theorem blF_not : ∀ (w : List Int) (k : Nat) (i : Nat) (x : Int), w[i]? = some x → ((k + i : Nat) : Int) ∉ blF w k → x ≠ -1
  | [], k, i, x, h, _ => by simp at h
  | y :: w, k, 0, x, h, hn => by
    simp at h; subst h
    intro e
    apply hn
    simp [blF, e]
  | y :: w, k, i + 1, x, h, hn => by
    refine blF_not w (k + 1) i x (by simpa using h) fun hm => hn ?_
    rw [show k + (i + 1) = k + 1 + i by omega]
    unfold blF
    split
    · exact List.mem_cons_of_mem _ hm
    · exact hm
theorem u82b (a b : Int) : Fn Q 82 [.fo (.list false [.int a, .int b])] (.one (.fx (.bool (inB 1 400 a && inB 1 400 b)))) := by
  simpa using t82 (.list false [.int a, .int b]) [a, b] rfl (by simp)
theorem t47 {c : Cs} {sw sp s sg : FV} {w g : List Int} {lo hi : Int} (v : CV c sw sp) (hs : lsOf s = some (ints w)) (hl : w.length ≤ 1000000) (hg : lsOf sg = some (ints g)) (hgl : g.length ≤ 1000000) :
    Fn Q 47 [.fo (c.fv sw sp), .fo s, .fo sg, .fo (.agg [.int lo, .int hi])] (.tup [.fx (rdV c w g lo hi), .fx (.int (errR c w g lo hi))]) := by
  have o1 := ls_one v.w
  have o2 := ls_one v.p
  have hln : Lists .nil [] := ⟨[], rfl, rfl, by simp⟩
  have c73 := t73 v hln (by simp)
  have eO : errO c [] = errC c := by unfold errO; split <;> simp_all
  have c102 := t102 hs hl
  have c103 := t103 v (-1) hs (by omega)
  have c75 := t75 s sg w g hs hg (by omega) (by omega)
  have hbl := lsOf_lstN (ints (blF w 0))
  rw [eO] at c73
  have bo := ls_one hbl
  have bc := ls_lcells hbl
  by_cases e1 : errC c = 0
  · have ok := errC_ok e1
    rw [if_pos e1, e1] at c73
    cases e2 : isW c.W.length (-1) w
    · have eL : errR c w g lo hi = 4 := by simp [errR, errQ, e1, e2]
      refine w47 ?_
      dsimp only [c47, sop, gop, nop, qmv, qsg, qex, qld, qcl, qln, qix, qbo, qt, qi]
      simp -implicitDefEqProofs only [go_sem, simprocAttr, o1, o2]
      refine call1 [] false (c73) ?_
      simp -implicitDefEqProofs only [go_sem, simprocAttr, mapV, o1, o2]
      refine call1 [] false (c102) ?_
      simp -implicitDefEqProofs only [go_sem, simprocAttr, o1, o2]
      refine call1 [] false (c103) ?_
      simp -implicitDefEqProofs only [go_sem, simprocAttr, e2]
      refine ret_tup (fun _ => true) ?_ (by simp [ownNames])
      simp -implicitDefEqProofs only [go_sem, simprocAttr, rdV, eL]
    · cases e3 : gapsB w.length g
      · have eL : errR c w g lo hi = 4 := by simp [errR, errQ, e1, e2, e3]
        refine w47 ?_
        dsimp only [c47, sop, gop, nop, qmv, qsg, qex, qld, qcl, qln, qix, qbo, qt, qi]
        simp -implicitDefEqProofs only [go_sem, simprocAttr, o1, o2]
        refine call1 [] false (c73) ?_
        simp -implicitDefEqProofs only [go_sem, simprocAttr, mapV, o1, o2]
        refine call1 [] false (c102) ?_
        simp -implicitDefEqProofs only [go_sem, simprocAttr, o1, o2]
        refine call1 [] false (c103) ?_
        simp -implicitDefEqProofs only [go_sem, simprocAttr, e2]
        refine call1 [] false (c75) ?_
        simp -implicitDefEqProofs only [go_sem, simprocAttr, e3]
        refine ret_tup (fun _ => true) ?_ (by simp [ownNames])
        simp -implicitDefEqProofs only [go_sem, simprocAttr, rdV, eL]
      · by_cases e4 : 2 < (blF w 0).length
        · have eL : errR c w g lo hi = 8 := by simp [errR, errQ, e1, e2, e3, e4]
          have e4' : (2 : Int) < ((blF w 0).length : Nat) := by omega
          refine w47 ?_
          dsimp only [c47, sop, gop, nop, qmv, qsg, qex, qld, qcl, qln, qix, qbo, qt, qi]
          simp -implicitDefEqProofs only [go_sem, simprocAttr, o1, o2]
          refine call1 [] false (c73) ?_
          simp -implicitDefEqProofs only [go_sem, simprocAttr, mapV, o1, o2]
          refine call1 [] false (c102) ?_
          simp -implicitDefEqProofs only [go_sem, simprocAttr, o1, o2]
          refine call1 [] false (c103) ?_
          simp -implicitDefEqProofs only [go_sem, simprocAttr, e2]
          refine call1 [] false (c75) ?_
          simp -implicitDefEqProofs only [go_sem, simprocAttr, e3, lenV_ls hbl, ints_length, e4']
          refine ret_tup (fun _ => true) ?_ (by simp [ownNames])
          simp -implicitDefEqProofs only [go_sem, simprocAttr, rdV, eL]
        · have e4' : ¬ (2 : Int) < ((blF w 0).length : Nat) := by omega
          cases e5 : inB 1 400 lo && inB 1 400 hi
          · have eL : errR c w g lo hi = 3 := by simp only [errR, errQ, e1, e2, e3, if_neg e4, e5]; simp
            refine w47 ?_
            dsimp only [c47, sop, gop, nop, qmv, qsg, qex, qld, qcl, qln, qix, qbo, qt, qi]
            simp -implicitDefEqProofs only [go_sem, simprocAttr, o1, o2]
            refine call1 [] false (c73) ?_
            simp -implicitDefEqProofs only [go_sem, simprocAttr, mapV, o1, o2]
            refine call1 [] false (c102) ?_
            simp -implicitDefEqProofs only [go_sem, simprocAttr, o1, o2]
            refine call1 [] false (c103) ?_
            simp -implicitDefEqProofs only [go_sem, simprocAttr, e2]
            refine call1 [] false (c75) ?_
            simp -implicitDefEqProofs only [go_sem, simprocAttr, e3, lenV_ls hbl, ints_length, e4']
            refine call1 [] true (u82b lo hi) ?_
            simp -implicitDefEqProofs only [go_sem, simprocAttr, e5]
            refine ret_tup (fun _ => true) ?_ (by simp [ownNames])
            simp -implicitDefEqProofs only [go_sem, simprocAttr, rdV, eL]
          · by_cases e6 : hi < lo
            · have eL : errR c w g lo hi = 3 := by simp only [errR, errQ, e1, e2, e3, if_neg e4, e5, e6]; simp
              refine w47 ?_
              dsimp only [c47, sop, gop, nop, qmv, qsg, qex, qld, qcl, qln, qix, qbo, qt, qi]
              simp -implicitDefEqProofs only [go_sem, simprocAttr, o1, o2]
              refine call1 [] false (c73) ?_
              simp -implicitDefEqProofs only [go_sem, simprocAttr, mapV, o1, o2]
              refine call1 [] false (c102) ?_
              simp -implicitDefEqProofs only [go_sem, simprocAttr, o1, o2]
              refine call1 [] false (c103) ?_
              simp -implicitDefEqProofs only [go_sem, simprocAttr, e2]
              refine call1 [] false (c75) ?_
              simp -implicitDefEqProofs only [go_sem, simprocAttr, e3, lenV_ls hbl, ints_length, e4']
              refine call1 [] true (u82b lo hi) ?_
              simp -implicitDefEqProofs only [go_sem, simprocAttr, e5, e6]
              refine ret_tup (fun _ => true) ?_ (by simp [ownNames])
              simp -implicitDefEqProofs only [go_sem, simprocAttr, rdV, eL]
            · have eQ : errQ c w g lo hi = 0 := by simp only [errQ, e1, e2, e3, if_neg e4, e5, e6]; simp
              obtain ⟨q1, q2, q3⟩ := isW_iff.1 e2
              obtain ⟨q4, q5⟩ := gapsB_ok e3
              have c105 := t105o hs (by omega) (by rintro rfl; simp at q1)
              have hbd := blF_bd w 0
              have hGood : Good c (blF w 0) 0 w.length w := ⟨rfl, fun i x hi hn => by
                have := blF_not w 0 i x hi (by simpa using hn)
                have := q3 x (List.mem_of_getElem? hi)
                omega⟩
              have gsum := sumI_bd (B := 400) g (fun x hx => by have := q5 x hx; omega)
              have gnn : ∀ (l : List Int), (∀ x ∈ l, 0 ≤ x ∧ x ≤ 400) → 0 ≤ sumI l := by
                intro l
                induction l with
                | nil => simp [sumI]
                | cons x l ih => intro h; have := h x (by simp); have := ih fun y hy => h y (by simp [hy]); simp only [sumI]; omega
              have gn := gnn g q5
              refine w47 ?_
              dsimp only [c47, sop, gop, nop, qmv, qsg, qex, qld, qcl, qln, qix, qbo, qt, qi]
              simp -implicitDefEqProofs only [go_sem, simprocAttr, o1, o2]
              refine call1 [] false (c73) ?_
              simp -implicitDefEqProofs only [go_sem, simprocAttr, mapV, o1, o2]
              refine call1 [] false (c102) ?_
              simp -implicitDefEqProofs only [go_sem, simprocAttr, o1, o2]
              refine call1 [] false (c103) ?_
              simp -implicitDefEqProofs only [go_sem, simprocAttr, e2]
              refine call1 [] false (c75) ?_
              simp -implicitDefEqProofs only [go_sem, simprocAttr, e3, lenV_ls hbl, ints_length, e4']
              refine call1 [] true (u82b lo hi) ?_
              simp -implicitDefEqProofs only [go_sem, simprocAttr, e5, e6, lenV_ls hg]
              refine lpL (β := Int) 61 [12, 14] 200 [] g (by omega) (fun xs k n => n + sumI xs = sumI g ∧ 0 ≤ n ∧ n ≤ 400 * (k : Int)) (fun k n ρ h => ρ 61 = .fv (.int (k : Nat)) ∧ ρ 12 = .fv (.int n)) 0 ⟨by simp, by simp, by simp⟩ ?_ ?_ ?_
              · simp -implicitDefEqProofs only [go_sem, simprocAttr]
              · rintro n ρ h ⟨e, _, _⟩ ⟨r61, r12⟩
                simp only [sumI, Int.add_zero] at e
                subst e
                simp -implicitDefEqProofs only [go_sem, simprocAttr, r61, r12, o1, o2, bo, bc]
                refine W_opsD _ _ _ (Vs [[], [], [75], [], [], [], []]) ?_ ?_
                · decide
                simp -implicitDefEqProofs only [go_sem, simprocAttr]
                refine callD [] false [.fo s] [] c105 ⟨rfl, trivial⟩ rfl (.inl rfl) ?_
                simp -implicitDefEqProofs only [go_sem, simprocAttr, r12]
                have hb2 : (blF w 0).length ≤ 2 := by omega
                have hrok := read_ok (c := c) (lo := lo) (hi := hi) (gaps := sumI g) (N := w.length) (bl := blF w 0) (fun x hx => by have := hbd.2 x hx; omega) (blF w 0).length 0 w (List.replicate 16 false) (by simp) hGood (by simp)
                refine callIH 1000 [72, 75] (a104 (w := w) (can := List.replicate 16 false) (lo := lo) (hi := hi) (gaps := sumI g) (N := w.length) (bl := blF w 0) (c := c) (sw := sw) (sp := sp) (sb := lstN (ints (blF w 0))) (g := 1) v ok hbl ⟨by simp -implicitDefEqProofs only [go_sem, simprocAttr], by simp -implicitDefEqProofs only [go_sem, simprocAttr] <;> rfl, by simp -implicitDefEqProofs only [go_sem, simprocAttr], by simp -implicitDefEqProofs only [go_sem, simprocAttr], by simp⟩ hb2 (fun x hx => by have := hbd.2 x hx; omega) hGood q2 gn (by omega)) (ex_RH (by simp -implicitDefEqProofs only [go_sem, simprocAttr]) (by simp -implicitDefEqProofs only [go_sem, simprocAttr]) hrok.2 rfl rfl) ?_
                rintro lv h3 ⟨rfl, ⟨s72, t72, s75, t75, lc2⟩⟩
                have eR : errR c w g lo hi = if (c.rd w g lo hi).1 then 0 else 9 := by simp [errR, eQ]
                have eV : rdV c w g lo hi = if (c.rd w g lo hi).1 then lstN (lnF (canV (c.rd w g lo hi).2.2 (blF w 0).length)) else .nil := by rw [rdV, eR]; cases (c.rd w g lo hi).1 <;> simp
                rw [eR, eV]
                rw [← Cs.rd] at *
                generalize c.rd w g lo hi = R at *
                obtain ⟨R1, R2, R3⟩ := R
                dsimp only at lc2 t72 t75
                cases R1
                · simp -implicitDefEqProofs only [go_sem, simprocAttr, Kl_eq]
                  refine ret_tup (fun _ => true) ?_ (by simp [ownNames])
                  simp -implicitDefEqProofs only [go_sem, simprocAttr]
                · simp -implicitDefEqProofs only [go_sem, simprocAttr, Kl_eq, lenV_ls hbl, ints_length]
                  refine lpH 82 [8, 16, 17, 18, 19] 84 [8, 17] (fun k : Nat => (blF w 0).length - k) (fun k => k ≤ (blF w 0).length) (fun k ρ h => ρ 82 = .fv (.int (k : Nat)) ∧ ρ 8 = .gl 8 (h.gen 8) ∧ h.obj 8 = some (.list 22 1 false (canV R3 k).isEmpty (lnF (canV R3 k)))) 0 (Nat.zero_le _) ?_ ?_
                  · simp -implicitDefEqProofs only [go_sem, simprocAttr]
                    rfl
                  · rintro k ρ2 h2 hk ⟨r82, r8, o8⟩
                    by_cases hkn : k < (blF w 0).length
                    · have hk' : (k : Int) < ((blF w 0).length : Nat) := by omega
                      have hwr : IntKind.i64.wrap ((k : Int) + 1) = ((k + 1 : Nat) : Int) := wr _ (by omega) (by omega)
                      have k2 : (k : Int) < 2 := by omega
                      have l8 : (canR R3 k).length = 8 := by unfold canR; simp; omega
                      have cl := canV_len R3 k
                      have hcl := chF_len (canR R3 k) 0
                      simp -implicitDefEqProofs only [go_sem, simprocAttr, r82, hk', s72, t72, k2, can_load lc2 (show k < 2 by omega)]
                      refine lpL (β := List Int) 91 [17, 18, 19] 93 [17] (canR R3 k) (by omega) (fun bs j acc => acc ++ chF bs j = chF (canR R3 k) 0 ∧ acc.length ≤ j) (fun j acc ρ h => ρ 91 = .fv (.int (j : Nat)) ∧ ρ 17 = .gl 17 (h.gen 17) ∧ h.obj 17 = some (.list 3 1 false acc.isEmpty (ints acc))) [] ⟨rfl, by simp⟩ ?_ ?_ ?_
                      · simp -implicitDefEqProofs only [go_sem, simprocAttr]
                        rfl
                      · rintro acc ρ3 h3' ⟨e, _⟩ ⟨r91, r17, o17⟩
                        simp only [chF, List.append_nil] at e
                        have h8 : ¬ (((canR R3 k).length : Nat) : Int) < 8 := by omega
                        have o8' := o8
                        cases acc with
                        | nil =>
                          simp -implicitDefEqProofs only [go_sem, simprocAttr, r91, h8, r8, r17, o17, List.isEmpty, ints]
                          refine app_gl (by simp -implicitDefEqProofs only [go_sem, simprocAttr, o8]; rfl) idx_56 (by simp -implicitDefEqProofs only [go_sem, simprocAttr]; rfl) (by simp [FV.cells]) (by simp -implicitDefEqProofs only [go_sem, simprocAttr]) (by simp [byt_22, lnF]; omega) (by simp [maxLen, lnF]; omega) (by simp) ?_
                          simp -implicitDefEqProofs only [go_sem, simprocAttr, r82, hwr]
                          refine nxt (k + 1) (by omega) (by omega) ?_
                          rw [canV, ← e]
                          simp -implicitDefEqProofs only [go_sem, simprocAttr, lnF, List.map_append, List.isEmpty, lstN, ints]
                          cases canV R3 k <;> rfl
                        | cons a acc =>
                          simp -implicitDefEqProofs only [go_sem, simprocAttr, r91, h8, r8, r17, o17, List.isEmpty, ints]
                          refine app_gl (by simp -implicitDefEqProofs only [go_sem, simprocAttr, o8]; rfl) idx_56 (by simp -implicitDefEqProofs only [go_sem, simprocAttr]; rfl) (by simp [FV.cells]) (by simp -implicitDefEqProofs only [go_sem, simprocAttr]) (by simp [byt_22, lnF]; omega) (by simp [maxLen, lnF]; omega) (by simp) ?_
                          simp -implicitDefEqProofs only [go_sem, simprocAttr, r82, hwr]
                          refine nxt (k + 1) (by omega) (by omega) ?_
                          rw [canV, ← e]
                          simp -implicitDefEqProofs only [go_sem, simprocAttr, lnF, List.map_append, List.isEmpty, lstN, ints]
                          cases canV R3 k <;> rfl
                      · rintro b bs j acc ρ3 h3' hx hj hm hj' hjw ⟨e, la⟩ ⟨r91, r17, o17⟩
                        have j8 : (j : Int) < 8 := by omega
                        have hb : partF false 1 (List.drop j ((canR R3 k).map FV.bool)) = some (.fv (.bool b)) := partF_get (by simp [hx])
                        cases b
                        · simp -implicitDefEqProofs only [go_sem, simprocAttr, r91, j8, hb, hjw]
                          refine nxtL acc ⟨by rw [← e]; simp [chF], by omega⟩ ?_
                          simp -implicitDefEqProofs only [go_sem, simprocAttr, r17, o17]
                        · simp -implicitDefEqProofs only [go_sem, simprocAttr, r91, j8, hb, r17]
                          refine app_gl (by simp -implicitDefEqProofs only [go_sem, simprocAttr, o17]; rfl) idx_22 (by simp -implicitDefEqProofs only [go_sem, simprocAttr]; rfl) (by simp [FV.cells]) (by simp -implicitDefEqProofs only [go_sem, simprocAttr]) (by simp [byt_3, ints]; omega) (by simp [maxLen, ints]; omega) (by simp) ?_
                          simp -implicitDefEqProofs only [go_sem, simprocAttr, r91, hjw]
                          refine nxtL (acc ++ [(j : Int)]) ⟨by rw [← e]; simp [chF], by simp; omega⟩ ?_
                          simp -implicitDefEqProofs only [go_sem, simprocAttr, ints, List.map_append]
                          cases acc <;> rfl
                    · have hk' : ¬ (k : Int) < ((blF w 0).length : Nat) := by omega
                      obtain rfl : k = (blF w 0).length := by omega
                      simp -implicitDefEqProofs only [go_sem, simprocAttr, r82, hk', r8]
                      refine ret_tup (fun _ => true) ?_ (by simp [ownNames])
                      simp -implicitDefEqProofs only [go_sem, simprocAttr, o8, lstN]
                      generalize canV R3 (blF w 0).length = z
                      cases z <;> rfl
              · rintro x xs k n ρ h hx hk hm hk' hwr ⟨e, n0, n1⟩ ⟨r61, r12⟩
                have bx := q5 x hm
                have w1 : IntKind.i64.wrap (n + x) = n + x := wr _ (by omega) (by omega)
                simp -implicitDefEqProofs only [go_sem, simprocAttr, r61, r12, hk', index_map hg idx_22 hx rfl, w1, hwr]
                refine nxtL (n + x) ⟨by rw [← e]; simp [sumI, Int.add_assoc], by omega, by push_cast; omega⟩ ?_
                simp -implicitDefEqProofs only [go_sem, simprocAttr]
  · have e' : (errC c != 0) = true := by simpa using e1
    have eL : errR c w g lo hi = errC c := by simp [errR, errQ, e1]
    refine w47 ?_
    dsimp only [c47, sop, gop, nop, qmv, qsg, qex, qld, qcl, qln, qix, qbo, qt, qi]
    simp -implicitDefEqProofs only [go_sem, simprocAttr, o1, o2]
    refine call1 [] false (c73) ?_
    simp -implicitDefEqProofs only [go_sem, simprocAttr, mapV, o1, o2, e1]
    refine call1 [] false (c102) ?_
    simp -implicitDefEqProofs only [go_sem, simprocAttr, e']
    refine ret_tup (fun _ => true) ?_ (by simp [ownNames])
    simp -implicitDefEqProofs only [go_sem, simprocAttr, rdV, eL, e1]
end S04

