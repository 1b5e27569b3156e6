/- A part of the proof: X07d. -/
import Derived.Test.YtmanbdacloeioaaX07a
import Derived.Test.YtmanbdacloeioaaC07r0
set_option linter.unusedVariables false
set_option linter.unusedSimpArgs false
set_option maxRecDepth 20000
namespace S07
open Go Abs
theorem few_bd {q : Al} {w s ks : List Int} {n : Int} (hl : w.length = s.length) (h : q.fewF w s = some (ks, n)) : ks.length = w.length ∧ ∀ k ∈ ks, 0 ≤ k ∧ k ≤ 3 := by
  obtain ⟨f1, f2, f3⟩ := few_at w s ks n hl h
  refine ⟨f1, fun k hk => ?_⟩
  obtain ⟨i, hi⟩ := List.mem_iff_getElem?.1 hk
  have il := (List.getElem?_eq_some_iff.1 hi).1
  obtain ⟨b, hb, e⟩ := f3 i _ _ k (List.getElem?_eq_getElem (by omega)) (List.getElem?_eq_getElem (by omega)) hi
  have := kinds_bd (kinds_mem.2 ⟨b.2, (best_is hb).1⟩)
  omega
theorem lists_two {s1 s2 : FV} {a b : List Int} (h1 : lsOf s1 = some (ints a)) (h2 : lsOf s2 = some (ints b)) (l1 : a.length ≤ 9223372036854775807) (l2 : b.length ≤ 9223372036854775807) : Lists (.list false [s1, s2]) [a, b] := by
  refine ⟨[s1, s2], rfl, by simp [toL_ls h1, toL_ls h2], ?_⟩
  intro x hx
  simp at hx
  rcases hx with rfl | rfl
  · exact ⟨a, h1, l1⟩
  · exact ⟨b, h2, l2⟩
theorem I64_small {l : List Int} (h : ∀ n ∈ l, 0 ≤ n ∧ n ≤ 3) : ∀ n ∈ l, I64 n := fun n hn => by have := h n hn; unfold I64; omega
theorem neI (x : Int) : (x != x) = false := by simp
theorem eqI (x : Int) : (x == x) = true := by simp
set_option maxHeartbeats 4000000 in
theorem t12 {st : FV} {N : Int} {hs al sw ss : FV} {H A : List (Int × Int)} {w s : List Int} (v : SetV st N hs al H A) (hN : -9223372036854775808 ≤ N ∧ N ≤ 9223372036854775807) (h1 : lsOf sw = some (ints w)) (h2 : lsOf ss = some (ints s)) (l1 : w.length ≤ 9223372036854775807) (l2 : s.length ≤ 9223372036854775807)
    (hw : ∀ n ∈ w, I64 n) (hs' : ∀ n ∈ s, I64 n) : Fn Q 12 [.fo st, .fo sw, .fo ss] (.one (.fx (.bool true))) := by
  have c13 := t13 v (lists_two h1 h2 l1 l2) (by simp)
  have ow := ls_fone h1
  have os := ls_fone h2
  have cw := ls_cells h1
  have cs := ls_cells h2
  have c23 := t23 v hN
  have c31 := fun n0 n8 hl => t31 v n0 n8 h1 hl
  have c25 := fun n0 n8 hl => t25 v n0 n8 h2 hl
  have c55 := fun n0 n8 l s => t55 v n0 n8 l s
  have c56 := fun eA hl l6 hw => t56 v eA h1 h2 hl l6 hw
  have v0 := v
  obtain ⟨rfl, hH, hA, lH, lA⟩ := v
  have o1 := ls_one hH
  have o2 := ls_one hA
  cases lg : longF H A [w, s] with
  | true =>
    rw [lg] at c13
    refine w12 ?_
    dsimp only [c12, sop, gop, nop, qmv, qsg, qex, qld, qcl, qln, qix, qbo, qt, qi]
    simp -implicitDefEqProofs only [go_sem, simprocAttr, o1, o2, ow, os, cw, cs]
    refine call0 [24] false c13 (by simp -implicitDefEqProofs only [go_sem, simprocAttr]) (.inl rfl) ?_
    simp -implicitDefEqProofs only [go_sem, simprocAttr]
    refine call1 [] false (t14) ?_
    simp -implicitDefEqProofs only [go_sem, simprocAttr]
    exact ret_fv
  | false =>
    rw [lg] at c13
    have lens : w.length ≤ 12 ∧ s.length ≤ 12 ∧ H.length ≤ 12 ∧ A.length ≤ 12 := by
      simp [longF] at lg
      omega
    obtain ⟨lw, ls, lh, la⟩ := lens
    have vC := setC_v (N := N) (H := H) (A := A) (by omega) (by omega)
    have c15 := t15 v0 (by omega) (by omega)
    have c17w := t17 h1 (by omega)
    have c17s := t17 h2 (by omega)
    have c54 := t54 vC
    have c45 := t45 vC (sw := .list false (ints w)) (w := w) rfl (by omega) (ss := .list false (ints s)) (sg := s) rfl (by omega)
    have c47 := t47 vC (sw := .list false (ints w)) (w := w) rfl (by omega) (ss := .list false (ints s)) (sg := s) rfl (by omega)
    have c20 := t20 vC v0
    have c22w := t22 (sa := .list false (ints w)) (a := w) rfl h1 (by omega) (by omega) hw hw
    have c22s := t22 (sa := .list false (ints s)) (a := s) rfl h2 (by omega) (by omega) hs' hs'
    simp only [decide_true] at c22w c22s
    by_cases e0 : errR N H A w s = 0
    · obtain ⟨eA, isw, iss, hl⟩ := errR_ok e0
      obtain ⟨n0, n8, _⟩ := errA_ok eA
      have wok := word_ok isw
      have c31' := c31 n0 n8 (by omega)
      have c25' := c25 n0 n8 (by omega)
      have c56' := c56 eA hl (by omega) wok.bd
      have lne : (((w.length : Nat) : Int) != ((s.length : Nat) : Int)) = false := by simp; omega
      rw [isw] at c31'
      rw [iss] at c25'
      rw [eA] at c23 c54
      rw [if_pos e0, e0] at c45
      have wyl := waysR_len (alOf N H A) w s hl
      have wyg := fun i l x h h' => waysR_get (q := alOf N H A) w s i l x h h'
      have hsW := lsOf_lstN (waysV ((alOf N H A).waysR w s))
      have wyv : (waysV ((alOf N H A).waysR w s)).length = w.length := by unfold waysV; rw [List.length_map, wyl]
      generalize lstN (waysV ((alOf N H A).waysR w s)) = sWy at *
      have eF : errF N H A w s = if fewR N H A w s = none then 7 else 0 := by unfold errF; rw [if_neg (by simpa using e0)]
      have few := few_bd (q := alOf N H A) (ks := []) (n := 0) hl
      rw [show (alOf N H A).fewF w s = fewR N H A w s from rfl] at c56'
      have hfb := fun ks n => few_bd (q := alOf N H A) (ks := ks) (n := n) hl
      rw [show (alOf N H A).fewF w s = fewR N H A w s from rfl] at hfb
      cases hF : fewR N H A w s with
      | none =>
        rw [hF] at eF c47 c56'
        rw [if_pos rfl] at eF
        rw [eF, if_neg (by decide), if_neg (by decide)] at c47
        refine w12 ?_
        dsimp only [c12, sop, gop, nop, qmv, qsg, qex, qld, qcl, qln, qix, qbo, qt, qi]
        simp -implicitDefEqProofs only [go_sem, simprocAttr, o1, o2, ow, os, cw, cs]
        refine call0 [24] false c13 (by simp -implicitDefEqProofs only [go_sem, simprocAttr]) (.inl rfl) ?_
        simp -implicitDefEqProofs only [go_sem, simprocAttr, o1, o2]
        refine call1 [] false (c15) ?_
        simp -implicitDefEqProofs only [go_sem, simprocAttr]
        refine call1 [] false (c17w) ?_
        simp -implicitDefEqProofs only [go_sem, simprocAttr]
        refine call1 [] false (c17s) ?_
        simp -implicitDefEqProofs only [go_sem, simprocAttr, setC]
        refine call1 [] false (c54) ?_
        simp -implicitDefEqProofs only [go_sem, simprocAttr, setC]
        refine call1 [] false (c45) ?_
        simp -implicitDefEqProofs only [go_sem, simprocAttr, setC]
        refine call1 [] false (c47) ?_
        simp -implicitDefEqProofs only [go_sem, simprocAttr, setC, o1, o2]
        refine call1 [] false (c20) ?_
        simp -implicitDefEqProofs only [go_sem, simprocAttr]
        refine call1 [] false (c22w) ?_
        simp -implicitDefEqProofs only [go_sem, simprocAttr]
        refine call1 [] false (c22s) ?_
        simp -implicitDefEqProofs only [go_sem, simprocAttr, o1, o2]
        refine call1 [] false (c23) ?_
        simp -implicitDefEqProofs only [go_sem, simprocAttr, neI, o1, o2]
        refine call1 [] false (c23) ?_
        simp -implicitDefEqProofs only [go_sem, simprocAttr, o1, o2]
        refine call1 [] false (c31') ?_
        simp -implicitDefEqProofs only [go_sem, simprocAttr, o1, o2]
        refine call1 [] false (c25') ?_
        simp -implicitDefEqProofs only [go_sem, simprocAttr, lenV_ls h1, lenV_ls h2, lenV_ls hsW, wyv, ints_len, lne, neI]
        refine lpL (β := Unit) 129 [17] 129 [] w (by omega) (fun _ _ _ => True) (fun i _ ρ h => ρ 17 = .fv (.int i)) () trivial (by simp -implicitDefEqProofs only [go_sem, simprocAttr]) ?_ ?_
        · rintro _ ρ h _ r17
          simp -implicitDefEqProofs only [go_sem, simprocAttr, r17, lenV_ls h1, ints_len, o1, o2]
          refine call1 [] false (c56') ?_
          simp -implicitDefEqProofs only [go_sem, simprocAttr, fewL, fewN, Option.isSome]
          refine call1 [] false (t14) ?_
          simp -implicitDefEqProofs only [go_sem, simprocAttr]
          exact ret_fv
        · rintro l ls' i _ ρ h hx hi hm hi' hwi _ r17
          obtain ⟨x, hx2⟩ : ∃ x, s[i]? = some x := ⟨_, List.getElem?_eq_getElem (by omega)⟩
          have lb := wok.bd l hm
          have gy : (waysV ((alOf N H A).waysR w s))[i]? = some (lstN (ints ((alOf N H A).kindsR l x))) := by
            unfold waysV
            rw [List.getElem?_map, wyg i l x hx hx2]; rfl
          have kl := kinds_len (q := alOf N H A) n8 l x
          have kb : ∀ n ∈ (alOf N H A).kindsR l x, 0 ≤ n ∧ n ≤ 3 := fun n hn => ⟨(kinds_bd hn).1, (kinds_bd hn).2.1⟩
          have c55' := c55 n0 n8 l x
          rw [kx_is eA lb.1 lb.2] at c55'
          have c48 := t48 (lsOf_lstN (ints ((alOf N H A).kindsR l x))) (by omega)
          have cl := ls_cells (lsOf_lstN (ints ((alOf N H A).kindsR l x)))
          have c22 := t22 (sa := .list false (ints ((alOf N H A).kindsR l x))) (sb := .list false (ints ((alOf N H A).kindsR l x))) (a := (alOf N H A).kindsR l x) (b := (alOf N H A).kindsR l x) rfl rfl (by omega) (by omega) (I64_small kb) (I64_small kb)
          simp only [decide_true] at c22
          generalize lstN (ints ((alOf N H A).kindsR l x)) = sK at *
          simp -implicitDefEqProofs only [go_sem, simprocAttr, r17, lenV_ls h1, ints_len, hi']
          refine W_opsD _ _ _ (Vs []) ?_ ?_
          · decide
          simp -implicitDefEqProofs only [go_sem, simprocAttr, r17, index_ls hsW idx_79 gy (by rw [cl]; rfl), cl]
          refine callD [] false [.fo sK] [] c48 ⟨rfl, trivial⟩ rfl (.inl rfl) ?_
          simp -implicitDefEqProofs only [go_sem, simprocAttr, r17, index_map h1 idx_26 hx rfl, index_map h2 idx_26 hx2 rfl, o1, o2]
          refine call1 [] false (c55') ?_
          simp -implicitDefEqProofs only [go_sem, simprocAttr]
          refine call1 [] false (c22) ?_
          simp -implicitDefEqProofs only [go_sem, simprocAttr, r17, hwi]
          refine nxtL () trivial ?_
          simp -implicitDefEqProofs only [go_sem, simprocAttr]
      | some r =>
        rw [hF] at eF c47 c56'
        rw [if_neg (by simp)] at eF
        rw [eF, if_pos rfl, if_pos rfl] at c47
        refine w12 ?_
        dsimp only [c12, sop, gop, nop, qmv, qsg, qex, qld, qcl, qln, qix, qbo, qt, qi]
        simp -implicitDefEqProofs only [go_sem, simprocAttr, o1, o2, ow, os, cw, cs]
        refine call0 [24] false c13 (by simp -implicitDefEqProofs only [go_sem, simprocAttr]) (.inl rfl) ?_
        simp -implicitDefEqProofs only [go_sem, simprocAttr, o1, o2]
        refine call1 [] false (c15) ?_
        simp -implicitDefEqProofs only [go_sem, simprocAttr]
        refine call1 [] false (c17w) ?_
        simp -implicitDefEqProofs only [go_sem, simprocAttr]
        refine call1 [] false (c17s) ?_
        simp -implicitDefEqProofs only [go_sem, simprocAttr, setC]
        refine call1 [] false (c54) ?_
        simp -implicitDefEqProofs only [go_sem, simprocAttr, setC]
        refine call1 [] false (c45) ?_
        simp -implicitDefEqProofs only [go_sem, simprocAttr, setC]
        refine call1 [] false (c47) ?_
        simp -implicitDefEqProofs only [go_sem, simprocAttr, setC, o1, o2]
        refine call1 [] false (c20) ?_
        simp -implicitDefEqProofs only [go_sem, simprocAttr]
        refine call1 [] false (c22w) ?_
        simp -implicitDefEqProofs only [go_sem, simprocAttr]
        refine call1 [] false (c22s) ?_
        simp -implicitDefEqProofs only [go_sem, simprocAttr, o1, o2]
        refine call1 [] false (c23) ?_
        simp -implicitDefEqProofs only [go_sem, simprocAttr, neI, o1, o2]
        refine call1 [] false (c23) ?_
        simp -implicitDefEqProofs only [go_sem, simprocAttr, o1, o2]
        refine call1 [] false (c31') ?_
        simp -implicitDefEqProofs only [go_sem, simprocAttr, o1, o2]
        refine call1 [] false (c25') ?_
        simp -implicitDefEqProofs only [go_sem, simprocAttr, lenV_ls h1, lenV_ls h2, lenV_ls hsW, wyv, ints_len, lne, neI]
        refine lpL (β := Unit) 129 [17] 129 [] w (by omega) (fun _ _ _ => True) (fun i _ ρ h => ρ 17 = .fv (.int i)) () trivial (by simp -implicitDefEqProofs only [go_sem, simprocAttr]) ?_ ?_
        · rintro _ ρ h _ r17
          simp -implicitDefEqProofs only [go_sem, simprocAttr, r17, lenV_ls h1, ints_len, o1, o2]
          refine call1 [] false (c56') ?_
          simp -implicitDefEqProofs only [go_sem, simprocAttr, fewL, fewN, Option.isSome]
          have hfr := hfb r.1 r.2 hF
          have c48 := t48 (lsOf_lstN (ints r.1)) (by omega)
          have c22 := t22 (sa := .list false (ints r.1)) (sb := .list false (ints r.1)) (a := r.1) (b := r.1) rfl rfl (by omega) (by omega) (I64_small hfr.2) (I64_small hfr.2)
          simp only [decide_true] at c22
          simp -implicitDefEqProofs only [go_sem, simprocAttr, fewK]
          refine call1 [] false (c48) ?_
          simp -implicitDefEqProofs only [go_sem, simprocAttr]
          refine call1 [] false (c22) ?_
          simp -implicitDefEqProofs only [go_sem, simprocAttr, eqI]
          refine call1 [] false (t14) ?_
          simp -implicitDefEqProofs only [go_sem, simprocAttr]
          exact ret_fv
        · rintro l ls' i _ ρ h hx hi hm hi' hwi _ r17
          obtain ⟨x, hx2⟩ : ∃ x, s[i]? = some x := ⟨_, List.getElem?_eq_getElem (by omega)⟩
          have lb := wok.bd l hm
          have gy : (waysV ((alOf N H A).waysR w s))[i]? = some (lstN (ints ((alOf N H A).kindsR l x))) := by
            unfold waysV
            rw [List.getElem?_map, wyg i l x hx hx2]; rfl
          have kl := kinds_len (q := alOf N H A) n8 l x
          have kb : ∀ n ∈ (alOf N H A).kindsR l x, 0 ≤ n ∧ n ≤ 3 := fun n hn => ⟨(kinds_bd hn).1, (kinds_bd hn).2.1⟩
          have c55' := c55 n0 n8 l x
          rw [kx_is eA lb.1 lb.2] at c55'
          have c48 := t48 (lsOf_lstN (ints ((alOf N H A).kindsR l x))) (by omega)
          have cl := ls_cells (lsOf_lstN (ints ((alOf N H A).kindsR l x)))
          have c22 := t22 (sa := .list false (ints ((alOf N H A).kindsR l x))) (sb := .list false (ints ((alOf N H A).kindsR l x))) (a := (alOf N H A).kindsR l x) (b := (alOf N H A).kindsR l x) rfl rfl (by omega) (by omega) (I64_small kb) (I64_small kb)
          simp only [decide_true] at c22
          generalize lstN (ints ((alOf N H A).kindsR l x)) = sK at *
          simp -implicitDefEqProofs only [go_sem, simprocAttr, r17, lenV_ls h1, ints_len, hi']
          refine W_opsD _ _ _ (Vs []) ?_ ?_
          · decide
          simp -implicitDefEqProofs only [go_sem, simprocAttr, r17, index_ls hsW idx_79 gy (by rw [cl]; rfl), cl]
          refine callD [] false [.fo sK] [] c48 ⟨rfl, trivial⟩ rfl (.inl rfl) ?_
          simp -implicitDefEqProofs only [go_sem, simprocAttr, r17, index_map h1 idx_26 hx rfl, index_map h2 idx_26 hx2 rfl, o1, o2]
          refine call1 [] false (c55') ?_
          simp -implicitDefEqProofs only [go_sem, simprocAttr]
          refine call1 [] false (c22) ?_
          simp -implicitDefEqProofs only [go_sem, simprocAttr, r17, hwi]
          refine nxtL () trivial ?_
          simp -implicitDefEqProofs only [go_sem, simprocAttr]
    · have eF : errF N H A w s = errR N H A w s := by unfold errF; rw [if_pos e0]
      have nR : (errR N H A w s != 0) = true := by simpa using e0
      rw [eF] at c47
      rw [if_neg e0] at c45
      rw [if_neg e0, if_neg e0] at c47
      by_cases eA : errA N H A = 0
      · obtain ⟨n0, n8, _⟩ := errA_ok eA
        have e4 : errR N H A w s = 4 := by
          unfold errR at e0 ⊢
          rw [if_neg (by simpa using eA)] at e0 ⊢
          by_cases c : isWord N w [] = false ∨ isWord N s [-1] = false ∨ w.length ≠ s.length
          · rw [if_pos c]
          · rw [if_neg c] at e0; exact absurd rfl e0
        have c31' := c31 n0 n8 (by omega)
        have c25' := c25 n0 n8 (by omega)
        rw [eA] at c23 c54
        rw [e4] at c45 c47
        have hc : isWord N w [] = false ∨ isWord N s [-1] = false ∨ w.length ≠ s.length := by
          unfold errR at e4
          rw [if_neg (by simpa using eA)] at e4
          by_cases c : isWord N w [] = false ∨ isWord N s [-1] = false ∨ w.length ≠ s.length
          · exact c
          · rw [if_neg c] at e4; simp at e4
        refine w12 ?_
        dsimp only [c12, sop, gop, nop, qmv, qsg, qex, qld, qcl, qln, qix, qbo, qt, qi]
        simp -implicitDefEqProofs only [go_sem, simprocAttr, o1, o2, ow, os, cw, cs]
        refine call0 [24] false c13 (by simp -implicitDefEqProofs only [go_sem, simprocAttr]) (.inl rfl) ?_
        simp -implicitDefEqProofs only [go_sem, simprocAttr, o1, o2]
        refine call1 [] false (c15) ?_
        simp -implicitDefEqProofs only [go_sem, simprocAttr]
        refine call1 [] false (c17w) ?_
        simp -implicitDefEqProofs only [go_sem, simprocAttr]
        refine call1 [] false (c17s) ?_
        simp -implicitDefEqProofs only [go_sem, simprocAttr, setC]
        refine call1 [] false (c54) ?_
        simp -implicitDefEqProofs only [go_sem, simprocAttr, setC]
        refine call1 [] false (c45) ?_
        simp -implicitDefEqProofs only [go_sem, simprocAttr, setC]
        refine call1 [] false (c47) ?_
        simp -implicitDefEqProofs only [go_sem, simprocAttr, setC, o1, o2]
        refine call1 [] false (c20) ?_
        simp -implicitDefEqProofs only [go_sem, simprocAttr]
        refine call1 [] false (c22w) ?_
        simp -implicitDefEqProofs only [go_sem, simprocAttr]
        refine call1 [] false (c22s) ?_
        simp -implicitDefEqProofs only [go_sem, simprocAttr, o1, o2]
        refine call1 [] false (c23) ?_
        simp -implicitDefEqProofs only [go_sem, simprocAttr, neI, o1, o2]
        refine call1 [] false (c23) ?_
        simp -implicitDefEqProofs only [go_sem, simprocAttr, o1, o2]
        refine call1 [] false (c31') ?_
        cases b1 : isWord N w [] with
        | false =>
          simp -implicitDefEqProofs only [go_sem, simprocAttr, lenV_nl]
          refine call1 [] false (t14) ?_
          simp -implicitDefEqProofs only [go_sem, simprocAttr]
          exact ret_fv
        | true =>
          simp -implicitDefEqProofs only [go_sem, simprocAttr, o1, o2]
          refine call1 [] false (c25') ?_
          cases b2 : isWord N s [-1] with
          | false =>
            simp -implicitDefEqProofs only [go_sem, simprocAttr, lenV_nl]
            refine call1 [] false (t14) ?_
            simp -implicitDefEqProofs only [go_sem, simprocAttr]
            exact ret_fv
          | true =>
            have b3 : w.length ≠ s.length := by rcases hc with h | h | h <;> simp_all
            have b3' : (((w.length : Nat) : Int) != ((s.length : Nat) : Int)) = true := by simp; omega
            simp -implicitDefEqProofs only [go_sem, simprocAttr, lenV_ls h1, lenV_ls h2, ints_len, b3', lenV_nl]
            refine call1 [] false (t14) ?_
            simp -implicitDefEqProofs only [go_sem, simprocAttr]
            exact ret_fv
      · have eR : errR N H A w s = errA N H A := by unfold errR; rw [if_pos eA]
        have nA : (errA N H A == 0) = false := by simpa using eA
        have nA' : (errA N H A != 0) = true := by simpa using eA
        rw [eR] at c45 c47
        refine w12 ?_
        dsimp only [c12, sop, gop, nop, qmv, qsg, qex, qld, qcl, qln, qix, qbo, qt, qi]
        simp -implicitDefEqProofs only [go_sem, simprocAttr, o1, o2, ow, os, cw, cs]
        refine call0 [24] false c13 (by simp -implicitDefEqProofs only [go_sem, simprocAttr]) (.inl rfl) ?_
        simp -implicitDefEqProofs only [go_sem, simprocAttr, o1, o2]
        refine call1 [] false (c15) ?_
        simp -implicitDefEqProofs only [go_sem, simprocAttr]
        refine call1 [] false (c17w) ?_
        simp -implicitDefEqProofs only [go_sem, simprocAttr]
        refine call1 [] false (c17s) ?_
        simp -implicitDefEqProofs only [go_sem, simprocAttr, setC]
        refine call1 [] false (c54) ?_
        simp -implicitDefEqProofs only [go_sem, simprocAttr, setC]
        refine call1 [] false (c45) ?_
        simp -implicitDefEqProofs only [go_sem, simprocAttr, setC]
        refine call1 [] false (c47) ?_
        simp -implicitDefEqProofs only [go_sem, simprocAttr, setC, o1, o2]
        refine call1 [] false (c20) ?_
        simp -implicitDefEqProofs only [go_sem, simprocAttr]
        refine call1 [] false (c22w) ?_
        simp -implicitDefEqProofs only [go_sem, simprocAttr]
        refine call1 [] false (c22s) ?_
        simp -implicitDefEqProofs only [go_sem, simprocAttr, o1, o2]
        refine call1 [] false (c23) ?_
        simp -implicitDefEqProofs only [go_sem, simprocAttr, neI, o1, o2]
        refine call1 [] false (c23) ?_
        simp -implicitDefEqProofs only [go_sem, simprocAttr, nA, nA', eqI, lenV_nl]
        refine call1 [] false (t14) ?_
        simp -implicitDefEqProofs only [go_sem, simprocAttr]
        exact ret_fv
end S07

