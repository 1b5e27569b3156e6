/- A part of the proof: X07e, X07f, X07g. -/
import Derived.Test.YtmanbdacloeioaaX07a
import Derived.Test.YtmanbdacloeioaaC07s0
set_option linter.unusedVariables false
set_option linter.unusedSimpArgs false
set_option maxRecDepth 20000
namespace S07
open Go Abs
theorem min2_j (a b : Int) : min2V (.int .i64 a) (.int .i64 b) = some (.int .i64 (min a b)) := by
  show some (Value.int .i64 (if b < a then b else a)) = _
  congr 2
  split <;> omega
theorem max2_j (a b : Int) : max2V (.int .i64 a) (.int .i64 b) = some (.int .i64 (mx a b)) := rfl
/-- The references' words that can have been meant. -/
theorem t27 {st : FV} {N : Int} {hs al : FV} {H A : List (Int × Int)} (v : SetV st N hs al H A) (eA : errA N H A = 0) {sW ss : FV} {W : List (List Int)} {s : List Int} (hW : Lists sW W) (h2 : lsOf ss = some (ints s)) (W5 : W.length ≤ 5) (hWw : ∀ w ∈ W, WordOk N w) (sl : s.length ≤ 1000) (most : Int) :
    Fn Q 27 [.fo st, .fo sW, .fo ss, .fo (.int most)] (.one (.fx (.list false (ints (meantR N H A W s most))))) := by
  have c56 := fun {sw : FV} {w : List Int} (h1 : lsOf sw = some (ints w)) hl l6 hw => t56 v eA (sw := sw) (w := w) h1 h2 hl l6 hw
  obtain ⟨wl, w1, w2, w3⟩ := hW
  have la : wl.length = W.length := by rw [← w2]; simp
  obtain ⟨rfl, hH, hA, _, _⟩ := v
  have o1 := ls_one hH
  have o2 := ls_one hA
  have os := ls_one h2
  refine w27 ?_
  dsimp only [c27, sop, gop, nop, qmv, qsg, qex, qld, qcl, qln, qix, qbo, qt, qi]
  simp -implicitDefEqProofs only [go_sem, simprocAttr, o1, o2]
  refine lpL (β := List Int) 15 [9, 10, 11, 12, 13] 15 [14] W (by omega) (fun r i acc => meantR N H A W s most = acc ++ (alOf N H A).meantF s most r i ∧ acc.length ≤ i) (fun i acc ρ h => ρ 10 = .fv (.int i) ∧ ρ 9 = .gl 14 (h.gen 14) ∧ h.obj 14 = some (.list 3 1 false false (ints acc))) [] ⟨rfl, by simp⟩ (by simp -implicitDefEqProofs only [go_sem, simprocAttr, ints]) ?_ ?_
  · rintro acc ρ h ⟨e, _⟩ ⟨r10, r9, o14⟩
    simp only [Al.meantF, List.append_nil] at e
    simp -implicitDefEqProofs only [go_sem, simprocAttr, r10, lenV_ls w1, la, r9]
    exact ret_fx (fun _ => true) (by simp -implicitDefEqProofs only [go_sem, simprocAttr, o14, e])
  · rintro w ws i acc ρ h hw hi hm hi' hwi ⟨e, al_⟩ ⟨r10, r9, o14⟩
    obtain ⟨x, hx⟩ : ∃ x, wl[i]? = some x := ⟨_, List.getElem?_eq_getElem (by omega)⟩
    obtain ⟨l, hl1, hl2, hl3⟩ := lists_get (s := sW) w2 w3 hx
    obtain rfl : l = w := by rw [hl2] at hw; simpa using hw
    have wok := hWw l hm
    have l6 := wok.l6
    by_cases q : l.length = s.length
    · have q' : (((l.length : Nat) : Int) != ((s.length : Nat) : Int)) = false := by simp; omega
      have c := c56 hl1 q (by omega) wok.bd
      cases hF : (alOf N H A).fewF l s with
      | none =>
        have hm' : (alOf N H A).isMeant s most l = false := by simp [Al.isMeant, hF]
        rw [hF] at c
        simp -implicitDefEqProofs only [go_sem, simprocAttr, r10, lenV_ls w1, la, hi', index_ls w1 idx_25 hx (by rw [hl3]; rfl), hl3, lenV_ls hl1, lenV_ls h2, ints_len, q', o1, o2]
        refine call1 [] false (c) ?_
        simp -implicitDefEqProofs only [go_sem, simprocAttr, fewL, fewN, Option.isSome, r10, hwi]
        refine nxtL acc ⟨by rw [e]; simp [Al.meantF, hm'], by omega⟩ ?_
        simp -implicitDefEqProofs only [go_sem, simprocAttr, r9, o14]
      | some r =>
        rw [hF] at c
        by_cases q3 : r.2 ≤ most
        · have hm' : (alOf N H A).isMeant s most l = true := by simp [Al.isMeant, hF, q, q3]
          simp -implicitDefEqProofs only [go_sem, simprocAttr, r10, lenV_ls w1, la, hi', index_ls w1 idx_25 hx (by rw [hl3]; rfl), hl3, lenV_ls hl1, lenV_ls h2, ints_len, q', o1, o2]
          refine call1 [] false (c) ?_
          simp -implicitDefEqProofs only [go_sem, simprocAttr, fewL, fewN, Option.isSome, q3, r10, r9]
          refine app_gl (by simp -implicitDefEqProofs only [go_sem, simprocAttr, o14]; rfl) idx_26 (by simp -implicitDefEqProofs only [go_sem, simprocAttr]; rfl) (by simp [FV.cells]) (by simp -implicitDefEqProofs only [go_sem, simprocAttr]) (by simp [byt_3, ints]; omega) (by simp [maxLen, ints]; omega) (by simp) ?_
          simp -implicitDefEqProofs only [go_sem, simprocAttr, r10, hwi]
          refine nxtL (acc ++ [(i : Int)]) ⟨by rw [e]; simp [Al.meantF, hm'], by simp; omega⟩ ?_
          simp -implicitDefEqProofs only [go_sem, simprocAttr, ints, List.map_append]
        · have hm' : (alOf N H A).isMeant s most l = false := by simp [Al.isMeant, hF, q3]
          simp -implicitDefEqProofs only [go_sem, simprocAttr, r10, lenV_ls w1, la, hi', index_ls w1 idx_25 hx (by rw [hl3]; rfl), hl3, lenV_ls hl1, lenV_ls h2, ints_len, q', o1, o2]
          refine call1 [] false (c) ?_
          simp -implicitDefEqProofs only [go_sem, simprocAttr, fewL, fewN, Option.isSome, q3, r10, hwi]
          refine nxtL acc ⟨by rw [e]; simp [Al.meantF, hm'], by omega⟩ ?_
          simp -implicitDefEqProofs only [go_sem, simprocAttr, r9, o14]
    · have q' : (((l.length : Nat) : Int) != ((s.length : Nat) : Int)) = true := by simp; omega
      have hm' : (alOf N H A).isMeant s most l = false := by simp [Al.isMeant, q]
      simp -implicitDefEqProofs only [go_sem, simprocAttr, r10, lenV_ls w1, la, hi', index_ls w1 idx_25 hx (by rw [hl3]; rfl), hl3, lenV_ls hl1, lenV_ls h2, ints_len, q', hwi]
      refine nxtL acc ⟨by rw [e]; simp [Al.meantF, hm'], by omega⟩ ?_
      simp -implicitDefEqProofs only [go_sem, simprocAttr, r9, o14]
end S07

namespace S07
open Go Abs
theorem lies_ex {N : Int} {H A : List (Int × Int)} (eA : errA N H A = 0) {w s : List Int} {r : List Int × Int} {most : Int} {p : Nat} {x b : Int} {ks : List Int} (hl : w.length = s.length) (hw : ∀ n ∈ w, 0 ≤ n ∧ n < N) (hF : (alOf N H A).fewF w s = some r) (hp : p < w.length) (hk : (alOf N H A).kindsR (gI w (p : Nat)) (gI s (p : Nat)) = b :: ks) (x0 : 0 ≤ x) (x1 : x < N) :
    (alOf N H A).lies s most p w x = true ↔ ∃ k : Nat, k < 4 ∧ exF H A (gI w (p : Nat)) (gI s (p : Nat)) (k : Nat) x = true ∧ r.2 - cost b + cost (k : Nat) ≤ most := by
  have hwb := hw _ (gI_mem hp)
  obtain ⟨bb, hbb⟩ : ∃ bb, (alOf N H A).best (gI w (p : Nat)) (gI s (p : Nat)) = some bb := by
    obtain ⟨st, hst⟩ := kinds_mem.1 (show b ∈ (alOf N H A).kindsR (gI w (p : Nat)) (gI s (p : Nat)) by rw [hk]; simp)
    exact best_some hst
  obtain ⟨ks', hks'⟩ := best_kind hbb
  have eb : bb.1 = b := by rw [hk] at hks'; simp at hks'; exact hks'.1.symm
  have hr : (alOf N H A).rest w s p = r.2 - cost b := by
    unfold Al.rest
    rw [hF]
    have : (alOf N H A).fewF [gI w (p : Nat)] [gI s (p : Nat)] = some ([bb.1], cost bb.1) := by simp [Al.fewF, hbb]
    rw [this, ← eb]; rfl
  unfold Al.lies
  rw [hr, List.any_eq_true]
  constructor
  · rintro ⟨⟨k, st⟩, hm, hy⟩
    simp only [Bool.and_eq_true, beq_iff_eq, decide_eq_true_eq] at hy
    obtain ⟨rfl, hy⟩ := hy
    have kb := kinds_bd (kinds_mem.2 ⟨st, hm⟩)
    have e : ((k.toNat : Nat) : Int) = k := by omega
    exact ⟨k.toNat, by omega, by rw [e]; exact (ex_iff eA hwb.1 hwb.2 kb.1 kb.2.1 x0 x1).2 hm, by rw [e]; exact hy⟩
  · rintro ⟨k, k4, h1, h2⟩
    exact ⟨((k : Int), x), (ex_iff eA hwb.1 hwb.2 (by omega) (by omega) x0 x1).1 h1, by simp; exact h2⟩
theorem t63 {st : FV} {N : Int} {hs al : FV} {H A : List (Int × Int)} (v : SetV st N hs al H A) (eA : errA N H A = 0) {sw ss : FV} {w s : List Int} {r : List Int × Int} {most x : Int} {p : Nat} (h1 : lsOf sw = some (ints w)) (h2 : lsOf ss = some (ints s)) (hl : w.length = s.length) (l6 : w.length ≤ 6) (hw : ∀ n ∈ w, 0 ≤ n ∧ n < N) (hF : (alOf N H A).fewF w s = some r) (hp : p < w.length) (x0 : 0 ≤ x) (x1 : x < N) :
    Fn Q 63 [.fo st, .fo sw, .fo ss, .fo (.int most), .fo (.int (p : Nat)), .fo (.int x)] (.one (.fx (.bool ((alOf N H A).lies s most p w x)))) := by
  obtain ⟨n0, n8, _⟩ := errA_ok eA
  have c56 := t56 v eA h1 h2 hl (by omega) hw
  have wp : w[p]? = some (gI w (p : Nat)) := by have := gI_get (p := w) (i := (p : Int)) (by omega) (by omega); simpa using this
  have sp : s[p]? = some (gI s (p : Nat)) := by have := gI_get (p := s) (i := (p : Int)) (by omega) (by omega); simpa using this
  have hwb := hw _ (List.mem_of_getElem? wp)
  have c55 := t55 v n0 n8 (gI w (p : Nat)) (gI s (p : Nat))
  rw [kx_is eA hwb.1 hwb.2] at c55
  have c83 := fun kd h h' => t83 v (gI w (p : Nat)) (gI s (p : Nat)) kd x h h'
  have fb := fewF_bd w s r hF
  obtain ⟨f1, f2, f3⟩ := few_at w s r.1 r.2 hl hF
  obtain ⟨bb, hbb, _⟩ := f3 p _ _ _ wp sp (List.getElem?_eq_getElem (by omega))
  obtain ⟨ks, hks⟩ := best_kind hbb
  have lex := lies_ex eA (most := most) hl hw hF hp hks x0 x1
  have kb := fun x hx => kinds_bd (q := alOf N H A) (l := gI w (p : Nat)) (s := gI s (p : Nat)) (k := x) hx
  have ksort := kinds_sorted (alOf N H A) (gI w (p : Nat)) (gI s (p : Nat))
  have kl := kinds_len (q := alOf N H A) n8 (gI w (p : Nat)) (gI s (p : Nat))
  have hmin : ∀ x ∈ (alOf N H A).kindsR (gI w (p : Nat)) (gI s (p : Nat)), bb.1 ≤ x := by
    intro x hx
    rw [hks] at hx ksort
    rw [List.pairwise_cons] at ksort
    rcases List.mem_cons.1 hx with rfl | hx
    · exact Int.le_refl _
    · have := ksort.1 x hx; omega
  have h0 : ((alOf N H A).kindsR (gI w (p : Nat)) (gI s (p : Nat)))[0]? = some bb.1 := by rw [hks]; rfl
  rw [hF] at c56
  generalize (alOf N H A).kindsR (gI w (p : Nat)) (gI s (p : Nat)) = KS at *
  have b0 := kb bb.1 (List.mem_of_getElem? h0)
  have cb := cost_bd bb.1
  have h0l := (List.getElem?_eq_some_iff.1 h0).1
  generalize (alOf N H A).lies s most p w x = L at *
  obtain ⟨rfl, hH, hA, lH, lA⟩ := v
  have o1 := ls_one hH
  have o2 := ls_one hA
  have pw : (p : Int) < (w.length : Nat) := by omega
  have ps : (p : Int) < (s.length : Nat) := by omega
  refine w63 ?_
  dsimp only [c63, sop, gop, nop, qmv, qsg, qex, qld, qcl, qln, qix, qbo, qt, qi]
  simp -implicitDefEqProofs only [go_sem, simprocAttr, o1, o2]
  refine call1 [] false (c56) ?_
  simp -implicitDefEqProofs only [go_sem, simprocAttr, fewL, fewN, Option.isSome, index_map h1 idx_26 wp rfl, index_map h2 idx_26 sp rfl, o1, o2]
  refine call1 [] false (c55) ?_
  simp -implicitDefEqProofs only [go_sem, simprocAttr]
  refine lpL (β := Unit) 38 [17, 18] 38 [] KS (by omega) (fun _ _ _ => True) (fun k _ ρ h => ρ 18 = .fv (.int k) ∧ ρ 17 = .fv (.int (if k = 0 then 9 else cost bb.1))) () trivial (by simp -implicitDefEqProofs only [go_sem, simprocAttr, if_true]) ?_ ?_
  · rintro _ ρ h _ ⟨r18, r17⟩
    rw [if_neg (by omega)] at r17
    simp -implicitDefEqProofs only [go_sem, simprocAttr, r18, ints_len]
    refine lpH 51 [19] 51 [] (fun k : Nat => 4 - k) (fun k => k ≤ 4 ∧ ∀ j : Nat, j < k → ¬ (exF H A (gI w (p : Nat)) (gI s (p : Nat)) (j : Nat) x = true ∧ r.2 - cost bb.1 + cost (j : Nat) ≤ most)) (fun k ρ h => ρ 19 = .fv (.int k)) 0 ⟨by omega, fun j hj => by omega⟩ (by simp -implicitDefEqProofs only [go_sem, simprocAttr]) ?_
    rintro k ρ2 h2' ⟨hk, hno⟩ r19
    by_cases q : k < 4
    · have q' : (k : Int) < 4 := by omega
      have hwk : IntKind.i64.wrap ((k : Int) + 1) = ((k + 1 : Nat) : Int) := wr _ (by omega) (by omega)
      have ck := cost_bd (k : Nat)
      have wa : IntKind.i64.wrap (r.2 - cost bb.1) = r.2 - cost bb.1 := wr _ (by omega) (by omega)
      have wb : IntKind.i64.wrap (r.2 - cost bb.1 + cost (k : Nat)) = r.2 - cost bb.1 + cost (k : Nat) := wr _ (by omega) (by omega)
      have c := c83 (k : Nat) (by omega) (by omega)
      have c84 := t84 (k : Nat) (by omega) (by omega)
      cases hb : exF H A (gI w (p : Nat)) (gI s (p : Nat)) (k : Nat) x with
      | true =>
        rw [hb] at c
        simp -implicitDefEqProofs only [go_sem, simprocAttr, r19, q', index_map h1 idx_26 wp rfl, index_map h2 idx_26 sp rfl, o1, o2]
        refine call1 [] false (c) ?_
        by_cases q2 : r.2 - cost bb.1 + cost (k : Nat) ≤ most
        · simp -implicitDefEqProofs only [go_sem, simprocAttr, r17, wa, r19]
          refine call1 [] false (c84) ?_
          simp -implicitDefEqProofs only [go_sem, simprocAttr, wb, q2]
          exact ret_eq (by rw [show L = true from lex.2 ⟨k, q, hb, q2⟩])
        · simp -implicitDefEqProofs only [go_sem, simprocAttr, r17, wa, r19]
          refine call1 [] false (c84) ?_
          simp -implicitDefEqProofs only [go_sem, simprocAttr, wb, q2, r19, hwk]
          refine nxt (k + 1) (by omega) ⟨by omega, fun j hj => ?_⟩ ?_
          · by_cases e : j = k
            · subst e; exact fun h => q2 h.2
            · exact hno j (by omega)
          · simp -implicitDefEqProofs only [go_sem, simprocAttr]
      | false =>
        rw [hb] at c
        simp -implicitDefEqProofs only [go_sem, simprocAttr, r19, q', index_map h1 idx_26 wp rfl, index_map h2 idx_26 sp rfl, o1, o2]
        refine call1 [] false (c) ?_
        simp -implicitDefEqProofs only [go_sem, simprocAttr, r19, hwk]
        refine nxt (k + 1) (by omega) ⟨by omega, fun j hj => ?_⟩ ?_
        · by_cases e : j = k
          · subst e; exact fun h => by rw [hb] at h; simp at h
          · exact hno j (by omega)
        · simp -implicitDefEqProofs only [go_sem, simprocAttr]
    · obtain rfl : k = 4 := by omega
      have q' : ¬ ((4 : Nat) : Int) < 4 := by omega
      have hL : L = false := by
        cases e : L with
        | false => rfl
        | true => obtain ⟨k, k4, h⟩ := lex.1 e; exact absurd h (hno k k4)
      simp -implicitDefEqProofs only [go_sem, simprocAttr, r19, q']
      exact ret_eq (by rw [hL])
  · rintro y ys k _ ρ h hy hk hm hk' hwk _ ⟨r18, r17⟩
    have yb := kb y hm
    have c84 := t84 y yb.1 yb.2.1
    have gy : (ints KS)[k]? = some (.int y) := by simp [ints, hy]
    have cm := cost_mono b0.1 (hmin y hm) yb.2.1
    have em : min (if k = 0 then 9 else cost bb.1) (cost y) = cost bb.1 := by
      by_cases e : k = 0
      · subst e
        rw [h0] at hy
        simp at hy
        rw [if_pos rfl, ← hy]; omega
      · rw [if_neg e]; omega
    have hmn : min2V (.int .i64 (if k = 0 then 9 else cost bb.1)) (.int .i64 (cost y)) = some (.int .i64 (cost bb.1)) := by rw [min2_j, em]
    simp -implicitDefEqProofs only [go_sem, simprocAttr, r18, ints_len, hk', gy, r17]
    refine call1 [] false (c84) ?_
    simp -implicitDefEqProofs only [go_sem, simprocAttr, hmn, r18, hwk]
    refine nxtL () trivial ?_
    simp -implicitDefEqProofs only [go_sem, simprocAttr]
end S07

namespace S07
open Go Abs
theorem t28 {st : FV} {N : Int} {hs al : FV} {H A : List (Int × Int)} (v : SetV st N hs al H A) (eA : errA N H A = 0) {sW ss : FV} {W : List (List Int)} {s : List Int} (hW : Lists sW W) (h2 : lsOf ss = some (ints s)) (W5 : W.length ≤ 5) (hWw : ∀ w ∈ W, WordOk N w) (sl : s.length ≤ 1000) (most : Int) {p : Nat} (hp : p < s.length) :
    Fn Q 28 [.fo st, .fo sW, .fo ss, .fo (.int most), .fo (.int (p : Nat))] (.one (.fx (.int ((alOf N H A).leftR W s most p (meantR N H A W s most))))) := by
  obtain ⟨n0, n8, _⟩ := errA_ok eA
  have c27 := t27 v eA hW h2 W5 hWw sl most
  have c63 := fun {sw : FV} {w : List Int} {r : List Int × Int} {x : Int} (h1 : lsOf sw = some (ints w)) hl l6 hw hF hp' x0 x1 => t63 v eA (sw := sw) (w := w) (r := r) (most := most) (x := x) (p := p) h1 h2 hl l6 hw hF hp' x0 x1
  have mmem := fun i hi => meantF_mem (q := alOf N H A) (s := s) (most := most) W 0 i hi
  have mlen := meantF_len (q := alOf N H A) (s := s) (most := most) W 0
  rw [show (alOf N H A).meantF s most W 0 = meantR N H A W s most from rfl] at mmem mlen
  generalize meantR N H A W s most = MT at *
  obtain ⟨wl, w1, w2, w3⟩ := hW
  have la : wl.length = W.length := by rw [← w2]; simp
  obtain ⟨rfl, hH, hA, lH, lA⟩ := v
  have o1 := ls_one hH
  have o2 := ls_one hA
  refine w28 ?_
  dsimp only [c28, sop, gop, nop, qmv, qsg, qex, qld, qcl, qln, qix, qbo, qt, qi]
  simp -implicitDefEqProofs only [go_sem, simprocAttr, o1, o2]
  refine call1 [] false (c27) ?_
  simp -implicitDefEqProofs only [go_sem, simprocAttr]
  refine lpH 21 [12, 13, 14, 15] 21 [] (fun k : Nat => N.toNat - k) (fun k => k ≤ N.toNat) (fun k ρ h => ρ 13 = .fv (.int k) ∧ ρ 12 = .fv (.int (maxN (fun st => (alOf N H A).cnt W s most p (st : Nat) MT) k))) 0 (by omega) (by simp -implicitDefEqProofs only [go_sem, simprocAttr, maxN]) ?_
  rintro k ρ h hk ⟨r13, r12⟩
  by_cases k3 : k < N.toNat
  · have k3' : (k : Int) < N := by omega
    have hwk : IntKind.i64.wrap ((k : Int) + 1) = ((k + 1 : Nat) : Int) := wr _ (by omega) (by omega)
    simp -implicitDefEqProofs only [go_sem, simprocAttr, r13, k3']
    refine lpL (β := Unit) 27 [14, 15] 27 [] MT (by omega) (fun _ _ _ => True) (fun i _ ρ h => ρ 15 = .fv (.int i) ∧ ρ 14 = .fv (.int ((alOf N H A).cnt W s most p (k : Nat) (MT.take i)))) () trivial (by simp -implicitDefEqProofs only [go_sem, simprocAttr, List.take_zero, Al.cnt]) ?_ ?_
    · rintro _ ρ2 h2' _ ⟨r15, r14⟩
      rw [List.take_length] at r14
      simp -implicitDefEqProofs only [go_sem, simprocAttr, r15, ints_len, r12, r14, max2_j, r13, hwk]
      refine nxt (k + 1) (by omega) (by omega) ?_
      simp -implicitDefEqProofs only [go_sem, simprocAttr, maxN]
    · rintro x xs i _ ρ2 h2' hx hi hm hi' hwi _ ⟨r15, r14⟩
      obtain ⟨m1, m2, m3⟩ := mmem x hm
      simp only [Nat.zero_add, Nat.sub_zero] at m2 m3
      have m1 : (0 : Int) ≤ x := by omega
      have hxl : x.toNat < wl.length := by omega
      obtain ⟨y, hy⟩ : ∃ y, wl[x.toNat]? = some y := ⟨_, List.getElem?_eq_getElem hxl⟩
      obtain ⟨l, hl1, hl2, hl3⟩ := lists_get (s := sW) w2 w3 hy
      have ew : W.getD x.toNat [] = l := by rw [List.getD_eq_getElem?_getD, hl2]; rfl
      rw [ew] at m3
      unfold Al.isMeant at m3
      simp only [Bool.and_eq_true, decide_eq_true_eq] at m3
      obtain ⟨m3, m4⟩ := m3
      have wok := hWw l (List.mem_of_getElem? hl2)
      obtain ⟨r, hr⟩ : ∃ r, (alOf N H A).fewF l s = some r := by
        cases e : (alOf N H A).fewF l s with
        | none => rw [e] at m4; simp at m4
        | some r => exact ⟨r, rfl⟩
      have c := c63 hl1 m3 wok.l6 wok.bd hr (by omega) (x := (k : Nat)) (by omega) k3'
      have es : (alOf N H A).cnt W s most p (k : Nat) (MT.take (i + 1)) = (alOf N H A).cnt W s most p (k : Nat) (MT.take i) + if (alOf N H A).lies s most p l (k : Nat) = true then 1 else 0 := by
        rw [List.take_add_one, hx]
        simp [cnt_append, Al.cnt, hl2]
      have cb := cnt_bd (alOf N H A) W s most p (k : Nat) (MT.take i)
      have tl5 : (MT.take i).length ≤ 5 := by rw [List.length_take]; omega
      have gx : (ints MT)[i]? = some (.int x) := by simp [ints, hx]
      have ix1 : ∀ HH, indexA Q HH 25 (.fv sW) x = some (.fv (.ptr [y])) := by
        intro HH
        have := index_ls w1 (H := HH) idx_25 hy (by rw [hl3]; rfl)
        rw [Int.toNat_of_nonneg m1, hl3] at this
        exact this
      simp -implicitDefEqProofs only [go_sem, simprocAttr, r15, ints_len, hi', gx, ix1, r13, o1, o2]
      refine call1 [] false (c) ?_
      cases hb : (alOf N H A).lies s most p l (k : Nat) with
      | true =>
        rw [hb, if_pos rfl] at es
        have wc : IntKind.i64.wrap ((alOf N H A).cnt W s most p (k : Nat) (MT.take i) + 1) = (alOf N H A).cnt W s most p (k : Nat) (MT.take i) + 1 := wr _ (by omega) (by omega)
        simp -implicitDefEqProofs only [go_sem, simprocAttr, r14, wc, r15, hwi]
        refine nxtL () trivial ?_
        simp -implicitDefEqProofs only [go_sem, simprocAttr, es]
      | false =>
        rw [hb, if_neg (by simp)] at es
        simp -implicitDefEqProofs only [go_sem, simprocAttr, r14, r15, hwi]
        refine nxtL () trivial ?_
        simp -implicitDefEqProofs only [go_sem, simprocAttr, es, r14]
  · obtain rfl : k = N.toNat := by omega
    have k3' : ¬ ((N.toNat : Nat) : Int) < N := by omega
    simp -implicitDefEqProofs only [go_sem, simprocAttr, r13, k3', r12]
    exact ret_eq rfl
theorem askF_two (f : Nat → Int) : ∀ (n p : Nat) (a a' m : Int), (askF f n p (a, m)).2 = (askF f n p (a', m)).2 ∧ (((askF f n p (a, m)).2 = m ∧ (askF f n p (a, m)).1 = a) ∨ ((askF f n p (a, m)).2 < m ∧ (askF f n p (a, m)).1 = (askF f n p (a', m)).1 ∧ 0 ≤ (askF f n p (a, m)).1))
  | 0, p, a, a', m => ⟨rfl, .inl ⟨rfl, rfl⟩⟩
  | n + 1, p, a, a', m => by
    simp only [askF]
    by_cases c : f p < m
    · rw [if_pos c, if_pos c]
      refine ⟨rfl, .inr ?_⟩
      obtain ⟨h1, h2⟩ := askF_two f n (p + 1) (p : Int) (p : Int) (f p)
      rcases h2 with ⟨h2, h3⟩ | ⟨h2, h3, h4⟩
      · exact ⟨by omega, rfl, by omega⟩
      · exact ⟨by omega, rfl, h4⟩
    · rw [if_neg c, if_neg c]
      exact askF_two f n (p + 1) a a' m
end S07

