/- A part of the proof: G07s, G07t, G07u. -/
import Derived.Test.YtmanbdacloeioaaG07p
set_option linter.unusedVariables false
set_option linter.unusedSimpArgs false
set_option maxRecDepth 20000
namespace S07
open Go Abs
def Al.isMeant (q : Al) (s : List Int) (most : Int) (w : List Int) : Bool := decide (w.length = s.length) && (match q.fewF w s with | none => false | some r => decide (r.2 ≤ most))
def Al.meantF (q : Al) (s : List Int) (most : Int) : List (List Int) → Nat → List Int
  | [], _ => []
  | w :: ws, i => if q.isMeant s most w then (i : Int) :: q.meantF s most ws (i + 1) else q.meantF s most ws (i + 1)
def meantR (N : Int) (H A : List (Int × Int)) (W : List (List Int)) (s : List Int) (most : Int) : List Int := (alOf N H A).meantF s most W 0
def errM (N : Int) (H A : List (Int × Int)) (W : List (List Int)) (s : List Int) (most : Int) : Int :=
  if errA N H A ≠ 0 then errA N H A else if 5 < W.length then 5 else if (W.all fun l => isWord N l []) = false ∨ isWord N s [-1] = false then 4 else if inB 0 12 most = false then 3 else if meantR N H A W s most = [] then 7 else 0
theorem errM_ok {N : Int} {H A : List (Int × Int)} {W : List (List Int)} {s : List Int} {most : Int} (h : errM N H A W s most = 0) : errA N H A = 0 ∧ W.length ≤ 5 ∧ (∀ l ∈ W, WordOk N l) ∧ isWord N s [-1] = true ∧ 0 ≤ most ∧ most ≤ 12 ∧ meantR N H A W s most ≠ [] := by
  unfold errM at h
  split at h
  · rename_i h1; exact absurd h h1
  · split at h
    · simp at h
    · split at h
      · simp at h
      · split at h
        · simp at h
        · split at h
          · simp at h
          · rename_i h1 h2 h3 h4 h5
            simp only [not_or, Bool.not_eq_false] at h3
            have := inB_iff.1 (show inB 0 12 most = true by simpa using h4)
            exact ⟨by simpa using h1, by omega, fun l hl => word_ok (List.all_eq_true.1 h3.1 l hl), h3.2, this.1, this.2, h5⟩
def meanV (q : Al) (hs al sW ss : FV) (most : Int) (m : FV) : FV := .agg [q.fv hs al, sW, ss, .int most, m]
def meanZ : FV := .agg [.val (.pointer none), .nil, .nil, .int 0, .nil]
def meanR (N : Int) (H A : List (Int × Int)) (W : List (List Int)) (hs al sW ss : FV) (s : List Int) (most : Int) : FV :=
  if errM N H A W s most = 0 then meanV (alOf N H A) hs al sW ss most (lstN (ints (meantR N H A W s most))) else if errM N H A W s most = 7 then meanV (alOf N H A) hs al sW ss most .nil else meanZ
theorem errA_ne7 (N : Int) (H A : List (Int × Int)) : errA N H A ≠ 7 := by
  unfold errA
  split
  · simp
  · split
    · simp
    · split
      · simp
      · split <;> simp
theorem t60 {s : FV} {N : Int} {hs al sW ss : FV} {H A : List (Int × Int)} {W : List (List Int)} {sg : List Int} {most : Int} (v : SetV s N hs al H A) (hW : Lists sW W) (hl : W.length ≤ 9223372036854775807) (h2 : lsOf ss = some (ints sg)) (hl2 : sg.length ≤ 9223372036854775807) :
    Fn Q 60 [.fo s, .fo sW, .fo ss, .fo (.int most)] (.tup [.fx (meanR N H A W hs al sW ss sg most), .fx (.int (errM N H A W sg most))]) := by
  have c82 := t82 v
  obtain ⟨rfl, hH, hA, lH, lA⟩ := v
  have o1 := ls_one hH
  have o2 := ls_one hA
  have os := ls_one h2
  have fs' := ls_lcells h2
  by_cases e : errA N H A = 0
  · have ok := alOf_ok e
    have c85 := t85 ok (hs := hs) (al := al) hW hl
    have c86 := t86 ok (hs := hs) (al := al) (so := .list false [.int (-1)]) (others := [-1]) h2 hl2 rfl (by simp)
    rw [alphaR_ok e, e] at c82
    simp only [show (alOf N H A).N = N from rfl] at c85 c86
    obtain ⟨wl, hw1, hw2, hw3⟩ := hW
    have ow := ls_one hw1
    have fw := ls_lcells hw1
    have hwl : wl.length = W.length := by rw [← hw2]; simp
    by_cases e5 : 5 < W.length
    · have e5' : (5 : Int) < (W.length : Nat) := by omega
      have eL : errM N H A W sg most = 5 := by simp [errM, e, e5]
      refine w60 ?_
      dsimp only [c60, sop, gop, nop, qmv, qsg, qex, qld, qcl, qln, qix, qbo, qt, qi]
      simp -implicitDefEqProofs only [go_sem, simprocAttr, o1, o2]
      refine call1 [] false (c82) ?_
      simp -implicitDefEqProofs only [go_sem, simprocAttr, lenV_ls hw1, hwl, e5']
      refine ret_tup (fun _ => true) ?_ (by simp [ownNames])
      simp -implicitDefEqProofs only [go_sem, simprocAttr, meanR, eL, meanZ]
    · have e5' : ¬ (5 : Int) < (W.length : Nat) := by omega
      cases ew : W.all fun l => isWord N l []
      · have eL : errM N H A W sg most = 4 := by simp only [errM, e, e5, ew]; simp
        refine w60 ?_
        dsimp only [c60, sop, gop, nop, qmv, qsg, qex, qld, qcl, qln, qix, qbo, qt, qi]
        simp -implicitDefEqProofs only [go_sem, simprocAttr, o1, o2]
        refine call1 [] false (c82) ?_
        simp -implicitDefEqProofs only [go_sem, simprocAttr, lenV_ls hw1, hwl, e5']
        refine call1 [] false (c85) ?_
        simp -implicitDefEqProofs only [go_sem, simprocAttr, ew]
        refine ret_tup (fun _ => true) ?_ (by simp [ownNames])
        simp -implicitDefEqProofs only [go_sem, simprocAttr, meanR, eL, meanZ]
      · cases es : isWord N sg [-1]
        · have eL : errM N H A W sg most = 4 := by simp only [errM, e, e5, ew, es]; simp
          refine w60 ?_
          dsimp only [c60, sop, gop, nop, qmv, qsg, qex, qld, qcl, qln, qix, qbo, qt, qi]
          simp -implicitDefEqProofs only [go_sem, simprocAttr, o1, o2]
          refine call1 [] false (c82) ?_
          simp -implicitDefEqProofs only [go_sem, simprocAttr, lenV_ls hw1, hwl, e5']
          refine call1 [] false (c85) ?_
          simp -implicitDefEqProofs only [go_sem, simprocAttr, ew]
          refine call1 [] true (c86) ?_
          simp -implicitDefEqProofs only [go_sem, simprocAttr, es]
          refine ret_tup (fun _ => true) ?_ (by simp [ownNames])
          simp -implicitDefEqProofs only [go_sem, simprocAttr, meanR, eL, meanZ]
        · cases em : inB 0 12 most
          · have eL : errM N H A W sg most = 3 := by simp only [errM, e, e5, ew, es, em]; simp
            refine w60 ?_
            dsimp only [c60, sop, gop, nop, qmv, qsg, qex, qld, qcl, qln, qix, qbo, qt, qi]
            simp -implicitDefEqProofs only [go_sem, simprocAttr, o1, o2]
            refine call1 [] false (c82) ?_
            simp -implicitDefEqProofs only [go_sem, simprocAttr, lenV_ls hw1, hwl, e5']
            refine call1 [] false (c85) ?_
            simp -implicitDefEqProofs only [go_sem, simprocAttr, ew]
            refine call1 [] true (c86) ?_
            simp -implicitDefEqProofs only [go_sem, simprocAttr, es]
            refine call1 [] true (w1 0 12 most) ?_
            simp -implicitDefEqProofs only [go_sem, simprocAttr, em]
            refine ret_tup (fun _ => true) ?_ (by simp [ownNames])
            simp -implicitDefEqProofs only [go_sem, simprocAttr, meanR, eL, meanZ]
          · have eL : errM N H A W sg most = if meantR N H A W sg most = [] then 7 else 0 := by simp only [errM, e, e5, ew, es, em]; simp
            have hww : ∀ w ∈ W, WordOk N w := fun w hw => word_ok (List.all_eq_true.1 ew w hw)
            have bm := inB_iff.1 em
            rw [meanR, eL]
            have eR : meantR N H A W sg most = (alOf N H A).meantF sg most W 0 := rfl
            rw [eR]
            generalize hqq : alOf N H A = q at *
            have hN : q.N = N := by rw [← hqq]; rfl
            clear hqq eL e eR
            subst hN
            have n1 := ok.n1
            have l6s : ∀ w ∈ W, w.length ≤ 6 := fun w hw => (hww w hw).l6
            refine w60 ?_
            dsimp only [c60, sop, gop, nop, qmv, qsg, qex, qld, qcl, qln, qix, qbo, qt, qi]
            simp -implicitDefEqProofs only [go_sem, simprocAttr, o1, o2]
            refine call1 [] false (c82) ?_
            simp -implicitDefEqProofs only [go_sem, simprocAttr, lenV_ls hw1, hwl, e5']
            refine call1 [] false (c85) ?_
            simp -implicitDefEqProofs only [go_sem, simprocAttr, ew]
            refine call1 [] true (c86) ?_
            simp -implicitDefEqProofs only [go_sem, simprocAttr, es]
            refine call1 [] true (w1 0 12 most) ?_
            simp -implicitDefEqProofs only [go_sem, simprocAttr, em, Al.fv, alphaV, fw, fs', ow, os, lenV_ls hw1]
            refine lpL (β := List Int) 55 [11, 12, 13, 14, 15] 55 [8] wl (by omega) (fun ls k acc => acc ++ q.meantF sg most (ls.map FV.toL) k = q.meantF sg most W 0 ∧ acc.length ≤ k)
              (fun k acc ρ h => ρ 55 = .fv (.int k) ∧ h.gen 8 = 1 ∧ ∃ v, h.obj 8 = some (.box [.fv (q.fv hs al), .fv sW, .fv ss, .fv (.int most), v]) ∧ AccRep h v 83 3 1 (ints acc)) [] ⟨by rw [hw2]; simp, by simp⟩ ?_ ?_ ?_
            · simp -implicitDefEqProofs only [go_sem, simprocAttr, Al.fv, alphaV]
              exact ⟨_, rfl, .inl ⟨rfl, rfl⟩⟩
            · rintro acc ρ h ⟨ea, la⟩ ⟨r55, g8, v, o8, ha⟩
              simp only [List.map_nil, Al.meantF, List.append_nil] at ea
              rw [← ea]
              rcases ha with ⟨h1, rfl⟩ | ⟨rfl, h1, hn⟩
              · have h1' := ints_nil.1 h1
                subst h1'
                simp -implicitDefEqProofs only [go_sem, simprocAttr, r55, g8, o8, eqV, nilEq, und_26, Al.fv, alphaV, fw, fs', ow, os]
                refine ret_tup (fun _ => true) ?_ (by simp [ownNames])
                simp -implicitDefEqProofs only [go_sem, simprocAttr, meanV, Al.fv, alphaV]
              · have hn' : ¬ acc = [] := fun e => hn (ints_nil.2 e)
                simp -implicitDefEqProofs only [go_sem, simprocAttr, r55, g8, o8, h1, eqV, nilEq, und_26, Al.fv, alphaV, fw, fs', ow, os]
                refine ret_tup (fun _ => true) ?_ (by simp [ownNames])
                have he : (ints acc).isEmpty = false := by cases acc with
                  | nil => exact absurd rfl hn'
                  | cons => rfl
                simp -implicitDefEqProofs only [go_sem, simprocAttr, hn', meanV, Al.fv, alphaV, h1, lstN, he]
            · rintro x xs k acc ρ h hx hk hm hk' hw' ⟨ea, la⟩ ⟨r55, g8, v, o8, ha⟩
              obtain ⟨w, hxw, lw⟩ := hw3 x hm
              have hwW : w ∈ W := by rw [← hw2, ← toL_ls hxw]; exact List.mem_map.2 ⟨x, hm, rfl⟩
              have hw := hww w hwW
              have l6 := l6s w hwW
              rw [List.map_cons, toL_ls hxw, Al.meantF] at ea
              have hcx : x.cells = [x] := ls_cells hxw
              have hv := ha.one
              by_cases el : w.length = sg.length
              · have el' : (((w.length : Nat) : Int) != (sg.length : Nat)) = false := by simp [el]
                have c81 := t81 ok (hs := hs) (al := al) hxw h2 el l6 hw.bd
                cases hF : q.fewF w sg with
                | none =>
                  have hM : q.isMeant sg most w = false := by simp [Al.isMeant, el, hF]
                  rw [hF] at c81
                  rw [hM, if_neg (by simp)] at ea
                  simp -implicitDefEqProofs only [go_sem, simprocAttr, r55, hk', index_ls hw1 idx_25 hx (by rw [hcx]; rfl), hcx, lenV_ls hxw, lenV_ls h2, el']
                  refine call1 [] false (c81) ?_
                  simp -implicitDefEqProofs only [go_sem, simprocAttr, Option.isSome, r55, hw']
                  refine nxtL acc ⟨ea, by omega⟩ ?_
                  simp -implicitDefEqProofs only [go_sem, simprocAttr, g8, o8]
                  refine ⟨v, rfl, ?_⟩
                  unfold AccRep at ha ⊢
                  simp -implicitDefEqProofs only [go_sem, simprocAttr]
                  exact ha
                | some r =>
                  rw [hF] at c81
                  by_cases hr : r.2 ≤ most
                  · have hM : q.isMeant sg most w = true := by simp [Al.isMeant, el, hF, hr]
                    rw [hM, if_pos rfl] at ea
                    simp -implicitDefEqProofs only [go_sem, simprocAttr, r55, hk', index_ls hw1 idx_25 hx (by rw [hcx]; rfl), hcx, lenV_ls hxw, lenV_ls h2, el']
                    refine call1 [] false (c81) ?_
                    simp -implicitDefEqProofs only [go_sem, simprocAttr, Option.isSome, fewN, hr, g8, o8]
                    refine app_acc (acc := ints acc) (by unfold AccRep at ha ⊢; simp -implicitDefEqProofs only [go_sem, simprocAttr]; exact ha) idx_26 (by decide) (by simp -implicitDefEqProofs only [go_sem, simprocAttr]; rfl) (by simp) (by simp [FV.cells]) (by simp -implicitDefEqProofs only [go_sem, simprocAttr]) (by simp [byt_3, ints]; omega) (by simp [maxLen, ints]; omega) (by simp) ?_
                    simp -implicitDefEqProofs only [go_sem, simprocAttr, g8, o8, r55, hw']
                    refine nxtL (acc ++ [(k : Int)]) ⟨by rw [← ea]; simp, by simp; omega⟩ ?_
                    simp -implicitDefEqProofs only [go_sem, simprocAttr, g8]
                    exact ⟨_, rfl, .inr ⟨by simp -implicitDefEqProofs only [go_sem, simprocAttr], by simp -implicitDefEqProofs only [go_sem, simprocAttr, ints, List.map_append], by simp [ints]⟩⟩
                  · have hM : q.isMeant sg most w = false := by simp [Al.isMeant, hF, hr]
                    rw [hM, if_neg (by simp)] at ea
                    simp -implicitDefEqProofs only [go_sem, simprocAttr, r55, hk', index_ls hw1 idx_25 hx (by rw [hcx]; rfl), hcx, lenV_ls hxw, lenV_ls h2, el']
                    refine call1 [] false (c81) ?_
                    simp -implicitDefEqProofs only [go_sem, simprocAttr, Option.isSome, fewN, hr, r55, hw']
                    refine nxtL acc ⟨ea, by omega⟩ ?_
                    simp -implicitDefEqProofs only [go_sem, simprocAttr, g8, o8]
                    refine ⟨v, rfl, ?_⟩
                    unfold AccRep at ha ⊢
                    simp -implicitDefEqProofs only [go_sem, simprocAttr]
                    exact ha
              · have el' : (((w.length : Nat) : Int) != (sg.length : Nat)) = true := by simp; omega
                have hM : q.isMeant sg most w = false := by simp [Al.isMeant, el]
                rw [hM, if_neg (by simp)] at ea
                simp -implicitDefEqProofs only [go_sem, simprocAttr, r55, hk', index_ls hw1 idx_25 hx (by rw [hcx]; rfl), hcx, lenV_ls hxw, lenV_ls h2, el', r55, hw']
                refine nxtL acc ⟨ea, by omega⟩ ?_
                simp -implicitDefEqProofs only [go_sem, simprocAttr, g8, o8]
                refine ⟨v, rfl, ?_⟩
                unfold AccRep at ha ⊢
                simp -implicitDefEqProofs only [go_sem, simprocAttr]
                exact ha
  · have e' : (errA N H A != 0) = true := by simpa using e
    have e7 := errA_ne7 N H A
    have eL : errM N H A W sg most = errA N H A := by simp [errM, e]
    have eR : alphaR N hs al H A = .val (.pointer none) := by simp [alphaR, e]
    rw [eR] at c82
    refine w60 ?_
    dsimp only [c60, sop, gop, nop, qmv, qsg, qex, qld, qcl, qln, qix, qbo, qt, qi]
    simp -implicitDefEqProofs only [go_sem, simprocAttr, o1, o2]
    refine call1 [] false (c82) ?_
    simp -implicitDefEqProofs only [go_sem, simprocAttr, e']
    refine ret_tup (fun _ => true) ?_ (by simp [ownNames])
    simp -implicitDefEqProofs only [go_sem, simprocAttr, meanR, eL, e, e7, meanZ]
end S07

namespace S07
open Go Abs
theorem t18 {s : FV} {N : Int} {hs al sW ss : FV} {H A : List (Int × Int)} {W : List (List Int)} {sg : List Int} {most : Int} (v : SetV s N hs al H A) (hW : Lists sW W) (hl : W.length ≤ 9223372036854775807) (h2 : lsOf ss = some (ints sg)) (hl2 : sg.length ≤ 9223372036854775807) :
    Fn Q 18 [.fo s, .fo sW, .fo ss, .fo (.int most)] (.tup [.fx (if errM N H A W sg most = 0 then lstN (ints (meantR N H A W sg most)) else .nil), .fx (.int (errM N H A W sg most))]) := by
  have c := t60 v hW hl h2 hl2 (most := most)
  have os := ls_one h2
  have fs' := ls_lcells h2
  obtain ⟨wl, hw1, hw2, hw3⟩ := hW
  have ow := ls_one hw1
  have fw := ls_lcells hw1
  obtain ⟨rfl, hH, hA, lH, lA⟩ := v
  have o1 := ls_one hH
  have o2 := ls_one hA
  by_cases e : errM N H A W sg most = 0
  · have ol := lstN_one (ints (meantR N H A W sg most))
    rw [meanR, if_pos e, e] at c
    refine w18 ?_
    dsimp only [c18, sop, gop, nop, qmv, qsg, qex, qld, qcl, qln, qix, qbo, qt, qi]
    simp -implicitDefEqProofs only [go_sem, simprocAttr, o1, o2]
    refine call1 [] false (c) ?_
    simp -implicitDefEqProofs only [go_sem, simprocAttr, meanV, Al.fv, alphaV, os, ow, fw, fs', ol]
    refine ret_tup (fun _ => true) ?_ (by simp [ownNames])
    simp -implicitDefEqProofs only [go_sem, simprocAttr, e]
  · have e' : (errM N H A W sg most != 0) = true := by simpa using e
    rw [meanR, if_neg e] at c
    by_cases e7 : errM N H A W sg most = 7
    · rw [if_pos e7, e7] at c
      refine w18 ?_
      dsimp only [c18, sop, gop, nop, qmv, qsg, qex, qld, qcl, qln, qix, qbo, qt, qi]
      simp -implicitDefEqProofs only [go_sem, simprocAttr, o1, o2]
      refine call1 [] false (c) ?_
      simp -implicitDefEqProofs only [go_sem, simprocAttr, meanV, Al.fv, alphaV, os, ow, fw, fs']
      refine ret_tup (fun _ => true) ?_ (by simp [ownNames])
      simp -implicitDefEqProofs only [go_sem, simprocAttr, e7]
    · rw [if_neg e7] at c
      refine w18 ?_
      dsimp only [c18, sop, gop, nop, qmv, qsg, qex, qld, qcl, qln, qix, qbo, qt, qi]
      simp -implicitDefEqProofs only [go_sem, simprocAttr, o1, o2]
      refine call1 [] false (c) ?_
      simp -implicitDefEqProofs only [go_sem, simprocAttr, meanZ, e']
      refine ret_tup (fun _ => true) ?_ (by simp [ownNames])
      simp -implicitDefEqProofs only [go_sem, simprocAttr, e]
theorem ki {n : Int} (h1 : 0 ≤ n) (h2 : n < 8) : KeyOk Q 3 (.int n) := by
  have hw : (Lit.int IntKind.i64 n).wf = true := by simp [Lit.wf, IntKind.min, IntKind.max, IntKind.signed, IntKind.bits]; omega
  exact ⟨.int .i64 n, .int .i64 n, rfl, by simp only [keyOf, und_3, mapKey, hw]; rfl⟩
def stF (most d : Int) : List (Int × Int) → List (Int × Bool) → List (Int × Bool)
  | [], M => M
  | x :: xs, M => stF most d xs (if d + cost x.1 ≤ most then kUp M x.2 false true else M)
theorem stF_keys (most d : Int) (st : Int) : ∀ (xs : List (Int × Int)) (M : List (Int × Bool)), st ∈ (stF most d xs M).map Prod.fst ↔ st ∈ M.map Prod.fst ∨ ∃ x ∈ xs, x.2 = st ∧ d + cost x.1 ≤ most
  | [], M => by simp [stF]
  | x :: xs, M => by
    rw [stF, stF_keys most d st xs]
    by_cases h : d + cost x.1 ≤ most
    · rw [if_pos h, kUp_keys]
      constructor
      · rintro ((rfl | h1) | ⟨y, hy, h2⟩)
        · exact .inr ⟨x, by simp, rfl, h⟩
        · exact .inl h1
        · exact .inr ⟨y, by simp [hy], h2⟩
      · rintro (h1 | ⟨y, hy, h2, h3⟩)
        · exact .inl (.inr h1)
        · rcases List.mem_cons.1 hy with rfl | hy
          · exact .inl (.inl h2.symm)
          · exact .inr ⟨y, hy, h2, h3⟩
    · rw [if_neg h]
      constructor
      · rintro (h1 | ⟨y, hy, h2⟩)
        · exact .inl h1
        · exact .inr ⟨y, by simp [hy], h2⟩
      · rintro (h1 | ⟨y, hy, h2, h3⟩)
        · exact .inl h1
        · rcases List.mem_cons.1 hy with rfl | hy
          · exact absurd h3 h
          · exact .inr ⟨y, hy, h2, h3⟩
theorem stF_nodup (most d : Int) : ∀ (xs : List (Int × Int)) (M : List (Int × Bool)), (M.map Prod.fst).Nodup → ((stF most d xs M).map Prod.fst).Nodup
  | [], M, h => h
  | x :: xs, M, h => by
    rw [stF]
    refine stF_nodup most d xs _ ?_
    split
    · exact kUp_nodup _ _ _ h
    · exact h
theorem readK_mem {q : Al} {l kd : Int} : ∀ (n o : Nat) (x : Int × Int × Int), x ∈ q.readK l kd o n → 0 ≤ x.2.1 ∧ x.2.1 < (o + n : Nat)
  | 0, o, x, h => by simp [Al.readK] at h
  | n + 1, o, x, h => by
    unfold Al.readK at h
    split at h
    · rcases List.mem_cons.1 h with rfl | h
      · dsimp only; omega
      · have := readK_mem n (o + 1) x h; omega
    · have := readK_mem n (o + 1) x h; omega
theorem ways_mem {q : Al} {l s : Int} (l0 : 0 ≤ l) (l1 : l < q.N) {x : Int × Int} (h : x ∈ q.ways l s) : 0 ≤ x.2 ∧ x.2 < q.N := by
  unfold Al.ways waysOf at h
  obtain ⟨y, hy, rfl⟩ := List.mem_map.1 h
  have hy := (List.mem_filter.1 hy).1
  simp only [Al.reads, List.mem_cons, List.mem_append] at hy
  rcases hy with rfl | rfl | hy | hy
  · exact ⟨l0, l1⟩
  · exact ⟨l0, l1⟩
  · have := readK_mem _ _ _ hy; dsimp only; omega
  · have := readK_mem _ _ _ hy; dsimp only; omega
theorem fewF_bd {q : Al} : ∀ (w s : List Int) (r : List Int × Int), q.fewF w s = some r → 0 ≤ r.2 ∧ r.2 ≤ 2 * w.length
  | [], _, r, h => by simp [Al.fewF] at h; subst h; simp
  | _ :: _, [], r, h => by simp [Al.fewF] at h; subst h; simp; omega
  | l :: ls, s :: ss, r, h => by
    unfold Al.fewF at h
    cases hb : q.best l s with
    | none => simp [hb] at h
    | some b =>
      simp only [hb, Option.map_eq_some_iff] at h
      obtain ⟨r', h1, rfl⟩ := h
      have := fewF_bd ls ss r' h1
      have := cost_bd b.1
      simp only [List.length_cons]
      push_cast
      omega
theorem fewN_bd {q : Al} (w s : List Int) : 0 ≤ fewN (q.fewF w s) ∧ fewN (q.fewF w s) ≤ 2 * w.length := by
  cases h : q.fewF w s with
  | none => simp [fewN]; omega
  | some r => exact fewF_bd w s r h
def Al.rest (q : Al) (w s : List Int) (p : Nat) : Int := fewN (q.fewF w s) - fewN (q.fewF [gI w (p : Nat)] [gI s (p : Nat)])
theorem slice1 {l : List Int} {p : Nat} (h : p < l.length) : ((ints l).take (p + 1)).drop p = ints [gI l (p : Nat)] := by
  have h1 : l[p]? = some (gI l (p : Nat)) := by have := gI_get (p := l) (i := (p : Int)) (by omega) (by omega); simpa using this
  unfold ints
  rw [← List.map_take, ← List.map_drop]
  congr 1
  apply List.ext_getElem?
  intro j
  rw [List.getElem?_drop, List.getElem?_take]
  cases j with
  | zero => simp [h1]
  | succ j => rw [if_neg (by omega)]; simp
theorem t88 {q : Al} (ok : q.Ok) {hs al sW ss sw m : FV} {wl : List FV} {w s : List Int} {most : Int} {p : Nat} (hm : (LV.fv m).one = true ∧ (LV.fv m).cells = [.fv m]) (hW : lsOf sW = some wl) (h1 : lsOf sw = some (ints w)) (h2 : lsOf ss = some (ints s)) (hl : w.length = s.length) (l6 : w.length ≤ 6) (hw : ∀ n ∈ w, 0 ≤ n ∧ n < q.N) (hp : p < w.length) (m0 : 0 ≤ most) (m1 : most ≤ 12) :
    Fn Q 88 [.fo (meanV q hs al sW ss most m), .fo sw, .fo (.int p)] (.one (.fx (.map (esF FV.int FV.bool (stF most (q.rest w s p) (q.ways (gI w (p : Nat)) (gI s (p : Nat))) []))))) := by
  have ow := ls_one hW
  have fw := ls_lcells hW
  have os := ls_one h2
  have fs' := ls_lcells h2
  have hps : p < s.length := by omega
  have x1 : w[p]? = some (gI w (p : Nat)) := by have := gI_get (p := w) (i := (p : Int)) (by omega) (by omega); simpa using this
  have x2 : s[p]? = some (gI s (p : Nat)) := by have := gI_get (p := s) (i := (p : Int)) (by omega) (by omega); simpa using this
  have hwp := hw _ (List.mem_of_getElem? x1)
  obtain ⟨f1, rfl⟩ : ∃ f, sw = .list f (ints w) := by
    rcases ls_cases h1 with h | ⟨_, e⟩
    · exact h
    · have := ints_nil.1 e; subst this; simp at hp
  obtain ⟨f2, rfl⟩ : ∃ f, ss = .list f (ints s) := by
    rcases ls_cases h2 with h | ⟨_, e⟩
    · exact h
    · have := ints_nil.1 e; subst this; simp at hps
  have c1 := t81 ok (hs := hs) (al := al) h1 h2 hl l6 hw
  have c2 := fun g1 g2 => t81 ok (hs := hs) (al := al) (sw := .list g1 (ints [gI w (p : Nat)])) (ss := .list g2 (ints [gI s (p : Nat)])) (w := [gI w (p : Nat)]) (s := [gI s (p : Nat)]) rfl rfl rfl (by simp) (by simpa using hwp)
  have c3 := t79 ok (hs := hs) (al := al) (l := gI w (p : Nat)) (s := gI s (p : Nat)) hwp.1 hwp.2
  have b1 := fewN_bd (q := q) w s
  have b2 := fewN_bd (q := q) [gI w (p : Nat)] [gI s (p : Nat)]
  have er : q.rest w s p = fewN (q.fewF w s) - fewN (q.fewF [gI w (p : Nat)] [gI s (p : Nat)]) := rfl
  rw [er]
  have hls := lsOf_lstN ((q.ways (gI w (p : Nat)) (gI s (p : Nat))).map pF)
  have hwm := fun x hx => ways_mem (q := q) (s := gI s (p : Nat)) hwp.1 hwp.2 (x := x) hx
  have hwl := ways_len ok.n1 (gI w (p : Nat)) (gI s (p : Nat))
  have n1 := ok.n1
  generalize q.ways (gI w (p : Nat)) (gI s (p : Nat)) = ws at *
  generalize lstN (ws.map pF) = sws at *
  have s1 := slice1 hp
  have s2 := slice1 hps
  have z1 : (0 : Int) ≤ (p : Int) := by omega
  have z2 : ((p + 1 : Nat) : Int) ≤ (w.length : Nat) := by omega
  have z3 : ((p + 1 : Nat) : Int) ≤ (s.length : Nat) := by omega
  have wp : IntKind.i64.wrap ((p : Int) + 1) = ((p + 1 : Nat) : Int) := wr _ (by omega) (by omega)
  have z4 : (p : Int) ≤ ((p + 1 : Nat) : Int) := by omega
  have t1 : (ints w)[p]? = some (.int (gI w (p : Nat))) := by simp [ints, x1]
  have t2 : (ints s)[p]? = some (.int (gI s (p : Nat))) := by simp [ints, x2]
  have e2 : ∀ (l : List Int), (∀ x ∈ ints l, x.cells.length = 1) := fun l x hx => (ints_elem l x hx).1
  generalize hF1 : q.fewF w s = F1 at *
  generalize hF2 : q.fewF [gI w (p : Nat)] [gI s (p : Nat)] = F2 at *
  simp only [List.length_cons, List.length_nil] at b2
  have wd : IntKind.i64.wrap (fewN F1 - fewN F2) = fewN F1 - fewN F2 := wr _ (by omega) (by omega)
  refine w88 ?_
  dsimp only [c88, sop, gop, nop, qmv, qsg, qex, qld, qcl, qln, qix, qbo, qt, qi]
  simp -implicitDefEqProofs only [go_sem, simprocAttr, meanV, Al.fv, alphaV, ow, fw, os, fs', hm.1, hm.2]
  refine mpMake ?_
  simp -implicitDefEqProofs only [go_sem, simprocAttr]
  refine call1 [] false (c1) ?_
  simp -implicitDefEqProofs only [go_sem, simprocAttr, wp, viewL, Option.elim, z1, z2, z3, z4, eq_true (e2 w), eq_true (e2 s), s1, s2, implies_true]
  refine call1 [] false (c2 _ _) ?_
  simp -implicitDefEqProofs only [go_sem, simprocAttr, t1, t2]
  refine call1 [] false (c3) ?_
  simp -implicitDefEqProofs only [go_sem, simprocAttr, lenV_ls hls]
  refine lpL (β := List (Int × Bool)) 58 [15] 58 [15, 16] ws (by omega) (fun xs k M => stF most (fewN F1 - fewN F2) xs M = stF most (fewN F1 - fewN F2) ws [] ∧ (M.map Prod.fst).Nodup ∧ ∀ e ∈ M, 0 ≤ e.1 ∧ e.1 < q.N)
    (fun k M ρ h => ρ 58 = .fv (.int k) ∧ h.gen 16 = 1 ∧ h.obj 16 = some (.map false (esF FV.int FV.bool M))) [] ⟨rfl, by simp, by simp⟩ ?_ ?_ ?_
  · simp -implicitDefEqProofs only [go_sem, simprocAttr]; rfl
  · rintro M ρ h ⟨eM, nd, hb⟩ ⟨r58, g16, o16⟩
    simp only [stF] at eM
    simp -implicitDefEqProofs only [go_sem, simprocAttr, r58]
    refine ret_fx (fun _ => true) ?_
    simp -implicitDefEqProofs only [go_sem, simprocAttr, g16, o16, eM]
  · rintro x xs k M ρ h hx hk hm' hk' hw' ⟨eM, nd, hb⟩ ⟨r58, g16, o16⟩
    have hxm := hwm x hm'
    have c99 := t99 x
    have cb := cost_bd x.1
    have wc : IntKind.i64.wrap (fewN F1 - fewN F2 + cost x.1) = fewN F1 - fewN F2 + cost x.1 := wr _ (by omega) (by omega)
    rw [stF] at eM
    by_cases hc : fewN F1 - fewN F2 + cost x.1 ≤ most
    · rw [if_pos hc] at eM
      simp -implicitDefEqProofs only [go_sem, simprocAttr, r58, hk', index_map hls idx_138 hx rfl, pF]
      refine W_opsD _ _ _ (Vs []) ?_ ?_
      · decide
      simp -implicitDefEqProofs only [go_sem, simprocAttr, wd]
      refine callD [] false [.fo (pF x)] [] c99 ⟨rfl, trivial⟩ rfl (.inl rfl) ?_
      simp -implicitDefEqProofs only [go_sem, simprocAttr, wc, hc]
      refine mpUpd (kF := FV.int) (vF := FV.bool) (M := M) (k := x.2) (v' := true) mty_151 (by simp -implicitDefEqProofs only [go_sem, simprocAttr]; rfl) (by simp -implicitDefEqProofs only [go_sem, simprocAttr, g16, o16]) (by simp -implicitDefEqProofs only [go_sem, simprocAttr]) (by simp -implicitDefEqProofs only [go_sem, simprocAttr]) int_inj key_3 (fun e he => ki (hb e he).1 (by have := hb e he; omega)) (ki hxm.1 (by omega)) nd false ?_
      simp -implicitDefEqProofs only [go_sem, simprocAttr, r58, hw']
      refine nxtL (kUp M x.2 false true) ⟨eM, kUp_nodup _ _ _ nd, ?_⟩ ?_
      · intro e he
        rcases kUp_mem he with he | rfl
        · exact hb e he
        · exact hxm
      · simp -implicitDefEqProofs only [go_sem, simprocAttr, g16]
    · rw [if_neg hc] at eM
      simp -implicitDefEqProofs only [go_sem, simprocAttr, r58, hk', index_map hls idx_138 hx rfl, pF]
      refine W_opsD _ _ _ (Vs []) ?_ ?_
      · decide
      simp -implicitDefEqProofs only [go_sem, simprocAttr, wd]
      refine callD [] false [.fo (pF x)] [] c99 ⟨rfl, trivial⟩ rfl (.inl rfl) ?_
      simp -implicitDefEqProofs only [go_sem, simprocAttr, wc, hc, r58, hw']
      refine nxtL M ⟨eM, nd, hb⟩ ?_
      simp -implicitDefEqProofs only [go_sem, simprocAttr, g16, o16]
end S07

namespace S07
open Go Abs
def Al.lies (q : Al) (s : List Int) (most : Int) (p : Nat) (w : List Int) (st : Int) : Bool := (q.ways (gI w (p : Nat)) (gI s (p : Nat))).any fun x => x.2 == st && decide (q.rest w s p + cost x.1 ≤ most)
theorem lies_iff {q : Al} {s : List Int} {most : Int} {p : Nat} {w : List Int} {st : Int} : q.lies s most p w st = true ↔ st ∈ (stF most (q.rest w s p) (q.ways (gI w (p : Nat)) (gI s (p : Nat))) []).map Prod.fst := by
  rw [stF_keys]
  simp [Al.lies]
def Al.cnt (q : Al) (W : List (List Int)) (s : List Int) (most : Int) (p : Nat) (st : Int) : List Int → Int
  | [] => 0
  | i :: is => (if q.lies s most p (W.getD i.toNat []) st then 1 else 0) + q.cnt W s most p st is
def Al.leftR (q : Al) (W : List (List Int)) (s : List Int) (most : Int) (p : Nat) (meant : List Int) : Int := maxN (fun st => q.cnt W s most p (st : Nat) meant) q.N.toNat
theorem cnt_append (q : Al) (W : List (List Int)) (s : List Int) (most : Int) (p : Nat) (st : Int) : ∀ (a b : List Int), q.cnt W s most p st (a ++ b) = q.cnt W s most p st a + q.cnt W s most p st b
  | [], b => by simp [Al.cnt]
  | i :: is, b => by simp only [List.cons_append, Al.cnt, cnt_append q W s most p st is b]; omega
theorem cnt_bd (q : Al) (W : List (List Int)) (s : List Int) (most : Int) (p : Nat) (st : Int) : ∀ (a : List Int), 0 ≤ q.cnt W s most p st a ∧ q.cnt W s most p st a ≤ a.length
  | [] => by simp [Al.cnt]
  | i :: is => by
    have := cnt_bd q W s most p st is
    simp only [Al.cnt, List.length_cons]
    push_cast
    split <;> omega
theorem nodup_erase {α : Type} {l : List α} {i : Nat} {a : α} (nd : l.Nodup) (h : l[i]? = some a) : a ∉ l.eraseIdx i ∧ (l.eraseIdx i).Nodup ∧ ∀ x, x ∈ l ↔ x = a ∨ x ∈ l.eraseIdx i := by
  induction l generalizing i with
  | nil => simp at h
  | cons y l ih =>
    rw [List.nodup_cons] at nd
    cases i with
    | zero => simp at h; subst h; exact ⟨by simpa using nd.1, by simpa using nd.2, by simp⟩
    | succ i =>
      simp only [List.getElem?_cons_succ] at h
      obtain ⟨h1, h2, h3⟩ := ih nd.2 h
      have hne : y ≠ a := by rintro rfl; exact nd.1 (List.mem_of_getElem? h)
      simp only [List.eraseIdx_cons_succ, List.mem_cons, not_or, List.nodup_cons]
      refine ⟨⟨fun e => hne e.symm, h1⟩, ⟨fun hy => nd.1 ((h3 y).2 (.inr hy)), h2⟩, fun x => ?_⟩
      rw [h3 x]
      constructor
      · rintro (h | h | h) <;> simp [h]
      · rintro (h | h | h) <;> simp [h]
theorem fst_erase {α β : Type} (l : List (α × β)) (i : Nat) : (l.eraseIdx i).map Prod.fst = (l.map Prod.fst).eraseIdx i := (erase_map Prod.fst l i).symm
structure MeanOk (q : Al) (W : List (List Int)) (s : List Int) (meant : List Int) (wl : List FV) : Prop where
  hw2 : wl.map FV.toL = W
  hw3 : ∀ x ∈ wl, ∃ l : List Int, lsOf x = some (ints l) ∧ l.length ≤ 9223372036854775807
  ok : ∀ i ∈ meant, 0 ≤ i ∧ i < W.length ∧ (W.getD i.toNat []).length = s.length ∧ WordOk q.N (W.getD i.toNat [])
  few : meant.length ≤ 5
theorem t61 {q : Al} (ok : q.Ok) {hs al sW ss : FV} {wl : List FV} {W : List (List Int)} {s meant : List Int} {most : Int} {p : Nat} (hW : lsOf sW = some wl) (h2 : lsOf ss = some (ints s)) (M : MeanOk q W s meant wl) (hp : p < s.length) (m0 : 0 ≤ most) (m1 : most ≤ 12) :
    Fn Q 61 [.fo (meanV q hs al sW ss most (lstN (ints meant))), .fo (.int p)] (.one (.fx (.int (q.leftR W s most p meant)))) := by
  obtain ⟨hw2, hw3, mok, few⟩ := M
  have ow := ls_one hW
  have fw := ls_lcells hW
  have os := ls_one h2
  have fs' := ls_lcells h2
  have hml := lsOf_lstN (ints meant)
  have om := ls_one hml
  have fm := ls_lcells hml
  have n1 := ok.n1
  generalize lstN (ints meant) = sm at *
  refine w61 ?_
  dsimp only [c61, sop, gop, nop, qmv, qsg, qex, qld, qcl, qln, qix, qbo, qt, qi]
  simp -implicitDefEqProofs only [go_sem, simprocAttr, meanV, Al.fv, alphaV, ow, fw, os, fs', om, fm]
  refine mpMake ?_
  simp -implicitDefEqProofs only [go_sem, simprocAttr, lenV_ls hml]
  refine lpL (β := List (Int × Int)) 15 [7, 8] 15 [11] meant (by omega) (fun is k C => (C.map Prod.fst).Nodup ∧ (∀ e ∈ C, 0 ≤ e.1 ∧ e.1 < q.N ∧ 1 ≤ e.2) ∧ ∀ st, kGet C st 0 = q.cnt W s most p st (meant.take k))
    (fun k C ρ h => ρ 15 = .fv (.int k) ∧ h.gen 11 = 1 ∧ h.obj 11 = some (.map false (esF FV.int FV.int C))) [] ⟨by simp, by simp, fun st => rfl⟩ ?_ ?_ ?_
  · simp -implicitDefEqProofs only [go_sem, simprocAttr]; rfl
  · rintro C ρ h ⟨nd, hb, hc⟩ ⟨r15, g11, o11⟩
    rw [List.take_length] at hc
    have hF : ∀ e ∈ C, e.2 ≤ q.leftR W s most p meant := by
      intro e he
      have h1 : kGet C e.1 0 = e.2 := by unfold kGet; rw [lookup_of_mem nd he]; rfl
      have hbe := hb e he
      rw [← h1, hc]
      have := maxN_le (fun st => q.cnt W s most p (st : Nat) meant) q.N.toNat e.1.toNat (by omega)
      simp only [show ((e.1.toNat : Nat) : Int) = e.1 by omega] at this
      exact this
    have hF0 : 0 ≤ q.leftR W s most p meant := maxN_nn _ _
    have hFe : 0 = q.leftR W s most p meant ∨ ∃ e ∈ C, e.2 = q.leftR W s most p meant := by
      rcases maxN_is (fun st => q.cnt W s most p (st : Nat) meant) q.N.toNat with h0 | ⟨st, h1, h2⟩
      · exact .inl h0.symm
      · by_cases hz : q.leftR W s most p meant = 0
        · exact .inl hz.symm
        · right
          have h3 : kGet C (st : Int) 0 = q.leftR W s most p meant := by rw [hc]; exact h2
          unfold kGet at h3
          cases hl : C.lookup (st : Int) with
          | none => rw [hl] at h3; exact absurd h3.symm hz
          | some v => rw [hl] at h3; exact ⟨_, lookup_mem hl, h3⟩
    generalize q.leftR W s most p meant = F at *
    simp -implicitDefEqProofs only [go_sem, simprocAttr, r15]
    refine mpRangeO (kF := FV.int) (vF := FV.int) (M := C) (fz := false) mty_150 (by simp -implicitDefEqProofs only [go_sem, simprocAttr]; rfl) (by simp -implicitDefEqProofs only [go_sem, simprocAttr, g11, o11]) ?_
    simp -implicitDefEqProofs only [go_sem, simprocAttr]
    refine lpH 39 [10, 4] 39 [38] (fun a : List (Int × Int) × Int => a.1.length) (fun a => 0 ≤ a.2 ∧ (∀ e ∈ a.1, e.2 ≤ F) ∧ a.2 ≤ F ∧ (a.2 = F ∨ ∃ e ∈ a.1, e.2 = F)) (fun a ρ2 h2 => ρ2 4 = .fv (.int a.2) ∧ h2.gen 38 = h.gen 38 + 1 ∧ ∃ cur, h2.obj 38 = some (.iter (esF FV.int FV.int a.1) cur)) (C, 0) ⟨Int.le_refl 0, hF, hF0, hFe⟩ ?_ ?_
    · simp -implicitDefEqProofs only [go_sem, simprocAttr]
      exact ⟨none, rfl⟩
    · rintro ⟨R, mo⟩ ρ2 h2 ⟨m00, hR, mF, hE⟩ ⟨r4, g38, cur, o38⟩
      dsimp only at m00 hR mF hE r4 o38
      simp -implicitDefEqProofs only [go_sem, simprocAttr]
      refine mpNext (kF := FV.int) (vF := FV.int) (R := R) (cur := cur) (by simp -implicitDefEqProofs only [go_sem, simprocAttr]; rfl) (by simp -implicitDefEqProofs only [go_sem, simprocAttr, g38, o38]) ?_ ?_
      · rintro rfl
        have hmF : mo = F := by
          rcases hE with h | ⟨e, he, _⟩
          · exact h
          · simp at he
        subst hmF
        simp -implicitDefEqProofs only [go_sem, simprocAttr, r4]
        exact ret_fv
      · intro j a b hj
        have hbF := hR _ (List.mem_of_getElem? hj)
        have lj : j < R.length := (List.getElem?_eq_some_iff.1 hj).1
        simp -implicitDefEqProofs only [go_sem, simprocAttr]
        refine mpEntryOf (by simp -implicitDefEqProofs only [go_sem, simprocAttr]; rfl) (by simp -implicitDefEqProofs only [go_sem, simprocAttr, g38]; rfl) ?_
        simp -implicitDefEqProofs only [go_sem, simprocAttr, r4, max2V]
        refine nxt (R.eraseIdx j, mx mo b) (by simp [List.length_eraseIdx, lj]; omega) ⟨by unfold mx; split <;> omega, fun e he => hR e (List.mem_of_mem_eraseIdx he), by dsimp only at hbF ⊢; unfold mx; split <;> omega, ?_⟩ ?_
        · dsimp only at hbF ⊢
          rcases hE with h | ⟨e, he, h⟩
          · left; unfold mx; split <;> omega
          · by_cases e2 : b = F
            · left; unfold mx; split <;> omega
            · right
              refine ⟨e, ?_, h⟩
              rw [List.mem_eraseIdx_iff_getElem?]
              obtain ⟨j', hj'⟩ := List.mem_iff_getElem?.1 he
              refine ⟨j', ?_, hj'⟩
              rintro rfl
              rw [hj] at hj'
              simp at hj'
              subst hj'
              exact e2 h
        · simp -implicitDefEqProofs only [go_sem, simprocAttr, g38]
          exact ⟨rfl, _, rfl⟩
  · rintro i is k C ρ h hx hk hm hk' hw' ⟨nd, hb, hc⟩ ⟨r15, g11, o11⟩
    obtain ⟨i0, i1, il, iw⟩ := mok i hm
    obtain ⟨n, rfl⟩ : ∃ n : Nat, i = n := ⟨i.toNat, by omega⟩
    simp only [Int.toNat_natCast] at il iw
    have nl : n < wl.length := by rw [← hw2] at i1; simp at i1; omega
    obtain ⟨x, hxl⟩ : ∃ x, wl[n]? = some x := ⟨_, List.getElem?_eq_getElem nl⟩
    obtain ⟨w, hxw, lw⟩ := hw3 x (List.mem_of_getElem? hxl)
    have eW : W.getD n [] = w := by rw [← hw2, List.getD_eq_getElem?_getD, List.getElem?_map, hxl]; exact toL_ls hxw
    rw [eW] at il iw
    have hcx : x.cells = [x] := ls_cells hxw
    have c88 := t88 ok (hs := hs) (al := al) (m := sm) (most := most) ⟨om, fm⟩ hW hxw h2 il iw.l6 iw.bd (show p < w.length by omega) m0 m1
    have hSn : ((stF most (q.rest w s p) (q.ways (gI w (p : Nat)) (gI s (p : Nat))) []).map Prod.fst).Nodup := stF_nodup _ _ _ _ (by simp)
    have hSi : ∀ st, q.lies s most p w st = true ↔ st ∈ (stF most (q.rest w s p) (q.ways (gI w (p : Nat)) (gI s (p : Nat))) []).map Prod.fst := fun st => lies_iff
    have hwp := iw.bd (gI w (p : Nat)) (gI_mem (show p < w.length by omega))
    have hSb : ∀ st ∈ (stF most (q.rest w s p) (q.ways (gI w (p : Nat)) (gI s (p : Nat))) []).map Prod.fst, 0 ≤ st ∧ st < q.N := by
      intro st hst
      rcases (stF_keys _ _ _ _ _).1 hst with h | ⟨y, hy, rfl, _⟩
      · simp at h
      · exact ways_mem hwp.1 hwp.2 hy
    generalize stF most (q.rest w s p) (q.ways (gI w (p : Nat)) (gI s (p : Nat))) [] = S at *
    have hcn : ∀ st, q.cnt W s most p st (meant.take (k + 1)) = q.cnt W s most p st (meant.take k) + (if st ∈ S.map Prod.fst then 1 else 0) := by
      intro st
      have : meant.take (k + 1) = meant.take k ++ [(n : Int)] := by rw [List.take_add_one, hx]; rfl
      rw [this, cnt_append]
      simp only [Al.cnt, Int.toNat_natCast, eW, hSi, Int.add_zero]
    simp -implicitDefEqProofs only [go_sem, simprocAttr, r15, hk', index_map hml idx_26 hx rfl, index_ls hW idx_25 hxl (by rw [hcx]; rfl), hcx]
    refine call1 [] false (c88) ?_
    simp -implicitDefEqProofs only [go_sem, simprocAttr]
    refine mpRangeF (kF := FV.int) (vF := FV.bool) (M := S) mty_151 (by simp -implicitDefEqProofs only [go_sem, simprocAttr]) ?_
    simp -implicitDefEqProofs only [go_sem, simprocAttr]
    refine lpH 28 [8] 28 [11, 27] (fun a : List (Int × Bool) × List (Int × Int) => a.1.length) (fun a => (a.1.map Prod.fst).Nodup ∧ (∀ e ∈ a.1, 0 ≤ e.1 ∧ e.1 < q.N) ∧ (a.2.map Prod.fst).Nodup ∧ (∀ e ∈ a.2, 0 ≤ e.1 ∧ e.1 < q.N ∧ 1 ≤ e.2) ∧ ∀ st, kGet a.2 st 0 + (if st ∈ a.1.map Prod.fst then 1 else 0) = q.cnt W s most p st (meant.take (k + 1)))
      (fun a ρ2 h2 => h2.gen 27 = h.gen 27 + 1 ∧ h2.gen 11 = 1 ∧ h2.obj 11 = some (.map false (esF FV.int FV.int a.2)) ∧ ∃ cur, h2.obj 27 = some (.iter (esF FV.int FV.bool a.1) cur)) (S, C) ⟨hSn, fun e he => hSb e.1 (List.mem_map.2 ⟨e, he, rfl⟩), nd, hb, fun st => by rw [hcn, hc]⟩ ?_ ?_
    · simp -implicitDefEqProofs only [go_sem, simprocAttr, g11, o11]
      exact ⟨none, rfl⟩
    · rintro ⟨R, C2⟩ ρ2 h2 ⟨ndR, bR, nd2, hb2, hc2⟩ ⟨g27, g11', o11', cur, o27⟩
      dsimp only at ndR bR nd2 hb2 hc2 o11' o27
      simp -implicitDefEqProofs only [go_sem, simprocAttr]
      refine mpNext (kF := FV.int) (vF := FV.bool) (R := R) (cur := cur) (by simp -implicitDefEqProofs only [go_sem, simprocAttr]; rfl) (by simp -implicitDefEqProofs only [go_sem, simprocAttr, g27, o27]) ?_ ?_
      · rintro rfl
        simp -implicitDefEqProofs only [go_sem, simprocAttr, r15, hw']
        refine nxtL C2 ⟨nd2, hb2, fun st => by have := hc2 st; simpa using this⟩ ?_
        simp -implicitDefEqProofs only [go_sem, simprocAttr, g11', o11']
      · intro j a b hj
        have lj : j < R.length := (List.getElem?_eq_some_iff.1 hj).1
        have hab := bR _ (List.mem_of_getElem? hj)
        have hfj : (R.map Prod.fst)[j]? = some a := by simp [hj]
        obtain ⟨q1, q2, q3⟩ := nodup_erase ndR hfj
        have hca := hc2 a
        have hcb := cnt_bd q W s most p a (meant.take (k + 1))
        have hlt : (meant.take (k + 1)).length ≤ 5 := by rw [List.length_take]; omega
        have hg0 : 0 ≤ kGet C2 a 0 := by
          unfold kGet
          cases hl : C2.lookup a with
          | none => simp
          | some v => have := hb2 _ (lookup_mem hl); simp only [Option.getD_some]; omega
        have wa : IntKind.i64.wrap (kGet C2 a 0 + 1) = kGet C2 a 0 + 1 := wr _ (by omega) (by split at hca <;> omega)
        simp -implicitDefEqProofs only [go_sem, simprocAttr]
        refine mpEntryOf (by simp -implicitDefEqProofs only [go_sem, simprocAttr]; rfl) (by simp -implicitDefEqProofs only [go_sem, simprocAttr, g27]; rfl) ?_
        simp -implicitDefEqProofs only [go_sem, simprocAttr]
        refine mpLook (kF := FV.int) (vF := FV.int) (M := C2) (k := a) (z := 0) mty_150 (by simp -implicitDefEqProofs only [go_sem, simprocAttr, g11', o11']) (by simp -implicitDefEqProofs only [go_sem, simprocAttr]) int_inj key_3 (fun e he => ki (hb2 e he).1 (by have := hb2 e he; omega)) (ki hab.1 (by dsimp only at hab; omega)) zrf_3 nd2 ?_
        simp -implicitDefEqProofs only [go_sem, simprocAttr, wa]
        refine mpUpd (kF := FV.int) (vF := FV.int) (M := C2) (k := a) (v' := kGet C2 a 0 + 1) mty_150 (by simp -implicitDefEqProofs only [go_sem, simprocAttr]; rfl) (by simp -implicitDefEqProofs only [go_sem, simprocAttr, g11', o11']) (by simp -implicitDefEqProofs only [go_sem, simprocAttr]) (by simp -implicitDefEqProofs only [go_sem, simprocAttr]) int_inj key_3 (fun e he => ki (hb2 e he).1 (by have := hb2 e he; omega)) (ki hab.1 (by dsimp only at hab; omega)) nd2 0 ?_
        simp -implicitDefEqProofs only [go_sem, simprocAttr]
        refine nxt (R.eraseIdx j, kUp C2 a 0 (kGet C2 a 0 + 1)) (by simp [List.length_eraseIdx, lj]; omega) ⟨?_, fun e he => bR e (List.mem_of_mem_eraseIdx he), kUp_nodup _ _ _ nd2, ?_, ?_⟩ ?_
        · dsimp only; rw [fst_erase]; exact q2
        · intro e he
          rcases kUp_mem he with he | rfl
          · exact hb2 e he
          · exact ⟨hab.1, hab.2, by dsimp only; omega⟩
        · intro st
          dsimp only
          rw [kGet_up nd2, fst_erase]
          have h3 := hc2 st
          by_cases e2 : st = a
          · subst e2
            rw [if_pos rfl, if_neg q1]
            rw [if_pos ((q3 st).2 (.inl rfl))] at h3
            omega
          · rw [if_neg e2, ← h3]
            congr 1
            have := q3 st
            simp only [e2, false_or] at this
            simp only [this]
        · simp -implicitDefEqProofs only [go_sem, simprocAttr, g27, g11']
          exact ⟨_, rfl⟩
end S07

