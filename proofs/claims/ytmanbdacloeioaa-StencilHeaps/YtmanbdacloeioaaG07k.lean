/- A part of the proof: G07k. -/
import Derived.Test.YtmanbdacloeioaaG07h
set_option linter.unusedVariables false
set_option linter.unusedSimpArgs false
set_option maxRecDepth 20000
namespace S07
open Go Abs
theorem t91 {q : Al} (ok : q.Ok) {hs al sl : FV} {l : List Int} (h1 : lsOf sl = some (ints l)) (hl1 : l.length ≤ 9223372036854775807) :
    Fn Q 91 [.fo sl, .fo (.ptr [q.fv hs al])] (.one (.fx (.bool (!isCount q.N l 5)))) := by
  have c := t89 ok (hs := hs) (al := al) 5 h1 hl1
  refine w91 ?_
  dsimp only [c91, sop, gop, nop, qmv, qsg, qex, qld, qcl, qln, qix, qbo, qt, qi]
  simp -implicitDefEqProofs only [go_sem, simprocAttr, Al.fv, alphaV]
  refine call1 [] false (c) ?_
  simp -implicitDefEqProofs only [go_sem, simprocAttr]
  exact ret_fv
def errH (N : Int) (H A : List (Int × Int)) (W : List (List Int)) (c : List Int) (lost : Int) : Int :=
  if errA N H A ≠ 0 then errA N H A else if 4 < W.length then 5 else if (W.any fun l => !isCount N l 5) ∨ isCount N c 20 = false then 4 else if inB 0 20 lost = false then 3 else 0
theorem errH_ok {N : Int} {H A : List (Int × Int)} {W : List (List Int)} {c : List Int} {lost : Int} (h : errH N H A W c lost = 0) : errA N H A = 0 ∧ W.length ≤ 4 ∧ (∀ l ∈ W, isCount N l 5 = true) ∧ isCount N c 20 = true ∧ 0 ≤ lost ∧ lost ≤ 20 := by
  unfold errH at h
  split at h
  · rename_i h1; exact absurd h h1
  · split at h
    · simp at h
    · split at h
      · simp at h
      · split at h
        · simp at h
        · rename_i h1 h2 h3 h4
          simp only [not_or, Bool.not_eq_true, Bool.not_eq_false] at h3
          have := inB_iff.1 (show inB 0 20 lost = true by simpa using h4)
          exact ⟨by simpa using h1, by omega, fun l hl => by have := not_any h3.1 hl; simpa using this, h3.2, this.1, this.2⟩
def heapV (q : Al) (hs al sW sc : FV) (lost : Int) : FV := .agg [q.fv hs al, sW, sc, .int lost]
def heapZ : FV := .agg [.val (.pointer none), .nil, .nil, .int 0]
theorem t73 {s : FV} {N : Int} {hs al sc sW : FV} {H A : List (Int × Int)} {c : List Int} {W : List (List Int)} {lost : Int} (v : SetV s N hs al H A) (h1 : lsOf sc = some (ints c)) (hl1 : c.length ≤ 9223372036854775807) (hW : Lists sW W) (hl : W.length ≤ 9223372036854775807) :
    Fn Q 73 [.fo s, .fo sW, .fo sc, .fo (.int lost)] (.tup [.fx (if errH N H A W c lost = 0 then heapV (alOf N H A) hs al sW sc lost else heapZ), .fx (.int (errH N H A W c lost))]) := by
  have c82 := t82 v
  obtain ⟨rfl, hH, hA, lH, lA⟩ := v
  have o1 := ls_one hH
  have o2 := ls_one hA
  have oc := ls_one h1
  by_cases e : errA N H A = 0
  · have ok := alOf_ok e
    have c89 := t89 ok (hs := hs) (al := al) 20 h1 hl1
    rw [alphaR_ok e, e] at c82
    have hW' := hW
    obtain ⟨wl, hw1, hw2, hw3⟩ := hW'
    have ow := ls_one hw1
    have hwl : wl.length = W.length := by rw [← hw2]; simp
    have cb : ∀ x ∈ wl, Fn Q 91 (.fo x :: [FV.ptr [(alOf N H A).fv hs al]].map .fo) (.one (.fx (.bool (!isCount N x.toL 5)))) := by
      intro x hx
      obtain ⟨l, hl, lb⟩ := hw3 x hx
      have := t91 ok (hs := hs) (al := al) hl lb
      rw [← toL_ls hl] at this
      exact this
    have eany : (wl.any fun x => !isCount N x.toL 5) = W.any fun l => !isCount N l 5 := by rw [← hw2, List.any_map]; rfl
    by_cases e4 : 4 < W.length
    · have e4' : (4 : Int) < (W.length : Nat) := by omega
      have eL : errH N H A W c lost = 5 := by simp [errH, e, e4]
      refine w73 ?_
      dsimp only [c73, sop, gop, nop, qmv, qsg, qex, qld, qcl, qln, qix, qbo, qt, qi]
      simp -implicitDefEqProofs only [go_sem, simprocAttr, o1, o2]
      refine call1 [] false (c82) ?_
      simp -implicitDefEqProofs only [go_sem, simprocAttr, lenV_ls hw1, hwl, e4', Al.fv, alphaV]
      refine ret_tup (fun _ => true) ?_ (by simp [ownNames])
      simp -implicitDefEqProofs only [go_sem, simprocAttr, eL, heapZ]
    · have e4' : ¬ (4 : Int) < (W.length : Nat) := by omega
      cases ea : W.any fun l => !isCount N l 5
      · cases ec : isCount N c 20
        · have eL : errH N H A W c lost = 4 := by simp only [errH, e, e4, ea, ec]; simp
          refine w73 ?_
          dsimp only [c73, sop, gop, nop, qmv, qsg, qex, qld, qcl, qln, qix, qbo, qt, qi]
          simp -implicitDefEqProofs only [go_sem, simprocAttr, o1, o2]
          refine call1 [] false (c82) ?_
          simp -implicitDefEqProofs only [go_sem, simprocAttr, lenV_ls hw1, hwl, e4', Al.fv, alphaV]
          refine callC t90 true (fun x => !isCount N x.toL 5) (by rfl) hw1 (fun x hx => ?_) (by omega) en91 (by rfl) cb ?_
          · obtain ⟨l, hl, _⟩ := hw3 x hx
            exact ls_elem hl
          simp -implicitDefEqProofs only [go_sem, simprocAttr, eany, ea]
          refine call1 [] false (c89) ?_
          simp -implicitDefEqProofs only [go_sem, simprocAttr, show (alOf N H A).N = N from rfl, ec]
          refine ret_tup (fun _ => true) ?_ (by simp [ownNames])
          simp -implicitDefEqProofs only [go_sem, simprocAttr, eL, heapZ]
        · cases el : inB 0 20 lost
          · have eL : errH N H A W c lost = 3 := by simp only [errH, e, e4, ea, ec, el]; simp
            refine w73 ?_
            dsimp only [c73, sop, gop, nop, qmv, qsg, qex, qld, qcl, qln, qix, qbo, qt, qi]
            simp -implicitDefEqProofs only [go_sem, simprocAttr, o1, o2]
            refine call1 [] false (c82) ?_
            simp -implicitDefEqProofs only [go_sem, simprocAttr, lenV_ls hw1, hwl, e4', Al.fv, alphaV]
            refine callC t90 true (fun x => !isCount N x.toL 5) (by rfl) hw1 (fun x hx => ?_) (by omega) en91 (by rfl) cb ?_
            · obtain ⟨l, hl, _⟩ := hw3 x hx
              exact ls_elem hl
            simp -implicitDefEqProofs only [go_sem, simprocAttr, eany, ea]
            refine call1 [] false (c89) ?_
            simp -implicitDefEqProofs only [go_sem, simprocAttr, show (alOf N H A).N = N from rfl, ec]
            refine call1 [] true (w1 0 20 lost) ?_
            simp -implicitDefEqProofs only [go_sem, simprocAttr, el]
            refine ret_tup (fun _ => true) ?_ (by simp [ownNames])
            simp -implicitDefEqProofs only [go_sem, simprocAttr, eL, heapZ]
          · have eL : errH N H A W c lost = 0 := by simp only [errH, e, e4, ea, ec, el]; simp
            refine w73 ?_
            dsimp only [c73, sop, gop, nop, qmv, qsg, qex, qld, qcl, qln, qix, qbo, qt, qi]
            simp -implicitDefEqProofs only [go_sem, simprocAttr, o1, o2]
            refine call1 [] false (c82) ?_
            simp -implicitDefEqProofs only [go_sem, simprocAttr, lenV_ls hw1, hwl, e4', Al.fv, alphaV]
            refine callC t90 true (fun x => !isCount N x.toL 5) (by rfl) hw1 (fun x hx => ?_) (by omega) en91 (by rfl) cb ?_
            · obtain ⟨l, hl, _⟩ := hw3 x hx
              exact ls_elem hl
            simp -implicitDefEqProofs only [go_sem, simprocAttr, eany, ea]
            refine call1 [] false (c89) ?_
            simp -implicitDefEqProofs only [go_sem, simprocAttr, show (alOf N H A).N = N from rfl, ec]
            refine call1 [] true (w1 0 20 lost) ?_
            simp -implicitDefEqProofs only [go_sem, simprocAttr, el, ls_lcells hw1, ls_lcells h1, ow, oc]
            refine ret_tup (fun _ => true) ?_ (by simp [ownNames])
            simp -implicitDefEqProofs only [go_sem, simprocAttr, eL, heapV, Al.fv, alphaV]
            rfl
      · have eL : errH N H A W c lost = 4 := by simp only [errH, e, e4, ea]; simp
        refine w73 ?_
        dsimp only [c73, sop, gop, nop, qmv, qsg, qex, qld, qcl, qln, qix, qbo, qt, qi]
        simp -implicitDefEqProofs only [go_sem, simprocAttr, o1, o2]
        refine call1 [] false (c82) ?_
        simp -implicitDefEqProofs only [go_sem, simprocAttr, lenV_ls hw1, hwl, e4', Al.fv, alphaV]
        refine callC t90 true (fun x => !isCount N x.toL 5) (by rfl) hw1 (fun x hx => ?_) (by omega) en91 (by rfl) cb ?_
        · obtain ⟨l, hl, _⟩ := hw3 x hx
          exact ls_elem hl
        simp -implicitDefEqProofs only [go_sem, simprocAttr, eany, ea]
        refine ret_tup (fun _ => true) ?_ (by simp [ownNames])
        simp -implicitDefEqProofs only [go_sem, simprocAttr, eL, heapZ]
  · have e' : (errA N H A != 0) = true := by simpa using e
    have eL : errH N H A W c lost = errA N H A := by simp [errH, e]
    have eR : alphaR N hs al H A = .val (.pointer none) := by simp [alphaR, e]
    rw [eR] at c82
    refine w73 ?_
    dsimp only [c73, sop, gop, nop, qmv, qsg, qex, qld, qcl, qln, qix, qbo, qt, qi]
    simp -implicitDefEqProofs only [go_sem, simprocAttr, o1, o2]
    refine call1 [] false (c82) ?_
    simp -implicitDefEqProofs only [go_sem, simprocAttr, e']
    refine ret_tup (fun _ => true) ?_ (by simp [ownNames])
    simp -implicitDefEqProofs only [go_sem, simprocAttr, eL, e, heapZ]
def isOfF : List Int → Nat → List Int → Int → Int → Bool
  | [], _, _, m, lost => decide (m ≤ lost)
  | n :: ns, i, all, m, lost => if gI all i < n then false else isOfF ns (i + 1) all (m + (gI all i - n)) lost
theorem t94 {q : Al} {hs al sW sc sa : FV} {c all : List Int} {lost : Int} {wl : List FV} (hW : lsOf sW = some wl) (h1 : lsOf sc = some (ints c)) (ha : lsOf sa = some (ints all)) (hla : all.length = c.length) (hl8 : c.length ≤ 8) (hc : ∀ n ∈ c, 0 ≤ n ∧ n ≤ 20) (hb : ∀ n ∈ all, 0 ≤ n ∧ n ≤ 20) :
    Fn Q 94 [.fo (heapV q hs al sW sc lost), .fo sa] (.one (.fx (.bool (isOfF c 0 all 0 lost)))) := by
  have oc := ls_one h1
  have ow := ls_one hW
  refine w94 ?_
  dsimp only [c94, sop, gop, nop, qmv, qsg, qex, qld, qcl, qln, qix, qbo, qt, qi]
  simp -implicitDefEqProofs only [go_sem, simprocAttr, heapV, Al.fv, alphaV, oc, ow, lenV_ls h1]
  refine lpL (β := Int) 11 [5, 6, 7] 11 [] c (by omega) (fun ns k m => isOfF ns k all m lost = isOfF c 0 all 0 lost ∧ 0 ≤ m ∧ m ≤ 20 * (k : Int))
    (fun k m ρ h => ρ 11 = .fv (.int k) ∧ ρ 5 = .fv (.int m)) 0 ⟨rfl, by omega, by omega⟩ ?_ ?_ ?_
  · simp -implicitDefEqProofs only [go_sem, simprocAttr]
  · rintro m ρ h ⟨e1, _, _⟩ ⟨r11, r5⟩
    simp only [isOfF] at e1
    simp -implicitDefEqProofs only [go_sem, simprocAttr, r11, r5]
    exact ret_eq (by rw [e1])
  · rintro n ns k m ρ h hx hk hm hk' hw' ⟨e1, m0, m1⟩ ⟨r11, r5⟩
    have hn := hc n hm
    have ka : (k : Int) < all.length := by omega
    have hx2 : all[k]? = some (gI all (k : Int)) := by have := gI_get (show (0 : Int) ≤ k by omega) ka; simpa using this
    have hg := hb _ (List.mem_of_getElem? hx2)
    have w1 : IntKind.i64.wrap (gI all (k : Int) - n) = gI all (k : Int) - n := wr _ (by omega) (by omega)
    have w2 : ¬ gI all (k : Int) < n → IntKind.i64.wrap (m + (gI all (k : Int) - n)) = m + (gI all (k : Int) - n) := fun _ => wr _ (by omega) (by omega)
    by_cases hd : gI all (k : Int) < n
    · simp -implicitDefEqProofs only [go_sem, simprocAttr, r11, r5, hk', index_map h1 idx_26 hx rfl, index_map ha idx_26 hx2 rfl, hd]
      exact ret_eq (by rw [← e1]; simp [isOfF, hd])
    · simp -implicitDefEqProofs only [go_sem, simprocAttr, r11, r5, hk', index_map h1 idx_26 hx rfl, index_map ha idx_26 hx2 rfl, hd, w1, w2 hd, hw']
      refine nxtL (m + (gI all (k : Int) - n)) ⟨by rw [← e1]; simp [isOfF, hd], by omega, by push_cast; omega⟩ ?_
      simp -implicitDefEqProofs only [go_sem, simprocAttr]
theorem t95 {f : Bool} {l : List Int} (hl : l.length ≤ 100) : Fn Q 95 [.fo (.list f (ints l))] (.one (.fx (.list true (ints l)))) := by
  have e2 : ∀ x ∈ ints l, x.cells.length = 1 := fun x hx => (ints_elem l x hx).1
  have e3 : (ints l).take l.length = ints l := List.take_of_length_le (by rw [ints_length]; omega)
  refine w95 ?_
  dsimp only [c95, sop, gop, nop, qmv, qsg, qex, qld, qcl, qln, qix, qbo, qt, qi]
  simp -implicitDefEqProofs only [go_sem, simprocAttr, viewL, Option.elim, Int.le_refl, eq_true e2, e3, implies_true]
  exact ret_fv
theorem t95n : Fn Q 95 [.fo .nil] (.one (.fx .nil)) := by
  refine w95 ?_
  dsimp only [c95, sop, gop, nop, qmv, qsg, qex, qld, qcl, qln, qix, qbo, qt, qi]
  simp -implicitDefEqProofs only [go_sem, simprocAttr, viewL, Option.elim]
  exact ret_fv
end S07

