/- A part of the proof: G07m, G07n, G07o. -/
import Derived.Test.YtmanbdacloeioaaG07l
set_option linter.unusedVariables false
set_option linter.unusedSimpArgs false
set_option maxRecDepth 20000
namespace S07
open Go Abs
theorem heap_env {q : Al} {N : Int} {sW sc : FV} {c : List Int} {W : List (List Int)} {wl : List FV} (hw1 : lsOf sW = some wl) (hw2 : wl.map FV.toL = W) (hw3 : ∀ x ∈ wl, ∃ l : List Int, lsOf x = some (ints l) ∧ l.length ≤ 9223372036854775807)
    (h1 : lsOf sc = some (ints c)) (n8 : N ≤ 8) (h4 : W.length ≤ 4) (hW : ∀ l ∈ W, isCount N l 5 = true) (hc : isCount N c 20 = true) : Env q sW sc c wl := by
  simp only [isCount, Bool.and_eq_true, decide_eq_true_eq, List.all_eq_true, inB_iff] at hc hW
  refine ⟨hw1, ?_, by rw [← hw2] at h4; simpa using h4, h1, by omega, hc.2⟩
  intro x hx
  obtain ⟨l, hl, _⟩ := hw3 x hx
  have := hW l (by rw [← hw2, ← toL_ls hl]; exact List.mem_map.2 ⟨x, hx, rfl⟩)
  exact ⟨l, hl, by omega, this.2⟩
theorem t75 {q : Al} (ok : q.Ok) {hs al sW sc : FV} {c : List Int} {wl : List FV} {lost : Int} (E : Env q sW sc c wl) (hcl : (c.length : Int) = q.N) : SeqFn Q 75 [heapV q hs al sW sc lost] [] ((loopG c lost (wl.map FV.toL) [] (List.replicate q.N.toNat 0) 0).map item) := by
  have n0 := ok.n0
  have n1 := ok.n1
  have ow := ls_one E.hW
  have oc := ls_one E.h1
  have fw := ls_lcells E.hW
  have fc := ls_lcells E.h1
  refine seq_intro Go.Proofs.Try.func75 rfl (by kernel_rfl) mix (k75 0) (Nat.le_of_ble_eq_true (by kernel_rfl)) ?_
  refine Abs.walk ?_
  dsimp only [c75, sop, gop, nop, qmv, qsg, qex, qld, qcl, qln, qix, qbo, qt, qi]
  simp -implicitDefEqProofs only [go_sem, simprocAttr, heapV, Al.fv, alphaV, ow, oc, fw, fc]
  refine W_opsD _ _ _ (Vs [[], [], [], [], [], [], [], [13]]) ?_ ?_
  · decide
  simp -implicitDefEqProofs only [go_sem, simprocAttr, FV.ofCells]
  refine ⟨by omega, by omega, by omega, ?_⟩
  simp -implicitDefEqProofs only [go_sem, simprocAttr, rep_ints]
  refine callIH 1000 [] (a93_0 E (all := List.replicate q.N.toNat 0) (next := 0) (R := []) (q := q) (hs := hs) (al := al) (lost := lost) ⟨by simp -implicitDefEqProofs only [go_sem, simprocAttr], by simp -implicitDefEqProofs only [go_sem, simprocAttr], by simp -implicitDefEqProofs only [go_sem, simprocAttr], by simp -implicitDefEqProofs only [go_sem, simprocAttr, yN], by simp -implicitDefEqProofs only [go_sem, simprocAttr, Al.fv, alphaV], by simp -implicitDefEqProofs only [go_sem, simprocAttr, yN], by simp -implicitDefEqProofs only [go_sem, simprocAttr]⟩ (by simp -implicitDefEqProofs only [go_sem, simprocAttr]) (by simp -implicitDefEqProofs only [go_sem, simprocAttr]) (by simp; omega) (by simp) (Nat.le_refl _) (Nat.zero_le _) (by simp -implicitDefEqProofs only [go_sem, simprocAttr])) (ex_YR (by simp -implicitDefEqProofs only [go_sem, simprocAttr]) _) ?_
  rintro lv h3 ⟨gy3, ⟨rfl, hy3⟩ | ⟨rfl, hy3⟩⟩
  · simp -implicitDefEqProofs only [go_sem, simprocAttr, Kl_eq, retY, hy3]
  · simp -implicitDefEqProofs only [go_sem, simprocAttr, Kl_eq, retY, hy3]
theorem t92 {xs : List FV} (hx : ∀ x ∈ xs, x.cells = [x] ∧ x.one = true) (hl : xs.length ≤ 1000) : Fn Q 92 [.fo .nil, .sq (xs.map fun x => [x])] (.one (.fx (lstN xs))) := by
  refine w92 ?_
  dsimp only [c92, sop, gop, nop, qmv, qsg, qex, qld, qcl, qln, qix, qbo, qt, qi]
  simp -implicitDefEqProofs only [go_sem, simprocAttr]
  refine rgH 5 [2] [] (xs.map fun x => [x]) (.inl rfl) (β := List FV × List FV) (fun ys a => ys = a.2.map (fun x => [x]) ∧ a.1 ++ a.2 = xs) (fun ys a h => h.gen 2 = 1 ∧ ∃ v, h.obj 2 = some (.box [v]) ∧ AccRep h v 11 26 1 a.1) ([], xs) ⟨rfl, rfl⟩ ⟨by simp -implicitDefEqProofs only [go_sem, simprocAttr], .fv .nil, by simp -implicitDefEqProofs only [go_sem, simprocAttr], .inl ⟨rfl, rfl⟩⟩ ?_ ?_
  · rintro ⟨acc, ys⟩ h ⟨e1, e2⟩ ⟨g2, v, o2, ha⟩
    dsimp only at e1 e2 ha
    obtain rfl : ys = [] := by cases ys <;> simp_all
    simp only [List.append_nil] at e2
    subst e2
    simp -implicitDefEqProofs only [go_sem, simprocAttr, g2, o2]
    refine ret_fx (fun _ => true) ?_
    have ha' : AccRep (havH 5 [2] ((h0.new 2 (AObj.box [LV.fv (FV.val (Value.slice none 0 0))])).new 4 (AObj.list 26 1 false true [])) h) v 11 26 1 acc := by
      unfold AccRep at ha ⊢
      simp -implicitDefEqProofs only [go_sem, simprocAttr]
      exact ha
    exact ha'.frz _ rfl 5
  · rintro x ys ⟨acc, zs⟩ h ⟨e1, e2⟩ ⟨g2, v, o2, ha⟩
    dsimp only at e1 e2 ha
    obtain ⟨z, zs', rfl⟩ : ∃ z zs', zs = z :: zs' := by
      cases zs with
      | nil => simp at e1
      | cons z zs' => exact ⟨z, zs', rfl⟩
    simp only [List.map_cons, List.cons.injEq] at e1
    obtain ⟨rfl, rfl⟩ := e1
    have hz := hx z (by rw [← e2]; simp)
    have hlen : acc.length + (zs'.length + 1) = xs.length := by rw [← e2]; simp
    refine ⟨rfl, ?_⟩
    simp -implicitDefEqProofs only [go_sem, simprocAttr, g2, o2, hz.1, hz.2]
    refine app_acc (acc := acc) (by unfold AccRep at ha ⊢; simp -implicitDefEqProofs only [go_sem, simprocAttr]; exact ha) idx_25 (by decide) (by simp -implicitDefEqProofs only [go_sem, simprocAttr]; rfl) (by simp) (by simp [hz.1]) (by simp -implicitDefEqProofs only [go_sem, simprocAttr]) (by simp [byt_26]; omega) (by simp [maxLen]; omega) (by simp) ?_
    simp -implicitDefEqProofs only [go_sem, simprocAttr, g2, o2]
    refine ⟨(acc ++ [z], zs'), ⟨rfl, by rw [← e2]; simp⟩, ?_⟩
    simp -implicitDefEqProofs only [go_sem, simprocAttr, g2]
    refine ⟨_, rfl, .inr ⟨by simp -implicitDefEqProofs only [go_sem, simprocAttr], by simp -implicitDefEqProofs only [go_sem, simprocAttr], by simp⟩⟩
theorem t74 {xs : List FV} (hx : ∀ x ∈ xs, x.cells = [x] ∧ x.one = true) (hl : xs.length ≤ 1000) : Fn Q 74 [.sq (xs.map fun x => [x])] (.one (.fx (lstN xs))) := by
  refine w74 ?_
  dsimp only [c74, sop, gop, nop, qmv, qsg, qex, qld, qcl, qln, qix, qbo, qt, qi]
  simp -implicitDefEqProofs only [go_sem, simprocAttr]
  refine callF [] false [.fo .nil, .sq (xs.map fun x => [x])] [] (t92 hx hl) ⟨rfl, .inl rfl, trivial⟩ rfl (.inl rfl) ?_
  simp -implicitDefEqProofs only [go_sem, simprocAttr]
  exact ret_fv
def whoseR (N : Int) (W : List (List Int)) (c : List Int) (lost : Int) : List (List Int) := loopG c lost W [] (List.replicate N.toNat 0) 0
def lsF (L : List (List Int)) : List FV := L.map fun l => .list false (ints l)
theorem own1_len (c : List Int) (lost : Int) (l all : List Int) : (own1 c lost l all).length ≤ 1 := by unfold own1; split <;> simp
theorem loopG_len (c : List Int) (lost : Int) : ∀ (W : List (List Int)) (l all : List Int) (k : Nat), (loopG c lost W l all k).length + 1 ≤ 2 ^ W.length
  | [], _, _, _ => by simp [loopG]
  | x :: xs, l, all, k => by
    have h1 := loopG_len c lost xs (l ++ [(k : Int)]) (addI x 0 all) (k + 1)
    have h2 := loopG_len c lost xs l all (k + 1)
    have h3 := own1_len c lost (l ++ [(k : Int)]) (addI x 0 all)
    simp only [loopG, List.length_append, List.length_cons, Nat.pow_succ]
    omega
theorem whose_len {N : Int} {W : List (List Int)} {c : List Int} {lost : Int} (h : W.length ≤ 4) : (whoseR N W c lost).length ≤ 15 := by
  have := loopG_len c lost W [] (List.replicate N.toNat 0) 0
  have h2 : 2 ^ W.length ≤ 2 ^ 4 := Nat.pow_le_pow_right (by decide) h
  unfold whoseR
  omega
def errW (N : Int) (H A : List (Int × Int)) (W : List (List Int)) (c : List Int) (lost : Int) : Int := if errH N H A W c lost ≠ 0 then errH N H A W c lost else if whoseR N W c lost = [] then 7 else 0
theorem t37 {s : FV} {N : Int} {hs al sc sW : FV} {H A : List (Int × Int)} {c : List Int} {W : List (List Int)} {lost : Int} (v : SetV s N hs al H A) (h1 : lsOf sc = some (ints c)) (hl1 : c.length ≤ 9223372036854775807) (hW : Lists sW W) (hl : W.length ≤ 9223372036854775807) :
    Fn Q 37 [.fo s, .fo sW, .fo sc, .fo (.int lost)] (.tup [.fx (if errW N H A W c lost = 0 then lstN (lsF (whoseR N W c lost)) else .nil), .fx (.int (errW N H A W c lost))]) := by
  have c73 := t73 (lost := lost) v h1 hl1 hW hl
  obtain ⟨rfl, hH, hA, lH, lA⟩ := v
  have o1 := ls_one hH
  have o2 := ls_one hA
  by_cases e : errH N H A W c lost = 0
  · obtain ⟨eA, h4, hWc, hc, l0, l1⟩ := errH_ok e
    have ok := alOf_ok eA
    rw [if_pos e, e] at c73
    obtain ⟨wl, hw1, hw2, hw3⟩ := hW
    have ow := ls_one hw1
    have oc := ls_one h1
    have fw := ls_lcells hw1
    have fc := ls_lcells h1
    have hcl : (c.length : Int) = N := by simp only [isCount, Bool.and_eq_true, decide_eq_true_eq] at hc; exact hc.1
    have E := heap_env (q := alOf N H A) hw1 hw2 hw3 h1 ok.n1 h4 hWc hc
    have c75 := t75 ok (hs := hs) (al := al) (lost := lost) E hcl
    have hr : errW N H A W c lost = if whoseR N W c lost = [] then 7 else 0 := by simp [errW, e]
    have eI : (loopG c lost (wl.map FV.toL) [] (List.replicate (alOf N H A).N.toNat 0) 0).map item = (lsF (whoseR N W c lost)).map fun x => [x] := by
      rw [hw2]; simp [lsF, whoseR, item, alOf]
    rw [eI] at c75
    have c74 := t74 (xs := lsF (whoseR N W c lost)) (fun x hx => by obtain ⟨l, _, rfl⟩ := List.mem_map.1 hx; exact ⟨rfl, rfl⟩) (by have := whose_len (N := N) (c := c) (lost := lost) h4; simp [lsF]; omega)
    rw [hr]
    have hnil : lsF (whoseR N W c lost) = [] ↔ whoseR N W c lost = [] := by simp [lsF]
    generalize whoseR N W c lost = r at *
    cases r with
    | nil =>
      refine w37 ?_
      dsimp only [c37, sop, gop, nop, qmv, qsg, qex, qld, qcl, qln, qix, qbo, qt, qi]
      simp -implicitDefEqProofs only [go_sem, simprocAttr, o1, o2]
      refine call1 [] false (c73) ?_
      simp -implicitDefEqProofs only [go_sem, simprocAttr, heapV, Al.fv, alphaV, ow, oc, fw, fc]
      refine callF [] false [.sq ((lsF []).map fun x => [x])] [] c74 ⟨argSqB (by rfl) c75, trivial⟩ rfl (.inl rfl) ?_
      simp -implicitDefEqProofs only [go_sem, simprocAttr, lsF, lstN, List.isEmpty, eqV, nilEq, und_25]
      refine ret_tup (fun _ => true) ?_ (by simp [ownNames])
      simp -implicitDefEqProofs only [go_sem, simprocAttr]
    | cons x xs =>
      refine w37 ?_
      dsimp only [c37, sop, gop, nop, qmv, qsg, qex, qld, qcl, qln, qix, qbo, qt, qi]
      simp -implicitDefEqProofs only [go_sem, simprocAttr, o1, o2]
      refine call1 [] false (c73) ?_
      simp -implicitDefEqProofs only [go_sem, simprocAttr, heapV, Al.fv, alphaV, ow, oc, fw, fc]
      refine callF [] false [.sq ((lsF (x :: xs)).map fun x => [x])] [] c74 ⟨argSqB (by rfl) c75, trivial⟩ rfl (.inl rfl) ?_
      simp -implicitDefEqProofs only [go_sem, simprocAttr, lsF, lstN, List.isEmpty, eqV, nilEq, und_25]
      refine ret_tup (fun _ => true) ?_ (by simp [ownNames])
      simp -implicitDefEqProofs only [go_sem, simprocAttr]
  · have e' : (errH N H A W c lost != 0) = true := by simpa using e
    have eL : errW N H A W c lost = errH N H A W c lost := by simp [errW, e]
    rw [if_neg e] at c73
    refine w37 ?_
    dsimp only [c37, sop, gop, nop, qmv, qsg, qex, qld, qcl, qln, qix, qbo, qt, qi]
    simp -implicitDefEqProofs only [go_sem, simprocAttr, o1, o2]
    refine call1 [] false (c73) ?_
    simp -implicitDefEqProofs only [go_sem, simprocAttr, e', heapZ]
    refine ret_tup (fun _ => true) ?_ (by simp [ownNames])
    simp -implicitDefEqProofs only [go_sem, simprocAttr, eL, e]
end S07

namespace S07
open Go Abs
theorem loopG_mem (c : List Int) (lost : Int) : ∀ (W : List (List Int)) (l all : List Int) (k : Nat), (∀ n ∈ l, 0 ≤ n ∧ n < k) → l.length ≤ k → ∀ r ∈ loopG c lost W l all k, (∀ n ∈ r, 0 ≤ n ∧ n < (k + W.length : Nat)) ∧ r.length ≤ k + W.length
  | [], _, _, _, _, _ => by simp [loopG]
  | x :: xs, l, all, k, hl, ll => by
    intro r hr
    simp only [loopG, List.mem_append] at hr
    have hl' : ∀ n ∈ l ++ [(k : Int)], 0 ≤ n ∧ n < (k + 1 : Nat) := by
      intro n hn
      rcases List.mem_append.1 hn with hn | hn
      · have := hl n hn; omega
      · simp at hn; omega
    have e : k + (x :: xs).length = k + 1 + xs.length := by simp; omega
    rw [e]
    rcases hr with (hr | hr) | hr
    · unfold own1 at hr
      split at hr
      · simp at hr; subst hr
        refine ⟨fun n hn => ?_, by simp; omega⟩
        have := hl' n hn
        omega
      · simp at hr
    · exact loopG_mem c lost xs _ _ (k + 1) hl' (by simp; omega) r hr
    · exact loopG_mem c lost xs _ _ (k + 1) (fun n hn => by have := hl n hn; omega) (by omega) r hr
def cnt1F : List Int → List Int → List Int
  | [], p => p
  | n :: ns, p => cnt1F ns (addAt p n 1)
def cntF : List (List Int) → List Int → List Int
  | [], p => p
  | l :: ls, p => cntF ls (cnt1F l p)
def z4 : List Int := [0, 0, 0, 0]
theorem gI_z4 (i : Int) : gI z4 i = 0 := gI_rep 4 i
def surF (many : Int) : List Int → Nat → List Int
  | [], _ => []
  | n :: ns, k => if n = many then (k : Int) :: surF many ns (k + 1) else surF many ns (k + 1)
def posF : List Int → Nat → List Int
  | [], _ => []
  | n :: ns, k => if 0 < n then (k : Int) :: posF ns (k + 1) else posF ns (k + 1)
theorem cnt1F_len : ∀ (l p : List Int), (cnt1F l p).length = p.length
  | [], _ => rfl
  | n :: ns, p => by rw [cnt1F, cnt1F_len ns]; exact addAt_len _ _ _
def mixS (L : List (List Int)) : List Int := surF (L.length : Nat) (cntF L z4) 0
def mixP (L : List (List Int)) : List Int := posF (cntF L z4) 0
theorem t38 {s : FV} {N : Int} {hs al sc sW : FV} {H A : List (Int × Int)} {c : List Int} {W : List (List Int)} {lost : Int} (v : SetV s N hs al H A) (h1 : lsOf sc = some (ints c)) (hl1 : c.length ≤ 9223372036854775807) (hW : Lists sW W) (hl : W.length ≤ 9223372036854775807) :
    Fn Q 38 [.fo s, .fo sW, .fo sc, .fo (.int lost)] (.tup [.fx (if errW N H A W c lost = 0 then lstN (ints (mixS (whoseR N W c lost))) else .nil), .fx (if errW N H A W c lost = 0 then lstN (ints (mixP (whoseR N W c lost))) else .nil), .fx (.int (errW N H A W c lost))]) := by
  have c37 := t37 (lost := lost) v h1 hl1 hW hl
  obtain ⟨rfl, hH, hA, lH, lA⟩ := v
  have o1 := ls_one hH
  have o2 := ls_one hA
  by_cases e : errW N H A W c lost = 0
  · have h4 : W.length ≤ 4 := by
      unfold errW at e
      split at e
      · rename_i h; exact absurd e h
      · rename_i h; exact (errH_ok (by simpa using h)).2.1
    have hlen := whose_len (N := N) (c := c) (lost := lost) h4
    have hmem : ∀ r ∈ whoseR N W c lost, (∀ n ∈ r, 0 ≤ n ∧ n < 4) ∧ r.length ≤ 4 := by
      intro r hr
      have := loopG_mem c lost W [] (List.replicate N.toNat 0) 0 (by simp) (by simp) r hr
      exact ⟨fun n hn => by have := this.1 n hn; omega, by omega⟩
    rw [if_pos e, e] at c37
    rw [if_pos e, if_pos e, e]
    have hls := lsOf_lstN (lsF (whoseR N W c lost))
    generalize lstN (lsF (whoseR N W c lost)) = sL at *
    generalize whoseR N W c lost = L at *
    refine w38 ?_
    dsimp only [c38, sop, gop, nop, qmv, qsg, qex, qld, qcl, qln, qix, qbo, qt, qi]
    simp -implicitDefEqProofs only [go_sem, simprocAttr, o1, o2]
    refine call1 [] false (c37) ?_
    simp -implicitDefEqProofs only [go_sem, simprocAttr, lenV_ls hls, lsF]
    refine lpL (β := List Int) 32 [14, 16] 32 [12] L (by omega) (fun ls k p => cntF ls p = cntF L z4 ∧ p.length = 4 ∧ ∀ i, 0 ≤ i → 0 ≤ gI p i ∧ gI p i ≤ 4 * (k : Int)) (fun k p ρ h => ρ 32 = .fv (.int k) ∧ h.gen 12 = 1 ∧ h.obj 12 = some (.box (p.map (fun n => LV.fv (.int n))))) z4 ⟨rfl, rfl, fun i _ => by rw [gI_z4]; omega⟩ ?_ ?_ ?_
    · simp -implicitDefEqProofs only [go_sem, simprocAttr, z4]
    · rintro p ρ h ⟨e1, lp, bp⟩ ⟨r32, g12, o12⟩
      simp only [cntF] at e1
      simp -implicitDefEqProofs only [go_sem, simprocAttr, r32, g12, o12, arr_load lp]
      refine lpL (β := List Int × List Int) 50 [17, 18, 8, 9] 50 [8, 9] p (by omega) (fun ns k a => a.1 ++ surF (L.length : Nat) ns k = surF (L.length : Nat) p 0 ∧ a.2 ++ posF ns k = posF p 0 ∧ a.1.length ≤ k ∧ a.2.length ≤ k)
        (fun k a ρ h => ρ 50 = .fv (.int k) ∧ ρ 8 = .gl 8 (h.gen 8) ∧ ρ 9 = .gl 9 (h.gen 9) ∧ h.obj 8 = some (.list 3 1 false a.1.isEmpty (ints a.1)) ∧ h.obj 9 = some (.list 3 1 false a.2.isEmpty (ints a.2))) ([], []) ⟨rfl, rfl, by simp, by simp⟩ ?_ ?_ ?_
      · simp -implicitDefEqProofs only [go_sem, simprocAttr, List.isEmpty, ints]
      · rintro ⟨a, b⟩ ρ2 h2 ⟨e2, e3, _, _⟩ ⟨r50, r8, r9, o8, o9⟩
        simp only [surF, posF, List.append_nil] at e2 e3
        have lp4 : ((p.length : Nat) : Int) = 4 := by omega
        simp -implicitDefEqProofs only [go_sem, simprocAttr, r50, lp4, r8, r9]
        refine ret_tup (fun _ => true) ?_ (by simp [ownNames])
        rw [mixS, mixP, ← e1, ← e2, ← e3]
        simp -implicitDefEqProofs only [go_sem, simprocAttr, o8, o9, lstN]
        cases a <;> cases b <;> exact ⟨rfl, rfl⟩
      · rintro n ns k ⟨a, b⟩ ρ2 h2 hx hk hm hk' hw ⟨e2, e3, l2, l3⟩ ⟨r50, r8, r9, o8, o9⟩
        dsimp only at e2 e3 l2 l3 o8 o9
        have k4 : (k : Int) < 4 := by omega
        have gk : p.getD k 0 = n := by simp [List.getD, hx]
        by_cases d1 : n = (L.length : Nat)
        · have d1' : (n == ((L.length : Nat) : Int)) = true := by simpa using d1
          by_cases d2 : 0 < n
          · simp -implicitDefEqProofs only [go_sem, simprocAttr, r50, k4, farr_get0 hk, gk, lenV_ls hls, lsF, d1', r8, r9]
            refine app_gl (by simp -implicitDefEqProofs only [go_sem, simprocAttr, o8]; rfl) idx_26 (by simp -implicitDefEqProofs only [go_sem, simprocAttr]; rfl) (by simp [FV.cells]) (by simp -implicitDefEqProofs only [go_sem, simprocAttr]) (by simp [byt_3, ints]; omega) (by simp [maxLen, ints]; omega) (by simp) ?_
            simp -implicitDefEqProofs only [go_sem, simprocAttr, d2, r8, r9]
            refine app_gl (by simp -implicitDefEqProofs only [go_sem, simprocAttr, o9]; rfl) idx_26 (by simp -implicitDefEqProofs only [go_sem, simprocAttr]; rfl) (by simp [FV.cells]) (by simp -implicitDefEqProofs only [go_sem, simprocAttr]) (by simp [byt_3, ints]; omega) (by simp [maxLen, ints]; omega) (by simp) ?_
            simp -implicitDefEqProofs only [go_sem, simprocAttr, r50, hw]
            refine nxtL (a ++ [(k : Int)], b ++ [(k : Int)]) ⟨by rw [← e2]; simp [surF, d1], by rw [← e3]; simp [posF, d2], by simp; omega, by simp; omega⟩ ?_
            simp -implicitDefEqProofs only [go_sem, simprocAttr, ints, List.map_append]
            cases a <;> cases b <;> exact ⟨rfl, rfl⟩
          · simp -implicitDefEqProofs only [go_sem, simprocAttr, r50, k4, farr_get0 hk, gk, lenV_ls hls, lsF, d1', r8, r9]
            refine app_gl (by simp -implicitDefEqProofs only [go_sem, simprocAttr, o8]; rfl) idx_26 (by simp -implicitDefEqProofs only [go_sem, simprocAttr]; rfl) (by simp [FV.cells]) (by simp -implicitDefEqProofs only [go_sem, simprocAttr]) (by simp [byt_3, ints]; omega) (by simp [maxLen, ints]; omega) (by simp) ?_
            simp -implicitDefEqProofs only [go_sem, simprocAttr, d2, r8, r9, r50, hw]
            refine nxtL (a ++ [(k : Int)], b) ⟨by rw [← e2]; simp [surF, d1], by rw [← e3]; simp [posF, d2], by simp; omega, by dsimp only; omega⟩ ?_
            simp -implicitDefEqProofs only [go_sem, simprocAttr, ints, List.map_append, o9, r9]
            cases a <;> first | rfl | exact ⟨rfl, rfl⟩
        · have d1' : (n == ((L.length : Nat) : Int)) = false := by simpa using d1
          by_cases d2 : 0 < n
          · simp -implicitDefEqProofs only [go_sem, simprocAttr, r50, k4, farr_get0 hk, gk, lenV_ls hls, lsF, d1', r8, r9, d2]
            refine app_gl (by simp -implicitDefEqProofs only [go_sem, simprocAttr, o9]; rfl) idx_26 (by simp -implicitDefEqProofs only [go_sem, simprocAttr]; rfl) (by simp [FV.cells]) (by simp -implicitDefEqProofs only [go_sem, simprocAttr]) (by simp [byt_3, ints]; omega) (by simp [maxLen, ints]; omega) (by simp) ?_
            simp -implicitDefEqProofs only [go_sem, simprocAttr, r50, hw]
            refine nxtL (a, b ++ [(k : Int)]) ⟨by rw [← e2]; simp [surF, d1], by rw [← e3]; simp [posF, d2], by dsimp only; omega, by simp; omega⟩ ?_
            simp -implicitDefEqProofs only [go_sem, simprocAttr, ints, List.map_append, o8, r8]
            cases b <;> first | rfl | exact ⟨rfl, rfl⟩
          · simp -implicitDefEqProofs only [go_sem, simprocAttr, r50, k4, farr_get0 hk, gk, lenV_ls hls, lsF, d1', r8, r9, d2, hw]
            refine nxtL (a, b) ⟨by rw [← e2]; simp [surF, d1], by rw [← e3]; simp [posF, d2], by dsimp only; omega, by dsimp only; omega⟩ ?_
            simp -implicitDefEqProofs only [go_sem, simprocAttr, o8, o9, r8, r9]
    · rintro l ls k p ρ h hx hk hm hk' hw ⟨e1, lp, bp⟩ ⟨r32, g12, o12⟩
      obtain ⟨bl, ll⟩ := hmem l hm
      simp -implicitDefEqProofs only [go_sem, simprocAttr, r32, hk', index_map hls idx_25 hx rfl]
      refine lpL (β := List Int) 38 [16] 38 [12] l (by omega) (fun ns j p' => cnt1F ns p' = cnt1F l p ∧ p'.length = 4 ∧ ∀ i, 0 ≤ i → 0 ≤ gI p' i ∧ gI p' i ≤ 4 * (k : Int) + j) (fun j p' ρ h => ρ 38 = .fv (.int j) ∧ h.gen 12 = 1 ∧ h.obj 12 = some (.box (p'.map (fun n => LV.fv (.int n))))) p ⟨rfl, lp, fun i hi => by have := bp i hi; omega⟩ ?_ ?_ ?_
      · simp -implicitDefEqProofs only [go_sem, simprocAttr, g12, o12]
      · rintro p' ρ2 h2 ⟨e2, lp2, bp2⟩ ⟨r38, g12', o12'⟩
        simp only [cnt1F] at e2
        simp -implicitDefEqProofs only [go_sem, simprocAttr, r38, r32, hw]
        refine nxtL p' ⟨by rw [e2, ← e1]; rfl, lp2, fun i hi => by have := bp2 i hi; push_cast; omega⟩ ?_
        simp -implicitDefEqProofs only [go_sem, simprocAttr, g12', o12']
      · rintro n ns j p' ρ2 h2 hx2 hj hm2 hj' hwj ⟨e2, lp2, bp2⟩ ⟨r38, g12', o12'⟩
        obtain ⟨n0, n4⟩ := bl n hm2
        have pl : n.toNat < p'.length := by omega
        have pb := bp2 _ n0
        have ge : p'.getD n.toNat 0 = gI p' n := rfl
        have w1 : IntKind.i64.wrap (gI p' n + 1) = gI p' n + 1 := wr _ (by omega) (by omega)
        have le1 : n.toNat + 1 ≤ p'.length := by omega
        have ix : indexA Q (havH 38 [12] (havH 32 [12] h0 h) h2) 26 (LV.fv (.list false (ints l))) (j : Int) = some (.fv (.ptr (FV.int n).cells)) := index_map (s := .list false (ints l)) rfl idx_26 hx2 rfl
        have gj : (ints l)[j]? = some (.int n) := by simp [ints, hx2]
        simp -implicitDefEqProofs only [go_sem, simprocAttr, r38, hj', gj, g12', o12', n0, n4, arr_get0 pl, ge, w1, arr_set0 pl, le1, hwj]
        refine nxtL (addAt p' n 1) ⟨by rw [← e2]; rfl, by rw [addAt_len]; exact lp2, ?_⟩ ?_
        · intro i hi
          rw [gI_addAt n0 (by omega) hi]
          have := bp2 i hi
          push_cast
          split <;> omega
        · simp -implicitDefEqProofs only [go_sem, simprocAttr, g12', addAt, ge]
  · have e' : (errW N H A W c lost != 0) = true := by simpa using e
    rw [if_neg e] at c37
    refine w38 ?_
    dsimp only [c38, sop, gop, nop, qmv, qsg, qex, qld, qcl, qln, qix, qbo, qt, qi]
    simp -implicitDefEqProofs only [go_sem, simprocAttr, o1, o2]
    refine call1 [] false (c37) ?_
    simp -implicitDefEqProofs only [go_sem, simprocAttr, e']
    refine ret_tup (fun _ => true) ?_ (by simp [ownNames])
    simp -implicitDefEqProofs only [go_sem, simprocAttr, e]
end S07

namespace S07
open Go Abs
def Al.al (q : Al) (x y : Int) : Bool := kGet q.M (x, y) false
def Al.readK (q : Al) (l kd : Int) : Nat → Nat → List (Int × Int × Int)
  | _, 0 => []
  | o, n + 1 => if q.al l (o : Nat) then (kd, (o : Int), if kd = 3 then q.hd (o : Nat) else (o : Int)) :: q.readK l kd (o + 1) n else q.readK l kd (o + 1) n
def Al.reads (q : Al) (l : Int) : List (Int × Int × Int) := (0, l, l) :: (1, l, q.hd l) :: (q.readK l 2 0 q.N.toNat ++ q.readK l 3 0 q.N.toNat)
def rdI (x : Int × Int × Int) : List FV := [.agg [.int x.1, .int x.2.1], .int x.2.2]
theorem t110 {q : Al} (ok : q.Ok) {hs al : FV} {l : Int} (l0 : 0 ≤ l) (l1 : l < q.N) : SeqFn Q 110 [] [.ptr [.int l], .ptr [q.fv hs al]] ((q.reads l).map rdI) := by
  obtain ⟨n0, n1, len, nd, key⟩ := ok
  have lk : l.toNat < q.arr.length := by omega
  have l8 : l < 8 := by omega
  have ge : q.arr.getD l.toNat 0 = q.hd l := rfl
  have hn : ((q.N.toNat : Nat) : Int) = q.N := by omega
  refine seq_intro Go.Proofs.Try.func110 rfl (by kernel_rfl) mix (k110 0) (Nat.le_of_ble_eq_true (by kernel_rfl)) ?_
  refine Abs.walk ?_
  dsimp only [c110, sop, gop, nop, qmv, qsg, qex, qld, qcl, qln, qix, qbo, qt, qi]
  simp -implicitDefEqProofs only [go_sem, simprocAttr, Al.fv, alphaV]
  refine callY (rdI (0, l, l)) (rdI (1, l, q.hd l) :: ((q.readK l 2 0 q.N.toNat).map rdI ++ (q.readK l 3 0 q.N.toNat).map rdI)) (by simp -implicitDefEqProofs only [go_sem, simprocAttr, yN]) (by rfl) (by simp -implicitDefEqProofs only [go_sem, simprocAttr, Al.reads, List.map_append]) ?_ ?_
  · simp -implicitDefEqProofs only [go_sem, simprocAttr, l0, l8, farr_get lk, ge]
    refine callY (rdI (1, l, q.hd l)) (((q.readK l 2 0 q.N.toNat).map rdI ++ (q.readK l 3 0 q.N.toNat).map rdI)) (by simp -implicitDefEqProofs only [go_sem, simprocAttr, yN]) (by rfl) (by simp -implicitDefEqProofs only [go_sem, simprocAttr]) ?_ ?_
    · generalize hN : q.N.toNat = n at *
      simp -implicitDefEqProofs only [go_sem, simprocAttr]
      refine lp (n := 3) (lpStep ?_)
      simp -implicitDefEqProofs only [go_sem, simprocAttr]
      refine lpH 38 [6, 7] 38 [] (fun k : Nat => n - k) (fun k => k ≤ n) (fun k ρ h => ρ 38 = .fv (.int k) ∧ h.y = some ((q.readK l 2 k (n - k)).map rdI ++ (q.readK l 3 0 n).map rdI) ∧ h.gen 1000000000 = 0) 0 (Nat.zero_le _) ?_ ?_
      · simp -implicitDefEqProofs only [go_sem, simprocAttr]
      · rintro k ρ h hk ⟨r38, hy', gy'⟩
        by_cases hkn : k < n
        · have kN : (k : Int) < q.N := by omega
          have nN : ((n : Nat) : Int) = q.N := hn
          have k8 : (k : Int) < 8 := by omega
          have hw : IntKind.i64.wrap ((k : Int) + 1) = ((k + 1 : Nat) : Int) := wr _ (by omega) (by omega)
          obtain ⟨j, hj⟩ : ∃ j, n - k = j + 1 := ⟨n - k - 1, by omega⟩
          have hj' : n - (k + 1) = j := by omega
          have lkq : k < q.arr.length := by omega
          have ge : q.arr.getD k 0 = q.hd (k : Int) := by simp [Al.hd, gI]
          rw [hj, Al.readK] at hy'
          simp -implicitDefEqProofs only [go_sem, simprocAttr, r38, kN, farr_last len]
          refine mpLook (kF := pF) (vF := .bool) (M := q.M) (k := (l, (k : Int))) (z := false) mty_121 (by simp -implicitDefEqProofs only [go_sem, simprocAttr]) (by simp -implicitDefEqProofs only [go_sem, simprocAttr]; rfl) pF_inj key_115 key (kp l0 (by omega) (by omega) k8) zrf_4 nd ?_
          cases hb : kGet q.M (l, (k : Int)) false
          · have hb' : q.al l (k : Int) = false := hb
            rw [hb', if_neg (by simp)] at hy'
            simp -implicitDefEqProofs only [go_sem, simprocAttr, r38, hw]
            refine nxt (k + 1) (by omega) hkn ?_
            simp -implicitDefEqProofs only [go_sem, simprocAttr, hy', gy', hj']
          · have hb' : q.al l (k : Int) = true := hb
            rw [hb', if_pos rfl, List.map_cons, List.cons_append] at hy'
            simp -implicitDefEqProofs only [go_sem, simprocAttr, k8, farr_get lkq, ge]
            refine callY (rdI (2, (k : Int), (k : Int))) ((q.readK l 2 (k + 1) j).map rdI ++ (q.readK l 3 0 n).map rdI) (by simp -implicitDefEqProofs only [go_sem, simprocAttr, yN, gy']) (by rfl) (by simp -implicitDefEqProofs only [go_sem, simprocAttr, hy']) ?_ ?_
            · simp -implicitDefEqProofs only [go_sem, simprocAttr, r38, hw]
              refine nxt (k + 1) (by omega) hkn ?_
              simp -implicitDefEqProofs only [go_sem, simprocAttr, gy', hj']
            · simp -implicitDefEqProofs only [go_sem, simprocAttr, retY]
        · have kN : ¬ (k : Int) < q.N := by omega
          have e0 : n - k = 0 := by omega
          rw [e0, Al.readK, List.map_nil, List.nil_append] at hy'
          simp -implicitDefEqProofs only [go_sem, simprocAttr, r38, kN]
          refine lpStep ?_
          simp -implicitDefEqProofs only [go_sem, simprocAttr]
          refine lpH 38 [6, 7] 38 [] (fun k : Nat => n - k) (fun k => k ≤ n) (fun k ρ h => ρ 38 = .fv (.int k) ∧ h.y = some ((q.readK l 3 k (n - k)).map rdI ++ ([] : List (List FV))) ∧ h.gen 1000000000 = 0) 0 (Nat.zero_le _) ?_ ?_
          · simp -implicitDefEqProofs only [go_sem, simprocAttr, hy', gy', List.append_nil]
          · rintro k ρ h hk ⟨r38, hy', gy'⟩
            by_cases hkn : k < n
            · have kN : (k : Int) < q.N := by omega
              have nN : ((n : Nat) : Int) = q.N := hn
              have k8 : (k : Int) < 8 := by omega
              have hw : IntKind.i64.wrap ((k : Int) + 1) = ((k + 1 : Nat) : Int) := wr _ (by omega) (by omega)
              obtain ⟨j, hj⟩ : ∃ j, n - k = j + 1 := ⟨n - k - 1, by omega⟩
              have hj' : n - (k + 1) = j := by omega
              have lkq : k < q.arr.length := by omega
              have ge : q.arr.getD k 0 = q.hd (k : Int) := by simp [Al.hd, gI]
              rw [hj, Al.readK] at hy'
              simp -implicitDefEqProofs only [go_sem, simprocAttr, r38, kN, farr_last len]
              refine mpLook (kF := pF) (vF := .bool) (M := q.M) (k := (l, (k : Int))) (z := false) mty_121 (by simp -implicitDefEqProofs only [go_sem, simprocAttr]) (by simp -implicitDefEqProofs only [go_sem, simprocAttr]; rfl) pF_inj key_115 key (kp l0 (by omega) (by omega) k8) zrf_4 nd ?_
              cases hb : kGet q.M (l, (k : Int)) false
              · have hb' : q.al l (k : Int) = false := hb
                rw [hb', if_neg (by simp)] at hy'
                simp -implicitDefEqProofs only [go_sem, simprocAttr, r38, hw]
                refine nxt (k + 1) (by omega) hkn ?_
                simp -implicitDefEqProofs only [go_sem, simprocAttr, hy', gy', hj']
              · have hb' : q.al l (k : Int) = true := hb
                rw [hb', if_pos rfl, List.map_cons, List.cons_append] at hy'
                simp -implicitDefEqProofs only [go_sem, simprocAttr, k8, farr_get lkq, ge]
                refine callY (rdI (3, (k : Int), q.hd (k : Int))) ((q.readK l 3 (k + 1) j).map rdI ++ ([] : List (List FV))) (by simp -implicitDefEqProofs only [go_sem, simprocAttr, yN, gy']) (by rfl) (by simp -implicitDefEqProofs only [go_sem, simprocAttr, hy']) ?_ ?_
                · simp -implicitDefEqProofs only [go_sem, simprocAttr, r38, hw]
                  refine nxt (k + 1) (by omega) hkn ?_
                  simp -implicitDefEqProofs only [go_sem, simprocAttr, gy', hj']
                · simp -implicitDefEqProofs only [go_sem, simprocAttr, retY]
            · have kN : ¬ (k : Int) < q.N := by omega
              have e0 : n - k = 0 := by omega
              rw [e0, Al.readK, List.map_nil, List.nil_append] at hy'
              simp -implicitDefEqProofs only [go_sem, simprocAttr, r38, kN]
              refine lpStep ?_
              simp -implicitDefEqProofs only [go_sem, simprocAttr, retY, hy']
    · simp -implicitDefEqProofs only [go_sem, simprocAttr, retY]
  · simp -implicitDefEqProofs only [go_sem, simprocAttr, retY]
end S07

