/- A part of the proof: G04q, G04r, G04s. -/
import Derived.Test.YtncbkgbdpaibmaaG04n
set_option linter.unusedVariables false
set_option linter.unusedSimpArgs false
set_option maxRecDepth 20000
namespace S04
open Go Abs
def woF (pl : List Int) : List Int → Nat → List Int
  | [], _ => []
  | x :: xs, k => if pl.contains (k : Int) then woF pl xs (k + 1) else x :: woF pl xs (k + 1)
theorem woF_mem {pl : List Int} : ∀ (l : List Int) (k : Nat), (∀ x ∈ woF pl l k, x ∈ l) ∧ (woF pl l k).length ≤ l.length
  | [], _ => ⟨fun x h => by simp [woF] at h, by simp [woF]⟩
  | y :: l, k => by
    obtain ⟨h1, h2⟩ := woF_mem (pl := pl) l (k + 1)
    unfold woF
    split
    · exact ⟨fun x hx => List.mem_cons_of_mem _ (h1 x hx), by simp; omega⟩
    · refine ⟨fun x hx => ?_, by simp; omega⟩
      rcases List.mem_cons.1 hx with rfl | hx
      · simp
      · exact List.mem_cons_of_mem _ (h1 x hx)
theorem t89 {s t : FV} {l pl : List Int} (hs : lsOf s = some (ints l)) (ht : lsOf t = some (ints pl)) (hl : l.length ≤ 1000) (hp : pl.length ≤ 1000000) : Fn Q 89 [.fo s, .fo t] (.one (.fx (lstN (ints (woF pl l 0))))) := by
  refine w89 ?_
  dsimp only [c89, sop, gop, nop, qmv, qsg, qex, qld, qcl, qln, qix, qbo, qt, qi]
  simp -implicitDefEqProofs only [go_sem, simprocAttr, lenV_ls hs]
  refine lpL (β := List Int) 9 [4, 5, 6] 9 [4] l (by omega) (fun xs k acc => acc ++ woF pl xs k = woF pl l 0 ∧ acc.length ≤ k) (fun k acc ρ h => ρ 9 = .fv (.int (k : Nat)) ∧ ρ 4 = .gl 4 (h.gen 4) ∧ h.obj 4 = some (.list 3 1 false acc.isEmpty (ints acc))) [] ⟨rfl, by simp⟩ ?_ ?_ ?_
  · simp -implicitDefEqProofs only [go_sem, simprocAttr, List.isEmpty, ints]
  · rintro acc ρ h ⟨e, _⟩ ⟨r9, r4, o4⟩
    simp only [woF, List.append_nil] at e
    subst e
    simp -implicitDefEqProofs only [go_sem, simprocAttr, r9, r4]
    refine ret_fx (fun _ => true) ?_
    simp -implicitDefEqProofs only [go_sem, simprocAttr, o4, lstN]
    generalize woF pl l 0 = z
    cases z <;> rfl
  · rintro x xs k acc ρ h hx hk hm hk' hw ⟨e, la⟩ ⟨r9, r4, o4⟩
    cases hc : pl.contains (k : Int)
    · simp -implicitDefEqProofs only [go_sem, simprocAttr, r9, hk', index_map hs idx_22 hx rfl]
      refine call1 [] false (t116 t pl (k : Int) ht (by omega)) ?_
      simp -implicitDefEqProofs only [go_sem, simprocAttr, hc, r4]
      refine app_gl (by simp -implicitDefEqProofs only [go_sem, simprocAttr, o4]; rfl) idx_22 (by simp -implicitDefEqProofs only [go_sem, simprocAttr]; rfl) (by simp [FV.cells]) (by simp -implicitDefEqProofs only [go_sem, simprocAttr]) (by simp [byt_3, ints]; omega) (by simp [maxLen, ints]; omega) (by simp) ?_
      simp -implicitDefEqProofs only [go_sem, simprocAttr, r9, hw]
      refine nxtL (acc ++ [x]) ⟨by rw [← e, woF, hc]; simp, by simp; omega⟩ ?_
      simp -implicitDefEqProofs only [go_sem, simprocAttr, ints, List.map_append]
      cases acc <;> rfl
    · simp -implicitDefEqProofs only [go_sem, simprocAttr, r9, hk', index_map hs idx_22 hx rfl]
      refine call1 [] false (t116 t pl (k : Int) ht (by omega)) ?_
      simp -implicitDefEqProofs only [go_sem, simprocAttr, hc, r4, r9, hw]
      refine nxtL acc ⟨by rw [← e, woF, hc]; simp, by omega⟩ ?_
      simp -implicitDefEqProofs only [go_sem, simprocAttr, r4, o4]
def Cs.goP (c : Cs) (w : List Int) (n : Int) (out : List Int) : Bool := !(woF out w 0).isEmpty && decide (c.nd (woF out w 0) ≤ n)
theorem t88 {c : Cs} {sw sp s x : FV} {w out : List Int} {n : Int} (v : CV c sw sp) (ok : c.Ok) (ws : WV c s w) (hx : lsOf x = some (ints out)) (hl : out.length ≤ 1000) :
    Fn Q 88 [.fo x, .fo (.ptr [s]), .fo (.ptr (c.bc sw sp)), .fo (.ptr [.int n])] (.one (.fx (.bool (c.goP w n out)))) := by
  have wm := woF_mem (pl := out) w 0
  have wl := ws.l
  have c89 := t89 (l := w) (pl := out) ws.s hx (by omega) (by omega)
  have c74 := fun (y : FV) (h : lsOf y = some (ints (woF out w 0))) => t74 v ok ⟨h, by omega, fun z hz => ws.b z (wm.1 z hz)⟩
  unfold Cs.goP
  generalize woF out w 0 = r at *
  cases r with
  | nil =>
    refine w88 ?_
    dsimp only [c88, sop, gop, nop, qmv, qsg, qex, qld, qcl, qln, qix, qbo, qt, qi]
    simp -implicitDefEqProofs only [go_sem, simprocAttr]
    refine call1 [] false (c89) ?_
    simp -implicitDefEqProofs only [go_sem, simprocAttr]
    refine W_opsD _ _ _ (Vs []) ?_ ?_
    · decide
    simp -implicitDefEqProofs only [go_sem, simprocAttr, lstN, ints, List.isEmpty, eqV, nilEq, und_22]
    exact ret_eq (by simp)
  | cons a r =>
    have c74' := c74 (lstN (ints (a :: r))) (lsOf_lstN _)
    refine w88 ?_
    dsimp only [c88, sop, gop, nop, qmv, qsg, qex, qld, qcl, qln, qix, qbo, qt, qi]
    simp -implicitDefEqProofs only [go_sem, simprocAttr]
    refine call1 [] false (c89) ?_
    simp -implicitDefEqProofs only [go_sem, simprocAttr]
    refine W_opsD _ _ _ (Vs []) ?_ ?_
    · decide
    simp -implicitDefEqProofs only [go_sem, simprocAttr, lstN, ints, List.isEmpty, eqV, nilEq, und_22]
    refine callD [] false [.fo (c.bv sw sp), .fo (lstN (ints (a :: r)))] [] c74' ⟨rfl, rfl, trivial⟩ rfl (.inl rfl) ?_
    simp -implicitDefEqProofs only [go_sem, simprocAttr]
    exact ret_eq (by simp)
end S04

namespace S04
open Go Abs
def Cs.lf (c : Cs) (w : List Int) (n : Int) : Option (List Int) := fewF w.length (c.goP w n)
def errF (c : Cs) (w : List Int) (n : Int) : Int := if errG c w n ≠ 0 then errG c w n else match c.lf w n with | none => 9 | some [] => 6 | some _ => 0
theorem t33 {c : Cs} {sw sp s : FV} {w : List Int} {n : Int} (v : CV c sw sp) (hs : lsOf s = some (ints w)) (hl : w.length ≤ 9223372036854775807) :
    Fn Q 33 [.fo (c.fv sw sp), .fo s, .fo (.int n)] (.tup [.fx (if errF c w n = 0 then optN (c.lf w n) else .nil), .fx (.int (errF c w n))]) := by
  have o1 := ls_one v.w
  have o2 := ls_one v.p
  have o3 := ls_one hs
  have f3 := ls_cells hs
  have l3 := ls_lcells hs
  have p3 := ls_fone hs
  have c73 := t73 v (Lists_one hs hl) (by simp)
  by_cases e1 : errO c [w] = 0
  · obtain ⟨ok, hw⟩ := errO_ok e1
    obtain ⟨h1, h2, h3⟩ := hw w (by simp)
    rw [if_pos (errO_C e1), e1] at c73
    cases e2 : inB 1 400 n
    · have eL : errF c w n = 3 := by simp [errF, errG, e1, e2]
      refine w33 ?_
      dsimp only [c33, sop, gop, nop, qmv, qsg, qex, qld, qcl, qln, qix, qbo, qt, qi]
      simp -implicitDefEqProofs only [go_sem, simprocAttr, o1, o2, o3, f3, p3, l3]
      refine call0 [16] false c73 (by simp -implicitDefEqProofs only [go_sem, simprocAttr]) (.inl rfl) ?_
      simp -implicitDefEqProofs only [go_sem, simprocAttr, mapV, o1, o2, o3]
      refine call1 [] true (u82 n) ?_
      simp -implicitDefEqProofs only [go_sem, simprocAttr, e2]
      refine ret_tup (fun _ => true) ?_ (by simp [ownNames])
      simp -implicitDefEqProofs only [go_sem, simprocAttr, eL]
    · have hF : ∀ l ∈ allF w.length 0 (w.length + 1), Fn Q 88 (.fo (lstN (ints l)) :: [FV.ptr [s], .ptr (c.bc sw sp), .ptr [.int n]].map .fo) (.one (.fx (.bool (c.goP w n l)))) := by
        intro l hl
        have := allF_mem _ _ l hl
        exact t88 v ok ⟨hs, by omega, h3⟩ (lsOf_lstN _) (by omega)
      have eL : errF c w n = match c.lf w n with | none => 9 | some [] => 6 | some _ => 0 := by simp [errF, errG, e1, e2]
      rw [eL]
      refine w33 ?_
      dsimp only [c33, sop, gop, nop, qmv, qsg, qex, qld, qcl, qln, qix, qbo, qt, qi]
      simp -implicitDefEqProofs only [go_sem, simprocAttr, o1, o2, o3, f3, p3, l3]
      refine call0 [16] false c73 (by simp -implicitDefEqProofs only [go_sem, simprocAttr]) (.inl rfl) ?_
      simp -implicitDefEqProofs only [go_sem, simprocAttr, mapV, o1, o2, o3]
      refine call1 [] true (u82 n) ?_
      simp -implicitDefEqProofs only [go_sem, simprocAttr, e2, lenV_ls hs]
      refine callIH 1000 [] (a90 (n := w.length) (f := 88) (cs := [FV.ptr [s], .ptr (c.bc sw sp), .ptr [.int n]]) (by omega) ?_ hF) ⟨_, _, fun _ _ => ⟨rfl, rfl⟩, rfl⟩ ?_
      · intro h' hh
        have q1 := hh 4 rfl
        have q2 := hh 8 rfl
        have q3 := hh 5 rfl
        simp -implicitDefEqProofs only [go_sem, simprocAttr] at q1 q2 q3
        simp -implicitDefEqProofs only [go_sem, simprocAttr, q1.1, q1.2, q2.1, q2.2, q3.1, q3.2, o3]
        rfl
      · rintro lv h' rfl
        cases hf : c.lf w n with
        | none =>
          rw [Cs.lf] at hf
          simp -implicitDefEqProofs only [go_sem, simprocAttr, Kl_eq, hf, optN, Option.isSome]
          refine ret_tup (fun _ => true) ?_ (by simp [ownNames])
          simp -implicitDefEqProofs only [go_sem, simprocAttr]
        | some l =>
          have hf' := hf
          rw [Cs.lf] at hf'
          cases l with
          | nil =>
            simp -implicitDefEqProofs only [go_sem, simprocAttr, Kl_eq, hf', optN, Option.isSome, lstN, ints, List.isEmpty, eqV, nilEq, und_22]
            refine ret_tup (fun _ => true) ?_ (by simp [ownNames])
            simp -implicitDefEqProofs only [go_sem, simprocAttr]
          | cons a l =>
            simp -implicitDefEqProofs only [go_sem, simprocAttr, Kl_eq, hf', optN, Option.isSome, lstN, ints, List.isEmpty, eqV, nilEq, und_22]
            refine ret_tup (fun _ => true) ?_ (by simp [ownNames])
            simp -implicitDefEqProofs only [go_sem, simprocAttr, optN, lstN, ints, List.isEmpty]
  · have e' : (errO c [w] != 0) = true := by simpa using e1
    have eL : errF c w n = errO c [w] := by simp [errF, errG, e1]
    refine w33 ?_
    dsimp only [c33, sop, gop, nop, qmv, qsg, qex, qld, qcl, qln, qix, qbo, qt, qi]
    simp -implicitDefEqProofs only [go_sem, simprocAttr, o1, o2, o3, f3, p3, l3]
    refine call0 [16] false c73 (by simp -implicitDefEqProofs only [go_sem, simprocAttr]) (.inl rfl) ?_
    by_cases e2 : errC c = 0
    · simp -implicitDefEqProofs only [go_sem, simprocAttr, mapV, o1, o2, o3, e', e2]
      refine ret_tup (fun _ => true) ?_ (by simp [ownNames])
      simp -implicitDefEqProofs only [go_sem, simprocAttr, eL, e1]
    · simp -implicitDefEqProofs only [go_sem, simprocAttr, mapV, o1, o2, o3, e', e2]
      refine ret_tup (fun _ => true) ?_ (by simp [ownNames])
      simp -implicitDefEqProofs only [go_sem, simprocAttr, eL, e1]
end S04

namespace S04
open Go Abs
def Cs.sideA (c : Cs) (w : List Int) (at' : Int) : Int := if 0 < at' then c.nd (w.take at'.toNat) - 2 * c.R + c.L else 0
def Cs.sideB (c : Cs) (w : List Int) (at' : Int) : Int := if at' < (w.length : Int) - 1 then c.nd (w.drop (at'.toNat + 1)) - 2 * c.R + c.L else 0
def Cs.side (c : Cs) (w : List Int) (at' : Int) : Int := 2 * c.R + c.sideA w at' + c.sideB w at'
def errP (c : Cs) (w : List Int) (at' n : Int) : Int := if errO c [w] ≠ 0 then errO c [w] else if inB 0 ((w.length : Int) - 1) at' = false then 7 else if inB 1 400 n = false then 3 else if n ≤ c.side w at' then 8 else 0
theorem Cs.Ok.nd_bd {c : Cs} (ok : c.Ok) {w : List Int} (h : ∀ x ∈ w, 0 ≤ x ∧ x < c.W.length) : 0 ≤ c.nd w ∧ c.nd w ≤ 40 + 45 * w.length ∧ 2 * c.R ≤ c.nd w := by
  have h1 := ok.ws w h
  have h2 := clo_bd ok.l0 ok.l1 _ (ok.loo w)
  rw [c.loo_len] at h2
  have := ok.r0
  have := ok.r1
  unfold Cs.nd Cs.wd
  omega
theorem t34 {c : Cs} {sw sp s : FV} {w : List Int} {at' n : Int} (v : CV c sw sp) (hs : lsOf s = some (ints w)) (hl : w.length ≤ 9223372036854775807) :
    Fn Q 34 [.fo (c.fv sw sp), .fo s, .fo (.int at'), .fo (.int n)] (.tup [.fx (.int (if errP c w at' n = 0 then min 30 (n - c.side w at') else 0)), .fx (.int (errP c w at' n))]) := by
  have o1 := ls_one v.w
  have o2 := ls_one v.p
  have o3 := ls_one hs
  have f3 := ls_cells hs
  have p3 := ls_fone hs
  have wl1 : IntKind.i64.wrap ((w.length : Int) - 1) = (w.length : Int) - 1 := wr _ (by omega) (by omega)
  have c73 := t73 v (Lists_one hs hl) (by simp)
  by_cases e1 : errO c [w] = 0
  · obtain ⟨ok, hw⟩ := errO_ok e1
    obtain ⟨h1, h2, h3⟩ := hw w (by simp)
    rw [if_pos (errO_C e1), e1] at c73
    rcases ls_cases hs with ⟨f, rfl⟩ | ⟨rfl, e⟩
    · cases e2 : inB 0 ((w.length : Int) - 1) at'
      · have eL : errP c w at' n = 7 := by simp [errP, e1, e2]
        refine w34 ?_
        dsimp only [c34, sop, gop, nop, qmv, qsg, qex, qld, qcl, qln, qix, qbo, qt, qi]
        simp -implicitDefEqProofs only [go_sem, simprocAttr, o1, o2, o3, f3, p3]
        refine call0 [16] false c73 (by simp -implicitDefEqProofs only [go_sem, simprocAttr]) (.inl rfl) ?_
        simp -implicitDefEqProofs only [go_sem, simprocAttr, mapV, o1, o2, o3, ints_length, wl1]
        refine call1 [] true (u1 0 ((w.length : Int) - 1) at') ?_
        simp -implicitDefEqProofs only [go_sem, simprocAttr, e2]
        refine ret_tup (fun _ => true) ?_ (by simp [ownNames])
        simp -implicitDefEqProofs only [go_sem, simprocAttr, eL]
      · cases e3 : inB 1 400 n
        · have eL : errP c w at' n = 3 := by simp [errP, e1, e2, e3]
          refine w34 ?_
          dsimp only [c34, sop, gop, nop, qmv, qsg, qex, qld, qcl, qln, qix, qbo, qt, qi]
          simp -implicitDefEqProofs only [go_sem, simprocAttr, o1, o2, o3, f3, p3]
          refine call0 [16] false c73 (by simp -implicitDefEqProofs only [go_sem, simprocAttr]) (.inl rfl) ?_
          simp -implicitDefEqProofs only [go_sem, simprocAttr, mapV, o1, o2, o3, ints_length, wl1]
          refine call1 [] true (u1 0 ((w.length : Int) - 1) at') ?_
          simp -implicitDefEqProofs only [go_sem, simprocAttr, e2]
          refine call1 [] true (u82 n) ?_
          simp -implicitDefEqProofs only [go_sem, simprocAttr, e3]
          refine ret_tup (fun _ => true) ?_ (by simp [ownNames])
          simp -implicitDefEqProofs only [go_sem, simprocAttr, eL]
        · obtain ⟨a0, a1⟩ := inB_iff.1 e2
          obtain ⟨n0, n1⟩ := inB_iff.1 e3
          have mA : ∀ x ∈ w.take at'.toNat, 0 ≤ x ∧ x < c.W.length := fun x hx => h3 x (List.mem_of_mem_take hx)
          have mB : ∀ x ∈ w.drop (at'.toNat + 1), 0 ≤ x ∧ x < c.W.length := fun x hx => h3 x (List.mem_of_mem_drop hx)
          have lA : (w.take at'.toNat).length ≤ 7 := by simp; omega
          have lB : (w.drop (at'.toNat + 1)).length ≤ 7 := by simp; omega
          have bA := ok.nd_bd mA
          have bB := ok.nd_bd mB
          have cA := fun g => t74 (s := .list g (ints (w.take at'.toNat))) v ok ⟨rfl, by omega, mA⟩
          have cB := t74 (s := .list f (ints (w.drop (at'.toNat + 1)))) v ok ⟨rfl, by omega, mB⟩
          have r0 := ok.r0
          have r1 := ok.r1
          have l0 := ok.l0
          have l1 := ok.l1
          have sA : -40 ≤ c.sideA w at' ∧ c.sideA w at' ≤ 1000 := by unfold Cs.sideA; split <;> omega
          have sB : -40 ≤ c.sideB w at' ∧ c.sideB w at' ≤ 1000 := by unfold Cs.sideB; split <;> omega
          have sC : -80 ≤ c.side w at' ∧ c.side w at' ≤ 3000 := by unfold Cs.side; omega
          have w1 : IntKind.i64.wrap (2 * c.R) = 2 * c.R := wr _ (by omega) (by omega)
          have w2 : IntKind.i64.wrap (c.nd (w.take at'.toNat) - 2 * c.R) = c.nd (w.take at'.toNat) - 2 * c.R := wr _ (by omega) (by omega)
          have w3 : IntKind.i64.wrap (c.nd (w.take at'.toNat) - 2 * c.R + c.L) = c.nd (w.take at'.toNat) - 2 * c.R + c.L := wr _ (by omega) (by omega)
          have w5 : IntKind.i64.wrap (at' + 1) = at' + 1 := wr _ (by omega) (by omega)
          have w6 : (at' + 1).toNat = at'.toNat + 1 := by omega
          have w7 : IntKind.i64.wrap (c.nd (w.drop (at'.toNat + 1)) - 2 * c.R) = c.nd (w.drop (at'.toNat + 1)) - 2 * c.R := wr _ (by omega) (by omega)
          have w8 : IntKind.i64.wrap (c.nd (w.drop (at'.toNat + 1)) - 2 * c.R + c.L) = c.nd (w.drop (at'.toNat + 1)) - 2 * c.R + c.L := wr _ (by omega) (by omega)
          have wM : IntKind.i64.wrap (n - c.side w at') = n - c.side w at' := wr _ (by omega) (by omega)
          have i5 : at' ≤ (w.length : Nat) := by omega
          have i7 : (0 : Int) ≤ at' + 1 := by omega
          have e3' : ∀ x ∈ ints w, x.cells.length = 1 := fun x hx => (ints_elem w x hx).1
          have e4 : (ints w).take at'.toNat = ints (w.take at'.toNat) := by simp [ints, List.map_take]
          have e5 : (ints w).take w.length = ints w := List.take_of_length_le (by simp [ints])
          have e6 : (ints w).drop (at'.toNat + 1) = ints (w.drop (at'.toNat + 1)) := by simp [ints, List.map_drop]
          by_cases ha : 0 < at'
          · have ea : c.sideA w at' = c.nd (w.take at'.toNat) - 2 * c.R + c.L := by simp [Cs.sideA, ha]
            have w4 : IntKind.i64.wrap (2 * c.R + (c.nd (w.take at'.toNat) - 2 * c.R + c.L)) = 2 * c.R + c.sideA w at' := by rw [wr _ (by omega) (by omega)]; omega
            refine w34 ?_
            dsimp only [c34, sop, gop, nop, qmv, qsg, qex, qld, qcl, qln, qix, qbo, qt, qi]
            simp -implicitDefEqProofs only [go_sem, simprocAttr, o1, o2, o3, f3, p3]
            refine call0 [16] false c73 (by simp -implicitDefEqProofs only [go_sem, simprocAttr]) (.inl rfl) ?_
            simp -implicitDefEqProofs only [go_sem, simprocAttr, mapV, o1, o2, o3, ints_length, wl1]
            refine call1 [] true (u1 0 ((w.length : Int) - 1) at') ?_
            simp -implicitDefEqProofs only [go_sem, simprocAttr, e2]
            refine call1 [] true (u82 n) ?_
            simp -implicitDefEqProofs only [go_sem, simprocAttr, e3, w1, ha]
            refine W_opsD _ _ _ (Vs []) ?_ ?_
            · decide
            simp -implicitDefEqProofs only [go_sem, simprocAttr, o1, o2, o3, Option.elim, ints_length, i5, a0, eq_true e3', implies_true, e4, Int.le_refl, List.drop_zero]
            refine callD [] false [.fo (c.bv sw sp), .fo (.list (f && decide (at' = (w.length : Nat))) (ints (w.take at'.toNat)))] [] (cA _) ⟨rfl, rfl, trivial⟩ rfl (.inl rfl) ?_
            simp -implicitDefEqProofs only [go_sem, simprocAttr, w1, w2, w3, w4]
            by_cases hb : at' < (w.length : Int) - 1
            · have eb : c.side w at' = 2 * c.R + c.sideA w at' + (c.nd (w.drop (at'.toNat + 1)) - 2 * c.R + c.L) := by simp [Cs.side, Cs.sideB, hb, ea]
              have wN : IntKind.i64.wrap (2 * c.R + c.sideA w at' + (c.nd (w.drop (at'.toNat + 1)) - 2 * c.R + c.L)) = c.side w at' := by rw [wr _ (by omega) (by omega)]; omega
              have i6 : at' + 1 ≤ (w.length : Nat) := by omega
              simp -implicitDefEqProofs only [go_sem, simprocAttr, hb, ints_length, wl1]
              refine W_opsD _ _ _ (Vs []) ?_ ?_
              · decide
              simp -implicitDefEqProofs only [go_sem, simprocAttr, o1, o2, o3, w5, w6, Option.elim, ints_length, i6, eq_true e3', implies_true, i7, e5, e6, Int.le_refl]
              refine callD [] false [.fo (c.bv sw sp), .fo (.list f (ints (w.drop (at'.toNat + 1))))] [] cB ⟨rfl, rfl, trivial⟩ rfl (.inl rfl) ?_
              simp -implicitDefEqProofs only [go_sem, simprocAttr, w1, w7, w8]
              by_cases e8 : n ≤ c.side w at'
              · have eL : errP c w at' n = 8 := by simp [errP, e1, e2, e3, e8]
                simp -implicitDefEqProofs only [go_sem, simprocAttr, wN, e8, wl1]
                refine ret_tup (fun _ => true) ?_ (by simp [ownNames])
                simp -implicitDefEqProofs only [go_sem, simprocAttr, eL]
              · have eL : errP c w at' n = 0 := by simp [errP, e1, e2, e3, e8]
                simp -implicitDefEqProofs only [go_sem, simprocAttr, wN, e8, wM, wl1]
                refine ret_tup (fun _ => true) ?_ (by simp [ownNames])
                simp -implicitDefEqProofs only [go_sem, simprocAttr, eL]
            · have eb : c.side w at' = 2 * c.R + c.sideA w at' := by simp [Cs.side, Cs.sideB, hb, ea]
              have wN : 2 * c.R + c.sideA w at' = c.side w at' := eb.symm
              simp -implicitDefEqProofs only [go_sem, simprocAttr, hb, ints_length, wl1]
              by_cases e8 : n ≤ c.side w at'
              · have eL : errP c w at' n = 8 := by simp [errP, e1, e2, e3, e8]
                simp -implicitDefEqProofs only [go_sem, simprocAttr, wN, e8, wl1]
                refine ret_tup (fun _ => true) ?_ (by simp [ownNames])
                simp -implicitDefEqProofs only [go_sem, simprocAttr, eL]
              · have eL : errP c w at' n = 0 := by simp [errP, e1, e2, e3, e8]
                simp -implicitDefEqProofs only [go_sem, simprocAttr, wN, e8, wM, wl1]
                refine ret_tup (fun _ => true) ?_ (by simp [ownNames])
                simp -implicitDefEqProofs only [go_sem, simprocAttr, eL]
          · have ea : c.sideA w at' = 0 := by simp [Cs.sideA, ha]
            refine w34 ?_
            dsimp only [c34, sop, gop, nop, qmv, qsg, qex, qld, qcl, qln, qix, qbo, qt, qi]
            simp -implicitDefEqProofs only [go_sem, simprocAttr, o1, o2, o3, f3, p3]
            refine call0 [16] false c73 (by simp -implicitDefEqProofs only [go_sem, simprocAttr]) (.inl rfl) ?_
            simp -implicitDefEqProofs only [go_sem, simprocAttr, mapV, o1, o2, o3, ints_length, wl1]
            refine call1 [] true (u1 0 ((w.length : Int) - 1) at') ?_
            simp -implicitDefEqProofs only [go_sem, simprocAttr, e2]
            refine call1 [] true (u82 n) ?_
            simp -implicitDefEqProofs only [go_sem, simprocAttr, e3, w1, ha]
            by_cases hb : at' < (w.length : Int) - 1
            · have eb : c.side w at' = 2 * c.R + (c.nd (w.drop (at'.toNat + 1)) - 2 * c.R + c.L) := by simp [Cs.side, Cs.sideB, hb, ea]
              have wN : IntKind.i64.wrap (2 * c.R + (c.nd (w.drop (at'.toNat + 1)) - 2 * c.R + c.L)) = c.side w at' := by rw [wr _ (by omega) (by omega)]; omega
              have i6 : at' + 1 ≤ (w.length : Nat) := by omega
              simp -implicitDefEqProofs only [go_sem, simprocAttr, hb, ints_length, wl1]
              refine W_opsD _ _ _ (Vs []) ?_ ?_
              · decide
              simp -implicitDefEqProofs only [go_sem, simprocAttr, o1, o2, o3, w5, w6, Option.elim, ints_length, i6, eq_true e3', implies_true, i7, e5, e6, Int.le_refl]
              refine callD [] false [.fo (c.bv sw sp), .fo (.list f (ints (w.drop (at'.toNat + 1))))] [] cB ⟨rfl, rfl, trivial⟩ rfl (.inl rfl) ?_
              simp -implicitDefEqProofs only [go_sem, simprocAttr, w1, w7, w8]
              by_cases e8 : n ≤ c.side w at'
              · have eL : errP c w at' n = 8 := by simp [errP, e1, e2, e3, e8]
                simp -implicitDefEqProofs only [go_sem, simprocAttr, wN, e8, wl1]
                refine ret_tup (fun _ => true) ?_ (by simp [ownNames])
                simp -implicitDefEqProofs only [go_sem, simprocAttr, eL]
              · have eL : errP c w at' n = 0 := by simp [errP, e1, e2, e3, e8]
                simp -implicitDefEqProofs only [go_sem, simprocAttr, wN, e8, wM, wl1]
                refine ret_tup (fun _ => true) ?_ (by simp [ownNames])
                simp -implicitDefEqProofs only [go_sem, simprocAttr, eL]
            · have eb : c.side w at' = 2 * c.R := by simp [Cs.side, Cs.sideB, hb, ea]
              have wN : 2 * c.R = c.side w at' := eb.symm
              simp -implicitDefEqProofs only [go_sem, simprocAttr, hb, ints_length, wl1]
              by_cases e8 : n ≤ c.side w at'
              · have eL : errP c w at' n = 8 := by simp [errP, e1, e2, e3, e8]
                simp -implicitDefEqProofs only [go_sem, simprocAttr, wN, e8, wl1]
                refine ret_tup (fun _ => true) ?_ (by simp [ownNames])
                simp -implicitDefEqProofs only [go_sem, simprocAttr, eL]
              · have eL : errP c w at' n = 0 := by simp [errP, e1, e2, e3, e8]
                simp -implicitDefEqProofs only [go_sem, simprocAttr, wN, e8, wM, wl1]
                refine ret_tup (fun _ => true) ?_ (by simp [ownNames])
                simp -implicitDefEqProofs only [go_sem, simprocAttr, eL]
    · have : w = [] := by simpa [ints] using e
      subst this
      simp at h1
  · have e' : (errO c [w] != 0) = true := by simpa using e1
    have eL : errP c w at' n = errO c [w] := by simp [errP, e1]
    refine w34 ?_
    dsimp only [c34, sop, gop, nop, qmv, qsg, qex, qld, qcl, qln, qix, qbo, qt, qi]
    simp -implicitDefEqProofs only [go_sem, simprocAttr, o1, o2, o3, f3, p3]
    refine call0 [16] false c73 (by simp -implicitDefEqProofs only [go_sem, simprocAttr]) (.inl rfl) ?_
    by_cases e2 : errC c = 0
    · simp -implicitDefEqProofs only [go_sem, simprocAttr, mapV, o1, o2, o3, e', e2]
      refine ret_tup (fun _ => true) ?_ (by simp [ownNames])
      simp -implicitDefEqProofs only [go_sem, simprocAttr, eL, e1]
    · simp -implicitDefEqProofs only [go_sem, simprocAttr, mapV, o1, o2, o3, e', e2]
      refine ret_tup (fun _ => true) ?_ (by simp [ownNames])
      simp -implicitDefEqProofs only [go_sem, simprocAttr, eL, e1]
end S04

