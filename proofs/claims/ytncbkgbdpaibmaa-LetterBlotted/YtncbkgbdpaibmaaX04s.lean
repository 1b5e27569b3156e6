/- A part of the proof: X04s, X04t. -/
import Derived.Test.YtncbkgbdpaibmaaX04r
set_option linter.unusedVariables false
set_option linter.unusedSimpArgs false
set_option maxRecDepth 20000
namespace S04
open Go Abs
theorem lks_at : ∀ (ms g : List Int) (i : Nat), g.length = ms.length → ∀ x, g[i]? = some x → (lks ms g)[i]? = some (x + gI ms (i : Nat))
  | m :: ms, y :: g, 0, _, x, h => by simp at h; subst h; simp [lks, gI]
  | m :: ms, y :: g, i + 1, hl, x, h => by
    have := lks_at ms g i (by simpa using hl) x (by simpa using h)
    rw [lks, List.getElem?_cons_succ, this]
    simp only [gI, Int.toNat_natCast, List.getD_cons_succ]
  | _, [], i, _, x, h => by simp at h
def manyF (Bs : List (List Int)) : List (List Int) := (Bs.take 5).map wordF
end S04

namespace S04
open Go Abs
theorem lstN_ne {xs : List FV} (h : xs ≠ []) : lstN xs = .list false xs := by cases xs <;> first | exact absurd rfl h | rfl
def pU (p : Int × Int) : FV := .agg [u8 p.1, u8 p.2]
def BB (l : List (Int × Int)) : Prop := ∀ p ∈ l, 0 ≤ p.1 ∧ p.1 < 256 ∧ 0 ≤ p.2 ∧ p.2 < 256
def tPB (p : Int × Int) : Int × Int × Int := (p.1.tmod 6, (p.1.tdiv 6).tmod 6, p.2.tmod 11 - 5)
def sameK (p q : Int × Int × Int) : Bool := decide (q.1 = p.1) && decide (q.2.1 = p.2.1)
def pStep (acc : List (Int × Int × Int)) (p : Int × Int) : List (Int × Int × Int) := if acc.any (sameK (tPB p)) then acc else acc ++ [tPB p]
def madeP (pl : List (Int × Int)) : List (Int × Int × Int) := (pl.take 10).foldl pStep []
def madeC (ws : List Int) (pl : List (Int × Int)) (f0 f1 f2 : Int) : Cs := ⟨ws.map fun x => 1 + x.tmod 25, madeP pl, f0.tmod 12, f1.tmod 6, f2.tmod 15⟩
theorem foldP_len : ∀ (l : List (Int × Int)) (acc : List (Int × Int × Int)), (l.foldl pStep acc).length ≤ acc.length + l.length
  | [], acc => by simp
  | p :: l, acc => by
    have := foldP_len l (pStep acc p)
    have h2 : (pStep acc p).length ≤ acc.length + 1 := by unfold pStep; split <;> simp
    simp only [List.foldl_cons, List.length_cons]
    omega
theorem t50 {ws : List Int} {s : FV} {pl : List (Int × Int)} {f0 f1 f2 : Int} (hw : ws.length = 6) (wb : ∀ x ∈ ws, 0 ≤ x ∧ x < 256) (h : lsOf s = some (pl.map pU)) (hb : BB pl) (hl : pl.length ≤ 9223372036854775807) (b0 : 0 ≤ f0 ∧ f0 < 256) (b1 : 0 ≤ f1 ∧ f1 < 256) (b2 : 0 ≤ f2 ∧ f2 < 256) :
    Fn Q 50 [.fo (.agg (ws.map u8 ++ [s, u8 f0, u8 f1, u8 f2]))] (.one (.fx (.agg [.list false (ints (ws.map fun x => 1 + x.tmod 25)), lstN ((madeP pl).map tF), .int (f0.tmod 12), .int (f1.tmod 6), .int (f2.tmod 15)]))) := by
  have o1 := ls_one h
  obtain ⟨a0, a1, a2, a3, a4, a5, rfl⟩ : ∃ a0 a1 a2 a3 a4 a5, ws = [a0, a1, a2, a3, a4, a5] := by
    match ws, hw with
    | [a0, a1, a2, a3, a4, a5], _ => exact ⟨a0, a1, a2, a3, a4, a5, rfl⟩
  have v0 : IntKind.i64.wrap f0 = f0 := wr _ (by omega) (by omega)
  have v1 : IntKind.i64.wrap f1 = f1 := wr _ (by omega) (by omega)
  have v2 : IntKind.i64.wrap f2 = f2 := wr _ (by omega) (by omega)
  generalize hW : [a0, a1, a2, a3, a4, a5] = ws at *
  have hws : ∀ (k : Nat) (x : Int), ws[k]? = some x → partL false 1 (List.drop k [LV.fv (u8 a0), .fv (u8 a1), .fv (u8 a2), .fv (u8 a3), .fv (u8 a4), .fv (u8 a5), .fv s, .fv (u8 f0), .fv (u8 f1), .fv (u8 f2)]) = some (.fv (u8 x)) := by
    intro k x hx
    subst hW
    match k, hx with
    | 0, hx => simp at hx; subst hx; rfl
    | 1, hx => simp at hx; subst hx; rfl
    | 2, hx => simp at hx; subst hx; rfl
    | 3, hx => simp at hx; subst hx; rfl
    | 4, hx => simp at hx; subst hx; rfl
    | 5, hx => simp at hx; subst hx; rfl
    | k + 6, hx => simp at hx
  rw [← hW]
  refine w50 ?_
  dsimp only [c50, sop, gop, nop, qmv, qsg, qex, qld, qcl, qln, qix, qbo, qt, qi]
  simp -implicitDefEqProofs only [go_sem, simprocAttr, List.map_cons, List.map_nil, List.cons_append, List.nil_append, o1, u8, v0, v1, v2]
  refine lpH 25 [4] 25 [3] (fun k : Nat => 6 - k) (fun k => k ≤ 6) (fun k ρ h => ρ 4 = .fv (.int (k : Nat)) ∧ h.gen 3 = 1 ∧ ∃ v, h.obj 3 = some (.box [v, .fv .nil, .fv (.int (f0.tmod 12)), .fv (.int (f1.tmod 6)), .fv (.int (f2.tmod 15))]) ∧ AccRep h v 39 3 1 (ints ((ws.take k).map fun x => 1 + x.tmod 25))) 0 (by omega) ?_ ?_
  · simp -implicitDefEqProofs only [go_sem, simprocAttr]
    exact ⟨_, rfl, .inl ⟨rfl, rfl⟩⟩
  · rintro k ρ h' hk ⟨r4, g3, v, q3, hv⟩
    by_cases k6 : k < 6
    · have k6' : (k : Int) < 6 := by omega
      obtain ⟨x, hx⟩ : ∃ x, ws[k]? = some x := ⟨_, List.getElem?_eq_getElem (by omega)⟩
      have hxb := wb x (List.mem_of_getElem? hx)
      have hg := hws k x hx
      unfold u8 at hg
      have vx : IntKind.i64.wrap x = x := wr _ (by omega) (by omega)
      have m1 := Int.tmod_nonneg 25 hxb.1
      have m2 := Int.tmod_lt_of_pos x (show (0 : Int) < 25 by decide)
      have vy : IntKind.i64.wrap (1 + x.tmod 25) = 1 + x.tmod 25 := wr _ (by omega) (by omega)
      have hwk : IntKind.i64.wrap ((k : Int) + 1) = ((k + 1 : Nat) : Int) := wr _ (by omega) (by omega)
      have et : ws.take (k + 1) = ws.take k ++ [x] := by rw [List.take_add_one, hx]; rfl
      simp -implicitDefEqProofs only [go_sem, simprocAttr, r4, k6']
      refine W_opsD _ _ _ (Vs [[], [], [], [], [], [], [], [], [], [38], [39], [], [3]]) ?_ ?_
      · decide
      simp -implicitDefEqProofs only [go_sem, simprocAttr, r4, g3, q3, k6', hg, vx, vy]
      have hv1 := hv.one
      refine app_acc (e := 3) (es := 1) (n := 39) (acc := ints ((ws.take k).map fun x => 1 + x.tmod 25)) (ys := ints [1 + x.tmod 25]) (by simpa only [go_sem, simprocAttr, AccRep] using hv) idx_22 (by omega) (by simp -implicitDefEqProofs only [go_sem, simprocAttr, ints] <;> rfl) (by simp [ints]) (fun x hx => (ints_elem _ x hx).1) (by simp -implicitDefEqProofs only [go_sem, simprocAttr]) (by simp [byt_3, ints]; omega) (by simp [maxLen, ints]; omega) (by simp) ?_
      simp -implicitDefEqProofs only [go_sem, simprocAttr, q3, g3, hv1.2, r4, hwk]
      refine nxt (k + 1) (by omega) (by omega) ?_
      rw [et]
      simp -implicitDefEqProofs only [go_sem, simprocAttr]
      refine ⟨g3, _, rfl, .inr ⟨by simp -implicitDefEqProofs only [go_sem, simprocAttr], by simp -implicitDefEqProofs only [go_sem, simprocAttr, List.map_append, List.map_cons, List.map_nil, ints], by simp [ints]⟩⟩
    · obtain rfl : k = 6 := by omega
      rw [List.take_of_length_le (by omega)] at hv
      have hv1 := hv.one
      simp -implicitDefEqProofs only [go_sem, simprocAttr, r4]
      refine lpH 41 [5, 6, 7, 8] 100 [3, 6] (fun k : Nat => 10 - k) (fun k => k ≤ 10 ∧ k ≤ pl.length) (fun k ρ h => ρ 5 = .fv (.int (k : Nat)) ∧ h.gen 3 = 1 ∧ ∃ v', h.obj 3 = some (.box [v, v', .fv (.int (f0.tmod 12)), .fv (.int (f1.tmod 6)), .fv (.int (f2.tmod 15))]) ∧ AccRep h v' 115 108 3 (((pl.take k).foldl pStep []).map tF)) 0 ⟨by omega, by omega⟩ ?_ ?_
      · simp -implicitDefEqProofs only [go_sem, simprocAttr, g3]
        exact ⟨_, q3, .inl ⟨rfl, rfl⟩⟩
      · rintro k ρ2 h'' ⟨hk, hk2⟩ ⟨r5, g3', v', q3', hv'⟩
        have al := foldP_len (pl.take k) []
        rw [List.length_take, List.length_nil] at al
        by_cases q1 : k < pl.length
        · have q1' : (k : Int) < (pl.length : Nat) := by omega
          by_cases q2 : k < 10
          · have q2' : (k : Int) < 10 := by omega
            obtain ⟨p, hp⟩ : ∃ p, pl[k]? = some p := ⟨_, List.getElem?_eq_getElem q1⟩
            obtain ⟨x0, x1, y0, y1⟩ := hb p (List.mem_of_getElem? hp)
            have hwk : IntKind.i64.wrap ((k : Int) + 1) = ((k + 1 : Nat) : Int) := wr _ (by omega) (by omega)
            have wx : IntKind.i64.wrap p.1 = p.1 := wr _ (by omega) (by omega)
            have wy : IntKind.i64.wrap p.2 = p.2 := wr _ (by omega) (by omega)
            have m1 := Int.tmod_nonneg 11 y0
            have m2 := Int.tmod_lt_of_pos p.2 (show (0 : Int) < 11 by decide)
            have wz : IntKind.i64.wrap (p.2.tmod 11 - 5) = p.2.tmod 11 - 5 := wr _ (by omega) (by omega)
            have d1 : 0 ≤ p.1.tdiv 6 := Int.tdiv_nonneg x0 (by decide)
            have d2 : p.1.tdiv 6 ≤ p.1 := Int.tdiv_le_self _ x0
            have wd : IntKind.i64.wrap (p.1.tdiv 6) = p.1.tdiv 6 := wr _ (by omega) (by omega)
            have et : pl.take (k + 1) = pl.take k ++ [p] := by rw [List.take_add_one, hp]; rfl
            generalize hA : (pl.take k).foldl pStep [] = A at *
            have ea : (pl.take (k + 1)).foldl pStep [] = pStep A p := by rw [et, List.foldl_append, hA]; rfl
            have hv2 := hv'.one
            simp -implicitDefEqProofs only [go_sem, simprocAttr, r5, g3', q3', lenV_ls h, List.length_map, q1', q2']
            refine W_opsD _ _ _ (Vs [[], [], [], [], [], [], [], [], [], [], [], [], [], [], [], [], [], [], [], [], [], [], [], [], [], [], [], [6], [6]]) ?_ ?_
            · decide
            simp -implicitDefEqProofs only [go_sem, simprocAttr, r5, index_map h idx_78 hp rfl, pU, u8, wx, wy, wz, wd]
            have t1 : (tPB p).1 = p.1.tmod 6 := rfl
            have t2 : (tPB p).2.1 = (p.1.tdiv 6).tmod 6 := rfl
            have t3 : (tPB p).2.2 = p.2.tmod 11 - 5 := rfl
            rw [← t1, ← t2, ← t3]
            have hlen : A.length ≤ 10 := by omega
            have eS : pStep A p = if A.any (sameK (tPB p)) then A else A ++ [tPB p] := rfl
            rw [eS] at ea
            generalize tPB p = t at *
            rcases hv' with ⟨e0, rfl⟩ | ⟨rfl, o115, hne⟩
            · have hA0 : A = [] := by simpa using e0
              subst hA0
              refine lp (n := 1) (lpStep ?_)
              simp -implicitDefEqProofs only [go_sem, simprocAttr, g3', q3']
              have hv3 : AccRep h'' (.fv .nil) 115 108 3 (([] : List (Int × Int × Int)).map tF) := .inl ⟨rfl, rfl⟩
              rw [List.any_nil, if_neg (by simp)] at ea
              have hv1 := hv3.one
              refine app_acc (e := 108) (es := 3) (n := 115) (acc := ([] : List (Int × Int × Int)).map tF) (ys := [tF t]) (by have hv4 := hv3; simp only [go_sem, simprocAttr, AccRep] at hv4 ⊢; first | done | exact hv4) idx_23 (by omega) (by simp -implicitDefEqProofs only [go_sem, simprocAttr]; rfl) (by simp) (by simp [tF, FV.cells]) (by simp -implicitDefEqProofs only [go_sem, simprocAttr]) (by simp [byt_108] <;> omega) (by simp [maxLen] <;> omega) (by simp) ?_
              simp -implicitDefEqProofs only [go_sem, simprocAttr, g3', q3', hv1.2, r5, hwk]
              refine nxt (k + 1) (by omega) ⟨by omega, by omega⟩ ?_
              rw [ea]
              simp -implicitDefEqProofs only [go_sem, simprocAttr, g3', q3']
              exact ⟨_, rfl, .inr ⟨by simp -implicitDefEqProofs only [go_sem, simprocAttr], by simp -implicitDefEqProofs only [go_sem, simprocAttr, List.map_append, List.map_cons, List.map_nil], by simp⟩⟩
            · have hv3 : AccRep h'' (.gl 115 (h''.gen 115)) 115 108 3 (A.map tF) := .inr ⟨rfl, o115, hne⟩
              refine lpL (β := Bool) 79 [7, 8] 200 [] A (by omega) (fun xs j b => (b || xs.any (sameK t)) = A.any (sameK t)) (fun j b ρ h => ρ 8 = .fv (.int (j : Nat)) ∧ ρ 7 = .fv (.bool b)) false rfl ?_ ?_ ?_
              · simp -implicitDefEqProofs only [go_sem, simprocAttr]
              · rintro b ρ3 h3 e ⟨r8, r7⟩
                simp only [List.any_nil, Bool.or_false] at e
                have nl : ¬ ((A.length : Int) < (A.length : Nat)) := by omega
                cases b with
                | true =>
                  rw [← e, if_pos rfl] at ea
                  simp -implicitDefEqProofs only [go_sem, simprocAttr, r8, r7, g3', q3', o115, List.length_map, nl, r5, hwk]
                  refine nxt (k + 1) (by omega) ⟨by omega, by omega⟩ ?_
                  rw [ea]
                  simp -implicitDefEqProofs only [go_sem, simprocAttr]
                  exact ⟨g3', _, q3', by simpa only [go_sem, simprocAttr, AccRep] using hv3⟩
                | false =>
                  rw [← e, if_neg (by simp)] at ea
                  simp -implicitDefEqProofs only [go_sem, simprocAttr, r8, r7, g3', q3', o115, List.length_map, nl]
                  have hv1 := hv3.one
                  refine app_acc (e := 108) (es := 3) (n := 115) (acc := (A : List (Int × Int × Int)).map tF) (ys := [tF t]) (by have hv4 := hv3; simp only [go_sem, simprocAttr, AccRep] at hv4 ⊢; first | done | exact hv4) idx_23 (by omega) (by simp -implicitDefEqProofs only [go_sem, simprocAttr]; rfl) (by simp) (by simp [tF, FV.cells]) (by simp -implicitDefEqProofs only [go_sem, simprocAttr]) (by simp [byt_108] <;> omega) (by simp [maxLen] <;> omega) (by simp) ?_
                  simp -implicitDefEqProofs only [go_sem, simprocAttr, g3', q3', hv1.2, r5, hwk]
                  refine nxt (k + 1) (by omega) ⟨by omega, by omega⟩ ?_
                  rw [ea]
                  simp -implicitDefEqProofs only [go_sem, simprocAttr, g3', q3']
                  exact ⟨_, rfl, .inr ⟨by simp -implicitDefEqProofs only [go_sem, simprocAttr], by simp -implicitDefEqProofs only [go_sem, simprocAttr, List.map_append, List.map_cons, List.map_nil], by simp⟩⟩
              · rintro q qs j b ρ3 h3 hq hj hmq hj' hjw e ⟨r8, r7⟩
                rw [List.any_cons] at e
                have hq2 : (A.map tF)[j]? = some (.agg [.int q.1, .int q.2.1, .int q.2.2]) := by rw [List.getElem?_map, hq]; rfl
                cases b with
                | true =>
                  simp -implicitDefEqProofs only [go_sem, simprocAttr, r8, r7, g3', q3', o115, List.length_map, hj', hjw]
                  refine nxtL true (by rw [← e]; rfl) ?_
                  simp -implicitDefEqProofs only [go_sem, simprocAttr]
                | false =>
                  by_cases c1 : q.1 = t.1
                  · have c1' : (q.1 == t.1) = true := by simpa using c1
                    by_cases c2 : q.2.1 = t.2.1
                    · have c2' : (q.2.1 == t.2.1) = true := by simpa using c2
                      have es : sameK t q = true := by simp [sameK, c1, c2]
                      simp -implicitDefEqProofs only [go_sem, simprocAttr, r8, r7, g3', q3', o115, List.length_map, hj', hq2, hq, c1', c2', hjw]
                      refine nxtL true (by rw [← e, es]; simp) ?_
                      simp -implicitDefEqProofs only [go_sem, simprocAttr]
                    · have c2' : (q.2.1 == t.2.1) = false := by simpa using c2
                      have es : sameK t q = false := by simp [sameK, c2]
                      simp -implicitDefEqProofs only [go_sem, simprocAttr, r8, r7, g3', q3', o115, List.length_map, hj', hq2, hq, c1', c2', hjw]
                      refine nxtL false (by rw [← e, es]; simp) ?_
                      simp -implicitDefEqProofs only [go_sem, simprocAttr]
                  · have c1' : (q.1 == t.1) = false := by simpa using c1
                    have es : sameK t q = false := by simp [sameK, c1]
                    simp -implicitDefEqProofs only [go_sem, simprocAttr, r8, r7, g3', q3', o115, List.length_map, hj', hq2, hq, c1', hjw]
                    refine nxtL false (by rw [← e, es]; simp) ?_
                    simp -implicitDefEqProofs only [go_sem, simprocAttr]
          · have e6 : k = 10 := by omega
            subst e6
            have q3 : (10 : Int) < (pl.length : Nat) := by omega
            have eP : (pl.take 10).foldl pStep [] = madeP pl := rfl
            rw [eP] at hv'
            simp -implicitDefEqProofs only [go_sem, simprocAttr, r5, g3', q3', lenV_ls h, List.length_map, q3]
            rcases hv with ⟨e0, _⟩ | ⟨rfl, o39, f2⟩
            · exact absurd (congrArg List.length e0) (by simp [ints, hw])
            · rcases hv' with ⟨f3, rfl⟩ | ⟨rfl, f3, f4⟩
              · simp -implicitDefEqProofs only [go_sem, simprocAttr, o39, f3]
                exact ret_fx (fun _ => true) (by simp -implicitDefEqProofs only [go_sem, simprocAttr, o39, f3, ← hW, List.map_cons, List.map_nil, lstN] <;> rfl)
              · simp -implicitDefEqProofs only [go_sem, simprocAttr, o39, f3]
                exact ret_fx (fun _ => true) (by simp -implicitDefEqProofs only [go_sem, simprocAttr, o39, f3, ← hW, List.map_cons, List.map_nil, lstN_ne f4] <;> rfl)
        · have q1' : ¬ (k : Int) < (pl.length : Nat) := by omega
          have e6 : pl.take k = pl.take 10 := by rw [List.take_of_length_le (by omega), List.take_of_length_le (by omega)]
          have eP : (pl.take k).foldl pStep [] = madeP pl := by rw [e6]; rfl
          rw [eP] at hv'
          simp -implicitDefEqProofs only [go_sem, simprocAttr, r5, g3', q3', lenV_ls h, List.length_map, q1']
          rcases hv with ⟨e0, _⟩ | ⟨rfl, o39, f2⟩
          · exact absurd (congrArg List.length e0) (by simp [ints, hw])
          · rcases hv' with ⟨f3, rfl⟩ | ⟨rfl, f3, f4⟩
            · simp -implicitDefEqProofs only [go_sem, simprocAttr, o39, f3]
              exact ret_fx (fun _ => true) (by simp -implicitDefEqProofs only [go_sem, simprocAttr, o39, f3, ← hW, List.map_cons, List.map_nil, lstN] <;> rfl)
            · simp -implicitDefEqProofs only [go_sem, simprocAttr, o39, f3]
              exact ret_fx (fun _ => true) (by simp -implicitDefEqProofs only [go_sem, simprocAttr, o39, f3, ← hW, List.map_cons, List.map_nil, lstN_ne f4] <;> rfl)
end S04

