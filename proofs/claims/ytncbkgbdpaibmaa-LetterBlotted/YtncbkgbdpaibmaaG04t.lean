/- A part of the proof: G04t, G04u. -/
import Derived.Test.YtncbkgbdpaibmaaG04q
set_option linter.unusedVariables false
set_option linter.unusedSimpArgs false
set_option maxRecDepth 20000
namespace S04
open Go Abs
def Cs.ln (c : Cs) : List (List Int) → Int
  | [] => 0
  | w :: W => (c.nd w - 2 * c.R + c.B) + c.ln W
def Cs.rest (c : Cs) (n : Int) (W : List (List Int)) : Int := n - 2 * c.R + c.B - c.ln W
@[reducible] def Cs.pc (c : Cs) (sw sp sW : FV) (n : Int) : List FV := [sw, sp, .int c.R, .int c.L, .int c.B, mapV c.M, sW, .int n]
@[reducible] def Cs.pv (c : Cs) (sw sp sW : FV) (n : Int) : FV := .agg (c.pc sw sp sW n)
structure WsV (c : Cs) (sW : FV) (wl : List FV) : Prop where
  s : lsOf sW = some wl
  w : ∀ x ∈ wl, WV c x x.toL
  l : wl.length ≤ 5
theorem t122 {c : Cs} {sw sp sW : FV} {wl : List FV} {n : Int} {a b : Nat} (v : CV c sw sp) (ok : c.Ok) (W : WsV c sW wl) (n0 : 0 ≤ n) (n1 : n ≤ 1000) (ab : a ≤ b) (bl : b ≤ wl.length) (hne : wl ≠ []) :
    Fn Q 122 [.fo (c.pv sw sp sW n), .fo (.int (a : Nat)), .fo (.int (b : Nat))] (.one (.fx (.int (c.rest n (((wl.map FV.toL).take b).drop a))))) := by
  have o1 := ls_one v.w
  have o2 := ls_one v.p
  have oW := ls_one W.s
  have r0 := ok.r0
  have r1 := ok.r1
  have b0 := ok.b0
  have b1 := ok.b1
  have w1 : IntKind.i64.wrap (2 * c.R) = 2 * c.R := wr _ (by omega) (by omega)
  have w2 : IntKind.i64.wrap (n - 2 * c.R) = n - 2 * c.R := wr _ (by omega) (by omega)
  have w3 : IntKind.i64.wrap (n - 2 * c.R + c.B) = n - 2 * c.R + c.B := wr _ (by omega) (by omega)
  obtain ⟨hs, hw, hl⟩ := W
  rcases ls_cases hs with ⟨f, rfl⟩ | ⟨rfl, e⟩
  · have e3 : ∀ x ∈ wl, x.cells.length = 1 := fun x hx => by rw [ls_cells (hw x hx).s]; rfl
    have i1 : (a : Int) ≤ (b : Nat) := by omega
    have i2 : (b : Int) ≤ (wl.length : Nat) := by omega
    have e4 : ((wl.map FV.toL).take b).drop a = ((wl.take b).drop a).map FV.toL := by simp [List.map_take, List.map_drop]
    rw [e4]
    have hX : ∀ x ∈ (wl.take b).drop a, WV c x x.toL := fun x hx => hw x (List.mem_of_mem_take (List.mem_of_mem_drop hx))
    have lX : ((wl.take b).drop a).length ≤ 5 := by simp; omega
    refine w122 ?_
    dsimp only [c122, sop, gop, nop, qmv, qsg, qex, qld, qcl, qln, qix, qbo, qt, qi]
    simp -implicitDefEqProofs only [go_sem, simprocAttr, o1, o2, oW, mapV, w1, w2, w3, Option.elim, i1, i2, eq_true e3, implies_true]
    generalize (wl.take b).drop a = X at *
    refine lpL (β := Int) 29 [7, 9] 29 [] X (by omega) (fun xs k m => m - c.ln (xs.map FV.toL) = c.rest n (X.map FV.toL) ∧ -(3000 * (k : Int)) - 100 ≤ m ∧ m ≤ 2000 + 100 * (k : Int)) (fun k m ρ h => ρ 29 = .fv (.int (k : Nat)) ∧ ρ 7 = .fv (.int m)) (n - 2 * c.R + c.B) ⟨rfl, by omega, by omega⟩ ?_ ?_ ?_
    · simp -implicitDefEqProofs only [go_sem, simprocAttr]
    · rintro m ρ h ⟨e, _, _⟩ ⟨r29, r7⟩
      simp -implicitDefEqProofs only [go_sem, simprocAttr, r29, r7]
      exact ret_eq (by rw [← e]; simp [Cs.ln])
    · rintro x xs k m ρ h hx hk hm hk' hwr ⟨e, m0, m1⟩ ⟨r29, r7⟩
      have hxw := hX x hm
      have c74 := t74 v ok hxw
      have nb := ok.nd_bd hxw.b
      have xl := hxw.l
      have w4 : IntKind.i64.wrap (c.nd x.toL - 2 * c.R) = c.nd x.toL - 2 * c.R := wr _ (by omega) (by omega)
      have w5 : IntKind.i64.wrap (c.nd x.toL - 2 * c.R + c.B) = c.nd x.toL - 2 * c.R + c.B := wr _ (by omega) (by omega)
      have w6 : IntKind.i64.wrap (m - (c.nd x.toL - 2 * c.R + c.B)) = m - (c.nd x.toL - 2 * c.R + c.B) := wr _ (by omega) (by omega)
      have hX2 : lsOf (.list false X) = some X := rfl
      have hx1 : x.cells.length = 1 := by rw [ls_cells hxw.s]; rfl
      simp -implicitDefEqProofs only [go_sem, simprocAttr, r29, r7, hk', hx, ls_cells hxw.s]
      refine W_opsD _ _ _ (Vs []) ?_ ?_
      · decide
      simp -implicitDefEqProofs only [go_sem, simprocAttr, o1, o2]
      refine callD [] false [.fo (c.bv sw sp), .fo x] [] c74 ⟨rfl, rfl, trivial⟩ rfl (.inl rfl) ?_
      simp -implicitDefEqProofs only [go_sem, simprocAttr, w1, w4, w5, r7, w6, r29, hwr]
      refine nxtL (m - (c.nd x.toL - 2 * c.R + c.B)) ⟨by rw [← e]; simp only [List.map_cons, Cs.ln]; omega, by push_cast; omega, by push_cast; omega⟩ ?_
      simp -implicitDefEqProofs only [go_sem, simprocAttr]
  · exact absurd e hne
theorem t95 {c : Cs} {sw sp s : FV} {w : List Int} {n : Int} (v : CV c sw sp) (ok : c.Ok) (ws : WV c s w) : Fn Q 95 [.fo s, .fo (.ptr (c.bc sw sp)), .fo (.ptr [.int n])] (.one (.fx (.bool (decide (n < c.nd w))))) := by
  have c74 := t74 v ok ws
  refine w95 ?_
  dsimp only [c95, sop, gop, nop, qmv, qsg, qex, qld, qcl, qln, qix, qbo, qt, qi]
  simp -implicitDefEqProofs only [go_sem, simprocAttr]
  refine W_opsD _ _ _ (Vs []) ?_ ?_
  · decide
  simp -implicitDefEqProofs only [go_sem, simprocAttr]
  refine callD [] false [.fo (c.bv sw sp), .fo s] [] c74 ⟨rfl, rfl, trivial⟩ rfl (.inl rfl) ?_
  simp -implicitDefEqProofs only [go_sem, simprocAttr]
  exact ret_fv
end S04

namespace S04
open Go Abs
theorem callYo {P : Program} {nm : Option Nat} {args : List LV} {h : AH} {d : Option Nat} {r : List SO} {fs : List Fr} {ρ : Nat → LV} {Q : Exit → St → Prop} (os : List Nat) (x : List FV) (rest : List (List FV)) (hg : h.gen yN = 0)
    (ha : mapO (peek (fun _ => false) (h.frzObjs os) 6) args = some x) (hy : (h.frzObjs os).y = some (x :: rest))
    (kt : L P r fs (St.put ⟨ρ, ⟨(h.frzObjs os).gen, (h.frzObjs os).obj, some rest⟩⟩ d (.fv (.bool true)) ⟨(h.frzObjs os).gen, (h.frzObjs os).obj, some rest⟩) Q)
    (kf : L P r fs (St.put ⟨ρ, ⟨(h.frzObjs os).gen, (h.frzObjs os).obj, none⟩⟩ d (.fv (.bool false)) ⟨(h.frzObjs os).gen, (h.frzObjs os).obj, none⟩) Q) : Cl' P nm (.it yN 0) args h d r fs ρ Q :=
  .inr ⟨rfl, rfl, hg, os, x, rest, ha, hy, kt, kf⟩
def Cs.stepG (c : Cs) (n : Int) (W : List (List Int)) (f : Nat → List (List Int × Int)) (from' : Nat) : Nat → Nat → List (List Int × Int)
  | 0, _ => []
  | k + 1, to' => if c.rest n ((W.take to').drop from') < 0 then [] else ((f to').map fun x => ((from' : Int) :: x.1, max (c.rest n ((W.take to').drop from')) x.2)) ++ c.stepG n W f from' k (to' + 1)
def Cs.brk (c : Cs) (n : Int) (W : List (List Int)) : Nat → Nat → List (List Int × Int)
  | 0, _ => []
  | 1, from' => if 0 ≤ c.rest n ((W.take W.length).drop from') then [([(from' : Int)], c.rest n ((W.take W.length).drop from'))] else []
  | l + 2, from' => c.stepG n W (c.brk n W (l + 1)) from' (W.length - (from' + 1)) (from' + 1)
def itB (x : List Int × Int) : List FV := [.list false (ints x.1), .int x.2]
theorem stepG_len (c : Cs) (n : Int) (W : List (List Int)) {f : Nat → List (List Int × Int)} {from' l : Nat} (h : ∀ t, ∀ x ∈ f t, x.1.length = l) : ∀ (k t : Nat), ∀ x ∈ c.stepG n W f from' k t, x.1.length = l + 1
  | 0, t, x, hx => by simp [Cs.stepG] at hx
  | k + 1, t, x, hx => by
    unfold Cs.stepG at hx
    split at hx
    · simp at hx
    · rcases List.mem_append.1 hx with hx | hx
      · obtain ⟨y, hy, rfl⟩ := List.mem_map.1 hx
        simp [h t y hy]
      · exact stepG_len c n W h k (t + 1) x hx
theorem brk_len (c : Cs) (n : Int) (W : List (List Int)) : ∀ (l from' : Nat), ∀ x ∈ c.brk n W l from', x.1.length = l
  | 0, _, x, hx => by simp [Cs.brk] at hx
  | 1, f, x, hx => by
    unfold Cs.brk at hx
    split at hx
    · simp at hx; subst hx; rfl
    · simp at hx
  | l + 2, f, x, hx => stepG_len c n W (brk_len c n W (l + 1)) _ _ x hx
theorem t96 {c : Cs} {sw sp sW : FV} {wl : List FV} {n a b : Int} (v : CV c sw sp) (W : WsV c sW wl) : Fn Q 96 [.fo (c.pv sw sp sW n), .fo (.int a), .fo (.int b)] (.one (.fx (.clos 121 [.ptr [.int b], .ptr (c.pc sw sp sW n), .ptr [.int a]]))) := by
  have o1 := ls_one v.w
  have o2 := ls_one v.p
  have oW := ls_one W.s
  refine w96 ?_
  dsimp only [c96, sop, gop, nop, qmv, qsg, qex, qld, qcl, qln, qix, qbo, qt, qi]
  simp -implicitDefEqProofs only [go_sem, simprocAttr, o1, o2, oW, mapV]
  exact ret_fx (fun _ => true) (by simp -implicitDefEqProofs only [go_sem, simprocAttr]; rfl)
theorem t121 {c : Cs} {sw sp sW : FV} {wl : List FV} {n : Int} (v : CV c sw sp) (ok : c.Ok) (W : WsV c sW wl) (n0 : 0 ≤ n) (n1 : n ≤ 1000) (hne : wl ≠ []) : ∀ (l a : Nat), a < wl.length → l < 100 →
    SeqFn Q 121 [] [.ptr [.int ((l + 1 : Nat) : Int)], .ptr (c.pc sw sp sW n), .ptr [.int (a : Nat)]] ((c.brk n (wl.map FV.toL) (l + 1) a).map itB)
  | 0, a, ha, hl => by
    have c122 := t122 v ok W n0 n1 (a := a) (b := wl.length) (by omega) (Nat.le_refl _) hne
    have eb : c.brk n (wl.map FV.toL) (0 + 1) a = if 0 ≤ c.rest n (((wl.map FV.toL).take wl.length).drop a) then [([(a : Int)], c.rest n (((wl.map FV.toL).take wl.length).drop a))] else [] := by simp only [Cs.brk, List.length_map]
    rw [eb]
    have h1 : (((0 + 1 : Nat) : Int) == 1) = true := rfl
    generalize c.rest n (((wl.map FV.toL).take wl.length).drop a) = r at *
    refine seq_intro Go.Proofs.Try.func121 rfl (by kernel_rfl) mix (k121 0) (Nat.le_of_ble_eq_true (by kernel_rfl)) ?_
    refine Abs.walk ?_
    dsimp only [c121, sop, gop, nop, qmv, qsg, qex, qld, qcl, qln, qix, qbo, qt, qi]
    simp -implicitDefEqProofs only [go_sem, simprocAttr, h1, lenV_ls W.s]
    refine call1 [] false (c122) ?_
    by_cases hr : 0 ≤ r
    · rw [if_pos hr]
      simp -implicitDefEqProofs only [go_sem, simprocAttr, hr]
      refine callYo [22] [.list false [.int (a : Int)], .int r] [] (by simp -implicitDefEqProofs only [go_sem, simprocAttr, yN]) (by simp -implicitDefEqProofs only [go_sem, simprocAttr]) (by simp -implicitDefEqProofs only [go_sem, simprocAttr, List.map_cons, List.map_nil, itB]; rfl) ?_ ?_
      · simp -implicitDefEqProofs only [go_sem, simprocAttr, retY]
      · simp -implicitDefEqProofs only [go_sem, simprocAttr, retY]
    · rw [if_neg hr]
      simp -implicitDefEqProofs only [go_sem, simprocAttr, hr]
      simp -implicitDefEqProofs only [go_sem, simprocAttr, retY, List.map_nil]
  | l + 1, a, ha, hl => by
    have ne : (((l + 1 + 1 : Nat) : Int) == 1) = false := by simp; omega
    have w0 : IntKind.i64.wrap (((l + 1 + 1 : Nat) : Int) - 1) = ((l + 1 : Nat) : Int) := by rw [wr _ (by omega) (by omega)]; omega
    have wl5 := W.l
    have w1 : IntKind.i64.wrap ((a : Int) + 1) = ((a + 1 : Nat) : Int) := wr _ (by omega) (by omega)
    have bl := brk_len c n (wl.map FV.toL) (l + 1)
    rw [Cs.brk, List.length_map]
    refine seq_intro Go.Proofs.Try.func121 rfl (by kernel_rfl) mix (k121 0) (Nat.le_of_ble_eq_true (by kernel_rfl)) ?_
    refine Abs.walk ?_
    dsimp only [c121, sop, gop, nop, qmv, qsg, qex, qld, qcl, qln, qix, qbo, qt, qi]
    simp -implicitDefEqProofs only [go_sem, simprocAttr, ne, w1]
    refine lpH 27 [6, 7, 8, 9] 27 [7] (fun k : Nat => wl.length - k) (fun k => a + 1 ≤ k ∧ k ≤ wl.length) (fun k ρ h => ρ 6 = .fv (.int (k : Nat)) ∧ h.y = some ((c.stepG n (wl.map FV.toL) (c.brk n (wl.map FV.toL) (l + 1)) a (wl.length - k) k).map itB) ∧ h.gen 1000000000 = 0) (a + 1) ⟨Nat.le_refl _, ha⟩ ?_ ?_
    · simp -implicitDefEqProofs only [go_sem, simprocAttr]
    · rintro k ρ h ⟨k0, k1⟩ ⟨r6, hy, gy⟩
      by_cases hk : k < wl.length
      · have hk' : (k : Int) < (wl.length : Nat) := by omega
        have w2 : IntKind.i64.wrap ((k : Int) + 1) = ((k + 1 : Nat) : Int) := wr _ (by omega) (by omega)
        obtain ⟨j, hj⟩ : ∃ j, wl.length - k = j + 1 := ⟨wl.length - k - 1, by omega⟩
        have hj' : wl.length - (k + 1) = j := by omega
        have c122 := t122 v ok W n0 n1 (a := a) (b := k) (by omega) k1 hne
        have ih := t121 v ok W n0 n1 hne l k hk (by omega)
        have c96 := t96 (n := n) (a := (k : Nat)) (b := ((l + 1 : Nat) : Int)) v W
        rw [hj, Cs.stepG] at hy
        generalize c.rest n (((wl.map FV.toL).take k).drop a) = r at *
        generalize c.brk n (wl.map FV.toL) (l + 1) = bf at *
        by_cases hr : r < 0
        · rw [if_pos hr] at hy
          simp -implicitDefEqProofs only [go_sem, simprocAttr, r6, lenV_ls W.s, hk']
          refine call1 [] false (c122) ?_
          simp -implicitDefEqProofs only [go_sem, simprocAttr, hr]
          simp -implicitDefEqProofs only [go_sem, simprocAttr, retY, hy, List.map_nil]
        · rw [if_neg hr, List.map_append, List.map_map] at hy
          simp -implicitDefEqProofs only [go_sem, simprocAttr, r6, lenV_ls W.s, hk']
          refine call1 [] false (c122) ?_
          simp -implicitDefEqProofs only [go_sem, simprocAttr, hr, r6, w0]
          refine call1 [] false (c96) ?_
          simp -implicitDefEqProofs only [go_sem, simprocAttr]
          refine rgH 46 [] [] ((bf k).map itB) (argSq (by rfl) ih) (β := List (List Int × Int)) (fun ys a => ys = a.map itB ∧ ∀ z ∈ a, z ∈ bf k) (fun ys z h => h.y = some ((z.map fun x => itB ((a : Int) :: x.1, max r x.2)) ++ (c.stepG n (wl.map FV.toL) bf a j (k + 1)).map itB) ∧ h.gen 1000000000 = 0) (bf k) ⟨rfl, fun _ h => h⟩ ?_ ?_ ?_
          · simp -implicitDefEqProofs only [go_sem, simprocAttr, hy, gy]
            rfl
          · rintro z k' ⟨e1, _⟩ ⟨hy', gy'⟩
            obtain rfl : z = [] := by cases z <;> simp_all
            simp -implicitDefEqProofs only [go_sem, simprocAttr, r6, w2]
            refine nxt (k + 1) (by omega) ⟨by omega, hk⟩ ?_
            rw [hj']
            simp -implicitDefEqProofs only [go_sem, simprocAttr, gy', hy', List.nil_append, List.map_nil]
          · rintro y ys z k' ⟨e1, e2⟩ ⟨hy', gy'⟩
            obtain ⟨⟨b, m⟩, zs, rfl⟩ : ∃ q zs, z = q :: zs := by
              cases z with
              | nil => simp at e1
              | cons q zs => exact ⟨q, zs, rfl⟩
            simp only [List.map_cons, List.cons.injEq] at e1
            obtain ⟨rfl, rfl⟩ := e1
            have hb : b.length = l + 1 := bl k (b, m) (e2 (b, m) (by simp))
            refine ⟨rfl, ?_⟩
            simp -implicitDefEqProofs only [go_sem, simprocAttr, itB]
            refine W_opsD _ _ _ (Vs [[], [], [49], [], [49, 51], [51], [], []]) ?_ ?_
            · decide
            simp -implicitDefEqProofs only [go_sem, simprocAttr]
            refine callD [51] false [.fo (.list false [.list false [.int (a : Int)], .list false (ints b)])] [] (t123 (a := [(a : Int)]) (b := b) rfl rfl (by simp) (by simp) (by omega)) ⟨by simp -implicitDefEqProofs only [go_sem, simprocAttr], trivial⟩ rfl (.inl rfl) ?_
            simp -implicitDefEqProofs only [go_sem, simprocAttr]
            refine callY (itB ((a : Int) :: b, max r m)) ((zs.map fun x => itB ((a : Int) :: x.1, max r x.2)) ++ (c.stepG n (wl.map FV.toL) bf a j (k + 1)).map itB) (by simp -implicitDefEqProofs only [go_sem, simprocAttr, yN, gy']) (by rfl) (by simp -implicitDefEqProofs only [go_sem, simprocAttr, hy', List.map_cons, List.cons_append, itB]) ?_ ?_
            · simp -implicitDefEqProofs only [go_sem, simprocAttr]
              refine ⟨zs, ⟨rfl, fun q hq => e2 q (by simp [hq])⟩, ?_⟩
              simp -implicitDefEqProofs only [go_sem, simprocAttr, gy']
              rfl
            · simp -implicitDefEqProofs only [go_sem, simprocAttr, retY]
      · have hk' : ¬ (k : Int) < (wl.length : Nat) := by omega
        obtain rfl : k = wl.length := by omega
        simp -implicitDefEqProofs only [go_sem, simprocAttr, r6, lenV_ls W.s, hk']
        rw [Nat.sub_self, Cs.stepG] at hy
        simp -implicitDefEqProofs only [go_sem, simprocAttr, retY, hy, List.map_nil]
end S04

