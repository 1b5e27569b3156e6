/- A part of the proof: G04h, G04i, G04j. -/
import Derived.Test.YtncbkgbdpaibmaaG04e
set_option linter.unusedVariables false
set_option linter.unusedSimpArgs false
set_option maxRecDepth 20000
namespace S04
open Go Abs
def bdd (B : Int) (l : List Int) : Prop := ∀ x ∈ l, -B ≤ x ∧ x ≤ B
def maxL : List Int → Int
  | [] => 0
  | x :: xs => xs.foldl max x
def minL : List Int → Int
  | [] => 0
  | x :: xs => xs.foldl min x
def sprF (l : List Int) : Int := maxL l - minL l
theorem fmax_bd {B : Int} : ∀ (l : List Int) (x : Int), bdd B l → -B ≤ x ∧ x ≤ B → -B ≤ l.foldl max x ∧ l.foldl max x ≤ B
  | [], x, _, h => h
  | y :: l, x, hb, h => fmax_bd l (max x y) (fun z hz => hb z (by simp [hz])) (by have := hb y (by simp); omega)
theorem fmin_bd {B : Int} : ∀ (l : List Int) (x : Int), bdd B l → -B ≤ x ∧ x ≤ B → -B ≤ l.foldl min x ∧ l.foldl min x ≤ B
  | [], x, _, h => h
  | y :: l, x, hb, h => fmin_bd l (min x y) (fun z hz => hb z (by simp [hz])) (by have := hb y (by simp); omega)
theorem maxL_bd {B : Int} (b0 : 0 ≤ B) {l : List Int} (hb : bdd B l) : -B ≤ maxL l ∧ maxL l ≤ B := by
  cases l with
  | nil => simp only [maxL]; omega
  | cons x l => exact fmax_bd l x (fun z hz => hb z (by simp [hz])) (hb x (by simp))
theorem minL_bd {B : Int} (b0 : 0 ≤ B) {l : List Int} (hb : bdd B l) : -B ≤ minL l ∧ minL l ≤ B := by
  cases l with
  | nil => simp only [minL]; omega
  | cons x l => exact fmin_bd l x (fun z hz => hb z (by simp [hz])) (hb x (by simp))
theorem t111 {s : FV} {x : Int} {xs : List Int} (hs : lsOf s = some (ints (x :: xs))) (hl : xs.length ≤ 1000000) : Fn Q 111 [.fo s] (.one (.fx (.int (maxL (x :: xs))))) := by
  have h1 : ¬ (((xs.length : Nat) : Int) + 1 < 1) := by omega
  have hl' : (x :: xs).length ≤ 9223372036854775807 := by simp; omega
  have ls := lenV_ls hs
  have l1 : (ints (x :: xs)).length = xs.length + 1 := by simp [ints]
  rw [l1] at ls
  have i0 : ∀ H, indexA Q H 22 (.fv s) 0 = some (.fv (.ptr [.int x])) := fun H => index_map (H := H) hs idx_22 (k := 0) (x := x) rfl rfl
  refine w111 ?_
  dsimp only [c111, sop, gop, nop, qmv, qsg, qex, qld, qcl, qln, qix, qbo, qt, qi]
  simp -implicitDefEqProofs only [go_sem, simprocAttr, ls, Int.natCast_add, h1, i0, Int.natCast_one]
  refine lpH 12 [3, 4] 12 [] (fun a : Nat × Int => xs.length + 1 - a.1) (fun a => 1 ≤ a.1 ∧ a.1 ≤ xs.length + 1 ∧ ((x :: xs).drop a.1).foldl max a.2 = xs.foldl max x) (fun a ρ h => ρ 4 = .fv (.int (a.1 : Nat)) ∧ ρ 3 = .fv (.int a.2)) (1, x) ⟨by simp, by simp, by simp⟩ ?_ ?_
  · simp -implicitDefEqProofs only [go_sem, simprocAttr]
  · rintro ⟨k, m⟩ ρ h ⟨k1, kl, e⟩ ⟨r4, r3⟩
    dsimp only at k1 kl e r4 r3
    by_cases hk : k < (x :: xs).length
    · have hk2 : k < xs.length + 1 := by simpa using hk
      have hk' : (k : Int) < (xs.length : Int) + 1 := by omega
      have hw : IntKind.i64.wrap ((k : Int) + 1) = ((k + 1 : Nat) : Int) := wr _ (by omega) (by omega)
      have hx : (x :: xs)[k]? = some (x :: xs)[k] := List.getElem?_eq_getElem hk
      have ix := fun H => index_map (H := H) hs idx_22 hx rfl
      simp -implicitDefEqProofs only [go_sem, simprocAttr, r4, r3, ls, Int.natCast_add, Int.natCast_one, hk', ix, hw]
      refine nxt (k + 1, max m (x :: xs)[k]) (by simp only; omega) ⟨by simp only; omega, by simp only; omega, ?_⟩ ?_
      · rw [← e, List.drop_eq_getElem_cons hk]; rfl
      · simp -implicitDefEqProofs only [go_sem, simprocAttr, Int.natCast_add, Int.natCast_one]
    · have hk' : ¬ ((k : Int) < (xs.length : Int) + 1) := by simp only [List.length_cons] at hk; omega
      rw [List.drop_of_length_le (by omega)] at e
      simp -implicitDefEqProofs only [go_sem, simprocAttr, r4, r3, ls, Int.natCast_add, Int.natCast_one, hk']
      exact ret_eq (by rw [maxL, ← e]; rfl)
theorem t112 {s : FV} {x : Int} {xs : List Int} (hs : lsOf s = some (ints (x :: xs))) (hl : xs.length ≤ 1000000) : Fn Q 112 [.fo s] (.one (.fx (.int (minL (x :: xs))))) := by
  have h1 : ¬ (((xs.length : Nat) : Int) + 1 < 1) := by omega
  have hl' : (x :: xs).length ≤ 9223372036854775807 := by simp; omega
  have ls := lenV_ls hs
  have l1 : (ints (x :: xs)).length = xs.length + 1 := by simp [ints]
  rw [l1] at ls
  have i0 : ∀ H, indexA Q H 22 (.fv s) 0 = some (.fv (.ptr [.int x])) := fun H => index_map (H := H) hs idx_22 (k := 0) (x := x) rfl rfl
  refine w112 ?_
  dsimp only [c112, sop, gop, nop, qmv, qsg, qex, qld, qcl, qln, qix, qbo, qt, qi]
  simp -implicitDefEqProofs only [go_sem, simprocAttr, ls, Int.natCast_add, h1, i0, Int.natCast_one]
  refine lpH 12 [3, 4] 12 [] (fun a : Nat × Int => xs.length + 1 - a.1) (fun a => 1 ≤ a.1 ∧ a.1 ≤ xs.length + 1 ∧ ((x :: xs).drop a.1).foldl min a.2 = xs.foldl min x) (fun a ρ h => ρ 4 = .fv (.int (a.1 : Nat)) ∧ ρ 3 = .fv (.int a.2)) (1, x) ⟨by simp, by simp, by simp⟩ ?_ ?_
  · simp -implicitDefEqProofs only [go_sem, simprocAttr]
  · rintro ⟨k, m⟩ ρ h ⟨k1, kl, e⟩ ⟨r4, r3⟩
    dsimp only at k1 kl e r4 r3
    by_cases hk : k < (x :: xs).length
    · have hk2 : k < xs.length + 1 := by simpa using hk
      have hk' : (k : Int) < (xs.length : Int) + 1 := by omega
      have hw : IntKind.i64.wrap ((k : Int) + 1) = ((k + 1 : Nat) : Int) := wr _ (by omega) (by omega)
      have hx : (x :: xs)[k]? = some (x :: xs)[k] := List.getElem?_eq_getElem hk
      have ix := fun H => index_map (H := H) hs idx_22 hx rfl
      simp -implicitDefEqProofs only [go_sem, simprocAttr, r4, r3, ls, Int.natCast_add, Int.natCast_one, hk', ix, hw]
      refine nxt (k + 1, min m (x :: xs)[k]) (by simp only; omega) ⟨by simp only; omega, by simp only; omega, ?_⟩ ?_
      · rw [← e, List.drop_eq_getElem_cons hk]; rfl
      · simp -implicitDefEqProofs only [go_sem, simprocAttr, Int.natCast_add, Int.natCast_one]
    · have hk' : ¬ ((k : Int) < (xs.length : Int) + 1) := by simp only [List.length_cons] at hk; omega
      rw [List.drop_of_length_le (by omega)] at e
      simp -implicitDefEqProofs only [go_sem, simprocAttr, r4, r3, ls, Int.natCast_add, Int.natCast_one, hk']
      exact ret_eq (by rw [minL, ← e]; rfl)
theorem t77 {s : FV} {l : List Int} (hs : lsOf s = some (ints l)) (hl : l.length ≤ 1000000) (hb : bdd 1000000 l) : Fn Q 77 [.fo s] (.one (.fx (.int (sprF l)))) := by
  cases l with
  | nil =>
    refine w77 ?_
    dsimp only [c77, sop, gop, nop, qmv, qsg, qex, qld, qcl, qln, qix, qbo, qt, qi]
    simp -implicitDefEqProofs only [go_sem, simprocAttr, lenV_ls hs]
    exact ret_fv
  | cons x xs =>
    simp only [List.length_cons] at hl
    have c1 := t111 hs (by omega)
    have c2 := t112 hs (by omega)
    have b1 := maxL_bd (by omega) hb
    have b2 := minL_bd (by omega) hb
    have hw : IntKind.i64.wrap (maxL (x :: xs) - minL (x :: xs)) = maxL (x :: xs) - minL (x :: xs) := wr _ (by omega) (by omega)
    have ne : (((xs.length : Nat) : Int) + 1 == 0) = false := by simp; omega
    refine w77 ?_
    dsimp only [c77, sop, gop, nop, qmv, qsg, qex, qld, qcl, qln, qix, qbo, qt, qi]
    simp -implicitDefEqProofs only [go_sem, simprocAttr, lenV_ls hs, ne, Int.natCast_add, Int.natCast_one]
    refine call1 [] false (c1) ?_
    simp -implicitDefEqProofs only [go_sem, simprocAttr]
    refine call1 [] false (c2) ?_
    simp -implicitDefEqProofs only [go_sem, simprocAttr, hw]
    exact ret_fv
end S04

namespace S04
open Go Abs
def lks : List Int → List Int → List Int
  | m :: ms, g :: gs => (g + m) :: lks ms gs
  | _, _ => []
theorem lks_len : ∀ ms gs : List Int, gs.length = ms.length → (lks ms gs).length = gs.length
  | [], [], _ => rfl
  | m :: ms, g :: gs, h => by simp [lks, lks_len ms gs (by simpa using h)]
  | [], _ :: _, h => by simp at h
  | _ :: _, [], h => by simp at h
theorem lks_bd : ∀ ms gs : List Int, bdd 5 ms → bdd 400 gs → bdd 405 (lks ms gs)
  | m :: ms, g :: gs, h1, h2 => by
    intro x hx
    simp only [lks, List.mem_cons] at hx
    rcases hx with rfl | hx
    · have := h1 m (by simp); have := h2 g (by simp); omega
    · exact lks_bd ms gs (fun z hz => h1 z (by simp [hz])) (fun z hz => h2 z (by simp [hz])) x hx
  | [], _, _, _ => fun x hx => by simp [lks] at hx
  | _ :: _, [], _, _ => fun x hx => by simp [lks] at hx
def Cs.lk (c : Cs) (w g : List Int) : List Int := lks (c.loo w) g
def errL (c : Cs) (w g : List Int) : Int := if errO c [w] ≠ 0 then errO c [w] else if gapsB w.length g = false then 4 else 0
theorem gapsB_ok {n : Nat} {g : List Int} (h : gapsB n g = true) : (g.length : Int) = (n : Int) - 1 ∧ ∀ x ∈ g, 0 ≤ x ∧ x ≤ 400 := by
  simp only [gapsB, Bool.and_eq_true, decide_eq_true_eq, List.all_eq_true, inB_iff] at h
  exact h
theorem errL_ok {c : Cs} {w g : List Int} (h : errL c w g = 0) : errO c [w] = 0 ∧ (g.length : Int) = (w.length : Int) - 1 ∧ ∀ x ∈ g, 0 ≤ x ∧ x ≤ 400 := by
  unfold errL at h
  split at h
  · rename_i h1; exact absurd h h1
  split at h
  · simp at h
  rename_i h1 h2
  have := gapsB_ok (by simpa using h2)
  exact ⟨by simpa using h1, this⟩
theorem t21 {c : Cs} {sw sp s sg : FV} {w g : List Int} (v : CV c sw sp) (hs : lsOf s = some (ints w)) (hl : w.length ≤ 9223372036854775807) (hg : lsOf sg = some (ints g)) (hgl : g.length ≤ 9223372036854775807) :
    Fn Q 21 [.fo (c.fv sw sp), .fo s, .fo sg] (.tup [.fx (if errL c w g = 0 then lstN (ints (c.lk w g)) else .nil), .fx (.int (if errL c w g = 0 then sprF (c.lk w g) else 0)), .fx (.int (errL c w g))]) := by
  have o1 := ls_one v.w
  have o2 := ls_one v.p
  have o3 := ls_one hs
  have f3 := ls_cells hs
  have p3 := ls_fone hs
  have c73 := t73 v (Lists_one hs hl) (by simp)
  by_cases e : errO c [w] = 0
  · obtain ⟨ok, hw⟩ := errO_ok e
    obtain ⟨h1, h2, h3⟩ := hw w (by simp)
    have c76 := t76 v ok ⟨hs, by omega, h3⟩
    have c75 := t75 s sg w g hs hg hl hgl
    rw [if_pos (errO_C e), e] at c73
    by_cases eg : gapsB w.length g = true
    · have eL : errL c w g = 0 := by simp [errL, e, eg]
      obtain ⟨_, g1, g2⟩ := errL_ok eL
      have ll := c.loo_len w
      have hm := ok.loo w
      have hlo := lsOf_lstN (ints (c.loo w))
      have lb := lks_bd (c.loo w) g hm (fun x hx => by have := g2 x hx; omega)
      have lln := lks_len (c.loo w) g (by omega)
      have c77 : ∀ sl : FV, lsOf sl = some (ints (c.lk w g)) → Fn Q 77 [.fo sl] (.one (.fx (.int (sprF (c.lk w g))))) := fun sl h => t77 h (by rw [Cs.lk, lln]; omega) (fun x hx => by have := lb x hx; omega)
      generalize lstN (ints (c.loo w)) = sl at hlo c76
      rw [eL]
      rw [Cs.lk] at *
      generalize c.loo w = ms at *
      refine w21 ?_
      dsimp only [c21, sop, gop, nop, qmv, qsg, qex, qld, qcl, qln, qix, qbo, qt, qi]
      simp -implicitDefEqProofs only [go_sem, simprocAttr, o1, o2, o3, f3, p3]
      refine call0 [15] false c73 (by simp -implicitDefEqProofs only [go_sem, simprocAttr]) (.inl rfl) ?_
      simp -implicitDefEqProofs only [go_sem, simprocAttr, mapV, o1, o2, o3]
      refine call1 [] false (c75) ?_
      simp -implicitDefEqProofs only [go_sem, simprocAttr, eg, o1, o2, o3]
      refine call1 [] false (c76) ?_
      simp -implicitDefEqProofs only [go_sem, simprocAttr, lenV_ls hlo]
      refine lpL (β := List Int) 32 [6, 10, 11] 32 [6] ms (by omega) (fun xs k acc => acc ++ lks xs (g.drop k) = lks ms g ∧ acc.length = k) (fun k acc ρ h => ρ 32 = .fv (.int k) ∧ ρ 6 = .gl 6 (h.gen 6) ∧ h.obj 6 = some (.list 3 1 false acc.isEmpty (ints acc))) [] ⟨rfl, rfl⟩ ?_ ?_ ?_
      · simp -implicitDefEqProofs only [go_sem, simprocAttr, List.isEmpty, ints]
      · rintro acc ρ h ⟨ea, la⟩ ⟨r32, r6, o6⟩
        simp only [lks, List.append_nil] at ea
        subst ea
        simp -implicitDefEqProofs only [go_sem, simprocAttr, r32, r6]
        refine call0 [6] true (c77 _ (lsOf_lstN _)) ?_ (.inr rfl) ?_
        · simp -implicitDefEqProofs only [go_sem, simprocAttr, o6, lstN]
          cases lks ms g <;> rfl
        simp -implicitDefEqProofs only [go_sem, simprocAttr, r6]
        refine ret_tup (fun _ => true) ?_ (by simp [ownNames])
        simp -implicitDefEqProofs only [go_sem, simprocAttr, o6, lstN]
        cases lks ms g <;> rfl
      · rintro x xs k acc ρ h hx hk hm' hk' hwr ⟨ea, la⟩ ⟨r32, r6, o6⟩
        have bx := hm x hm'
        have kg : k < g.length := by omega
        have hgk : g[k]? = some g[k] := List.getElem?_eq_getElem kg
        have bg := g2 _ (List.mem_of_getElem? hgk)
        have w1 : IntKind.i64.wrap (g[k] + x) = g[k] + x := wr _ (by omega) (by omega)
        simp -implicitDefEqProofs only [go_sem, simprocAttr, r32, r6, hk', index_map hlo idx_22 hx rfl, index_map hg idx_22 hgk rfl, w1]
        refine app_gl (by simp -implicitDefEqProofs only [go_sem, simprocAttr, o6]; rfl) idx_22 (by simp -implicitDefEqProofs only [go_sem, simprocAttr]; rfl) (by simp [FV.cells]) (by simp -implicitDefEqProofs only [go_sem, simprocAttr]) (by simp [byt_3, ints]; omega) (by simp [maxLen, ints]; omega) (by simp) ?_
        simp -implicitDefEqProofs only [go_sem, simprocAttr, r32, hwr]
        refine nxtL (acc ++ [g[k] + x]) ⟨?_, by simp [la]⟩ ?_
        · rw [← ea, List.drop_eq_getElem_cons kg, lks]; simp
        · simp -implicitDefEqProofs only [go_sem, simprocAttr, ints, List.map_append]
          cases acc <;> rfl
    · have eg' : gapsB w.length g = false := by simpa using eg
      have eL : errL c w g = 4 := by simp [errL, e, eg']
      refine w21 ?_
      dsimp only [c21, sop, gop, nop, qmv, qsg, qex, qld, qcl, qln, qix, qbo, qt, qi]
      simp -implicitDefEqProofs only [go_sem, simprocAttr, o1, o2, o3, f3, p3]
      refine call0 [15] false c73 (by simp -implicitDefEqProofs only [go_sem, simprocAttr]) (.inl rfl) ?_
      simp -implicitDefEqProofs only [go_sem, simprocAttr, mapV, o1, o2, o3]
      refine call1 [] false (c75) ?_
      simp -implicitDefEqProofs only [go_sem, simprocAttr, eg']
      refine ret_tup (fun _ => true) ?_ (by simp [ownNames])
      simp -implicitDefEqProofs only [go_sem, simprocAttr, eL]
  · have e' : (errO c [w] != 0) = true := by simpa using e
    have eL : errL c w g = errO c [w] := by simp [errL, e]
    refine w21 ?_
    dsimp only [c21, sop, gop, nop, qmv, qsg, qex, qld, qcl, qln, qix, qbo, qt, qi]
    simp -implicitDefEqProofs only [go_sem, simprocAttr, o1, o2, o3, f3, p3]
    refine call0 [15] false c73 (by simp -implicitDefEqProofs only [go_sem, simprocAttr]) (.inl rfl) ?_
    by_cases e2 : errC c = 0
    · simp -implicitDefEqProofs only [go_sem, simprocAttr, mapV, o1, o2, o3, e', e2]
      refine ret_tup (fun _ => true) ?_ (by simp [ownNames])
      simp -implicitDefEqProofs only [go_sem, simprocAttr, e, eL]
    · simp -implicitDefEqProofs only [go_sem, simprocAttr, mapV, o1, o2, o3, e', e2]
      refine ret_tup (fun _ => true) ?_ (by simp [ownNames])
      simp -implicitDefEqProofs only [go_sem, simprocAttr, e, eL]
end S04

namespace S04
open Go Abs
def sumI : List Int → Int
  | [] => 0
  | x :: xs => x + sumI xs
theorem sumI_app : ∀ a b : List Int, sumI (a ++ b) = sumI a + sumI b
  | [], b => by simp [sumI]
  | x :: a, b => by simp [sumI, sumI_app a b, Int.add_assoc]
theorem sumI_bd {B : Int} : ∀ l : List Int, bdd B l → -(B * l.length) ≤ sumI l ∧ sumI l ≤ B * l.length
  | [], _ => by simp [sumI]
  | x :: l, h => by
    have := sumI_bd l fun z hz => h z (by simp [hz])
    have := h x (by simp)
    simp only [sumI, List.length_cons, Int.natCast_add, Int.natCast_one, Int.mul_add, Int.mul_one]
    omega
def gl (lo : Int) (ms : List Int) : List Int := ms.map fun m => max 0 (lo - m)
def gm (hi : Int) (ms : List Int) : List Int := ms.map fun m => hi - m
def fillOk (lo hi : Int) (ms : List Int) : Bool := ms.all fun m => decide (max 0 (lo - m) ≤ hi - m)
theorem gl_bd {lo : Int} {ms : List Int} (l0 : 0 ≤ lo) (l1 : lo ≤ 2000) (h : bdd 5 ms) : bdd 2005 (gl lo ms) := by
  intro x hx
  obtain ⟨m, hm, rfl⟩ := List.mem_map.1 hx
  have := h m hm
  omega
theorem gm_bd {hi : Int} {ms : List Int} (l0 : 0 ≤ hi) (l1 : hi ≤ 4000) (h : bdd 5 ms) : bdd 4005 (gm hi ms) := by
  intro x hx
  obtain ⟨m, hm, rfl⟩ := List.mem_map.1 hx
  have := h m hm
  omega
theorem t114 {c : Cs} {sw sp s : FV} {w : List Int} (v : CV c sw sp) (ok : c.Ok) (ws : WV c s w) {lo hi : Int} (l0 : 0 ≤ lo) (l1 : lo ≤ 2000) (h0 : 0 ≤ hi) (h1 : hi ≤ 4000) (hne : c.loo w ≠ []) :
    Fn Q 114 [.fo (c.bv sw sp), .fo s, .fo (.agg [.int lo, .int hi])] (.tup [.own 3 1 false (ints (gl lo (c.loo w))), .fx (.list false (ints (gm hi (c.loo w)))), .fx (.int (sumI (gl lo (c.loo w)))), .fx (.int (sumI (gm hi (c.loo w)))), .fx (.bool (fillOk lo hi (c.loo w)))]) := by
  have o1 := ls_one v.w
  have o2 := ls_one v.p
  have o3 := ls_one ws.s
  have c76 := t76 v ok ws
  have ll := c.loo_len w
  have hm := ok.loo w
  have hlo := lsOf_lstN (ints (c.loo w))
  have wl := ws.l
  generalize lstN (ints (c.loo w)) = sl at hlo c76
  generalize c.loo w = ms at *
  refine w114 ?_
  dsimp only [c114, sop, gop, nop, qmv, qsg, qex, qld, qcl, qln, qix, qbo, qt, qi]
  simp -implicitDefEqProofs only [go_sem, simprocAttr, o1, o2, o3, mapV]
  refine call1 [] false (c76) ?_
  simp -implicitDefEqProofs only [go_sem, simprocAttr, lenV_ls hlo]
  refine lpL (β := List Int × List Int × Int × Int × Bool) 19 [6, 7, 8, 9, 10, 12, 13, 14] 19 [6, 7] ms (by omega)
    (fun xs k a => a.1 ++ gl lo xs = gl lo ms ∧ a.2.1 ++ gm hi xs = gm hi ms ∧ a.1.length = k ∧ a.2.1.length = k ∧ a.2.2.1 + sumI (gl lo xs) = sumI (gl lo ms) ∧ a.2.2.2.1 + sumI (gm hi xs) = sumI (gm hi ms) ∧ (a.2.2.2.2 && fillOk lo hi xs) = fillOk lo hi ms ∧ -(5000 * (k : Int)) ≤ a.2.2.1 ∧ a.2.2.1 ≤ 5000 * (k : Int) ∧ -(5000 * (k : Int)) ≤ a.2.2.2.1 ∧ a.2.2.2.1 ≤ 5000 * (k : Int))
    (fun k a ρ h => ρ 19 = .fv (.int k) ∧ ρ 6 = .gl 6 (h.gen 6) ∧ h.obj 6 = some (.list 3 1 false a.1.isEmpty (ints a.1)) ∧ ρ 7 = .gl 7 (h.gen 7) ∧ h.obj 7 = some (.list 3 1 false a.2.1.isEmpty (ints a.2.1)) ∧ ρ 8 = .fv (.int a.2.2.1) ∧ ρ 9 = .fv (.int a.2.2.2.1) ∧ ρ 10 = .fv (.bool a.2.2.2.2) ∧ h.gen 6 ≠ 0) ([], [], 0, 0, true) ⟨rfl, rfl, rfl, rfl, by simp, by simp, by simp, by simp, by simp, by simp, by simp⟩ ?_ ?_ ?_
  · simp -implicitDefEqProofs only [go_sem, simprocAttr, List.isEmpty, ints]
  · rintro ⟨a, b, n, m, t⟩ ρ h ⟨e1, e2, _, _, e3, e4, e5, _, _, _, _⟩ ⟨r19, r6, o6, r7, o7, r8, r9, r10, g6⟩
    dsimp only at e1 e2 e3 e4 e5 o6 o7 r8 r9 r10
    simp only [gl, gm, List.map_nil, List.append_nil, sumI, Int.add_zero, fillOk, List.all_nil, Bool.and_true] at e1 e2 e3 e4 e5
    have a1 : a = gl lo ms := e1
    have b1 : b = gm hi ms := e2
    subst a1 b1
    have t1 : t = fillOk lo hi ms := e5
    have n1 : n = sumI (gl lo ms) := e3
    have m1 : m = sumI (gm hi ms) := e4
    subst t1 n1 m1
    have e6 : (gl lo ms).isEmpty = false := by cases ms with | nil => exact absurd rfl hne | cons => rfl
    have e7 : (gm hi ms).isEmpty = false := by cases ms with | nil => exact absurd rfl hne | cons => rfl
    rw [e6] at o6
    rw [e7] at o7
    simp -implicitDefEqProofs only [go_sem, simprocAttr, r19, r6, r7, r8, r9, r10]
    refine ret_tup (fun o => decide (o ≠ 6)) ?_ (by simp [ownNames])
    simp -implicitDefEqProofs only [go_sem, simprocAttr, o6, o7]
    refine ⟨6, h.gen 6, ?_⟩
    simp -implicitDefEqProofs only [go_sem, simprocAttr, o6, g6]
  · rintro x xs k ⟨a, b, n, m, t⟩ ρ h hx hk hm' hk' hwr ⟨e1, e2, l2, l3, e3, e4, e5, n0, n1, m0, m1⟩ ⟨r19, r6, o6, r7, o7, r8, r9, r10, g6⟩
    dsimp only at e1 e2 l2 l3 e3 e4 e5 n0 n1 m0 m1 o6 o7 r8 r9 r10
    have bx := hm x hm'
    have w1 : IntKind.i64.wrap (lo - x) = lo - x := wr _ (by omega) (by omega)
    have w2 : IntKind.i64.wrap (hi - x) = hi - x := wr _ (by omega) (by omega)
    have w3 : IntKind.i64.wrap (n + max 0 (lo - x)) = n + max 0 (lo - x) := wr _ (by omega) (by omega)
    have w4 : IntKind.i64.wrap (m + (hi - x)) = m + (hi - x) := wr _ (by omega) (by omega)
    simp -implicitDefEqProofs only [go_sem, simprocAttr, r19, hk', index_map hlo idx_22 hx rfl]
    refine W_opsD _ _ _ (Vs []) ?_ ?_
    · decide
    simp -implicitDefEqProofs only [go_sem, simprocAttr, r6, r7, w1, w2]
    refine app_gl (by simp -implicitDefEqProofs only [go_sem, simprocAttr, o6]; rfl) idx_22 (by simp -implicitDefEqProofs only [go_sem, simprocAttr]; rfl) (by simp [FV.cells]) (by simp -implicitDefEqProofs only [go_sem, simprocAttr]) (by simp [byt_3, ints]; omega) (by simp [maxLen, ints]; omega) (by simp) ?_
    simp -implicitDefEqProofs only [go_sem, simprocAttr, r7]
    refine app_gl (by simp -implicitDefEqProofs only [go_sem, simprocAttr, o7]; rfl) idx_22 (by simp -implicitDefEqProofs only [go_sem, simprocAttr]; rfl) (by simp [FV.cells]) (by simp -implicitDefEqProofs only [go_sem, simprocAttr]) (by simp [byt_3, ints]; omega) (by simp [maxLen, ints]; omega) (by simp) ?_
    have nx : a ++ [max 0 (lo - x)] ++ gl lo xs = gl lo ms ∧ b ++ [hi - x] ++ gm hi xs = gm hi ms ∧ (a ++ [max 0 (lo - x)]).length = k + 1 ∧ (b ++ [hi - x]).length = k + 1 ∧ n + max 0 (lo - x) + sumI (gl lo xs) = sumI (gl lo ms) ∧ m + (hi - x) + sumI (gm hi xs) = sumI (gm hi ms) := by
      refine ⟨?_, ?_, by simp [l2], by simp [l3], ?_, ?_⟩
      · rw [← e1]; simp [gl]
      · rw [← e2]; simp [gm]
      · rw [← e3]; simp [gl, sumI, Int.add_assoc]
      · rw [← e4]; simp [gm, sumI, Int.add_assoc]
    obtain ⟨x1, x2, x3, x4, x5, x6⟩ := nx
    cases t
    · simp -implicitDefEqProofs only [go_sem, simprocAttr, r8, r9, r10, w3, w4, r19, hwr]
      refine nxtL (a ++ [max 0 (lo - x)], b ++ [hi - x], n + max 0 (lo - x), m + (hi - x), false) ⟨x1, x2, x3, x4, x5, x6, by rw [← e5]; simp, by dsimp only; push_cast; omega, by dsimp only; push_cast; omega, by dsimp only; push_cast; omega, by dsimp only; push_cast; omega⟩ ?_
      simp -implicitDefEqProofs only [go_sem, simprocAttr, ints, List.map_append]
      trace_state
      cases a <;> cases b <;> exact ⟨rfl, rfl⟩
    · simp -implicitDefEqProofs only [go_sem, simprocAttr, r8, r9, r10, w3, w4, r19, hwr]
      refine nxtL (a ++ [max 0 (lo - x)], b ++ [hi - x], n + max 0 (lo - x), m + (hi - x), decide (max 0 (lo - x) ≤ hi - x)) ⟨x1, x2, x3, x4, x5, x6, by rw [← e5]; simp [fillOk], by dsimp only; push_cast; omega, by dsimp only; push_cast; omega, by dsimp only; push_cast; omega, by dsimp only; push_cast; omega⟩ ?_
      simp -implicitDefEqProofs only [go_sem, simprocAttr, ints, List.map_append]
      trace_state
      cases a <;> cases b <;> exact ⟨rfl, rfl⟩
end S04

