/- A part of the proof: G07p, G07q, G07r. -/
import Derived.Test.YtmanbdacloeioaaK07
set_option linter.unusedVariables false
set_option linter.unusedSimpArgs false
set_option maxRecDepth 20000
namespace S07
open Go Abs
theorem t96 {q : Al} {hs al : FV} {l : Int} : Fn Q 96 [.fo (q.fv hs al), .fo (.int l)] (.one (.fx (.clos 110 [.ptr [.int l], .ptr [q.fv hs al]]))) := by
  refine w96 ?_
  dsimp only [c96, sop, gop, nop, qmv, qsg, qex, qld, qcl, qln, qix, qbo, qt, qi]
  simp -implicitDefEqProofs only [go_sem, simprocAttr, Al.fv, alphaV]
  exact ret_fx (fun _ => true) (by simp -implicitDefEqProofs only [go_sem, simprocAttr])
def waysOf (s : Int) (l : List (Int × Int × Int)) : List (Int × Int) := (l.filter fun x => x.2.2 == s).map fun x => (x.1, x.2.1)
def Al.ways (q : Al) (l s : Int) : List (Int × Int) := waysOf s (q.reads l)
theorem readK_len (q : Al) (l kd : Int) : ∀ (n o : Nat), (q.readK l kd o n).length ≤ n
  | 0, _ => by simp [Al.readK]
  | n + 1, o => by
    have := readK_len q l kd n (o + 1)
    unfold Al.readK
    split
    · simp; omega
    · omega
theorem reads_len {q : Al} (h8 : q.N ≤ 8) (l : Int) : (q.reads l).length ≤ 18 := by
  have h1 := readK_len q l 2 q.N.toNat 0
  have h2 := readK_len q l 3 q.N.toNat 0
  simp only [Al.reads, List.length_cons, List.length_append]
  omega
theorem ways_len {q : Al} (h8 : q.N ≤ 8) (l s : Int) : (q.ways l s).length ≤ 18 := by
  have := reads_len h8 l
  unfold Al.ways waysOf
  rw [List.length_map]
  exact Nat.le_trans (List.length_filter_le _ _) this
theorem t79 {q : Al} (ok : q.Ok) {hs al : FV} {l s : Int} (l0 : 0 ≤ l) (l1 : l < q.N) : Fn Q 79 [.fo (q.fv hs al), .fo (.int l), .fo (.int s)] (.one (.fx (lstN ((q.ways l s).map pF)))) := by
  have c110 := t110 ok (hs := hs) (al := al) l0 l1
  have hl := reads_len ok.n1 l
  unfold Al.ways
  generalize q.reads l = R at *
  refine w79 ?_
  dsimp only [c79, sop, gop, nop, qmv, qsg, qex, qld, qcl, qln, qix, qbo, qt, qi]
  simp -implicitDefEqProofs only [go_sem, simprocAttr]
  refine call1 [] false (t96 (q := q) (hs := hs) (al := al) (l := l)) ?_
  simp -implicitDefEqProofs only [go_sem, simprocAttr]
  refine rgH 7 [6] [] (R.map rdI) (argSq (by rfl) c110) (β := List (Int × Int) × List (Int × Int × Int)) (fun ys a => ys = a.2.map rdI ∧ a.1 ++ waysOf s a.2 = waysOf s R ∧ a.1.length + a.2.length ≤ 18) (fun ys a h => h.gen 6 = 1 ∧ ∃ v, h.obj 6 = some (.box [v]) ∧ AccRep h v 20 141 2 (a.1.map pF)) ([], R) ⟨rfl, rfl, by simpa using hl⟩ ⟨by simp -implicitDefEqProofs only [go_sem, simprocAttr], .fv .nil, by simp -implicitDefEqProofs only [go_sem, simprocAttr], .inl ⟨rfl, rfl⟩⟩ ?_ ?_
  · rintro ⟨acc, ys⟩ h ⟨e1, e2, e3⟩ ⟨g6, v, o6, ha⟩
    dsimp only at e1 e2 ha
    obtain rfl : ys = [] := by cases ys <;> simp_all
    simp only [waysOf, List.filter_nil, List.map_nil, List.append_nil] at e2
    subst e2
    have hv := ha.one
    simp -implicitDefEqProofs only [go_sem, simprocAttr, g6, o6, hv.1, hv.2]
    refine ret_fx (fun _ => true) (AccRep.frz (n := 20) (e := 141) (es := 2) ?_ _ rfl 5)
    unfold AccRep at ha ⊢
    simp -implicitDefEqProofs only [go_sem, simprocAttr]
    exact ha
  · rintro x ys ⟨acc, zs⟩ h ⟨e1, e2, e3⟩ ⟨g6, v, o6, ha⟩
    dsimp only at e1 e2 e3 ha
    obtain ⟨⟨k, o, rd⟩, zs', rfl⟩ : ∃ z zs', zs = z :: zs' := by
      cases zs with
      | nil => simp at e1
      | cons z zs' => exact ⟨z, zs', rfl⟩
    simp only [List.map_cons, List.cons.injEq] at e1
    obtain ⟨rfl, rfl⟩ := e1
    simp only [List.length_cons] at e3
    refine ⟨rfl, ?_⟩
    by_cases hr : rd = s
    · have hr' : (rd == s) = true := by simpa using hr
      simp -implicitDefEqProofs only [go_sem, simprocAttr, rdI, hr', g6, o6]
      refine app_acc (acc := acc.map pF) (by unfold AccRep at ha ⊢; simp -implicitDefEqProofs only [go_sem, simprocAttr]; exact ha) idx_138 (by decide) (by simp -implicitDefEqProofs only [go_sem, simprocAttr]; rfl) (by simp) (by simp [FV.cells]) (by simp -implicitDefEqProofs only [go_sem, simprocAttr]) (by simp [byt_141]; omega) (by simp [maxLen]; omega) (by simp) ?_
      simp -implicitDefEqProofs only [go_sem, simprocAttr, g6, o6]
      refine ⟨(acc ++ [(k, o)], zs'), ⟨rfl, by rw [← e2]; simp [waysOf, hr'], by simp; omega⟩, ?_⟩
      simp -implicitDefEqProofs only [go_sem, simprocAttr, g6]
      exact ⟨_, rfl, .inr ⟨by simp -implicitDefEqProofs only [go_sem, simprocAttr], by simp -implicitDefEqProofs only [go_sem, simprocAttr, List.map_append]; rfl, by simp⟩⟩
    · have hr' : (rd == s) = false := by simpa using hr
      simp -implicitDefEqProofs only [go_sem, simprocAttr, rdI, hr', g6, o6]
      refine ⟨(acc, zs'), ⟨rfl, by rw [← e2]; simp [waysOf, hr'], by dsimp only; omega⟩, ?_⟩
      simp -implicitDefEqProofs only [go_sem, simprocAttr, g6, o6]
      refine ⟨v, rfl, ?_⟩
      unfold AccRep at ha ⊢
      simp -implicitDefEqProofs only [go_sem, simprocAttr]
      exact ha
def cost (k : Int) : Int := if k = 0 then 0 else if k = 3 then 2 else 1
theorem cost_bd (k : Int) : 0 ≤ cost k ∧ cost k ≤ 2 := by
  unfold cost
  split
  · omega
  · split <;> omega
theorem t99 (x : Int × Int) : Fn Q 99 [.fo (pF x)] (.one (.fx (.int (cost x.1)))) := by
  by_cases h0 : x.1 = 0
  · have h0' : (x.1 == 0) = true := by simpa using h0
    refine w99 ?_
    dsimp only [c99, sop, gop, nop, qmv, qsg, qex, qld, qcl, qln, qix, qbo, qt, qi]
    simp -implicitDefEqProofs only [go_sem, simprocAttr, pF, h0']
    exact ret_eq (by simp [cost, h0])
  · have h0' : (x.1 == 0) = false := by simpa using h0
    by_cases h3 : x.1 = 3
    · have h3' : (x.1 == 3) = true := by simpa using h3
      refine w99 ?_
      dsimp only [c99, sop, gop, nop, qmv, qsg, qex, qld, qcl, qln, qix, qbo, qt, qi]
      simp -implicitDefEqProofs only [go_sem, simprocAttr, pF, h0', h3']
      exact ret_eq (by simp [cost, h3])
    · have h3' : (x.1 == 3) = false := by simpa using h3
      refine w99 ?_
      dsimp only [c99, sop, gop, nop, qmv, qsg, qex, qld, qcl, qln, qix, qbo, qt, qi]
      simp -implicitDefEqProofs only [go_sem, simprocAttr, pF, h0', h3']
      exact ret_eq (by simp [cost, h0, h3])
theorem t98 (x y : Int × Int) : Fn Q 98 [.fo (pF x), .fo (pF y)] (.one (.fx (.int (cost x.1 - cost y.1)))) := by
  have c1 := cost_bd x.1
  have c2 := cost_bd y.1
  have w : IntKind.i64.wrap (cost x.1 - cost y.1) = cost x.1 - cost y.1 := wr _ (by omega) (by omega)
  refine w98 ?_
  dsimp only [c98, sop, gop, nop, qmv, qsg, qex, qld, qcl, qln, qix, qbo, qt, qi]
  simp -implicitDefEqProofs only [go_sem, simprocAttr, pF]
  refine W_opsD _ _ _ (Vs []) ?_ ?_
  · decide
  simp -implicitDefEqProofs only [go_sem, simprocAttr]
  refine callD [] false [.fo (pF x)] [] (t99 x) ⟨rfl, trivial⟩ rfl (.inl rfl) ?_
  simp -implicitDefEqProofs only [go_sem, simprocAttr]
  refine call1 [] false (t99 y) ?_
  simp -implicitDefEqProofs only [go_sem, simprocAttr, w]
  exact ret_fv
def minF : List (Int × Int) → Int × Int → Int × Int
  | [], b => b
  | x :: xs, b => if cost x.1 < cost b.1 then minF xs x else minF xs b
theorem t97 {f : Bool} {x : Int × Int} {xs : List (Int × Int)} (hl : xs.length ≤ 1000) : Fn Q 97 [.fo (.list f ((x :: xs).map pF)), .fo (.clos 98 [])] (.one (.fx (pF (minF xs x)))) := by
  have l1 : ¬ (((xs.length : Nat) : Int) + 1 < 1) := by omega
  refine w97 ?_
  dsimp only [c97, sop, gop, nop, qmv, qsg, qex, qld, qcl, qln, qix, qbo, qt, qi]
  simp -implicitDefEqProofs only [go_sem, simprocAttr, List.map_cons, Int.natCast_add, l1, pF]
  refine lpH 7 [6] 7 [5] (fun a : List (Int × Int) × Nat × (Int × Int) => a.1.length) (fun a => (x :: xs).drop a.2.1 = a.1 ∧ a.2.1 ≤ xs.length + 1 ∧ minF a.1 a.2.2 = minF xs x)
    (fun a ρ h => ρ 6 = .fv (.int a.2.1) ∧ h.gen 5 = 1 ∧ h.obj 5 = some (.box [.fv (.int a.2.2.1), .fv (.int a.2.2.2)])) (xs, 1, x) ⟨rfl, by dsimp only; omega, rfl⟩ ?_ ?_
  · simp -implicitDefEqProofs only [go_sem, simprocAttr]
  · rintro ⟨ys, k, b⟩ ρ h ⟨ed, kl, eb⟩ ⟨r6, g5, o5⟩
    dsimp only at ed kl eb r6 g5 o5
    cases ys with
    | nil =>
      have hk : ¬ ((k : Int) < ((xs.length : Nat) : Int) + 1) := by have := drop_end ed; simp at this; omega
      simp only [minF] at eb
      simp -implicitDefEqProofs only [go_sem, simprocAttr, r6, hk, g5, o5, Int.natCast_add]
      exact ret_eq (by rw [eb])
    | cons y ys =>
      obtain ⟨d1, d2, d3, d4⟩ := drop_tail ed
      have hk : (k : Int) < ((xs.length : Nat) : Int) + 1 := by simp at d3; omega
      have hw : IntKind.i64.wrap ((k : Int) + 1) = ((k + 1 : Nat) : Int) := wr _ (by omega) (by omega)
      have hg : (FV.agg [FV.int x.1, FV.int x.2] :: List.map pF xs)[k]? = some (pF y) := by
        have : ((x :: xs).map pF)[k]? = some (pF y) := by simp only [List.getElem?_map, d2, Option.map_some]
        exact this
      by_cases hc : cost y.1 < cost b.1
      · have hc' : (cost y.1 - cost b.1 < 0) := by omega
        simp -implicitDefEqProofs only [go_sem, simprocAttr, r6, hk, Int.natCast_add, hg, pF, g5, o5]
        refine callV [] false [.fo (pF y), .fo (pF b)] (t98 y b) ⟨rfl, rfl, trivial⟩ (.inl rfl) ?_
        simp -implicitDefEqProofs only [go_sem, simprocAttr, hc', r6, hg, pF, g5, o5, hw]
        refine nxt (ys, k + 1, y) (Nat.lt_succ_self _) ⟨d1, by simp at d3; dsimp only; omega, by rw [← eb]; simp [minF, hc]⟩ ?_
        simp -implicitDefEqProofs only [go_sem, simprocAttr, g5]
      · have hc' : ¬ (cost y.1 - cost b.1 < 0) := by omega
        simp -implicitDefEqProofs only [go_sem, simprocAttr, r6, hk, Int.natCast_add, hg, pF, g5, o5]
        refine callV [] false [.fo (pF y), .fo (pF b)] (t98 y b) ⟨rfl, rfl, trivial⟩ (.inl rfl) ?_
        simp -implicitDefEqProofs only [go_sem, simprocAttr, hc', r6, hw]
        refine nxt (ys, k + 1, b) (Nat.lt_succ_self _) ⟨d1, by simp at d3; dsimp only; omega, by rw [← eb]; simp [minF, hc]⟩ ?_
        simp -implicitDefEqProofs only [go_sem, simprocAttr, g5, o5]
end S07

namespace S07
open Go Abs
def Al.best (q : Al) (l s : Int) : Option (Int × Int) := match q.ways l s with | [] => none | x :: xs => some (minF xs x)
def Al.fewF (q : Al) : List Int → List Int → Option (List Int × Int)
  | l :: ls, s :: ss => match q.best l s with | none => none | some b => (q.fewF ls ss).map fun r => (b.1 :: r.1, cost b.1 + r.2)
  | _, _ => some ([], 0)
def fewK (o : Option (List Int × Int)) : FV := match o with | none => .nil | some r => lstN (ints r.1)
def fewN (o : Option (List Int × Int)) : Int := match o with | none => 0 | some r => r.2
theorem t81 {q : Al} (ok : q.Ok) {hs al sw ss : FV} {w s : List Int} (h1 : lsOf sw = some (ints w)) (h2 : lsOf ss = some (ints s)) (hl : w.length = s.length) (l6 : w.length ≤ 6) (hw : ∀ n ∈ w, 0 ≤ n ∧ n < q.N) :
    Fn Q 81 [.fo (q.fv hs al), .fo sw, .fo ss] (.tup [.fx (fewK (q.fewF w s)), .fx (.int (fewN (q.fewF w s))), .fx (.bool (q.fewF w s).isSome)]) := by
  generalize hF : q.fewF w s = F
  refine w81 ?_
  dsimp only [c81, sop, gop, nop, qmv, qsg, qex, qld, qcl, qln, qix, qbo, qt, qi]
  simp -implicitDefEqProofs only [go_sem, simprocAttr, lenV_ls h1]
  refine lpL (β := List Int × Int) 15 [9, 10, 11, 12, 6, 7] 15 [6, 12] w (by omega) (fun ls k a => F = (q.fewF ls (s.drop k)).map (fun r => (a.1 ++ r.1, a.2 + r.2)) ∧ a.1.length = k ∧ 0 ≤ a.2 ∧ a.2 ≤ 2 * (k : Int))
    (fun k a ρ h => ρ 15 = .fv (.int k) ∧ ρ 7 = .fv (.int a.2) ∧ ρ 6 = .gl 6 (h.gen 6) ∧ h.obj 6 = some (.list 76 1 false a.1.isEmpty (ints a.1))) ([], 0) ⟨by rw [← hF]; simp, rfl, by simp, by simp⟩ ?_ ?_ ?_
  · simp -implicitDefEqProofs only [go_sem, simprocAttr, List.isEmpty, ints]
  · rintro ⟨acc, fa⟩ ρ h ⟨e, la, f0, f1⟩ ⟨r15, r7, r6, o6⟩
    simp only [Al.fewF, Option.map_some, List.append_nil, Int.add_zero] at e
    subst e
    simp -implicitDefEqProofs only [go_sem, simprocAttr, r15, r7, r6]
    refine ret_tup (fun _ => true) ?_ (by simp [ownNames])
    simp -implicitDefEqProofs only [go_sem, simprocAttr, o6, fewK, fewN, lstN]
    cases acc <;> rfl
  · rintro l ls k ⟨acc, fa⟩ ρ h hx hk hm hk' hw' ⟨e, la, f0, f1⟩ ⟨r15, r7, r6, o6⟩
    dsimp only at e la f0 f1 o6 r7
    have hn := hw l hm
    have ks : k < s.length := by omega
    obtain ⟨y, hy⟩ : ∃ y, s[k]? = some y := ⟨_, List.getElem?_eq_getElem ks⟩
    have c79 := t79 ok (hs := hs) (al := al) (l := l) (s := y) hn.1 hn.2
    rw [drop_get hy, Al.fewF] at e
    have hwl := ways_len ok.n1 l y
    cases hways : q.ways l y with
    | nil =>
      have hb : q.best l y = none := by simp [Al.best, hways]
      rw [hb] at e
      simp only [Option.map_none] at e
      subst e
      rw [hways] at c79
      simp -implicitDefEqProofs only [go_sem, simprocAttr, r15, hk', index_map h1 idx_26 hx rfl, index_map h2 idx_26 hy rfl]
      refine call1 [] false (c79) ?_
      simp -implicitDefEqProofs only [go_sem, simprocAttr, lstN, List.isEmpty]
      refine ret_tup (fun _ => true) ?_ (by simp [ownNames])
      simp -implicitDefEqProofs only [go_sem, simprocAttr, fewK, fewN]
    | cons x xs =>
      have hb : q.best l y = some (minF xs x) := by simp [Al.best, hways]
      rw [hb] at e
      rw [hways] at c79 hwl
      simp only [List.length_cons] at hwl
      have c97 := t97 (f := false) (x := x) (xs := xs) (by omega)
      have c99 := t99 (minF xs x)
      have cb := cost_bd (minF xs x).1
      generalize minF xs x = b at *
      have w1 : IntKind.i64.wrap (fa + cost b.1) = fa + cost b.1 := wr _ (by omega) (by omega)
      have lz : (((xs.length : Nat) : Int) + 1 == 0) = false := by simp; omega
      simp -implicitDefEqProofs only [go_sem, simprocAttr, r15, hk', index_map h1 idx_26 hx rfl, index_map h2 idx_26 hy rfl]
      refine call1 [] false (c79) ?_
      simp -implicitDefEqProofs only [go_sem, simprocAttr, lstN, List.isEmpty, List.map_cons, Int.natCast_add, lz]
      refine call1 [] false (c97) ?_
      simp -implicitDefEqProofs only [go_sem, simprocAttr, pF]
      refine W_opsD _ _ _ (Vs [[], [], [], [35], [6], [], []]) ?_ ?_
      · decide
      simp -implicitDefEqProofs only [go_sem, simprocAttr, r6]
      refine app_gl (by simp -implicitDefEqProofs only [go_sem, simprocAttr, o6]; rfl) idx_82 (by simp -implicitDefEqProofs only [go_sem, simprocAttr]; rfl) (by simp [FV.cells]) (by simp -implicitDefEqProofs only [go_sem, simprocAttr]) (by simp [byt_76, ints]; omega) (by simp [maxLen, ints]; omega) (by simp) ?_
      simp -implicitDefEqProofs only [go_sem, simprocAttr, r7]
      refine call0 [] false c99 ⟨rfl, trivial⟩ (.inl rfl) ?_
      simp -implicitDefEqProofs only [go_sem, simprocAttr, w1, r15, hw']
      refine nxtL (acc ++ [b.1], fa + cost b.1) ⟨?_, by simp [la], by dsimp only; omega, by push_cast; omega⟩ ?_
      · rw [e]
        cases q.fewF ls (s.drop (k + 1)) <;> simp [Int.add_assoc]
      · simp -implicitDefEqProofs only [go_sem, simprocAttr, ints, List.map_append]
        cases acc <;> rfl
def errR (N : Int) (H A : List (Int × Int)) (w s : List Int) : Int := if errA N H A ≠ 0 then errA N H A else if isWord N w [] = false ∨ isWord N s [-1] = false ∨ w.length ≠ s.length then 4 else 0
theorem errR_ok {N : Int} {H A : List (Int × Int)} {w s : List Int} (h : errR N H A w s = 0) : errA N H A = 0 ∧ isWord N w [] = true ∧ isWord N s [-1] = true ∧ w.length = s.length := by
  unfold errR at h
  split at h
  · rename_i h1; exact absurd h h1
  · split at h
    · simp at h
    · rename_i h1 h2
      simp only [not_or, Bool.not_eq_false, ne_eq, Decidable.not_not] at h2
      exact ⟨by simpa using h1, h2.1, h2.2.1, h2.2.2⟩
theorem t78 {s : FV} {N : Int} {hs al sw ss : FV} {H A : List (Int × Int)} {w sg : List Int} (v : SetV s N hs al H A) (h1 : lsOf sw = some (ints w)) (hl1 : w.length ≤ 9223372036854775807) (h2 : lsOf ss = some (ints sg)) (hl2 : sg.length ≤ 9223372036854775807) :
    Fn Q 78 [.fo s, .fo sw, .fo ss] (.tup [.fx (alphaR N hs al H A), .fx (.int (errR N H A w sg))]) := by
  have c82 := t82 v
  obtain ⟨rfl, hH, hA, lH, lA⟩ := v
  have o1 := ls_one hH
  have o2 := ls_one hA
  by_cases e : errA N H A = 0
  · have ok := alOf_ok e
    have c1 := t86 ok (hs := hs) (al := al) (so := .nil) (others := []) h1 hl1 rfl (by simp)
    have c2 := t86 ok (hs := hs) (al := al) (so := .list false [.int (-1)]) (others := [-1]) h2 hl2 rfl (by simp)
    rw [alphaR_ok e] at c82 ⊢
    rw [e] at c82
    simp only [show (alOf N H A).N = N from rfl] at c1 c2
    cases e1 : isWord N w []
    · have eL : errR N H A w sg = 4 := by simp [errR, e, e1]
      refine w78 ?_
      dsimp only [c78, sop, gop, nop, qmv, qsg, qex, qld, qcl, qln, qix, qbo, qt, qi]
      simp -implicitDefEqProofs only [go_sem, simprocAttr, o1, o2]
      refine call1 [] false (c82) ?_
      simp -implicitDefEqProofs only [go_sem, simprocAttr]
      refine call1 [] false (c1) ?_
      simp -implicitDefEqProofs only [go_sem, simprocAttr, e1]
      refine ret_tup (fun _ => true) ?_ (by simp [ownNames])
      simp -implicitDefEqProofs only [go_sem, simprocAttr, eL]
    · cases e2 : isWord N sg [-1]
      · have eL : errR N H A w sg = 4 := by simp [errR, e, e1, e2]
        refine w78 ?_
        dsimp only [c78, sop, gop, nop, qmv, qsg, qex, qld, qcl, qln, qix, qbo, qt, qi]
        simp -implicitDefEqProofs only [go_sem, simprocAttr, o1, o2]
        refine call1 [] false (c82) ?_
        simp -implicitDefEqProofs only [go_sem, simprocAttr]
        refine call1 [] false (c1) ?_
        simp -implicitDefEqProofs only [go_sem, simprocAttr, e1]
        refine call1 [] true (c2) ?_
        simp -implicitDefEqProofs only [go_sem, simprocAttr, e2]
        refine ret_tup (fun _ => true) ?_ (by simp [ownNames])
        simp -implicitDefEqProofs only [go_sem, simprocAttr, eL]
      · by_cases e3 : w.length = sg.length
        · have eL : errR N H A w sg = 0 := by simp [errR, e, e1, e2, e3]
          have e3' : (((w.length : Nat) : Int) != (sg.length : Nat)) = false := by simp [e3]
          refine w78 ?_
          dsimp only [c78, sop, gop, nop, qmv, qsg, qex, qld, qcl, qln, qix, qbo, qt, qi]
          simp -implicitDefEqProofs only [go_sem, simprocAttr, o1, o2]
          refine call1 [] false (c82) ?_
          simp -implicitDefEqProofs only [go_sem, simprocAttr]
          refine call1 [] false (c1) ?_
          simp -implicitDefEqProofs only [go_sem, simprocAttr, e1]
          refine call1 [] true (c2) ?_
          simp -implicitDefEqProofs only [go_sem, simprocAttr, e2, lenV_ls h1, lenV_ls h2, e3']
          refine ret_tup (fun _ => true) ?_ (by simp [ownNames])
          simp -implicitDefEqProofs only [go_sem, simprocAttr, eL]
        · have eL : errR N H A w sg = 4 := by simp [errR, e, e1, e2, e3]
          have e3' : (((w.length : Nat) : Int) != (sg.length : Nat)) = true := by simp; omega
          refine w78 ?_
          dsimp only [c78, sop, gop, nop, qmv, qsg, qex, qld, qcl, qln, qix, qbo, qt, qi]
          simp -implicitDefEqProofs only [go_sem, simprocAttr, o1, o2]
          refine call1 [] false (c82) ?_
          simp -implicitDefEqProofs only [go_sem, simprocAttr]
          refine call1 [] false (c1) ?_
          simp -implicitDefEqProofs only [go_sem, simprocAttr, e1]
          refine call1 [] true (c2) ?_
          simp -implicitDefEqProofs only [go_sem, simprocAttr, e2, lenV_ls h1, lenV_ls h2, e3']
          refine ret_tup (fun _ => true) ?_ (by simp [ownNames])
          simp -implicitDefEqProofs only [go_sem, simprocAttr, eL]
  · have e' : (errA N H A == 0) = false := by simpa using e
    have eL : errR N H A w sg = errA N H A := by simp [errR, e]
    have eR : alphaR N hs al H A = .val (.pointer none) := by simp [alphaR, e]
    rw [eR] at c82 ⊢
    refine w78 ?_
    dsimp only [c78, sop, gop, nop, qmv, qsg, qex, qld, qcl, qln, qix, qbo, qt, qi]
    simp -implicitDefEqProofs only [go_sem, simprocAttr, o1, o2]
    refine call1 [] false (c82) ?_
    simp -implicitDefEqProofs only [go_sem, simprocAttr, e']
    refine ret_tup (fun _ => true) ?_ (by simp [ownNames])
    simp -implicitDefEqProofs only [go_sem, simprocAttr, eL]
def fewR (N : Int) (H A : List (Int × Int)) (w s : List Int) : Option (List Int × Int) := (alOf N H A).fewF w s
def errF (N : Int) (H A : List (Int × Int)) (w s : List Int) : Int := if errR N H A w s ≠ 0 then errR N H A w s else if fewR N H A w s = none then 7 else 0
theorem t47 {s : FV} {N : Int} {hs al sw ss : FV} {H A : List (Int × Int)} {w sg : List Int} (v : SetV s N hs al H A) (h1 : lsOf sw = some (ints w)) (hl1 : w.length ≤ 9223372036854775807) (h2 : lsOf ss = some (ints sg)) (hl2 : sg.length ≤ 9223372036854775807) :
    Fn Q 47 [.fo s, .fo sw, .fo ss] (.tup [.fx (if errF N H A w sg = 0 then fewK (fewR N H A w sg) else .nil), .fx (.int (if errF N H A w sg = 0 then fewN (fewR N H A w sg) else 0)), .fx (.int (errF N H A w sg))]) := by
  have c78 := t78 v h1 hl1 h2 hl2
  obtain ⟨rfl, hH, hA, lH, lA⟩ := v
  have o1 := ls_one hH
  have o2 := ls_one hA
  by_cases e : errR N H A w sg = 0
  · obtain ⟨eA, e1, e2, e3⟩ := errR_ok e
    have ok := alOf_ok eA
    have hw := word_ok e1
    have c81 := t81 ok (hs := hs) (al := al) h1 h2 e3 hw.l6 hw.bd
    rw [alphaR_ok eA, e] at c78
    have eF : errF N H A w sg = if fewR N H A w sg = none then 7 else 0 := by simp [errF, e]
    rw [eF]
    have eW : (alOf N H A).fewF w sg = fewR N H A w sg := rfl
    rw [eW] at c81
    generalize fewR N H A w sg = r at *
    cases r with
    | none =>
      refine w47 ?_
      dsimp only [c47, sop, gop, nop, qmv, qsg, qex, qld, qcl, qln, qix, qbo, qt, qi]
      simp -implicitDefEqProofs only [go_sem, simprocAttr, o1, o2]
      refine call1 [] false (c78) ?_
      simp -implicitDefEqProofs only [go_sem, simprocAttr]
      refine call1 [] false (c81) ?_
      simp -implicitDefEqProofs only [go_sem, simprocAttr, Option.isSome]
      refine ret_tup (fun _ => true) ?_ (by simp [ownNames])
      simp -implicitDefEqProofs only [go_sem, simprocAttr]
    | some r =>
      refine w47 ?_
      dsimp only [c47, sop, gop, nop, qmv, qsg, qex, qld, qcl, qln, qix, qbo, qt, qi]
      simp -implicitDefEqProofs only [go_sem, simprocAttr, o1, o2]
      refine call1 [] false (c78) ?_
      simp -implicitDefEqProofs only [go_sem, simprocAttr]
      refine call1 [] false (c81) ?_
      simp -implicitDefEqProofs only [go_sem, simprocAttr, Option.isSome]
      refine ret_tup (fun _ => true) ?_ (by simp [ownNames])
      simp -implicitDefEqProofs only [go_sem, simprocAttr]
  · have e' : (errR N H A w sg != 0) = true := by simpa using e
    have eL : errF N H A w sg = errR N H A w sg := by simp [errF, e]
    refine w47 ?_
    dsimp only [c47, sop, gop, nop, qmv, qsg, qex, qld, qcl, qln, qix, qbo, qt, qi]
    simp -implicitDefEqProofs only [go_sem, simprocAttr, o1, o2]
    refine call1 [] false (c78) ?_
    simp -implicitDefEqProofs only [go_sem, simprocAttr, e']
    refine ret_tup (fun _ => true) ?_ (by simp [ownNames])
    simp -implicitDefEqProofs only [go_sem, simprocAttr, eL, e]
end S07

namespace S07
open Go Abs
theorem a80n {g : Nat} {h : AH} (ho : h.obj 11 = some (.list 76 1 false true (ints []))) (hg : h.gen 11 = g) : AC Q 80 [.gl 11 g] h fun lv h' => OffH 1000000 [] h h' ∧ lv = .gl 11 g := by
  refine ac_intro (nb := 1000000) Go.Proofs.Try.func80 rfl (by kernel_rfl) mix (k80 1000000) (Nat.le_of_ble_eq_true (by kernel_rfl)) ?_
  refine Abs.walk ?_
  dsimp only [c80, sop, gop, nop, qmv, qsg, qex, qld, qcl, qln, qix, qbo, qt, qi]
  simp -implicitDefEqProofs only [go_sem, simprocAttr, ho, hg, ints]
  simp -implicitDefEqProofs only [go_sem, simprocAttr, resLV]
def Al.kindsR (q : Al) (l s : Int) : List Int := Lib.compact ((q.ways l s).map (·.1))
def Al.waysR (q : Al) : List Int → List Int → List (List Int)
  | l :: ls, s :: ss => q.kindsR l s :: q.waysR ls ss
  | _, _ => []
def waysV (L : List (List Int)) : List FV := L.map fun k => lstN (ints k)
theorem compact_nil : Lib.compact ([] : List Int) = [] := rfl
theorem compact_ne {l : List Int} (h : l ≠ []) : Lib.compact l ≠ [] := by
  cases l with
  | nil => exact absurd rfl h
  | cons x xs =>
    unfold Lib.compact Lib.compactUpTo
    intro e
    have h0 : (0 : Nat) ∈ (List.range (x :: xs).length).filter (Lib.keeps (x :: xs).toArray) := by
      rw [List.mem_filter]
      exact ⟨by simp, Lib.keeps_lt_one _ 0 (by omega)⟩
    have := List.map_eq_nil_iff.1 e
    rw [this] at h0
    simp at h0
theorem t45 {s : FV} {N : Int} {hs al sw ss : FV} {H A : List (Int × Int)} {w sg : List Int} (v : SetV s N hs al H A) (h1 : lsOf sw = some (ints w)) (hl1 : w.length ≤ 9223372036854775807) (h2 : lsOf ss = some (ints sg)) (hl2 : sg.length ≤ 9223372036854775807) :
    Fn Q 45 [.fo s, .fo sw, .fo ss] (.tup [.fx (if errR N H A w sg = 0 then lstN (waysV ((alOf N H A).waysR w sg)) else .nil), .fx (.int (errR N H A w sg))]) := by
  have c78 := t78 v h1 hl1 h2 hl2
  obtain ⟨rfl, hH, hA, lH, lA⟩ := v
  have o1 := ls_one hH
  have o2 := ls_one hA
  by_cases e : errR N H A w sg = 0
  · obtain ⟨eA, e1, e2, e3⟩ := errR_ok e
    have ok := alOf_ok eA
    have hw := word_ok e1
    have l6 := hw.l6
    have hwb := hw.bd
    rw [alphaR_ok eA, e] at c78
    rw [if_pos e, e]
    generalize hqq : alOf N H A = q at *
    have hN : q.N = N := by rw [← hqq]; rfl
    clear hqq e eA e1 e2
    subst hN
    have n1 := ok.n1
    refine w45 ?_
    dsimp only [c45, sop, gop, nop, qmv, qsg, qex, qld, qcl, qln, qix, qbo, qt, qi]
    simp -implicitDefEqProofs only [go_sem, simprocAttr, o1, o2]
    refine call1 [] false (c78) ?_
    simp -implicitDefEqProofs only [go_sem, simprocAttr, lenV_ls h1]
    refine lpL (β := List (List Int)) 26 [9, 10, 11, 13, 6] 26 [6, 11, 13] w (by omega) (fun ls k acc => acc ++ q.waysR ls (sg.drop k) = q.waysR w sg ∧ acc.length = k)
      (fun k acc ρ h => ρ 26 = .fv (.int k) ∧ ρ 6 = .gl 6 (h.gen 6) ∧ h.obj 6 = some (.list 82 1 false acc.isEmpty (waysV acc))) [] ⟨by simp, rfl⟩ ?_ ?_ ?_
    · simp -implicitDefEqProofs only [go_sem, simprocAttr, List.isEmpty, waysV]
    · rintro acc ρ h ⟨ea, la⟩ ⟨r26, r6, o6⟩
      simp only [Al.waysR, List.append_nil] at ea
      subst ea
      simp -implicitDefEqProofs only [go_sem, simprocAttr, r26, r6]
      refine ret_tup (fun _ => true) ?_ (by simp [ownNames])
      simp -implicitDefEqProofs only [go_sem, simprocAttr, o6, lstN]
      cases q.waysR w sg <;> rfl
    · rintro l ls k acc ρ h hx hk hm hk' hw' ⟨ea, la⟩ ⟨r26, r6, o6⟩
      have hn := hwb l hm
      have ks : k < sg.length := by omega
      obtain ⟨y, hy⟩ : ∃ y, sg[k]? = some y := ⟨_, List.getElem?_eq_getElem ks⟩
      have c79 := t79 ok (hs := hs) (al := al) (l := l) (s := y) hn.1 hn.2
      have hwl := ways_len n1 l y
      rw [drop_get hy, Al.waysR] at ea
      have hls := lsOf_lstN ((q.ways l y).map pF)
      have ekr : q.kindsR l y = Lib.compact ((q.ways l y).map (·.1)) := rfl
      rw [ekr] at ea
      generalize q.ways l y = W at *
      generalize lstN (W.map pF) = sW at *
      have fin : (acc ++ [Lib.compact (W.map (·.1))]) ++ q.waysR ls (sg.drop (k + 1)) = q.waysR w sg ∧ (acc ++ [Lib.compact (W.map (·.1))]).length = k + 1 := ⟨by rw [← ea]; simp, by simp [la]⟩
      simp -implicitDefEqProofs only [go_sem, simprocAttr, r26, hk', index_map h1 idx_26 hx rfl, index_map h2 idx_26 hy rfl]
      refine call1 [] false (c79) ?_
      simp -implicitDefEqProofs only [go_sem, simprocAttr, lenV_ls hls]
      refine lpL (β := List Int) 39 [11, 13] 39 [11, 13] W (by omega) (fun xs j ks => ks ++ xs.map (·.1) = W.map (·.1) ∧ ks.length = j)
        (fun j ks ρ2 h2 => ρ2 39 = .fv (.int j) ∧ ρ2 11 = .gl 11 (h2.gen 11) ∧ h2.obj 11 = some (.list 76 1 false ks.isEmpty (ints ks))) [] ⟨rfl, rfl⟩ ?_ ?_ ?_
      · simp -implicitDefEqProofs only [go_sem, simprocAttr, List.isEmpty, ints]
      · rintro ks ρ2 h2 ⟨ek, lk⟩ ⟨r39, r11, o11⟩
        simp only [List.map_nil, List.append_nil] at ek
        subst ek
        by_cases hz : W.map (·.1) = []
        · rw [hz] at fin o11
          simp -implicitDefEqProofs only [go_sem, simprocAttr, r39, r11, r6]
          refine callIH 1000000 [] (a80n (by simp -implicitDefEqProofs only [go_sem, simprocAttr, o11, List.isEmpty]) (by simp -implicitDefEqProofs only [go_sem, simprocAttr])) ⟨_, _, fun _ _ => ⟨rfl, rfl⟩, rfl⟩ ?_
          rintro lv h3 rfl
          simp -implicitDefEqProofs only [go_sem, simprocAttr, Kl_eq, o11, ints, List.isEmpty, r6]
          refine app_gl (by simp -implicitDefEqProofs only [go_sem, simprocAttr, o6]; rfl) idx_79 (by simp -implicitDefEqProofs only [go_sem, simprocAttr]; rfl) (by simp [FV.cells]) (by simp -implicitDefEqProofs only [go_sem, simprocAttr]) (by simp [byt_82, waysV]; omega) (by simp [maxLen, waysV]; omega) (by simp) ?_
          simp -implicitDefEqProofs only [go_sem, simprocAttr, r26, hw']
          refine nxtL (acc ++ [Lib.compact []]) fin ?_
          simp -implicitDefEqProofs only [go_sem, simprocAttr, compact_nil, waysV, List.map_append, lstN, ints]
          cases acc <;> rfl
        · have hz' : (W.map (·.1)).isEmpty = false := by simpa using hz
          have hc := compact_ne hz
          have hcm := compact_len (W.map (·.1))
          simp only [List.length_map] at hcm
          simp -implicitDefEqProofs only [go_sem, simprocAttr, r39, r11, r6]
          refine callI (a80 (xs := W.map (·.1)) (nil := false) hz (by simp; omega) (by simp -implicitDefEqProofs only [go_sem, simprocAttr, o11, hz'])) ⟨_, _, rfl, rfl⟩ ?_
          rintro lv h3 ⟨rfl, rfl⟩
          simp -implicitDefEqProofs only [go_sem, simprocAttr, Kl_eq, ints, r6, List.map_map, Function.comp_def]
          refine app_gl (by simp -implicitDefEqProofs only [go_sem, simprocAttr, o6]; rfl) idx_79 (by simp -implicitDefEqProofs only [go_sem, simprocAttr]; rfl) (by simp [FV.cells]) (by simp -implicitDefEqProofs only [go_sem, simprocAttr]) (by simp [byt_82, waysV]; omega) (by simp [maxLen, waysV]; omega) (by simp) ?_
          simp -implicitDefEqProofs only [go_sem, simprocAttr, r26, hw']
          refine nxtL (acc ++ [Lib.compact (W.map (·.1))]) fin ?_
          have hce : (Lib.compact (W.map (·.1))).isEmpty = false := by simpa using hc
          have hce' : (List.map FV.int (Lib.compact (W.map (·.1)))).isEmpty = false := by simpa using hc
          simp -implicitDefEqProofs only [go_sem, simprocAttr, waysV, List.map_append, lstN, ints, hce']
          cases acc <;> rfl
      · rintro x xs j ks ρ2 h2 hx2 hj hm2 hj' hwj ⟨ek, lk⟩ ⟨r39, r11, o11⟩
        simp -implicitDefEqProofs only [go_sem, simprocAttr, r39, hj', index_map hls idx_138 hx2 rfl, pF, r11]
        refine app_gl (by simp -implicitDefEqProofs only [go_sem, simprocAttr, o11]; rfl) idx_82 (by simp -implicitDefEqProofs only [go_sem, simprocAttr]; rfl) (by simp [FV.cells]) (by simp -implicitDefEqProofs only [go_sem, simprocAttr]) (by simp [byt_76, ints]; omega) (by simp [maxLen, ints]; omega) (by simp) ?_
        simp -implicitDefEqProofs only [go_sem, simprocAttr, r39, hwj]
        refine nxtL (ks ++ [x.1]) ⟨by rw [← ek]; simp, by simp [lk]⟩ ?_
        simp -implicitDefEqProofs only [go_sem, simprocAttr, ints, List.map_append]
        cases ks <;> rfl
  · have e' : (errR N H A w sg != 0) = true := by simpa using e
    refine w45 ?_
    dsimp only [c45, sop, gop, nop, qmv, qsg, qex, qld, qcl, qln, qix, qbo, qt, qi]
    simp -implicitDefEqProofs only [go_sem, simprocAttr, o1, o2]
    refine call1 [] false (c78) ?_
    simp -implicitDefEqProofs only [go_sem, simprocAttr, e']
    refine ret_tup (fun _ => true) ?_ (by simp [ownNames])
    simp -implicitDefEqProofs only [go_sem, simprocAttr, e]
end S07

