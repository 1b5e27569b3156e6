/- A part of the proof: G04e, G04f, G04g. -/
import Derived.Test.YtncbkgbdpaibmaaG04a
set_option linter.unusedVariables false
set_option linter.unusedSimpArgs false
set_option maxRecDepth 20000
namespace S04
open Go Abs
@[reducible] def Cs.bc (c : Cs) (sw sp : FV) : List FV := [sw, sp, .int c.R, .int c.L, .int c.B, mapV c.M]
@[reducible] def Cs.bv (c : Cs) (sw sp : FV) : FV := .agg (c.bc sw sp)
@[reducible] def boxZ : FV := .agg [.nil, .nil, .int 0, .int 0, .int 0, .val (.map none)]
structure Cs.Ok (c : Cs) : Prop where
  n0 : 1 ≤ c.W.length
  n1 : c.W.length ≤ 8
  w : ∀ x ∈ c.W, 1 ≤ x ∧ x ≤ 30
  r0 : 0 ≤ c.R
  r1 : c.R ≤ 20
  l0 : 0 ≤ c.L
  l1 : c.L ≤ 10
  b0 : 0 ≤ c.B
  b1 : c.B ≤ 30
  p1 : c.P.length ≤ 10
  pb : ∀ p ∈ c.P, 0 ≤ p.1 ∧ p.1 < c.W.length ∧ 0 ≤ p.2.1 ∧ p.2.1 < c.W.length ∧ -5 ≤ p.2.2 ∧ p.2.2 ≤ 5
  pn : c.M.length = c.P.length
theorem kUp_len (M : List ((Int × Int) × Int)) (k : Int × Int) (v : Int) : (kUp M k 0 v).length = if k ∈ M.map Prod.fst then M.length else M.length + 1 := by
  have := congrArg List.length (kUp_fst M k 0 v)
  rw [kEnt_fst] at this
  simp only [List.length_map] at this
  rw [this]
  split <;> simp
theorem moresF_len : ∀ (P : List (Int × Int × Int)) (M : List ((Int × Int) × Int)), (moresF P M).length ≤ M.length + P.length
  | [], M => by simp [moresF]
  | p :: ps, M => by
    have := moresF_len ps (kUp M (p.1, p.2.1) 0 p.2.2)
    have h2 := kUp_len M (p.1, p.2.1) p.2.2
    simp only [moresF, List.length_cons]
    split at h2 <;> omega
theorem errC_ok {c : Cs} (h : errC c = 0) : c.Ok := by
  unfold errC at h
  split at h
  · simp at h
  split at h
  · simp at h
  split at h
  · simp at h
  split at h
  · simp at h
  split at h
  · simp at h
  rename_i h1 h2 h3 h4 h5
  simp only [Bool.not_eq_false, Bool.and_eq_true, inB_iff, List.all_eq_true] at h1 h2
  have := moresF_len c.P []
  refine ⟨by omega, by omega, h1.2, h2.1.1.1, h2.1.1.2, h2.1.2.1, h2.1.2.2, h2.2.1, h2.2.2, by omega, fun p hp => not_badT (not_any (by simpa using h4) hp), ?_⟩
  simp only [Cs.M, List.length_nil] at *
  omega
theorem mores_nd : ∀ (P : List (Int × Int × Int)) (M : List ((Int × Int) × Int)), (M.map Prod.fst).Nodup → ((moresF P M).map Prod.fst).Nodup
  | [], M, h => h
  | p :: ps, M, h => mores_nd ps _ (kUp_nodup _ _ _ h)
theorem mores_mem : ∀ (P : List (Int × Int × Int)) (M : List ((Int × Int) × Int)) (e : (Int × Int) × Int), e ∈ moresF P M → e ∈ M ∨ ∃ p ∈ P, e = ((p.1, p.2.1), p.2.2)
  | [], M, e, h => .inl h
  | p :: ps, M, e, h => by
    rcases mores_mem ps _ e h with h | ⟨q, hq, rfl⟩
    · rcases kUp_mem h with h | rfl
      · exact .inl h
      · exact .inr ⟨p, by simp, rfl⟩
    · exact .inr ⟨q, by simp [hq], rfl⟩
theorem Cs.Ok.nd {c : Cs} (ok : c.Ok) : (c.M.map Prod.fst).Nodup := mores_nd _ _ (by simp)
theorem Cs.Ok.key {c : Cs} (ok : c.Ok) : ∀ e ∈ c.M, KeyOk Q 47 (pF e.1) := by
  intro e he
  rcases mores_mem _ _ _ he with he | ⟨p, hp, rfl⟩
  · simp at he
  · have := ok.pb p hp
    have := ok.n1
    exact kp (by omega) (by omega) (by omega) (by omega)
def Cs.mo (c : Cs) (a b : Int) : Int := kGet c.M (a, b) 0
theorem Cs.Ok.mo {c : Cs} (ok : c.Ok) (a b : Int) : -5 ≤ c.mo a b ∧ c.mo a b ≤ 5 := by
  unfold Cs.mo kGet
  cases h : @List.lookup (Int × Int) Int instBEqOfDecidableEq (a, b) c.M with
  | none => simp
  | some v =>
    rcases mores_mem _ _ _ (lookup_mem h) with he | ⟨p, hp, he⟩
    · simp at he
    · have := ok.pb p hp
      simp only [Prod.mk.injEq] at he
      simp only [Option.getD_some]
      omega
def isW (n : Nat) (least : Int) (w : List Int) : Bool := inB 1 7 (w.length : Nat) && w.all (inB least ((n : Int) - 1))
theorem isW_iff {n : Nat} {least : Int} {w : List Int} : isW n least w = true ↔ 1 ≤ w.length ∧ w.length ≤ 7 ∧ ∀ x ∈ w, least ≤ x ∧ x < n := by
  simp only [isW, Bool.and_eq_true, inB_iff, List.all_eq_true]
  constructor
  · rintro ⟨h1, h2⟩
    exact ⟨by omega, by omega, fun x hx => by have := h2 x hx; omega⟩
  · rintro ⟨h1, h2, h3⟩
    exact ⟨by omega, fun x hx => by have := h3 x hx; omega⟩
theorem t103 {c : Cs} {sw sp s : FV} {w : List Int} (v : CV c sw sp) (least : Int) (hs : lsOf s = some (ints w)) (hl : w.length ≤ 9223372036854775807) : Fn Q 103 [.fo (c.bv sw sp), .fo s, .fo (.int least)] (.one (.fx (.bool (isW c.W.length least w)))) := by
  have o1 := ls_one v.w
  have o2 := ls_one v.p
  have o3 := ls_one hs
  have wl := v.wl
  have w1 : IntKind.i64.wrap ((c.W.length : Int) - 1) = (c.W.length : Int) - 1 := wr _ (by omega) (by omega)
  cases e : inB 1 7 (w.length : Nat)
  · refine w103 ?_
    dsimp only [c103, sop, gop, nop, qmv, qsg, qex, qld, qcl, qln, qix, qbo, qt, qi]
    simp -implicitDefEqProofs only [go_sem, simprocAttr, o1, o2, o3, lenV_ls hs, mapV]
    refine call1 [] true (u1 1 7 (w.length : Nat)) ?_
    simp -implicitDefEqProofs only [go_sem, simprocAttr, e]
    exact ret_eq (by simp [isW, e])
  · refine w103 ?_
    dsimp only [c103, sop, gop, nop, qmv, qsg, qex, qld, qcl, qln, qix, qbo, qt, qi]
    simp -implicitDefEqProofs only [go_sem, simprocAttr, o1, o2, o3, lenV_ls hs, mapV]
    refine call1 [] true (u1 1 7 (w.length : Nat)) ?_
    simp -implicitDefEqProofs only [go_sem, simprocAttr, e, lenV_ls v.w, w1]
    refine call1 [] false (t70 least ((c.W.length : Int) - 1) s w hs hl) ?_
    simp -implicitDefEqProofs only [go_sem, simprocAttr]
    exact ret_eq (by simp [isW, e])
theorem t110 {c : Cs} {sw sp s : FV} {w : List Int} (v : CV c sw sp) (hs : lsOf s = some (ints w)) (hl : w.length ≤ 9223372036854775807) : Fn Q 110 [.fo s, .fo (.ptr (c.bc sw sp))] (.one (.fx (.bool (!isW c.W.length 0 w)))) := by
  refine w110 ?_
  dsimp only [c110, sop, gop, nop, qmv, qsg, qex, qld, qcl, qln, qix, qbo, qt, qi]
  simp -implicitDefEqProofs only [go_sem, simprocAttr]
  refine call1 [] false (t103 v 0 hs hl) ?_
  simp -implicitDefEqProofs only [go_sem, simprocAttr]
  exact ret_fv
def errO (c : Cs) (W : List (List Int)) : Int := if errC c ≠ 0 then errC c else if W.any (fun w => !isW c.W.length 0 w) then 4 else 0
theorem t73 {c : Cs} {sw sp sW : FV} {W : List (List Int)} (v : CV c sw sp) (hW : Lists sW W) (hl : W.length ≤ 9223372036854775807) :
    Fn Q 73 [.fo (c.fv sw sp), .fo sW] (.tup [.fx (if errC c = 0 then c.bv sw sp else boxZ), .fx (.int (errO c W))]) := by
  have o1 := ls_one v.w
  have o2 := ls_one v.p
  have c19 := t19 v
  by_cases e : errC c = 0
  · have ok := errC_ok e
    have c72 := t72 v fun p hp => by have := ok.pb p hp; have := ok.n1; omega
    rw [e] at c19
    obtain ⟨wl, hw1, hw2, hw3⟩ := hW
    have hwl : wl.length = W.length := by rw [← hw2]; simp
    have cb : ∀ x ∈ wl, Fn Q 110 (.fo x :: [FV.ptr (c.bc sw sp)].map .fo) (.one (.fx (.bool (!isW c.W.length 0 x.toL)))) := by
      intro x hx
      obtain ⟨l, hl, lb⟩ := hw3 x hx
      have := t110 v hl lb
      rw [← toL_ls hl] at this
      exact this
    have eany : (wl.any fun x => !isW c.W.length 0 x.toL) = W.any fun l => !isW c.W.length 0 l := by rw [← hw2, List.any_map]; rfl
    refine w73 ?_
    dsimp only [c73, sop, gop, nop, qmv, qsg, qex, qld, qcl, qln, qix, qbo, qt, qi]
    simp -implicitDefEqProofs only [go_sem, simprocAttr, o1, o2]
    refine call1 [] false (c19) ?_
    simp -implicitDefEqProofs only [go_sem, simprocAttr]
    refine W_opsD _ _ _ (Vs []) ?_ ?_
    · decide
    simp -implicitDefEqProofs only [go_sem, simprocAttr, o1, o2]
    refine callD [] false [.fo (c.fv sw sp)] [] c72 ⟨rfl, trivial⟩ rfl (.inl rfl) ?_
    simp -implicitDefEqProofs only [go_sem, simprocAttr, mapV, o1, o2]
    refine callC t94 true (fun x => !isW c.W.length 0 x.toL) (by rfl) hw1 (fun x hx => ?_) (by omega) en110 (by simp -implicitDefEqProofs only [go_sem, simprocAttr]; rfl) cb ?_
    · obtain ⟨l, hl, _⟩ := hw3 x hx
      exact ls_elem hl
    cases ea : W.any fun l => !isW c.W.length 0 l
    · have eL : errO c W = 0 := by simp only [errO, e, ea]; simp
      simp -implicitDefEqProofs only [go_sem, simprocAttr, eany, ea, o1, o2]
      refine ret_tup (fun _ => true) ?_ (by simp [ownNames])
      simp -implicitDefEqProofs only [go_sem, simprocAttr, eL, e]
      rfl
    · have eL : errO c W = 4 := by simp only [errO, e, ea]; simp
      simp -implicitDefEqProofs only [go_sem, simprocAttr, eany, ea, o1, o2]
      refine ret_tup (fun _ => true) ?_ (by simp [ownNames])
      simp -implicitDefEqProofs only [go_sem, simprocAttr, eL, e]
      rfl
  · have e' : (errC c != 0) = true := by simpa using e
    have eL : errO c W = errC c := by simp [errO, e]
    refine w73 ?_
    dsimp only [c73, sop, gop, nop, qmv, qsg, qex, qld, qcl, qln, qix, qbo, qt, qi]
    simp -implicitDefEqProofs only [go_sem, simprocAttr, o1, o2]
    refine call1 [] false (c19) ?_
    simp -implicitDefEqProofs only [go_sem, simprocAttr, e']
    refine ret_tup (fun _ => true) ?_ (by simp [ownNames])
    simp -implicitDefEqProofs only [go_sem, simprocAttr, eL, e]
end S04

namespace S04
open Go Abs
def Cs.loo (c : Cs) : List Int → List Int
  | a :: b :: w => c.mo a b :: c.loo (b :: w)
  | _ => []
theorem Cs.loo_len (c : Cs) : ∀ w : List Int, (c.loo w).length = w.length - 1
  | [] => rfl
  | [_] => rfl
  | a :: b :: w => by simp [Cs.loo, Cs.loo_len c (b :: w)]
theorem Cs.Ok.loo {c : Cs} (ok : c.Ok) : ∀ w : List Int, ∀ m ∈ c.loo w, -5 ≤ m ∧ m ≤ 5
  | [], m, h => by simp [Cs.loo] at h
  | [_], m, h => by simp [Cs.loo] at h
  | a :: b :: w, m, h => by
    simp only [Cs.loo, List.mem_cons] at h
    rcases h with rfl | h
    · exact ok.mo a b
    · exact ok.loo (b :: w) m h
structure WV (c : Cs) (s : FV) (w : List Int) : Prop where
  s : lsOf s = some (ints w)
  l : w.length ≤ 20
  b : ∀ x ∈ w, 0 ≤ x ∧ x < c.W.length
theorem drop2 {α : Type} {l : List α} {k : Nat} (h : k + 1 < l.length) : ∃ a b, l[k]? = some a ∧ l[k + 1]? = some b ∧ l.drop k = a :: b :: l.drop (k + 2) ∧ l.drop (k + 1) = b :: l.drop (k + 2) := by
  refine ⟨l[k], l[k + 1], by simp, by simp, ?_, ?_⟩
  · rw [List.drop_eq_getElem_cons (by omega), List.drop_eq_getElem_cons (by omega)]
  · rw [List.drop_eq_getElem_cons (by omega)]
theorem t76 {c : Cs} {sw sp s : FV} {w : List Int} (v : CV c sw sp) (ok : c.Ok) (ws : WV c s w) : Fn Q 76 [.fo (c.bv sw sp), .fo s] (.one (.fx (lstN (ints (c.loo w))))) := by
  have o1 := ls_one v.w
  have o2 := ls_one v.p
  have o3 := ls_one ws.s
  have nd := ok.nd
  have ky := ok.key
  have n1 := ok.n1
  have n0 := ok.n0
  obtain ⟨hs, hl, hb⟩ := ws
  have w1 : IntKind.i64.wrap ((w.length : Int) - 1) = (w.length : Int) - 1 := wr _ (by omega) (by omega)
  rcases ls_cases hs with ⟨f, rfl⟩ | ⟨rfl, e⟩
  · refine w76 ?_
    dsimp only [c76, sop, gop, nop, qmv, qsg, qex, qld, qcl, qln, qix, qbo, qt, qi]
    simp -implicitDefEqProofs only [go_sem, simprocAttr, o1, o2, o3, ints_length, w1, mapV]
    refine lpH 9 [4, 5] 9 [4] (fun a : Nat × List Int => w.length - a.1) (fun a => a.1 ≤ w.length ∧ a.2 ++ c.loo (w.drop a.1) = c.loo w) (fun a ρ h => ρ 9 = .fv (.int a.1) ∧ ρ 4 = .gl 4 (h.gen 4) ∧ h.obj 4 = some (.list 3 1 false a.2.isEmpty (ints a.2))) (0, []) ⟨by simp, by simp⟩ ?_ ?_
    · simp -implicitDefEqProofs only [go_sem, simprocAttr, List.isEmpty, ints]
    rintro ⟨k, acc⟩ ρ h ⟨kl, ea⟩ ⟨r9, r4, o4⟩
    dsimp only at kl ea r9 o4
    by_cases hk : (k : Int) < (w.length : Int) - 1
    · obtain ⟨a, b, g1, g2, g3, g4⟩ := drop2 (l := w) (k := k) (by omega)
      have ba := hb a (List.mem_of_getElem? g1)
      have bb := hb b (List.mem_of_getElem? g2)
      have w2 : IntKind.i64.wrap ((k : Int) + 2) = (k : Int) + 2 := wr _ (by omega) (by omega)
      have w3 : IntKind.i64.wrap ((k : Int) + 1) = ((k + 1 : Nat) : Int) := wr _ (by omega) (by omega)
      have e1 : ((k : Int) + 2).toNat = k + 2 := by omega
      have e2 : ((ints w).take (k + 2)).drop k = [.int a, .int b] := by
        have : ((w.take (k + 2)).drop k) = [a, b] := by
          rw [List.drop_take, g3]; simp
        unfold ints
        rw [← List.map_take, ← List.map_drop, this]; rfl
      have e3 : ∀ x ∈ ints w, x.cells.length = 1 := fun x hx => (ints_elem w x hx).1
      have i2 : (k : Int) ≤ (k : Int) + 2 := by omega
      have i3 : (k : Int) + 2 ≤ (w.length : Int) := by omega
      have acl : acc.length ≤ 20 := by
        have := congrArg List.length ea
        rw [List.length_append, Cs.loo_len, Cs.loo_len] at this
        omega
      simp -implicitDefEqProofs only [go_sem, simprocAttr, r9, hk, w2, Option.elim, i2, i3, e1, e2, eq_true e3, implies_true, FV.flat, List.flatMap_cons, List.flatMap_nil, r4]
      refine mpLook (kF := pF) (vF := .int) (M := c.M) (k := (a, b)) (z := 0) mty_112 (by simp -implicitDefEqProofs only [go_sem, simprocAttr]) (by simp -implicitDefEqProofs only [go_sem, simprocAttr]; rfl) pF_inj key_47 ky (kp (by omega) (by omega) (by omega) (by omega)) zrf_3 nd ?_
      simp -implicitDefEqProofs only [go_sem, simprocAttr, r4]
      refine app_gl (by simp -implicitDefEqProofs only [go_sem, simprocAttr, o4]; rfl) idx_22 (by simp -implicitDefEqProofs only [go_sem, simprocAttr]; rfl) (by simp [FV.cells]) (by simp -implicitDefEqProofs only [go_sem, simprocAttr]) (by simp [byt_3, ints]; omega) (by simp [maxLen, ints]; omega) (by simp) ?_
      simp -implicitDefEqProofs only [go_sem, simprocAttr, r9, w3]
      refine nxt (k + 1, acc ++ [c.mo a b]) (by simp only; omega) ⟨by simp only; omega, ?_⟩ ?_
      · simp only
        rw [← ea, g3, g4, Cs.loo]
        simp
      · simp -implicitDefEqProofs only [go_sem, simprocAttr, ints, List.map_append, Cs.mo]
        cases acc <;> rfl
    · simp -implicitDefEqProofs only [go_sem, simprocAttr, r9, hk, r4]
      have e1 : c.loo (w.drop k) = [] := List.eq_nil_of_length_eq_zero (by rw [Cs.loo_len]; simp; omega)
      rw [e1, List.append_nil] at ea
      subst ea
      refine ret_fx (fun _ => true) ?_
      simp -implicitDefEqProofs only [go_sem, simprocAttr, o4, lstN]
      generalize c.loo w = z
      cases z <;> rfl
  · have : w = [] := by simpa [ints] using e
    subst this
    refine w76 ?_
    dsimp only [c76, sop, gop, nop, qmv, qsg, qex, qld, qcl, qln, qix, qbo, qt, qi]
    simp -implicitDefEqProofs only [go_sem, simprocAttr, o1, o2, o3, mapV]
    refine lp (n := 1) (lpStep ?_)
    simp -implicitDefEqProofs only [go_sem, simprocAttr]
    refine ret_fx (fun _ => true) ?_
    simp -implicitDefEqProofs only [go_sem, simprocAttr]
    rfl
end S04

namespace S04
open Go Abs
@[go_sem] theorem max2_eq (a b : Int) : max2V (.int .i64 a) (.int .i64 b) = some (.int .i64 (max a b)) := by
  unfold max2V
  simp only [true_and, if_true, Option.some.injEq, Value.int.injEq]
  split <;> omega
@[go_sem] theorem min2_eq (a b : Int) : min2V (.int .i64 a) (.int .i64 b) = some (.int .i64 (min a b)) := by
  unfold min2V
  simp only [true_and, if_true, Option.some.injEq, Value.int.injEq]
  split <;> omega
def Cs.ws (c : Cs) : List Int → Int
  | [] => 0
  | x :: xs => gI c.W x + c.ws xs
def Cs.wd (c : Cs) (w : List Int) : Int := 2 * c.R + c.ws w
def clo (L : Int) : List Int → Int
  | [] => 0
  | m :: ms => max 0 (L - m) + clo L ms
def Cs.nd (c : Cs) (w : List Int) : Int := c.wd w + clo c.L (c.loo w)
theorem Cs.Ok.gw {c : Cs} (ok : c.Ok) {x : Int} (h0 : 0 ≤ x) (h1 : x < c.W.length) : c.W[x.toNat]? = some (gI c.W x) ∧ 1 ≤ gI c.W x ∧ gI c.W x ≤ 30 := by
  have := gI_get h0 h1
  exact ⟨this, ok.w _ (List.mem_of_getElem? this)⟩
theorem Cs.Ok.ws {c : Cs} (ok : c.Ok) : ∀ w : List Int, (∀ x ∈ w, 0 ≤ x ∧ x < c.W.length) → 0 ≤ c.ws w ∧ c.ws w ≤ 30 * w.length
  | [], _ => by simp [Cs.ws]
  | x :: xs, h => by
    have h1 := h x (by simp)
    have := (ok.gw h1.1 h1.2).2
    have := ok.ws xs fun y hy => h y (by simp [hy])
    simp only [Cs.ws, List.length_cons]
    omega
theorem clo_bd {L : Int} (l0 : 0 ≤ L) (l1 : L ≤ 10) : ∀ ms : List Int, (∀ m ∈ ms, -5 ≤ m ∧ m ≤ 5) → 0 ≤ clo L ms ∧ clo L ms ≤ 15 * ms.length
  | [], _ => by simp [clo]
  | m :: ms, h => by
    have h1 := h m (by simp)
    have := clo_bd l0 l1 ms fun y hy => h y (by simp [hy])
    simp only [clo, List.length_cons]
    omega
theorem t83 {c : Cs} {sw sp s : FV} {w : List Int} (v : CV c sw sp) (ok : c.Ok) (ws : WV c s w) : Fn Q 83 [.fo (c.bv sw sp), .fo s] (.one (.fx (.int (c.wd w)))) := by
  have o1 := ls_one v.w
  have o2 := ls_one v.p
  have o3 := ls_one ws.s
  obtain ⟨hs, hl, hb⟩ := ws
  have r0 := ok.r0
  have r1 := ok.r1
  have w1 : IntKind.i64.wrap (2 * c.R) = 2 * c.R := wr _ (by omega) (by omega)
  refine w83 ?_
  dsimp only [c83, sop, gop, nop, qmv, qsg, qex, qld, qcl, qln, qix, qbo, qt, qi]
  simp -implicitDefEqProofs only [go_sem, simprocAttr, o1, o2, o3, mapV, w1, lenV_ls hs]
  refine lpL (β := Int) 14 [5, 7] 14 [] w (by omega) (fun xs k n => n + c.ws xs = c.wd w ∧ 0 ≤ n ∧ n ≤ 40 + 30 * (k : Int)) (fun k n ρ h => ρ 14 = .fv (.int k) ∧ ρ 5 = .fv (.int n)) (2 * c.R) ⟨rfl, by omega, by omega⟩ ?_ ?_ ?_
  · simp -implicitDefEqProofs only [go_sem, simprocAttr]
  · rintro n ρ h ⟨e, _, _⟩ ⟨r14, r5⟩
    simp -implicitDefEqProofs only [go_sem, simprocAttr, r14, r5]
    exact ret_eq (by rw [← e]; simp [Cs.ws])
  · rintro x xs k n ρ h hx hk hm hk' hw ⟨e, n0, n1⟩ ⟨r14, r5⟩
    have bx := hb x hm
    obtain ⟨g1, g2, g3⟩ := ok.gw bx.1 bx.2
    have ix := index_map (H := havH 14 [] (h0.new 2 (AObj.box [LV.fv sw, LV.fv sp, LV.fv (FV.int c.R), LV.fv (FV.int c.L), LV.fv (FV.int c.B), LV.fv (FV.map (esF pF FV.int c.M))])) h) v.w idx_22 g1 rfl
    rw [Int.toNat_of_nonneg bx.1] at ix
    have w2 : IntKind.i64.wrap (n + gI c.W x) = n + gI c.W x := wr _ (by omega) (by omega)
    simp -implicitDefEqProofs only [go_sem, simprocAttr, r14, r5, hk', index_map hs idx_22 hx rfl, ix, w2, hw]
    refine nxtL (n + gI c.W x) ⟨by rw [← e]; simp [Cs.ws, Int.add_assoc], by omega, by push_cast; omega⟩ ?_
    simp -implicitDefEqProofs only [go_sem, simprocAttr]
theorem t74 {c : Cs} {sw sp s : FV} {w : List Int} (v : CV c sw sp) (ok : c.Ok) (ws : WV c s w) : Fn Q 74 [.fo (c.bv sw sp), .fo s] (.one (.fx (.int (c.nd w)))) := by
  have o1 := ls_one v.w
  have o2 := ls_one v.p
  have o3 := ls_one ws.s
  have c83 := t83 v ok ws
  have c76 := t76 v ok ws
  have ll := c.loo_len w
  have hlo := ok.loo w
  have hs := lsOf_lstN (ints (c.loo w))
  have l0 := ok.l0
  have l1 := ok.l1
  have bw := ok.ws w ws.b
  have r0 := ok.r0
  have r1 := ok.r1
  have wl := ws.l
  generalize lstN (ints (c.loo w)) = sl at hs c76
  generalize hms : c.loo w = ms at *
  refine w74 ?_
  dsimp only [c74, sop, gop, nop, qmv, qsg, qex, qld, qcl, qln, qix, qbo, qt, qi]
  simp -implicitDefEqProofs only [go_sem, simprocAttr, o1, o2, o3, mapV]
  refine call1 [] false (c83) ?_
  simp -implicitDefEqProofs only [go_sem, simprocAttr, o1, o2, o3]
  refine call1 [] false (c76) ?_
  simp -implicitDefEqProofs only [go_sem, simprocAttr, lenV_ls hs]
  refine lpL (β := Int) 15 [5, 7] 15 [] ms (by omega) (fun xs k n => n + clo c.L xs = c.nd w ∧ 0 ≤ n ∧ n ≤ 1000 + 15 * (k : Int)) (fun k n ρ h => ρ 15 = .fv (.int k) ∧ ρ 5 = .fv (.int n)) (c.wd w) ⟨by simp [Cs.nd, hms], by simp only [Cs.wd]; omega, by simp only [Cs.wd]; omega⟩ ?_ ?_ ?_
  · simp -implicitDefEqProofs only [go_sem, simprocAttr]
  · rintro n ρ h ⟨e, _, _⟩ ⟨r15, r5⟩
    simp -implicitDefEqProofs only [go_sem, simprocAttr, r15, r5]
    exact ret_eq (by rw [← e]; simp [clo])
  · rintro x xs k n ρ h hx hk hm hk' hw ⟨e, n0, n1⟩ ⟨r15, r5⟩
    have bx := hlo x hm
    have w1 : IntKind.i64.wrap (c.L - x) = c.L - x := wr _ (by omega) (by omega)
    have w2 : IntKind.i64.wrap (n + max 0 (c.L - x)) = n + max 0 (c.L - x) := wr _ (by omega) (by omega)
    simp -implicitDefEqProofs only [go_sem, simprocAttr, r15, r5, hk', index_map hs idx_22 hx rfl, w1, w2, hw]
    refine nxtL (n + max 0 (c.L - x)) ⟨by rw [← e]; simp [clo, Int.add_assoc], by omega, by push_cast; omega⟩ ?_
    simp -implicitDefEqProofs only [go_sem, simprocAttr]
theorem Lists_one {s : FV} {w : List Int} (hs : lsOf s = some (ints w)) (hl : w.length ≤ 9223372036854775807) : Lists (.list false [s]) [w] :=
  ⟨[s], rfl, by simp [toL_ls hs], fun x hx => by simp at hx; subst hx; exact ⟨w, hs, hl⟩⟩
theorem errO_ok {c : Cs} {W : List (List Int)} (h : errO c W = 0) : c.Ok ∧ ∀ w ∈ W, 1 ≤ w.length ∧ w.length ≤ 7 ∧ ∀ x ∈ w, 0 ≤ x ∧ x < c.W.length := by
  unfold errO at h
  split at h
  · rename_i h1; exact absurd h h1
  split at h
  · simp at h
  rename_i h1 h2
  refine ⟨errC_ok (by simpa using h1), fun w hw => ?_⟩
  have h2' : ∀ w ∈ W, isW c.W.length 0 w = true := by simpa using h2
  exact isW_iff.1 (h2' w hw)
theorem errO_C {c : Cs} {W : List (List Int)} (h : errO c W = 0) : errC c = 0 := by
  unfold errO at h
  split at h
  · rename_i h1; exact absurd h h1
  · rename_i h1; simpa using h1
theorem t20 {c : Cs} {sw sp s : FV} {w : List Int} (v : CV c sw sp) (hs : lsOf s = some (ints w)) (hl : w.length ≤ 9223372036854775807) : Fn Q 20 [.fo (c.fv sw sp), .fo s] (.tup [.fx (.int (if errO c [w] = 0 then c.nd w else 0)), .fx (.int (errO c [w]))]) := by
  have o1 := ls_one v.w
  have o2 := ls_one v.p
  have o3 := ls_one hs
  have c73 := t73 v (Lists_one hs hl) (by simp)
  by_cases e : errO c [w] = 0
  · obtain ⟨ok, hw⟩ := errO_ok e
    obtain ⟨h1, h2, h3⟩ := hw w (by simp)
    have c74 := t74 v ok ⟨hs, by omega, h3⟩
    rw [if_pos (errO_C e), e] at c73
    refine w20 ?_
    dsimp only [c20, sop, gop, nop, qmv, qsg, qex, qld, qcl, qln, qix, qbo, qt, qi]
    simp -implicitDefEqProofs only [go_sem, simprocAttr, o1, o2, o3, ls_cells hs, ls_fone hs]
    refine call0 [11] false c73 (by simp -implicitDefEqProofs only [go_sem, simprocAttr]) (.inl rfl) ?_
    simp -implicitDefEqProofs only [go_sem, simprocAttr, mapV, o1, o2, o3]
    refine call1 [] false (c74) ?_
    simp -implicitDefEqProofs only [go_sem, simprocAttr]
    refine ret_tup (fun _ => true) ?_ (by simp [ownNames])
    simp -implicitDefEqProofs only [go_sem, simprocAttr, e]
  · have e' : (errO c [w] != 0) = true := by simpa using e
    refine w20 ?_
    dsimp only [c20, sop, gop, nop, qmv, qsg, qex, qld, qcl, qln, qix, qbo, qt, qi]
    simp -implicitDefEqProofs only [go_sem, simprocAttr, o1, o2, o3, ls_cells hs, ls_fone hs]
    refine call0 [11] false c73 (by simp -implicitDefEqProofs only [go_sem, simprocAttr]) (.inl rfl) ?_
    by_cases e2 : errC c = 0
    · simp -implicitDefEqProofs only [go_sem, simprocAttr, mapV, o1, o2, o3, e', e2]
      refine ret_tup (fun _ => true) ?_ (by simp [ownNames])
      simp -implicitDefEqProofs only [go_sem, simprocAttr, e]
    · simp -implicitDefEqProofs only [go_sem, simprocAttr, mapV, o1, o2, o3, e', e2]
      refine ret_tup (fun _ => true) ?_ (by simp [ownNames])
      simp -implicitDefEqProofs only [go_sem, simprocAttr, e]
end S04

