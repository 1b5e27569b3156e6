/- A part of the proof: G04n, G04o, G04p. -/
import Derived.Test.YtncbkgbdpaibmaaG04m
set_option linter.unusedVariables false
set_option linter.unusedSimpArgs false
set_option maxRecDepth 20000
namespace S04
open Go Abs
def numF (n : Nat) : List Int := (List.range n).map fun (i : Nat) => (i : Int)
theorem numF_succ (n : Nat) : numF (n + 1) = numF n ++ [(n : Int)] := by simp [numF, List.range_succ]
theorem numF_len (n : Nat) : (numF n).length = n := by simp [numF]
theorem t118 {n : Nat} (hn : n ≤ 1000) : Fn Q 118 [.fo (.int (n : Int))] (.one (.fx (lstN (ints (numF n))))) := by
  refine w118 ?_
  dsimp only [c118, sop, gop, nop, qmv, qsg, qex, qld, qcl, qln, qix, qbo, qt, qi]
  simp -implicitDefEqProofs only [go_sem, simprocAttr]
  refine lpH 5 [2, 3] 5 [2] (fun k : Nat => n - k) (fun k => k ≤ n) (fun k ρ h => ρ 5 = .fv (.int (k : Nat)) ∧ ρ 2 = .gl 2 (h.gen 2) ∧ h.obj 2 = some (.list 3 1 false (numF k).isEmpty (ints (numF k)))) 0 (Nat.zero_le _) ?_ ?_
  · simp -implicitDefEqProofs only [go_sem, simprocAttr]
    rfl
  · rintro k ρ h hk ⟨r5, r2, o2⟩
    by_cases hkn : k < n
    · have hk' : (k : Int) < (n : Nat) := by omega
      have hw : IntKind.i64.wrap ((k : Int) + 1) = ((k + 1 : Nat) : Int) := wr _ (by omega) (by omega)
      have ln := numF_len k
      simp -implicitDefEqProofs only [go_sem, simprocAttr, r5, r2, hk']
      refine app_gl (by simp -implicitDefEqProofs only [go_sem, simprocAttr, o2]; rfl) idx_22 (by simp -implicitDefEqProofs only [go_sem, simprocAttr]; rfl) (by simp [FV.cells]) (by simp -implicitDefEqProofs only [go_sem, simprocAttr]) (by simp [byt_3, ints]; omega) (by simp [maxLen, ints]; omega) (by simp) ?_
      simp -implicitDefEqProofs only [go_sem, simprocAttr, r5, hw]
      refine nxt (k + 1) (by omega) hkn ?_
      rw [numF_succ]
      simp -implicitDefEqProofs only [go_sem, simprocAttr, ints, List.map_append]
      cases numF k <;> rfl
    · have hk' : ¬ ((k : Int) < (n : Nat)) := by omega
      obtain rfl : k = n := by omega
      simp -implicitDefEqProofs only [go_sem, simprocAttr, r5, r2, hk']
      refine ret_fx (fun _ => true) ?_
      simp -implicitDefEqProofs only [go_sem, simprocAttr, o2, lstN]
      cases numF k <;> rfl
section
variable {P : Program} {d nm : Option Nat} {ty : Nat} {r : List SO} {fs : List Fr} {σ : St} {Q : Exit → St → Prop}
@[go_sem] theorem L_cap (a : Array Operand) (t : Array Nat) : L P (⟨d, .call { callee := .builtin .cap, args := a, argTypes := t }, ty, none, nm⟩ :: r) fs σ Q = Vl P (quietV P (.call { callee := .builtin .cap, args := a, argTypes := t }) (evL σ.ρ) σ.h) d r fs σ Q := quiet_step _ _ _ _ _ _ _ rfl rfl rfl
end
theorem t130 {n : Int} (n0 : 0 < n) (n1 : n ≤ 1000) : Fn Q 130 [.fo .nil, .fo (.int n)] (.one (.own 3 1 false [])) := by
  have h1 : ¬ n < 0 := by omega
  have w1 : IntKind.i64.wrap n = n := wr _ (by omega) (by omega)
  refine w130 ?_
  dsimp only [c130, sop, gop, nop, qmv, qsg, qex, qld, qcl, qln, qix, qbo, qt, qi]
  simp -implicitDefEqProofs only [go_sem, simprocAttr, h1, w1, n0, Option.elim, L_appendz (t := 22) (t' := 3) (htt := by decide)]
  refine appz_nil und_3 idx_22 (by decide) n0 (zs := [.int 0]) (by simp -implicitDefEqProofs only [go_sem, simprocAttr]) (.inr rfl) (by simp [byt_3]; omega) (by simp [maxLen]; omega) ?_
  simp -implicitDefEqProofs only [go_sem, simprocAttr, Option.elim]
  exact ret_sub (j := 0) (ys := List.replicate n.toNat (FV.ofCells false [FV.int 0])) (by simp -implicitDefEqProofs only [go_sem, simprocAttr]) (by simp -implicitDefEqProofs only [go_sem, simprocAttr]) (Nat.zero_le _)
theorem t123 {s t : FV} {a b : List Int} (hs : lsOf s = some (ints a)) (ht : lsOf t = some (ints b)) (ha : a ≠ []) (la : a.length ≤ 100) (lb : b.length ≤ 100) : Fn Q 123 [.fo (.list false [s, t])] (.one (.fx (.list false (ints (a ++ b))))) := by
  have hpos : 0 < a.length := List.length_pos_iff.2 ha
  have w1 : IntKind.i64.wrap (a.length : Int) = (a.length : Int) := wr _ (by omega) (by omega)
  have w2 : IntKind.i64.wrap ((a.length : Int) + (b.length : Int)) = (a.length : Int) + (b.length : Int) := wr _ (by omega) (by omega)
  have n1 : ¬ ((a.length : Int) < 0) := by omega
  have n2 : ¬ ((a.length : Int) + (b.length : Int) < 0) := by omega
  have c130 := t130 (n := (a.length : Int) + (b.length : Int)) (by omega) (by omega)
  have f1 := ls_cells hs
  have f2 := ls_cells ht
  have sn : s ≠ .nil := by
    rintro rfl
    simp [lsOf, ints] at hs
    exact ha hs
  have sn' : LV.fv s ≠ .fv .nil := by simpa using sn
  have la0 : ∀ H, lenV H (.fv s) = some a.length := fun H => by rw [lenV_ls hs, ints_length]
  have lb0 : ∀ H, lenV H (.fv t) = some b.length := fun H => by rw [lenV_ls ht, ints_length]
  have e1 : ∀ x ∈ ints a, x.cells.length = 1 := fun x hx => (ints_elem a x hx).1
  have e2 : ∀ x ∈ ints b, x.cells.length = 1 := fun x hx => (ints_elem b x hx).1
  refine w123 ?_
  dsimp only [c123, sop, gop, nop, qmv, qsg, qex, qld, qcl, qln, qix, qbo, qt, qi]
  simp -implicitDefEqProofs only [go_sem, simprocAttr]
  refine lp (n := 3) (lpStep ?_)
  simp -implicitDefEqProofs only [go_sem, simprocAttr, f1, la0, w1, n1]
  refine lpStep ?_
  simp -implicitDefEqProofs only [go_sem, simprocAttr, f2, lb0, w2, n2]
  refine lpStep ?_
  simp -implicitDefEqProofs only [go_sem, simprocAttr]
  refine call1 [] false (c130) ?_
  simp -implicitDefEqProofs only [go_sem, simprocAttr]
  refine lp (n := 3) (lpStep ?_)
  simp -implicitDefEqProofs only [go_sem, simprocAttr, f1]
  refine app_gl (by simp -implicitDefEqProofs only [go_sem, simprocAttr]; rfl) idx_22 (elemsOf_ls hs _) e1 (by simp -implicitDefEqProofs only [go_sem, simprocAttr]) (by simp [byt_3, ints]; omega) (by simp [maxLen, ints]; omega) sn' ?_
  simp -implicitDefEqProofs only [go_sem, simprocAttr]
  refine lpStep ?_
  rcases ls_cases ht with ⟨f, rfl⟩ | ⟨rfl, eb⟩
  · simp -implicitDefEqProofs only [go_sem, simprocAttr]
    refine app_gl (by simp -implicitDefEqProofs only [go_sem, simprocAttr]; rfl) idx_22 (elemsOf_ls ht _) e2 (by simp -implicitDefEqProofs only [go_sem, simprocAttr]) (by simp [byt_3, ints]; omega) (by simp [maxLen, ints]; omega) (by simp) ?_
    simp -implicitDefEqProofs only [go_sem, simprocAttr]
    refine lpStep ?_
    simp -implicitDefEqProofs only [go_sem, simprocAttr]
    refine ret_fx (fun _ => true) ?_
    simp -implicitDefEqProofs only [go_sem, simprocAttr, ints, List.map_append]
  · simp -implicitDefEqProofs only [go_sem, simprocAttr]
    refine app_none (by simp -implicitDefEqProofs only [go_sem, simprocAttr]; rfl) idx_22 ?_
    simp -implicitDefEqProofs only [go_sem, simprocAttr]
    refine lpStep ?_
    simp -implicitDefEqProofs only [go_sem, simprocAttr]
    refine ret_fx (fun _ => true) ?_
    have : b = [] := by simpa [ints] using eb
    subst this
    simp -implicitDefEqProofs only [go_sem, simprocAttr, List.append_nil]
end S04

namespace S04
open Go Abs
def setsF : Nat → List Int → List (List Int)
  | 0, _ => [[]]
  | _ + 1, [] => []
  | m + 1, x :: xs => (setsF m xs).map (x :: ·) ++ setsF (m + 1) xs
def itS (l : List Int) : List FV := [lstN (ints l)]
theorem t117 {m : Int} {s : FV} {l : List Int} (hs : lsOf s = some (ints l)) : Fn Q 117 [.fo (.int m), .fo s] (.one (.fx (.clos 129 [.ptr [.int m], .ptr [s]]))) := by
  have o := ls_one hs
  refine w117 ?_
  dsimp only [c117, sop, gop, nop, qmv, qsg, qex, qld, qcl, qln, qix, qbo, qt, qi]
  simp -implicitDefEqProofs only [go_sem, simprocAttr, o, ls_lcells hs]
  exact ret_fx (fun _ => true) (by simp -implicitDefEqProofs only [go_sem, simprocAttr])
theorem setsF_len : ∀ (m : Nat) (l x : List Int), x ∈ setsF m l → x.length = m ∧ ∀ y ∈ x, y ∈ l
  | 0, l, x, h => by simp [setsF] at h; subst h; simp
  | m + 1, [], x, h => by simp [setsF] at h
  | m + 1, a :: l, x, h => by
    simp only [setsF, List.mem_append, List.mem_map] at h
    rcases h with ⟨y, hy, rfl⟩ | h
    · have := setsF_len m l y hy
      exact ⟨by simp [this.1], fun z hz => by rcases List.mem_cons.1 hz with rfl | hz; simp; exact List.mem_cons_of_mem _ (this.2 z hz)⟩
    · have := setsF_len (m + 1) l x h
      exact ⟨this.1, fun z hz => List.mem_cons_of_mem _ (this.2 z hz)⟩
theorem t129 : ∀ (m : Nat) {s : FV} {l : List Int}, lsOf s = some (ints l) → l.length ≤ 20 → m ≤ 100 → SeqFn Q 129 [] [.ptr [.int (m : Int)], .ptr [s]] ((setsF m l).map itS)
  | 0, s, l, hs, hl, hm => by
    refine seq_intro Go.Proofs.Try.func129 rfl (by kernel_rfl) mix (k129 0) (Nat.le_of_ble_eq_true (by kernel_rfl)) ?_
    refine Abs.walk ?_
    dsimp only [c129, sop, gop, nop, qmv, qsg, qex, qld, qcl, qln, qix, qbo, qt, qi]
    simp -implicitDefEqProofs only [go_sem, simprocAttr]
    refine callY [.nil] [] (by simp -implicitDefEqProofs only [go_sem, simprocAttr, yN]) (by rfl) (by simp -implicitDefEqProofs only [go_sem, simprocAttr, setsF, List.map_cons, List.map_nil, itS]; rfl) ?_ ?_
    · simp -implicitDefEqProofs only [go_sem, simprocAttr, retY]
    · simp -implicitDefEqProofs only [go_sem, simprocAttr, retY]
  | m + 1, s, l, hs, hl, hm => by
    have ne : (((m + 1 : Nat) : Int) == 0) = false := by simp; omega
    rcases ls_cases hs with ⟨f, rfl⟩ | ⟨rfl, e⟩
    · have w0 : IntKind.i64.wrap (((m + 1 : Nat) : Int) - 1) = (m : Nat) := by rw [wr _ (by omega) (by omega)]; omega
      have e3 : ∀ x ∈ ints l, x.cells.length = 1 := fun x hx => (ints_elem l x hx).1
      refine seq_intro Go.Proofs.Try.func129 rfl (by kernel_rfl) mix (k129 0) (Nat.le_of_ble_eq_true (by kernel_rfl)) ?_
      refine Abs.walk ?_
      dsimp only [c129, sop, gop, nop, qmv, qsg, qex, qld, qcl, qln, qix, qbo, qt, qi]
      simp -implicitDefEqProofs only [go_sem, simprocAttr, ne]
      refine lpL (β := Unit) 12 [4, 5] 12 [4] l (by omega) (fun xs k _ => l.drop k = xs) (fun k _ ρ h => ρ 12 = .fv (.int (k : Nat)) ∧ h.y = some ((setsF (m + 1) (l.drop k)).map itS) ∧ h.gen 1000000000 = 0) () rfl ?_ ?_ ?_
      · simp -implicitDefEqProofs only [go_sem, simprocAttr]
      · rintro _ ρ h _ ⟨r12, hy, gy⟩
        simp -implicitDefEqProofs only [go_sem, simprocAttr, r12]
        rw [List.drop_length] at hy
        simp -implicitDefEqProofs only [go_sem, simprocAttr, retY, hy, setsF, List.map_nil]
      · rintro x xs k _ ρ h hx hk hm' hk' hw ed ⟨r12, hy, gy⟩
        have d1 : l.drop (k + 1) = xs := by have := congrArg List.tail ed; simpa using this
        rw [ed, setsF, List.map_append, List.map_map] at hy
        have k2 : (k : Int) + 1 ≤ (l.length : Nat) := by omega
        have k2' : ((k + 1 : Nat) : Int) ≤ (l.length : Nat) := by omega
        have k3 : ((k : Int) + 1).toNat = k + 1 := by omega
        have k4 : (0 : Int) ≤ (k : Int) + 1 := by omega
        have e4 : (ints l).drop (k + 1) = ints xs := by rw [← d1]; simp [ints]
        have e5 : (ints l).take l.length = ints l := List.take_of_length_le (by simp [ints])
        have ih := t129 m (s := .list f (ints xs)) (l := xs) rfl (by have := congrArg List.length d1; simp at this; omega) (by omega)
        simp -implicitDefEqProofs only [go_sem, simprocAttr, r12, hk', w0, hw, Option.elim, k2, k2', k3, k4, eq_true e3, implies_true, ints_length, e4, e5, Int.le_refl]
        refine call1 [] false (t117 (m := (m : Int)) (s := .list f (ints xs)) (l := xs) rfl) ?_
        simp -implicitDefEqProofs only [go_sem, simprocAttr]
        refine rgH 22 [] [] ((setsF m xs).map itS) (argSq (by rfl) ih) (β := List (List Int)) (fun ys a => ys = a.map itS ∧ ∀ z ∈ a, z ∈ setsF m xs) (fun ys a h => h.y = some ((a.map fun z => itS (x :: z)) ++ (setsF (m + 1) xs).map itS) ∧ h.gen 1000000000 = 0) (setsF m xs) ⟨rfl, fun _ h => h⟩ ?_ ?_ ?_
        · simp -implicitDefEqProofs only [go_sem, simprocAttr, hy, gy]
          rfl
        · rintro a k' ⟨e1, _⟩ ⟨hy', gy'⟩
          obtain rfl : a = [] := by cases a <;> simp_all
          simp -implicitDefEqProofs only [go_sem, simprocAttr, r12, hw]
          refine nxtL () d1 ?_
          rw [d1]
          simp -implicitDefEqProofs only [go_sem, simprocAttr, gy', hy', List.nil_append]
        · rintro y ys a k' ⟨e1, e2⟩ ⟨hy', gy'⟩
          obtain ⟨z, zs, rfl⟩ : ∃ z zs, a = z :: zs := by
            cases a with
            | nil => simp at e1
            | cons z zs => exact ⟨z, zs, rfl⟩
          simp only [List.map_cons, List.cons.injEq] at e1
          obtain ⟨rfl, rfl⟩ := e1
          have hz := setsF_len m xs z (e2 z (by simp))
          refine ⟨rfl, ?_⟩
          simp -implicitDefEqProofs only [go_sem, simprocAttr, itS]
          refine W_opsD _ _ _ (Vs [[], [], [], [], [], [], [], [30], [30]]) ?_ ?_
          · decide
          have e6 : ((ints l).take (k + 1)).drop k = [.int x] := by
            have : ((l.take (k + 1)).drop k) = [x] := by rw [List.drop_take, ed]; simp
            unfold ints
            rw [← List.map_take, ← List.map_drop, this]; rfl
          have k5 : ((k : Int)).toNat = k := by omega
          have k6 : (k : Int) ≤ ((k + 1 : Nat) : Int) := by omega
          have k7 : ((k + 1 : Nat) : Int).toNat = k + 1 := by omega
          simp -implicitDefEqProofs only [go_sem, simprocAttr, hw, Option.elim, k2', k5, k6, k7, eq_true e3, implies_true, e6, ls_cells (lsOf_lstN (ints z)), ls_fone (lsOf_lstN (ints z))]
          refine callD [30] false [.fo (.list false [.list (f && decide (((k + 1 : Nat) : Int) = (l.length : Int))) [.int x], lstN (ints z)])] [] (t123 (a := [x]) (b := z) rfl (lsOf_lstN _) (by simp) (by simp) (by omega)) ⟨by simp -implicitDefEqProofs only [go_sem, simprocAttr], trivial⟩ rfl (.inl rfl) ?_
          simp -implicitDefEqProofs only [go_sem, simprocAttr]
          refine callY (itS (x :: z)) ((zs.map fun z => itS (x :: z)) ++ (setsF (m + 1) xs).map itS) (by simp -implicitDefEqProofs only [go_sem, simprocAttr, yN, gy']) (by rfl) (by simp -implicitDefEqProofs only [go_sem, simprocAttr, hy', List.map_cons, List.cons_append]) ?_ ?_
          · simp -implicitDefEqProofs only [go_sem, simprocAttr]
            refine ⟨zs, ⟨rfl, fun q hq => e2 q (by simp [hq])⟩, ?_⟩
            simp -implicitDefEqProofs only [go_sem, simprocAttr, gy']
            rfl
          · simp -implicitDefEqProofs only [go_sem, simprocAttr, retY]
    · have : l = [] := by simpa [ints] using e
      subst this
      refine seq_intro Go.Proofs.Try.func129 rfl (by kernel_rfl) mix (k129 0) (Nat.le_of_ble_eq_true (by kernel_rfl)) ?_
      refine Abs.walk ?_
      dsimp only [c129, sop, gop, nop, qmv, qsg, qex, qld, qcl, qln, qix, qbo, qt, qi]
      simp -implicitDefEqProofs only [go_sem, simprocAttr, ne]
      refine lp (n := 1) (lpStep ?_)
      simp -implicitDefEqProofs only [go_sem, simprocAttr, retY, setsF, List.map_nil]
end S04

namespace S04
open Go Abs
def allF (n : Nat) : Nat → Nat → List (List Int)
  | _, 0 => []
  | m, k + 1 => setsF m (numF n) ++ allF n (m + 1) k
def fewF (n : Nat) (p : List Int → Bool) : Option (List Int) := (allF n 0 (n + 1)).find? p
def optN : Option (List Int) → FV
  | some l => lstN (ints l)
  | none => .nil
theorem allF_mem {n : Nat} : ∀ (k m : Nat) (x : List Int), x ∈ allF n m k → x.length < m + k ∧ ∀ y ∈ x, y ∈ numF n
  | 0, _, x, h => by simp [allF] at h
  | k + 1, m, x, h => by
    simp only [allF, List.mem_append] at h
    rcases h with h | h
    · have := setsF_len m _ x h
      exact ⟨by omega, this.2⟩
    · have := allF_mem k (m + 1) x h
      exact ⟨by omega, this.2⟩
theorem a90 {n : Nat} (hn : n ≤ 20) {f : Nat} {caps : List LV} {cs : List FV} {p : List Int → Bool} {h0 : AH} (hc : ∀ h', OffH 1000 [] h0 h' → mapO (peek (fun _ => true) h' 6) caps = some cs)
    (hg : ∀ l ∈ allF n 0 (n + 1), Fn Q f (.fo (lstN (ints l)) :: cs.map .fo) (.one (.fx (.bool (p l))))) :
    AC Q 90 [.fv (.int (n : Int)), .clos f caps] h0 fun lv h' => OffH 1000 [] h0 h' ∧ lv = .tup [.fv (optN (fewF n p)), .fv (.bool (fewF n p).isSome)] := by
  have c118 := t118 (n := n) (by omega)
  have hN := lsOf_lstN (ints (numF n))
  have lN := numF_len n
  generalize lstN (ints (numF n)) = sN at hN c118
  have w1 : IntKind.i64.wrap ((n : Int) + 1) = ((n + 1 : Nat) : Int) := wr _ (by omega) (by omega)
  refine ac_intro (nb := 1000) Go.Proofs.Try.func90 rfl (by kernel_rfl) mix (k90 1000) (Nat.le_of_ble_eq_true (by kernel_rfl)) ?_
  refine Abs.walk ?_
  dsimp only [c90, sop, gop, nop, qmv, qsg, qex, qld, qcl, qln, qix, qbo, qt, qi]
  simp -implicitDefEqProofs only [go_sem, simprocAttr, w1]
  refine lpH 10 [6, 7] 1010 [1004, 1005] (fun k : Nat => n + 1 - k) (fun k => k ≤ n + 1 ∧ (allF n k (n + 1 - k)).find? p = fewF n p ∧ ∀ l ∈ allF n k (n + 1 - k), Fn Q f (.fo (lstN (ints l)) :: cs.map .fo) (.one (.fx (.bool (p l))))) (fun k ρ h => ρ 10 = .fv (.int (k : Nat)) ∧ h.gen 1004 = h0.gen 1004 + 1 ∧ h.gen 1005 = h0.gen 1005 + 1 ∧ h.obj 1004 = some (.box [.fv .nil]) ∧ h.obj 1005 = some (.box [.fv (.bool false)])) 0 ⟨Nat.zero_le _, rfl, hg⟩ ?_ ?_
  · simp -implicitDefEqProofs only [go_sem, simprocAttr]
  · rintro k ρ h ⟨kl, ef, hg'⟩ ⟨r10, g4, g5, o4, o5⟩
    by_cases hk : k < n + 1
    · have hk' : (k : Int) < ((n + 1 : Nat) : Int) := by omega
      have hw : IntKind.i64.wrap ((k : Int) + 1) = ((k + 1 : Nat) : Int) := wr _ (by omega) (by omega)
      obtain ⟨j, hj⟩ : ∃ j, n + 1 - k = j + 1 := ⟨n - k, by omega⟩
      have hj' : n + 1 - (k + 1) = j := by omega
      rw [hj, allF] at ef hg'
      have c129 := t129 k hN (by omega) (by omega)
      simp -implicitDefEqProofs only [go_sem, simprocAttr, r10, hk']
      refine call1 [] false (c118) ?_
      simp -implicitDefEqProofs only [go_sem, simprocAttr]
      refine call1 [] false (t117 (m := (k : Int)) hN) ?_
      simp -implicitDefEqProofs only [go_sem, simprocAttr]
      refine rgH 1017 [] [] ((setsF k (numF n)).map itS) (argSq (by rfl) c129) (β := List (List Int)) (fun ys a => ys = a.map itS ∧ (a ++ allF n (k + 1) j).find? p = fewF n p ∧ ∀ l ∈ a ++ allF n (k + 1) j, Fn Q f (.fo (lstN (ints l)) :: cs.map .fo) (.one (.fx (.bool (p l))))) (fun ys a h => True) (setsF k (numF n)) ⟨rfl, ef, hg'⟩ trivial ?_ ?_
      · rintro a k' ⟨e1, e2, e3⟩ _
        obtain rfl : a = [] := by cases a <;> simp_all
        rw [List.nil_append] at e2 e3
        simp -implicitDefEqProofs only [go_sem, simprocAttr, r10, hw]
        refine nxt (k + 1) (by omega) ⟨hk, by rw [hj']; exact e2, by rw [hj']; exact e3⟩ ?_
        simp -implicitDefEqProofs only [go_sem, simprocAttr, g4, g5, o4, o5]
      · rintro y ys a k' ⟨e1, e2, e3⟩ _
        obtain ⟨z, zs, rfl⟩ : ∃ z zs, a = z :: zs := by
          cases a with
          | nil => simp at e1
          | cons z zs => exact ⟨z, zs, rfl⟩
        simp only [List.map_cons, List.cons.injEq] at e1
        obtain ⟨rfl, rfl⟩ := e1
        have gz := e3 z (by simp)
        refine ⟨rfl, ?_⟩
        have fz := ls_lcells (lsOf_lstN (ints z))
        have oz := ls_one (lsOf_lstN (ints z))
        cases hz : p z
        · rw [hz] at gz
          rw [List.cons_append, List.find?_cons, hz] at e2
          simp -implicitDefEqProofs only [go_sem, simprocAttr, itS]
          refine callF [] true [.fo (lstN (ints z))] cs gz ⟨rfl, trivial⟩ (hc _ (by simp -implicitDefEqProofs only [go_sem, simprocAttr])) (.inr rfl) ?_
          simp -implicitDefEqProofs only [go_sem, simprocAttr]
          refine ⟨zs, rfl, e2, fun l hl => e3 l (by simp at hl ⊢; exact .inr hl)⟩
        · rw [hz] at gz
          rw [List.cons_append, List.find?_cons, hz] at e2
          simp -implicitDefEqProofs only [go_sem, simprocAttr, itS]
          refine callF [] true [.fo (lstN (ints z))] cs gz ⟨rfl, trivial⟩ (hc _ (by simp -implicitDefEqProofs only [go_sem, simprocAttr])) (.inr rfl) ?_
          simp -implicitDefEqProofs only [go_sem, simprocAttr, g4, g5, o4, o5, fz, oz]
          simp -implicitDefEqProofs only [go_sem, simprocAttr, resLV, ← e2, optN, Option.isSome]
    · have hk' : ¬ ((k : Int) < ((n + 1 : Nat) : Int)) := by omega
      obtain rfl : k = n + 1 := by omega
      rw [Nat.sub_self, allF, List.find?_nil] at ef
      simp -implicitDefEqProofs only [go_sem, simprocAttr, r10, hk', g4, g5, o4, o5]
      simp -implicitDefEqProofs only [go_sem, simprocAttr, resLV, ← ef, optN, Option.isSome]
end S04

