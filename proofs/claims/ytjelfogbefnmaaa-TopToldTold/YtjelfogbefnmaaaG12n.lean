/- A part of the proof: G12n, G12o. -/
import Derived.Test.YtjelfogbefnmaaaG12m
set_option linter.unusedVariables false
set_option linter.unusedSimpArgs false
set_option maxRecDepth 20000
namespace S12
open Go Abs
def kb : FV := .agg [.list false [.int 100], .list false [entF (3, 40), entF (8, -20)], .list false [recF false 2 3], .list false [entF (4, 10)]]
theorem kb_vb : VB kb 100 2 3 [(3, 40), (8, -20)] [(4, 10)] := by
  refine ⟨⟨by simp, by simp, false, false, false, _, _, rfl, rfl, rfl⟩, by decide, by decide, by simp, by simp, by decide, by decide, by decide, by decide, ?_, ?_⟩
  · intro e he
    simp at he
    rcases he with rfl | rfl <;> decide
  · intro e he
    simp at he
    subst he; decide
theorem t13 : Fn Q 13 [] (.one (.fx (.bool true))) := by
  have c := t10 kb_vb
  have e : lft 100 2 3 [(3, 40), (8, -20)] [(4, 10)] 365 = span 90 100 := rfl
  rw [e] at c
  refine fn_intro Go.Proofs.Try.func13 rfl (by kernel_rfl) mix (k13 0) (Nat.le_of_ble_eq_true (by kernel_rfl)) ?_
  refine Abs.walk ?_
  unfold c13
  simp -implicitDefEqProofs only [go_sem, simprocAttr]
  refine callF [] false [.fo (.int 2), .fo (.int 3)] [] (t6 2 3) ⟨rfl, rfl, trivial⟩ rfl (.inl rfl) ?_
  simp -implicitDefEqProofs only [go_sem, simprocAttr, span]
  refine callF [6, 9, 13, 15] false [.fo kb] [] c ⟨by simp -implicitDefEqProofs only [go_sem, simprocAttr]; rfl, trivial⟩ rfl (.inl rfl) ?_
  simp -implicitDefEqProofs only [go_sem, simprocAttr, span]
  refine callF [23] false [.fo (.int 10), .fo (.list false prt)] [] t29 ⟨rfl, by simp -implicitDefEqProofs only [go_sem, simprocAttr]; rfl, trivial⟩ rfl (.inl rfl) ?_
  simp -implicitDefEqProofs only [go_sem, simprocAttr]
  refine W_opsD _ _ _ (Vs []) ?_ ?_
  · decide
  simp -implicitDefEqProofs only [go_sem, simprocAttr]
  refine callD [] false [.fo (.int 90), .fo (.int 100)] [] (t6 90 100) ⟨rfl, rfl, trivial⟩ rfl (.inl rfl) ?_
  simp -implicitDefEqProofs only [go_sem, simprocAttr, span, eqV, eqCells, Bool.and_self, beq_self_eq_true]
  refine callF [] true [.fo (.list false [.int 1, .int 3, .int 6]), .fo (.list false [.int 1, .int 3, .int 6])] [] t30 ⟨rfl, by rfl, trivial⟩ rfl (.inr rfl) ?_
  simp -implicitDefEqProofs only [go_sem, simprocAttr]
  exact ret_fv
end S12

namespace S12
open Go Abs
theorem mkM_bd : ∀ (l : List Int) (i : Int), 0 ≤ i → (∀ x ∈ l, 0 ≤ x) → i + l.length ≤ 10 → ∀ e ∈ mkM l i, 0 ≤ e.1 ∧ e.1 ≤ 365 ∧ 1 ≤ e.2 ∧ e.2 ≤ 100
  | [], _, _, _, _ => by simp [mkM]
  | x :: l, i, h0, hx, hi => by
    intro e he
    simp only [mkM, List.mem_cons] at he
    have h1 := nf_bd (hx x (by simp))
    simp only [List.length_cons] at hi
    rcases he with rfl | he
    · refine ⟨?_, ?_, h1.1, h1.2⟩
      · dsimp only; omega
      · dsimp only; push_cast at hi; omega
    · exact mkM_bd l (i + 1) (by omega) (fun y hy => hx y (by simp [hy])) (by push_cast at hi; omega) e he
theorem mkM_len : ∀ (l : List Int) (i : Int), (mkM l i).length = l.length
  | [], _ => rfl
  | x :: l, i => by simp [mkM, mkM_len l (i + 1)]
/-- What the law computes. -/
structure Plain (st lo hi : Int) (ns : List Int) (ms : List (Int × Int)) : Prop where
  left : lft st lo hi [] ms 365 = span (st - tot ns * hi) (st - tot ns * lo)
  sure : (lowF st lo hi [] ms 0 366 (-1)).1 = if doneF lo ns st 0 < ns.length then 2 * (doneF lo ns st 0 : Int) else -1
  poss : (lowF st lo hi [] ms 0 366 (-1)).2 = if doneF hi ns st 0 < ns.length then 2 * (doneF hi ns st 0 : Int) else -1
theorem doneF_le (c : Int) : ∀ (ns : List Int) (l : Int) (m : Nat), doneF c ns l m ≤ m + ns.length
  | [], _, _ => by simp [doneF]
  | n :: ns, l, m => by
    simp only [doneF]
    split
    · omega
    · have := doneF_le c ns (l - n * c) (m + 1); simp; omega
theorem tot_bd : ∀ (l : List Int), (∀ n ∈ l, 1 ≤ n ∧ n ≤ 100) → 0 ≤ tot l ∧ tot l ≤ 100 * l.length
  | [], _ => by simp [tot]
  | n :: l, h => by
    have h1 := h n (by simp)
    have h2 := tot_bd l fun x hx => h x (by simp [hx])
    simp only [tot, List.length_cons]
    push_cast
    omega
theorem t3 {a b c : Int} {s : FV} {fl : List Int} (hs : lsOf s = some (fl.map u8)) (hf : ∀ x ∈ fl, 0 ≤ x ∧ x < 256) (hl : fl.length ≤ 9223372036854775807) (a0 : 0 ≤ a) (a1 : a < 256) (b0 : 0 ≤ b) (b1 : b < 256) (c0 : 0 ≤ c) (c1 : c < 65536)
    (pl : Plain (c.tmod 9000) (a.tmod 12) (a.tmod 12 + b.tmod 8) ((fl.take 6).map nf) (mkM (fl.take 6) 0)) : Fn Q 3 [.fo (.agg [u8 a, u8 b]), .fo s, .fo (.val (.int .u16 c))] (.one (.fx (.bool true))) := by
  have l1 := Int.tmod_nonneg 12 a0
  have l2 := Int.tmod_lt_of_pos a (show (0 : Int) < 12 by decide)
  have l3 := Int.tmod_nonneg 8 b0
  have l4 := Int.tmod_lt_of_pos b (show (0 : Int) < 8 by decide)
  have l5 := Int.tmod_nonneg 9000 c0
  have l6 := Int.tmod_lt_of_pos c (show (0 : Int) < 9000 by decide)
  have w1 : IntKind.i64.wrap a = a := wr _ (by omega) (by omega)
  have w2 : IntKind.i64.wrap b = b := wr _ (by omega) (by omega)
  have w3 : IntKind.i64.wrap c = c := wr _ (by omega) (by omega)
  have w4 : IntKind.i64.wrap (a.tmod 12 + b.tmod 8) = a.tmod 12 + b.tmod 8 := wr _ (by omega) (by omega)
  refine fn_intro Go.Proofs.Try.func3 rfl (by kernel_rfl) mix (k3 0) (Nat.le_of_ble_eq_true (by kernel_rfl)) ?_
  refine Abs.walk ?_
  unfold c3
  simp -implicitDefEqProofs only [go_sem, simprocAttr, u8, w1, w2, w3]
  generalize hst : c.tmod 9000 = st at *
  generalize hlo : a.tmod 12 = lo at *
  generalize hhi : lo + b.tmod 8 = hi at *
  have v : VS lo hi := ⟨l1, by omega, by omega⟩
  generalize hns : (fl.take 6).map nf = ns at *
  generalize hms : mkM (fl.take 6) 0 = ms at *
  have hn : ∀ n ∈ ns, 1 ≤ n ∧ n ≤ 100 := by
    intro n hn; rw [← hns] at hn
    obtain ⟨x, hx, rfl⟩ := List.mem_map.1 hn
    exact nf_bd (hf x (List.mem_of_mem_take hx)).1
  have hnl : ns.length ≤ 6 := by rw [← hns]; simp; omega
  have hml : ms.length ≤ 6 := by rw [← hms, mkM_len]; simp; omega
  have hm : ∀ e ∈ ms, 0 ≤ e.1 ∧ e.1 ≤ 365 ∧ 1 ≤ e.2 ∧ e.2 ≤ 100 := by
    rw [← hms]
    refine mkM_bd _ 0 (by omega) (fun x hx => (hf x (List.mem_of_mem_take hx)).1) ?_
    simp; omega
  have hjb : (fl.take 6).map jobF = ns.map jb := by rw [← hns, List.map_map]; rfl
  have bk : Book (.agg [.list false [.int st], .nil, .list false [recF false lo hi], lstN (ms.map entF)]) st lo hi [] ms :=
    ⟨by simp, by omega, false, false, false, _, _, rfl, rfl, lsOf_lstN _⟩
  have vb : VB (bookF st lo hi [] ms) st lo hi [] ms :=
    ⟨⟨by simp, by omega, false, false, false, _, _, rfl, rfl, rfl⟩, l5, by omega, by simp, by omega, l1, by omega, by omega, by omega, by simp, hm⟩
  have q5 := t5 lo hi st s fl hs hf hl
  rw [hjb, hms] at q5
  have q11 := t11 bk
  have q10 := t10 vb
  have q12 := t12 vb
  obtain ⟨pl1, pl2, pl3⟩ := pl
  rw [pl1] at q10
  rw [pl2, pl3] at q12
  have q7 := t7 v (js := .list false (ns.map jb)) rfl hn hnl
  have q9 := t9 v (js := .list false (ns.map jb)) (f := false) (bar := st) rfl hn hnl l5 (by omega)
  have o1 : (LV.fv (lstN (ms.map entF))).one = true := by cases ms <;> rfl
  have hjc : ∀ x ∈ ns.map jb, x.cells.length = 2 := map_cells _ fun _ => rfl
  have hd1 := doneF_le lo ns st 0
  have hd2 := doneF_le hi ns st 0
  have hS := tot_bd ns hn
  generalize lstN (ms.map entF) = sm at *
  generalize doneF lo ns st 0 = dl at *
  generalize doneF hi ns st 0 = dh at *
  generalize tot ns = S at *
  generalize bookF st lo hi [] ms = bf at *
  generalize hjl : ns.map jb = jl at *
  have hjn : jl.length = ns.length := by rw [← hjl]; simp
  generalize hN : ns.length = N at *
  have m1 : 0 ≤ S * lo := Int.mul_nonneg hS.1 l1
  have m2 : 0 ≤ S * hi := Int.mul_nonneg hS.1 (by omega)
  have m3 : S * lo ≤ 600 * 20 := Int.mul_le_mul (by omega) (by omega) l1 (by omega)
  have m4 : S * hi ≤ 600 * 20 := Int.mul_le_mul (by omega) (by omega) (by omega) (by omega)
  have w5 : IntKind.i64.wrap (st - S * lo) = st - S * lo := wr _ (by omega) (by omega)
  have w6 : IntKind.i64.wrap (st - S * hi) = st - S * hi := wr _ (by omega) (by omega)
  have w7 : IntKind.i64.wrap (2 * (dl : Int)) = 2 * dl := wr _ (by omega) (by omega)
  have w8 : IntKind.i64.wrap (2 * (dh : Int)) = 2 * dh := wr _ (by omega) (by omega)
  simp -implicitDefEqProofs only [go_sem, simprocAttr, w4, hhi]
  refine callF [] false [.fo (.int lo), .fo (.int hi)] [] (t6 lo hi) ⟨rfl, rfl, trivial⟩ rfl (.inl rfl) ?_
  simp -implicitDefEqProofs only [go_sem, simprocAttr]
  refine callF [] false [.fo (span lo hi), .fo (.int st), .fo s] [] q5 ⟨rfl, rfl, rfl, trivial⟩ rfl (.inl rfl) ?_
  simp -implicitDefEqProofs only [go_sem, simprocAttr, works, o1, recF, span]
  refine callF [] false [.fo (works lo hi)] [] (t8 lo hi) ⟨rfl, trivial⟩ rfl (.inl rfl) ?_
  simp -implicitDefEqProofs only [go_sem, simprocAttr, works]
  refine app_gl (by rfl) idx_28 (by rfl) hjc (by simp -implicitDefEqProofs only [go_sem, simprocAttr]) (by simp [byt_54]; omega) (by simp [maxLen]; omega) (by simp) ?_
  simp -implicitDefEqProofs only [go_sem, simprocAttr]
  refine callF [49] false [.fo (works lo hi), .fo (.list false jl)] [] q7 ⟨rfl, by first | rfl | (simp -implicitDefEqProofs only [go_sem, simprocAttr]; done) | (simp -implicitDefEqProofs only [go_sem, simprocAttr]; rfl), trivial⟩ rfl (.inl rfl) ?_
  simp -implicitDefEqProofs only [go_sem, simprocAttr, works, span]
  refine callF [59] false [.fo (works lo hi), .fo (.list false jl), .fo (.list false [.int st])] [] q9 ⟨rfl, rfl, by first | rfl | (simp -implicitDefEqProofs only [go_sem, simprocAttr]; done) | (simp -implicitDefEqProofs only [go_sem, simprocAttr]; rfl), trivial⟩ rfl (.inl rfl) ?_
  simp -implicitDefEqProofs only [go_sem, simprocAttr]
  refine callF [] false [.fo (.agg [.list false [.int st], .nil, .list false [recF false lo hi], sm])] [] q11 ⟨rfl, trivial⟩ rfl (.inl rfl) ?_
  simp -implicitDefEqProofs only [go_sem, simprocAttr]
  refine callF [] false [.fo bf] [] q10 ⟨rfl, trivial⟩ rfl (.inl rfl) ?_
  simp -implicitDefEqProofs only [go_sem, simprocAttr, span]
  refine callF [] false [.fo (.agg [.list false [.int st], .nil, .list false [recF false lo hi], sm])] [] q11 ⟨rfl, trivial⟩ rfl (.inl rfl) ?_
  simp -implicitDefEqProofs only [go_sem, simprocAttr]
  refine callF [] false [.fo bf, .fo (.int 0)] [] q12 ⟨rfl, rfl, trivial⟩ rfl (.inl rfl) ?_
  simp -implicitDefEqProofs only [go_sem, simprocAttr]
  refine W_opsD _ _ _ (Vs []) ?_ ?_
  · decide
  simp -implicitDefEqProofs only [go_sem, simprocAttr, w5, w6]
  refine callD [] false [.fo (.int (st - S * hi)), .fo (.int (st - S * lo))] [] (t6 _ _) ⟨rfl, rfl, trivial⟩ rfl (.inl rfl) ?_
  have k1' : ((dl : Int) < (jl.length : Nat)) = (dl < N) := by rw [hjn]; simp
  have k2' : ((dh : Int) < (jl.length : Nat)) = (dh < N) := by rw [hjn]; simp
  by_cases k1 : dl < N
  all_goals
    by_cases k2 : dh < N
    all_goals
      simp only [k1, k2, if_true, if_false] at q12
      simp -implicitDefEqProofs only [go_sem, simprocAttr, span, eqV, eqCells, beq_self_eq_true, bne, k1', k2', k1, k2, w7, w8]
      refine callF [] false [] [] t13 trivial rfl (.inl rfl) ?_
      simp -implicitDefEqProofs only [go_sem, simprocAttr]
      exact ret_fv
end S12

