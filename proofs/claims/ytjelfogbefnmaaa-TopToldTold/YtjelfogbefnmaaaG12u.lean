/- A part of the proof: G12u, G12v. -/
import Derived.Test.YtjelfogbefnmaaaG12s
set_option linter.unusedVariables false
set_option linter.unusedSimpArgs false
set_option maxRecDepth 20000
namespace S12
open Go Abs
/-- What scan has seen below k. -/
def seen (X F k : Int) : Bool × Int × Int := if X ≤ (if F < k - 1 then F else k - 1) then (true, X, (if F < k - 1 then F else k - 1)) else (false, 0, 0)
theorem in_iff {a b n k : Int} (n0 : 1 ≤ n) (a0 : 0 ≤ a) (b0 : 0 ≤ b) : inB (9000 - b) (9000 - a) (9000 - k * n) = (decide ((a + n - 1).tdiv n ≤ k) && decide (k ≤ b.tdiv n)) := by
  rw [Int.tdiv_eq_ediv_of_nonneg (by omega), Int.tdiv_eq_ediv_of_nonneg b0]
  have h1 : k ≤ b / n ↔ k * n ≤ b := Int.le_ediv_iff_mul_le (by omega)
  have h2 : (a + n - 1) / n < k + 1 ↔ a + n - 1 < (k + 1) * n := Int.ediv_lt_iff_lt_mul (by omega)
  have h3 : (k + 1) * n = k * n + n := by rw [Int.add_mul]; omega
  have e1 : inB (9000 - b) (9000 - a) (9000 - k * n) = (decide (k * n ≤ b) && decide (a ≤ k * n)) := by
    rw [Bool.eq_iff_iff]
    simp only [inB, Bool.not_eq_true', Bool.or_eq_false_iff, decide_eq_false_iff_not, Bool.and_eq_true, decide_eq_true_eq]
    omega
  rw [e1, Bool.eq_iff_iff]
  simp only [Bool.and_eq_true, decide_eq_true_eq]
  rw [h1]
  omega
theorem scan_seen {a b n lo hi : Int} (n0 : 1 ≤ n) (a0 : 0 ≤ a) (b0 : 0 ≤ b) : ∀ (m : Nat) (k : Int), lo ≤ k → k + m = hi + 1 →
    scan (9000 - b) (9000 - a) 9000 n k m (seen (ozL lo n a) (b.tdiv n) k) = seen (ozL lo n a) (b.tdiv n) (hi + 1)
  | 0, k, hk, hm => by
    have : k = hi + 1 := by omega
    subst this; rfl
  | m + 1, k, hk, hm => by
    have ih := scan_seen (lo := lo) (hi := hi) n0 a0 b0 m (k + 1) (by omega) (by omega)
    rw [scan, in_iff n0 a0 b0, ← ih]
    congr 1
    unfold ozL
    generalize (a + n - 1).tdiv n = C
    generalize b.tdiv n = F
    by_cases h1 : C ≤ k
    · by_cases h2 : k ≤ F
      · simp only [h1, h2, decide_true, Bool.and_self, if_true]
        have e1 : (if F < k + 1 - 1 then F else k + 1 - 1) = k := by split <;> omega
        have e2 : (if F < k - 1 then F else k - 1) = k - 1 := by split <;> omega
        generalize hX : (if C > lo then C else lo) = X
        have hXk : X ≤ k := by rw [← hX]; split <;> omega
        have s2 : seen X F (k + 1) = (true, X, k) := by unfold seen; rw [e1, if_pos hXk]
        by_cases h3 : X ≤ k - 1
        · have s1 : seen X F k = (true, X, k - 1) := by unfold seen; rw [e2, if_pos h3]
          rw [s1, s2]
          simp only [sc1, if_true]
          rw [if_neg (by omega), if_pos (by omega)]
        · have s1 : seen X F k = (false, 0, 0) := by unfold seen; rw [e2, if_neg h3]
          rw [s1, s2]
          have : X = k := by omega
          simp [sc1, this]
      · simp only [h1, h2, decide_true, decide_false, Bool.and_false, if_false, Bool.false_eq_true]
        have e1 : (if F < k + 1 - 1 then F else k + 1 - 1) = F := by split <;> omega
        have e2 : (if F < k - 1 then F else k - 1) = F := by split <;> omega
        unfold seen
        rw [e1, e2]
    · simp only [h1, decide_false, Bool.false_and, if_false, Bool.false_eq_true]
      generalize hX : (if C > lo then C else lo) = X
      have hXk : k < X := by rw [← hX]; split <;> omega
      have e1 : ¬ X ≤ (if F < k + 1 - 1 then F else k + 1 - 1) := by split <;> omega
      have e2 : ¬ X ≤ (if F < k - 1 then F else k - 1) := by split <;> omega
      unfold seen
      rw [if_neg e1, if_neg e2]
theorem scan_oz {a b n lo hi : Int} {m : Nat} (n0 : 1 ≤ n) (a0 : 0 ≤ a) (b0 : 0 ≤ b) (hm : lo + m = hi + 1) :
    scan (9000 - b) (9000 - a) 9000 n lo m (false, 0, 0) = if ozO lo hi n a b then (true, ozL lo n a, ozH hi n b) else (false, 0, 0) := by
  have h := scan_seen (lo := lo) (hi := hi) n0 a0 b0 m lo (Int.le_refl _) hm
  have e1 : seen (ozL lo n a) (b.tdiv n) lo = (false, 0, 0) := by
    unfold seen
    rw [if_neg]
    have : lo ≤ ozL lo n a := by unfold ozL; split <;> omega
    split <;> omega
  rw [e1] at h
  rw [h]
  have e2 : hi + 1 - 1 = hi := by omega
  unfold seen
  rw [e2]
  show (if ozL lo n a ≤ ozH hi n b then (true, ozL lo n a, ozH hi n b) else (false, 0, 0)) = _
  by_cases hq : ozL lo n a ≤ ozH hi n b
  · have : ozO lo hi n a b = true := by simp [ozO, hq]
    rw [if_pos hq, if_pos this]
  · have : ¬ ozO lo hi n a b = true := by simp [ozO, hq]
    rw [if_neg hq, if_neg this]
end S12

namespace S12
open Go Abs
def u16 (x : Int) : FV := .val (.int .u16 x)
theorem t4 {a b c d : Int} {s : FV} {fl : List Int} (hs : lsOf s = some (fl.map u8)) (hf : ∀ x ∈ fl, 0 ≤ x ∧ x < 256) (hl : fl.length ≤ 9223372036854775807) (a0 : 0 ≤ a) (a1 : a < 256) (b0 : 0 ≤ b) (b1 : b < 256) (c0 : 0 ≤ c) (c1 : c < 65536) (d0 : 0 ≤ d) (d1 : d < 65536) :
    Fn Q 4 [.fo (.agg [u8 a, u8 b]), .fo s, .fo (.agg [u16 c, u16 d])] (.one (.fx (.bool true))) := by
  have l1 := Int.tmod_nonneg 12 a0
  have l2 := Int.tmod_lt_of_pos a (show (0 : Int) < 12 by decide)
  have l3 := Int.tmod_nonneg 8 b0
  have l4 := Int.tmod_lt_of_pos b (show (0 : Int) < 8 by decide)
  have l5 := Int.tmod_nonneg 4000 c0
  have l6 := Int.tmod_lt_of_pos c (show (0 : Int) < 4000 by decide)
  have l7 := Int.tmod_nonneg 600 d0
  have l8 := Int.tmod_lt_of_pos d (show (0 : Int) < 600 by decide)
  have w1 : IntKind.i64.wrap a = a := wr _ (by omega) (by omega)
  have w2 : IntKind.i64.wrap b = b := wr _ (by omega) (by omega)
  have w3 : IntKind.i64.wrap c = c := wr _ (by omega) (by omega)
  have w3' : IntKind.i64.wrap d = d := wr _ (by omega) (by omega)
  have w4 : IntKind.i64.wrap (a.tmod 12 + b.tmod 8) = a.tmod 12 + b.tmod 8 := wr _ (by omega) (by omega)
  have w5 : IntKind.i64.wrap (c.tmod 4000 + d.tmod 600) = c.tmod 4000 + d.tmod 600 := wr _ (by omega) (by omega)
  have w6 : IntKind.i64.wrap (9000 - (c.tmod 4000 + d.tmod 600)) = 9000 - (c.tmod 4000 + d.tmod 600) := wr _ (by omega) (by omega)
  have w7 : IntKind.i64.wrap (9000 - c.tmod 4000) = 9000 - c.tmod 4000 := wr _ (by omega) (by omega)
  refine fn_intro Go.Proofs.Try.func4 rfl (by kernel_rfl) mix (k4 0) (Nat.le_of_ble_eq_true (by kernel_rfl)) ?_
  refine Abs.walk ?_
  unfold c4
  simp -implicitDefEqProofs only [go_sem, simprocAttr, u8, u16, w1, w2]
  generalize hla : c.tmod 4000 = la at *
  generalize hha : la + d.tmod 600 = ha at *
  generalize hlo : a.tmod 12 = lo at *
  generalize hhi : lo + b.tmod 8 = hi at *
  have v : VS lo hi := ⟨l1, by omega, by omega⟩
  have hS0 : upto 365 (mkM (fl.take 6) 0) = tot ((fl.take 6).map nf) := upto_all _ 0 365 (by simp; omega)
  generalize hns : (fl.take 6).map nf = ns at *
  generalize hms : mkM (fl.take 6) 0 = ms at *
  have hn : ∀ n ∈ ns, 1 ≤ n ∧ n ≤ 100 := by
    intro n hn; rw [← hns] at hn
    obtain ⟨x, hx, rfl⟩ := List.mem_map.1 hn
    exact nf_bd (hf x (List.mem_of_mem_take hx)).1
  have hnl : ns.length ≤ 6 := by rw [← hns]; simp; omega
  have hml : ms.length ≤ 6 := by rw [← hms, mkM_len]; simp; omega
  have hm : ∀ e ∈ ms, 0 ≤ e.1 ∧ e.1 ≤ 365 ∧ 1 ≤ e.2 ∧ e.2 ≤ 100 := by
    rw [← hms]
    refine mkM_bd _ 0 (by omega) (fun x hx => (hf x (List.mem_of_mem_take hx)).1) ?_
    simp; omega
  have hjb : (fl.take 6).map jobF = ns.map jb := by rw [← hns, List.map_map]; rfl
  have bk : Book (.agg [.list false [.int 9000], .nil, .list false [recF false lo hi], lstN (ms.map entF)]) 9000 lo hi [] ms :=
    ⟨by simp, by omega, false, false, false, _, _, rfl, rfl, lsOf_lstN _⟩
  have vb : VB (bookF 9000 lo hi [] ms) 9000 lo hi [] ms :=
    ⟨⟨by simp, by omega, false, false, false, _, _, rfl, rfl, rfl⟩, by omega, by omega, by simp, by omega, l1, by omega, by omega, by omega, by simp, hm⟩
  have q5 := t5 lo hi 9000 s fl hs hf hl
  rw [hjb, hms] at q5
  have q11 := t11 bk
  have hS := tot_bd ns hn
  have o1 : (LV.fv (lstN (ms.map entF))).one = true := by cases ms <;> rfl
  have u0 : ∀ d, upto d [] = 0 := fun d => rfl
  have q15 := fun (r : Bool × Int × Int) (cl ch : Int) (h : okSpan 0 100000 cl ch = true) => t15 vb (m := (hi + 1 - lo).toNat) (by omega) (by simp [u0]) (f := false) cl ch h (r := r)
  have q16 := fun (cl ch : Int) (h : okSpan 0 100000 cl ch = true) => t16 vb (m := (hi + 1 - lo).toNat) (by omega) (by simp [u0]) (f := false) cl ch h
  simp only [u0, hS0, Int.add_zero] at q15 q16
  generalize lstN (ms.map entF) = sm at *
  generalize bookF 9000 lo hi [] ms = bf at *
  have hjc : ∀ x ∈ ns.map jb, x.cells.length = 2 := map_cells _ fun _ => rfl
  simp -implicitDefEqProofs only [go_sem, simprocAttr, w4, hhi]
  refine call0 [] false (t6 lo hi) (by first | exact trivial | exact ⟨rfl, trivial⟩ | exact ⟨rfl, rfl, trivial⟩ | exact ⟨rfl, rfl, rfl, trivial⟩ | exact ⟨rfl, rfl, rfl, rfl, trivial⟩ | exact ⟨rfl, rfl, rfl, rfl, rfl, trivial⟩ | exact ⟨rfl, rfl, rfl, rfl, rfl, rfl, trivial⟩ | exact ⟨rfl, rfl, rfl, rfl, rfl, rfl, rfl, trivial⟩ | exact ⟨rfl, rfl, rfl, rfl, rfl, rfl, rfl, rfl, trivial⟩ | (simp -implicitDefEqProofs only [go_sem, simprocAttr] <;> first | rfl | exact ⟨rfl, rfl⟩ | exact ⟨rfl, rfl, rfl⟩ | exact ⟨rfl, rfl, rfl, rfl⟩)) (.inl rfl) ?_
  simp -implicitDefEqProofs only [go_sem, simprocAttr]
  refine call0 [] false (q5) (by first | exact trivial | exact ⟨rfl, trivial⟩ | exact ⟨rfl, rfl, trivial⟩ | exact ⟨rfl, rfl, rfl, trivial⟩ | exact ⟨rfl, rfl, rfl, rfl, trivial⟩ | exact ⟨rfl, rfl, rfl, rfl, rfl, trivial⟩ | exact ⟨rfl, rfl, rfl, rfl, rfl, rfl, trivial⟩ | exact ⟨rfl, rfl, rfl, rfl, rfl, rfl, rfl, trivial⟩ | exact ⟨rfl, rfl, rfl, rfl, rfl, rfl, rfl, rfl, trivial⟩ | (simp -implicitDefEqProofs only [go_sem, simprocAttr] <;> first | rfl | exact ⟨rfl, rfl⟩ | exact ⟨rfl, rfl, rfl⟩ | exact ⟨rfl, rfl, rfl, rfl⟩)) (.inl rfl) ?_
  simp -implicitDefEqProofs only [go_sem, simprocAttr, works, o1, recF, span]
  refine lpH 40 [8, 12] 40 [] (fun a : List Int × Nat × Int => a.1.length) (fun a => ns.drop a.2.1 = a.1 ∧ a.2.1 ≤ 6 ∧ 0 ≤ a.2.2 ∧ a.2.2 ≤ 100 * a.2.1 ∧ a.2.2 + tot a.1 = tot ns) (fun a ρ h => ρ 8 = .fv (.int a.2.2) ∧ ρ 12 = .fv (.int a.2.1)) (ns, 0, 0) ?_ ?_ ?_
  · simp
  · simp -implicitDefEqProofs only [go_sem, simprocAttr]
  · rintro ⟨ys, k, sm'⟩ ρ h ⟨ed, kb, s0, s1, et⟩ ⟨r8, r12⟩
    dsimp only at ed kb s0 s1 et r8 r12
    cases ys with
    | cons e ys =>
      obtain ⟨d1, d2, d3, d4⟩ := drop_tail ed
      obtain ⟨q1, q2⟩ := hn e d4
      have hk : ((k : Int) < ((ns.map jb).length : Nat)) := by simp; omega
      have d7 : (ns.map jb)[k]? = some (jb e) := by simp [d2]
      have b3 : IntKind.i64.wrap ((k : Int) + 1) = ((k + 1 : Nat) : Int) := wr _ (by omega) (by omega)
      have b4 : IntKind.i64.wrap (sm' + e) = sm' + e := wr _ (by omega) (by omega)
      simp -implicitDefEqProofs only [go_sem, simprocAttr, r8, r12, hk, d7, jb, b3, b4]
      refine nxt (ys, k + 1, sm' + e) (Nat.lt_succ_self _) ⟨d1, by dsimp only; omega, by dsimp only; omega, by dsimp only; omega, by simp only [tot] at et; dsimp only; omega⟩ ?_
      simp -implicitDefEqProofs only [go_sem, simprocAttr]
    | nil =>
      have hk : ¬ ((k : Int) < ((ns.map jb).length : Nat)) := by have := drop_end ed; simp; omega
      have e : sm' = tot ns := by simpa [tot] using et
      subst e
      generalize tot ns = S at *
      by_cases hz : S = 0 ∨ 200 < S
      · have hz1 : (S == 0) = true ∨ ((S == 0) = false ∧ (S > 200) = True) := by
          rcases hz with h | h
          · exact .inl (by simpa using h)
          · exact .inr ⟨by simp; omega, by simpa using h⟩
        rcases hz1 with hz1 | ⟨hz1, hz2⟩
        · simp -implicitDefEqProofs only [go_sem, simprocAttr, r8, r12, hk, hz1]
          refine call0 [] false (t13) (by first | exact trivial | exact ⟨rfl, trivial⟩ | exact ⟨rfl, rfl, trivial⟩ | exact ⟨rfl, rfl, rfl, trivial⟩ | exact ⟨rfl, rfl, rfl, rfl, trivial⟩ | exact ⟨rfl, rfl, rfl, rfl, rfl, trivial⟩ | exact ⟨rfl, rfl, rfl, rfl, rfl, rfl, trivial⟩ | exact ⟨rfl, rfl, rfl, rfl, rfl, rfl, rfl, trivial⟩ | exact ⟨rfl, rfl, rfl, rfl, rfl, rfl, rfl, rfl, trivial⟩ | (simp -implicitDefEqProofs only [go_sem, simprocAttr] <;> first | rfl | exact ⟨rfl, rfl⟩ | exact ⟨rfl, rfl, rfl⟩ | exact ⟨rfl, rfl, rfl, rfl⟩)) (.inl rfl) ?_
          simp -implicitDefEqProofs only [go_sem, simprocAttr]
          exact ret_fv
        · simp -implicitDefEqProofs only [go_sem, simprocAttr, r8, r12, hk, hz1, hz2]
          refine call0 [] false (t13) (by first | exact trivial | exact ⟨rfl, trivial⟩ | exact ⟨rfl, rfl, trivial⟩ | exact ⟨rfl, rfl, rfl, trivial⟩ | exact ⟨rfl, rfl, rfl, rfl, trivial⟩ | exact ⟨rfl, rfl, rfl, rfl, rfl, trivial⟩ | exact ⟨rfl, rfl, rfl, rfl, rfl, rfl, trivial⟩ | exact ⟨rfl, rfl, rfl, rfl, rfl, rfl, rfl, trivial⟩ | exact ⟨rfl, rfl, rfl, rfl, rfl, rfl, rfl, rfl, trivial⟩ | (simp -implicitDefEqProofs only [go_sem, simprocAttr] <;> first | rfl | exact ⟨rfl, rfl⟩ | exact ⟨rfl, rfl, rfl⟩ | exact ⟨rfl, rfl, rfl, rfl⟩)) (.inl rfl) ?_
          simp -implicitDefEqProofs only [go_sem, simprocAttr]
          exact ret_fv
      · have hz1 : (S == 0) = false := by simp; omega
        have hz2 : ¬ S > 200 := by omega
        have vw : VW S la ha := ⟨by omega, by omega, l5, by omega, by omega⟩
        have hc : okSpan 0 100000 (9000 - ha) (9000 - la) = true := by
          simp [okSpan, inB_ok (show 0 ≤ 9000 - ha by omega) (show 9000 - ha ≤ 100000 by omega), inB_ok (show 0 ≤ 9000 - la by omega) (show 9000 - la ≤ 100000 by omega)]; omega
        have q14 := t14 (f := false) v vw
        have hsc := scan_oz (lo := lo) (hi := hi) (m := (hi + 1 - lo).toNat) vw.n0 vw.a0 (show 0 ≤ ha by omega) (by omega)
        have q15' := q15 _ (9000 - ha) (9000 - la) hc hsc
        have q16' := q16 (9000 - ha) (9000 - la) hc
        rw [hsc] at q16'
        cases e : ozO lo hi S la ha
        · have o2 : ozR lo hi S la ha = .nil := by simp [ozR, e]
          simp only [e, o2, if_false, Bool.false_eq_true] at q14 q15' q16'
          simp -implicitDefEqProofs only [go_sem, simprocAttr, r8, r12, hk, hz1, hz2, u16, w3, w3', hla, hha, w5]
          refine call0 [] false (t6 la ha) (by first | exact trivial | exact ⟨rfl, trivial⟩ | exact ⟨rfl, rfl, trivial⟩ | exact ⟨rfl, rfl, rfl, trivial⟩ | exact ⟨rfl, rfl, rfl, rfl, trivial⟩ | exact ⟨rfl, rfl, rfl, rfl, rfl, trivial⟩ | exact ⟨rfl, rfl, rfl, rfl, rfl, rfl, trivial⟩ | exact ⟨rfl, rfl, rfl, rfl, rfl, rfl, rfl, trivial⟩ | exact ⟨rfl, rfl, rfl, rfl, rfl, rfl, rfl, rfl, trivial⟩ | (simp -implicitDefEqProofs only [go_sem, simprocAttr] <;> first | rfl | exact ⟨rfl, rfl⟩ | exact ⟨rfl, rfl, rfl⟩ | exact ⟨rfl, rfl, rfl, rfl⟩)) (.inl rfl) ?_
          simp -implicitDefEqProofs only [go_sem, simprocAttr, span, r8]
          refine call0 [77] false (q14) (by first | exact trivial | exact ⟨rfl, trivial⟩ | exact ⟨rfl, rfl, trivial⟩ | exact ⟨rfl, rfl, rfl, trivial⟩ | exact ⟨rfl, rfl, rfl, rfl, trivial⟩ | exact ⟨rfl, rfl, rfl, rfl, rfl, trivial⟩ | exact ⟨rfl, rfl, rfl, rfl, rfl, rfl, trivial⟩ | exact ⟨rfl, rfl, rfl, rfl, rfl, rfl, rfl, trivial⟩ | exact ⟨rfl, rfl, rfl, rfl, rfl, rfl, rfl, rfl, trivial⟩ | (simp -implicitDefEqProofs only [go_sem, simprocAttr] <;> first | rfl | exact ⟨rfl, rfl⟩ | exact ⟨rfl, rfl, rfl⟩ | exact ⟨rfl, rfl, rfl, rfl⟩)) (.inl rfl) ?_
          simp -implicitDefEqProofs only [go_sem, simprocAttr, w6, w7]
          refine call0 [] false (t6 (9000 - ha) (9000 - la)) (by first | exact trivial | exact ⟨rfl, trivial⟩ | exact ⟨rfl, rfl, trivial⟩ | exact ⟨rfl, rfl, rfl, trivial⟩ | exact ⟨rfl, rfl, rfl, rfl, trivial⟩ | exact ⟨rfl, rfl, rfl, rfl, rfl, trivial⟩ | exact ⟨rfl, rfl, rfl, rfl, rfl, rfl, trivial⟩ | exact ⟨rfl, rfl, rfl, rfl, rfl, rfl, rfl, trivial⟩ | exact ⟨rfl, rfl, rfl, rfl, rfl, rfl, rfl, rfl, trivial⟩ | (simp -implicitDefEqProofs only [go_sem, simprocAttr] <;> first | rfl | exact ⟨rfl, rfl⟩ | exact ⟨rfl, rfl, rfl⟩ | exact ⟨rfl, rfl, rfl, rfl⟩)) (.inl rfl) ?_
          simp -implicitDefEqProofs only [go_sem, simprocAttr, span, o1]
          refine call0 [] false (q11) (by first | exact trivial | exact ⟨rfl, trivial⟩ | exact ⟨rfl, rfl, trivial⟩ | exact ⟨rfl, rfl, rfl, trivial⟩ | exact ⟨rfl, rfl, rfl, rfl, trivial⟩ | exact ⟨rfl, rfl, rfl, rfl, rfl, trivial⟩ | exact ⟨rfl, rfl, rfl, rfl, rfl, rfl, trivial⟩ | exact ⟨rfl, rfl, rfl, rfl, rfl, rfl, rfl, trivial⟩ | exact ⟨rfl, rfl, rfl, rfl, rfl, rfl, rfl, rfl, trivial⟩ | (simp -implicitDefEqProofs only [go_sem, simprocAttr] <;> first | rfl | exact ⟨rfl, rfl⟩ | exact ⟨rfl, rfl, rfl⟩ | exact ⟨rfl, rfl, rfl, rfl⟩)) (.inl rfl) ?_
          simp -implicitDefEqProofs only [go_sem, simprocAttr]
          refine app_gl (by simp -implicitDefEqProofs only [go_sem, simprocAttr]; rfl) idx_40 (by simp -implicitDefEqProofs only [go_sem, simprocAttr]; rfl) (by simp [FV.cells]) (by simp -implicitDefEqProofs only [go_sem, simprocAttr]) (by simp -implicitDefEqProofs only [go_sem, simprocAttr]) (by simp [maxLen]) (by simp) ?_
          simp -implicitDefEqProofs only [go_sem, simprocAttr]
          refine call0 [92] false (q15') (by first | exact trivial | exact ⟨rfl, trivial⟩ | exact ⟨rfl, rfl, trivial⟩ | exact ⟨rfl, rfl, rfl, trivial⟩ | exact ⟨rfl, rfl, rfl, rfl, trivial⟩ | exact ⟨rfl, rfl, rfl, rfl, rfl, trivial⟩ | exact ⟨rfl, rfl, rfl, rfl, rfl, rfl, trivial⟩ | exact ⟨rfl, rfl, rfl, rfl, rfl, rfl, rfl, trivial⟩ | exact ⟨rfl, rfl, rfl, rfl, rfl, rfl, rfl, rfl, trivial⟩ | (simp -implicitDefEqProofs only [go_sem, simprocAttr] <;> first | rfl | exact ⟨rfl, rfl⟩ | exact ⟨rfl, rfl, rfl⟩ | exact ⟨rfl, rfl, rfl, rfl⟩)) (.inl rfl) ?_
          simp -implicitDefEqProofs only [go_sem, simprocAttr, o1]
          refine call0 [] false (q11) (by first | exact trivial | exact ⟨rfl, trivial⟩ | exact ⟨rfl, rfl, trivial⟩ | exact ⟨rfl, rfl, rfl, trivial⟩ | exact ⟨rfl, rfl, rfl, rfl, trivial⟩ | exact ⟨rfl, rfl, rfl, rfl, rfl, trivial⟩ | exact ⟨rfl, rfl, rfl, rfl, rfl, rfl, trivial⟩ | exact ⟨rfl, rfl, rfl, rfl, rfl, rfl, rfl, trivial⟩ | exact ⟨rfl, rfl, rfl, rfl, rfl, rfl, rfl, rfl, trivial⟩ | (simp -implicitDefEqProofs only [go_sem, simprocAttr] <;> first | rfl | exact ⟨rfl, rfl⟩ | exact ⟨rfl, rfl, rfl⟩ | exact ⟨rfl, rfl, rfl, rfl⟩)) (.inl rfl) ?_
          simp -implicitDefEqProofs only [go_sem, simprocAttr]
          refine call0 [88] false (q16') (by first | exact trivial | exact ⟨rfl, trivial⟩ | exact ⟨rfl, rfl, trivial⟩ | exact ⟨rfl, rfl, rfl, trivial⟩ | exact ⟨rfl, rfl, rfl, rfl, trivial⟩ | exact ⟨rfl, rfl, rfl, rfl, rfl, trivial⟩ | exact ⟨rfl, rfl, rfl, rfl, rfl, rfl, trivial⟩ | exact ⟨rfl, rfl, rfl, rfl, rfl, rfl, rfl, trivial⟩ | exact ⟨rfl, rfl, rfl, rfl, rfl, rfl, rfl, rfl, trivial⟩ | (simp -implicitDefEqProofs only [go_sem, simprocAttr] <;> first | rfl | exact ⟨rfl, rfl⟩ | exact ⟨rfl, rfl, rfl⟩ | exact ⟨rfl, rfl, rfl, rfl⟩)) (.inl rfl) ?_
          simp -implicitDefEqProofs only [go_sem, simprocAttr, oddR, eqV, bty_4]
          refine call0 [] false (t13) (by first | exact trivial | exact ⟨rfl, trivial⟩ | exact ⟨rfl, rfl, trivial⟩ | exact ⟨rfl, rfl, rfl, trivial⟩ | exact ⟨rfl, rfl, rfl, rfl, trivial⟩ | exact ⟨rfl, rfl, rfl, rfl, rfl, trivial⟩ | exact ⟨rfl, rfl, rfl, rfl, rfl, rfl, trivial⟩ | exact ⟨rfl, rfl, rfl, rfl, rfl, rfl, rfl, trivial⟩ | exact ⟨rfl, rfl, rfl, rfl, rfl, rfl, rfl, rfl, trivial⟩ | (simp -implicitDefEqProofs only [go_sem, simprocAttr] <;> first | rfl | exact ⟨rfl, rfl⟩ | exact ⟨rfl, rfl, rfl⟩ | exact ⟨rfl, rfl, rfl, rfl⟩)) (.inl rfl) ?_
          simp -implicitDefEqProofs only [go_sem, simprocAttr]
          exact ret_fv
        · have o2 : ozR lo hi S la ha = .list false [span (ozL lo S la) (ozH hi S ha)] := by simp [ozR, e]
          simp only [e, o2, if_true] at q14 q15' q16'
          simp -implicitDefEqProofs only [go_sem, simprocAttr, r8, r12, hk, hz1, hz2, u16, w3, w3', hla, hha, w5]
          refine call0 [] false (t6 la ha) (by first | exact trivial | exact ⟨rfl, trivial⟩ | exact ⟨rfl, rfl, trivial⟩ | exact ⟨rfl, rfl, rfl, trivial⟩ | exact ⟨rfl, rfl, rfl, rfl, trivial⟩ | exact ⟨rfl, rfl, rfl, rfl, rfl, trivial⟩ | exact ⟨rfl, rfl, rfl, rfl, rfl, rfl, trivial⟩ | exact ⟨rfl, rfl, rfl, rfl, rfl, rfl, rfl, trivial⟩ | exact ⟨rfl, rfl, rfl, rfl, rfl, rfl, rfl, rfl, trivial⟩ | (simp -implicitDefEqProofs only [go_sem, simprocAttr] <;> first | rfl | exact ⟨rfl, rfl⟩ | exact ⟨rfl, rfl, rfl⟩ | exact ⟨rfl, rfl, rfl, rfl⟩)) (.inl rfl) ?_
          simp -implicitDefEqProofs only [go_sem, simprocAttr, span, r8]
          refine call0 [77] false (q14) (by first | exact trivial | exact ⟨rfl, trivial⟩ | exact ⟨rfl, rfl, trivial⟩ | exact ⟨rfl, rfl, rfl, trivial⟩ | exact ⟨rfl, rfl, rfl, rfl, trivial⟩ | exact ⟨rfl, rfl, rfl, rfl, rfl, trivial⟩ | exact ⟨rfl, rfl, rfl, rfl, rfl, rfl, trivial⟩ | exact ⟨rfl, rfl, rfl, rfl, rfl, rfl, rfl, trivial⟩ | exact ⟨rfl, rfl, rfl, rfl, rfl, rfl, rfl, rfl, trivial⟩ | (simp -implicitDefEqProofs only [go_sem, simprocAttr] <;> first | rfl | exact ⟨rfl, rfl⟩ | exact ⟨rfl, rfl, rfl⟩ | exact ⟨rfl, rfl, rfl, rfl⟩)) (.inl rfl) ?_
          simp -implicitDefEqProofs only [go_sem, simprocAttr, w6, w7]
          refine call0 [] false (t6 (9000 - ha) (9000 - la)) (by first | exact trivial | exact ⟨rfl, trivial⟩ | exact ⟨rfl, rfl, trivial⟩ | exact ⟨rfl, rfl, rfl, trivial⟩ | exact ⟨rfl, rfl, rfl, rfl, trivial⟩ | exact ⟨rfl, rfl, rfl, rfl, rfl, trivial⟩ | exact ⟨rfl, rfl, rfl, rfl, rfl, rfl, trivial⟩ | exact ⟨rfl, rfl, rfl, rfl, rfl, rfl, rfl, trivial⟩ | exact ⟨rfl, rfl, rfl, rfl, rfl, rfl, rfl, rfl, trivial⟩ | (simp -implicitDefEqProofs only [go_sem, simprocAttr] <;> first | rfl | exact ⟨rfl, rfl⟩ | exact ⟨rfl, rfl, rfl⟩ | exact ⟨rfl, rfl, rfl, rfl⟩)) (.inl rfl) ?_
          simp -implicitDefEqProofs only [go_sem, simprocAttr, span, o1]
          refine call0 [] false (q11) (by first | exact trivial | exact ⟨rfl, trivial⟩ | exact ⟨rfl, rfl, trivial⟩ | exact ⟨rfl, rfl, rfl, trivial⟩ | exact ⟨rfl, rfl, rfl, rfl, trivial⟩ | exact ⟨rfl, rfl, rfl, rfl, rfl, trivial⟩ | exact ⟨rfl, rfl, rfl, rfl, rfl, rfl, trivial⟩ | exact ⟨rfl, rfl, rfl, rfl, rfl, rfl, rfl, trivial⟩ | exact ⟨rfl, rfl, rfl, rfl, rfl, rfl, rfl, rfl, trivial⟩ | (simp -implicitDefEqProofs only [go_sem, simprocAttr] <;> first | rfl | exact ⟨rfl, rfl⟩ | exact ⟨rfl, rfl, rfl⟩ | exact ⟨rfl, rfl, rfl, rfl⟩)) (.inl rfl) ?_
          simp -implicitDefEqProofs only [go_sem, simprocAttr]
          refine app_gl (by simp -implicitDefEqProofs only [go_sem, simprocAttr]; rfl) idx_40 (by simp -implicitDefEqProofs only [go_sem, simprocAttr]; rfl) (by simp [FV.cells]) (by simp -implicitDefEqProofs only [go_sem, simprocAttr]) (by simp -implicitDefEqProofs only [go_sem, simprocAttr]) (by simp [maxLen]) (by simp) ?_
          simp -implicitDefEqProofs only [go_sem, simprocAttr]
          refine call0 [92] false (q15') (by first | exact trivial | exact ⟨rfl, trivial⟩ | exact ⟨rfl, rfl, trivial⟩ | exact ⟨rfl, rfl, rfl, trivial⟩ | exact ⟨rfl, rfl, rfl, rfl, trivial⟩ | exact ⟨rfl, rfl, rfl, rfl, rfl, trivial⟩ | exact ⟨rfl, rfl, rfl, rfl, rfl, rfl, trivial⟩ | exact ⟨rfl, rfl, rfl, rfl, rfl, rfl, rfl, trivial⟩ | exact ⟨rfl, rfl, rfl, rfl, rfl, rfl, rfl, rfl, trivial⟩ | (simp -implicitDefEqProofs only [go_sem, simprocAttr] <;> first | rfl | exact ⟨rfl, rfl⟩ | exact ⟨rfl, rfl, rfl⟩ | exact ⟨rfl, rfl, rfl, rfl⟩)) (.inl rfl) ?_
          simp -implicitDefEqProofs only [go_sem, simprocAttr, o1]
          refine call0 [] false (q11) (by first | exact trivial | exact ⟨rfl, trivial⟩ | exact ⟨rfl, rfl, trivial⟩ | exact ⟨rfl, rfl, rfl, trivial⟩ | exact ⟨rfl, rfl, rfl, rfl, trivial⟩ | exact ⟨rfl, rfl, rfl, rfl, rfl, trivial⟩ | exact ⟨rfl, rfl, rfl, rfl, rfl, rfl, trivial⟩ | exact ⟨rfl, rfl, rfl, rfl, rfl, rfl, rfl, trivial⟩ | exact ⟨rfl, rfl, rfl, rfl, rfl, rfl, rfl, rfl, trivial⟩ | (simp -implicitDefEqProofs only [go_sem, simprocAttr] <;> first | rfl | exact ⟨rfl, rfl⟩ | exact ⟨rfl, rfl, rfl⟩ | exact ⟨rfl, rfl, rfl, rfl⟩)) (.inl rfl) ?_
          simp -implicitDefEqProofs only [go_sem, simprocAttr]
          refine call0 [88] false (q16') (by first | exact trivial | exact ⟨rfl, trivial⟩ | exact ⟨rfl, rfl, trivial⟩ | exact ⟨rfl, rfl, rfl, trivial⟩ | exact ⟨rfl, rfl, rfl, rfl, trivial⟩ | exact ⟨rfl, rfl, rfl, rfl, rfl, trivial⟩ | exact ⟨rfl, rfl, rfl, rfl, rfl, rfl, trivial⟩ | exact ⟨rfl, rfl, rfl, rfl, rfl, rfl, rfl, trivial⟩ | exact ⟨rfl, rfl, rfl, rfl, rfl, rfl, rfl, rfl, trivial⟩ | (simp -implicitDefEqProofs only [go_sem, simprocAttr] <;> first | rfl | exact ⟨rfl, rfl⟩ | exact ⟨rfl, rfl, rfl⟩ | exact ⟨rfl, rfl, rfl, rfl⟩)) (.inl rfl) ?_
          simp -implicitDefEqProofs only [go_sem, simprocAttr, oddR, eqV, bty_4, span, eqCells, beq_self_eq_true]
          refine call0 [] false (t13) (by first | exact trivial | exact ⟨rfl, trivial⟩ | exact ⟨rfl, rfl, trivial⟩ | exact ⟨rfl, rfl, rfl, trivial⟩ | exact ⟨rfl, rfl, rfl, rfl, trivial⟩ | exact ⟨rfl, rfl, rfl, rfl, rfl, trivial⟩ | exact ⟨rfl, rfl, rfl, rfl, rfl, rfl, trivial⟩ | exact ⟨rfl, rfl, rfl, rfl, rfl, rfl, rfl, trivial⟩ | exact ⟨rfl, rfl, rfl, rfl, rfl, rfl, rfl, rfl, trivial⟩ | (simp -implicitDefEqProofs only [go_sem, simprocAttr] <;> first | rfl | exact ⟨rfl, rfl⟩ | exact ⟨rfl, rfl, rfl⟩ | exact ⟨rfl, rfl, rfl, rfl⟩)) (.inl rfl) ?_
          simp -implicitDefEqProofs only [go_sem, simprocAttr]
          exact ret_fv
end S12

