/- A part of the proof: X04w. -/
import Derived.Test.YtncbkgbdpaibmaaX04i
import Derived.Test.YtncbkgbdpaibmaaX04b
import Derived.Test.YtncbkgbdpaibmaaC04j0
set_option linter.unusedVariables false
set_option linter.unusedSimpArgs false
set_option maxRecDepth 20000
namespace S04
open Go Abs
theorem and_one8 (a : Int) (a0 : 0 ≤ a) (a1 : a < 256) : binV .and (.int .u8 a) (.int .u8 1) = some (.int .u8 (a % 2)) := by
  have h1 : (BitVec.ofInt 8 a &&& BitVec.ofInt 8 1).toNat = (a % 2).toNat := by
    rw [BitVec.toNat_and, BitVec.toNat_ofInt, BitVec.toNat_ofInt]
    have : ((1 : Int) % ((2 ^ 8 : Nat) : Int)).toNat = 1 := by decide
    rw [this, Nat.and_one_is_mod]
    have h2 : 0 ≤ a % ((2 ^ 8 : Nat) : Int) := Int.emod_nonneg _ (by decide)
    have h3 : a % ((2 ^ 8 : Nat) : Int) % 2 = a % 2 := Int.emod_emod_of_dvd a (by decide)
    omega
  show (if IntKind.u8 = IntKind.u8 then some (Value.int .u8 (IntKind.u8.wrap ((BitVec.ofInt 8 a &&& BitVec.ofInt 8 1).toNat : Nat))) else none) = _
  rw [if_pos rfl, h1]
  congr 2
  unfold IntKind.wrap
  simp [IntKind.signed, IntKind.bits]
  omega
def bitP (v : Int) (x : Int) : Bool := v / 2 ^ x.toNat % 2 == 1
def bitL (v : Int) (k : Nat) : List Int := 0 :: (numFrom 1 k).filter (bitP v)
theorem bitL_succ (v : Int) (k : Nat) : bitL v (k + 1) = if v / 2 ^ (k + 1) % 2 = 1 then bitL v k ++ [((k + 1 : Nat) : Int)] else bitL v k := by
  unfold bitL
  rw [numFr_app, List.filter_append]
  have : numFrom (1 + k) 1 = [((k + 1 : Nat) : Int)] := by simp [numFrom]; omega
  rw [this]
  by_cases h : v / 2 ^ (k + 1) % 2 = 1
  · rw [if_pos h, List.filter_cons_of_pos (by simpa [bitP] using h)]; simp
  · rw [if_neg h, List.filter_cons_of_neg (by simpa [bitP] using h)]; simp
structure MW (c : Cs) (W : List (List Int)) : Prop where
  l : W.length ≤ 5
  w : ∀ w ∈ W, WV c (.list false (ints w)) w
  i : ∀ w ∈ W, isW c.W.length 0 w = true
  n : ∀ w ∈ W, 1 ≤ w.length ∧ w.length ≤ 7
theorem many_ok {x : List FV} {s : FV} {c : Cs} {sw sp : FV} (T : TY x s c sw sp) {Bs : List (List Int)} (hb : ∀ b ∈ Bs, (∀ x ∈ b, 0 ≤ x ∧ x < 256) ∧ b.length ≤ 9223372036854775807) : MW c (manyF Bs) := by
  have n6 := T.n6
  have key : ∀ w ∈ manyF Bs, 1 ≤ w.length ∧ w.length ≤ 7 ∧ ∀ x ∈ w, 0 ≤ x ∧ x < 6 := by
    intro w hw
    unfold manyF at hw
    rw [List.mem_map] at hw
    obtain ⟨b, h1, rfl⟩ := hw
    exact wordF_ok (hb b (List.mem_of_mem_take h1)).1
  refine ⟨by simp only [manyF, List.length_map, List.length_take]; omega, fun w hw => ?_, fun w hw => ?_, fun w hw => ?_⟩
  · obtain ⟨h1, h2, h3⟩ := key w hw
    exact ⟨rfl, by omega, fun x hx => by have := h3 x hx; omega⟩
  · obtain ⟨h1, h2, h3⟩ := key w hw
    exact errO_word T.e n6 h1 h2 h3
  · obtain ⟨h1, h2, h3⟩ := key w hw
    exact ⟨h1, h2⟩
theorem t12 {a0 a1 a2 a3 a4 a5 f0 f1 f2 v0 v1 : Int} {sp0 s : FV} {c : Cs} {sw sp : FV} {wl : List FV} {Bs : List (List Int)} (T : TY (tyA a0 a1 a2 a3 a4 a5 sp0 f0 f1 f2) sp0 c sw sp)
    (hs : lsOf s = some wl) (hl : wl.length = Bs.length) (hw : ∀ (i : Nat) (y : FV) (b : List Int), wl[i]? = some y → Bs[i]? = some b → lsOf y = some (b.map u8)) (hb : ∀ b ∈ Bs, (∀ x ∈ b, 0 ≤ x ∧ x < 256) ∧ b.length ≤ 9223372036854775807) (hl2 : Bs.length ≤ 9223372036854775807)
    (b0 : 0 ≤ v0 ∧ v0 < 256) (b1 : 0 ≤ v1 ∧ v1 < 256) :
    Fn Q 12 [.fo (.agg (tyA a0 a1 a2 a3 a4 a5 sp0 f0 f1 f2)), .fo s, .fo (.agg [u8 v0, u8 v1])] (.one (.fx (.bool true))) := by
  have c50 := T.fn
  have v := T.v
  have ok := errC_ok T.e
  have op := T.o
  have o1 := ls_one v.w
  have o2 := ls_one v.p
  have oS := ls_one hs
  have n6 := T.n6
  have pl10 := ok.p1
  have v' : CV c (swC c) (spC c) := ⟨rfl, rfl, v.wl, v.pl⟩
  have c52 := t52 v (by omega) (by omega)
  have c64 := t64 hs hl hw hb hl2
  obtain ⟨W5, hWV, hWi, hWn⟩ := many_ok T hb
  generalize manyF Bs = W at *
  have eO := errO_0 T.e hWi
  have hW' : Lists (.list false (lsW W)) W := lists_of fun l hl => by have := hWn l hl; omega
  have c65 := t65 hW' (by omega) (fun l hl => by have := hWn l hl; omega)
  have c54 := fun {w} (h : w ∈ W) => t54 v ok.rk (hWV w h)
  have nd := fun {w} (h : w ∈ W) => T.nd (hWV w h).b (hWn w h).1 (hWn w h).2
  by_cases e0 : W = []
  · subst e0
    have eB : errB c 100 [] = 7 := by simp [errB, errB0, T.e]
    have c39 := t39e (n := 100) (sW := .nil) (W := []) v' ⟨[], rfl, rfl, by simp⟩ (by simp) (by rw [eB]; decide)
    rw [eB] at c39
    refine w12 ?_
    dsimp only [c12, sop, gop, nop, qmv, qsg, qex, qld, qcl, qln, qix, qbo, qt, qi]
    simp -implicitDefEqProofs only [go_sem, simprocAttr, op, oS, u8]
    refine call1 [] false (c50) ?_
    simp -implicitDefEqProofs only [go_sem, simprocAttr]
    refine call1 [] false (c64) ?_
    simp -implicitDefEqProofs only [go_sem, simprocAttr, o1, o2]
    refine call1 [] false (c52) ?_
    simp -implicitDefEqProofs only [go_sem, simprocAttr]
    refine call1 [] false (c39) ?_
    simp -implicitDefEqProofs only [go_sem, simprocAttr]
    refine call1 [] false (t17) ?_
    simp -implicitDefEqProofs only [go_sem, simprocAttr]
    exact ret_fv
  · have W0 : W.length ≠ 0 := by simpa using e0
    have W0' : (((W.length : Nat) : Int) == 0) = false := by simpa using e0
    have nb : ∀ w ∈ W, 0 ≤ c.nd w - 2 * c.R + c.B := fun w hw => by
      have := (ok.nd_bd (hWV w hw).b).2.2
      have := ok.b0
      omega
    refine w12 ?_
    dsimp only [c12, sop, gop, nop, qmv, qsg, qex, qld, qcl, qln, qix, qbo, qt, qi]
    simp -implicitDefEqProofs only [go_sem, simprocAttr, op, oS, u8]
    refine call1 [] false (c50) ?_
    simp -implicitDefEqProofs only [go_sem, simprocAttr]
    refine call1 [] false (c64) ?_
    simp -implicitDefEqProofs only [go_sem, simprocAttr, List.length_map, W0', o1, o2]
    refine lpL (β := Int) 41 [12, 13] 41 [] W (by omega) (fun xs k m => 0 ≤ m ∧ m ≤ 257 ∧ ∀ w ∈ W.take k, c.nd w ≤ m) (fun k m ρ h => ρ 13 = .fv (.int (k : Nat)) ∧ ρ 12 = .fv (.int m)) 0 ⟨by omega, by omega, by simp⟩ ?_ ?_ ?_
    · simp -implicitDefEqProofs only [go_sem, simprocAttr]
    · rintro m ρ h ⟨m0, m1, hm⟩ ⟨r13, r12⟩
      rw [List.take_of_length_le (by omega)] at hm
      have m2 : 1 ≤ m := by
        obtain ⟨w, hw⟩ := List.exists_mem_of_ne_nil W e0
        have := (nd hw).1
        have := hm w hw
        omega
      have wm : IntKind.i64.wrap (m + v0) = m + v0 := wr _ (by omega) (by omega)
      have w0 : IntKind.i64.wrap v0 = v0 := wr _ (by omega) (by omega)
      by_cases h4 : 400 < m + v0
      · simp -implicitDefEqProofs only [go_sem, simprocAttr, r13, r12, List.length_map, u8, w0, wm, h4]
        refine call1 [] false (t17) ?_
        simp -implicitDefEqProofs only [go_sem, simprocAttr]
        exact ret_fv
      · have eB : errB c (m + v0) W = 0 := by
          have : W.any (fun w => decide (m + v0 < c.nd w)) = false := by
            rw [List.any_eq_false]
            intro w hw
            have := hm w hw
            simp; omega
          have e1 : errB0 c W = 0 := by
            unfold errB0
            rw [if_neg (show ¬ errC c ≠ 0 by simp [T.e]), if_neg W0, if_neg (by omega), eO]
          unfold errB
          rw [if_neg (by simp [e1]), if_neg (by rw [inB_ok (by omega) (by omega)]; simp), if_neg (by simp [this])]
        obtain ⟨r, hr⟩ := lines_ex nb (n := m + v0) (fun w hw => by have := hm w hw; omega) e0 W5
        have hK := lines_KM nb hr
        have c39 := t39 v' hW' eB hr
        obtain ⟨⟨t, t1, t2, t3⟩, hmin⟩ := hK
        obtain ⟨l, rest⟩ := r
        dsimp only at t2 t3
        subst t3
        have hb0 : lsOf (.list false (ints (0 :: t))) = some (ints (0 :: t)) := rfl
        have lt : t.length ≤ 4 := by have := t1.length_le; rw [show (numFrom 1 (W.length - 1)).length = W.length - 1 by simp [numFrom]] at this; omega
        have tb : ∀ x ∈ t, 1 ≤ x ∧ x < W.length := fun x hx => by have := mem_numFr.1 (t1.subset hx); omega
        have tp : (0 :: t).Pairwise (· < ·) := by
          rw [List.pairwise_cons]
          exact ⟨fun x hx => by have := tb x hx; omega, List.Pairwise.sublist t1 (numFrom_pw _ _)⟩
        have lb : ∀ x ∈ (0 :: t), 0 ≤ x ∧ x < W.length := fun x hx => by
          rcases List.mem_cons.1 hx with rfl | hx
          · omega
          · have := tb x hx; omega
        have rn := rsO_ge _ _ _ t2
        have c66 := t66 (n := m + v0) v ok hWV e0 W5 hb0 t1 (by omega) (by omega)
        rw [t2] at c66
        have ecm : cmb (-1) (some rest) = rest := by simp only [cmb]; omega
        rw [ecm] at c66
        obtain ⟨l, hl⟩ : ∃ l, 0 :: t = l := ⟨_, rfl⟩
        have ll : l.length = t.length + 1 := by rw [← hl]; rfl
        have l0 : l[0]? = some 0 := by rw [← hl]; rfl
        rw [hl] at hb0 tp lb c66 c39 hmin
        have ltz : (((l.length : Nat) : Int) == 0) = false := beq_eq_false_iff_ne.2 (by omega)
        have ix0 : (ints l)[0]? = some (.int 0) := by rw [← hl]; rfl
        simp -implicitDefEqProofs only [go_sem, simprocAttr, r13, r12, List.length_map, u8, w0, wm, h4, o1, o2]
        refine call1 [] false (c52) ?_
        simp -implicitDefEqProofs only [go_sem, simprocAttr]
        refine call1 [] false (c65) ?_
        simp -implicitDefEqProofs only [go_sem, simprocAttr]
        refine call1 [] false (c39) ?_
        simp -implicitDefEqProofs only [go_sem, simprocAttr, ints_length, ltz, ix0]
        refine lpL (β := Unit) 86 [17] 86 [] l (by omega) (fun xs k _ => True) (fun k _ ρ h => ρ 17 = .fv (.int (k : Nat))) () trivial ?_ ?_ ?_
        · simp -implicitDefEqProofs only [go_sem, simprocAttr]
        · rintro _ ρ2 h2 _ r17
          have rz : (rest != rest) = false := by simp
          have rn' : ¬ rest < 0 := by omega
          have nl : ¬ ((l.length : Int) < (l.length : Nat)) := by omega
          simp -implicitDefEqProofs only [go_sem, simprocAttr, r17, ints_length, nl, o1, o2]
          refine call1 [] false (c66) ?_
          simp -implicitDefEqProofs only [go_sem, simprocAttr, rn', rz]
          refine lpH 128 [19, 20] 128 [127] (fun k : Nat => W.length - k) (fun k => 1 ≤ k ∧ k ≤ W.length) (fun k ρ h => ρ 20 = .fv (.int (k : Nat)) ∧ ρ 19 = .gl 127 (h.gen 127) ∧ h.obj 127 = some (.list 3 1 false false (ints (bitL v1 (k - 1))))) 1 ⟨by omega, by omega⟩ ?_ ?_
          · simp -implicitDefEqProofs only [go_sem, simprocAttr]
            rfl
          · rintro k ρ3 h3 ⟨k1, k2⟩ ⟨r20, r19, o127⟩
            obtain ⟨k, rfl⟩ : ∃ k', k = k' + 1 := ⟨k - 1, by omega⟩
            rw [show k + 1 - 1 = k by omega] at o127
            have kl : (bitL v1 k).length ≤ 10 := by
              have : ((numFrom 1 k).filter (bitP v1)).length ≤ (numFrom 1 k).length := List.length_filter_le _ _
              rw [show (numFrom 1 k).length = k by simp [numFrom]] at this
              simp only [bitL, List.length_cons]; omega
            by_cases hk : k + 1 < W.length
            · have hk' : ((k + 1 : Nat) : Int) < (W.length : Nat) := by omega
              have hwk : IntKind.i64.wrap (((k + 1 : Nat) : Int) + 1) = ((k + 1 + 1 : Nat) : Int) := wr _ (by omega) (by omega)
              have hwu : IntKind.u64.wrap ((k + 1 : Nat) : Int) = ((k + 1 : Nat) : Int) := by
                unfold IntKind.wrap
                simp [IntKind.signed, IntKind.bits]
                omega
              have hn0 : ¬ (((k + 1 : Nat) : Int) < 0) := by omega
              have e8 : min (k + 1) 8 = k + 1 := by omega
              obtain ⟨p, hp⟩ : ∃ p, v1 / 2 ^ (k + 1) = p := ⟨_, rfl⟩
              have d0 : 0 ≤ p := by rw [← hp]; exact Int.ediv_nonneg b1.1 (Int.pow_nonneg (by decide))
              have d1 : p < 256 := by
                have := Int.ediv_le_self (2 ^ (k + 1)) b1.1
                omega
              have hand := and_one8 _ d0 d1
              have eb := bitL_succ v1 k
              rw [hp] at eb
              by_cases hq : p % 2 = 1
              · have hq' : (p % 2 == 1) = true := by simpa using hq
                rw [if_pos hq] at eb
                simp -implicitDefEqProofs only [go_sem, simprocAttr, r20, List.length_map, hk', hwu, u8, hn0, e8, hp, ↓hand, hq', r19]
                refine app_gl (by simp -implicitDefEqProofs only [go_sem, simprocAttr, o127]; rfl) idx_22 (by simp -implicitDefEqProofs only [go_sem, simprocAttr]; rfl) (by simp [FV.cells]) (by simp -implicitDefEqProofs only [go_sem, simprocAttr]) (by simp [byt_3, ints]; omega) (by simp [maxLen, ints]; omega) (by simp) ?_
                simp -implicitDefEqProofs only [go_sem, simprocAttr, r20, hwk]
                refine nxt (k + 1 + 1) (by omega) ⟨by omega, by omega⟩ ?_
                rw [show k + 1 + 1 - 1 = k + 1 by omega, eb]
                simp -implicitDefEqProofs only [go_sem, simprocAttr, ints, List.map_append, List.map_cons, List.map_nil]
              · have hq' : (p % 2 == 1) = false := by simpa using hq
                rw [if_neg hq] at eb
                simp -implicitDefEqProofs only [go_sem, simprocAttr, r20, List.length_map, hk', hwu, u8, hn0, e8, hp, ↓hand, hq', hwk]
                refine nxt (k + 1 + 1) (by omega) ⟨by omega, by omega⟩ ?_
                rw [show k + 1 + 1 - 1 = k + 1 by omega, eb]
                simp -implicitDefEqProofs only [go_sem, simprocAttr, r19, o127]
            · have hk' : ¬ ((k + 1 : Nat) : Int) < (W.length : Nat) := by omega
              have ek : k = W.length - 1 := by omega
              subst ek
              have ts : ((numFrom 1 (W.length - 1)).filter (bitP v1)).Sublist (numFrom 1 (W.length - 1)) := List.filter_sublist
              have c66b := t66 (n := m + v0) (sb := .list false (ints (bitL v1 (W.length - 1)))) (t := (numFrom 1 (W.length - 1)).filter (bitP v1)) v ok hWV e0 W5 rfl ts (by omega) (by omega)
              have hq := fun x (h : c.rsO (m + v0) W 0 ((numFrom 1 (W.length - 1)).filter (bitP v1)) = some x) => hmin (bitL v1 (W.length - 1), x) ⟨_, ts, h, rfl⟩
              generalize bitL v1 (W.length - 1) = B at *
              simp -implicitDefEqProofs only [go_sem, simprocAttr, r20, List.length_map, hk', o1, o2, r19]
              refine call0 [127] false c66b (by simp -implicitDefEqProofs only [go_sem, simprocAttr, o127]) (.inl rfl) ?_
              cases hE : c.rsO (m + v0) W 0 ((numFrom 1 (W.length - 1)).filter (bitP v1)) with
              | none =>
                have z : ¬ (0 : Int) ≤ -1 := by omega
                simp -implicitDefEqProofs only [go_sem, simprocAttr, cmb, z]
                refine call1 [] false (t17) ?_
                simp -implicitDefEqProofs only [go_sem, simprocAttr]
                exact ret_fv
              | some q =>
                have q0 := rsO_ge _ _ _ hE
                have eq : cmb (-1) (some q) = q := by simp only [cmb]; omega
                have z : (0 : Int) ≤ q := q0
                rcases hq q hE with h5 | ⟨h5, h5'⟩
                · dsimp only at h5
                  have z1 : ¬ ((B.length : Nat) : Int) < (l.length : Nat) := by omega
                  have z2 : (((B.length : Nat) : Int) == (l.length : Nat)) = false := beq_eq_false_iff_ne.2 (by omega)
                  simp -implicitDefEqProofs only [go_sem, simprocAttr, eq, z, r19, o127, ints_length, z1, z2]
                  refine call1 [] false (t17) ?_
                  simp -implicitDefEqProofs only [go_sem, simprocAttr]
                  exact ret_fv
                · dsimp only at h5 h5'
                  have z1 : ¬ ((B.length : Nat) : Int) < (l.length : Nat) := by omega
                  have z2 : (((B.length : Nat) : Int) == (l.length : Nat)) = true := beq_iff_eq.2 (by omega)
                  rcases h5' with h6 | ⟨h6, h7⟩
                  · have z3 : ¬ q < rest := by omega
                    have z4 : (q == rest) = false := beq_eq_false_iff_ne.2 (by omega)
                    simp -implicitDefEqProofs only [go_sem, simprocAttr, eq, z, r19, o127, ints_length, z1, z2, z3, z4]
                    refine call1 [] false (t17) ?_
                    simp -implicitDefEqProofs only [go_sem, simprocAttr]
                    exact ret_fv
                  · have z3 : ¬ q < rest := by omega
                    have z4 : (q == rest) = true := beq_iff_eq.2 (by omega)
                    have c57 := t57 (sa := .list false (ints B)) (sb := .list false (ints l)) (a := B) (b := l) rfl rfl (by omega) (by omega)
                    have hf := cmpL_flip B l
                    rw [decide_eq_false (by omega)] at c57
                    simp -implicitDefEqProofs only [go_sem, simprocAttr, eq, z, r19, o127, ints_length, z1, z2, z3, z4]
                    refine call0 [127] false c57 (by simp -implicitDefEqProofs only [go_sem, simprocAttr, o127]) (.inl rfl) ?_
                    simp -implicitDefEqProofs only [go_sem, simprocAttr]
                    refine call1 [] false (t17) ?_
                    simp -implicitDefEqProofs only [go_sem, simprocAttr]
                    exact ret_fv
        · rintro x xs k _ ρ2 h2 hx hk hxm hk' hwk _ r17
          have xb := lb x hxm
          have xb' : ¬ ((W.length : Nat) : Int) ≤ x := by omega
          have gx : (ints l)[k]? = some (.int x) := by simp [ints, hx]
          by_cases k0 : k = 0
          · have k0' : ¬ (0 : Int) < (k : Nat) := by omega
            simp -implicitDefEqProofs only [go_sem, simprocAttr, r17, ints_length, hk', gx, List.length_map, xb', k0', hwk]
            refine nxtL (I := fun _ _ _ => True) () trivial ?_
            simp -implicitDefEqProofs only [go_sem, simprocAttr]
          · obtain ⟨k', ek⟩ : ∃ k' : Nat, k = k' + 1 := ⟨k - 1, by omega⟩
            have k0' : (0 : Int) < (k : Nat) := by omega
            have wk : IntKind.i64.wrap ((k : Int) - 1) = ((k' : Nat) : Int) := by rw [wr _ (by omega) (by omega)]; omega
            obtain ⟨y, hy⟩ : ∃ y, l[k']? = some y := ⟨_, List.getElem?_eq_getElem (by omega)⟩
            have gy : (ints l)[k']? = some (.int y) := by simp [ints, hy]
            have yx : ¬ x ≤ y := by
              have := List.pairwise_iff_getElem.1 tp k' k (by omega) (by omega) (by omega)
              rw [List.getElem?_eq_getElem (by omega)] at hx hy
              simp only [Option.some.injEq] at hx hy
              omega
            simp -implicitDefEqProofs only [go_sem, simprocAttr, r17, ints_length, hk', gx, List.length_map, xb', k0', wk, gy, yx, hwk]
            refine nxtL (I := fun _ _ _ => True) () trivial ?_
            simp -implicitDefEqProofs only [go_sem, simprocAttr]
    · rintro w xs k m ρ h hx hk hwm hk' hwk ⟨m0, m1, hm⟩ ⟨r13, r12⟩
      have ndw := nd hwm
      simp -implicitDefEqProofs only [go_sem, simprocAttr, r13, r12, List.length_map, hk', hx]
      refine call1 [] false (c54 hwm) ?_
      simp -implicitDefEqProofs only [go_sem, simprocAttr, r13, hwk]
      refine nxtL (max m (c.nd w)) ⟨by omega, by omega, ?_⟩ ?_
      · intro z hz
        rw [List.take_add_one, hx] at hz
        rcases List.mem_append.1 hz with hz | hz
        · have := hm z hz; omega
        · simp at hz; subst hz; omega
      · simp -implicitDefEqProofs only [go_sem, simprocAttr]
end S04

