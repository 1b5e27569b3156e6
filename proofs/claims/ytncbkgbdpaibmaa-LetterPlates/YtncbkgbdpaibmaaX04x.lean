/- A part of the proof: X04x. -/
import Derived.Test.YtncbkgbdpaibmaaP04f
import Derived.Test.YtncbkgbdpaibmaaX04u
import Derived.Test.YtncbkgbdpaibmaaC04h0
set_option linter.unusedVariables false
set_option linter.unusedSimpArgs false
set_option maxRecDepth 20000
namespace S04
open Go Abs
def plF (A : List Int) : List Int := (A.take 6).map (1 + ·)
def indF (m : List Int) : List Bool := (List.range 6).map fun (i : Nat) => m.contains (i : Int)
theorem ind_len (m : List Int) : (indF m).length = 6 := by simp [indF]
theorem ind_load {m : List Int} {p : Nat} (hp : p < 6) : partL false 1 (List.drop p ((indF m).map bF)) = some (.fv (.bool (m.contains (p : Int)))) := by
  refine partL_get ?_
  simp [indF, hp]
theorem ind_set {m : List Int} {p : Nat} (hp : p < 6) : splice ((indF m).map bF) p [bF true] = (indF (m ++ [(p : Int)])).map bF := by
  have e : indF (m ++ [(p : Int)]) = (indF m).set p true := by
    refine List.ext_getElem (by simp [indF]) fun i h1 h2 => ?_
    rw [List.getElem_set]
    simp only [indF, List.getElem_map, List.getElem_range, List.contains_append]
    split
    · rename_i e; subst e; simp
    · rename_i e
      have : ([(p : Int)].contains (i : Int)) = false := by simp; omega
      rw [this, Bool.or_false]
  rw [e]
  unfold splice
  rw [List.map_set, List.set_eq_take_append_cons_drop, if_pos (by simp [ind_len]; exact hp)]
  simp
theorem gI_pl2 {pl : List Int} (hp : ∀ x ∈ pl, 1 ≤ x ∧ x ≤ 256) {i : Nat} (h : i < pl.length) : 1 ≤ gI pl (i : Nat) ∧ gI pl (i : Nat) ≤ 256 := by
  have := gI_get (p := pl) (i := (i : Int)) (by omega) (by omega)
  exact hp _ (List.mem_of_getElem? this)
theorem long_bd {pl : List Int} (hp : ∀ x ∈ pl, 1 ≤ x ∧ x ≤ 256) : ∀ l : List Int, 0 ≤ longF pl l ∧ longF pl l ≤ 256 * l.length
  | [] => by simp [longF]
  | x :: l => by
    have := long_bd hp l
    have hx : 0 ≤ gI pl x ∧ gI pl x ≤ 256 := by
      by_cases h : x.toNat < pl.length
      · have : gI pl x = pl[x.toNat] := by simp [gI, List.getD_eq_getElem?_getD, h]
        have := hp _ (List.getElem_mem h)
        omega
      · have : gI pl x = 0 := by simp [gI, List.getD_eq_getElem?_getD, List.getElem?_eq_none (show pl.length ≤ x.toNat by omega)]
        omega
    simp only [longF, List.length_cons]
    omega
theorem pl_bd {A : List Int} (bA : ∀ x ∈ A, 0 ≤ x ∧ x < 256) : (plF A).length ≤ 6 ∧ ∀ x ∈ plF A, 1 ≤ x ∧ x ≤ 256 := by
  refine ⟨by simp [plF]; omega, fun x hx => ?_⟩
  unfold plF at hx
  rw [List.mem_map] at hx
  obtain ⟨y, hy, rfl⟩ := hx
  have := bA y (List.mem_of_mem_take hy)
  omega
theorem pick_c {c : Cs} {W : List (List Int)} {pl : List Int} (M : MW c W) (e : errC c = 0) (hp : pl.length ≤ 6) (hb : ∀ x ∈ pl, 1 ≤ x ∧ x ≤ 256) : ∃ (f : FV) (o : Option (List Int)), PkI c pl W o ∧ lsOf f = some (ints (o.getD [])) ∧ Fn Q 43 [.fo (c.fv (swC c) (spC c)), .fo (.list false (lsW W)), .fo (.list false (ints pl))] (.tup [.fx f, .fx (.int (if o.isSome then 0 else 9))]) := by
  have he : errK c W pl = 0 := by
    have h1 := errO_0 e M.i
    have h2 := M.l
    unfold errK
    rw [if_neg (by simp [e]), if_neg (by omega), if_neg (by simp [h1]), if_neg]
    rw [Bool.not_eq_false, List.all_eq_true]
    exact fun x hx => inB_ok (by have := hb x hx; omega) (by have := hb x hx; omega)
  have v' : CV c (swC c) (spC c) := ⟨rfl, rfl, by have := errC_ok e; have := this.n1; omega, by have := errC_ok e; have := this.p1; omega⟩
  have c43 := t43 (spl := .list false (ints pl)) (pl := pl) v' (lists_of (W := W) fun l hl => by have := (M.n l hl).2; omega) (by have := M.l; omega) rfl (by omega)
  have hI := pk_is (c := c) (W := W) (pl := pl) (fun x hx => by have := hb x hx; omega)
  by_cases w0 : W.length = 0
  · have : W = [] := List.eq_nil_of_length_eq_zero w0
    subst this
    refine ⟨.nil, some [], ⟨rfl, fun y hy => ?_⟩, ?_, ?_⟩
    · simp only [Pkv] at hy; subst hy
      exact .inr ⟨rfl, by decide⟩
    · rfl
    · simpa [errZ, pkV, he] using c43
  · cases hp2 : c.pk W pl with
    | none =>
      rw [hp2] at hI
      refine ⟨.nil, none, hI, ?_, ?_⟩
      · rfl
      · simpa [errZ, pkV, he, w0, hp2, optB] using c43
    | some x =>
      rw [hp2] at hI
      refine ⟨.list false (ints x.1), some x.1, hI, ?_, ?_⟩
      · rfl
      · simpa [errZ, pkV, he, w0, hp2, optB] using c43
set_option maxHeartbeats 4000000 in
theorem t13 {a0 a1 a2 a3 a4 a5 f0 f1 f2 : Int} {sp0 s sa sb : FV} {c : Cs} {sw sp : FV} {wl : List FV} {Bs : List (List Int)} {A B : List Int} (T : TY (tyA a0 a1 a2 a3 a4 a5 sp0 f0 f1 f2) sp0 c sw sp)
    (hs : lsOf s = some wl) (hl : wl.length = Bs.length) (hw : ∀ (i : Nat) (y : FV) (b : List Int), wl[i]? = some y → Bs[i]? = some b → lsOf y = some (b.map u8)) (hb : ∀ b ∈ Bs, (∀ x ∈ b, 0 ≤ x ∧ x < 256) ∧ b.length ≤ 9223372036854775807) (hl2 : Bs.length ≤ 9223372036854775807)
    (hA : lsOf sa = some (A.map u8)) (bA : ∀ x ∈ A, 0 ≤ x ∧ x < 256) (lA : A.length ≤ 9223372036854775807) (hB : lsOf sb = some (B.map u8)) (bB : ∀ x ∈ B, 0 ≤ x ∧ x < 256) (lB : B.length ≤ 9223372036854775807) :
    Fn Q 13 [.fo (.agg (tyA a0 a1 a2 a3 a4 a5 sp0 f0 f1 f2)), .fo s, .fo (.agg [sa, sb])] (.one (.fx (.bool true))) := by
  have c50 := T.fn
  have v := T.v
  have ok := errC_ok T.e
  have op := T.o
  have o1 := ls_one v.w
  have o2 := ls_one v.p
  have oS := ls_one hs
  have oA := ls_one hA
  have oB := ls_one hB
  have lcA := ls_lcells hA
  have lcB := ls_lcells hB
  have pl10 := ok.p1
  have c52 := t52 v (by have := T.n6; omega) (by omega)
  have c64 := t64 hs hl hw hb hl2
  have M := many_ok T hb
  obtain ⟨W5, hWV, hWi, hWn⟩ := M
  have M := many_ok T hb
  generalize manyF Bs = W at *
  have hW' : Lists (.list false (lsW W)) W := lists_of fun l hl => by have := hWn l hl; omega
  have c65 := t65 hW' (by omega) (fun l hl => by have := hWn l hl; omega)
  have c54 := fun {w} (h : w ∈ W) => t54 v ok.rk (hWV w h)
  obtain ⟨p6, pb⟩ := pl_bd bA
  obtain ⟨f, o, hI, hf, c43⟩ := pick_c M T.e p6 pb
  have hl0 : ∀ k x, (o.getD [])[k]? = some x → ∃ w, W[k]? = some w ∧ ∃ p : Nat, x = (p : Int) ∧ p < (plF A).length ∧ c.nd w ≤ gI (plF A) (p : Nat) ∧ x ∉ (o.getD []).take k := by
    intro k x hx
    cases o with
    | none => simp at hx
    | some l =>
      obtain ⟨h1, h2⟩ := Pkv_at W [] l hI.1
      have hk := (List.getElem?_eq_some_iff.1 hx).1
      obtain ⟨w, hw⟩ : ∃ w, W[k]? = some w := ⟨_, List.getElem?_eq_getElem (by simpa [h1] using hk)⟩
      obtain ⟨q1, q2, q3, _, q5⟩ := h2 k x w hx hw
      exact ⟨w, hw, x.toNat, by omega, by omega, by rwa [Int.toNat_of_nonneg q1], q5⟩
  have hE : ∃ E : Int, (if o.isSome then 0 else 9) = E ∧ ((E = 0 ∧ (o.getD []).length = W.length) ∨ (E = 9 ∧ (o.getD []).length = 0)) ∧ ∀ y, Pkv c (plF A) [] W y → E = 0 ∧ (longF (plF A) (o.getD []) < longF (plF A) y ∨ (longF (plF A) (o.getD []) = longF (plF A) y ∧ cmpL (o.getD []) y ≤ 0)) := by
    cases o with
    | none => exact ⟨9, rfl, .inr ⟨rfl, rfl⟩, fun y hy => absurd hy (hI y)⟩
    | some l => exact ⟨0, rfl, .inl ⟨rfl, (Pkv_at W [] l hI.1).1⟩, fun y hy => ⟨rfl, hI.2 y hy⟩⟩
  obtain ⟨E, hE1, hE2, hE3⟩ := hE
  rw [hE1] at c43
  clear hI
  generalize o.getD [] = l at *
  have c53 := t53 (s := .list false (ints (plF A))) (l := plF A) rfl (by omega)
  refine w13 ?_
  dsimp only [c13, sop, gop, nop, qmv, qsg, qex, qld, qcl, qln, qix, qbo, qt, qi]
  simp -implicitDefEqProofs only [go_sem, simprocAttr, op, oS, u8, oA, oB, lcA, lcB]
  refine call1 [] false (c50) ?_
  simp -implicitDefEqProofs only [go_sem, simprocAttr]
  refine call1 [] false (c64) ?_
  simp -implicitDefEqProofs only [go_sem, simprocAttr, o1, o2]
  refine lpH 27 [9, 10] 27 [26] (fun k : Nat => 6 - k) (fun k => k ≤ 6 ∧ k ≤ A.length) (fun k ρ h => ρ 10 = .fv (.int (k : Nat)) ∧ ρ 9 = .gl 26 (h.gen 26) ∧ h.obj 26 = some (.list 3 1 false false (ints (plF (A.take k))))) 0 ⟨by omega, by omega⟩ ?_ ?_
  · simp -implicitDefEqProofs only [go_sem, simprocAttr, plF, List.take_zero, ints]
  · rintro k ρ h ⟨k1, k2⟩ ⟨r10, r9, o26⟩
    by_cases hk : k < A.length ∧ k < 6
    · obtain ⟨hk, hk6⟩ := hk
      have hk' : (k : Int) < (A.length : Nat) := by omega
      have hk6' : (k : Int) < 6 := by omega
      obtain ⟨x, hx⟩ : ∃ x, A[k]? = some x := ⟨_, List.getElem?_eq_getElem hk⟩
      have xb := bA x (List.mem_of_getElem? hx)
      have w1 : IntKind.i64.wrap x = x := wr _ (by omega) (by omega)
      have w2 : IntKind.i64.wrap (1 + x) = 1 + x := wr _ (by omega) (by omega)
      have hwk : IntKind.i64.wrap ((k : Int) + 1) = ((k + 1 : Nat) : Int) := wr _ (by omega) (by omega)
      have et : plF (A.take (k + 1)) = plF (A.take k) ++ [1 + x] := by
        unfold plF
        rw [List.take_take, List.take_take, Nat.min_eq_right (by omega), Nat.min_eq_right (by omega), List.take_add_one, hx, List.map_append]; rfl
      have pk : (plF (A.take k)).length ≤ 6 := (pl_bd fun x hx => bA x (List.mem_of_mem_take hx)).1
      generalize plF (A.take k) = q at *
      simp -implicitDefEqProofs only [go_sem, simprocAttr, r10, r9, lenV_ls hA, List.length_map, hk', hk6', index_map hA idx_82 hx rfl, u8, w1, w2]
      refine app_gl (by simp -implicitDefEqProofs only [go_sem, simprocAttr, o26]; rfl) idx_22 (by simp -implicitDefEqProofs only [go_sem, simprocAttr]; rfl) (by simp [FV.cells]) (by simp -implicitDefEqProofs only [go_sem, simprocAttr]) (by simp [byt_3, ints]; omega) (by simp [maxLen, ints]; omega) (by simp) ?_
      simp -implicitDefEqProofs only [go_sem, simprocAttr, r10, hwk]
      refine nxt (k + 1) (by omega) ⟨by omega, by omega⟩ ?_
      simp -implicitDefEqProofs only [go_sem, simprocAttr, et, ints, List.map_append, List.map_cons, List.map_nil]
    · have e6 : plF (A.take k) = plF A := by
        unfold plF
        congr 1
        rw [List.take_take]
        by_cases h6 : k = 6
        · subst h6; rfl
        · have : k = A.length := by omega
          subst this
          rw [List.take_of_length_le (by omega), List.take_of_length_le (by omega)]
      rw [e6] at o26
      generalize plF A = pl at *
      obtain ⟨q1', q2'⟩ | ⟨q1', q2'⟩ : ((k : Int) < (A.length : Nat) ∧ ¬ (k : Int) < 6) ∨ (¬ (k : Int) < (A.length : Nat) ∧ True) := by
        by_cases h : (k : Int) < (A.length : Nat)
        · exact .inl ⟨h, by omega⟩
        · exact .inr ⟨h, trivial⟩
      all_goals
        simp -implicitDefEqProofs only [go_sem, simprocAttr, r10, r9, lenV_ls hA, List.length_map, q1', q2', o1, o2]
        refine call1 [] false (c52) ?_
        simp -implicitDefEqProofs only [go_sem, simprocAttr]
        refine call1 [] false (c65) ?_
        simp -implicitDefEqProofs only [go_sem, simprocAttr, o26]
        refine call0 [26] false c53 (by simp -implicitDefEqProofs only [go_sem, simprocAttr, r9, o26]) (.inl rfl) ?_
        simp -implicitDefEqProofs only [go_sem, simprocAttr]
        refine call1 [] false (c43) ?_
        simp -implicitDefEqProofs only [go_sem, simprocAttr]
        obtain ⟨rfl, ll⟩ | ⟨rfl, ll⟩ := hE2
        all_goals
          have ll1 : (((l.length : Nat) : Int) != (W.length : Nat)) = false ∨ ((((l.length : Nat) : Int) != 0) = false) := by rw [ll]; simp
          have ll2 : (((W.length : Nat) : Int) != (W.length : Nat)) = false := by simp
          have ll3 : (((0 : Nat) : Int) != 0) = false := by simp
          simp -implicitDefEqProofs only [go_sem, simprocAttr, lenV_ls hf, ints_length, ll, ll2, ll3, List.length_map]
          refine lpH 81 [13, 15] 300 [14] (fun k : Nat => l.length - k) (fun k => k ≤ l.length) (fun k ρ h => ρ 15 = .fv (.int (k : Nat)) ∧ ρ 13 = .fv (.int (longF pl (l.take k))) ∧ h.gen 14 = 1 ∧ h.obj 14 = some (.box ((indF (l.take k)).map bF))) 0 (Nat.zero_le _) ?_ ?_
          · simp -implicitDefEqProofs only [go_sem, simprocAttr, o26]
            exact ⟨rfl, rfl⟩
          · rintro k ρ2 h2 k1 ⟨r15, r13, g14, o14⟩
            by_cases hk : k < l.length
            · have hk' : (k : Int) < (l.length : Nat) := by omega
              obtain ⟨x, hx⟩ : ∃ x, l[k]? = some x := ⟨_, List.getElem?_eq_getElem hk⟩
              obtain ⟨w, hw, p, rfl, p1, p2, p3⟩ := hl0 k x hx
              have hwm := List.mem_of_getElem? hw
              have c54w := c54 hwm
              have hwk : IntKind.i64.wrap ((k : Int) + 1) = ((k + 1 : Nat) : Int) := wr _ (by omega) (by omega)
              have p3' : (l.take k).contains (p : Int) = false := by simpa using p3
              have n0 : ¬ (p : Int) < 0 := by omega
              have n1 : ¬ ((pl.length : Nat) : Int) ≤ (p : Int) := by omega
              have n2 : ¬ gI pl (p : Nat) < c.nd w := by omega
              have p6' : p < 6 := by omega
              have gp : (ints pl)[p]? = some (.int (gI pl (p : Nat))) := ints_getJ p1
              have lg := long_bd pb (l.take k)
              have gb := gI_pl2 pb p1
              have lt : (l.take k).length ≤ 5 := by simp; omega
              have w1 : IntKind.i64.wrap (longF pl (l.take k) + gI pl (p : Nat)) = longF pl (l.take k) + gI pl (p : Nat) := wr _ (by omega) (by omega)
              have et : l.take (k + 1) = l.take k ++ [(p : Int)] := by rw [List.take_add_one, hx]; rfl
              simp -implicitDefEqProofs only [go_sem, simprocAttr, r15, lenV_ls hf, ints_length, hk']
              refine W_opsD _ _ _ (Vs []) ?_ ?_
              · decide
              have p6i : (p : Int) < 6 := by omega
              simp -implicitDefEqProofs only [go_sem, simprocAttr, r15, index_map hf idx_22 hx rfl, n0, n1, g14, o14, p6i, ind_load p6', p3', r9, o26, ints_length, gp, hw, o1, o2]
              refine callD [] false [.fo (c.fv sw sp), .fo (.list false (ints w))] [] c54w ⟨rfl, rfl, trivial⟩ rfl (.inl rfl) ?_
              have p6n : p + 1 ≤ 6 := p6'
              have p1i : (p : Int) < (pl.length : Nat) := by omega
              simp -implicitDefEqProofs only [go_sem, simprocAttr, r15, r13, index_map hf idx_22 hx rfl, r9, o26, ints_length, p1i, gp, n2, g14, o14, p6i, ind_set p6', ind_len, p6n, w1, hwk]
              refine nxt (k + 1) (by omega) (by omega) ?_
              rw [et, longF_app]
              simp -implicitDefEqProofs only [go_sem, simprocAttr, longF, Int.add_zero, g14]
            · have hk' : ¬ (k : Int) < (l.length : Nat) := by omega
              rw [List.take_of_length_le (by omega)] at r13
              simp -implicitDefEqProofs only [go_sem, simprocAttr, r15, r13, lenV_ls hf, ints_length, hk']
              refine lpH 141 [16, 17, 19, 20, 21] 300 [18, 139, 191] (fun a : Nat × List Int => W.length - a.1) (fun a => a.1 ≤ W.length ∧ a.2.length ≤ a.1 ∧ (a.2.length = a.1 → Pkv c pl [] (W.take a.1) a.2)) (fun a ρ h => ρ 19 = .fv (.int (a.1 : Nat)) ∧ ρ 17 = .fv (.int (longF pl a.2)) ∧ ρ 16 = .gl 139 (h.gen 139) ∧ h.obj 139 = some (.list 3 1 false false (ints a.2)) ∧ h.gen 18 = 1 ∧ h.obj 18 = some (.box ((indF a.2).map bF))) (0, []) ⟨Nat.zero_le _, Nat.le_refl _, fun _ => rfl⟩ ?_ ?_
              · simp -implicitDefEqProofs only [go_sem, simprocAttr, o26]
                exact ⟨rfl, rfl, rfl⟩
              · rintro ⟨i, ot⟩ ρ3 h3 ⟨i1, i2, i3⟩ ⟨r19, r17, r16, o139, g18, o18⟩
                dsimp only at i1 i2 i3 r19 r17 r16 o139 g18 o18
                have lo := long_bd pb ot
                by_cases hi : i < W.length
                · have hi' : (i : Int) < (W.length : Nat) := by omega
                  have hwi : IntKind.i64.wrap ((i : Int) + 1) = ((i + 1 : Nat) : Int) := wr _ (by omega) (by omega)
                  obtain ⟨w, hw⟩ : ∃ w, W[i]? = some w := ⟨_, List.getElem?_eq_getElem hi⟩
                  have c54w := c54 (List.mem_of_getElem? hw)
                  have et : W.take (i + 1) = W.take i ++ [w] := by rw [List.take_add_one, hw]; rfl
                  simp -implicitDefEqProofs only [go_sem, simprocAttr, r19, List.length_map, hi']
                  refine lpH 147 [20, 21] 300 [] (fun k : Nat => pl.length - k) (fun k => k ≤ pl.length) (fun k ρ h => ρ 20 = .fv (.int (k : Nat))) 0 (Nat.zero_le _) ?_ ?_
                  · simp -implicitDefEqProofs only [go_sem, simprocAttr]
                  · rintro k ρ4 h4 k1 r20
                    by_cases hk : k < pl.length
                    · have hk' : (k : Int) < (pl.length : Nat) := by omega
                      have hwk : IntKind.i64.wrap ((k : Int) + 1) = ((k + 1 : Nat) : Int) := wr _ (by omega) (by omega)
                      have plz : ¬ ((pl.length : Int) = 0) := by omega
                      obtain ⟨p, hp1, hp⟩ : ∃ p : Nat, p < pl.length ∧ ((∃ x, B[i]? = some x ∧ (i : Int) < (B.length : Nat) ∧ IntKind.i64.wrap x = x ∧ IntKind.i64.wrap ((k : Int) + x) = (k : Int) + x ∧ ((k : Int) + x).tmod (pl.length : Nat) = (p : Nat)) ∨ (¬ (i : Int) < (B.length : Nat) ∧ p = k)) := by
                        by_cases hB : i < B.length
                        · obtain ⟨x, hx⟩ : ∃ x, B[i]? = some x := ⟨_, List.getElem?_eq_getElem hB⟩
                          have xb := bB x (List.mem_of_getElem? hx)
                          obtain ⟨t1, t2⟩ := tm_bd (show (0 : Int) ≤ (k : Int) + x by omega) (show (0 : Int) < (pl.length : Nat) by omega)
                          exact ⟨(((k : Int) + x).tmod (pl.length : Nat)).toNat, by omega, .inl ⟨x, hx, by omega, wr _ (by omega) (by omega), wr _ (by omega) (by omega), by omega⟩⟩
                        · exact ⟨k, hk, .inr ⟨by omega, rfl⟩⟩
                      have p6' : p < 6 := by omega
                      have p6i : (p : Int) < 6 := by omega
                      have p6n : p + 1 ≤ 6 := p6'
                      have p1i : (p : Int) < (pl.length : Nat) := by omega
                      have gp : (ints pl)[p]? = some (.int (gI pl (p : Nat))) := ints_getJ hp1
                      have gb := gI_pl2 pb hp1
                      rcases hp with ⟨x, hx, hB1, x1, x2, x3⟩ | ⟨hB1, rfl⟩
                      · simp -implicitDefEqProofs only [go_sem, simprocAttr, r20, r9, o26, ints_length, hk', r19, lenV_ls hB, List.length_map, hB1, index_map hB idx_82 hx rfl, u8, x1, x2, plz, x3]
                        refine W_opsD _ _ _ (Vs []) ?_ ?_
                        · decide
                        cases hc : ot.contains (p : Int) with
                        | true =>
                          simp -implicitDefEqProofs only [go_sem, simprocAttr, g18, o18, p6i, ind_load p6', hc, r20, hwk]
                          refine nxt (k + 1) (by omega) (by omega) ?_
                          simp -implicitDefEqProofs only [go_sem, simprocAttr]
                        | false =>
                          simp -implicitDefEqProofs only [go_sem, simprocAttr, g18, o18, p6i, ind_load p6', hc, r19, o1, o2, hw]
                          refine callD [] false [.fo (c.fv sw sp), .fo (.list false (ints w))] [] c54w ⟨rfl, rfl, trivial⟩ rfl (.inl rfl) ?_
                          by_cases hn : c.nd w ≤ gI pl (p : Nat)
                          · simp -implicitDefEqProofs only [go_sem, simprocAttr, r9, o26, ints_length, p1i, gp, hn, g18, o18, p6i, ind_set p6', ind_len, p6n]
                            refine W_opsD _ _ _ (Vs [[], [], [191], [139]]) ?_ ?_
                            · decide
                            have lo6 : ot.length ≤ 5 := by omega
                            have w1 : IntKind.i64.wrap (longF pl ot + gI pl (p : Nat)) = longF pl ot + gI pl (p : Nat) := wr _ (by omega) (by omega)
                            have hcm : (p : Int) ∉ ot := by simpa using hc
                            simp -implicitDefEqProofs only [go_sem, simprocAttr, r16, r17]
                            refine app_gl (by simp -implicitDefEqProofs only [go_sem, simprocAttr, o139]; rfl) idx_22 (by simp -implicitDefEqProofs only [go_sem, simprocAttr]; rfl) (by simp [FV.cells]) (by simp -implicitDefEqProofs only [go_sem, simprocAttr]) (by simp [byt_3, ints]; omega) (by simp [maxLen, ints]; omega) (by simp) ?_
                            simp -implicitDefEqProofs only [go_sem, simprocAttr, r17, r9, o26, ints_length, p1i, gp, w1, r19, hwi]
                            refine nxt (i + 1, ot ++ [(p : Int)]) (by simp only; omega) ⟨by simp only; omega, by simp; omega, fun e => ?_⟩ ?_
                            · simp only [List.length_append, List.length_singleton] at e
                              simp only
                              rw [et]
                              exact Pkv_snoc hp1 hn (W.take i) [] ot (i3 (by omega)) (by simp) hcm
                            · rw [longF_app]
                              simp -implicitDefEqProofs only [go_sem, simprocAttr, longF, Int.add_zero, ints, List.map_append, List.map_cons, List.map_nil, g18]
                          · simp -implicitDefEqProofs only [go_sem, simprocAttr, r9, o26, ints_length, p1i, gp, hn, r20, hwk]
                            refine nxt (k + 1) (by omega) (by omega) ?_
                            simp -implicitDefEqProofs only [go_sem, simprocAttr]
                      · simp -implicitDefEqProofs only [go_sem, simprocAttr, r20, r9, o26, ints_length, hk', r19, lenV_ls hB, List.length_map, hB1]
                        refine W_opsD _ _ _ (Vs []) ?_ ?_
                        · decide
                        cases hc : ot.contains (p : Int) with
                        | true =>
                          simp -implicitDefEqProofs only [go_sem, simprocAttr, g18, o18, p6i, ind_load p6', hc, r20, hwk]
                          refine nxt (p + 1) (by omega) (by omega) ?_
                          simp -implicitDefEqProofs only [go_sem, simprocAttr]
                        | false =>
                          simp -implicitDefEqProofs only [go_sem, simprocAttr, g18, o18, p6i, ind_load p6', hc, r19, o1, o2, hw]
                          refine callD [] false [.fo (c.fv sw sp), .fo (.list false (ints w))] [] c54w ⟨rfl, rfl, trivial⟩ rfl (.inl rfl) ?_
                          by_cases hn : c.nd w ≤ gI pl (p : Nat)
                          · simp -implicitDefEqProofs only [go_sem, simprocAttr, r9, o26, ints_length, p1i, gp, hn, g18, o18, p6i, ind_set p6', ind_len, p6n]
                            refine W_opsD _ _ _ (Vs [[], [], [191], [139]]) ?_ ?_
                            · decide
                            have lo6 : ot.length ≤ 5 := by omega
                            have w1 : IntKind.i64.wrap (longF pl ot + gI pl (p : Nat)) = longF pl ot + gI pl (p : Nat) := wr _ (by omega) (by omega)
                            have hcm : (p : Int) ∉ ot := by simpa using hc
                            simp -implicitDefEqProofs only [go_sem, simprocAttr, r16, r17]
                            refine app_gl (by simp -implicitDefEqProofs only [go_sem, simprocAttr, o139]; rfl) idx_22 (by simp -implicitDefEqProofs only [go_sem, simprocAttr]; rfl) (by simp [FV.cells]) (by simp -implicitDefEqProofs only [go_sem, simprocAttr]) (by simp [byt_3, ints]; omega) (by simp [maxLen, ints]; omega) (by simp) ?_
                            simp -implicitDefEqProofs only [go_sem, simprocAttr, r17, r9, o26, ints_length, p1i, gp, w1, r19, hwi]
                            refine nxt (i + 1, ot ++ [(p : Int)]) (by simp only; omega) ⟨by simp only; omega, by simp; omega, fun e => ?_⟩ ?_
                            · simp only [List.length_append, List.length_singleton] at e
                              simp only
                              rw [et]
                              exact Pkv_snoc hp1 hn (W.take i) [] ot (i3 (by omega)) (by simp) hcm
                            · rw [longF_app]
                              simp -implicitDefEqProofs only [go_sem, simprocAttr, longF, Int.add_zero, ints, List.map_append, List.map_cons, List.map_nil, g18]
                          · simp -implicitDefEqProofs only [go_sem, simprocAttr, r9, o26, ints_length, p1i, gp, hn, r20, hwk]
                            refine nxt (p + 1) (by omega) (by omega) ?_
                            simp -implicitDefEqProofs only [go_sem, simprocAttr]
                    · have hk' : ¬ (k : Int) < (pl.length : Nat) := by omega
                      simp -implicitDefEqProofs only [go_sem, simprocAttr, r20, r9, o26, ints_length, hk', r19, hwi]
                      refine nxt (i + 1, ot) (by simp only; omega) ⟨by simp only; omega, by simp only; omega, fun e => by simp only at e; omega⟩ ?_
                      simp -implicitDefEqProofs only [go_sem, simprocAttr, r17, r16, o139, g18, o18]
                · have hi' : ¬ (i : Int) < (W.length : Nat) := by omega
                  rw [List.take_of_length_le (by omega)] at i3
                  simp -implicitDefEqProofs only [go_sem, simprocAttr, r19, List.length_map, hi', r16, o139, ints_length]
                  by_cases e : ot.length = W.length
                  · obtain ⟨hE4, hE5⟩ := hE3 ot (i3 (by omega))
                    have z1 : (((ot.length : Nat) : Int) == (W.length : Nat)) = true := beq_iff_eq.2 (by omega)
                    have z2 : ¬ longF pl ot < longF pl l := by omega
                    first
                    | exfalso; omega
                    | rcases hE5 with h6 | ⟨h6, h7⟩
                      · have z3 : (longF pl ot == longF pl l) = false := beq_eq_false_iff_ne.2 (by omega)
                        simp -implicitDefEqProofs only [go_sem, simprocAttr, z1, r17, r13, z2, z3]
                        refine call1 [] false (t17) ?_
                        simp -implicitDefEqProofs only [go_sem, simprocAttr]
                        exact ret_fv
                      · have z3 : (longF pl ot == longF pl l) = true := beq_iff_eq.2 (by omega)
                        have c57 := t57 (sa := .list false (ints ot)) (sb := f) (a := ot) (b := l) rfl hf (by omega) (by omega)
                        have hf2 := cmpL_flip ot l
                        rw [decide_eq_false (by omega)] at c57
                        simp -implicitDefEqProofs only [go_sem, simprocAttr, z1, r17, r13, z2, z3, r16, o139]
                        refine call0 [139] false c57 (by simp -implicitDefEqProofs only [go_sem, simprocAttr, r16, o139]) (.inl rfl) ?_
                        simp -implicitDefEqProofs only [go_sem, simprocAttr]
                        refine call1 [] false (t17) ?_
                        simp -implicitDefEqProofs only [go_sem, simprocAttr]
                        exact ret_fv
                  · have z1 : (((ot.length : Nat) : Int) == (W.length : Nat)) = false := beq_eq_false_iff_ne.2 (by omega)
                    simp -implicitDefEqProofs only [go_sem, simprocAttr, z1]
                    refine call1 [] false (t17) ?_
                    simp -implicitDefEqProofs only [go_sem, simprocAttr]
                    exact ret_fv
end S04

