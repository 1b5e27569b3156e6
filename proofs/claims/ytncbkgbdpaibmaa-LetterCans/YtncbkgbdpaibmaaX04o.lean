/- A part of the proof: X04o. -/
import Derived.Test.YtncbkgbdpaibmaaP04b
import Derived.Test.YtncbkgbdpaibmaaX04a
import Derived.Test.YtncbkgbdpaibmaaC04s0
set_option linter.unusedVariables false
set_option linter.unusedSimpArgs false
set_option maxRecDepth 20000
namespace S04
open Go Abs
theorem ints_getJ {l : List Int} {i : Nat} (h2 : i < l.length) : (ints l)[i]? = some (.int (gI l (i : Nat))) := by have := gI_get (p := l) (i := (i : Int)) (by omega) (by omega); rw [Int.toNat_natCast] at this; simp [ints, this]
theorem t48 {s : FV} {w : List Int} (hs : lsOf s = some (ints w)) (hl : w.length ≤ 1000) : Fn Q 48 [.fo s] (.one (.fx (.int ((blF w 0).length : Nat)))) := by
  refine w48 ?_
  dsimp only [c48, sop, gop, nop, qmv, qsg, qex, qld, qcl, qln, qix, qbo, qt, qi]
  simp -implicitDefEqProofs only [go_sem, simprocAttr]
  refine lpL (β := Nat) 5 [3, 4] 5 [] w (by omega) (fun xs k n => n + (blF xs 0).length = (blF w 0).length ∧ n ≤ k) (fun k n ρ h => ρ 4 = .fv (.int (k : Nat)) ∧ ρ 3 = .fv (.int (n : Nat))) 0 ⟨by simp, by omega⟩ ?_ ?_ ?_
  · simp -implicitDefEqProofs only [go_sem, simprocAttr]
  · rintro n ρ h ⟨e, _⟩ ⟨r4, r3⟩
    simp only [blF, List.length_nil, Nat.add_zero] at e
    simp -implicitDefEqProofs only [go_sem, simprocAttr, r4, r3, lenV_ls hs, ints_length]
    exact ret_eq (by rw [e])
  · rintro x xs k n ρ h hx hk hm hk' hw ⟨e, nk⟩ ⟨r4, r3⟩
    have wn : IntKind.i64.wrap ((n : Int) + 1) = ((n + 1 : Nat) : Int) := wr _ (by omega) (by omega)
    by_cases hx1 : x = -1
    · have hb : (x == -1) = true := by simpa using hx1
      simp -implicitDefEqProofs only [go_sem, simprocAttr, r4, r3, lenV_ls hs, ints_length, hk', index_map hs idx_22 hx rfl, hb, wn, hw]
      refine nxtL (n + 1) ⟨by rw [← e, blF, if_pos hx1, List.length_cons, blF_len xs (0 + 1) 0]; omega, by omega⟩ ?_
      simp -implicitDefEqProofs only [go_sem, simprocAttr]
    · have hb : (x == -1) = false := by simpa using hx1
      simp -implicitDefEqProofs only [go_sem, simprocAttr, r4, r3, lenV_ls hs, ints_length, hk', index_map hs idx_22 hx rfl, hb, wn, hw]
      refine nxtL n ⟨by rw [← e, blF, if_neg hx1, blF_len xs (0 + 1) 0], by omega⟩ ?_
      simp -implicitDefEqProofs only [go_sem, simprocAttr, r3]
theorem sqs_len (n : Nat) : ∀ k, (sqs n k).length = n ^ k
  | 0 => rfl
  | k + 1 => by
    rw [sqs, List.length_flatMap, List.map_congr_left (g := fun _ => n ^ k) (fun x _ => by simp [sqs_len n k])]
    have : ∀ l : List Int, (l.map fun _ => n ^ k).sum = l.length * n ^ k := by
      intro l
      induction l with
      | nil => simp
      | cons x l ih => simp [ih, Nat.succ_mul, Nat.add_comm]
    rw [this]
    simp [numFrom, Nat.pow_succ, Nat.mul_comm]
theorem rds_len {n : Nat} {w : List Int} (n8 : n ≤ 8) (b2 : (blF w 0).length ≤ 2) : (rds n w).length ≤ 64 := by
  unfold rds
  rw [List.length_map, sqs_len]
  have h1 := Nat.pow_le_pow_left n8 (blF w 0).length
  have h2 := Nat.pow_le_pow_right (show 0 < 8 by decide) b2
  omega
def rdsV (n : Nat) (s : FV) (w : List Int) : FV := if -1 ∈ w then .list false (lsW (rds n w)) else .list false [s]
theorem rdsV_fx (n : Nat) (w : List Int) : rdsV n (.list false (ints w)) w = .list false (lsW (rds n w)) := by
  unfold rdsV
  split
  · rfl
  · rename_i h
    rw [rds_none h]
    rfl
theorem rds_mem {n : Nat} {w w' : List Int} (h : w' ∈ rds n w) : w'.length = w.length := by
  unfold rds at h
  rw [List.mem_map] at h
  obtain ⟨ys, _, rfl⟩ := h
  exact flB_len w ys
theorem t106 {c : Cs} {sw sp : FV} (v : CV c sw sp) (n8 : c.W.length ≤ 8) : ∀ (k : Nat) {s : FV} {w : List Int}, lsOf s = some (ints w) → w.length ≤ 1000 → (blF w 0).length = k → k ≤ 2 → Fn Q 106 [.fo (c.fv sw sp), .fo s] (.one (.fx (rdsV c.W.length s w)))
  | k, s, w, hs, hl, hk, k2 => by
    have o1 := ls_one v.w
    have o2 := ls_one v.p
    have o3 := ls_one hs
    have o4 := ls_fone hs
    have ih := fun (j : Nat) (hj : j < k) {w : List Int} (hl : w.length ≤ 1000) (hk : (blF w 0).length = j) => t106 v n8 j (s := .list false (ints w)) (w := w) rfl hl hk (by omega)
    refine w106 ?_
    dsimp only [c106, sop, gop, nop, qmv, qsg, qex, qld, qcl, qln, qix, qbo, qt, qi]
    simp -implicitDefEqProofs only [go_sem, simprocAttr, o1, o2]
    refine lpL (β := Unit) 9 [5] 9 [] w (by omega) (fun xs k _ => w.drop k = xs ∧ -1 ∉ w.take k) (fun k _ ρ h => ρ 5 = .fv (.int (k : Nat))) () ⟨rfl, by simp⟩ ?_ ?_ ?_
    · simp -implicitDefEqProofs only [go_sem, simprocAttr]
    · rintro _ ρ h ⟨_, hn⟩ r5
      rw [List.take_length] at hn
      simp -implicitDefEqProofs only [go_sem, simprocAttr, r5, lenV_ls hs, ints_length, o3, ls_cells hs, o4]
      refine ret_fx (fun _ => true) ?_
      simp -implicitDefEqProofs only [go_sem, simprocAttr, rdsV, if_neg hn]
    · rintro x xs i _ ρ h hx hi hm hi' hw ⟨hd, hn⟩ r5
      by_cases hx1 : x = -1
      · have hb : (x != -1) = false := by simp [hx1]
        simp -implicitDefEqProofs only [go_sem, simprocAttr, r5, lenV_ls hs, ints_length, hi', index_map hs idx_22 hx rfl, hb]
        obtain ⟨a, b, hw', hal⟩ : ∃ a b, w = a ++ -1 :: b ∧ a.length = i := ⟨w.take i, xs, by conv => lhs; rw [← List.take_append_drop i w, hd, hx1], by simp; omega⟩
        have ha : -1 ∉ a := by rw [hw', List.take_append_of_le_length (by omega), List.take_of_length_le (by omega)] at hn; exact hn
        have hmem : -1 ∈ w := by rw [hw']; simp
        have ebl : (blF w 0).length = (blF b 0).length + 1 := by
          rw [hw', blF_app, blF_none a 0 ha, blF, if_pos rfl]
          simp [blF_len b (a.length + 1) 0]
        have ebx : ∀ x : Int, x ≠ -1 → (blF (a ++ x :: b) 0).length = (blF b 0).length := fun x h => by
          rw [blF_app, blF_none a 0 ha, blF, if_neg h]
          simp [blF_len b (a.length + 1) 0]
        have erd : rds c.W.length w = (numFrom 0 c.W.length).flatMap fun x => rds c.W.length (a ++ x :: b) := by rw [hw']; exact rds_first ha
        obtain ⟨f, rfl⟩ : ∃ f, s = .list f (ints w) := by
          rcases ls_cases hs with ⟨f, rfl⟩ | ⟨rfl, e⟩
          · exact ⟨f, rfl⟩
          · exact absurd (show w.length = 0 by have := congrArg List.length e; simpa [ints] using this) (by omega)
        refine lpH 21 [6, 7, 8] 20 [] (fun k : Nat => c.W.length - k) (fun k => k ≤ c.W.length ∧ ((numFrom 0 k).flatMap fun x => rds c.W.length (a ++ x :: b)).length ≤ 64 * k) (fun k ρ h => ρ 7 = .fv (.int (k : Nat)) ∧ ρ 6 = .gl 20 (h.gen 20) ∧ h.obj 20 = some (.list 22 1 false false (lsW ((numFrom 0 k).flatMap fun x => rds c.W.length (a ++ x :: b))))) 0 ⟨Nat.zero_le _, by simp [numFrom]⟩ ?_ ?_
        · simp -implicitDefEqProofs only [go_sem, simprocAttr]
          rfl
        · rintro z ρ2 h2 ⟨hz, hzl⟩ ⟨r7, r6, o20⟩
          by_cases hzn : z < c.W.length
          · have hz' : (z : Int) < (c.W.length : Nat) := by omega
            have hwz : IntKind.i64.wrap ((z : Int) + 1) = ((z + 1 : Nat) : Int) := wr _ (by omega) (by omega)
            have es : w.set i (z : Int) = a ++ (z : Int) :: b := by rw [hw', List.set_append_right _ _ (by omega), hal, Nat.sub_self, List.set_cons_zero]
            have el : (a ++ (z : Int) :: b).length = w.length := by rw [← es, List.length_set]
            have ez := ebx (z : Int) (by omega)
            have c106 := ih (blF b 0).length (by omega) (w := a ++ (z : Int) :: b) (by omega) ez
            rw [rdsV_fx] at c106
            have rl := rds_len (n := c.W.length) (w := a ++ (z : Int) :: b) n8 (by omega)
            have en : (numFrom 0 (z + 1)).flatMap (fun x => rds c.W.length (a ++ x :: b)) = ((numFrom 0 z).flatMap fun x => rds c.W.length (a ++ x :: b)) ++ rds c.W.length (a ++ (z : Int) :: b) := by
              rw [numFr_app, List.flatMap_append]
              simp [numFrom]
            have hbx : (blF (a ++ (z : Int) :: b) 0).length ≤ 2 := by omega
            simp -implicitDefEqProofs only [go_sem, simprocAttr, r7, lenV_ls v.w, ints_length, hz']
            refine app_gl (ys := ints w) (by simp -implicitDefEqProofs only [go_sem, simprocAttr]; rfl) idx_22 (by simp -implicitDefEqProofs only [go_sem, simprocAttr]) (fun x hx => (ints_elem w x hx).1) (by simp -implicitDefEqProofs only [go_sem, simprocAttr]) (by simp [byt_3, ints]; omega) (by simp [maxLen, ints]; omega) (by simp) ?_
            have ii : (0 : Int) ≤ (i : Nat) ∧ (i : Int) < (w.length : Nat) := by omega
            simp -implicitDefEqProofs only [go_sem, simprocAttr, r5, r7, ii.1, ii.2, ints_length, List.nil_append]
            refine sto_elem (by rfl) (by rfl) (by rfl) (by simp -implicitDefEqProofs only [go_sem, simprocAttr]; rfl) (ints_getJ (l := w) (i := i) (by omega)) (by decide) ?_
            simp -implicitDefEqProofs only [go_sem, simprocAttr, FV.withCells, ints_set, Int.toNat_natCast, es, r6, o1, o2]
            refine call0 [28] false c106 (by simp -implicitDefEqProofs only [go_sem, simprocAttr, o20, lstN, ints]) (.inl rfl) ?_
            simp -implicitDefEqProofs only [go_sem, simprocAttr, r6, o20, r7, hwz]
            refine app_gl (by simp -implicitDefEqProofs only [go_sem, simprocAttr, o20]; rfl) idx_56 (by simp -implicitDefEqProofs only [go_sem, simprocAttr]; rfl) (by simp [FV.cells]) (by simp -implicitDefEqProofs only [go_sem, simprocAttr]) (by simp only [byt_22, lsW, List.length_map]; omega) (by simp only [maxLen, lsW, List.length_map]; omega) (by simp) ?_
            simp -implicitDefEqProofs only [go_sem, simprocAttr, r7, hwz]
            refine nxt (z + 1) (by omega) ⟨by omega, by rw [en, List.length_append]; omega⟩ ?_
            simp -implicitDefEqProofs only [go_sem, simprocAttr, en, List.map_append]
          · obtain rfl : z = c.W.length := by omega
            have hz' : ¬ (c.W.length : Int) < (c.W.length : Nat) := by omega
            simp -implicitDefEqProofs only [go_sem, simprocAttr, r7, lenV_ls v.w, ints_length, hz', r6]
            refine ret_fx (fun _ => true) ?_
            simp -implicitDefEqProofs only [go_sem, simprocAttr, o20, rdsV, if_pos hmem, erd]
      · have hb : (x != -1) = true := by simpa using hx1
        simp -implicitDefEqProofs only [go_sem, simprocAttr, r5, lenV_ls hs, ints_length, hi', index_map hs idx_22 hx rfl, hb, hw]
        refine nxtL () ⟨(drop_tail hd).1, ?_⟩ ?_
        · rw [List.take_add_one, hx]
          simp only [Option.toList, List.mem_append, List.mem_singleton, not_or]
          exact ⟨hn, fun e => hx1 e.symm⟩
        · simp -implicitDefEqProofs only [go_sem, simprocAttr]
end S04

