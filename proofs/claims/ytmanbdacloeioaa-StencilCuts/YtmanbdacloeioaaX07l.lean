/- A part of the proof: X07l, X07m. -/
import Derived.Test.YtmanbdacloeioaaP07al
import Derived.Test.YtmanbdacloeioaaG07y
import Derived.Test.YtmanbdacloeioaaC07t0
set_option linter.unusedVariables false
set_option linter.unusedSimpArgs false
set_option maxRecDepth 20000
namespace S07
open Go Abs
theorem srch_get {α : Type} {f : Nat → Option α} {r : α} : ∀ (n k : Nat), srch f n k = some r → ∃ i, f i = some r
  | 0, _, h => by simp [srch] at h
  | n + 1, k, h => by
    rw [srch] at h
    split at h
    · rename_i r' e; simp at h; subst h; exact ⟨k, e⟩
    · exact srch_get n (k + 1) h
theorem layR_len (N : Int) (H : List (Int × Int)) : ∀ (ws c r : List Int), layR N H ws c = some r → r.length = ws.length
  | [], c, r, h => by simp [layR] at h; subst h; rfl
  | l :: ws, c, r, h => by
    unfold layR at h
    obtain ⟨i, hi⟩ := srch_get _ _ h
    split at hi
    · rw [Option.map_eq_some_iff] at hi
      obtain ⟨r', h1, rfl⟩ := hi
      simp [layR_len N H ws _ r' h1]
    · simp at hi
theorem t33 {st : FV} {N : Int} {hs al : FV} {H A : List (Int × Int)} (v : SetV st N hs al H A) (n0 : 1 ≤ N) (n8 : N ≤ 8) {sw : FV} {w : List Int} (hw : lsOf sw = some (ints w)) (wl : w.length ≤ 1000) : ∀ (n from' : Nat) (sc : FV) (c : List Int), w.length - from' = n → from' ≤ w.length → lsOf sc = some (ints c) → (c.length : Int) = N → (∀ n ∈ c, 0 ≤ n ∧ n ≤ 20) →
    Fn Q 33 [.fo st, .fo sc, .fo sw, .fo (.int from')] (.tup [.fx (lstN (ints ((layR N H (w.drop from') c).getD []))), .fx (.bool (layR N H (w.drop from') c).isSome)]) := by
  intro n
  have c68 := fun x => t68 v x
  have v0 := v
  obtain ⟨rfl, hH, hA, lH, lA⟩ := v
  have o1 := ls_one hH
  have o2 := ls_one hA
  induction n with
  | zero =>
    intro f sc c hn hf hc cl c0
    obtain rfl : f = w.length := by omega
    have eq : (((w.length : Nat) : Int) == ((w.length : Nat) : Int)) = true := by simp
    refine w33 ?_
    dsimp only [c33, sop, gop, nop, qmv, qsg, qex, qld, qcl, qln, qix, qbo, qt, qi]
    simp -implicitDefEqProofs only [go_sem, simprocAttr, o1, o2, lenV_ls hw, ints_len, eq]
    refine ret_tup (fun _ => true) ?_ (by simp [ownNames])
    simp -implicitDefEqProofs only [go_sem, simprocAttr, List.drop_length, layR, Option.getD_some, ints, lstN, List.isEmpty, Option.isSome]
  | succ n ih =>
    intro f sc c hn hf hc cl c0
    have fl : f < w.length := by omega
    obtain ⟨l, hl⟩ : ∃ l, w[f]? = some l := ⟨_, List.getElem?_eq_getElem fl⟩
    have ne : (((f : Nat) : Int) == ((w.length : Nat) : Int)) = false := beq_eq_false_iff_ne.2 (by omega)
    rw [drop_get hl]
    obtain ⟨F, hF⟩ : ∃ F : Nat → Option (List Int), F = fun st : Nat => if ((st : Int) = l ∨ headF H (st : Int) = l) ∧ gI c (st : Nat) ≠ 0 then (layR N H (w.drop (f + 1)) (addAt c (st : Nat) (-1))).map ((st : Int) :: ·) else none := ⟨_, rfl⟩
    have eL : layR N H (l :: w.drop (f + 1)) c = srch F N.toNat 0 := by rw [hF]; rfl
    generalize hLL : layR N H (l :: w.drop (f + 1)) c = LL at *
    have hwf : IntKind.i64.wrap ((f : Int) + 1) = ((f + 1 : Nat) : Int) := wr _ (by omega) (by omega)
    rcases ls_cases hc with ⟨fg, rfl⟩ | ⟨rfl, e⟩
    rotate_left
    · have : c = [] := by simpa [ints] using e
      rw [this] at cl; simp at cl; omega
    refine w33 ?_
    dsimp only [c33, sop, gop, nop, qmv, qsg, qex, qld, qcl, qln, qix, qbo, qt, qi]
    simp -implicitDefEqProofs only [go_sem, simprocAttr, o1, o2, lenV_ls hw, ints_len, ne]
    refine lpH 18 [10, 11, 12, 13] 18 [] (fun k : Nat => N.toNat - k) (fun k => k ≤ N.toNat ∧ ∀ i, i < k → F i = none) (fun k ρ h => ρ 10 = .fv (.int k)) 0 ⟨by omega, fun i hi => by omega⟩ (by simp -implicitDefEqProofs only [go_sem, simprocAttr]) ?_
    rintro k ρ h ⟨hk, hno⟩ r10
    by_cases q : k < N.toNat
    · have q' : (k : Int) < N := by omega
      have hwk : IntKind.i64.wrap ((k : Int) + 1) = ((k + 1 : Nat) : Int) := wr _ (by omega) (by omega)
      have kc : (k : Int) < (c.length : Nat) := by omega
      have gk : (ints c)[k]? = some (.int (gI c (k : Nat))) := by
        have := ints_get (l := c) (i := (k : Int)) (by omega) (by omega)
        simpa using this
      have gb := c0 _ (gI_mem (p := c) (i := k) (by omega))
      have ex : F k = if ((k : Int) = l ∨ headF H (k : Int) = l) ∧ gI c (k : Nat) ≠ 0 then (layR N H (w.drop (f + 1)) (addAt c (k : Nat) (-1))).map ((k : Int) :: ·) else none := by rw [hF]
      by_cases e1 : (k : Int) = l
      · have e1' : ((k : Int) != l) = false := by simpa using e1
        by_cases z : gI c (k : Nat) = 0
        · have z' : (gI c (k : Nat) == 0) = true := by simpa using z
          simp -implicitDefEqProofs only [go_sem, simprocAttr, r10, q', index_map hw idx_26 hl rfl, e1']
          refine W_opsD _ _ _ (Vs []) ?_ ?_
          · decide
          simp -implicitDefEqProofs only [go_sem, simprocAttr, r10, index_map hw idx_26 hl rfl, e1', ints_len, kc, gk, z', hwk]
          refine nxt (k + 1) (by omega) ⟨by omega, fun i hi => ?_⟩ ?_
          · by_cases e : i = k
            · subst e; rw [ex, if_neg (fun h => h.2 z)]
            · exact hno i (by omega)
          · simp -implicitDefEqProofs only [go_sem, simprocAttr]
        · have z' : (gI c (k : Nat) == 0) = false := by simpa using z
          have hcand : ((k : Int) = l ∨ headF H (k : Int) = l) := .inl e1
          simp -implicitDefEqProofs only [go_sem, simprocAttr, r10, q', index_map hw idx_26 hl rfl, e1']
          refine W_opsD _ _ _ (Vs []) ?_ ?_
          · decide
          simp -implicitDefEqProofs only [go_sem, simprocAttr, r10, index_map hw idx_26 hl rfl, e1', ints_len, kc, gk, z', hwk]
          have ws : IntKind.i64.wrap (gI c (k : Nat) - 1) = gI c (k : Nat) - 1 := wr _ (by omega) (by omega)
          have ea : c.set k (gI c (k : Nat) - 1) = addAt c (k : Nat) (-1) := by
            unfold addAt
            rw [Int.toNat_natCast, show c.getD k 0 = gI c (k : Nat) by simp [gI]]; rfl
          have g1 : 1 ≤ gI c (k : Nat) := by have : gI c (k : Nat) ≠ 0 := z; omega
          have c1 := ih (f + 1) (.list false (ints (addAt c (k : Nat) (-1)))) (addAt c (k : Nat) (-1)) (by omega) (by omega) rfl (by rw [addAt_len]; exact cl) (addAt_dec c0 g1)
          refine app_gl (ys := ints c) (by simp -implicitDefEqProofs only [go_sem, simprocAttr]; rfl) idx_26 (by simp -implicitDefEqProofs only [go_sem, simprocAttr]) (fun x hx => (ints_elem c x hx).1) (by simp -implicitDefEqProofs only [go_sem, simprocAttr]) (by simp [byt_3, ints]; omega) (by simp [maxLen, ints]; omega) (by simp) ?_
          simp -implicitDefEqProofs only [go_sem, simprocAttr, r10, ints_len, kc, gk, ws]
          refine sto_elem (by rfl) (by rfl) (by rfl) (by simp -implicitDefEqProofs only [go_sem, simprocAttr]; rfl) gk (by decide) ?_
          simp -implicitDefEqProofs only [go_sem, simprocAttr, FV.withCells, ints_set, ea, o1, o2, hwf]
          refine call0 [47] false c1 (by simp -implicitDefEqProofs only [go_sem, simprocAttr]) (.inl rfl) ?_
          rw [if_pos ⟨hcand, z⟩] at ex
          cases hr : layR N H (w.drop (f + 1)) (addAt c (k : Nat) (-1)) with
          | none =>
            rw [hr] at ex
            simp -implicitDefEqProofs only [go_sem, simprocAttr, Option.isSome, r10, hwk]
            refine nxt (k + 1) (by omega) ⟨by omega, fun i hi => ?_⟩ ?_
            · by_cases e : i = k
              · subst e; rw [ex]; rfl
              · exact hno i (by omega)
            · simp -implicitDefEqProofs only [go_sem, simprocAttr]
          | some r =>
            rw [hr] at ex
            have hLs : LL = some ((k : Int) :: r) := by rw [eL]; exact srch_some ex _ _ (by omega) (by omega) fun i _ hi => hno i hi
            have rl := layR_len N H _ _ _ hr
            have rl' : r.length ≤ 1000 := by rw [rl, List.length_drop]; omega
            cases r with
            | nil =>
              simp -implicitDefEqProofs only [go_sem, simprocAttr, Option.isSome, Option.getD_some, ints, lstN, List.isEmpty, r10]
              refine app_none (by simp -implicitDefEqProofs only [go_sem, simprocAttr]; rfl) idx_26 ?_
              simp -implicitDefEqProofs only [go_sem, simprocAttr]
              refine ret_tup (fun _ => true) ?_ (by simp [ownNames])
              simp -implicitDefEqProofs only [go_sem, simprocAttr, hLs, Option.getD_some, ints, lstN, List.isEmpty, Option.isSome]
            | cons y ys =>
              simp -implicitDefEqProofs only [go_sem, simprocAttr, Option.isSome, Option.getD_some, ints, lstN, List.isEmpty, r10]
              refine app_gl (ys := ints (y :: ys)) (by simp -implicitDefEqProofs only [go_sem, simprocAttr]; rfl) idx_26 (by simp -implicitDefEqProofs only [go_sem, simprocAttr, ints]) (fun x hx => (ints_elem _ x hx).1) (by simp -implicitDefEqProofs only [go_sem, simprocAttr]) (by simp [byt_3, ints] at rl' ⊢; omega) (by simp [maxLen, ints] at rl' ⊢; omega) (by simp) ?_
              simp -implicitDefEqProofs only [go_sem, simprocAttr]
              refine ret_tup (fun _ => true) ?_ (by simp [ownNames])
              simp -implicitDefEqProofs only [go_sem, simprocAttr, hLs, Option.getD_some, ints, lstN, List.isEmpty, Option.isSome]
      · have e1' : ((k : Int) != l) = true := by simpa using e1
        by_cases e2 : headF H (k : Int) = l
        · have e2' : (headF H (k : Int) != l) = false := by simpa using e2
          by_cases z : gI c (k : Nat) = 0
          · have z' : (gI c (k : Nat) == 0) = true := by simpa using z
            simp -implicitDefEqProofs only [go_sem, simprocAttr, r10, q', index_map hw idx_26 hl rfl, e1']
            refine W_opsD _ _ _ (Vs []) ?_ ?_
            · decide
            simp -implicitDefEqProofs only [go_sem, simprocAttr, r10, index_map hw idx_26 hl rfl, e1', o1, o2]
            refine callD [] false [.fo (.agg [.int N, hs, al]), .fo (.int (k : Nat))] [] (c68 (k : Nat)) ⟨rfl, rfl, trivial⟩ rfl (.inl rfl) ?_
            simp -implicitDefEqProofs only [go_sem, simprocAttr, r10, index_map hw idx_26 hl rfl, e2', ints_len, kc, gk, z', hwk]
            refine nxt (k + 1) (by omega) ⟨by omega, fun i hi => ?_⟩ ?_
            · by_cases e : i = k
              · subst e; rw [ex, if_neg (fun h => h.2 z)]
              · exact hno i (by omega)
            · simp -implicitDefEqProofs only [go_sem, simprocAttr]
          · have z' : (gI c (k : Nat) == 0) = false := by simpa using z
            have hcand : ((k : Int) = l ∨ headF H (k : Int) = l) := .inr e2
            simp -implicitDefEqProofs only [go_sem, simprocAttr, r10, q', index_map hw idx_26 hl rfl, e1']
            refine W_opsD _ _ _ (Vs []) ?_ ?_
            · decide
            simp -implicitDefEqProofs only [go_sem, simprocAttr, r10, index_map hw idx_26 hl rfl, e1', o1, o2]
            refine callD [] false [.fo (.agg [.int N, hs, al]), .fo (.int (k : Nat))] [] (c68 (k : Nat)) ⟨rfl, rfl, trivial⟩ rfl (.inl rfl) ?_
            simp -implicitDefEqProofs only [go_sem, simprocAttr, r10, index_map hw idx_26 hl rfl, e2', ints_len, kc, gk, z', hwk]
            have ws : IntKind.i64.wrap (gI c (k : Nat) - 1) = gI c (k : Nat) - 1 := wr _ (by omega) (by omega)
            have ea : c.set k (gI c (k : Nat) - 1) = addAt c (k : Nat) (-1) := by
              unfold addAt
              rw [Int.toNat_natCast, show c.getD k 0 = gI c (k : Nat) by simp [gI]]; rfl
            have g1 : 1 ≤ gI c (k : Nat) := by have : gI c (k : Nat) ≠ 0 := z; omega
            have c1 := ih (f + 1) (.list false (ints (addAt c (k : Nat) (-1)))) (addAt c (k : Nat) (-1)) (by omega) (by omega) rfl (by rw [addAt_len]; exact cl) (addAt_dec c0 g1)
            refine app_gl (ys := ints c) (by simp -implicitDefEqProofs only [go_sem, simprocAttr]; rfl) idx_26 (by simp -implicitDefEqProofs only [go_sem, simprocAttr]) (fun x hx => (ints_elem c x hx).1) (by simp -implicitDefEqProofs only [go_sem, simprocAttr]) (by simp [byt_3, ints]; omega) (by simp [maxLen, ints]; omega) (by simp) ?_
            simp -implicitDefEqProofs only [go_sem, simprocAttr, r10, ints_len, kc, gk, ws]
            refine sto_elem (by rfl) (by rfl) (by rfl) (by simp -implicitDefEqProofs only [go_sem, simprocAttr]; rfl) gk (by decide) ?_
            simp -implicitDefEqProofs only [go_sem, simprocAttr, FV.withCells, ints_set, ea, o1, o2, hwf]
            refine call0 [47] false c1 (by simp -implicitDefEqProofs only [go_sem, simprocAttr]) (.inl rfl) ?_
            rw [if_pos ⟨hcand, z⟩] at ex
            cases hr : layR N H (w.drop (f + 1)) (addAt c (k : Nat) (-1)) with
            | none =>
              rw [hr] at ex
              simp -implicitDefEqProofs only [go_sem, simprocAttr, Option.isSome, r10, hwk]
              refine nxt (k + 1) (by omega) ⟨by omega, fun i hi => ?_⟩ ?_
              · by_cases e : i = k
                · subst e; rw [ex]; rfl
                · exact hno i (by omega)
              · simp -implicitDefEqProofs only [go_sem, simprocAttr]
            | some r =>
              rw [hr] at ex
              have hLs : LL = some ((k : Int) :: r) := by rw [eL]; exact srch_some ex _ _ (by omega) (by omega) fun i _ hi => hno i hi
              have rl := layR_len N H _ _ _ hr
              have rl' : r.length ≤ 1000 := by rw [rl, List.length_drop]; omega
              cases r with
              | nil =>
                simp -implicitDefEqProofs only [go_sem, simprocAttr, Option.isSome, Option.getD_some, ints, lstN, List.isEmpty, r10]
                refine app_none (by simp -implicitDefEqProofs only [go_sem, simprocAttr]; rfl) idx_26 ?_
                simp -implicitDefEqProofs only [go_sem, simprocAttr]
                refine ret_tup (fun _ => true) ?_ (by simp [ownNames])
                simp -implicitDefEqProofs only [go_sem, simprocAttr, hLs, Option.getD_some, ints, lstN, List.isEmpty, Option.isSome]
              | cons y ys =>
                simp -implicitDefEqProofs only [go_sem, simprocAttr, Option.isSome, Option.getD_some, ints, lstN, List.isEmpty, r10]
                refine app_gl (ys := ints (y :: ys)) (by simp -implicitDefEqProofs only [go_sem, simprocAttr]; rfl) idx_26 (by simp -implicitDefEqProofs only [go_sem, simprocAttr, ints]) (fun x hx => (ints_elem _ x hx).1) (by simp -implicitDefEqProofs only [go_sem, simprocAttr]) (by simp [byt_3, ints] at rl' ⊢; omega) (by simp [maxLen, ints] at rl' ⊢; omega) (by simp) ?_
                simp -implicitDefEqProofs only [go_sem, simprocAttr]
                refine ret_tup (fun _ => true) ?_ (by simp [ownNames])
                simp -implicitDefEqProofs only [go_sem, simprocAttr, hLs, Option.getD_some, ints, lstN, List.isEmpty, Option.isSome]
        · have e2' : (headF H (k : Int) != l) = true := by simpa using e2
          have z' : True := trivial
          simp -implicitDefEqProofs only [go_sem, simprocAttr, r10, q', index_map hw idx_26 hl rfl, e1']
          refine W_opsD _ _ _ (Vs []) ?_ ?_
          · decide
          simp -implicitDefEqProofs only [go_sem, simprocAttr, r10, index_map hw idx_26 hl rfl, e1', o1, o2]
          refine callD [] false [.fo (.agg [.int N, hs, al]), .fo (.int (k : Nat))] [] (c68 (k : Nat)) ⟨rfl, rfl, trivial⟩ rfl (.inl rfl) ?_
          simp -implicitDefEqProofs only [go_sem, simprocAttr, r10, index_map hw idx_26 hl rfl, e2', ints_len, kc, gk, z', hwk]
          have z : ¬ (((k : Int) = l ∨ headF H (k : Int) = l)) := by rintro (h | h); exact e1 h; exact e2 h
          refine nxt (k + 1) (by omega) ⟨by omega, fun i hi => ?_⟩ ?_
          · by_cases e : i = k
            · subst e; rw [ex, if_neg (fun h => z h.1)]
            · exact hno i (by omega)
          · simp -implicitDefEqProofs only [go_sem, simprocAttr]
    · obtain rfl : k = N.toNat := by omega
      have q' : ¬ ((N.toNat : Nat) : Int) < N := by omega
      have hnone : LL = none := by rw [eL]; exact srch_none _ _ fun i _ hi => hno i (by omega)
      simp -implicitDefEqProofs only [go_sem, simprocAttr, r10, q']
      refine ret_tup (fun _ => true) ?_ (by simp [ownNames])
      simp -implicitDefEqProofs only [go_sem, simprocAttr, hnone, Option.getD_none, ints, lstN, List.isEmpty, Option.isSome]
end S07

namespace S07
open Go Abs
theorem wu {n : Nat} (h : n ≤ 1000) : IntKind.u64.wrap (n : Int) = (n : Int) := by
  unfold IntKind.wrap
  simp [IntKind.signed, IntKind.bits]
  omega
theorem t69 (s : Nat) {m : Nat} (hm : m ≤ 60) : Fn Q 69 [.fo (.int (s : Nat)), .fo (.int (m : Nat))] (.one (.fx (.list false (ints (idxT 0 (maskF s m)))))) := by
  refine w69 ?_
  dsimp only [c69, sop, gop, nop, qmv, qsg, qex, qld, qcl, qln, qix, qbo, qt, qi]
  simp -implicitDefEqProofs only [go_sem, simprocAttr]
  refine lpH 8 [5, 6] 8 [7] (fun k : Nat => m - k) (fun k => k ≤ m) (fun k ρ h => ρ 6 = .fv (.int k) ∧ ρ 5 = .gl 7 (h.gen 7) ∧ h.obj 7 = some (.list 3 1 false false (ints (idxT 0 (maskF s k))))) 0 (by omega) (by simp -implicitDefEqProofs only [go_sem, simprocAttr]; rfl) ?_
  rintro k ρ h hk ⟨r6, r5, o7⟩
  by_cases q : k < m
  · have q' : (k : Int) < (m : Nat) := by omega
    have hwk : IntKind.i64.wrap ((k : Int) + 1) = ((k + 1 : Nat) : Int) := wr _ (by omega) (by omega)
    have k0 : ¬ ((k : Int) < 0) := by omega
    have e6 : min k 64 = k := by omega
    have hb := bit_int s k
    have il : (idxT 0 (maskF s k)).length ≤ k := by rw [idxT_len]; have := List.length_filter_le id (maskF s k); rw [mask_len] at this; exact this
    have es : idxT 0 (maskF s (k + 1)) = idxT 0 (maskF s k) ++ if Nat.testBit s k then [(k : Int)] else [] := by
      rw [mask_succ, idxT_app, mask_len, Nat.zero_add]
    cases b : Nat.testBit s k with
    | true =>
      rw [b] at hb es
      simp only [if_true] at hb es
      simp -implicitDefEqProofs only [go_sem, simprocAttr, r6, q', wu (show k ≤ 1000 by omega), k0, e6, hb, r5]
      refine app_gl (by simp -implicitDefEqProofs only [go_sem, simprocAttr, o7]; rfl) idx_26 (by simp -implicitDefEqProofs only [go_sem, simprocAttr]; rfl) (by simp [FV.cells]) (by simp -implicitDefEqProofs only [go_sem, simprocAttr]) (by simp [byt_3, ints]; omega) (by simp [maxLen, ints]; omega) (by simp) ?_
      simp -implicitDefEqProofs only [go_sem, simprocAttr, r6, hwk]
      refine nxt (k + 1) (by omega) (by omega) ?_
      simp -implicitDefEqProofs only [go_sem, simprocAttr, es, ints, List.map_append]
    | false =>
      rw [b] at hb es
      simp only [Bool.false_eq_true, if_false, List.append_nil] at hb es
      simp -implicitDefEqProofs only [go_sem, simprocAttr, r6, q', wu (show k ≤ 1000 by omega), k0, e6, hb, hwk]
      refine nxt (k + 1) (by omega) (by omega) ?_
      simp -implicitDefEqProofs only [go_sem, simprocAttr, es, r5, o7]
  · obtain rfl : k = m := by omega
    have q' : ¬ ((k : Nat) : Int) < (k : Nat) := by omega
    simp -implicitDefEqProofs only [go_sem, simprocAttr, r6, q', r5]
    exact ret_fx (fun _ => true) (by simp -implicitDefEqProofs only [go_sem, simprocAttr, o7])
def bestV (ρ7 : LV) : Option (List Int) → Prop
  | none => ρ7 = .gl 15 1
  | some b => ρ7 = .fv (.list false (ints b))
theorem t34 {st : FV} {N : Int} {hs al : FV} {H A : List (Int × Int)} (v : SetV st N hs al H A) (eA : errA N H A = 0) {sc sw : FV} {c w : List Int} (hc : lsOf sc = some (ints c)) (hw : lsOf sw = some (ints w)) (co : CntB N c) (wl : w.length ≤ 6) (wb : ∀ l ∈ w, 0 ≤ l ∧ l < N) :
    Fn Q 34 [.fo st, .fo sc, .fo sw] (.one (.fx (.list false (ints (lackR N H A c w))))) := by
  obtain ⟨n0, n8, _⟩ := errA_ok eA
  have c69 := fun s => t69 s (m := w.length) (by omega)
  have c33 := fun {sr : FV} {r : List Int} (hr : lsOf sr = some (ints r)) hl => t33 v n0 n8 hr hl r.length 0 sc c (by omega) (by omega) hc co.len co.bd
  have c62 := fun {a b : List Int} (la : a.length ≤ 1000000) (lb : b.length ≤ 1000000) => t62 (sa := .list false (ints a)) (sb := .list false (ints b)) (a := a) (b := b) rfl rfl la lb
  obtain ⟨rfl, hH, hA, lH, lA⟩ := v
  have o1 := ls_one hH
  have o2 := ls_one hA
  have lmin := fun bs h h' => lack_min eA co wb (bs := bs) h h'
  have lfea := lack_feas eA co wb
  obtain ⟨s0, hs0, hm0⟩ := mask_surj (fl0 (alOf N H A) c w)
  rw [fl0_len] at hs0 hm0
  rw [lackR_is eA co wb]
  have pw : (2 : Nat) ^ w.length ≤ 64 := by
    have := Nat.pow_le_pow_right (show 0 < 2 by decide) wl
    simpa using this
  have pwi : (2 : Int) ^ w.length = ((2 ^ w.length : Nat) : Int) := by push_cast; rfl
  have hsh : IntKind.i64.wrap (1 * 2 ^ min w.length 64) = ((2 ^ w.length : Nat) : Int) := by
    rw [show min w.length 64 = w.length by omega, pwi, wr _ (by omega) (by omega)]; omega
  have wn0 : ¬ ((w.length : Int) < 0) := by omega
  refine w34 ?_
  dsimp only [c34, sop, gop, nop, qmv, qsg, qex, qld, qcl, qln, qix, qbo, qt, qi]
  simp -implicitDefEqProofs only [go_sem, simprocAttr, o1, o2]
  refine lpH 16 [7, 8, 9, 10, 11, 12, 13, 14] 16 [] (fun a : Nat × Option (List Int) => 2 ^ w.length - a.1) (fun a => a.1 ≤ 2 ^ w.length ∧ (a.2 = none → ∀ s, s < a.1 → (layR N H (fal w (maskF s w.length)) c).isSome = false) ∧ (∀ b, a.2 = some b → (∃ s, s < a.1 ∧ (layR N H (fal w (maskF s w.length)) c).isSome = true ∧ b = idxT 0 (maskF s w.length)) ∧ ∀ s, s < a.1 → (layR N H (fal w (maskF s w.length)) c).isSome = true → leL b (idxT 0 (maskF s w.length))))
    (fun a ρ h => ρ 9 = .fv (.int a.1) ∧ bestV (ρ 7) a.2 ∧ ρ 8 = .fv (.bool a.2.isSome)) (0, none) ⟨by omega, fun _ s hs => by omega, fun b hb => by simp at hb⟩ (by simp -implicitDefEqProofs only [go_sem, simprocAttr, bestV, Option.isSome]) ?_
  rintro ⟨S, best⟩ ρ h ⟨hS, hn, hb⟩ ⟨r9, r7, r8⟩
  dsimp only at hS hn hb r9 r7 r8
  by_cases q : S < 2 ^ w.length
  · have q' : (S : Int) < ((2 ^ w.length : Nat) : Int) := by omega
    have hwS : IntKind.i64.wrap ((S : Int) + 1) = ((S + 1 : Nat) : Int) := wr _ (by omega) (by omega)
    simp -implicitDefEqProofs only [go_sem, simprocAttr, r9, lenV_ls hw, ints_len, wu (show w.length ≤ 1000 by omega), wn0, hsh, q']
    refine call1 [] false (c69 S) ?_
    simp -implicitDefEqProofs only [go_sem, simprocAttr]
    have ml := mask_len S w.length
    have Ll : (idxT 0 (maskF S w.length)).length ≤ 6 := by
      rw [idxT_len]; have := List.length_filter_le id (maskF S w.length); omega
    refine lpL (β := Unit) 29 [11, 12] 29 [28] w (by omega) (fun _ _ _ => True) (fun i _ ρ h => ρ 12 = .fv (.int i) ∧ ρ 11 = .gl 28 (h.gen 28) ∧ h.obj 28 = some (.list 3 1 false false (ints (fal (w.take i) ((maskF S w.length).take i))))) () trivial (by simp -implicitDefEqProofs only [go_sem, simprocAttr, List.take_zero, fal, ints]) ?_ ?_
    · rintro _ ρ2 h2 _ ⟨r12, r11, o28⟩
      rw [List.take_length, List.take_of_length_le (by omega)] at o28
      have hfl := fal_len w (maskF S w.length)
      have c33' := c33 (sr := .list false (ints (fal w (maskF S w.length)))) (r := fal w (maskF S w.length)) rfl (by omega)
      rw [List.drop_zero] at c33'
      cases best with
      | none =>
        have hless : ∀ s, s < S → (layR N H (fal w (maskF s w.length)) c).isSome = true → leL (idxT 0 (maskF S w.length)) (idxT 0 (maskF s w.length)) := fun s hs hfs => by rw [hn rfl s hs] at hfs; simp at hfs
        simp only [Option.isSome] at r8
        simp -implicitDefEqProofs only [go_sem, simprocAttr, r12, lenV_ls hw, ints_len, r8]
        simp -implicitDefEqProofs only [go_sem, simprocAttr, o1, o2, r11]
        refine call0 [28] false c33' (by simp -implicitDefEqProofs only [go_sem, simprocAttr, o28]) (.inl rfl) ?_
        cases hf : layR N H (fal w (maskF S w.length)) c with
        | none =>
          simp -implicitDefEqProofs only [go_sem, simprocAttr, Option.isSome, Option.getD_none]
          simp -implicitDefEqProofs only [go_sem, simprocAttr, r9, hwS]
          refine nxt (S + 1, none) (by simp only; omega) ⟨by simp only; omega, ?_, ?_⟩ ?_
          · intro e s hs
            by_cases es : s = S
            · subst es; rw [hf]
            · exact hn e s (by omega)
          · intro b hb'
            obtain ⟨⟨s1, h1, h2, h3⟩, h4⟩ := hb b hb'
            refine ⟨⟨s1, Nat.lt_succ_of_lt h1, h2, h3⟩, fun s hs hfs => ?_⟩
            by_cases es : s = S
            · subst es; rw [hf] at hfs; simp at hfs
            · exact h4 s (by simp only at hs; omega) hfs
          · simp -implicitDefEqProofs only [go_sem, simprocAttr, r8, Option.isSome, o28]
            exact r7
        | some rr =>
          simp -implicitDefEqProofs only [go_sem, simprocAttr, Option.isSome]
          simp -implicitDefEqProofs only [go_sem, simprocAttr, r9, hwS]
          refine nxt (S + 1, some (idxT 0 (maskF S w.length))) (by simp only; omega) ⟨by simp only; omega, ?_, ?_⟩ ?_
          · intro e; simp at e
          · intro b hb'
            simp only [Option.some.injEq] at hb'
            subst hb'
            refine ⟨⟨S, Nat.lt_succ_self S, by rw [hf], rfl⟩, fun s hs hfs => ?_⟩
            by_cases es : s = S
            · subst es; exact leL_refl _
            · exact hless s (by simp only at hs; omega) hfs
          · simp -implicitDefEqProofs only [go_sem, simprocAttr, bestV, Option.isSome, o28]
      | some b =>
        obtain ⟨⟨s1, hs1, f1, eb⟩, hmn⟩ := hb b rfl
        have bl : b.length ≤ 6 := by
          rw [eb, idxT_len]; have := List.length_filter_le id (maskF s1 w.length); have := mask_len s1 w.length; omega
        have bsm : ∀ n ∈ b, 0 ≤ n ∧ n ≤ 1000000 := fun n hn => by rw [eb] at hn; have := idxT_small (m := w.length) (by rw [mask_len]; exact Nat.le_refl _) n hn; omega
        have Lsm : ∀ n ∈ idxT 0 (maskF S w.length), 0 ≤ n ∧ n ≤ 1000000 := fun n hn => by have := idxT_small (m := w.length) (by rw [mask_len]; exact Nat.le_refl _) n hn; omega
        simp only [Option.isSome] at r8
        have r7' : ρ 7 = .fv (.list false (ints b)) := r7
        have keep : leL b (idxT 0 (maskF S w.length)) → (∀ e : (some b : Option (List Int)) = none, ∀ s, s < S + 1 → (layR N H (fal w (maskF s w.length)) c).isSome = false) ∧ ∀ b', some b = some b' → (∃ s, s < S + 1 ∧ (layR N H (fal w (maskF s w.length)) c).isSome = true ∧ b' = idxT 0 (maskF s w.length)) ∧ ∀ s, s < S + 1 → (layR N H (fal w (maskF s w.length)) c).isSome = true → leL b' (idxT 0 (maskF s w.length)) := by
          intro hle
          refine ⟨fun e => by simp at e, fun b' e => ?_⟩
          simp only [Option.some.injEq] at e
          subst e
          refine ⟨⟨s1, by omega, f1, eb⟩, fun s hs hfs => ?_⟩
          by_cases es : s = S
          · subst es; exact hle
          · exact hmn s (by omega) hfs
        by_cases g1 : b.length < (idxT 0 (maskF S w.length)).length
        · have g1' : ((b.length : Nat) : Int) < ((idxT 0 (maskF S w.length)).length : Nat) := by omega
          simp -implicitDefEqProofs only [go_sem, simprocAttr, r12, lenV_ls hw, ints_len, r8, r7', g1']
          simp -implicitDefEqProofs only [go_sem, simprocAttr, r9, hwS]
          refine nxt (S + 1, some b) (by simp only; omega) ⟨by simp only; omega, ?_, ?_⟩ ?_
          · exact (keep (.inl g1)).1
          · exact (keep (.inl g1)).2
          · simp -implicitDefEqProofs only [go_sem, simprocAttr, r7', r8, bestV, Option.isSome]
        · have g1' : ¬ ((b.length : Nat) : Int) < ((idxT 0 (maskF S w.length)).length : Nat) := by omega
          by_cases g2 : (idxT 0 (maskF S w.length)).length = b.length
          · have g2' : ((((idxT 0 (maskF S w.length)).length : Nat) : Int) == ((b.length : Nat) : Int)) = true := by simp; omega
            have hol := ord_lex (idxT 0 (maskF S w.length)) b g2 Lsm bsm
            have c62' := c62 (a := idxT 0 (maskF S w.length)) (b := b) (by omega) (by omega)
            by_cases g3 : 0 < ordF (idxT 0 (maskF S w.length)) b
            · have hle : leL b (idxT 0 (maskF S w.length)) := .inr ⟨g2.symm, lex_total _ _ g2 (hol.1 g3)⟩
              simp -implicitDefEqProofs only [go_sem, simprocAttr, r12, lenV_ls hw, ints_len, r8, r7', g1', g2']
              refine call1 [] false (c62') ?_
              simp -implicitDefEqProofs only [go_sem, simprocAttr, g3]
              simp -implicitDefEqProofs only [go_sem, simprocAttr, r9, hwS]
              refine nxt (S + 1, some b) (by simp only; omega) ⟨by simp only; omega, ?_, ?_⟩ ?_
              · exact (keep hle).1
              · exact (keep hle).2
              · simp -implicitDefEqProofs only [go_sem, simprocAttr, r7', r8, bestV, Option.isSome]
            · have hLb : leL (idxT 0 (maskF S w.length)) b := .inr ⟨g2, by
                cases e : lex (idxT 0 (maskF S w.length)) b with
                | true => rfl
                | false => exact absurd (hol.2 e) g3⟩
              have hless : ∀ s, s < S → (layR N H (fal w (maskF s w.length)) c).isSome = true → leL (idxT 0 (maskF S w.length)) (idxT 0 (maskF s w.length)) := fun s hs hfs => leL_trans hLb (hmn s hs hfs)
              simp -implicitDefEqProofs only [go_sem, simprocAttr, r12, lenV_ls hw, ints_len, r8, r7', g1', g2']
              refine call1 [] false (c62') ?_
              simp -implicitDefEqProofs only [go_sem, simprocAttr, g3]
              simp -implicitDefEqProofs only [go_sem, simprocAttr, o1, o2, r11]
              refine call0 [28] false c33' (by simp -implicitDefEqProofs only [go_sem, simprocAttr, o28]) (.inl rfl) ?_
              cases hf : layR N H (fal w (maskF S w.length)) c with
              | none =>
                simp -implicitDefEqProofs only [go_sem, simprocAttr, Option.isSome, Option.getD_none]
                simp -implicitDefEqProofs only [go_sem, simprocAttr, r9, hwS]
                refine nxt (S + 1, some b) (by simp only; omega) ⟨by simp only; omega, ?_, ?_⟩ ?_
                · intro e s hs
                  by_cases es : s = S
                  · subst es; rw [hf]
                  · exact hn e s (by omega)
                · intro b hb'
                  obtain ⟨⟨s1, h1, h2, h3⟩, h4⟩ := hb b hb'
                  refine ⟨⟨s1, Nat.lt_succ_of_lt h1, h2, h3⟩, fun s hs hfs => ?_⟩
                  by_cases es : s = S
                  · subst es; rw [hf] at hfs; simp at hfs
                  · exact h4 s (by simp only at hs; omega) hfs
                · simp -implicitDefEqProofs only [go_sem, simprocAttr, r8, Option.isSome, o28]
                  exact r7
              | some rr =>
                simp -implicitDefEqProofs only [go_sem, simprocAttr, Option.isSome]
                simp -implicitDefEqProofs only [go_sem, simprocAttr, r9, hwS]
                refine nxt (S + 1, some (idxT 0 (maskF S w.length))) (by simp only; omega) ⟨by simp only; omega, ?_, ?_⟩ ?_
                · intro e; simp at e
                · intro b hb'
                  simp only [Option.some.injEq] at hb'
                  subst hb'
                  refine ⟨⟨S, Nat.lt_succ_self S, by rw [hf], rfl⟩, fun s hs hfs => ?_⟩
                  by_cases es : s = S
                  · subst es; exact leL_refl _
                  · exact hless s (by simp only at hs; omega) hfs
                · simp -implicitDefEqProofs only [go_sem, simprocAttr, bestV, Option.isSome, o28]
          · have g2' : ((((idxT 0 (maskF S w.length)).length : Nat) : Int) == ((b.length : Nat) : Int)) = false := beq_eq_false_iff_ne.2 (by omega)
            have hLb : leL (idxT 0 (maskF S w.length)) b := .inl (by omega)
            have hless : ∀ s, s < S → (layR N H (fal w (maskF s w.length)) c).isSome = true → leL (idxT 0 (maskF S w.length)) (idxT 0 (maskF s w.length)) := fun s hs hfs => leL_trans hLb (hmn s hs hfs)
            simp -implicitDefEqProofs only [go_sem, simprocAttr, r12, lenV_ls hw, ints_len, r8, r7', g1', g2']
            simp -implicitDefEqProofs only [go_sem, simprocAttr, o1, o2, r11]
            refine call0 [28] false c33' (by simp -implicitDefEqProofs only [go_sem, simprocAttr, o28]) (.inl rfl) ?_
            cases hf : layR N H (fal w (maskF S w.length)) c with
            | none =>
              simp -implicitDefEqProofs only [go_sem, simprocAttr, Option.isSome, Option.getD_none]
              simp -implicitDefEqProofs only [go_sem, simprocAttr, r9, hwS]
              refine nxt (S + 1, some b) (by simp only; omega) ⟨by simp only; omega, ?_, ?_⟩ ?_
              · intro e s hs
                by_cases es : s = S
                · subst es; rw [hf]
                · exact hn e s (by omega)
              · intro b hb'
                obtain ⟨⟨s1, h1, h2, h3⟩, h4⟩ := hb b hb'
                refine ⟨⟨s1, Nat.lt_succ_of_lt h1, h2, h3⟩, fun s hs hfs => ?_⟩
                by_cases es : s = S
                · subst es; rw [hf] at hfs; simp at hfs
                · exact h4 s (by simp only at hs; omega) hfs
              · simp -implicitDefEqProofs only [go_sem, simprocAttr, r8, Option.isSome, o28]
                exact r7
            | some rr =>
              simp -implicitDefEqProofs only [go_sem, simprocAttr, Option.isSome]
              simp -implicitDefEqProofs only [go_sem, simprocAttr, r9, hwS]
              refine nxt (S + 1, some (idxT 0 (maskF S w.length))) (by simp only; omega) ⟨by simp only; omega, ?_, ?_⟩ ?_
              · intro e; simp at e
              · intro b hb'
                simp only [Option.some.injEq] at hb'
                subst hb'
                refine ⟨⟨S, Nat.lt_succ_self S, by rw [hf], rfl⟩, fun s hs hfs => ?_⟩
                by_cases es : s = S
                · subst es; exact leL_refl _
                · exact hless s (by simp only at hs; omega) hfs
              · simp -implicitDefEqProofs only [go_sem, simprocAttr, bestV, Option.isSome, o28]
    · rintro l ls i _ ρ2 h2 hx hi hm hi' hwi _ ⟨r12, r11, o28⟩
      have hmg := mask_get (s := S) hi
      have et := fal_take w (maskF S w.length) i l _ hx hmg
      have hbi := bit_int S i
      have i0 : ¬ ((i : Int) < 0) := by omega
      have e6 : min i 64 = i := by omega
      have fl := fal_len (w.take i) ((maskF S w.length).take i)
      rw [List.length_take] at fl
      cases b : Nat.testBit S i with
      | true =>
        rw [b] at hbi et
        simp only [if_true, List.append_nil] at hbi et
        simp -implicitDefEqProofs only [go_sem, simprocAttr, r12, lenV_ls hw, ints_len, hi', r9, wu (show i ≤ 1000 by omega), i0, e6, hbi, hwi]
        refine nxtL () trivial ?_
        simp -implicitDefEqProofs only [go_sem, simprocAttr, et, r11, o28]
      | false =>
        rw [b] at hbi et
        simp only [Bool.false_eq_true, if_false] at hbi et
        simp -implicitDefEqProofs only [go_sem, simprocAttr, r12, lenV_ls hw, ints_len, hi', r9, wu (show i ≤ 1000 by omega), i0, e6, hbi, index_map hw idx_26 hx rfl, r11]
        refine app_gl (by simp -implicitDefEqProofs only [go_sem, simprocAttr, o28]; rfl) idx_26 (by simp -implicitDefEqProofs only [go_sem, simprocAttr]; rfl) (by simp [FV.cells]) (by simp -implicitDefEqProofs only [go_sem, simprocAttr]) (by simp [byt_3, ints]; omega) (by simp [maxLen, ints]; omega) (by simp) ?_
        simp -implicitDefEqProofs only [go_sem, simprocAttr, r12, hwi]
        refine nxtL () trivial ?_
        simp -implicitDefEqProofs only [go_sem, simprocAttr, et, ints, List.map_append]
  · obtain rfl : S = 2 ^ w.length := by omega
    have q' : ¬ (((2 ^ w.length : Nat) : Int) < ((2 ^ w.length : Nat) : Int)) := by omega
    rw [← hm0] at lfea
    cases best with
    | none => rw [hn rfl s0 hs0] at lfea; simp at lfea
    | some b =>
      obtain ⟨⟨s1, hs1, f1, eb⟩, hmn⟩ := hb b rfl
      have e1 := hmn s0 hs0 lfea
      have e2 := lmin (maskF s1 w.length) (mask_len _ _) f1
      rw [hm0] at e1
      rw [← eb] at e2
      have r7' : ρ 7 = .fv (.list false (ints b)) := r7
      simp -implicitDefEqProofs only [go_sem, simprocAttr, r9, lenV_ls hw, ints_len, wu (show w.length ≤ 1000 by omega), wn0, hsh, q', r7']
      exact ret_eq (by rw [leL_anti e1 e2])
end S07

