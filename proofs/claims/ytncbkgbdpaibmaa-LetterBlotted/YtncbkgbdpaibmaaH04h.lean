/- A part of the proof: H04h, H04i, H04j. -/
import Derived.Test.YtncbkgbdpaibmaaH04f
set_option linter.unusedVariables false
set_option linter.unusedSimpArgs false
set_option maxRecDepth 20000
namespace S04
open Go Abs
end S04

namespace S04
open Go Abs
structure Rk (c : Cs) : Prop where
  w : ∀ x ∈ c.W, 1 ≤ x ∧ x ≤ 30
  r0 : 0 ≤ c.R
  r1 : c.R ≤ 20
  l0 : 0 ≤ c.L
  l1 : c.L ≤ 10
  moR : ∀ a b, moR c.P a b = c.mo a b
  mo : ∀ a b, -5 ≤ c.mo a b ∧ c.mo a b ≤ 5
theorem Rk.gw {c : Cs} (ok : Rk c) {x : Int} (h0 : 0 ≤ x) (h1 : x < c.W.length) : c.W[x.toNat]? = some (gI c.W x) ∧ 1 ≤ gI c.W x ∧ gI c.W x ≤ 30 := by
  have := gI_get h0 h1
  exact ⟨this, ok.w _ (List.mem_of_getElem? this)⟩
theorem Rk.ws {c : Cs} (ok : Rk c) : ∀ w : List Int, (∀ x ∈ w, 0 ≤ x ∧ x < c.W.length) → 0 ≤ c.ws w ∧ c.ws w ≤ 30 * w.length
  | [], _ => by simp [Cs.ws]
  | x :: xs, h => by
    have h1 := h x (by simp)
    have := (ok.gw h1.1 h1.2).2
    have := ok.ws xs fun y hy => h y (by simp [hy])
    simp only [Cs.ws, List.length_cons]
    omega
theorem Rk.loo {c : Cs} (ok : Rk c) : ∀ w : List Int, ∀ m ∈ c.loo w, -5 ≤ m ∧ m ≤ 5
  | [], m, h => by simp [Cs.loo] at h
  | [_], m, h => by simp [Cs.loo] at h
  | a :: b :: w, m, h => by
    simp only [Cs.loo, List.mem_cons] at h
    rcases h with rfl | h
    · exact ok.mo a b
    · exact ok.loo (b :: w) m h
end S04

namespace S04
open Go Abs
section
variable {P : Program} {fs : List Fr} {Q : Exit → St → Prop} {d nm : Option Nat} {r : List SO}
theorem app_cp {t e es o g : Nat} {agg : Bool} {s : FV} {ys : List FV} {h : AH} {ρ : Nat → LV} (h1 : h.lst o g = some (e, es, false, false, [])) (h2 : idx P t = some (none, e, agg, es)) (hs : lsOf s = some ys) (h4 : ∀ x ∈ ys, x.cells.length = es)
    (h5 : (zeros P e).isSome = true) (h6 : ys.length * P.bytesOf e ≤ 140737488355328) (h7 : ys.length ≤ maxLen)
    (hk : ∀ g', L P r fs (St.put ⟨ρ, h.renew o g' (.list e es false false ys)⟩ d (.gl o g') (h.renew o g' (.list e es false false ys))) Q) : App P t (.gl o g) (.fv s) h nm d r fs ρ Q := by
  rcases ls_cases hs with ⟨f, rfl⟩ | ⟨rfl, rfl⟩
  · exact app_gl h1 h2 (elemsOf_ls hs _) h4 h5 (by simpa using h6) (by simpa using h7) (by simp) (hk (g + 1))
  · have hg : h.gen o = g ∧ h.obj o = some (.list e es false false []) := by
      unfold AH.lst at h1
      split at h1
      · rename_i hg
        refine ⟨hg, ?_⟩
        split at h1
        · rename_i ho
          simp only [Option.some.injEq, Prod.mk.injEq] at h1
          obtain ⟨rfl, rfl, rfl, rfl, rfl⟩ := h1
          exact ho
        · simp at h1
      · simp at h1
    have e : h.renew o g (.list e es false false []) = h := by
      unfold AH.renew
      obtain ⟨gn, ob, y⟩ := h
      simp only [AH.mk.injEq, and_true]
      refine ⟨?_, ?_⟩
      · funext i
        by_cases hi : i = o
        · subst hi; simp [upd]; exact hg.1.symm
        · simp [upd, hi]
      · funext i
        by_cases hi : i = o
        · subst hi; simp [upd]; exact hg.2.symm
        · simp [upd, hi]
    have := hk g
    rw [e] at this
    exact app_none h1 h2 this
end
end S04

