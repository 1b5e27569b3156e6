/- A part of the proof: Abs29. -/
import Derived.Test.YtncbkgbdpaibmaaAbs23
set_option linter.unusedSimpArgs false
set_option linter.unusedVariables false
namespace Abs
open Go
structure SameC (h h' : AH) : Prop where
  box : ∀ o g, h'.box o g = h.box o g
  lst : ∀ o g, h'.lst o g = h.lst o g
def isCellQ (op : Op) : Bool := isQuiet op && (match op with | .call { callee := .builtin .len, .. } => false | _ => true)
def isMapW : Op → Bool
  | .mapUpdate _ _ _ _ | .mapEntry _ _ _ | .entryStore _ _ _ _ => true
  | _ => false
section
variable {P : Program}
theorem quiet_cells {h h' : AH} (s : SameC h h') {op : Op} (hq : isCellQ op = true) (ev : Operand → LV) : quietV P op ev h' = quietV P op ev h := by
  have hl : ∀ agg n a, loadA h' agg n a = loadA h agg n a := by
    intro agg n a
    unfold loadA
    cases a <;> simp only [s.box, s.lst]
  have hi : ∀ t x i, indexA P h' t x i = indexA P h t x i := by
    intro t x i
    unfold indexA
    simp only [s.lst]
  have hn : ∀ t v x, nilEq P h' t v x = nilEq P h t v x := by
    intro t v x
    unfold nilEq
    simp only [s.lst]
  have he : ∀ t x y, eqV P h' t x y = eqV P h t x y := by
    intro t x y
    unfold eqV
    simp only [hn]
  have hv : ∀ x, viewL h' x = viewL h x := by
    intro x
    unfold viewL
    simp only [s.lst]
  cases op
  case call c =>
    obtain ⟨callee, args, tys⟩ := c
    cases callee <;> (try rfl)
    rename_i b
    cases b <;> first | rfl | (simp [isCellQ] at hq; done)
  case makeFunc fn first caps => cases fn <;> rfl
  all_goals first | rfl | simp only [quietV, hl, hi, he, hv, s.lst]
theorem map_same {h : AH} {o g : Nat} {r : Bool × List (FV × FV)} (hm : h.mpo o g = some r) (fz : Bool) (es : List (FV × FV)) : SameC h (h.set o (.map fz es)) := by
  obtain ⟨rfl, ho⟩ := AH.mpo_spec hm
  refine ⟨fun o' g' => ?_, fun o' g' => ?_⟩
  · unfold AH.box
    by_cases e : o' = o
    · subst e; simp [AH.set, upd, ho]
    · simp [AH.set, upd, e]
  · unfold AH.lst
    by_cases e : o' = o
    · subst e; simp [AH.set, upd, ho]
    · simp [AH.set, upd, e]
theorem mapE_same {d : Option Nat} {op : Op} {ev : Operand → LV} {h : AH} {K : LV → AH → Prop} (hw : isMapW op = true) (hq : mapE P d op ev h K) : mapE P d op ev h (fun lv h' => SameC h h' ∧ K lv h') := by
  cases op <;> (try (simp [isMapW] at hw; done)) <;> simp only [mapE] at hq ⊢
  · obtain ⟨kt, et, o, g, es, k, y, h1, h2, h3, h4, h5, h6, h7, h8, h9, h10⟩ := hq
    exact ⟨kt, et, o, g, es, k, y, h1, h2, h3, h4, h5, h6, h7, h8, fun i y0 hy => ⟨map_same h3 _ _, h9 i y0 hy⟩, fun hn => ⟨map_same h3 _ _, h10 hn⟩⟩
  · obtain ⟨kt, et, o, g, es, k, z, h1, h2, h3, h4, h5, h6, h7, h8, h9, h10⟩ := hq
    exact ⟨kt, et, o, g, es, k, z, h1, h2, h3, h4, h5, h6, h7, h8, fun i y0 hy => ⟨map_same h3 _ _, h9 i y0 hy⟩, fun hn => ⟨map_same h3 _ _, h10 hn⟩⟩
  · obtain ⟨o, g, es, i, k, y0, y, h1, h2, h3, h4, h5, h6⟩ := hq
    exact ⟨o, g, es, i, k, y0, y, h1, h2, h3, h4, h5, map_same h2 _ _, h6⟩
theorem isMapW_map {op : Op} (h : isMapW op = true) : isMap op = true := by cases op <;> first | rfl | (simp [isMapW] at h; done)
theorem stepE_map {d : Option Nat} {op : Op} {ty : Nat} {ev : Operand → LV} {h : AH} {K : LV → AH → Prop} (hw : isMap op = true) : stepE P d op ty ev h K ↔ mapE P d op ev h K := by
  cases op <;> first | (simp [isMap] at hw; done) | (unfold stepE; simp [isMap])
theorem isCellQ_quiet {op : Op} (h : isCellQ op = true) : isQuiet op = true := by simp only [isCellQ, Bool.and_eq_true] at h; exact h.1
theorem outcome_cell {o : SO} (hq : isCellQ o.op = true) {ρ : Nat → LV} {h : AH} {K : LV → AH → Prop} (ho : outcome P o ρ h K) : ∃ lv, K lv h ∧ ∀ (h' : AH) (K' : LV → AH → Prop), SameC h h' → K' lv h' → outcome P o ρ h' K' := by
  rcases ho with ⟨h1, h2⟩ | ⟨h1, h2⟩
  · obtain ⟨lv, h3, h4⟩ := (stepE_quiet (isCellQ_quiet hq)).1 h2
    exact ⟨lv, h4, fun h' K' hs hK => .inl ⟨h1, (stepE_quiet (isCellQ_quiet hq)).2 ⟨lv, by rw [quiet_cells hs hq]; exact h3, hK⟩⟩⟩
  · exact ⟨.tup [], h2, fun h' K' _ hK => .inr ⟨h1, hK⟩⟩
theorem outcome_mapW {o : SO} (hw : isMapW o.op = true) {ρ : Nat → LV} {h : AH} {K : LV → AH → Prop} (ho : outcome P o ρ h K) : outcome P o ρ h (fun lv h' => SameC h h' ∧ K lv h') := by
  rcases ho with ⟨h1, h2⟩ | ⟨h1, h2⟩
  · exact .inl ⟨h1, (stepE_map (isMapW_map hw)).2 (mapE_same hw ((stepE_map (isMapW_map hw)).1 h2))⟩
  · exact .inr ⟨h1, ⟨fun _ _ => rfl, fun _ _ => rfl⟩, h2⟩
theorem outD_swap' {x y : SO} {cx cy : Option Cl} (hf : x.free y = true)
    (hk : ((isPure x.op = true ∧ cx = none) ∨ (isPure y.op = true ∧ cy = none) ∨ (isQuiet x.op = true ∧ isQuiet y.op = true) ∨
      (∃ u v, cx = some u ∧ cy = some v ∧ (∀ o ∈ u.W, o ∈ v.F) ∧ (∀ o ∈ v.W, o ∈ u.F) ∧ ∀ o ∈ u.W, o ∉ v.W)) ∨ (cx = none ∧ cy = none ∧ ((isCellQ x.op = true ∧ isMapW y.op = true) ∨ (isMapW x.op = true ∧ isCellQ y.op = true))))
    {σ : St} {K : St → Prop} (hq : outD P cx x σ.ρ σ.h fun lv h' => outD P cy y (σ.put x.d lv h').ρ h' fun lv' h'' => K ((σ.put x.d lv h').put y.d lv' h'')) :
    outD P cy y σ.ρ σ.h fun lv h' => outD P cx x (σ.put y.d lv h').ρ h' fun lv' h'' => K ((σ.put y.d lv h').put x.d lv' h'') := by
  rcases hk with hk | ⟨rfl, rfl, hk⟩
  · exact outD_swap hf hk hq
  simp only [SO.free, Bool.and_eq_true] at hf
  obtain ⟨hx, hy⟩ := hf
  have hx1 : ∀ k, x.d = some k → k ∉ y.looks := by
    intro k hk; simp only [hk, Bool.and_eq_true] at hx; simpa using hx.1
  have hx2 : ∀ k, x.d = some k → y.d ≠ some k := by
    intro k hk; simp only [hk, Bool.and_eq_true] at hx; simpa using hx.2
  have hy1 : ∀ k, y.d = some k → k ∉ x.looks := by
    intro k hk; simp only [hk] at hy; simpa using hy
  have hput : ∀ (lv lv' : LV) (h1 h2 h3 : AH), (σ.put x.d lv h1).put y.d lv' h3 = (σ.put y.d lv' h2).put x.d lv h3 := fun lv lv' h1 h2 h3 => put_comm hx2
  simp only [outD] at hq ⊢
  rcases hk with ⟨hcx, hwy⟩ | ⟨hwx, hcy⟩
  · obtain ⟨lv, h1, h2⟩ := outcome_cell hcx hq
    rw [outcome_congr hx1] at h1
    refine outcome_mono (fun lv' h' hK => ?_) (outcome_mapW hwy h1)
    rw [outcome_congr hy1]
    refine h2 h' _ hK.1 ?_
    rw [← hput lv lv' σ.h h' h']
    exact hK.2
  · have hq' := outcome_mapW hwx hq
    obtain ⟨lv0, h0, hs0, hK0⟩ := outcome_some hq'
    rw [outcome_congr hx1] at hK0
    obtain ⟨lvy, _, hy2⟩ := outcome_cell hcy hK0
    have hback : SameC h0 σ.h := ⟨fun o g => (hs0.box o g).symm, fun o g => (hs0.lst o g).symm⟩
    refine hy2 σ.h _ hback ?_
    rw [outcome_congr hy1]
    refine outcome_mono (fun lv h' hK => ?_) hq'
    obtain ⟨hs, hK⟩ := hK
    rw [outcome_congr hx1] at hK
    obtain ⟨lv2, hK2, hy3⟩ := outcome_cell hcy hK
    have hb2 : SameC h' h0 := ⟨fun o g => (hs0.box o g).trans (hs.box o g).symm, fun o g => (hs0.lst o g).trans (hs.lst o g).symm⟩
    have : lvy = lv2 := by
      rcases hy2 h0 (fun l _ => l = lvy) ⟨fun _ _ => rfl, fun _ _ => rfl⟩ rfl with ⟨g1, s1⟩ | ⟨g1, s1⟩
      · rcases hy3 h0 (fun l _ => l = lv2) hb2 rfl with ⟨g2, s2⟩ | ⟨g2, s2⟩
        · obtain ⟨l1, e1, e2⟩ := (stepE_quiet (isCellQ_quiet hcy)).1 s1
          obtain ⟨l2, e3, e4⟩ := (stepE_quiet (isCellQ_quiet hcy)).1 s2
          rw [e1] at e3; simp at e3; rw [← e2, ← e4, e3]
        · rw [g1] at g2; simp at g2
      · rcases hy3 h0 (fun l _ => l = lv2) hb2 rfl with ⟨g2, s2⟩ | ⟨g2, s2⟩
        · rw [g1] at g2; simp at g2
        · rw [← s1, ← s2]
    subst this
    rw [← hput lv lvy h' σ.h h']
    exact hK2
end
end Abs

