/- A part of the proof: Abs23. -/
import Derived.Test.YtmanbdacloeioaaAbs21
set_option linter.unusedSimpArgs false
set_option linter.unusedVariables false
namespace Abs
open Go
open Go.RowKit (Below)
section
variable {P : Program} {N W : List Nat} {h g : AH}

theorem callE0_frame (a : Agree N h g) (hW : ∀ o ∈ W, o ∉ N) {d : Option Nat} {f : LV} {args : List LV} (hf : avoid N true h 6 f = true) (hav : ∀ x ∈ args, avoid N true h 6 x = true) {K : LV → AH → Prop}
    (hq : callE0 P d f args h (fun lv h' => Agree W h h' ∧ K lv h')) : callE0 P d f args g (fun lv g' => ∃ h', Agree W h h' ∧ K lv h' ∧ Tr N g h' g') := by
  obtain ⟨os, own, hq⟩ := hq
  obtain ⟨a1, t0⟩ := frz_agree a os
  refine ⟨os.filter fun o => !N.contains o, own, ?_⟩
  have hg : (h.frzObjs os).gen = h.gen := (frzObjs_gen os h).1
  cases f with
  | clos f caps =>
    obtain ⟨as, cs, r, h1, h2, h3, h4, h5, h6⟩ := hq
    obtain ⟨e1, t1⟩ := impR_frame a1 d r hW hg h5
    rw [avoid_clos] at hf
    have hc : ∀ c ∈ caps, avoid N true (h.frzObjs os) 6 c = true := fun c hc => by rw [avoid_frz]; exact avoid_succ 5 c (List.all_eq_true.1 hf c hc)
    exact ⟨as, cs, r, argsOf_frame a1 (fun x hx => by rw [avoid_frz]; exact hav x hx) h1, (mapO_congr fun c h => a1.peek (hc c h)).trans h2, h3, h4, _, h5, by rw [e1]; exact h6, t0.trans' t1⟩
  | fv x =>
    cases x with
    | clos f cs =>
      obtain ⟨as, r, h1, h3, h4, h5, h6⟩ := hq
      obtain ⟨e1, t1⟩ := impR_frame a1 d r hW hg h5
      exact ⟨as, r, argsOf_frame a1 (fun x hx => by rw [avoid_frz]; exact hav x hx) h1, h3, h4, _, h5, by rw [e1]; exact h6, t0.trans' t1⟩
    | _ => exact hq.elim
  | fn gg =>
    obtain ⟨xs, r, h1, h2, h3, h4, h5⟩ := hq
    exact ⟨xs, r, (mapO_congr fun c h => a1.peek (by rw [avoid_frz]; exact hav c h)).trans h1, h2, h3, _, h4, h5, t0⟩
  | _ => exact hq.elim

theorem effV_frame (a : Agree N h g) (hW : ∀ o ∈ W, o ∉ N) {d : Option Nat} {op : Op} {ty : Nat} {ev : Operand → LV} (hav : ∀ x ∈ op.operands, avoid N false h 6 (ev x) = true) {K : LV → AH → Prop}
    (hq : effV P d op ty ev h (fun lv h' => Agree W h h' ∧ K lv h')) : effV P d op ty ev g (fun lv g' => ∃ h', Agree W h h' ∧ K lv h' ∧ Tr N g h' g') := by
  have mem : ∀ {d : Nat} {ob : AObj}, Agree W h (h.new d ob) → d ∉ N := fun h1 => hW _ (new_mem h1 (Nat.le_refl _))
  have gn : ∀ {d : Nat}, d ∉ N → g.gen d = h.gen d := fun hd => (a _ hd).1
  cases op <;> (try exact hq)
  case assign x =>
    unfold effV at hq ⊢
    split at hq
    · split at hq
      · rename_i d e agg es hd hi
        obtain ⟨h1, h2, h3⟩ := hq
        have hd := mem h2
        refine ⟨h1, _, h2, ?_, a.tr.new hd _⟩
        rw [gn hd]; exact h3
      · exact ⟨h, hq.1, hq.2, a.tr⟩
    · exact ⟨h, hq.1, hq.2, a.tr⟩
    all_goals (rename_i e; first | exact hq.elim | (simp at e; done))
  case box t x =>
    simp only [effV] at hq ⊢
    split at hq
    · obtain ⟨h1, h2, h3, h4⟩ := hq
      have hd := mem h3
      refine ⟨h1, h2, _, h3, ?_, a.tr.new hd _⟩
      rw [gn hd]; exact h4
    · exact hq.elim
  case alloc t =>
    simp only [effV] at hq ⊢
    split at hq
    · obtain ⟨h3, h4⟩ := hq
      have hd := mem h3
      refine ⟨_, h3, ?_, a.tr.new hd _⟩
      rw [gn hd]; exact h4
    · exact hq.elim
  case buildSlice t n parts =>
    simp only [effV] at hq ⊢
    split at hq
    · obtain ⟨h1, h2, h3, h4, xs, h', h5, h6, h7, h8⟩ := hq
      obtain ⟨g1, e1, t1, q1⟩ := frzAll_frame a (cs := parts.toList.map fun p => ev p.2) (fun c hc => by
        simp only [List.mem_map] at hc
        obtain ⟨p, hp, rfl⟩ := hc
        exact hav p.2 (by simp [Op.operands]; exact ⟨p.1, by simpa using hp⟩)) h5
      have hd := hW _ (new_mem h7 (by rw [q1]; exact Nat.le_refl _))
      refine ⟨h1, h2, h3, h4, xs, g1, e1, h6, _, h7, ?_, t1.new hd _⟩
      rw [((t1 _).1 hd).1]; exact h8
    · exact hq.elim
  case makeSlice t l c =>
    simp only [effV] at hq ⊢
    split at hq
    · obtain ⟨h1, h2, h3, h4, h5, zs, h6, h7, h8, h9⟩ := hq
      have hd := mem h8
      refine ⟨h1, h2, h3, h4, h5, zs, h6, h7, _, h8, ?_, a.tr.new hd _⟩
      rw [gn hd]; exact h9
    · exact hq.elim
  case store t ad x =>
    simp only [effV] at hq ⊢
    have hx := hav x (by simp [Op.operands])
    have had := hav ad (by simp [Op.operands])
    split at hq
    · rename_i agg n o gg off hl he
      rw [he] at had
      have ho : o ∉ N := by rw [avoid_ptr] at had; simp only [Bool.and_eq_true] at had; exact not_mem_of had.1
      obtain ⟨cs, h1, h2, h3, h4, h5, h6⟩ := hq
      exact ⟨cs, by rw [a.box ho]; exact h1, h2, h3, h4, _, h5, h6, a.tr.set ho _⟩
    · rename_i agg n o gg es i off hl he
      rw [he] at had
      have ho : o ∉ N := not_mem_of had
      obtain ⟨fs, h', h1, h2, h3, e, nil, xs, y, h4, h5, h6, h7, h8⟩ := hq
      obtain ⟨g1, e1, t1, q1⟩ := frzS_frame a (fun c hc => avoid_cells hx c hc) h1
      exact ⟨fs, g1, e1, h2, h3, e, nil, xs, y, by rw [t1.agree.lst ho]; exact h4, h5, h6, _, h7, h8, t1.set ho _⟩
    · exact hq.elim
  case call c =>
    obtain ⟨callee, args, tys⟩ := c
    cases callee <;> (try exact hq)
    rename_i b
    have hav' : ∀ x ∈ args, avoid N false h 6 (ev x) = true := fun x hx => hav x (by simp [Op.operands, Call.operands, hx])
    cases b <;> (try exact hq)
    case append =>
      simp only [effV] at hq ⊢
      split at hq
      · rename_i s x t t' ha ht
        have hs := hav' s (by rw [← Array.mem_toList_iff, ha]; simp)
        have hx := hav' x (by rw [← Array.mem_toList_iff, ha]; simp)
        refine ⟨hq.1, ?_⟩
        have hq := hq.2
        split at hq
        · rename_i o gg he hex
          rw [he] at hs
          have ho : o ∉ N := not_mem_of hs
          obtain ⟨e, es, nil, xs, h1, h2, h3, h4⟩ := hq
          exact ⟨e, es, nil, xs, by rw [a.lst ho]; exact h1, h2, h, h3, h4, a.tr⟩
        · rename_i o gg he hne
          rw [he] at hs
          have ho : o ∉ N := not_mem_of hs
          obtain ⟨e, es, nil, xs, ys, h1, h2, h3, h4, h5, h6, h7, h8, h9⟩ := hq
          exact ⟨e, es, nil, xs, ys, by rw [a.lst ho]; exact h1, h2, elems_frame a hx h3, h4, h5, h6, h7, _, h8, h9, a.tr.renew ho _ _⟩
        · obtain ⟨e, es, d', ys, h1, h2, h3, h4, h5, h6, h7, h8, h9, h10⟩ := hq
          have hd := mem h9
          refine ⟨e, es, d', ys, h1, h2, h3, elems_frame a hx h4, h5, h6, h7, h8, _, h9, ?_, a.tr.new hd _⟩
          rw [gn hd]; exact h10
        · obtain ⟨e, es, d', ys, h1, h2, h3, h4, h5, h6, h7, h8, h9, h10, h11, h12⟩ := hq
          have hd := mem h11
          refine ⟨e, es, d', ys, h1, h2, h3, elems_frame a hx h4, h5, h6, h7, h8, h9, h10, _, h11, ?_, a.tr.new hd _⟩
          rw [gn hd]; exact h12
        · exact hq.elim
      · exact hq.elim
    case copy =>
      simp only [effV] at hq ⊢
      split at hq
      · rename_i s x t tl ha ht
        have hs := hav' s (by rw [← Array.mem_toList_iff, ha]; simp)
        have hx := hav' x (by rw [← Array.mem_toList_iff, ha]; simp)
        split at hq
        · rename_i o gg he
          rw [he] at hs
          have ho : o ∉ N := not_mem_of hs
          obtain ⟨e, es, nil, xs, ys, h1, h2, h3, h4, h5, h6, h7⟩ := hq
          exact ⟨e, es, nil, xs, ys, by rw [a.lst ho]; exact h1, h2, elems_frame a hx h3, h4, h5, _, h6, h7, a.tr.set ho _⟩
        · exact hq.elim
      · exact hq.elim

theorem not_call {op : Op} (hne : ∀ (f : Operand) (args : Array Operand) (tys : Array Nat), op = Op.call { callee := .value f, args := args, argTypes := tys } → False) : isCall op = false := by
  cases op <;> (try rfl)
  rename_i c
  obtain ⟨callee, args, tys⟩ := c
  cases callee <;> (try rfl)
  exact (hne _ _ _ rfl).elim

theorem stepE0_frame (a : Agree N h g) (hW : ∀ o ∈ W, o ∉ N) {d : Option Nat} {op : Op} {ty : Nat} {ev : Operand → LV} (hav : ∀ x ∈ op.operands, avoid N (isCall op) h 6 (ev x) = true) {K : LV → AH → Prop}
    (hq : stepE0 P d op ty ev h (fun lv h' => Agree W h h' ∧ K lv h')) : stepE0 P d op ty ev g (fun lv g' => ∃ h', Agree W h h' ∧ K lv h' ∧ Tr N g h' g') := by
  unfold stepE0 at hq ⊢
  split at hq
  · rename_i f args tys
    refine callE0_frame a hW (hav f (by simp [Op.operands, Call.operands])) (fun x hx => ?_) hq
    simp only [List.mem_map] at hx
    obtain ⟨y, hy, rfl⟩ := hx
    exact hav y (by simp [Op.operands, Call.operands]; exact .inr (by simpa using hy))
  · rename_i op' hne
    have hav' : ∀ x ∈ op.operands, avoid N false h 6 (ev x) = true := by
      intro x hx
      have := hav x hx
      rwa [not_call hne] at this
    split at hq
    · rename_i he
      rw [if_pos he]
      exact effV_frame a hW hav' hq
    · rename_i he
      rw [if_neg he]
      obtain ⟨lv, h1, h2, h3⟩ := hq
      exact ⟨lv, a.quiet hav' h1, h, h2, h3, a.tr⟩

theorem callE0_mono {d : Option Nat} {f : LV} {args : List LV} {K K' : LV → AH → Prop} (hK : ∀ lv h, K lv h → K' lv h) (hq : callE0 P d f args h K) : callE0 P d f args h K' := by
  obtain ⟨os, own, hq⟩ := hq
  refine ⟨os, own, ?_⟩
  cases f with
  | clos f caps =>
    obtain ⟨as, cs, r, h1, h2, h3, h4, h5⟩ := hq
    exact ⟨as, cs, r, h1, h2, h3, h4, hK _ _ h5⟩
  | fv x =>
    cases x with
    | clos f cs =>
      obtain ⟨as, r, h1, h3, h4, h5⟩ := hq
      exact ⟨as, r, h1, h3, h4, hK _ _ h5⟩
    | _ => exact hq.elim
  | fn gg =>
    obtain ⟨xs, r, h1, h2, h3, h4⟩ := hq
    exact ⟨xs, r, h1, h2, h3, hK _ _ h4⟩
  | _ => exact hq.elim
theorem stepE0_mono {d : Option Nat} {op : Op} {ty : Nat} {ev : Operand → LV} {K K' : LV → AH → Prop} (hK : ∀ lv h, K lv h → K' lv h) (hq : stepE0 P d op ty ev h K) : stepE0 P d op ty ev h K' := by
  unfold stepE0 at hq ⊢
  split at hq
  · exact callE0_mono hK hq
  · rename_i op' hne
    split at hq
    · rename_i he; rw [if_pos he]; exact effV_mono hK hq
    · rename_i he; rw [if_neg he]; obtain ⟨lv, h1, h2⟩ := hq; exact ⟨lv, h1, hK _ _ h2⟩
theorem stepE0_congr {d : Option Nat} {op : Op} {ty : Nat} {ev ev' : Operand → LV} {h : AH} {K : LV → AH → Prop} (hev : ∀ x ∈ op.operands, ev x = ev' x) (hq : stepE0 P d op ty ev h K) : stepE0 P d op ty ev' h K := by
  unfold stepE0 at hq ⊢
  split at hq
  · rename_i f args tys
    rw [← hev f (by simp [Op.operands, Call.operands]), ← map_ev (args := args) fun x hx => hev x (by simp [Op.operands, Call.operands, hx])]
    exact hq
  · rename_i op' hne
    split at hq
    · rename_i he; rw [if_pos he]; exact effV_congr hev hq
    · rename_i he; rw [if_neg he]; obtain ⟨lv, h1, h2⟩ := hq; exact ⟨lv, by rw [← quietV_congr hev]; exact h1, h2⟩
end
end Abs

