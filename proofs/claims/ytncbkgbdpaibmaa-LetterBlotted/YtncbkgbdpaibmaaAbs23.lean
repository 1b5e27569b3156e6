/- A part of the proof: Abs23, Abs24. -/
import Derived.Test.YtncbkgbdpaibmaaAbs21
set_option linter.unusedSimpArgs false
set_option linter.unusedVariables false
namespace Abs
open Go
open Go.RowKit (Below)
section
variable {P : Program} {N W : List Nat} {h g : AH}
theorem callE0_frame (a : Agree N h g) (hW : ∀ o ∈ W, o ∉ N) {d : Option Nat} {f : LV} {args : List LV} (hf : avoid N true h 6 f = true) (hav : ∀ x ∈ args, avoid N true h 6 x = true) {K : LV → AH → Prop}
    (hq : callE0 P d f args h (fun lv h' => Agree W h h' ∧ K lv h')) : callE0 P d f args g (fun lv g' => ∃ h', Agree W h h' ∧ K lv h' ∧ Tr N g h' g') := by
  obtain ⟨os, own, hq⟩ := hq
  obtain ⟨a1, t0⟩ := frz_agree a os
  refine ⟨os.filter fun o => !N.contains o, own, ?_⟩
  have hg : (h.frzObjs os).gen = h.gen := (frzObjs_gen os h).1
  cases f with
  | clos f caps =>
    obtain ⟨as, cs, r, h1, h2, h3, h4, h5, h6⟩ := hq
    obtain ⟨e1, t1⟩ := impR_frame a1 d r hW hg h5
    rw [avoid_clos] at hf
    have hc : ∀ c ∈ caps, avoid N true (h.frzObjs os) 6 c = true := fun c hc => by rw [avoid_frz]; exact avoid_succ 5 c (List.all_eq_true.1 hf c hc)
    exact ⟨as, cs, r, argsOf_frame a1 (fun x hx => by rw [avoid_frz]; exact hav x hx) h1, (mapO_congr fun c h => a1.peek (hc c h)).trans h2, h3, h4, _, h5, by rw [e1]; exact h6, t0.trans' t1⟩
  | fv x =>
    cases x with
    | clos f cs =>
      obtain ⟨as, r, h1, h3, h4, h5, h6⟩ := hq
      obtain ⟨e1, t1⟩ := impR_frame a1 d r hW hg h5
      exact ⟨as, r, argsOf_frame a1 (fun x hx => by rw [avoid_frz]; exact hav x hx) h1, h3, h4, _, h5, by rw [e1]; exact h6, t0.trans' t1⟩
    | _ => exact hq.elim
  | fn gg =>
    obtain ⟨xs, r, h1, h2, h3, h4, h5⟩ := hq
    exact ⟨xs, r, (mapO_congr fun c h => a1.peek (by rw [avoid_frz]; exact hav c h)).trans h1, h2, h3, _, h4, h5, t0⟩
  | _ => exact hq.elim
theorem effV_frame (a : Agree N h g) (hW : ∀ o ∈ W, o ∉ N) {d : Option Nat} {op : Op} {ty : Nat} {ev : Operand → LV} (hav : ∀ x ∈ op.operands, avoid N false h 6 (ev x) = true) {K : LV → AH → Prop}
    (hq : effV P d op ty ev h (fun lv h' => Agree W h h' ∧ K lv h')) : effV P d op ty ev g (fun lv g' => ∃ h', Agree W h h' ∧ K lv h' ∧ Tr N g h' g') := by
  have mem : ∀ {d : Nat} {ob : AObj}, Agree W h (h.new d ob) → d ∉ N := fun h1 => hW _ (new_mem h1 (Nat.le_refl _))
  have gn : ∀ {d : Nat}, d ∉ N → g.gen d = h.gen d := fun hd => (a _ hd).1
  cases op <;> (try exact hq)
  case assign x =>
    unfold effV at hq ⊢
    split at hq
    · split at hq
      · rename_i d e agg es hd hi
        obtain ⟨h1, h2, h3⟩ := hq
        have hd := mem h2
        refine ⟨h1, _, h2, ?_, a.tr.new hd _⟩
        rw [gn hd]; exact h3
      · exact ⟨h, hq.1, hq.2, a.tr⟩
    · exact ⟨h, hq.1, hq.2, a.tr⟩
    all_goals (rename_i e; first | exact hq.elim | (simp at e; done))
  case box t x =>
    simp only [effV] at hq ⊢
    split at hq
    · obtain ⟨h1, h2, h3, h4⟩ := hq
      have hd := mem h3
      refine ⟨h1, h2, _, h3, ?_, a.tr.new hd _⟩
      rw [gn hd]; exact h4
    · exact hq.elim
  case alloc t =>
    simp only [effV] at hq ⊢
    split at hq
    · obtain ⟨h3, h4⟩ := hq
      have hd := mem h3
      refine ⟨_, h3, ?_, a.tr.new hd _⟩
      rw [gn hd]; exact h4
    · exact hq.elim
  case buildSlice t n parts =>
    simp only [effV] at hq ⊢
    split at hq
    · obtain ⟨h1, h2, h3, h4, xs, h', h5, h6, h7, h8⟩ := hq
      obtain ⟨g1, e1, t1, q1⟩ := frzAll_frame a (cs := parts.toList.map fun p => ev p.2) (fun c hc => by
        simp only [List.mem_map] at hc
        obtain ⟨p, hp, rfl⟩ := hc
        exact hav p.2 (by simp [Op.operands]; exact ⟨p.1, by simpa using hp⟩)) h5
      have hd := hW _ (new_mem h7 (by rw [q1]; exact Nat.le_refl _))
      refine ⟨h1, h2, h3, h4, xs, g1, e1, h6, _, h7, ?_, t1.new hd _⟩
      rw [((t1 _).1 hd).1]; exact h8
    · exact hq.elim
  case makeSlice t l c =>
    simp only [effV] at hq ⊢
    split at hq
    · obtain ⟨h1, h2, h3, h4, h5, zs, h6, h7, h8, h9⟩ := hq
      have hd := mem h8
      refine ⟨h1, h2, h3, h4, h5, zs, h6, h7, _, h8, ?_, a.tr.new hd _⟩
      rw [gn hd]; exact h9
    · exact hq.elim
  case store t ad x =>
    simp only [effV] at hq ⊢
    have hx := hav x (by simp [Op.operands])
    have had := hav ad (by simp [Op.operands])
    split at hq
    · rename_i agg n o gg off hl he
      rw [he] at had
      have ho : o ∉ N := by rw [avoid_ptr] at had; simp only [Bool.and_eq_true] at had; exact not_mem_of had.1
      obtain ⟨cs, h1, h2, h3, h4, h5, h6⟩ := hq
      exact ⟨cs, by rw [a.box ho]; exact h1, h2, h3, h4, _, h5, h6, a.tr.set ho _⟩
    · rename_i agg n o gg es i off hl he
      rw [he] at had
      have ho : o ∉ N := not_mem_of had
      obtain ⟨fs, h', h1, h2, h3, e, nil, xs, y, h4, h5, h6, h7, h8⟩ := hq
      obtain ⟨g1, e1, t1, q1⟩ := frzS_frame a (fun c hc => avoid_cells hx c hc) h1
      exact ⟨fs, g1, e1, h2, h3, e, nil, xs, y, by rw [t1.agree.lst ho]; exact h4, h5, h6, _, h7, h8, t1.set ho _⟩
    · exact hq.elim
  case call c =>
    obtain ⟨callee, args, tys⟩ := c
    cases callee <;> (try exact hq)
    rename_i b
    have hav' : ∀ x ∈ args, avoid N false h 6 (ev x) = true := fun x hx => hav x (by simp [Op.operands, Call.operands, hx])
    cases b <;> (try exact hq)
    case append =>
      simp only [effV] at hq ⊢
      split at hq
      · rename_i s x t t' ha ht
        have hs := hav' s (by rw [← Array.mem_toList_iff, ha]; simp)
        have hx := hav' x (by rw [← Array.mem_toList_iff, ha]; simp)
        by_cases htt : t ≠ t'
        · rw [if_pos htt] at hq ⊢
          obtain ⟨kn, e, es, agg, n, zs, d', h1, h2, h3, h4, h5, h6, h7, h8, h9, h10, h11, h12, h13⟩ := hq
          have hd := mem h12
          refine ⟨kn, e, es, agg, n, zs, d', h1, h2, h3, h4, h5, h6, h7, h8, h9, h10, h11, _, h12, ?_, a.tr.new hd _⟩
          rw [gn hd]; exact h13
        rw [if_neg htt] at hq ⊢
        split at hq
        · rename_i o gg he hex
          rw [he] at hs
          have ho : o ∉ N := not_mem_of hs
          obtain ⟨e, es, nil, xs, h1, h2, h3, h4⟩ := hq
          exact ⟨e, es, nil, xs, by rw [a.lst ho]; exact h1, h2, h, h3, h4, a.tr⟩
        · rename_i o gg he hne
          rw [he] at hs
          have ho : o ∉ N := not_mem_of hs
          obtain ⟨e, es, nil, xs, ys, h1, h2, h3, h4, h5, h6, h7, h8, h9⟩ := hq
          exact ⟨e, es, nil, xs, ys, by rw [a.lst ho]; exact h1, h2, elems_frame a hx h3, h4, h5, h6, h7, _, h8, h9, a.tr.renew ho _ _⟩
        · rename_i o gg es i j he
          rw [he] at hs
          have ho : o ∉ N := not_mem_of hs
          obtain ⟨e, xs, ys, h1, h2, h3, h4, h5, h6, h7, h8, h9, h10, h11⟩ := hq
          exact ⟨e, xs, ys, h1, by rw [a.lst ho]; exact h2, h3, h4, elems_frame (a.tr.renew ho _ _).agree (avoid_gen 6 _ hx) h5, h6, h7, h8, h9, _, h10, h11, a.tr.renew ho _ _⟩
        · obtain ⟨e, es, d', ys, h1, h2, h3, h4, h5, h6, h7, h8, h9, h10⟩ := hq
          have hd := mem h9
          refine ⟨e, es, d', ys, h1, h2, h3, elems_frame a hx h4, h5, h6, h7, h8, _, h9, ?_, a.tr.new hd _⟩
          rw [gn hd]; exact h10
        · obtain ⟨e, es, d', ys, h1, h2, h3, h4, h5, h6, h7, h8, h9, h10, h11, h12⟩ := hq
          have hd := mem h11
          refine ⟨e, es, d', ys, h1, h2, h3, elems_frame a hx h4, h5, h6, h7, h8, h9, h10, _, h11, ?_, a.tr.new hd _⟩
          rw [gn hd]; exact h12
        · exact hq.elim
      · exact hq.elim
    case copy =>
      simp only [effV] at hq ⊢
      split at hq
      · rename_i s x t tl ha ht
        have hs := hav' s (by rw [← Array.mem_toList_iff, ha]; simp)
        have hx := hav' x (by rw [← Array.mem_toList_iff, ha]; simp)
        split at hq
        · rename_i o gg he
          rw [he] at hs
          have ho : o ∉ N := not_mem_of hs
          obtain ⟨e, es, nil, xs, ys, h1, h2, h3, h4, h5, h6, h7⟩ := hq
          exact ⟨e, es, nil, xs, ys, by rw [a.lst ho]; exact h1, h2, elems_frame a hx h3, h4, h5, _, h6, h7, a.tr.set ho _⟩
        · exact hq.elim
      · exact hq.elim
theorem not_call {op : Op} (hne : ∀ (f : Operand) (args : Array Operand) (tys : Array Nat), op = Op.call { callee := .value f, args := args, argTypes := tys } → False) : isCall op = false := by
  cases op <;> (try rfl)
  rename_i c
  obtain ⟨callee, args, tys⟩ := c
  cases callee <;> (try rfl)
  exact (hne _ _ _ rfl).elim
theorem stepE0_frame (a : Agree N h g) (hW : ∀ o ∈ W, o ∉ N) {d : Option Nat} {op : Op} {ty : Nat} {ev : Operand → LV} (hav : ∀ x ∈ op.operands, avoid N (isCall op) h 6 (ev x) = true) {K : LV → AH → Prop}
    (hq : stepE0 P d op ty ev h (fun lv h' => Agree W h h' ∧ K lv h')) : stepE0 P d op ty ev g (fun lv g' => ∃ h', Agree W h h' ∧ K lv h' ∧ Tr N g h' g') := by
  unfold stepE0 at hq ⊢
  split at hq
  · rename_i f args tys
    refine callE0_frame a hW (hav f (by simp [Op.operands, Call.operands])) (fun x hx => ?_) hq
    simp only [List.mem_map] at hx
    obtain ⟨y, hy, rfl⟩ := hx
    exact hav y (by simp [Op.operands, Call.operands]; exact .inr (by simpa using hy))
  · rename_i op' hne
    have hav' : ∀ x ∈ op.operands, avoid N false h 6 (ev x) = true := by
      intro x hx
      have := hav x hx
      rwa [not_call hne] at this
    split at hq
    · rename_i he
      rw [if_pos he]
      exact effV_frame a hW hav' hq
    · rename_i he
      rw [if_neg he]
      obtain ⟨lv, h1, h2, h3⟩ := hq
      exact ⟨lv, a.quiet hav' h1, h, h2, h3, a.tr⟩
theorem callE0_mono {d : Option Nat} {f : LV} {args : List LV} {K K' : LV → AH → Prop} (hK : ∀ lv h, K lv h → K' lv h) (hq : callE0 P d f args h K) : callE0 P d f args h K' := by
  obtain ⟨os, own, hq⟩ := hq
  refine ⟨os, own, ?_⟩
  cases f with
  | clos f caps =>
    obtain ⟨as, cs, r, h1, h2, h3, h4, h5⟩ := hq
    exact ⟨as, cs, r, h1, h2, h3, h4, hK _ _ h5⟩
  | fv x =>
    cases x with
    | clos f cs =>
      obtain ⟨as, r, h1, h3, h4, h5⟩ := hq
      exact ⟨as, r, h1, h3, h4, hK _ _ h5⟩
    | _ => exact hq.elim
  | fn gg =>
    obtain ⟨xs, r, h1, h2, h3, h4⟩ := hq
    exact ⟨xs, r, h1, h2, h3, hK _ _ h4⟩
  | _ => exact hq.elim
theorem stepE0_mono {d : Option Nat} {op : Op} {ty : Nat} {ev : Operand → LV} {K K' : LV → AH → Prop} (hK : ∀ lv h, K lv h → K' lv h) (hq : stepE0 P d op ty ev h K) : stepE0 P d op ty ev h K' := by
  unfold stepE0 at hq ⊢
  split at hq
  · exact callE0_mono hK hq
  · rename_i op' hne
    split at hq
    · rename_i he; rw [if_pos he]; exact effV_mono hK hq
    · rename_i he; rw [if_neg he]; obtain ⟨lv, h1, h2⟩ := hq; exact ⟨lv, h1, hK _ _ h2⟩
theorem stepE0_congr {d : Option Nat} {op : Op} {ty : Nat} {ev ev' : Operand → LV} {h : AH} {K : LV → AH → Prop} (hev : ∀ x ∈ op.operands, ev x = ev' x) (hq : stepE0 P d op ty ev h K) : stepE0 P d op ty ev' h K := by
  unfold stepE0 at hq ⊢
  split at hq
  · rename_i f args tys
    rw [← hev f (by simp [Op.operands, Call.operands]), ← map_ev (args := args) fun x hx => hev x (by simp [Op.operands, Call.operands, hx])]
    exact hq
  · rename_i op' hne
    split at hq
    · rename_i he; rw [if_pos he]; exact effV_congr hev hq
    · rename_i he; rw [if_neg he]; obtain ⟨lv, h1, h2⟩ := hq; exact ⟨lv, by rw [← quietV_congr hev]; exact h1, h2⟩
end
end Abs

namespace Abs
open Go
open Go.RowKit (Below)
theorem Agree.wider {N F : List Nat} {h h' : AH} (a : Agree N h h') (hs : ∀ o ∈ N, o ∈ F) : Agree F h h' := ⟨fun o ho => a o fun hn => ho (hs o hn), a.y⟩
theorem avoid_fewer {N F : List Nat} {h : AH} {deep : Bool} (hs : ∀ o ∈ N, o ∈ F) : ∀ {n : Nat} {lv : LV}, avoid F deep h n lv = true → avoid N deep h n lv = true := by
  have hc : ∀ o, (!F.contains o) = true → (!N.contains o) = true := by
    intro o ho
    have := not_mem_of ho
    have : o ∉ N := fun hn => this (hs o hn)
    simpa using this
  intro n
  induction n with
  | zero => intro lv hq; simp [avoid] at hq
  | succ n ih =>
    intro lv hq
    cases lv <;> simp only [avoid] at hq ⊢ <;> (try exact hq) <;> (try exact hc _ hq)
    · rename_i o g off
      simp only [Bool.and_eq_true] at hq ⊢
      refine ⟨hc _ hq.1, ?_⟩
      have := hq.2
      cases deep
      · rfl
      · simp only [Bool.not_true, Bool.false_or] at this ⊢
        split
        · rename_i cs hcs
          simp only [hcs] at this
          rw [List.all_eq_true] at this ⊢
          exact fun c hc => ih (this c hc)
        · rfl
    · rw [List.all_eq_true] at hq ⊢; exact fun c hc => ih (hq c hc)
    · rw [List.all_eq_true] at hq ⊢; exact fun c hc => ih (hq c hc)
    · rw [List.all_eq_true] at hq ⊢; exact fun c hc => ih (hq c hc)
section
variable {P : Program}
theorem effV_out {d : Option Nat} {op : Op} {ty : Nat} {ev : Operand → LV} {h : AH} {K : LV → AH → Prop} (hq : effV P d op ty ev h K) : ∃ lv h', K lv h' ∧ ∀ K' : LV → AH → Prop, K' lv h' → effV P d op ty ev h K' := by
  unfold effV at hq ⊢
  split at hq
  · split at hq
    · exact ⟨_, _, hq.2, fun K' hK' => ⟨hq.1, hK'⟩⟩
    · exact ⟨_, _, hq, fun K' hK' => hK'⟩
  · exact ⟨_, _, hq, fun K' hK' => hK'⟩
  · split at hq
    · exact ⟨_, _, hq.2.2, fun K' hK' => ⟨hq.1, hq.2.1, hK'⟩⟩
    · exact hq.elim
  · split at hq
    · exact ⟨_, _, hq, fun K' hK' => hK'⟩
    · exact hq.elim
  · split at hq
    · obtain ⟨h1, h2, h3, h4, xs, h', h5, h6, h7⟩ := hq
      exact ⟨_, _, h7, fun K' hK' => ⟨h1, h2, h3, h4, xs, h', h5, h6, hK'⟩⟩
    · exact hq.elim
  · split at hq
    · obtain ⟨h1, h2, h3, h4, h5, zs, h6, h7, h8⟩ := hq
      exact ⟨_, _, h8, fun K' hK' => ⟨h1, h2, h3, h4, h5, zs, h6, h7, hK'⟩⟩
    · exact hq.elim
  · split at hq
    · obtain ⟨cs, h1, h2, h3, h4, h5⟩ := hq
      exact ⟨_, _, h5, fun K' hK' => ⟨cs, h1, h2, h3, h4, hK'⟩⟩
    · obtain ⟨fs, h', h1, h2, h3, e, nil, xs, y, h4, h5, h6, h7⟩ := hq
      exact ⟨_, _, h7, fun K' hK' => ⟨fs, h', h1, h2, h3, e, nil, xs, y, h4, h5, h6, hK'⟩⟩
    · exact hq.elim
  · split at hq
    · split at hq
      · rename_i htt
        obtain ⟨kn, e, es, agg, n, zs, d', h1, h2, h3, h4, h5, h6, h7, h8, h9, h10, h11, h12⟩ := hq
        exact ⟨_, _, h12, fun K' hK' => by rw [if_pos htt]; exact ⟨kn, e, es, agg, n, zs, d', h1, h2, h3, h4, h5, h6, h7, h8, h9, h10, h11, hK'⟩⟩
      rename_i htt
      simp only [if_neg htt]
      split at hq
      · obtain ⟨e, es, nil, xs, h1, h2, h3⟩ := hq
        exact ⟨_, _, h3, fun K' hK' => ⟨e, es, nil, xs, h1, h2, hK'⟩⟩
      · rename_i hne
        obtain ⟨e, es, nil, xs, ys, h1, h2, h3, h4, h5, h6, h7, h8⟩ := hq
        exact ⟨_, _, h8, fun K' hK' => ⟨e, es, nil, xs, ys, h1, h2, h3, h4, h5, h6, h7, hK'⟩⟩
      · obtain ⟨e, xs, ys, h1, h2, h3, h4, h5, h6, h7, h8, h9, h10⟩ := hq
        exact ⟨_, _, h10, fun K' hK' => ⟨e, xs, ys, h1, h2, h3, h4, h5, h6, h7, h8, h9, hK'⟩⟩
      · obtain ⟨e, es, d', ys, h1, h2, h3, h4, h5, h6, h7, h8, h9⟩ := hq
        exact ⟨_, _, h9, fun K' hK' => ⟨e, es, d', ys, h1, h2, h3, h4, h5, h6, h7, h8, hK'⟩⟩
      · obtain ⟨e, es, d', ys, h1, h2, h3, h4, h5, h6, h7, h8, h9, h10, h11⟩ := hq
        exact ⟨_, _, h11, fun K' hK' => ⟨e, es, d', ys, h1, h2, h3, h4, h5, h6, h7, h8, h9, h10, hK'⟩⟩
      · exact hq.elim
    · exact hq.elim
  · split at hq
    · split at hq
      · obtain ⟨e, es, nil, xs, ys, h1, h2, h3, h4, h5, h6⟩ := hq
        exact ⟨_, _, h6, fun K' hK' => ⟨e, es, nil, xs, ys, h1, h2, h3, h4, h5, hK'⟩⟩
      · exact hq.elim
    · exact hq.elim
  · exact hq.elim
theorem callE0_out {d : Option Nat} {f : LV} {args : List LV} {h : AH} {K : LV → AH → Prop} (hq : callE0 P d f args h K) : ∃ lv h', K lv h' ∧ ∀ K' : LV → AH → Prop, K' lv h' → callE0 P d f args h K' := by
  obtain ⟨os, own, hq⟩ := hq
  cases f with
  | clos f caps =>
    obtain ⟨as, cs, r, h1, h2, h3, h4, h5⟩ := hq
    exact ⟨_, _, h5, fun K' hK' => ⟨os, own, as, cs, r, h1, h2, h3, h4, hK'⟩⟩
  | fv x =>
    cases x with
    | clos f cs =>
      obtain ⟨as, r, h1, h3, h4, h5⟩ := hq
      exact ⟨_, _, h5, fun K' hK' => ⟨os, own, as, r, h1, h3, h4, hK'⟩⟩
    | _ => exact hq.elim
  | fn g =>
    obtain ⟨xs, r, h1, h2, h3, h4⟩ := hq
    exact ⟨_, _, h4, fun K' hK' => ⟨os, own, xs, r, h1, h2, h3, hK'⟩⟩
  | _ => exact hq.elim
theorem stepE0_out {d : Option Nat} {op : Op} {ty : Nat} {ev : Operand → LV} {h : AH} {K : LV → AH → Prop} (hq : stepE0 P d op ty ev h K) : ∃ lv h', K lv h' ∧ ∀ K' : LV → AH → Prop, K' lv h' → stepE0 P d op ty ev h K' := by
  unfold stepE0 at hq ⊢
  split at hq
  · exact callE0_out hq
  · rename_i op' hne
    split at hq
    · rename_i he; simp only [he, if_true]; exact effV_out hq
    · rename_i he; simp only [he]; obtain ⟨lv, h1, h2⟩ := hq; exact ⟨_, _, h2, fun K' hK' => ⟨lv, h1, hK'⟩⟩
theorem stepE0_quiet {d : Option Nat} {op : Op} {ty : Nat} {ev : Operand → LV} {h : AH} {K : LV → AH → Prop} (hq : isQuiet op = true) :
    stepE0 P d op ty ev h K ↔ ∃ lv, quietV P op ev h = some lv ∧ K lv h := by
  simp only [isQuiet, Bool.and_eq_true, Bool.not_eq_true'] at hq
  unfold stepE0
  split
  · simp [isCall] at hq
  · rw [if_neg (by simp [hq.1])]
structure Cl where
  W : List Nat
  F : List Nat
def outD (P : Program) (c : Option Cl) (o : SO) (ρ : Nat → LV) (h : AH) (K : LV → AH → Prop) : Prop :=
  match c with
  | none => outcome P o ρ h K
  | some c =>
    (goes o ρ = some true ∧ (∀ x ∈ o.op.operands, avoid c.F (isCall o.op) h 6 (evL ρ x) = true) ∧ stepE0 P o.nm o.op o.ty (evL ρ) h (fun lv h' => Agree c.W h h' ∧ K lv h')) ∨ (goes o ρ = some false ∧ K (.tup []) h)
theorem outD_outcome {c : Option Cl} {o : SO} {ρ : Nat → LV} {h : AH} {K : LV → AH → Prop} (hq : outD P c o ρ h K) : outcome P o ρ h K := by
  cases c with
  | none => exact hq
  | some c =>
    rcases hq with ⟨h1, _, h2⟩ | h2
    · exact .inl ⟨h1, stepE0_stepE (stepE0_mono (fun _ _ h => h.2) h2)⟩
    · exact .inr h2
theorem outD_mono {c : Option Cl} {o : SO} {ρ : Nat → LV} {h : AH} {K K' : LV → AH → Prop} (hK : ∀ lv h, K lv h → K' lv h) (hq : outD P c o ρ h K) : outD P c o ρ h K' := by
  cases c with
  | none => exact outcome_mono hK hq
  | some c =>
    rcases hq with ⟨h1, h2, h3⟩ | ⟨h1, h2⟩
    · exact .inl ⟨h1, h2, stepE0_mono (fun _ _ h => ⟨h.1, hK _ _ h.2⟩) h3⟩
    · exact .inr ⟨h1, hK _ _ h2⟩
theorem outD_congr {c : Option Cl} {o : SO} {σ : St} {d : Option Nat} {a : LV} {h h' : AH} {K : LV → AH → Prop} (hd : ∀ k, d = some k → k ∉ o.looks) : outD P c o (σ.put d a h').ρ h K ↔ outD P c o σ.ρ h K := by
  cases c with
  | none => exact outcome_congr hd
  | some c =>
    have hop : ∀ x ∈ o.op.operands, evL (σ.put d a h').ρ x = evL σ.ρ x := fun x hx => evL_put fun k hk => looks_op (hd k hk) x hx
    have hg : goes o (σ.put d a h').ρ = goes o σ.ρ := by
      unfold goes
      cases hgo : o.g with
      | none => rfl
      | some g =>
        obtain ⟨s, want⟩ := g
        simp only
        rw [rho_put fun k hk e => ?_]
        apply hd k hk
        unfold SO.looks
        rw [hgo]
        exact List.mem_append_right _ (by simp [e])
    unfold outD
    simp only
    rw [hg]
    constructor
    · rintro (⟨h1, h2, h3⟩ | h2)
      · exact .inl ⟨h1, fun x hx => by rw [← hop x hx]; exact h2 x hx, stepE0_congr hop h3⟩
      · exact .inr h2
    · rintro (⟨h1, h2, h3⟩ | h2)
      · exact .inl ⟨h1, fun x hx => by rw [hop x hx]; exact h2 x hx, stepE0_congr (fun x hx => (hop x hx).symm) h3⟩
      · exact .inr h2
theorem outD_quiet {c : Option Cl} {o : SO} (hq : isQuiet o.op = true) {ρ : Nat → LV} {h : AH} {K : LV → AH → Prop} (ho : outD P c o ρ h K) : ∃ lv, K lv h ∧ ∀ K' : LV → AH → Prop, K' lv h → outD P c o ρ h K' := by
  cases c with
  | none => exact outcome_quiet hq ho
  | some c =>
    rcases ho with ⟨h1, h2, h3⟩ | ⟨h1, h2⟩
    · obtain ⟨lv, h4, h5⟩ := (stepE0_quiet hq).1 h3
      exact ⟨lv, h5.2, fun K' hK' => .inl ⟨h1, h2, (stepE0_quiet hq).2 ⟨lv, h4, h5.1, hK'⟩⟩⟩
    · exact ⟨_, h2, fun K' hK' => .inr ⟨h1, hK'⟩⟩
def SO.free (x y : SO) : Bool :=
  (match x.d with | some d => !(y.looks).contains d && y.d != some d | none => true) &&
  (match y.d with | some d => !(x.looks).contains d | none => true)
theorem outD_swap {x y : SO} {cx cy : Option Cl} (hf : x.free y = true)
    (hk : (isPure x.op = true ∧ cx = none) ∨ (isPure y.op = true ∧ cy = none) ∨ (isQuiet x.op = true ∧ isQuiet y.op = true) ∨
      (∃ u v, cx = some u ∧ cy = some v ∧ (∀ o ∈ u.W, o ∈ v.F) ∧ (∀ o ∈ v.W, o ∈ u.F) ∧ ∀ o ∈ u.W, o ∉ v.W))
    {σ : St} {K : St → Prop} (hq : outD P cx x σ.ρ σ.h fun lv h' => outD P cy y (σ.put x.d lv h').ρ h' fun lv' h'' => K ((σ.put x.d lv h').put y.d lv' h'')) :
    outD P cy y σ.ρ σ.h fun lv h' => outD P cx x (σ.put y.d lv h').ρ h' fun lv' h'' => K ((σ.put y.d lv h').put x.d lv' h'') := by
  simp only [SO.free, Bool.and_eq_true] at hf
  obtain ⟨hx, hy⟩ := hf
  have hx1 : ∀ k, x.d = some k → k ∉ y.looks := by
    intro k hk; simp only [hk, Bool.and_eq_true] at hx; simpa using hx.1
  have hx2 : ∀ k, x.d = some k → y.d ≠ some k := by
    intro k hk; simp only [hk, Bool.and_eq_true] at hx; simpa using hx.2
  have hy1 : ∀ k, y.d = some k → k ∉ x.looks := by
    intro k hk; simp only [hk] at hy; simpa using hy
  have hput : ∀ (lv lv' : LV) (h1 h2 h3 : AH), (σ.put x.d lv h1).put y.d lv' h3 = (σ.put y.d lv' h2).put x.d lv h3 := fun lv lv' h1 h2 h3 => put_comm hx2
  rcases hk with ⟨hp, rfl⟩ | ⟨hp, rfl⟩ | ⟨hp1, hp2⟩ | ⟨u, v, rfl, rfl, hs1, hs2, hdis⟩
  · -- x is pure
    obtain ⟨lv, h1, h2⟩ := outcome_pure hp hq
    rw [outD_congr hx1] at h1
    refine outD_mono (fun lv' h' hK => ?_) h1
    rw [outD_congr hy1]
    refine h2 h' _ ?_
    rw [← hput lv lv' σ.h h' h']
    exact hK
  · -- y is pure
    obtain ⟨lv0, h0, hK0⟩ := outcome_some (outD_outcome hq)
    rw [outD_congr hx1] at hK0
    obtain ⟨lvy, _, hy2⟩ := outcome_pure hp hK0
    refine hy2 σ.h _ ?_
    rw [outD_congr hy1]
    refine outD_mono (fun lv h' hK => ?_) hq
    rw [outD_congr hx1] at hK
    obtain ⟨lv2, hK2, hy3⟩ := outcome_pure hp hK
    have : lvy = lv2 := by
      rcases hy2 h' (fun l _ => l = lvy) rfl with ⟨g1, s1⟩ | ⟨g1, s1⟩
      · rcases hy3 h' (fun l _ => l = lv2) rfl with ⟨g2, s2⟩ | ⟨g2, s2⟩
        · obtain ⟨l1, e1, e2⟩ := (stepE_quiet (isPure_quiet hp)).1 s1
          obtain ⟨l2, e3, e4⟩ := (stepE_quiet (isPure_quiet hp)).1 s2
          rw [e1] at e3; simp at e3; rw [← e2, ← e4, e3]
        · rw [g1] at g2; simp at g2
      · rcases hy3 h' (fun l _ => l = lv2) rfl with ⟨g2, s2⟩ | ⟨g2, s2⟩
        · rw [g1] at g2; simp at g2
        · rw [← s1, ← s2]
    subst this
    rw [← hput lv lvy h' σ.h h']
    exact hK2
  · -- both only read
    obtain ⟨lvx, h1, h2⟩ := outD_quiet hp1 hq
    rw [outD_congr hx1] at h1
    obtain ⟨lvy, h3, h4⟩ := outD_quiet hp2 h1
    refine h4 _ ?_
    rw [outD_congr hy1]
    refine h2 _ ?_
    rw [← hput lvx lvy σ.h σ.h σ.h]
    exact h3
  · -- they write apart
    have hdis' : ∀ o ∈ v.W, o ∉ u.W := fun o ho hu => hdis o hu ho
    rcases hq with ⟨gx, ax, sx⟩ | ⟨gx, hq⟩
    · obtain ⟨lx, h1, ⟨wx, hq⟩, reX⟩ := stepE0_out sx
      rw [outD_congr hx1] at hq
      rcases hq with ⟨gy, ay, sy⟩ | ⟨gy, hK⟩
      · obtain ⟨ly, h2, ⟨wy, hK⟩, reY⟩ := stepE0_out sy
        -- y at h
        have fy : stepE0 P y.nm y.op y.ty (evL σ.ρ) σ.h (fun lv g' => ∃ h', Agree v.W h1 h' ∧ (lv = ly ∧ h' = h2) ∧ Tr u.W σ.h h' g') :=
          stepE0_frame wx.symm hdis' (fun z hz => avoid_fewer hs1 (ay z hz)) (reY _ ⟨wy, rfl, rfl⟩)
        refine .inl ⟨gy, fun z hz => ((wx.symm).wider hs1).avoid (ay z hz), stepE0_mono ?_ fy⟩
        rintro lv g' ⟨h', _, ⟨rfl, rfl⟩, t⟩
        have wg : Agree v.W σ.h g' := by
          refine ⟨?_, t.y.trans (wy.y.trans wx.y)⟩
          intro o ho
          by_cases hu : o ∈ u.W
          · exact (t o).2 hu
          · exact ⟨((t o).1 hu).1.trans ((wy o ho).1.trans (wx o hu).1), ((t o).1 hu).2.trans ((wy o ho).2.trans (wx o hu).2)⟩
        refine ⟨wg, ?_⟩
        show outD P (some u) x (σ.put y.d lv g').ρ g' _
        rw [outD_congr hy1]
        have fx : stepE0 P x.nm x.op x.ty (evL σ.ρ) g' (fun lv k' => ∃ h', Agree u.W σ.h h' ∧ (lv = lx ∧ h' = h1) ∧ Tr v.W g' h' k') :=
          stepE0_frame wg hdis (fun z hz => avoid_fewer hs2 (ax z hz)) (reX _ ⟨wx, rfl, rfl⟩)
        refine .inl ⟨gx, fun z hz => (wg.wider hs2).avoid (ax z hz), stepE0_mono ?_ fx⟩
        rintro lv' k' ⟨h'', _, ⟨rfl, rfl⟩, t'⟩
        have ek : k' = h' := by
          apply AH.ext'
          · intro o
            by_cases hv : o ∈ v.W
            · rw [((t' o).2 hv).1, ((t o).1 (hdis' o hv)).1]
            · rw [((t' o).1 hv).1, (wy o hv).1]
          · intro o
            by_cases hv : o ∈ v.W
            · rw [((t' o).2 hv).2, ((t o).1 (hdis' o hv)).2]
            · rw [((t' o).1 hv).2, (wy o hv).2]
          · exact t'.y.trans wy.y.symm
        subst ek
        refine ⟨⟨?_, t'.y.trans (wx.y.trans wg.y.symm)⟩, ?_⟩
        · intro o hu
          by_cases hv : o ∈ v.W
          · exact (t' o).2 hv
          · exact ⟨((t' o).1 hv).1.trans ((wx o hu).1.trans (wg o hv).1.symm), ((t' o).1 hv).2.trans ((wx o hu).2.trans (wg o hv).2.symm)⟩
        · show K ((σ.put y.d lv g').put x.d lv' k')
          rw [← hput lv' lv h'' g' k']; exact hK
      · refine .inr ⟨gy, ?_⟩
        show outD P (some u) x (σ.put y.d (.tup []) σ.h).ρ σ.h _
        rw [outD_congr hy1]
        refine .inl ⟨gx, ax, reX _ ⟨wx, ?_⟩⟩
        show K ((σ.put y.d (.tup []) σ.h).put x.d lx h1)
        rw [← hput lx (.tup []) h1 σ.h h1]; exact hK
    · rw [outD_congr hx1] at hq
      rcases hq with ⟨gy, ay, sy⟩ | ⟨gy, hK⟩
      · refine .inl ⟨gy, ay, stepE0_mono ?_ sy⟩
        rintro ly h2 ⟨wy, hK⟩
        refine ⟨wy, ?_⟩
        show outD P (some u) x (σ.put y.d ly h2).ρ h2 _
        rw [outD_congr hy1]
        refine .inr ⟨gx, ?_⟩
        show K ((σ.put y.d ly h2).put x.d (.tup []) h2)
        rw [← hput (.tup []) ly σ.h h2 h2]; exact hK
      · refine .inr ⟨gy, ?_⟩
        show outD P (some u) x (σ.put y.d (.tup []) σ.h).ρ σ.h _
        rw [outD_congr hy1]
        refine .inr ⟨gx, ?_⟩
        show K ((σ.put y.d (.tup []) σ.h).put x.d (.tup []) σ.h)
        rw [← hput (.tup []) (.tup []) σ.h σ.h σ.h]; exact hK
end
end Abs

