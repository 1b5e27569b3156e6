/- A part of the proof: Abs16. -/
import Derived.Test.YtncbkgbdpaibmaaAbs25
set_option linter.unusedSimpArgs false
set_option linter.unusedVariables false
namespace Abs
open Go
open Go.RowKit (Below)
def isEff : Op → Bool
  | .assign _ | .box _ _ | .alloc _ | .buildSlice _ _ _ | .makeSlice _ _ _ | .store _ _ _ => true
  | .call { callee := .builtin .append, .. } | .call { callee := .builtin .copy, .. } => true
  | _ => false
def isCall : Op → Bool
  | .call { callee := .value _, .. } => true
  | _ => false
def stepE (P : Program) (d : Option Nat) (op : Op) (ty : Nat) (ev : Operand → LV) (h : AH) (K : LV → AH → Prop) : Prop :=
  match op with
  | .call { callee := .value f, args := args, .. } => callE P d (ev f) (args.toList.map ev) h K ∨ callA P (ev f) (args.toList.map ev) h K
  | op => if isMap op then mapE P d op ev h K else if isEff op then effV P d op ty ev h K else ∃ lv, quietV P op ev h = some lv ∧ K lv h
structure SO where
  d : Option Nat
  op : Op
  ty : Nat
  g : Option (Nat × Bool)
  nm : Option Nat
def aSO (P : Program) (o : SO) (σ : St) (K : St → Prop) : Prop :=
  match o.g with
  | none => stepE P o.nm o.op o.ty (evL σ.ρ) σ.h fun lv h' => K (σ.put o.d lv h')
  | some (s, want) =>
    (match σ.ρ s with
    | .fv (.val (.bool b)) => if b = want then stepE P o.nm o.op o.ty (evL σ.ρ) σ.h fun lv h' => K (σ.put o.d lv h') else K (σ.put o.d (.tup []) σ.h)
    | .tup [] => K (σ.put o.d (.tup []) σ.h)
    | _ => False)
def aL (P : Program) : List SO → St → (St → Prop) → Prop
  | [], σ, K => K σ
  | o :: r, σ, K => aSO P o σ fun σ' => aL P r σ' K
def sko (nb : Nat) (ops : Array Oper) (o : Oper) : Option SO :=
  match o.guard with
  | none => some ⟨o.dst, o.op, o.type, none, o.dst.map (nb + ·)⟩
  | some (j, want) => ((ops[j]?).bind (·.dst)).map fun s => ⟨o.dst, o.op, o.type, some (s, want), o.dst.map (nb + ·)⟩
def aIdx (P : Program) (nb : Nat) (ops : Array Oper) : List Nat → St → (St → Prop) → Prop
  | [], σ, K => K σ
  | i :: l, σ, K =>
    match (ops[i]?).bind (sko nb ops) with
    | some s => aSO P s σ fun σ' => aIdx P nb ops l σ' K
    | none => False
section
variable {P : Program} {cx : Cx} {w : World} {D : Nat → Prop} {h : AH} {an : Nat → Value}
theorem effV_mono {d : Option Nat} {op : Op} {ty : Nat} {ev : Operand → LV} {K K' : LV → AH → Prop} (hK : ∀ lv h, K lv h → K' lv h) (hq : effV P d op ty ev h K) : effV P d op ty ev h K' := by
  unfold effV at hq ⊢
  split at hq
  · split at hq
    · exact ⟨hq.1, hK _ _ hq.2⟩
    · exact hK _ _ hq
  · exact hK _ _ hq
  · split at hq
    · exact ⟨hq.1, hq.2.1, hK _ _ hq.2.2⟩
    · exact hq.elim
  · split at hq
    · exact hK _ _ hq
    · exact hq.elim
  · split at hq
    · obtain ⟨h1, h2, h3, h4, xs, h', h5, h6, h7⟩ := hq
      exact ⟨h1, h2, h3, h4, xs, h', h5, h6, hK _ _ h7⟩
    · exact hq.elim
  · split at hq
    · obtain ⟨h1, h2, h3, h4, h5, zs, h6, h7, h8⟩ := hq
      exact ⟨h1, h2, h3, h4, h5, zs, h6, h7, hK _ _ h8⟩
    · exact hq.elim
  · split at hq
    · obtain ⟨cs, h1, h2, h3, h4, h5⟩ := hq
      exact ⟨cs, h1, h2, h3, h4, hK _ _ h5⟩
    · obtain ⟨fs, h', h1, h2, h3, e, nil, xs, y, h4, h5, h6, h7⟩ := hq
      exact ⟨fs, h', h1, h2, h3, e, nil, xs, y, h4, h5, h6, hK _ _ h7⟩
    · exact hq.elim
  · split at hq
    · split at hq
      · rename_i htt
        rw [if_pos htt]
        obtain ⟨kn, e, es, agg, n, zs, d', h1, h2, h3, h4, h5, h6, h7, h8, h9, h10, h11, h12⟩ := hq
        exact ⟨kn, e, es, agg, n, zs, d', h1, h2, h3, h4, h5, h6, h7, h8, h9, h10, h11, hK _ _ h12⟩
      rename_i htt
      rw [if_neg htt]
      split at hq
      · obtain ⟨e, es, nil, xs, h1, h2, h3⟩ := hq
        exact ⟨e, es, nil, xs, h1, h2, hK _ _ h3⟩
      · rename_i hne
        obtain ⟨e, es, nil, xs, ys, h1, h2, h3, h4, h5, h6, h7, h8⟩ := hq
        exact ⟨e, es, nil, xs, ys, h1, h2, h3, h4, h5, h6, h7, hK _ _ h8⟩
      · obtain ⟨e, xs, ys, h1, h2, h3, h4, h5, h6, h7, h8, h9, h10⟩ := hq
        exact ⟨e, xs, ys, h1, h2, h3, h4, h5, h6, h7, h8, h9, hK _ _ h10⟩
      · obtain ⟨e, es, d', ys, h1, h2, h3, h4, h5, h6, h7, h8, h9⟩ := hq
        exact ⟨e, es, d', ys, h1, h2, h3, h4, h5, h6, h7, h8, hK _ _ h9⟩
      · obtain ⟨e, es, d', ys, h1, h2, h3, h4, h5, h6, h7, h8, h9, h10, h11⟩ := hq
        exact ⟨e, es, d', ys, h1, h2, h3, h4, h5, h6, h7, h8, h9, h10, hK _ _ h11⟩
      · exact hq.elim
    · exact hq.elim
  · split at hq
    · split at hq
      · obtain ⟨e, es, nil, xs, ys, h1, h2, h3, h4, h5, h6⟩ := hq
        exact ⟨e, es, nil, xs, ys, h1, h2, h3, h4, h5, hK _ _ h6⟩
      · exact hq.elim
    · exact hq.elim
  · exact hq.elim
theorem mapE_mono {d : Option Nat} {op : Op} {ev : Operand → LV} {K K' : LV → AH → Prop} (hK : ∀ lv h, K lv h → K' lv h) (hq : mapE P d op ev h K) : mapE P d op ev h K' := by
  unfold mapE at hq ⊢
  split at hq
  · obtain ⟨n, h1, h2⟩ := hq; exact ⟨n, h1, hK _ _ h2⟩
  · obtain ⟨kt, et, es, k, z, h1, h2, h3, h4, h5, h6, h7, h8, h9⟩ := hq
    exact ⟨kt, et, es, k, z, h1, h2, h3, h4, h5, h6, h7, fun y hy => hK _ _ (h8 y hy), fun hn => hK _ _ (h9 hn)⟩
  · obtain ⟨kt, et, o, g, es, k, y, h1, h2, h3, h4, h5, h6, h7, h8, h9, h10⟩ := hq
    exact ⟨kt, et, o, g, es, k, y, h1, h2, h3, h4, h5, h6, h7, h8, fun i y0 hy => hK _ _ (h9 i y0 hy), fun hn => hK _ _ (h10 hn)⟩
  · obtain ⟨kt, et, o, g, es, k, z, h1, h2, h3, h4, h5, h6, h7, h8, h9, h10⟩ := hq
    exact ⟨kt, et, o, g, es, k, z, h1, h2, h3, h4, h5, h6, h7, h8, fun i y0 hy => hK _ _ (h9 i y0 hy), fun hn => hK _ _ (h10 hn)⟩
  · obtain ⟨o, g, es, i, k, y0, y, h1, h2, h3, h4, h5, h6⟩ := hq
    exact ⟨o, g, es, i, k, y0, y, h1, h2, h3, h4, h5, hK _ _ h6⟩
  · obtain ⟨n, kt, et, es, h1, h2, h3⟩ := hq
    refine ⟨n, kt, et, es, h1, h2, ?_⟩
    rcases h3 with ⟨o, g, fz, h3, h4, h5⟩ | ⟨h3, h4⟩ | ⟨h3, h4, h5⟩
    · exact .inl ⟨o, g, fz, h3, h4, hK _ _ h5⟩
    · exact .inr (.inl ⟨h3, hK _ _ h4⟩)
    · exact .inr (.inr ⟨h3, h4, hK _ _ h5⟩)
  · obtain ⟨o, g, left, cur, h1, h2, h3, h4⟩ := hq
    exact ⟨o, g, left, cur, h1, h2, fun e => hK _ _ (h3 e), fun i k y hy => hK _ _ (h4 i k y hy)⟩
  · obtain ⟨o, g, left, k, y, h1, h2, h3⟩ := hq
    exact ⟨o, g, left, k, y, h1, h2, hK _ _ h3⟩
  · exact hq
theorem mapE_some {d : Option Nat} {op : Op} {ev : Operand → LV} {K : LV → AH → Prop} (hq : mapE P d op ev h K) : ∃ lv h', K lv h' := by
  unfold mapE at hq
  split at hq
  · obtain ⟨n, h1, h2⟩ := hq; exact ⟨_, _, h2⟩
  · obtain ⟨kt, et, es, k, z, h1, h2, h3, h4, h5, h6, h7, h8, h9⟩ := hq
    by_cases hc : ∃ y, (k, y) ∈ es
    · obtain ⟨y, hy⟩ := hc; exact ⟨_, _, h8 y hy⟩
    · exact ⟨_, _, h9 fun y hy => hc ⟨y, hy⟩⟩
  · obtain ⟨kt, et, o, g, es, k, y, h1, h2, h3, h4, h5, h6, h7, h8, h9, h10⟩ := hq
    by_cases hc : ∃ y, (k, y) ∈ es
    · obtain ⟨y, hy⟩ := hc
      obtain ⟨i, hi⟩ := List.mem_iff_getElem?.1 hy
      exact ⟨_, _, h9 i y hi⟩
    · exact ⟨_, _, h10 fun y hy => hc ⟨y, hy⟩⟩
  · obtain ⟨kt, et, o, g, es, k, z, h1, h2, h3, h4, h5, h6, h7, h8, h9, h10⟩ := hq
    by_cases hc : ∃ y, (k, y) ∈ es
    · obtain ⟨y, hy⟩ := hc
      obtain ⟨i, hi⟩ := List.mem_iff_getElem?.1 hy
      exact ⟨_, _, h9 i y hi⟩
    · exact ⟨_, _, h10 fun y hy => hc ⟨y, hy⟩⟩
  · obtain ⟨o, g, es, i, k, y0, y, h1, h2, h3, h4, h5, h6⟩ := hq
    exact ⟨_, _, h6⟩
  · obtain ⟨n, kt, et, es, h1, h2, h3⟩ := hq
    rcases h3 with ⟨o, g, fz, h3, h4, h5⟩ | ⟨h3, h4⟩ | ⟨h3, h4, h5⟩
    · exact ⟨_, _, h5⟩
    · exact ⟨_, _, h4⟩
    · exact ⟨_, _, h5⟩
  · obtain ⟨o, g, left, cur, h1, h2, h3, h4⟩ := hq
    cases left with
    | nil => exact ⟨_, _, h3 rfl⟩
    | cons x l => exact ⟨_, _, h4 0 x.1 x.2 rfl⟩
  · obtain ⟨o, g, left, k, y, h1, h2, h3⟩ := hq
    exact ⟨_, _, h3⟩
  · exact hq.elim
theorem callE_mono {d : Option Nat} {f : LV} {args : List LV} {K K' : LV → AH → Prop} (hK : ∀ lv h, K lv h → K' lv h) (hq : callE P d f args h K) : callE P d f args h K' := by
  obtain ⟨os, own, hq⟩ := hq
  refine ⟨os, own, ?_⟩
  cases f with
  | clos f caps =>
    obtain ⟨as, cs, r, h1, h2, h3, h4, h5⟩ := hq
    exact ⟨as, cs, r, h1, h2, h3, h4, hK _ _ h5⟩
  | fv x =>
    cases x with
    | clos f cs =>
      obtain ⟨as, r, h1, h3, h4, h5⟩ := hq
      exact ⟨as, r, h1, h3, h4, hK _ _ h5⟩
    | _ => exact hq.elim
  | fn g =>
    obtain ⟨xs, r, h1, h2, h3, h4⟩ := hq
    exact ⟨xs, r, h1, h2, h3, hK _ _ h4⟩
  | _ => exact hq.elim
theorem stepE_mono {d : Option Nat} {op : Op} {ty : Nat} {ev : Operand → LV} {K K' : LV → AH → Prop} (hK : ∀ lv h, K lv h → K' lv h) (hq : stepE P d op ty ev h K) : stepE P d op ty ev h K' := by
  unfold stepE at hq ⊢
  split at hq
  · exact hq.imp (callE_mono hK) (callA_mono hK)
  · split
    · rename_i he; rw [if_pos he] at hq; exact mapE_mono hK hq
    · rename_i he'; rw [if_neg he'] at hq
      split
      · rename_i he; rw [if_pos he] at hq; exact effV_mono hK hq
      · rename_i he; rw [if_neg he] at hq; obtain ⟨lv, h1, h2⟩ := hq; exact ⟨lv, h1, hK _ _ h2⟩
theorem aSO_mono {o : SO} {σ : St} {K K' : St → Prop} (hK : ∀ σ, K σ → K' σ) (hq : aSO P o σ K) : aSO P o σ K' := by
  unfold aSO at hq ⊢
  split
  · rename_i hg; simp only [hg] at hq; exact stepE_mono (fun _ _ => hK _) hq
  · rename_i s want hg
    simp only [hg] at hq
    split
    · rename_i b hb
      simp only [hb] at hq
      split
      · rename_i hw; rw [if_pos hw] at hq; exact stepE_mono (fun _ _ => hK _) hq
      · rename_i hw; rw [if_neg hw] at hq; exact hK _ hq
    · rename_i hb
      simp only [hb] at hq
      exact hK _ hq
    · rename_i hne hne2
      split at hq
      · rename_i b hb; exact (hne b hb).elim
      · rename_i hb; exact (hne2 hb).elim
      · exact hq
theorem stepE_sound (H0 : HeapY P cx h w D an) {ρ : Nat → LV} {a : Act} (hs : ∀ i, LVRep P w D h.gen an (a.tmps.getD i Go.undef) (ρ i)) (o : Oper) {d : Option Nat}
    {K : LV → AH → Prop} (hq : stepE P d o.op o.type (evL ρ) h K) {ro : Option Nat} {n : Nat} {next : Act → World → Prop} {Q : Exit → Act → World → Prop}
    (hnext : ∀ lv h' v w' D' an', K lv h' → HeapY P cx h' w' D' an' → Ext w D h.gen an w' D' h'.gen an' → LVRep P w' D' h'.gen an' v lv → next (a.put o.dst v) w') : o.wpIn (FX ro) n P a w next Q := by
  obtain ⟨Y, hY, H⟩ := H0.heap
  have hnext' : ∀ lv h' v w' D' an', K lv h' → Heap P (cx.wY Y) h' w' D' an' → Ext w D h.gen an w' D' h'.gen an' → LVRep P w' D' h'.gen an' v lv → next (a.put o.dst v) w' :=
    fun lv h' v w' D' an' hK H' E L => hnext lv h' v w' D' an' hK (H0.next E hY H') E L
  have fin : (∀ c, o.op ≠ .defer c) → Left P (cx.wY Y) h w D an ((execOp a.eval o).run P w) K → o.wpIn (FX ro) n P a w next Q := by
    rintro hop ⟨lv, h', v, w', D', an', hK, hrun, H', E', L'⟩
    rcases hrun with hr | ⟨hr, rfl⟩
    · exact value_wpIn hop hr (hnext' lv h' v w' D' an' hK H' E' L')
    · exact skip_wpIn hop hr (hnext' lv h' _ w' D' an' hK H' E' L')
  unfold stepE at hq
  split at hq
  · rename_i f args tys ho
    rcases hq with hq | hq
    · exact call_sound H hs o f args tys ho hq hnext'
    · exact callA_sound H0 hs o f args tys ho hq hnext
  · rename_i op hne
    split at hq
    · rename_i he
      have hop : ∀ c, o.op ≠ .defer c := by intro c hc; rw [hc] at he; simp [isMap] at he
      exact fin hop (mapE_sound H hs o hq)
    split at hq
    · rename_i he
      have hop : ∀ c, o.op ≠ .defer c := by intro c hc; rw [hc] at he; simp [isEff] at he
      apply fin hop
      obtain ⟨o', h1, h2, h3, h4⟩ : ∃ o' : Oper, execOp a.eval o = execOp a.eval o' ∧ o'.dst = d ∧ o'.op = o.op ∧ o'.type = o.type :=
        ⟨{ o with dst := d }, by cases o; rfl, rfl, rfl, rfl⟩
      rw [h1]
      rw [← h2, ← h3, ← h4] at hq
      rw [← h3] at he
      cases hop : o'.op <;> rw [hop] at he <;> try (simp [isEff] at he; done)
      case assign x => exact assign_sound H hs o' x hop hq
      case box t x => exact box_sound H hs o' t x hop hq
      case alloc t => exact alloc_sound H o' t hop hq
      case buildSlice t n parts => exact buildSlice_sound H hs o' t n parts hop hq
      case makeSlice t l c => exact makeSlice_sound H hs o' t l c hop hq
      case store t ad x => exact store_sound H hs o' t ad x hop hq
      case call c =>
        obtain ⟨callee, args, tys⟩ := c
        cases callee with
        | builtin b =>
          cases b <;> try (simp [isEff] at he; done)
          · exact append_sound H hs o' args tys hop hq
          · exact copy_sound H hs o' args tys hop hq
        | _ => simp [isEff] at he
    · obtain ⟨lv, hl, hK⟩ := hq
      have hop : ∀ c, o.op ≠ .defer c := by intro c hc; rw [hc] at hl; simp [quietV] at hl
      obtain ⟨v, hr, hv⟩ := quiet_sound H hs o hl
      exact fin hop (.quiet H hr hv hK)
def markD (r : Nat) : Deferred := { target := .collected r, args := #[] }
structure RS (P : Program) (ro : Option Nat) (cx : Cx) (n : Nat) (σ : St) (a : Act) (w : World) (D : Nat → Prop) (an : Nat → Value) : Prop where
  heap : HeapY P cx σ.h w D an
  slots : ∀ i, LVRep P w D σ.h.gen an (a.tmps.getD i Go.undef) (σ.ρ i)
  marks : ∃ ms : List Nat, a.defers = ms.map markD ∧ ms.Nodup ∧ (ro.isSome = true → ms = []) ∧ ∀ r ∈ ms, cx.base ≤ r ∧ r < cx.wi.heap.size ∧ ¬ cx.M r ∧ ¬ cx.Di r ∧ cx.wi.heap[r]? = some (.deferred (some []))
  rnd : ∀ l, ro = some l → l < cx.wi.heap.size ∧ ¬ cx.M l ∧ ∃ rec, cx.wi.heap[l]? = some (.loop rec)
  size : a.tmps.size = n
theorem RS.put {ro : Option Nat} {n : Nat} {σ : St} {a : Act} (r : RS P ro cx n σ a w D an) {d : Option Nat} (hd : ∀ k, d = some k → k < n) {lv : LV} {h' : AH} {v : Value} {w' : World} {D' : Nat → Prop} {an' : Nat → Value}
    (H' : HeapY P cx h' w' D' an') (E : Ext w D σ.h.gen an w' D' h'.gen an') (L : LVRep P w' D' h'.gen an' v lv) : RS P ro cx n (σ.put d lv h') (a.put d v) w' D' an' := by
  cases d with
  | none => exact ⟨H', fun i => (r.slots i).ext E, r.marks, r.rnd, r.size⟩
  | some d =>
    refine ⟨H', fun i => ?_, r.marks, r.rnd, by simpa [Act.put] using r.size⟩
    have hdl : d < a.tmps.size := by rw [r.size]; exact hd d rfl
    simp only [St.put, upd, Act.put, Array.getD_eq_getD_getElem?]
    by_cases e : i = d
    · subst e
      rw [if_pos rfl, Array.getElem?_setIfInBounds_self_of_lt hdl]
      exact L
    · rw [if_neg e, Array.getElem?_setIfInBounds_ne (fun h => e h.symm)]
      have := (r.slots i).ext E
      rwa [Array.getD_eq_getD_getElem?] at this
theorem aSO_sound {ro : Option Nat} {m nb n : Nat} {σ : St} {a : Act} (r : RS P ro cx n σ a w D an) {ops : Array Oper} {i : Nat} {s : SO} (hsk : (ops[i]?).bind (sko nb ops) = some s) (hd : ∀ k, s.d = some k → k < n) {K : St → Prop} (hq : aSO P s σ K)
    {next : Act → World → Prop} {Q : Exit → Act → World → Prop} (hnext : ∀ σ' a' w' D' an', K σ' → RS P ro cx n σ' a' w' D' an' → next a' w') : wpOpIn (FX ro) m P ops Q i next a w := by
  rw [Option.bind_eq_some_iff] at hsk
  obtain ⟨o, ho, hsk⟩ := hsk
  unfold wpOpIn
  rw [ho]
  simp only
  have step : stepE P s.nm s.op s.ty (evL σ.ρ) σ.h (fun lv h' => K (σ.put s.d lv h')) → s.d = o.dst → s.op = o.op → s.ty = o.type → o.wpIn (FX ro) m P a w next Q := by
    intro hst h1 h2 h3
    rw [h1, h2, h3] at hst
    refine stepE_sound r.heap r.slots o hst fun lv h' v w' D' an' hK H' E' L' => ?_
    exact hnext _ _ w' D' an' hK (r.put (by rw [← h1]; exact hd) H' E' L')
  unfold sko at hsk
  cases hg : o.guard with
  | none =>
    rw [hg] at hsk
    simp only [Option.some.injEq] at hsk
    subst hsk
    simp only [aSO] at hq
    rw [if_pos (by simp [Region.wanted, hg])]
    exact step hq rfl rfl rfl
  | some g =>
    obtain ⟨j, want⟩ := g
    rw [hg] at hsk
    simp only [Option.map_eq_some_iff] at hsk
    obtain ⟨sl, hsl, rfl⟩ := hsk
    simp only [aSO] at hq
    split at hq
    · rename_i b hb
      have hval : a.tmps.getD sl Go.undef = .bool b := by
        have := r.slots sl
        rw [hb] at this
        exact Rep.val_inv this.fv_inv
      have hy : yielded ops a.tmps j = some b := by
        unfold yielded
        rw [hsl]
        simp only [Option.bind_some]
        rw [Array.getD_eq_getD_getElem?] at hval
        cases ht : a.tmps[sl]? with
        | none => rw [ht] at hval; simp [Go.undef] at hval
        | some v => rw [ht] at hval; simp at hval; subst hval; rfl
      have hw : Region.wanted o (yielded ops a.tmps) = (b == want) := by simp [Region.wanted, hg, hy]
      rw [hw]
      split at hq
      · rename_i e; subst e
        rw [if_pos (by simp)]
        exact step hq rfl rfl rfl
      · rename_i e
        rw [if_neg (by simpa using e)]
        exact ⟨fun _ _ => trivial, hnext _ _ w D an hq (r.put hd r.heap (.refl _ _ _ _) (.tup [] #[] rfl (fun j y v hy => by simp at hy)))⟩
    · rename_i hb
      have hval : a.tmps.getD sl Go.undef = .tuple #[] := by
        have := r.slots sl
        rw [hb] at this
        generalize a.tmps.getD sl Go.undef = v at this
        cases this with
        | tup _ vs hs _ =>
          have : vs = #[] := Array.eq_empty_of_size_eq_zero hs
          rw [this]
      have hy : yielded ops a.tmps j = none := by
        unfold yielded
        rw [hsl]
        simp only [Option.bind_some]
        rw [Array.getD_eq_getD_getElem?] at hval
        cases ht : a.tmps[sl]? with
        | none => rfl
        | some v => rw [ht] at hval; simp at hval; subst hval; rfl
      have hw : Region.wanted o (yielded ops a.tmps) = false := by simp [Region.wanted, hg, hy]
      rw [hw]
      exact ⟨fun _ _ => trivial, hnext _ _ w D an hq (r.put hd r.heap (.refl _ _ _ _) (.tup [] #[] rfl (fun j y v hy => by simp at hy)))⟩
    · exact hq.elim
theorem aIdx_sound {ro : Option Nat} {m nb n : Nat} {ops : Array Oper} (hdst : ∀ (i : Nat) (o : Oper) (k : Nat), ops[i]? = some o → o.dst = some k → k < n) {Q : Exit → Act → World → Prop} : ∀ (l : List Nat) {σ : St} {a : Act} {w : World} {D : Nat → Prop} {an : Nat → Value}
    (r : RS P ro cx n σ a w D an) {K : St → Prop}, aIdx P nb ops l σ K → (∀ σ' a' w' D' an', K σ' → RS P ro cx n σ' a' w' D' an' → Q .normal a' w') → wpOpsIn (FX ro) m P ops Q l a w
  | [], σ, a, w, D, an, r, K, hq, hQ => hQ _ _ _ _ _ hq r
  | i :: l, σ, a, w, D, an, r, K, hq, hQ => by
    rw [wpOpsIn_cons]
    unfold aIdx at hq
    split at hq
    · rename_i s hs
      refine aSO_sound r hs ?_ hq fun σ' a' w' D' an' h' r' => aIdx_sound hdst l r' h' hQ
      rw [Option.bind_eq_some_iff] at hs
      obtain ⟨o, ho, hs⟩ := hs
      intro k hk
      refine hdst i o k ho ?_
      rw [← hk]
      unfold sko at hs
      split at hs
      · simp at hs; subst hs; rfl
      · simp only [Option.map_eq_some_iff] at hs; obtain ⟨_, _, rfl⟩ := hs; rfl
    · exact hq.elim
end
end Abs

