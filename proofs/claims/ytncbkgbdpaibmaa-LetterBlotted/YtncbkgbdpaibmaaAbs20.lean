/- A part of the proof: Abs20. -/
import Derived.Test.YtncbkgbdpaibmaaAbs19
set_option linter.unusedSimpArgs false
set_option linter.unusedVariables false
namespace Abs
open Go
open Go.RowKit (Below)
section
variable {P : Program}
theorem RCRep.conv {w : World} {E E' : Nat → Prop} {B : Nat} {v : Value} {c : RC} (h : RCRep w E B v c) (h1 : ∀ b, E b → E' b) (h2 : ∀ b, E' b → E b) : RCRep w E' B v c := by
  cases c with
  | fx x => exact Rep.keep h h1 fun _ _ => rfl
  | own e es nil xs => exact ⟨h.1.keep h1 (fun _ _ => rfl) fun _ _ => rfl, fun b hb hE => h.2 b hb (h2 b hE)⟩
theorem retS_spec {own : Nat → Bool} {h : AH} : ∀ {ls : List LV} {cs : List RC}, retS own h ls cs → ls.length = cs.length ∧ ∀ (j : Nat) (l : LV) (c : RC), ls[j]? = some l → cs[j]? = some c → retC own h l c := by
  intro ls
  induction ls with
  | nil => intro cs h; cases cs with
    | nil => simp
    | cons => simp [retS] at h
  | cons l ls ih =>
    intro cs h
    cases cs with
    | nil => simp [retS] at h
    | cons c cs =>
      obtain ⟨h1, h2⟩ := h
      obtain ⟨e1, e2⟩ := ih h2
      refine ⟨by simp [e1], fun j l' c' hl hc => ?_⟩
      cases j with
      | zero => simp at hl hc; subst hl; subst hc; exact h1
      | succ j => exact e2 j l' c' (by simpa using hl) (by simpa using hc)
theorem ownNames_mem {o g : Nat} {e es : Nat} {nil : Bool} {xs : List FV} : ∀ {ls : List LV} {cs : List RC} (j : Nat), ls[j]? = some (.gl o g) → cs[j]? = some (.own e es nil xs) → o ∈ ownNames ls cs := by
  intro ls
  induction ls with
  | nil => intro cs j h; simp at h
  | cons l ls ih =>
    intro cs j h1 h2
    cases cs with
    | nil => simp at h2
    | cons c cs =>
      cases j with
      | zero => simp at h1 h2; subst h1; subst h2; simp [ownNames]
      | succ j =>
        have := ih (cs := cs) j (by simpa using h1) (by simpa using h2)
        cases l <;> cases c <;> simp_all [ownNames]
theorem ownNames_inj {o g g' : Nat} {e es e' es' : Nat} {nil nil' : Bool} {xs xs' : List FV} : ∀ {ls : List LV} {cs : List RC}, (ownNames ls cs).Nodup → ∀ (i j : Nat), ls[i]? = some (.gl o g) → cs[i]? = some (.own e es nil xs) → ls[j]? = some (.gl o g') → cs[j]? = some (.own e' es' nil' xs') → i = j := by
  intro ls
  induction ls with
  | nil => intro cs _ i j h; simp at h
  | cons l ls ih =>
    intro cs hn i j h1 h2 h3 h4
    cases cs with
    | nil => simp at h2
    | cons c cs =>
      have htail : (ownNames ls cs).Nodup := by
        cases l <;> cases c <;> simp only [ownNames] at hn <;> first | exact hn | exact (List.nodup_cons.1 hn).2
      cases i with
      | zero =>
        cases j with
        | zero => rfl
        | succ j =>
          simp at h1 h2; subst h1; subst h2
          have := ownNames_mem (ls := ls) (cs := cs) j (by simpa using h3) (by simpa using h4)
          simp only [ownNames, List.nodup_cons] at hn
          exact absurd this hn.1
      | succ i =>
        cases j with
        | zero =>
          simp at h3 h4; subst h3; subst h4
          have := ownNames_mem (ls := ls) (cs := cs) i (by simpa using h1) (by simpa using h2)
          simp only [ownNames, List.nodup_cons] at hn
          exact absurd this hn.1
        | succ j => rw [ih htail i j (by simpa using h1) (by simpa using h2) (by simpa using h3) (by simpa using h4)]
def resV : List Value → Value
  | [v] => v
  | vs => .tuple vs.toArray
theorem results_run {n : Nat} {cx : Cx} {ro : Option Nat} {σ : St} {a : Act} {w : World} {D : Nat → Prop} {an : Nat → Value} {fn : Func} (r : RS P ro cx n σ a w D an) {ls : List LV} (hls : resAll P σ fn.results.toList = some ls) :
    ∃ vs : List Value, vs.length = ls.length ∧ (results fn a.tmps).run P w = .ok (resV vs) w ∧ ∀ (j : Nat) (l : LV) (v : Value), ls[j]? = some l → vs[j]? = some v → LVRep P w D σ.h.gen an v l := by
  obtain ⟨vs, hvl, hvr, hvs⟩ := resAll_sound r fn.results.toList hls
  refine ⟨vs, hvl, ?_, hvs⟩
  have hrun : (results fn a.tmps).run P w = .ok (if h : vs.toArray.size = 1 then vs.toArray[0] else .tuple vs.toArray) w := by
    unfold results
    rw [Array.mapM_eq_mapM_toList]
    simp only [Sem.run_bind, Sem.run_map]
    exact congrArg (fun r : Result (List Value) => (r.andThen fun a w' => Result.ok a.toArray w').andThen fun a w' => Result.ok (if h : a.size = 1 then a[0] else Value.tuple a) w') hvr
  rw [hrun]
  congr 1
  cases vs with
  | nil => rfl
  | cons v vs => cases vs with
    | nil => rfl
    | cons u vs => simp [resV]
theorem leave_sound {n m : Nat} {cx : Cx} (hbase : cx.base = cx.wi.heap.size) {σ : St} {a : Act} {w : World} {fn : Func} {ls : List LV} (hls : resAll P σ fn.results.toList = some ls) {R : Ending → World → Prop} (r : RX P none cx n σ a w)
    (hfin : ∀ (w' : World) (D' : Nat → Prop) (an' : Nat → Value) (vs : List Value), HeapY P cx σ.h w' D' an' → vs.length = ls.length →
      (∀ (j : Nat) (l : LV) (v : Value), ls[j]? = some l → vs[j]? = some v → LVRep P w' D' σ.h.gen an' v l) → R (.returned (resV vs)) w') :
    LeavesInM (FX none) m P fn a.tmps R a.defers .returning w := by
  obtain ⟨cx', D, an, hle, r⟩ := r
  obtain ⟨ms, hms, hnd, _, hmk⟩ := r.marks
  obtain ⟨Y, hY, H'⟩ := r.heap.heap
  have HY := hle.hy _ _ _ _ r.heap
  obtain ⟨hY0, H⟩ := hle.hp _ _ _ _ _ hY H'
  have hmk' : ∀ r ∈ ms, cx.wi.heap.size ≤ r ∧ w.heap[r]? = some (.deferred (some [])) ∧ ¬ D r ∧ ¬ Y r := by
    intro b hb
    obtain ⟨p0, p1, p2, p3, p4⟩ := hmk b hb
    refine ⟨by have := hle.hb; omega, (H'.below.block b p1 p2).trans p4, fun hd => ?_, fun hy => p2 (hY b hy p1)⟩
    rcases H'.new b hd with h5 | h5 | h5
    · exact p3 h5
    · have : cx'.wi.heap.size ≤ b := h5; omega
    · exact p2 h5
  have hslots := r.slots
  have hsize := r.size
  rw [hms]
  clear hms hmk r hle H' hY
  have key : ∀ (ms : List Nat) (w : World), ms.Nodup → HeapY P cx σ.h w D an → Heap P (cx.wY Y) σ.h w D an → (∀ i, LVRep P w D σ.h.gen an (a.tmps.getD i Go.undef) (σ.ρ i)) →
      (∀ r ∈ ms, cx.wi.heap.size ≤ r ∧ w.heap[r]? = some (.deferred (some [])) ∧ ¬ D r ∧ ¬ Y r) → LeavesInM (FX none) m P fn a.tmps R (ms.map markD) .returning w := by
    intro ms
    induction ms with
    | nil =>
      intro w _ HY H hsl _
      have r0 : RS P none (cx.re H) n σ { a with defers := [] } w D an := ⟨HY.re H, hsl, ⟨[], rfl, List.nodup_nil, fun _ => rfl, by simp⟩, by simp, hsize⟩
      obtain ⟨vs, h1, h2, h3⟩ := results_run r0 hls
      exact ⟨_, h2, hfin w D an vs HY h1 h3⟩
    | cons b ms ih =>
      intro w hnd HY H hsl hmk
      obtain ⟨p1, p2, p3, p4⟩ := hmk b (by simp)
      refine ⟨by simp, .inl ⟨b, _, rfl, run_takeDeferred p2, ?_⟩⟩
      have hoth : ∀ k, k ≠ b → (w.putObj b (.deferred none)).heap[k]? = w.heap[k]? := fun k hk => World.putObj_heap_other hk
      have H2 : Heap P (cx.wY Y) σ.h (w.putObj b (.deferred none)) D an := H.other (putObj_below _ _ _) p1 (own_not H p2 rfl) p3 p4
      have E : Ext w D σ.h.gen an (w.putObj b (.deferred none)) D σ.h.gen an := ⟨fun _ h => h, fun k hk => hoth k fun e => p3 (e ▸ hk), fun _ => Nat.le_refl _, fun _ _ => rfl⟩
      refine ih _ (List.nodup_cons.1 hnd).2 (HY.next E hY0 H2) H2 (fun i => (hsl i).ext E) fun k hk => ?_
      obtain ⟨q1, q2, q3, q4⟩ := hmk k (by simp [hk])
      exact ⟨q1, (hoth k fun e => (List.nodup_cons.1 hnd).1 (e ▸ hk)).trans q2, q3, q4⟩
  exact key ms w hnd HY H hslots hmk'
def retG (P : Program) (rs : List ResultVar) (G : List LV → AH → Prop) (e : Exit) (σ : St) : Prop :=
  match e with
  | .normal | .ret => ∃ ls, resAll P σ rs = some ls ∧ G ls σ.h
  | _ => False
def ρ0 (args : List LV) : Nat → LV := fun i => (args[i]?).getD .undef
theorem run_fn {nb f : Nat} {fn : Func} {c : Code} {s : SC} {args : List LV} {h : AH} {G : List LV → AH → Prop} (hf : P.funcs[f]? = some fn) (hb : fn.body = some c) (hmix : P.follows .mixedOrders = true)
    (hsk : sk nb fn.ntmps c = some s) (hlen : args.length ≤ fn.ntmps) (hq : aWp P s ⟨ρ0 args, h⟩ (retG P fn.results.toList G))
    {cx : Cx} {w : World} {D : Nat → Prop} {an : Nat → Value} {cargs : Array Value} (hbase : cx.base = cx.wi.heap.size) (H : HeapY P cx h w D an) (L : LVs P w D h.gen an cargs args) {R : Ending → World → Prop}
    (hR : ∀ (ls : List LV) (h' : AH) (w' : World) (D' : Nat → Prop) (an' : Nat → Value) (vs : List Value), G ls h' → HeapY P cx h' w' D' an' → vs.length = ls.length →
      (∀ (j : Nat) (l : LV) (v : Value), ls[j]? = some l → vs[j]? = some v → LVRep P w' D' h'.gen an' v l) → R (.returned (resV vs)) w') : Calls P f cargs w R := by
  have r0 : RS P none cx fn.ntmps ⟨ρ0 args, h⟩ { tmps := cargs ++ Array.replicate (fn.ntmps - cargs.size) Go.undef, defers := [] } w D an := by
    refine ⟨H, fun i => ?_, ⟨[], rfl, List.nodup_nil, fun _ => rfl, by simp⟩, by simp, by have := L.1; simp; omega⟩
    simp only [ρ0, Array.getD_eq_getD_getElem?]
    by_cases hi : i < args.length
    · rw [Array.getElem?_append_left (by rw [L.1]; exact hi)]
      have h1 : args[i]? = some args[i] := by simp
      have h2 : cargs[i]? = some (cargs[i]'(by rw [L.1]; exact hi)) := by simp
      have := L.2 i _ _ h1 h2
      rw [h1, h2]
      exact this
    · rw [List.getElem?_eq_none (by omega)]
      exact .undef _
  have hw := aWp_sound hmix c hsk (ro := none) (m := 0) ⟨cx, D, an, Cx.le_refl _ _, r0⟩ hq
  have := callsIn_of_wp_marks (F := FX none) (n := 0) (R := R) hf hb trivial (wpIn_mono hw ?_) rfl
  · exact callsFX.1 this
  · rintro e a' w' ⟨σ, hpost, r'⟩
    cases e <;> first | exact hpost.elim | skip
    all_goals
      obtain ⟨ls, hls, hG⟩ := hpost
      exact leave_sound hbase hls r' fun w' D' an' vs h1 h2 h3 => hR ls σ.h w' D' an' vs hG h1 h2 h3
def resLV : List LV → LV
  | [l] => l
  | ls => .tup ls
theorem resV_rep {w : World} {D : Nat → Prop} {gen : Nat → Nat} {an : Nat → Value} {ls : List LV} {vs : List Value} (hl : vs.length = ls.length) (h : ∀ (j : Nat) (l : LV) (v : Value), ls[j]? = some l → vs[j]? = some v → LVRep P w D gen an v l) :
    LVRep P w D gen an (resV vs) (resLV ls) := by
  have tup : LVRep P w D gen an (.tuple vs.toArray) (.tup ls) := .tup _ _ (by simpa using hl) fun j y v hy hv => h j y v hy (by simpa using hv)
  cases ls with
  | nil => cases vs with
    | nil => exact tup
    | cons => simp at hl
  | cons l ls =>
    cases vs with
    | nil => simp at hl
    | cons v vs =>
      cases ls with
      | nil => cases vs with
        | nil => exact h 0 l v rfl rfl
        | cons => simp at hl
      | cons l' ls => cases vs with
        | nil => simp at hl
        | cons v' vs => exact tup
def Cx.re0 (cx : Cx) {h : AH} {w : World} {D : Nat → Prop} {an : Nat → Value} {Y : Nat → Prop} (H : Heap P (cx.wY Y) h w D an) : Cx := { cx.re H with base := w.heap.size, baseLe := Nat.le_refl _ }
theorem HeapY.re0 {cx : Cx} {h : AH} {w : World} {D : Nat → Prop} {an : Nat → Value} (H0 : HeapY P cx h w D an) {Y : Nat → Prop} (H : Heap P (cx.wY Y) h w D an) : HeapY P (cx.re0 H) h w D an := by
  obtain ⟨h1, h2, Y', h3, h4⟩ := H0.re H
  exact ⟨h1, h2, Y', h3, ⟨h4.init, h4.lt, h4.new, h4.below, h4.obj, h4.ow, h4.sep, h4.gmono, h4.anc, h4.yJ, h4.ylt, h4.ysep⟩⟩
theorem HeapY.of_re0 {cx : Cx} {h : AH} {w : World} {D : Nat → Prop} {an : Nat → Value} {Y : Nat → Prop} {H : Heap P (cx.wY Y) h w D an} {h' : AH} {w' : World} {D' : Nat → Prop} {an' : Nat → Value} (H0 : HeapY P (cx.re0 H) h' w' D' an') : HeapY P (cx.re H) h' w' D' an' := by
  obtain ⟨h1, h2, Y', h3, h4⟩ := H0
  exact ⟨h1, h2, Y', h3, ⟨h4.init, h4.lt, h4.new, h4.below, h4.obj, h4.ow, h4.sep, h4.gmono, h4.anc, h4.yJ, h4.ylt, h4.ysep⟩⟩
theorem ac_intro {nb f : Nat} {fn : Func} {c : Code} {s : SC} {args : List LV} {h : AH} {K : LV → AH → Prop} (hf : P.funcs[f]? = some fn) (hb : fn.body = some c) (hn : (fn.name == "runtime.NumGoroutine") = false) (hmix : P.follows .mixedOrders = true)
    (hsk : sk nb fn.ntmps c = some s) (hlen : args.length ≤ fn.ntmps) (hq : aWp P s ⟨ρ0 args, h⟩ (retG P fn.results.toList fun ls h' => K (resLV ls) h')) : AC P f args h K := by
  refine ⟨enters_of hf (by rw [hb]; rfl) hn, fun cx w D an cargs H L => ?_⟩
  obtain ⟨Y, hY, H1⟩ := H.heap
  refine run_fn hf hb hmix hsk hlen hq (cx := cx.re0 H1) rfl (H.re0 H1) L ?_
  intro ls h' w' D' an' vs hG H' hl hr
  have H'' := HeapY.of_re0 H'
  exact ⟨_, h', _, D', an', rfl, hG, H.unre hY H1 H'', HeapY.ext_re H1 H'', resV_rep hl hr⟩
def Cx.own (w : World) (D : Nat → Prop) : Cx where
  wi := w
  Di := D
  M := fun _ => False
  Ow := fun _ => False
  gen0 := fun _ => 0
  an0 := fun _ => .nilFunc
  J := YS.none
  Yb := fun _ => False
  sub := fun _ h => h
  jB := Nat.zero_le _
  owB := fun _ h => h.elim
  base := w.heap.size
  baseLe := Nat.le_refl _
def h0 : AH := ⟨fun _ => 0, fun _ => none, none⟩
def retF (r : RV) (ls : List LV) (h : AH) : Prop := ∃ own, retL own h ls r
theorem fn_intro {f : Nat} {fn : Func} {c : Code} {s : SC} {args : List Arg} {r : RV} (hf : P.funcs[f]? = some fn) (hb : fn.body = some c) (hn : (fn.name == "runtime.NumGoroutine") = false) (hmix : P.follows .mixedOrders = true)
    (hsk : sk 0 fn.ntmps c = some s) (hlen : args.length ≤ fn.ntmps) (hq : aWp P s ⟨ρ0 (args.map fun a => a.m.lv), h0⟩ (retG P fn.results.toList (retF r))) : Fn P f args r := by
  refine ⟨enters_of hf (by rw [hb]; rfl) hn, fun w D cargs hlt hargs => ?_⟩
  have Hh : Heap P ((Cx.own w D).wY fun _ => False) h0 w D (fun _ => .nilFunc) :=
    ⟨fun _ h => h, hlt, fun _ h => .inl h, .refl _ _ _, fun o ob ho => by simp [h0] at ho, fun o ob b ho => by simp [h0] at ho, fun o o' b ob ob' ho => by simp [h0] at ho, fun _ => Nat.le_refl _, fun _ _ => rfl, rfl, fun _ h => h.elim, fun _ _ _ _ _ h => h⟩
  have HY : HeapY P (Cx.own w D) h0 w D (fun _ => .nilFunc) := ⟨fun _ => YS.none_rule _ _, fun _ _ => rfl, fun _ => False, fun _ h => h.elim, Hh⟩
  have hL : LVs P w D h0.gen (fun _ => .nilFunc) cargs (args.map fun a => a.m.lv) := by
    refine ⟨by simpa using hargs.1, fun j y v hy hv => ?_⟩
    simp only [List.getElem?_map, Option.map_eq_some_iff] at hy
    obtain ⟨a, ha, rfl⟩ := hy
    have := hargs.2 j a v ha hv
    cases a with
    | fo x => exact .fv _ _ this
    | fn g => exact .fn _ _ this
    | sq xs => exact .sq _ _ (by obtain ⟨f, first, caps, e, _⟩ := this; rw [e]; rfl) this
  refine run_fn hf hb hmix hsk (by simpa using hlen) hq (cx := Cx.own w D) rfl HY hL ?_
  rintro ls h w' D' an vs ⟨own, hret⟩ H' hvl hvs
  obtain ⟨Y', hY', H⟩ := H'.heap
  have hnY : ∀ b, Y' b → w.heap.size ≤ b := fun b hb => by
    by_cases hlt : b < w.heap.size
    · exact (hY' b hb hlt).elim
    · omega
  have hDnew : ∀ b, D' b → D b ∨ w.heap.size ≤ b := by
    intro b hb
    rcases H.new b hb with h1 | h1 | h1
    · exact .inl h1
    · exact .inr h1
    · exact h1.elim
  have hnewobj : ∀ o ob b, h.obj o = some ob → blk (an o) = some b → w.heap.size ≤ b := by
    intro o ob b hob hb
    rcases H.ow o ob b hob hb with h1 | h1
    · exact h1
    · exact h1.elim
  have to1 : ∀ b, Lent own D' h an b → D b ∨ (Lent own D' h an b ∧ w.heap.size ≤ b) := by
    rintro b (hb | ⟨o, ob, ho, hob, hb⟩)
    · rcases hDnew b hb with h1 | h1
      · exact .inl h1
      · exact .inr ⟨.inl hb, h1⟩
    · exact .inr ⟨.inr ⟨o, ob, ho, hob, hb⟩, hnewobj o ob b hob hb⟩
  have to2 : ∀ b, D b ∨ (Lent own D' h an b ∧ w.heap.size ≤ b) → Lent own D' h an b := by
    rintro b (h1 | h1)
    · exact .inl (H.init b h1)
    · exact h1.1
  have conv : ∀ {v : Value} {c : RC}, RCRep w' (Lent own D' h an) w.heap.size v c → RCRep w' (fun b => D b ∨ (Lent own D' h an b ∧ w.heap.size ≤ b)) w.heap.size v c :=
    fun hc => hc.conv to1 to2
  have hF : ∀ b, (Lent own D' h an b ∧ w.heap.size ≤ b) → w.heap.size ≤ b ∧ b < w'.heap.size := by
    rintro b ⟨h1, h2⟩
    exact ⟨h2, lent_lt H own b h1⟩
  have hbelow : Below w.heap.size w w' := ⟨H.below.os, H.below.tape, H.below.output, H.below.size, fun k hk => H.below.block k hk fun h => h⟩
  unfold retL at hret
  split at hret
  · rename_i l c
    have hv1 : vs.length = 1 := by simpa using hvl
    obtain ⟨v, rfl⟩ := List.length_eq_one_iff.1 hv1
    have : RCRep w' (Lent own D' h an) w.heap.size v c := by
      rcases hret with hret | hret
      · exact retC_sound H (hvs 0 l v rfl rfl) hret (fun o ob b _ => hnewobj o ob b)
      · exact retSub_sound H (hvs 0 l v rfl rfl) hret (fun o ob b _ => hnewobj o ob b)
    exact ⟨v, _, rfl, hbelow, hF, conv this⟩
  · exact hret.elim
  · rename_i ls' cs hne
    obtain ⟨hs, hnd⟩ := hret
    obtain ⟨hl, hm⟩ := retS_spec hs
    have hv1 : resV vs = .tuple vs.toArray := by
      cases vs with
      | nil => rfl
      | cons v vs => cases vs with
        | nil =>
          have : ls.length = 1 := by simpa using hvl.symm
          obtain ⟨l, hl1⟩ := List.length_eq_one_iff.1 this
          exact (hne l hl1).elim
        | cons u vs => rfl
    rw [hv1]
    have key : ∀ (j : Nat) (c : RC) (u : Value), cs[j]? = some c → vs[j]? = some u → ∃ l, ls[j]? = some l ∧ LVRep P w' D' h.gen an u l ∧ retC own h l c := by
      intro j c u hc hu
      have hj : j < ls.length := by rw [hl]; exact (List.getElem?_eq_some_iff.1 hc).1
      have h1 : ls[j]? = some ls[j] := by simp
      exact ⟨ls[j], h1, hvs j _ u h1 hu, hm j _ c h1 hc⟩
    refine ⟨_, _, rfl, hbelow, hF, ⟨vs.toArray, rfl, by simp; omega, ?_, ?_⟩⟩
    · intro j c u hc hu
      obtain ⟨l, _, h1, h2⟩ := key j c u hc (by simpa using hu)
      exact conv (retC_sound H h1 h2 (fun o ob b _ => hnewobj o ob b))
    · intro i j c c' u u' b h1 h2 h3 h4 h5 h6 h7 h8
      obtain ⟨l, hl1, hv1', hr1⟩ := key i c u h1 (by simpa using h3)
      obtain ⟨l', hl2, hv2', hr2⟩ := key j c' u' h2 (by simpa using h4)
      cases c with
      | fx => simp [RC.isOwn] at h5
      | own e es nil xs =>
        cases c' with
        | fx => simp [RC.isOwn] at h6
        | own e' es' nil' xs' =>
          obtain ⟨o, g, rfl, ho, _, hls1⟩ := hr1
          obtain ⟨o', g', rfl, ho', _, hls2⟩ := hr2
          obtain ⟨rfl, hob1⟩ := AH.lst_spec hls1
          obtain ⟨rfl, hob2⟩ := AH.lst_spec hls2
          have e1 : u = an o := by cases hv1' with | gl _ _ _ hp hg he => exact he rfl
          have e2 : u' = an o' := by cases hv2' with | gl _ _ _ hp hg he => exact he rfl
          rw [e1] at h7
          rw [e2] at h8
          have := H.sep o o' b _ _ hob1 hob2 h7 h8
          subst this
          exact ownNames_inj hnd i j hl1 h1 hl2 h2
  · exact hret.elim
def Cx.yielding (w : World) (D Y : Nat → Prop) (yv : Value) (ys : YS) (hB : ys.B ≤ w.heap.size) : Cx where
  wi := w
  Di := D
  M := Y
  Ow := fun _ => False
  gen0 := fun _ => 0
  an0 := fun o => if o = yN then yv else .nilFunc
  J := ys
  Yb := Y
  sub := fun _ h => h.elim
  jB := hB
  owB := fun _ h => h.elim
  base := w.heap.size
  baseLe := Nat.le_refl _
def hy (xs : List (List FV)) : AH := ⟨fun _ => 0, fun _ => none, some xs⟩
def retY (ls : List LV) (h : AH) : Prop := h.y = some [] ∨ h.y = none
theorem seq_intro {f : Nat} {fn : Func} {c : Code} {s : SC} {pre post : List FV} {xs : List (List FV)} (hf : P.funcs[f]? = some fn) (hb : fn.body = some c) (hn : (fn.name == "runtime.NumGoroutine") = false) (hmix : P.follows .mixedOrders = true)
    (hsk : sk 0 fn.ntmps c = some s) (hlen : pre.length + 1 + post.length ≤ fn.ntmps) (hq : aWp P s ⟨ρ0 (pre.map .fv ++ [.it yN 0] ++ post.map .fv), hy xs⟩ (retG P fn.results.toList retY)) : SeqFn P f pre post xs := by
  refine ⟨enters_of hf (by rw [hb]; rfl) hn, fun w D vpre vpost yv ys Y hlt hpre hpost hrule hone hB hYlt hJ => ?_⟩
  let cx : Cx := Cx.yielding w D Y yv ys hB
  let an : Nat → Value := fun o => if o = yN then yv else .nilFunc
  have Hh : Heap P (cx.wY Y) (hy xs) w D an :=
    ⟨fun _ h => h, hlt, fun _ h => .inl h, .refl _ _ _, fun o ob ho => by simp [hy] at ho, fun o ob b ho => by simp [hy] at ho, fun o o' b ob ob' ho => by simp [hy] at ho, fun _ => Nat.le_refl _, fun _ _ => rfl, hJ, hYlt, fun o ob b ho => by simp [hy] at ho⟩
  have hane : an yN = yv := by simp [an]
  have HY : HeapY P cx (hy xs) w D an := ⟨fun _ => hane ▸ hrule, fun _ _ => rfl, Y, fun _ h _ => h, Hh⟩
  have hsz1 := hpre.1
  have hsz2 := hpost.1
  have hL : LVs P w D (hy xs).gen an (vpre ++ #[yv] ++ vpost) (pre.map .fv ++ [.it yN 0] ++ post.map .fv) := by
    refine ⟨by simp; omega, fun j y v hy' hv => ?_⟩
    by_cases h1 : j < pre.length
    · rw [List.getElem?_append_left (by simp; omega), List.getElem?_append_left (by simp; omega)] at hy'
      rw [Array.getElem?_append_left (by simp; omega), Array.getElem?_append_left (by omega)] at hv
      simp only [List.getElem?_map, Option.map_eq_some_iff] at hy'
      obtain ⟨x, hx, rfl⟩ := hy'
      exact .fv _ _ (hpre.2 j x v hx hv)
    · by_cases h2 : j = pre.length
      · subst h2
        rw [List.getElem?_append_left (by simp), List.getElem?_append_right (by simp)] at hy'
        rw [Array.getElem?_append_left (by simp; omega), Array.getElem?_append_right (by omega)] at hv
        simp at hy'
        subst hy'
        have : v = yv := by
          rw [show pre.length - vpre.size = 0 by omega] at hv
          simpa using hv.symm
        subst this
        exact .it _ _ _ hone (Nat.le_refl _) fun _ => by simp [an]
      · rw [List.getElem?_append_right (by simp; omega)] at hy'
        rw [Array.getElem?_append_right (by simp; omega)] at hv
        simp only [List.length_append, List.length_map, List.length_cons, List.length_nil] at hy'
        simp only [Array.size_append, List.size_toArray, List.length_cons, List.length_nil] at hv
        simp only [List.getElem?_map, Option.map_eq_some_iff] at hy'
        obtain ⟨x, hx, rfl⟩ := hy'
        refine .fv _ _ (hpost.2 _ x v hx ?_)
        rw [← hv]; congr 1; omega
  refine run_fn hf hb hmix hsk (by simp; omega) hq (cx := cx) rfl HY hL ?_
  intro ls h w' D' an' vs hG H' hvl hvs
  obtain ⟨Y', hY', H⟩ := H'.heap
  refine ⟨_, Y', D', rfl, ⟨H.below, H'.keep, H.init, fun b hb => ?_, H.lt, fun b hb => ?_, H.ylt⟩, ?_⟩
  · rcases H.new b hb with h1 | h1 | h1
    · exact .inl h1
    · exact .inr (.inr h1)
    · exact .inr (.inl h1)
  · by_cases hlt : b < w.heap.size
    · exact .inl (hY' b hb hlt)
    · exact .inr (by omega)
  · have hJ' := H.yJ
    rcases hG with h1 | h1 <;> rw [h1] at hJ'
    · exact .inl hJ'
    · exact .inr hJ'
end
end Abs

