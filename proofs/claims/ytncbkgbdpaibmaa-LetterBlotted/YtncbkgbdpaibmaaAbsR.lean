/- A part of the proof: AbsR. -/
import Derived.Test.YtncbkgbdpaibmaaAbsI
import Derived.WalkKit
import Derived.ProofKit
import Derived.OpenShut
import Derived.ChangeOld
import Derived.Below
import Derived.SizedLaws
set_option linter.unusedSimpArgs false
set_option linter.unusedVariables false
namespace Abs
open Go
/-! Arguments, opened: bools, integers, slices, arrays, structs. -/
def aggB (P : Program) (t : Nat) : Bool := match P.underlying t with | some (.struct _) => true | some (.array _ _) => true | _ => false
def ShA (S : List FV → Prop) : Nat → List FV → Prop
  | 0, fs => fs = []
  | m + 1, fs => ∃ a b, fs = a ++ b ∧ S a ∧ ShA S m b
def ShF (S : Nat → List FV → Prop) : List Field → List FV → Prop
  | [], fs => fs = []
  | f :: r, fs => ∃ a b, fs = a ++ b ∧ S f.type a ∧ ShF S r b
def Sh (P : Program) : Nat → Nat → List FV → Prop
  | 0, _, _ => False
  | n + 1, t, fs =>
    match P.underlying t with
    | some .bool => ∃ b, fs = [.val (.bool b)]
    | some (.int k) => ∃ z, fs = [.val (.int k z)] ∧ (Lit.int k z).wf = true
    | some (.slice e) => ∃ s xs, fs = [s] ∧ lsOf s = some xs ∧ xs.length ≤ 9223372036854775807 ∧ ∀ y ∈ xs, ∃ cs, y = FV.ofCells (aggB P e) cs ∧ Sh P n e cs
    | some (.array m e) => ShA (Sh P n e) m fs
    | some (.struct fl) => ShF (Sh P n) fl.toList fs
    | _ => False
def contB (P : Program) : Nat → List Field → Nat → Bool
  | o, [], tot => o == tot
  | o, f :: r, tot => f.offset == o && contB P (o + P.cellsOf f.type) r tot
def plainT (P : Program) : Nat → Nat → Bool
  | 0, _ => false
  | n + 1, t =>
    match P.underlying t with
    | some .bool => P.cellsOf t == 1
    | some (.int _) => P.cellsOf t == 1
    | some (.slice e) => plainT P n e && decide (0 < P.cellsOf e) && P.cellsOf t == 1 && (aggB P e || P.cellsOf e == 1)
    | some (.array m e) => plainT P n e && P.cellsOf t == m * P.cellsOf e
    | some (.struct fl) => contB P 0 fl.toList (P.cellsOf t) && fl.toList.all fun f => plainT P n f.type
    | _ => false
def RepCs (W : World) (cs : List Value) (fs : List FV) : Prop :=
  fs.length = cs.length ∧ (∀ y ∈ fs, y.one = true) ∧ ∀ (j : Nat) (y : FV) (v : Value), fs[j]? = some y → cs[j]? = some v → Rep W (fun b => b < W.heap.size) v y
theorem RepCs.append {W : World} {c1 c2 : List Value} {f1 f2 : List FV} (h1 : RepCs W c1 f1) (h2 : RepCs W c2 f2) : RepCs W (c1 ++ c2) (f1 ++ f2) := by
  refine ⟨by simp [h1.1, h2.1], fun y hy => ?_, fun j y v hy hv => ?_⟩
  · rcases List.mem_append.1 hy with h | h
    · exact h1.2.1 y h
    · exact h2.2.1 y h
  · by_cases hj : j < f1.length
    · rw [List.getElem?_append_left hj] at hy
      rw [List.getElem?_append_left (by rw [← h1.1]; exact hj)] at hv
      exact h1.2.2 j y v hy hv
    · rw [List.getElem?_append_right (by omega)] at hy
      rw [List.getElem?_append_right (by rw [← h1.1]; omega)] at hv
      rw [← h1.1] at hv
      exact h2.2.2 _ y v hy hv
theorem RepCs.nil (W : World) : RepCs W [] [] := ⟨rfl, by simp, by simp⟩
theorem RepCs.one {W : World} {v : Value} {y : FV} (h1 : y.one = true) (h : Rep W (fun b => b < W.heap.size) v y) : RepCs W [v] [y] := by
  refine ⟨rfl, by simpa using h1, fun j x u hx hu => ?_⟩
  match j with
  | 0 => simp at hx hu; subst hx; subst hu; exact h
  | j + 1 => simp at hx
theorem list_of {α : Type} {G : Nat → α → Prop} : ∀ (n : Nat), (∀ i, i < n → ∃ y, G i y) → ∃ ys : List α, ys.length = n ∧ ∀ i y, ys[i]? = some y → G i y
  | 0, _ => ⟨[], rfl, by simp⟩
  | n + 1, h => by
    obtain ⟨ys, h1, h2⟩ := list_of (G := G) n fun i hi => h i (by omega)
    obtain ⟨y, hy⟩ := h n (by omega)
    refine ⟨ys ++ [y], by simp [h1], fun i z hz => ?_⟩
    by_cases hi : i < ys.length
    · rw [List.getElem?_append_left hi] at hz
      exact h2 i z hz
    · rw [List.getElem?_append_right (by omega)] at hz
      have : i - ys.length = 0 := by
        rcases Nat.eq_zero_or_pos (i - ys.length) with h | h
        · exact h
        · rw [List.getElem?_eq_none (by simp; omega)] at hz; simp at hz
      rw [this] at hz
      simp at hz
      subst hz
      have : i = n := by omega
      subst this
      exact hy
theorem spot_none {W : World} {a : Addr} {u : Value} (h : W.cell? a = some u) : a.spot = none ∧ a.block < W.heap.size := by
  unfold World.cell? at h
  split at h
  · rename_i hh
    split at h
    · simp at h
    · rename_i hs
      refine ⟨by cases hsp : a.spot <;> simp_all, ?_⟩
      exact (Array.getElem?_eq_some_iff.1 hh).1
  · simp at h
theorem cells_get {W : World} {a : Addr} {k : Nat} {cs : List Value} (h : W.cells? 0 a k = some cs) : cs.length = k ∧ ∀ r, r < k → W.cell? (a.add r) = cs[r]? := by
  unfold World.cells? at h
  rw [if_pos (Nat.zero_le _)] at h
  exact ⟨by simpa using mapM_some_length h, fun r hr => mapM_some_get h r r (by simp [hr])⟩
section
variable {H : Type} {enc : TypeId × Value → H} {W : World} {P : Program}
theorem ofCells_cells {agg : Bool} {cs : List FV} (h : agg = true ∨ ∃ y, cs = [y] ∧ y.one = true) : (FV.ofCells agg cs).cells = cs := by
  rcases h with rfl | ⟨y, rfl, h1⟩
  · rfl
  · cases agg
    · cases y with
      | agg => simp [FV.one] at h1
      | _ => rfl
    · rfl
theorem open_sh : ∀ (n fuel t : Nat) (cs : List Value) (x : DataW H × List MemPlace), plainT P n t = true → DataW.trod enc P W 0 (fun _ => true) true fuel t cs = some x → cs.length = P.cellsOf t ∧ ∃ fs, RepCs W cs fs ∧ Sh P n t fs
  | 0, _, _, _, _, hp, _ => by simp [plainT] at hp
  | n + 1, fuel, t, cs, x, hp, h => by
    unfold plainT at hp
    unfold Sh
    split at hp
    · rename_i ht
      obtain ⟨b, rfl, _⟩ := DataW.trod_bool ht h
      refine ⟨by simp at hp; simp [hp], [.val (.bool b)], RepCs.one rfl (.val _), ?_⟩
      exact ⟨b, rfl⟩
    · rename_i k ht
      obtain ⟨z, rfl, _, hw⟩ := DataW.trod_int ht h
      refine ⟨by simp at hp; simp [hp], [.val (.int k z)], RepCs.one rfl (.val _), ?_⟩
      exact ⟨z, rfl, hw⟩
    · rename_i e ht
      simp only [Bool.and_eq_true, decide_eq_true_eq, beq_iff_eq, Bool.or_eq_true] at hp
      obtain ⟨⟨⟨hpe, hk⟩, ht1⟩, hag⟩ := hp
      rcases DataW.trod_slice ht h with ⟨rfl, _⟩ | ⟨a, len, cap, elems, rest, m, rfl, rfl, _, _, hlc, hcm, _, hel, hre, _⟩
      · exact ⟨by simp [ht1], [.nil], RepCs.one rfl (.val _), .nil, [], rfl, rfl, by simp, by simp⟩
      · refine ⟨by simp [ht1], ?_⟩
        have hG : ∀ i, i < len → ∃ ys : List FV, ∃ ci, W.cells? 0 (a.add (i * P.cellsOf e)) (P.cellsOf e) = some ci ∧ RepCs W ci ys ∧ Sh P n e ys := by
          intro i hi
          have := hel i hi
          have hi' : i < elems.length := by omega
          rw [List.getElem?_eq_getElem hi', Option.bind_eq_some_iff] at this
          obtain ⟨ci, h1, h2⟩ := this
          obtain ⟨_, ys, h3, h4⟩ := open_sh n m e ci _ hpe h2
          exact ⟨ys, ci, h1, h3, h4⟩
        obtain ⟨L, hL, hLg⟩ := list_of len hG
        have hcells : ∀ ys ∈ L, (FV.ofCells (aggB P e) ys).cells = ys ∧ ys.length = P.cellsOf e ∧ ys.all FV.one = true := by
          intro ys hys
          obtain ⟨i, hi⟩ := List.mem_iff_getElem?.1 hys
          obtain ⟨ci, h1, h2, h3⟩ := hLg i ys hi
          have hlen : ys.length = P.cellsOf e := by rw [h2.1]; exact (cells_get h1).1
          refine ⟨ofCells_cells ?_, hlen, List.all_eq_true.2 h2.2.1⟩
          rcases hag with hg | hg
          · exact .inl hg
          · right
            rw [hg] at hlen
            obtain ⟨y, rfl⟩ := List.length_eq_one_iff.1 hlen
            exact ⟨y, rfl, h2.2.1 y (by simp)⟩
        by_cases hcap : cap = 0
        · subst hcap
          have hl0 : len = 0 := by omega
          subst hl0
          have : L = [] := List.length_eq_zero_iff.1 hL
          exact ⟨[.list false []], RepCs.one rfl (.empty _ _), .list false [], [], rfl, rfl, by simp, by simp⟩
        · have ea : a.add 0 = a := by simp [Addr.add]
          have hc0 : ∃ u, W.cell? a = some u := by
            by_cases hl0 : len = 0
            · subst hl0
              obtain ⟨r1, r2⟩ := hre rfl
              have := r2 0 (by omega)
              rw [List.getElem?_eq_getElem (by omega), Option.bind_eq_some_iff] at this
              obtain ⟨ci, q1, _⟩ := this
              rw [show (0 + 0) * P.cellsOf e = 0 by simp, ea] at q1
              have q2 := (cells_get q1).2 0 hk
              have q3 := (cells_get q1).1
              rw [ea] at q2
              rw [q2]
              exact ⟨ci[0], by simp⟩
            · obtain ⟨ys, ci, q1, _⟩ := hG 0 (by omega)
              rw [Nat.zero_mul, ea] at q1
              have q2 := (cells_get q1).2 0 hk
              have q3 := (cells_get q1).1
              rw [ea] at q2
              rw [q2]
              exact ⟨ci[0], by simp⟩
          obtain ⟨u, hu⟩ := hc0
          obtain ⟨hsp, hlt⟩ := spot_none hu
          obtain ⟨b, off, spot⟩ := a
          dsimp only at hsp hlt
          subst hsp
          have hXl : (L.map (FV.ofCells (aggB P e))).length = len := by simp [hL]
          have hXe : ∀ x ∈ L.map (FV.ofCells (aggB P e)), x.cells.length = P.cellsOf e ∧ x.cells.all FV.one = true := by
            intro x hx
            obtain ⟨ys, hys, rfl⟩ := List.mem_map.1 hx
            obtain ⟨q1, q2, q3⟩ := hcells ys hys
            rw [q1]
            exact ⟨q2, q3⟩
          have hfl : ∀ (j : Nat) (z : FV), (FV.flat (L.map (FV.ofCells (aggB P e))))[j]? = some z → ∃ v, W.cell? ⟨b, off + j, none⟩ = some v ∧ Rep W (fun b => b < W.heap.size) v z := by
            intro j z hz
            have hfll : (FV.flat (L.map (FV.ofCells (aggB P e)))).length = len * P.cellsOf e := by
              rw [← hXl]
              generalize L.map (FV.ofCells (aggB P e)) = X at hXe
              clear hz hXl
              induction X with
              | nil => simp [FV.flat]
              | cons x X ih =>
                have := ih fun y hy => hXe y (by simp [hy])
                simp only [FV.flat, List.flatMap_cons, List.length_append, List.length_cons, Nat.add_mul, Nat.one_mul] at this ⊢
                have := (hXe x (by simp)).1
                omega
            have hjl : j < len * P.cellsOf e := by rw [← hfll]; exact (List.getElem?_eq_some_iff.1 hz).1
            have hi : j / P.cellsOf e < len := (Nat.div_lt_iff_lt_mul hk).2 hjl
            have hr : j % P.cellsOf e < P.cellsOf e := Nat.mod_lt _ hk
            have hj : j / P.cellsOf e * P.cellsOf e + j % P.cellsOf e = j := by rw [Nat.mul_comm]; exact Nat.div_add_mod j _
            obtain ⟨ys, hys⟩ : ∃ ys, L[j / P.cellsOf e]? = some ys := ⟨_, List.getElem?_eq_getElem (by omega)⟩
            obtain ⟨ci, h1, h2, h3⟩ := hLg _ ys hys
            have hg := flat_get (fun x hx => (hXe x hx).1) (j / P.cellsOf e) (j % P.cellsOf e) (FV.ofCells (aggB P e) ys) (by simp [hys]) hr
            rw [hj, hz, (hcells ys (List.mem_of_getElem? hys)).1] at hg
            have hc := (cells_get h1).2 _ hr
            have hcl := (cells_get h1).1
            have e1 : (Addr.add (Addr.add ⟨b, off, none⟩ (j / P.cellsOf e * P.cellsOf e)) (j % P.cellsOf e)) = ⟨b, off + j, none⟩ := by
              rw [lone_add, lone_add]
              congr 1
              omega
            rw [e1] at hc
            obtain ⟨v, hv⟩ : ∃ v, ci[j % P.cellsOf e]? = some v := ⟨_, List.getElem?_eq_getElem (by omega)⟩
            exact ⟨v, hc.trans hv, h2.2.2 _ z v hg.symm hv⟩
          refine ⟨[.list false (L.map (FV.ofCells (aggB P e)))], RepCs.one rfl ?_, _, _, rfl, rfl, by have : cap ≤ 9223372036854775807 := hcm; omega, ?_⟩
          · have hch : ∀ j, ∃ v : Value, ∀ z, (FV.flat (L.map (FV.ofCells (aggB P e))))[j]? = some z → W.cell? ⟨b, off + j, none⟩ = some v ∧ Rep W (fun b => b < W.heap.size) v z := by
              intro j
              cases hz : (FV.flat (L.map (FV.ofCells (aggB P e))))[j]? with
              | none => exact ⟨.nilFunc, by simp⟩
              | some z =>
                obtain ⟨v, h1, h2⟩ := hfl j z hz
                exact ⟨v, fun z' hz' => by simp at hz'; subst hz'; exact ⟨h1, h2⟩⟩
            have := Rep.list (w := W) (D := fun b => b < W.heap.size) false (L.map (FV.ofCells (aggB P e))) b off cap (P.cellsOf e) (fun j => Classical.choose (hch j)) (by rw [hXl]; exact hlc) hcm (by simp) hk hXe (fun _ => hlt)
              (fun j y hy => (Classical.choose_spec (hch j) y hy).1) (fun j y hy => (Classical.choose_spec (hch j) y hy).2)
            rw [hXl] at this
            exact this
          · intro y hy
            obtain ⟨ys, hys, rfl⟩ := List.mem_map.1 hy
            obtain ⟨i, hi⟩ := List.mem_iff_getElem?.1 hys
            obtain ⟨ci, h1, h2, h3⟩ := hLg i ys hi
            exact ⟨ys, rfl, h3⟩
    · rename_i m e ht
      simp only [Bool.and_eq_true, beq_iff_eq] at hp
      obtain ⟨hpe, hte⟩ := hp
      obtain ⟨xs, fu, _, _, hcl, hxl, hx⟩ := DataW.trod_array ht h
      refine ⟨hcl, ?_⟩
      have key : ∀ (k : Nat), k ≤ m → ∃ fs, RepCs W (cs.drop ((m - k) * P.cellsOf e)) fs ∧ ShA (Sh P n e) k fs := by
        intro k
        induction k with
        | zero => intro _; exact ⟨[], by rw [Nat.sub_zero, List.drop_eq_nil_of_le (by rw [hcl, hte]; exact Nat.le_refl _)]; exact RepCs.nil W, rfl⟩
        | succ k ih =>
          intro hk
          obtain ⟨fs, h1, h2⟩ := ih (by omega)
          have h3 := hx (m - (k + 1)) (by omega)
          rw [List.getElem?_eq_getElem (by omega)] at h3
          obtain ⟨_, ys, h4, h5⟩ := open_sh n fu e _ _ hpe h3
          refine ⟨ys ++ fs, ?_, ys, fs, rfl, h5, h2⟩
          have e1 : cs.drop ((m - (k + 1)) * P.cellsOf e) = (cs.drop ((m - (k + 1)) * P.cellsOf e)).take (P.cellsOf e) ++ cs.drop ((m - k) * P.cellsOf e) := by
            have : (m - k) * P.cellsOf e = (m - (k + 1)) * P.cellsOf e + P.cellsOf e := by
              rw [show m - k = m - (k + 1) + 1 by omega, Nat.add_mul, Nat.one_mul]
            rw [this, ← List.drop_drop, List.take_append_drop]
          rw [e1]
          exact h4.append h1
      obtain ⟨fs, h1, h2⟩ := key m (Nat.le_refl _)
      rw [Nat.sub_self, Nat.zero_mul, List.drop_zero] at h1
      exact ⟨fs, h1, h2⟩
    · rename_i fl ht
      simp only [Bool.and_eq_true, List.all_eq_true] at hp
      obtain ⟨hcon, hpf⟩ := hp
      obtain ⟨xs, fu, _, _, hcl, hxl, hx⟩ := DataW.trod_struct ht h
      refine ⟨hcl, ?_⟩
      have key : ∀ (r : List Field) (o : Nat), (∀ f ∈ r, f ∈ fl.toList) → contB P o r (P.cellsOf t) = true → ∃ fs, RepCs W (cs.drop o) fs ∧ ShF (Sh P n) r fs := by
        intro r
        induction r with
        | nil =>
          intro o _ ho
          simp only [contB, beq_iff_eq] at ho
          exact ⟨[], by rw [List.drop_eq_nil_of_le (by omega)]; exact RepCs.nil W, rfl⟩
        | cons f r ih =>
          intro o hin ho
          simp only [contB, Bool.and_eq_true, beq_iff_eq] at ho
          obtain ⟨ho1, ho2⟩ := ho
          obtain ⟨fs, h1, h2⟩ := ih (o + P.cellsOf f.type) (fun g hg => hin g (by simp [hg])) ho2
          obtain ⟨i, hi⟩ := List.mem_iff_getElem?.1 (hin f (by simp))
          have hi' : fl[i]? = some f := by simpa using hi
          have h3 := hx i f hi'
          have hil : i < fl.size := (Array.getElem?_eq_some_iff.1 hi').1
          rw [List.getElem?_eq_getElem (by omega)] at h3
          obtain ⟨_, ys, h4, h5⟩ := open_sh n fu f.type _ _ (hpf f (hin f (by simp))) h3
          refine ⟨ys ++ fs, ?_, ys, fs, rfl, h5, h2⟩
          have e1 : cs.drop o = (cs.drop o).take (P.cellsOf f.type) ++ cs.drop (o + P.cellsOf f.type) := by
            rw [← List.drop_drop, List.take_append_drop]
          rw [e1]
          rw [ho1] at h4
          exact h4.append h1
      obtain ⟨fs, h1, h2⟩ := key fl.toList 0 (fun _ h => h) hcon
      exact ⟨fs, h1, h2⟩
    · simp at hp
theorem open_one {n t : Nat} {v : Value} {d : DataW H} {ps : List MemPlace} (hp : plainT P n t = true) (h1 : P.cellsOf t = 1) (hv : v.cells = #[v]) (h : DataW.Trod enc P W 0 (fun _ => true) true t v d ps) : ∃ y, Rep W (fun b => b < W.heap.size) v y ∧ Sh P n t [y] := by
  obtain ⟨fuel, hf⟩ := h
  obtain ⟨_, fs, h2, h3⟩ := open_sh n fuel t _ _ hp hf
  rw [hv] at h2
  obtain ⟨l1, _, r1⟩ := h2
  obtain ⟨y, rfl⟩ := List.length_eq_one_iff.1 l1
  exact ⟨y, r1 0 y v rfl rfl, h3⟩
theorem open_agg {n t : Nat} {cs : Array Value} {d : DataW H} {ps : List MemPlace} (hp : plainT P n t = true) (h : DataW.Trod enc P W 0 (fun _ => true) true t (.agg cs) d ps) : ∃ fs, Rep W (fun b => b < W.heap.size) (.agg cs) (.agg fs) ∧ Sh P n t fs := by
  obtain ⟨fuel, hf⟩ := h
  obtain ⟨_, fs, h2, h3⟩ := open_sh n fuel t _ _ hp hf
  obtain ⟨l1, l2, r1⟩ := h2
  exact ⟨fs, .agg cs fs (by rw [l1]; rfl) (List.all_eq_true.2 l2) (fun j y v hy hv => r1 j y v hy (by simpa [Value.cells] using hv)), h3⟩
end
end Abs

