/- A part of the proof: Abs0, Abs1, Abs2. -/
import Derived.WalkKit
import Derived.Below
import Derived.Orders
import Derived.KernelRfl
import Derived.MapKept
import Derived.RangeFuncOwn
import Derived.RangeFuncLeaves

namespace Abs
open Go
inductive FV where
  | val (v : Value)
  | list (full : Bool) (xs : List FV)
  | ptr (cells : List FV)
  | agg (cells : List FV)
  | tup (vs : List FV)
  | clos (f : Nat) (caps : List FV)
  | map (es : List (FV × FV))
  deriving Inhabited
namespace FV
def cells : FV → List FV
  | .agg cs => cs
  | x => [x]
def flat (xs : List FV) : List FV := xs.flatMap cells
def one : FV → Bool
  | .val (.agg _) => false
  | .val (.tuple _) => false
  | .agg _ => false
  | .tup _ => false
  | _ => true
@[reducible] def int (n : Int) : FV := .val (.int .i64 n)
@[reducible] def bool (b : Bool) : FV := .val (.bool b)
@[reducible] def nil : FV := .val (.slice none 0 0)
end FV
inductive Rep (w : World) (D : Nat → Prop) : Value → FV → Prop where
  | val (v : Value) : Rep w D v (.val v)
  | list (full : Bool) (xs : List FV) (b off cap es : Nat) (cs : Nat → Value)
      (hcap : xs.length ≤ cap) (hmax : cap ≤ maxLen) (hfull : full = true → cap = xs.length) (hes : 0 < es)
      (hlen : ∀ x ∈ xs, x.cells.length = es ∧ x.cells.all FV.one = true)
      (hD : xs ≠ [] → D b)
      (hcell : ∀ (j : Nat) (y : FV), (FV.flat xs)[j]? = some y → w.cell? ⟨b, off + j, none⟩ = some (cs j))
      (hrep : ∀ (j : Nat) (y : FV), (FV.flat xs)[j]? = some y → Rep w D (cs j) y) :
      Rep w D (.slice (some ⟨b, off, none⟩) xs.length cap) (.list full xs)
  | empty (full : Bool) (a : Addr) : Rep w D (.slice (some a) 0 0) (.list full [])
  | ptr (cells : List FV) (b off : Nat) (cs : Nat → Value)
      (hone : cells.all FV.one = true) (hD : D b)
      (hcell : ∀ (j : Nat) (y : FV), cells[j]? = some y → w.cell? ⟨b, off + j, none⟩ = some (cs j))
      (hrep : ∀ (j : Nat) (y : FV), cells[j]? = some y → Rep w D (cs j) y) :
      Rep w D (.pointer (some ⟨b, off, none⟩)) (.ptr cells)
  | agg (vs : Array Value) (cells : List FV) (hs : vs.size = cells.length) (hone : cells.all FV.one = true)
      (hrep : ∀ (j : Nat) (y : FV) (v : Value), cells[j]? = some y → vs[j]? = some v → Rep w D v y) :
      Rep w D (.agg vs) (.agg cells)
  | tup (vs : Array Value) (xs : List FV) (hs : vs.size = xs.length)
      (hrep : ∀ (j : Nat) (y : FV) (v : Value), xs[j]? = some y → vs[j]? = some v → Rep w D v y) :
      Rep w D (.tuple vs) (.tup xs)
  | clos (f : Nat) (vs : Array Value) (caps : List FV) (hs : vs.size = caps.length)
      (hrep : ∀ (j : Nat) (y : FV) (v : Value), caps[j]? = some y → vs[j]? = some v → Rep w D v y) :
      Rep w D (.func (.func f) #[] vs) (.clos f caps)
  | map (b : Nat) (arr : Array MapEntry) (es : List (FV × FV)) (hD : D b) (hw : w.heap[b]? = some (.map arr arr.size)) (hst : ∀ (j : Nat) (e : MapEntry), arr[j]? = some e → e.born = j) (hs : arr.size = es.length)
      (hk : ∀ (j : Nat) (e : MapEntry) (x : FV × FV), arr[j]? = some e → es[j]? = some x → Rep w D e.key x.1)
      (hv : ∀ (j : Nat) (e : MapEntry) (x : FV × FV), arr[j]? = some e → es[j]? = some x → Rep w D e.val x.2) :
      Rep w D (.map (some b)) (.map es)
theorem Rep.keep {w w' : World} {D D' : Nat → Prop} {v : Value} {x : FV} (h : Rep w D v x)
    (hD : ∀ b, D b → D' b) (hb : ∀ b, D b → w'.heap[b]? = w.heap[b]?) : Rep w' D' v x := by
  induction h with
  | val v => exact .val v
  | list full xs b off cap es cs hcap hmax hfull hes hlen hDb hcell hrep ih =>
    refine .list full xs b off cap es cs hcap hmax hfull hes hlen (fun h => hD _ (hDb h)) (fun j y hy => ?_) ih
    rw [← hcell j y hy]
    refine World.cell?_of_block (hb _ (hDb ?_))
    rintro rfl
    simp [FV.flat] at hy
  | empty full a => exact .empty full a
  | ptr cells b off cs hone hDb hcell hrep ih =>
    refine .ptr cells b off cs hone (hD _ hDb) (fun j y hy => ?_) ih
    rw [← hcell j y hy]
    exact World.cell?_of_block (hb _ hDb)
  | agg vs cells hs hone hrep ih => exact .agg vs cells hs hone ih
  | tup vs xs hs hrep ih => exact .tup vs xs hs ih
  | clos f vs caps hs hrep ih => exact .clos f vs caps hs ih
  | map b arr es hDb hw hst hs hk hv ihk ihv => exact .map b arr es (hD _ hDb) ((hb _ hDb).trans hw) hst hs ihk ihv
theorem Rep.oneCell {w : World} {D : Nat → Prop} {v : Value} {x : FV} (h : Rep w D v x) (h1 : x.one = true) : v.oneCell' = true := by
  cases h with
  | val v => cases v <;> simp_all [FV.one, Value.oneCell']
  | list => rfl
  | empty => rfl
  | ptr => rfl
  | agg => simp [FV.one] at h1
  | tup => simp [FV.one] at h1
  | clos => rfl
  | map => rfl
theorem Rep.cells {w : World} {D : Nat → Prop} {v : Value} {x : FV} (h : Rep w D v x) (h1 : x.cells.all FV.one = true) :
    v.cells.size = x.cells.length ∧ ∀ (j : Nat) (y : FV) (u : Value), x.cells[j]? = some y → v.cells[j]? = some u → Rep w D u y := by
  have lone : ∀ {v : Value} {x : FV}, Rep w D v x → v.cells = #[v] → x.cells = [x] → v.cells.size = x.cells.length ∧ ∀ (j : Nat) (y : FV) (u : Value), x.cells[j]? = some y → v.cells[j]? = some u → Rep w D u y := by
    intro v x h hv hx
    rw [hv, hx]
    refine ⟨rfl, fun j y u hy hu => ?_⟩
    cases j with
    | zero => simp at hy hu; subst hy; subst hu; exact h
    | succ j => simp at hy
  cases h with
  | agg vs cells hs hone hrep => exact ⟨hs, hrep⟩
  | val v => cases v <;> first | (refine lone (.val _) rfl rfl) | simp [FV.cells, FV.one] at h1
  | list full xs b off cap es cs hcap hmax hfull hes hlen hDb hcell hrep => exact lone (.list full xs b off cap es cs hcap hmax hfull hes hlen hDb hcell hrep) rfl rfl
  | empty full a => exact lone (.empty full a) rfl rfl
  | ptr cells b off cs hone hDb hcell hrep => exact lone (.ptr cells b off cs hone hDb hcell hrep) rfl rfl
  | tup vs xs hs hrep => simp [FV.cells, FV.one] at h1
  | clos f vs caps hs hrep => exact lone (.clos f vs caps hs hrep) rfl rfl
  | map b arr es hDb hw hst hs hk hv => exact lone (.map b arr es hDb hw hst hs hk hv) rfl rfl
theorem flat_length {xs : List FV} {es : Nat} (h : ∀ x ∈ xs, x.cells.length = es) : (FV.flat xs).length = xs.length * es := by
  induction xs with
  | nil => simp [FV.flat]
  | cons x xs ih =>
    simp only [FV.flat, List.flatMap_cons, List.length_append, List.length_cons] at *
    rw [ih fun y hy => h y (by simp [hy]), h x (by simp), Nat.add_mul, Nat.one_mul, Nat.add_comm]
theorem flat_get {xs : List FV} {es : Nat} (h : ∀ x ∈ xs, x.cells.length = es) (i j : Nat) (x : FV) (hx : xs[i]? = some x) (hj : j < es) :
    (FV.flat xs)[i * es + j]? = x.cells[j]? := by
  induction xs generalizing i with
  | nil => simp at hx
  | cons y ys ih =>
    have hy : y.cells.length = es := h y (by simp)
    simp only [FV.flat, List.flatMap_cons]
    cases i with
    | zero =>
      simp at hx; subst hx
      rw [Nat.zero_mul, Nat.zero_add, List.getElem?_append_left (by omega)]
    | succ i =>
      rw [List.getElem?_append_right (by rw [hy, Nat.add_mul]; omega)]
      have : (i + 1) * es + j - y.cells.length = i * es + j := by rw [hy, Nat.add_mul]; omega
      rw [this]
      exact ih (fun x hx => h x (by simp [hx])) i (by simpa using hx)
end Abs

namespace Abs
open Go
def yN : Nat := 1000000000
inductive LV where
  | undef
  | fv (x : FV)
  | fn (g : List FV → Option FV)
  | gl (o g : Nat)
  | ptr (o g off : Nat)
  | elem (o g es i off : Nat)
  | mp (o g : Nat)
  | it (o g : Nat)
  | clos (f : Nat) (caps : List LV)
  | agg (cells : List LV)
  | tup (vs : List LV)
  | pb (cells : List LV)
  | sq (xs : List (List FV))
  | bnd (f : Nat) (first : List LV)
  | sub (o g es i j : Nat)
inductive AObj where
  | box (cells : List LV)
  | list (e es : Nat) (fz nil : Bool) (xs : List FV)
  | map (fz : Bool) (es : List (FV × FV))
  | iter (left : List (FV × FV)) (cur : Option (FV × FV))
structure AH where
  gen : Nat → Nat
  obj : Nat → Option AObj
  y : Option (List (List FV))
structure St where
  ρ : Nat → LV
  h : AH
def upd {α : Type} (f : Nat → α) (d : Nat) (v : α) : Nat → α := fun i => if i = d then v else f i
def AH.new (h : AH) (d : Nat) (ob : AObj) : AH := ⟨upd h.gen d (h.gen d + 1), upd h.obj d (some ob), h.y⟩
def AH.set (h : AH) (d : Nat) (ob : AObj) : AH := ⟨h.gen, upd h.obj d (some ob), h.y⟩
def AH.renew (h : AH) (d k : Nat) (ob : AObj) : AH := ⟨upd h.gen d k, upd h.obj d (some ob), h.y⟩
def AH.box (h : AH) (o g : Nat) : Option (List LV) :=
  if h.gen o = g then (match h.obj o with | some (.box cs) => some cs | _ => none) else none
def AH.lst (h : AH) (o g : Nat) : Option (Nat × Nat × Bool × Bool × List FV) :=
  if h.gen o = g then (match h.obj o with | some (.list e es fz nil xs) => some (e, es, fz, nil, xs) | _ => none) else none
def AH.mpo (h : AH) (o g : Nat) : Option (Bool × List (FV × FV)) :=
  if h.gen o = g then (match h.obj o with | some (.map fz es) => some (fz, es) | _ => none) else none
def St.put (σ : St) (d : Option Nat) (v : LV) (h : AH) : St :=
  match d with
  | some d => ⟨upd σ.ρ d v, h⟩
  | none => ⟨σ.ρ, h⟩
def ofV : Value → LV
  | .agg vs => if vs.toList.all (fun v => (FV.val v).one) then .fv (.agg (vs.toList.map .val)) else .undef
  | v => .fv (.val v)
def evL (ρ : Nat → LV) : Operand → LV
  | .tmp t => ρ t
  | .const v => ofV v
  | .func f => .clos f []
  | .global _ => .undef
def LV.cells : LV → List LV
  | .agg cs => cs
  | .fv (.agg cs) => cs.map .fv
  | x => [x]
def unFV : List LV → Option (List FV)
  | [] => some []
  | .fv x :: r => (unFV r).map (x :: ·)
  | _ :: _ => none
theorem unFV_map (l : List FV) : unFV (l.map LV.fv) = some l := by
  induction l with
  | nil => rfl
  | cons x l ih => simp [unFV, ih]
def mkAgg (cs : List LV) : LV :=
  match unFV cs with
  | some fs => .fv (.agg fs)
  | none => .agg cs
def partL (agg : Bool) (n : Nat) (cs : List LV) : Option LV :=
  if agg then (if n ≤ cs.length then some (mkAgg (cs.take n)) else none) else cs.head?
def partF (agg : Bool) (n : Nat) (cs : List FV) : Option LV :=
  if agg then (if n ≤ cs.length then some (.fv (.agg (cs.take n))) else none) else cs.head?.map .fv
def lay (P : Program) (t : Nat) : Option (Bool × Nat) :=
  match P.info? t, P.underlying t with
  | some i, some d => some ((match d with | .struct _ => true | .array _ _ => true | _ => false), i.size)
  | _, _ => none
def fld (P : Program) (s f : Nat) : Option (Nat × Bool × Nat) :=
  match P.underlying s with
  | some (.struct fs) => (fs[f]?).bind fun fd => (lay P fd.type).map fun l => (fd.offset, l.1, l.2)
  | _ => none
def idx (P : Program) (t : Nat) : Option (Option Nat × Nat × Bool × Nat) :=
  match P.underlying t with
  | some (.array n e) => (lay P e).map fun l => (some n, e, l.1, l.2)
  | some (.slice e) => (lay P e).map fun l => (none, e, l.1, l.2)
  | _ => none
def binV (op : BinOp) : Value → Value → Option Value
  | .int k a, .int k' b =>
    match op with
    | .shl => if b < 0 then none else some (.int k (k.wrap (a * 2 ^ (min b.toNat k.bits))))
    | .shr => if b < 0 then none else some (.int k (a.fdiv (2 ^ (min b.toNat k.bits))))
    | .add => if k = k' then some (.int k (k.wrap (a + b))) else none
    | .sub => if k = k' then some (.int k (k.wrap (a - b))) else none
    | .mul => if k = k' then some (.int k (k.wrap (a * b))) else none
    | .quo => if k = k' ∧ b ≠ 0 then some (.int k (k.wrap (a.tdiv b))) else none
    | .rem => if k = k' ∧ b ≠ 0 then some (.int k (a.tmod b)) else none
    | .and => if k = k' then some (.int k (k.wrap (BitVec.ofInt k.bits a &&& BitVec.ofInt k.bits b).toNat)) else none
    | .or => if k = k' then some (.int k (k.wrap (BitVec.ofInt k.bits a ||| BitVec.ofInt k.bits b).toNat)) else none
    | .xor => if k = k' then some (.int k (k.wrap (BitVec.ofInt k.bits a ^^^ BitVec.ofInt k.bits b).toNat)) else none
    | .andNot => if k = k' then some (.int k (k.wrap (BitVec.ofInt k.bits a &&& ~~~ BitVec.ofInt k.bits b).toNat)) else none
    | .eql => if k = k' then some (.bool (a == b)) else none
    | .neq => if k = k' then some (.bool (a != b)) else none
    | .lss => if k = k' then some (.bool (decide (a < b))) else none
    | .leq => if k = k' then some (.bool (decide (a ≤ b))) else none
    | .gtr => if k = k' then some (.bool (decide (a > b))) else none
    | .geq => if k = k' then some (.bool (decide (a ≥ b))) else none
  | _, _ => none
def boolTy (P : Program) (t : Nat) : Bool :=
  match P.underlying t with | some .bool => true | _ => false
def flatFields (P : Program) : Nat → List Field → Bool
  | _, [] => true
  | i, f :: fs => f.name != "_" && f.offset == i && (match P.underlying f.type with | some (.int _) => true | _ => false) && flatFields P (i + 1) fs
def flatInts (P : Program) (t : Nat) : Option Nat :=
  match P.underlying t with
  | some (.struct fs) => if !P.stoodInHeld t && !P.eqGuardType P.depth t && flatFields P 0 fs.toList then some fs.size else none
  | _ => none
def eqCells : List FV → List FV → Option Bool
  | [], [] => some true
  | .val (.int k a) :: xs, .val (.int k' b) :: ys => if k = k' then (eqCells xs ys).map fun r => (a == b) && r else none
  | _, _ => none
def nilEq (P : Program) (h : AH) (t : Nat) (v : Value) (x : LV) : Option Bool :=
  match P.underlying t, v, x with
  | some (.slice _), .slice none 0 0, .fv (.val (.slice none _ _)) => some true
  | some (.slice _), .slice none 0 0, .fv (.list _ _) => some false
  | some (.slice _), .slice none 0 0, .gl o g => (h.lst o g).map (·.2.2.2.1)
  | some (.pointer _), .pointer none, .fv (.val (.pointer none)) => some true
  | some (.pointer _), .pointer none, .fv (.ptr _) => some false
  | some (.pointer _), .pointer none, .ptr _ _ _ => some false
  | some (.map _ _), .map none, .fv (.val (.map none)) => some true
  | some (.func _ _ _), .nilFunc, .fv (.val .nilFunc) => some true
  | some (.func _ _ _), .nilFunc, .clos _ _ => some false
  | some (.func _ _ _), .nilFunc, .fv (.clos _ _) => some false
  | some (.func _ _ _), .nilFunc, .fn _ => some false
  | _, _, _ => none
def eqV (P : Program) (h : AH) (t : Nat) (x y : LV) : Option Bool :=
  match x, y with
  | .fv (.val (.bool a)), .fv (.val (.bool b)) => if boolTy P t then some (a == b) else none
  | .fv (.agg xs), .fv (.agg ys) => (flatInts P t).bind fun n => if xs.length = n then eqCells xs ys else none
  | x, .fv (.val v) => nilEq P h t v x
  | _, _ => none
def min2V : Value → Value → Option Value
  | .int k x, .int _ y => some (.int k (if y < x then y else x))
  | _, _ => none
def max2V : Value → Value → Option Value
  | .int k x, .int _ y => some (.int k (if y > x then y else x))
  | _, _ => none
def lenV (h : AH) : LV → Option Nat
  | .fv (.list _ xs) => some xs.length
  | .fv (.val (.slice none n _)) => some n
  | .gl o g => (h.lst o g).map (·.2.2.2.2.length)
  | .sub o g _ i j => (h.lst o g).map fun _ => j - i
  | _ => none
def lenM (h : AH) : LV → Option Nat
  | .fv (.map es) => some es.length
  | .fv (.val (.map none)) => some 0
  | .mp o g => (h.mpo o g).map (·.2.length)
  | _ => none
def intOf : LV → Option Int
  | .fv (.val (.int _ n)) => some n
  | _ => none
def indexA (P : Program) (h : AH) (t : Nat) (x : LV) (i : Int) : Option LV :=
  (idx P t).bind fun q =>
  match q, x with
  | (some n, _, _, s), .ptr o g off => if 0 ≤ i ∧ i < n then some (.ptr o g (off + i.toNat * s)) else none
  | (some n, _, _, s), .fv (.ptr cs) => if 0 ≤ i ∧ i < n then some (.fv (.ptr (cs.drop (i.toNat * s)))) else none
  | (some n, _, _, s), .elem o g es j off => if 0 ≤ i ∧ i < n then some (.elem o g es j (off + i.toNat * s)) else none
  | (none, _, _, s), .fv (.list _ xs) => if 0 ≤ i then (xs[i.toNat]?).bind fun x => if x.cells.length = s then some (.fv (.ptr x.cells)) else none else none
  | (none, _, _, s), .gl o g => (h.lst o g).bind fun l => if 0 ≤ i ∧ i < l.2.2.2.2.length ∧ l.2.1 = s then some (.elem o g s i.toNat 0) else none
  | _, _ => none
def loadA (h : AH) (agg : Bool) (n : Nat) : LV → Option LV
  | .ptr o g off => (h.box o g).bind fun cs => partL agg n (cs.drop off)
  | .fv (.ptr cs) => partF agg n cs
  | .pb cs => partL agg n cs
  | .elem o g es i off => (h.lst o g).bind fun l => if l.2.1 = es then (l.2.2.2.2[i]?).bind fun x => partF agg n (x.cells.drop off) else none
  | _ => none
def placesOf (P : Program) (t : Nat) : Option (Nat → Option (Nat × Nat)) :=
  match P.info? t, P.underlying t with
  | some _, some (.array _ e) => (P.info? e).map fun ie => fun i => some (i * ie.size, ie.size)
  | some _, some (.struct fs) => (fs.toList.mapM (fun f => (P.info? f.type).map fun i => (f.offset, i.size))).map fun l => (l.toArray[·]?)
  | _, _ => none
def zeros (P : Program) (t : Nat) : Option (List FV) :=
  (P.info? t).bind fun i => i.zero.bind fun z => if z.cells.toList.all (fun v => (FV.val v).one) ∧ z.cells.size = i.size then some (z.cells.toList.map .val) else none
def splice {α : Type} (cs : List α) (off : Nat) (vs : List α) : List α := cs.take off ++ vs ++ cs.drop (off + vs.length)
def LV.one : LV → Bool
  | .undef => false
  | .fv x => x.one
  | .agg _ => false
  | .tup _ => false
  | _ => true
def fillL (pl : Nat → Option (Nat × Nat)) (cells : List LV) : List (Nat × LV) → Option (List LV)
  | [] => some cells
  | (i, v) :: rest => (pl i).bind fun q => if v.cells.length = q.2 ∧ q.1 + v.cells.length ≤ cells.length ∧ v.cells.all LV.one = true then fillL pl (splice cells q.1 v.cells) rest else none
def viewL (h : AH) : LV → LV
  | .gl o g => match h.lst o g with | some (_, _, true, false, xs) => .fv (.list false xs) | _ => .gl o g
  | x => x
def quietV (P : Program) (op : Op) (ev : Operand → LV) (h : AH) : Option LV :=
  match op with
  | .move x => some (ev x)
  | .pick c a b => (match ev c with | .fv (.val (.bool t)) => some (if t then ev a else ev b) | _ => none)
  | .nilCheck x => (match ev x with
    | .ptr o g off => some (.ptr o g off)
    | .fv (.ptr cs) => some (.fv (.ptr cs))
    | .clos f caps => some (.clos f caps)
    | .fn g => some (.fn g)
    | .elem o g es i off => some (.elem o g es i off)
    | .pb cs => some (.pb cs)
    | _ => none)
  | .load t a => (lay P t).bind fun l => loadA h l.1 l.2 (ev a)
  | .binOp op t x y _ =>
    (match ev x, ev y with
    | .fv (.val (.int k a)), .fv (.val (.int k' b)) => (binV op (.int k a) (.int k' b)).map fun v => .fv (.val v)
    | a, b => match op with
      | .eql => (eqV P h t a b).map fun b => .fv (.val (.bool b))
      | .neq => (eqV P h t a b).map fun b => .fv (.val (.bool !b))
      | _ => none)
  | .unOp op _ x =>
    (match op, ev x with
    | .not, .fv (.val (.bool b)) => some (.fv (.val (.bool !b)))
    | .neg, .fv (.val (.int k n)) => some (.fv (.val (.int k (k.wrap (0 - n)))))
    | _, _ => none)
  | .convert src dst x =>
    (match P.underlying src, P.underlying dst, ev x with
    | some (.int _), some (.int k), .fv (.val (.int _ n)) => some (.fv (.val (.int k (k.wrap n))))
    | _, _, _ => none)
  | .makeFunc (.func f) first caps => if first.size = 0 then some (.clos f (caps.toList.map ev)) else if caps.size = 0 then some (.bnd f (first.toList.map ev)) else none
  | .fieldAddr s x f => (fld P s f).bind fun q =>
    if q.2.2 = 0 then none else
    (match ev x with
    | .ptr o g off => some (.ptr o g (off + q.1))
    | .fv (.ptr cs) => some (.fv (.ptr (cs.drop q.1)))
    | .elem o g es i off => some (.elem o g es i (off + q.1))
    | _ => none)
  | .field t x f => (fld P t f).bind fun q =>
    (match ev x with
    | .agg cs => partL q.2.1 q.2.2 (cs.drop q.1)
    | .fv (.agg cs) => partF q.2.1 q.2.2 (cs.drop q.1)
    | _ => none)
  | .indexAddr t x i => (intOf (ev i)).bind fun n => indexA P h t (ev x) n
  | .index t x i => (intOf (ev i)).bind fun n => (idx P t).bind fun q =>
    (match q, ev x with
    | (some m, _, a, s), .fv (.agg cs) => if 0 ≤ n ∧ n < m then partF a s (cs.drop (n.toNat * s)) else none
    | (some m, _, a, s), .agg cs => if 0 ≤ n ∧ n < m then partL a s (cs.drop (n.toNat * s)) else none
    | _, _ => none)
  | .build t parts => (placesOf P t).bind fun pl => (zeros P t).bind fun zs => (fillL pl (zs.map .fv) (parts.toList.map fun p => (p.1, ev p.2))).map mkAgg
  | .extract t i =>
    (match ev t with
    | .tup vs => vs[i]?
    | .fv (.tup vs) => (vs[i]?).map .fv
    | _ => none)
  | .slice t x lo hi mx => (idx P t).bind fun q =>
    (match q, viewL h (ev x) with
    | (none, _, _, s), .fv (.list full xs) =>
      if mx.isSome ∧ hi.isNone then none else
      (match lo.elim (some 0) (fun o => intOf (ev o)), hi.elim (some (xs.length : Int)) (fun o => intOf (ev o)), mx.elim (some none) (fun o => (intOf (ev o)).map some) with
      | some l, some r, some m =>
        if 0 ≤ l ∧ l ≤ r ∧ r ≤ xs.length ∧ (m = none ∨ m = some r) ∧ (∀ x ∈ xs, x.cells.length = s) then some (.fv (.list (if m = some r then true else full && decide (r = xs.length)) ((xs.take r.toNat).drop l.toNat))) else none
      | _, _, _ => none)
    | (none, _, _, _), .fv (.val (.slice none 0 0)) =>
      if mx.isSome ∧ hi.isNone then none else
      (match lo.elim (some 0) (fun o => intOf (ev o)), hi.elim (some 0) (fun o => intOf (ev o)), mx.elim (some 0) (fun o => intOf (ev o)) with
      | some 0, some 0, some 0 => some (.fv (.val (.slice none 0 0)))
      | _, _, _ => none)
    | (none, _, _, s), .gl o g => (h.lst o g).bind fun q' =>
      if mx.isSome = true ∨ q'.2.1 ≠ s ∨ q'.2.2.2.1 = true then none else
      (match lo.elim (some 0) (fun o => intOf (ev o)), hi.elim (some (q'.2.2.2.2.length : Int)) (fun o => intOf (ev o)) with
      | some l, some r => if 0 ≤ l ∧ l ≤ r ∧ r ≤ q'.2.2.2.2.length then some (.sub o g s l.toNat r.toNat) else none
      | _, _ => none)
    | _, _ => none)
  | .sliceToArrayPointer t x => (idx P t).bind fun q =>
    (match q, viewL h (ev x) with
    | (some n, _, _, _), .fv (.list _ xs) => if 0 < n ∧ n ≤ xs.length then some (.fv (.ptr (FV.flat xs))) else none
    | _, _ => none)
  | .call { callee := .builtin .len, args := args, argTypes := tys } =>
    (match args.toList, tys.toList with
    | [x], [t] => (match P.underlying t with
      | some (.slice _) => (lenV h (ev x)).map fun (n : Nat) => LV.fv (.val (.int .i64 (n : Int)))
      | some (.map _ _) => (lenM h (ev x)).map fun (n : Nat) => LV.fv (.val (.int .i64 (n : Int)))
      | some (.array n _) => some (.fv (.val (.int .i64 n)))
      | _ => none)
    | _, _ => none)
  | .call { callee := .builtin .cap, args := args, argTypes := tys } =>
    (match args.toList, tys.toList with
    | [x], [t] => (match P.underlying t, ev x with
      | some (.slice _), .fv (.val (.slice none 0 0)) => some (.fv (.val (.int .i64 0)))
      | _, _ => none)
    | _, _ => none)
  | .call { callee := .builtin .min, args := args, .. } =>
    (match args.toList.map ev with
    | [.fv (.val a), .fv (.val b)] => (min2V a b).map fun v => .fv (.val v)
    | _ => none)
  | .call { callee := .builtin .max, args := args, .. } =>
    (match args.toList.map ev with
    | [.fv (.val a), .fv (.val b)] => (max2V a b).map fun v => .fv (.val v)
    | _ => none)
  | _ => none
end Abs

namespace Abs
open Go
open Go.RowKit (Below)
def Enters (P : Program) (f : Nat) : Prop := ∀ (args : Array Value) (w : World), (callFunc f args).run P w = .ok (.enter f args) w
inductive RC where
  | fx (x : FV)
  | own (e es : Nat) (nil : Bool) (xs : List FV)
inductive RV where
  | one (c : RC)
  | tup (cs : List RC)
def blk : Value → Option Nat
  | .pointer (some a) => some a.block
  | .slice (some a) _ _ => some a.block
  | .map (some b) => some b
  | _ => none
def OwnList (w : World) (D : Nat → Prop) (B : Nat) (v : Value) (e es : Nat) (nil : Bool) (xs : List FV) : Prop :=
  ∃ vs : List Value, w.ownsRow B e es v xs.length vs ∧ (nil = true ↔ v = .slice none 0 0) ∧ 0 < es ∧
    (∀ x ∈ xs, x.cells.length = es ∧ x.cells.all FV.one = true) ∧
    ∀ (j : Nat) (y : FV) (u : Value), (FV.flat xs)[j]? = some y → vs[j]? = some u → Rep w D u y
def RCRep (w : World) (D : Nat → Prop) (B : Nat) (v : Value) : RC → Prop
  | .fx x => Rep w D v x
  | .own e es nil xs => OwnList w D B v e es nil xs ∧ ∀ b, blk v = some b → ¬ D b
def RC.isOwn : RC → Bool
  | .own .. => true
  | _ => false
def RVRep (w : World) (D : Nat → Prop) (B : Nat) (v : Value) : RV → Prop
  | .one c => RCRep w D B v c
  | .tup cs => ∃ vs : Array Value, v = .tuple vs ∧ vs.size = cs.length ∧
      (∀ (j : Nat) (c : RC) (u : Value), cs[j]? = some c → vs[j]? = some u → RCRep w D B u c) ∧
      (∀ (i j : Nat) (c c' : RC) (u u' : Value) (b : Nat), cs[i]? = some c → cs[j]? = some c' → vs[i]? = some u → vs[j]? = some u' →
        c.isOwn = true → c'.isOwn = true → blk u = some b → blk u' = some b → i = j)
def PostOK (w : World) (D : Nat → Prop) (r : RV) (e : Ending) (w' : World) : Prop :=
  ∃ (v : Value) (F : Nat → Prop), e = .returned v ∧ Below w.heap.size w w' ∧ (∀ b, F b → w.heap.size ≤ b ∧ b < w'.heap.size) ∧ RVRep w' (fun b => D b ∨ F b) w.heap.size v r
def RepAll (w : World) (D : Nat → Prop) (vs : Array Value) (xs : List FV) : Prop :=
  vs.size = xs.length ∧ ∀ (j : Nat) (y : FV) (v : Value), xs[j]? = some y → vs[j]? = some v → Rep w D v y
structure BelowM (M : Nat → Prop) (N : Nat) (w w' : World) : Prop where
  os : w'.os = w.os
  tape : w'.tape = w.tape
  output : w'.output = w.output
  size : w.heap.size ≤ w'.heap.size
  block : ∀ k, k < N → ¬ M k → w'.heap[k]? = w.heap[k]?
theorem BelowM.refl (M : Nat → Prop) (N : Nat) (w : World) : BelowM M N w w := ⟨rfl, rfl, rfl, Nat.le_refl _, fun _ _ _ => rfl⟩
theorem BelowM.trans {M : Nat → Prop} {N : Nat} {a b c : World} (h : BelowM M N a b) (k : BelowM M N b c) : BelowM M N a c :=
  ⟨k.os.trans h.os, k.tape.trans h.tape, k.output.trans h.output, Nat.le_trans h.size k.size, fun i hi hm => (k.block i hi hm).trans (h.block i hi hm)⟩
theorem BelowM.of {M : Nat → Prop} {N N' : Nat} {w w' : World} (h : Below N w w') (hN : N' ≤ N) : BelowM M N' w w' :=
  ⟨h.os, h.tape, h.output, h.size, fun k hk _ => h.block k (by omega)⟩
theorem BelowM.mono {M M' : Nat → Prop} {N N' : Nat} {w w' : World} (h : BelowM M N w w') (hN : N' ≤ N) (hM : ∀ b, b < N' → M b → M' b) : BelowM M' N' w w' :=
  ⟨h.os, h.tape, h.output, h.size, fun k hk hm => h.block k (by omega) fun h => hm (hM k hk h)⟩
structure YS where
  J : Option (List (List FV)) → World → (Nat → Prop) → (Nat → Prop) → Prop
  B : Nat
  stable : ∀ {y : Option (List (List FV))} {w w' : World} {Y D D' : Nat → Prop}, J y w Y D → w'.os = w.os → w'.tape = w.tape → w'.output = w.output → w.heap.size ≤ w'.heap.size →
    (∀ b, b < w.heap.size → (b < B ∨ Y b ∨ D b) → w'.heap[b]? = w.heap[b]?) → (∀ b, D b → D' b) → (∀ b, D' b → D b ∨ (B ≤ b ∧ ¬ Y b)) → (∀ b, D' b → b < w'.heap.size) → J y w' Y D'
def YS.none : YS := ⟨fun y _ _ _ => y = .none, 0, fun h _ _ _ _ _ _ _ _ => h⟩
def ValCalls (P : Program) (v : Value) (args : Array Value) (w : World) (R : Ending → World → Prop) : Prop :=
  (∃ f first caps, v = .func (.func f) first caps ∧ Enters P f ∧ Calls P f (first ++ args ++ caps) w R) ∨
  (∃ l f tmps assign body, v = .func (.yield l) #[] #[] ∧ (Instr.yield l args).run P w = .ok (.round l f tmps assign body) w ∧ ∀ n, RoundIn Fence.wide n P l f tmps assign body w R)
structure YStep (w : World) (Y D : Nat → Prop) (w' : World) (Y' D' : Nat → Prop) : Prop where
  below : BelowM Y w.heap.size w w'
  keep : ∀ b, D b → w'.heap[b]? = w.heap[b]?
  dd : ∀ b, D b → D' b
  new : ∀ b, D' b → D b ∨ Y b ∨ w.heap.size ≤ b
  lt : ∀ b, D' b → b < w'.heap.size
  ynew : ∀ b, Y' b → Y b ∨ w.heap.size ≤ b
  ylt : ∀ b, Y' b → b < w'.heap.size
def YRule (P : Program) (yv : Value) (ys : YS) : Prop :=
  ∀ (x : List FV) (rest : List (List FV)) (w : World) (Y D : Nat → Prop) (vs : Array Value), ys.J (some (x :: rest)) w Y D → ys.B ≤ w.heap.size → (∀ b, D b → b < w.heap.size) → (∀ b, Y b → b < w.heap.size) → RepAll w D vs x →
    ValCalls P yv vs w fun e w' => ∃ (b : Bool) (Y' D' : Nat → Prop), e = .returned (.bool b) ∧ YStep w Y D w' Y' D' ∧ ys.J (if b then some rest else none) w' Y' D'
theorem YS.none_rule (P : Program) (v : Value) : YRule P v YS.none := fun _ _ _ _ _ _ h => by simp [YS.none] at h
def PostY (ys : YS) (w : World) (Y D : Nat → Prop) (e : Ending) (w' : World) : Prop :=
  ∃ (v : Value) (Y' D' : Nat → Prop), e = .returned v ∧ YStep w Y D w' Y' D' ∧ (ys.J (some []) w' Y' D' ∨ ys.J none w' Y' D')
def SeqImpl (P : Program) (w : World) (D : Nat → Prop) (v : Value) (xs : List (List FV)) : Prop :=
  ∃ f first caps, v = .func (.func f) first caps ∧ Enters P f ∧
    ∀ (w' : World) (D' : Nat → Prop), (∀ b, D b → D' b) → (∀ b, D b → w'.heap[b]? = w.heap[b]?) → (∀ b, D' b → b < w'.heap.size) →
      ∀ (yv : Value) (ys : YS) (Y : Nat → Prop), YRule P yv ys → yv.oneCell' = true → ys.B ≤ w'.heap.size → (∀ b, Y b → b < w'.heap.size) → ys.J (some xs) w' Y D' →
        Calls P f (first ++ #[yv] ++ caps) w' (PostY ys w' Y D')
theorem SeqImpl.keep {P : Program} {w w' : World} {D D' : Nat → Prop} {v : Value} {xs : List (List FV)} (h : SeqImpl P w D v xs)
    (hD : ∀ b, D b → D' b) (hb : ∀ b, D b → w'.heap[b]? = w.heap[b]?) : SeqImpl P w' D' v xs := by
  obtain ⟨f, first, caps, rfl, he, H⟩ := h
  exact ⟨f, first, caps, rfl, he, fun w'' D'' h1 h2 h3 => H w'' D'' (fun b hb' => h1 b (hD b hb')) (fun b hb' => (h2 b (hD b hb')).trans (hb b hb')) h3⟩
def FnImpl (P : Program) (w : World) (D : Nat → Prop) (v : Value) (g : List FV → Option FV) : Prop :=
  ∃ f first caps, v = .func (.func f) first caps ∧ Enters P f ∧
    ∀ (w' : World) (D' : Nat → Prop), (∀ b, D b → D' b) → (∀ b, D b → w'.heap[b]? = w.heap[b]?) → (∀ b, D' b → b < w'.heap.size) →
      ∀ (cargs : Array Value) (args : List FV) (r : FV), RepAll w' D' cargs args → g args = some r →
        Calls P f (first ++ cargs ++ caps) w' (PostOK w' D' (.one (.fx r)))
theorem FnImpl.keep {P : Program} {w w' : World} {D D' : Nat → Prop} {v : Value} {g : List FV → Option FV} (h : FnImpl P w D v g)
    (hD : ∀ b, D b → D' b) (hb : ∀ b, D b → w'.heap[b]? = w.heap[b]?) : FnImpl P w' D' v g := by
  obtain ⟨f, first, caps, rfl, he, H⟩ := h
  exact ⟨f, first, caps, rfl, he, fun w'' D'' h1 h2 h3 => H w'' D'' (fun b hb' => h1 b (hD b hb')) (fun b hb' => (h2 b (hD b hb')).trans (hb b hb')) h3⟩
inductive Arg where
  | fo (x : FV)
  | fn (g : List FV → Option FV)
  | sq (xs : List (List FV))
def ArgRep (P : Program) (w : World) (D : Nat → Prop) (v : Value) : Arg → Prop
  | .fo x => Rep w D v x
  | .fn g => FnImpl P w D v g
  | .sq xs => SeqImpl P w D v xs
def ArgsRep (P : Program) (w : World) (D : Nat → Prop) (vs : Array Value) (as : List Arg) : Prop :=
  vs.size = as.length ∧ ∀ (j : Nat) (y : Arg) (v : Value), as[j]? = some y → vs[j]? = some v → ArgRep P w D v y
def Fn (P : Program) (f : Nat) (args : List Arg) (r : RV) : Prop :=
  Enters P f ∧ ∀ (w : World) (D : Nat → Prop) (cargs : Array Value), (∀ b, D b → b < w.heap.size) → ArgsRep P w D cargs args →
    Calls P f cargs w (PostOK w D r)
inductive LVRep (P : Program) (w : World) (D : Nat → Prop) (gen : Nat → Nat) (an : Nat → Value) : Value → LV → Prop where
  | undef (v : Value) : LVRep P w D gen an v .undef
  | fv (v : Value) (x : FV) (h : Rep w D v x) : LVRep P w D gen an v (.fv x)
  | fn (v : Value) (g : List FV → Option FV) (h : FnImpl P w D v g) : LVRep P w D gen an v (.fn g)
  | gl (o g : Nat) (v : Value) (hp : v.oneCell' = true) (hg : g ≤ gen o) (h : g = gen o → v = an o) : LVRep P w D gen an v (.gl o g)
  | ptr (o g off : Nat) (v : Value) (hp : ∃ b k, v = .pointer (some ⟨b, k, none⟩)) (hg : g ≤ gen o) (h : g = gen o → ∃ b, an o = .pointer (some ⟨b, 0, none⟩) ∧ v = .pointer (some ⟨b, off, none⟩)) :
      LVRep P w D gen an v (.ptr o g off)
  | elem (o g es i off : Nat) (v : Value) (hp : ∃ b k, v = .pointer (some ⟨b, k, none⟩)) (hg : g ≤ gen o)
      (h : g = gen o → ∃ b n cap, an o = .slice (some ⟨b, 0, none⟩) n cap ∧ v = .pointer (some ⟨b, i * es + off, none⟩)) :
      LVRep P w D gen an v (.elem o g es i off)
  | mp (o g : Nat) (v : Value) (hp : v.oneCell' = true) (hg : g ≤ gen o) (h : g = gen o → v = an o) : LVRep P w D gen an v (.mp o g)
  | it (o g : Nat) (v : Value) (hp : v.oneCell' = true) (hg : g ≤ gen o) (h : g = gen o → v = an o) : LVRep P w D gen an v (.it o g)
  | clos (f : Nat) (caps : List LV) (vs : Array Value) (hs : vs.size = caps.length)
      (hrep : ∀ (j : Nat) (y : LV) (v : Value), caps[j]? = some y → vs[j]? = some v → LVRep P w D gen an v y) :
      LVRep P w D gen an (.func (.func f) #[] vs) (.clos f caps)
  | agg (cells : List LV) (vs : Array Value) (hs : vs.size = cells.length)
      (h1 : ∀ v ∈ vs, v.oneCell' = true)
      (hrep : ∀ (j : Nat) (y : LV) (v : Value), cells[j]? = some y → vs[j]? = some v → LVRep P w D gen an v y) :
      LVRep P w D gen an (.agg vs) (.agg cells)
  | tup (xs : List LV) (vs : Array Value) (hs : vs.size = xs.length)
      (hrep : ∀ (j : Nat) (y : LV) (v : Value), xs[j]? = some y → vs[j]? = some v → LVRep P w D gen an v y) :
      LVRep P w D gen an (.tuple vs) (.tup xs)
  | pb (cells : List LV) (b off : Nat) (cs : Nat → Value) (hD : D b)
      (hcell : ∀ (j : Nat) (y : LV), cells[j]? = some y → w.cell? ⟨b, off + j, none⟩ = some (cs j) ∧ (cs j).oneCell' = true)
      (hrep : ∀ (j : Nat) (y : LV), cells[j]? = some y → LVRep P w D gen an (cs j) y) :
      LVRep P w D gen an (.pointer (some ⟨b, off, none⟩)) (.pb cells)
  | sq (xs : List (List FV)) (v : Value) (h1 : v.oneCell' = true) (h : SeqImpl P w D v xs) : LVRep P w D gen an v (.sq xs)
  | bnd (f : Nat) (first : List LV) (vs : Array Value) (hs : vs.size = first.length)
      (hrep : ∀ (j : Nat) (y : LV) (v : Value), first[j]? = some y → vs[j]? = some v → LVRep P w D gen an v y) :
      LVRep P w D gen an (.func (.func f) vs #[]) (.bnd f first)
  | sub (o g es i j : Nat) (v : Value) (hp : v.oneCell' = true) (hg : g ≤ gen o)
      (h : g = gen o → i ≤ j ∧ ∃ b n cap, an o = .slice (some ⟨b, 0, none⟩) n cap ∧ j ≤ n ∧ v = .slice (some ⟨b, if cap = i then 0 else i * es, none⟩) (j - i) (cap - i)) :
      LVRep P w D gen an v (.sub o g es i j)
theorem LVRep.keep {P : Program} {w w' : World} {D D' : Nat → Prop} {gen gen' : Nat → Nat} {an an' : Nat → Value} {v : Value} {x : LV}
    (h : LVRep P w D gen an v x) (hD : ∀ b, D b → D' b) (hb : ∀ b, D b → w'.heap[b]? = w.heap[b]?)
    (hg : ∀ o, gen o ≤ gen' o) (ha : ∀ o, gen o = gen' o → an' o = an o) : LVRep P w' D' gen' an' v x := by
  have key : ∀ o g, g ≤ gen o → g = gen' o → g = gen o ∧ an' o = an o := fun o g h1 h2 => by
    have := hg o
    have e : gen o = gen' o := by omega
    exact ⟨by omega, ha o e⟩
  induction h with
  | undef v => exact .undef v
  | fv v x h => exact .fv v x (h.keep hD hb)
  | fn v g h => exact .fn v g (h.keep hD hb)
  | gl o g v hp hg' h => exact .gl o g v hp (Nat.le_trans hg' (hg o)) fun e => by obtain ⟨e1, e2⟩ := key o g hg' e; rw [e2]; exact h e1
  | mp o g v hp hg' h => exact .mp o g v hp (Nat.le_trans hg' (hg o)) fun e => by obtain ⟨e1, e2⟩ := key o g hg' e; rw [e2]; exact h e1
  | it o g v hp hg' h => exact .it o g v hp (Nat.le_trans hg' (hg o)) fun e => by obtain ⟨e1, e2⟩ := key o g hg' e; rw [e2]; exact h e1
  | ptr o g off v hp hg' h => exact .ptr o g off v hp (Nat.le_trans hg' (hg o)) fun e => by obtain ⟨e1, e2⟩ := key o g hg' e; rw [e2]; exact h e1
  | elem o g es i off v hp hg' h => exact .elem o g es i off v hp (Nat.le_trans hg' (hg o)) fun e => by obtain ⟨e1, e2⟩ := key o g hg' e; rw [e2]; exact h e1
  | clos f caps vs hs hrep ih => exact .clos f caps vs hs ih
  | agg cells vs hs h1 hrep ih => exact .agg cells vs hs h1 ih
  | tup xs vs hs hrep ih => exact .tup xs vs hs ih
  | pb cells b off cs hDb hcell hrep ih => exact .pb cells b off cs (hD _ hDb) (fun j y hy => ⟨(World.cell?_of_block (hb _ hDb)).trans (hcell j y hy).1, (hcell j y hy).2⟩) ih
  | sq xs v h1 h => exact .sq xs v h1 (h.keep hD hb)
  | bnd f first vs hs hrep ih => exact .bnd f first vs hs ih
  | sub o g es i j v hp hg' h => exact .sub o g es i j v hp (Nat.le_trans hg' (hg o)) fun e => by obtain ⟨e1, e2⟩ := key o g hg' e; rw [e2]; exact h e1
def ObjRep (P : Program) (w : World) (D : Nat → Prop) (B : Nat) (gen : Nat → Nat) (an : Nat → Value) (a : Value) : AObj → Prop
  | .box cells => ∃ b c T, a = .pointer (some ⟨b, 0, none⟩) ∧ B ≤ b ∧ ¬ D b ∧ w.heap[b]? = some (.cells c T (0, 0)) ∧ c.size = cells.length ∧
      ∀ (j : Nat) (y : LV) (v : Value), cells[j]? = some y → c[j]? = some v → LVRep P w D gen an v y ∧ v.oneCell' = true
  | .list e es fz nil xs => OwnList w D B a e es nil xs ∧ ∀ b, blk a = some b → (fz = true → D b) ∧ (fz = false → ¬ D b)
  | .map fz es => ∃ b arr, a = .map (some b) ∧ (fz = true → D b) ∧ (fz = false → ¬ D b) ∧ w.heap[b]? = some (.map arr arr.size) ∧ (∀ (j : Nat) (e : MapEntry), arr[j]? = some e → e.born = j) ∧ arr.size = es.length ∧
      ∀ (j : Nat) (e : MapEntry) (x : FV × FV), arr[j]? = some e → es[j]? = some x → Rep w D e.key x.1 ∧ Rep w D e.val x.2
  | .iter left cur => ∃ (b : Nat) (m : Option Nat) (arr : Array MapEntry) (last : Nat) (seen : Array Nat), a = .pointer (some ⟨b, 0, none⟩) ∧ ¬ D b ∧ w.heap[b]? = some (.mapIter m arr.size seen last) ∧
      (match m with
      | none => left = [] ∧ cur = none
      | some m => D m ∧ w.heap[m]? = some (.map arr arr.size) ∧ (∀ (j : Nat) (e : MapEntry), arr[j]? = some e → e.born = j) ∧ (seen.isEmpty = false → last = arr.size) ∧
          (∃ js : List Nat, js.length = left.length ∧ (∀ j, j ∈ js ↔ j < arr.size ∧ seen.contains j = false) ∧ js.Nodup ∧
            ∀ (i j : Nat) (e : MapEntry) (x : FV × FV), js[i]? = some j → arr[j]? = some e → left[i]? = some x → Rep w D e.key x.1 ∧ Rep w D e.val x.2) ∧
          (∀ x, cur = some x → ∃ (j : Nat) (e : MapEntry), seen.back? = some j ∧ last = arr.size ∧ arr[j]? = some e ∧ Rep w D e.key x.1 ∧ Rep w D e.val x.2))
structure Cx where
  wi : World
  Di : Nat → Prop
  M : Nat → Prop
  Ow : Nat → Prop
  gen0 : Nat → Nat
  an0 : Nat → Value
  J : YS
  Yb : Nat → Prop
  sub : ∀ b, Ow b → M b
  jB : J.B ≤ wi.heap.size
  owB : ∀ b, Ow b → J.B ≤ b
  base : Nat
  baseLe : base ≤ wi.heap.size
structure Heap (P : Program) (cx : Cx) (h : AH) (w : World) (D : Nat → Prop) (an : Nat → Value) : Prop where
  init : ∀ b, cx.Di b → D b
  lt : ∀ b, D b → b < w.heap.size
  new : ∀ b, D b → cx.Di b ∨ cx.wi.heap.size ≤ b ∨ cx.M b
  below : BelowM cx.M cx.wi.heap.size cx.wi w
  obj : ∀ o ob, h.obj o = some ob → ObjRep P w D 0 h.gen an (an o) ob
  ow : ∀ o ob b, h.obj o = some ob → blk (an o) = some b → cx.wi.heap.size ≤ b ∨ cx.Ow b
  sep : ∀ o o' b ob ob', h.obj o = some ob → h.obj o' = some ob' → blk (an o) = some b → blk (an o') = some b → o = o'
  gmono : ∀ o, cx.gen0 o ≤ h.gen o
  anc : ∀ o, h.gen o = cx.gen0 o → an o = cx.an0 o
  yJ : cx.J.J h.y w cx.Yb D
  ylt : ∀ b, cx.Yb b → b < w.heap.size
  ysep : ∀ o ob b, h.obj o = some ob → blk (an o) = some b → ¬ cx.Yb b
structure Ext (w : World) (D : Nat → Prop) (gen : Nat → Nat) (an : Nat → Value) (w' : World) (D' : Nat → Prop) (gen' : Nat → Nat) (an' : Nat → Value) : Prop where
  dd : ∀ b, D b → D' b
  keep : ∀ b, D b → w'.heap[b]? = w.heap[b]?
  mono : ∀ o, gen o ≤ gen' o
  anc : ∀ o, gen o = gen' o → an' o = an o
theorem Ext.refl (w : World) (D : Nat → Prop) (gen : Nat → Nat) (an : Nat → Value) : Ext w D gen an w D gen an :=
  ⟨fun _ h => h, fun _ _ => rfl, fun _ => Nat.le_refl _, fun _ _ => rfl⟩
theorem Ext.trans {w w1 w2 : World} {D D1 D2 : Nat → Prop} {g g1 g2 : Nat → Nat} {an an1 an2 : Nat → Value} (h : Ext w D g an w1 D1 g1 an1) (k : Ext w1 D1 g1 an1 w2 D2 g2 an2) :
    Ext w D g an w2 D2 g2 an2 :=
  ⟨fun b hb => k.dd b (h.dd b hb), fun b hb => (k.keep b (h.dd b hb)).trans (h.keep b hb), fun o => Nat.le_trans (h.mono o) (k.mono o), fun o e => by
    have h1 := h.mono o
    have h2 := k.mono o
    exact (k.anc o (by omega)).trans (h.anc o (by omega))⟩
theorem LVRep.ext {P : Program} {w w' : World} {D D' : Nat → Prop} {gen gen' : Nat → Nat} {an an' : Nat → Value} {v : Value} {x : LV}
    (h : LVRep P w D gen an v x) (e : Ext w D gen an w' D' gen' an') : LVRep P w' D' gen' an' v x := h.keep e.dd e.keep e.mono e.anc
theorem Rep.ext {w w' : World} {D D' : Nat → Prop} {gen gen' : Nat → Nat} {an an' : Nat → Value} {v : Value} {x : FV}
    (h : Rep w D v x) (e : Ext w D gen an w' D' gen' an') : Rep w' D' v x := h.keep e.dd e.keep
theorem Heap.boxCells {P : Program} {cx : Cx} {h : AH} {w : World} {D : Nat → Prop} {an : Nat → Value}
    (_ : Heap P cx h w D an) {o g : Nat} {cs : List LV} (hb : h.box o g = some cs) :
    g = h.gen o ∧ h.obj o = some (.box cs) := by
  unfold AH.box at hb
  split at hb
  · rename_i hg
    split at hb
    · rename_i e; simp at hb; subst hb; exact ⟨hg.symm, e⟩
    · simp at hb
  · simp at hb
theorem AH.lst_spec {h : AH} {o g : Nat} {e es : Nat} {fz nil : Bool} {xs : List FV} (hb : h.lst o g = some (e, es, fz, nil, xs)) :
    g = h.gen o ∧ h.obj o = some (.list e es fz nil xs) := by
  unfold AH.lst at hb
  split at hb
  · rename_i hg
    split at hb
    · rename_i e; simp at hb; obtain ⟨rfl, rfl, rfl, rfl, rfl⟩ := hb; exact ⟨hg.symm, e⟩
    · simp at hb
  · simp at hb
theorem AH.mpo_spec {h : AH} {o g : Nat} {fz : Bool} {es : List (FV × FV)} (hb : h.mpo o g = some (fz, es)) :
    g = h.gen o ∧ h.obj o = some (.map fz es) := by
  unfold AH.mpo at hb
  split at hb
  · rename_i hg
    split at hb
    · rename_i e; simp at hb; obtain ⟨rfl, rfl⟩ := hb; exact ⟨hg.symm, e⟩
    · simp at hb
  · simp at hb
def CellsAt (P : Program) (w : World) (D : Nat → Prop) (gen : Nat → Nat) (an : Nat → Value) (v : Value) (cs : List LV) : Prop :=
  ∃ b off, v = .pointer (some ⟨b, off, none⟩) ∧ ∀ (j : Nat) (y : LV), cs[j]? = some y → ∃ u, w.cell? ⟨b, off + j, none⟩ = some u ∧ LVRep P w D gen an u y ∧ u.oneCell' = true
theorem lone_add (b off j : Nat) : (⟨b, off, none⟩ : Addr).add j = ⟨b, off + j, none⟩ := by
  unfold Addr.add
  split
  · subst_vars; rfl
  · rfl
end Abs

