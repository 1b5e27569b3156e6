/- A part of the proof: K07. -/
import Derived.Test.YtmanbdacloeioaaAbsK
import Derived.Test.YtmanbdacloeioaaG07m
import Derived.Shelf.SlGeneric
import Derived.Shelf.SlicesG.Cells
import Derived.Ground.SlgnProg
set_option linter.unusedVariables false
set_option linter.unusedSimpArgs false
namespace S07K
open Go Go.Proofs
def ren : Go.Shelf.Ren := ⟨fun x => if x = 43 then 80 else x, fun x => if x = 22 then 82 else if x = 23 then 76 else x, fun x => x⟩
theorem compact : SlLaysN.n43 Try.prog ren where
  mixed := by kernel_rfl
  f43 := ⟨Try.f80.name, by decide, Try.func80.trans (congrArg some (by kernel_rfl))⟩
  t0 := Try.underlying0
  a0 := Try.isAgg0
  z0 := Try.sizeOf0
  v0 := Try.zeroValue0
  t3 := Try.underlying3
  a3 := Try.isAgg3
  z3 := Try.sizeOf3
  v3 := Try.zeroValue3
  t4 := Try.underlying4
  a4 := Try.isAgg4
  z4 := Try.sizeOf4
  v4 := Try.zeroValue4
  t22 := Try.underlying82
  a22 := Try.isAgg82
  z22 := Try.sizeOf82
  v22 := Try.zeroValue82
  t23 := Try.underlying76
  a23 := Try.isAgg76
  z23 := Try.sizeOf76
  v23 := Try.zeroValue76
  i23 := by kernel_rfl
end S07K
namespace S07
open Go Abs
theorem a80 {o g : Nat} {nil : Bool} {xs : List Int} {h : AH} (hne : xs ≠ []) (hm : xs.length ≤ 9223372036854775807) (ho : h.lst o g = some (76, 1, false, nil, ints xs)) :
    AC Q 80 [.gl o g] h fun lv h' => lv = .gl o (g + 1) ∧ h' = h.renew o (g + 1) (.list 76 1 false false (ints (Lib.compact xs))) :=
  compact_ac en80 (fun b off n c zs w h1 h2 h3 h4 h5 => Go.Proofs.AnyG.slices_Compact_int_cells S07K.compact b off n c zs w h1 h2 h3 h4 h5) hne hm ho
end S07

