/-
  The library's contracts laid at this seat, in plain words. No conditions.
-/
import Derived.Shelf.SlGeneric
import Derived.Ground.Names7Prog
import Derived.Shelf.Lays7
import Derived.Test.YtldcbapjiflblaaDoorProg
namespace Go.Proofs
open Go.Shelf
def Tryd.laysTz_ren : Go.Shelf.Ren := ⟨fun | 29 => 64 | n => n, fun | 22 => 90 | 3 => 3 | 4 => 4 | 25 => 64 | 54 => 110 | 0 => 0 | 5 => 5 | n => n, fun | 1 => 0 | n => n⟩
theorem Tryd.laysTz : Go.Proofs.Lays7.n29 Tryd.prog Tryd.laysTz_ren := {
 mixed := by kernel_rfl
 f29 := Tryd.func64.trans (congrArg some (by kernel_rfl))
 t0 := Tryd.underlying0
 a0 := Tryd.isAgg0
 z0 := Tryd.sizeOf0
 v0 := Tryd.zeroValue0
 i0 := by kernel_rfl
 t3 := Tryd.underlying3
 a3 := Tryd.isAgg3
 z3 := Tryd.sizeOf3
 v3 := Tryd.zeroValue3
 i3 := by kernel_rfl
 t4 := Tryd.underlying4
 a4 := Tryd.isAgg4
 z4 := Tryd.sizeOf4
 v4 := Tryd.zeroValue4
 i4 := by kernel_rfl
 t5 := Tryd.underlying5
 a5 := Tryd.isAgg5
 z5 := Tryd.sizeOf5
 v5 := Tryd.zeroValue5
 i5 := by kernel_rfl
 t22 := Tryd.underlying90
 a22 := Tryd.isAgg90
 z22 := Tryd.sizeOf90
 v22 := Tryd.zeroValue90
 i22 := by kernel_rfl
 t25 := Tryd.underlying64
 a25 := Tryd.isAgg64
 z25 := Tryd.sizeOf64
 v25 := Tryd.zeroValue64
 i25 := by kernel_rfl
 t54 := Tryd.underlying110
 a54 := Tryd.isAgg110
 z54 := Tryd.sizeOf110
 g1 := by kernel_rfl }
end Go.Proofs
