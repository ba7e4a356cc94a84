/-
  DERIVED: THE SHELF's CONTRACTS AT THIS DUMP, IN PLAIN WORDS (tools/lay-plain.mjs out of 'TrydShelfO4.lean', which tools/lay-shelf.mjs wrote): THE SAME DECLARATIONS UNDER THE SAME NAMES: 'import', 'namespace', 'open', 'def', 'theorem' AND NOTHING ELSE: no command of the shelf's: FOR A HAND-IN. Each laying: the table of numbers ('.._ren') and one theorem, a field a fact of the dump's own or the kernel's comparison; each contract: ONE APPLICATION.
-/
import Derived.Shelf.SlGeneric
import Derived.Ground.NamesProg
import Derived.Ground.SlsfProg
import Derived.Shelf.LaysM
import Derived.Shelf.SlLaysF
import Derived.Shelf.SlLaysF0
import Derived.Shelf.SlSortCmp.NoneTotal
import Derived.Test.YtldcbapjiflblaaProg
namespace Go.Proofs
open Go.Shelf
def Try.laysSortV_ren : Go.Shelf.Ren := ⟨fun | 6 => 11 | 15 => 22 | 14 => 21 | 28 => 36 | 29 => 37 | 20 => 28 | 21 => 29 | 22 => 30 | 23 => 31 | 24 => 32 | 25 => 33 | 26 => 34 | 27 => 35 | 46 => 40 | 47 => 41 | 48 => 42 | 49 => 43 | 50 => 44 | 57 => 46 | n => n, fun | 22 => 22 | 24 => 24 | 25 => 33 | 3 => 3 | 39 => 46 | 0 => 0 | 53 => 64 | 55 => 66 | 4 => 4 | 46 => 58 | 45 => 57 | 50 => 47 | 5 => 5 | 9 => 9 | 66 => 73 | 70 => 77 | 76 => 79 | 77 => 80 | n => n, fun | n => n⟩
theorem Try.laysSortV : Go.Proofs.SlLaysF0.n6 Try.prog Try.laysSortV_ren := {
 mixed := by kernel_rfl
 f6 := ⟨Try.f11.name, by decide, Try.func11.trans (congrArg some (by kernel_rfl))⟩
 f14 := ⟨Try.f21.name, by decide, Try.func21.trans (congrArg some (by kernel_rfl))⟩
 f15 := Try.func22.trans (congrArg some (by kernel_rfl))
 f20 := ⟨Try.f28.name, by decide, Try.func28.trans (congrArg some (by kernel_rfl))⟩
 f21 := ⟨Try.f29.name, by decide, Try.func29.trans (congrArg some (by kernel_rfl))⟩
 f22 := ⟨Try.f30.name, by decide, Try.func30.trans (congrArg some (by kernel_rfl))⟩
 f23 := ⟨Try.f31.name, by decide, Try.func31.trans (congrArg some (by kernel_rfl))⟩
 f24 := ⟨Try.f32.name, by decide, Try.func32.trans (congrArg some (by kernel_rfl))⟩
 f25 := ⟨Try.f33.name, by decide, Try.func33.trans (congrArg some (by kernel_rfl))⟩
 f26 := ⟨Try.f34.name, by decide, Try.func34.trans (congrArg some (by kernel_rfl))⟩
 f27 := ⟨Try.f35.name, by decide, Try.func35.trans (congrArg some (by kernel_rfl))⟩
 f28 := Try.func36.trans (congrArg some (by kernel_rfl))
 f29 := Try.func37.trans (congrArg some (by kernel_rfl))
 f46 := ⟨Try.f40.name, by decide, Try.func40.trans (congrArg some (by kernel_rfl))⟩
 f47 := Try.func41.trans (congrArg some (by kernel_rfl))
 f48 := Try.func42.trans (congrArg some (by kernel_rfl))
 f49 := ⟨Try.f43.name, by decide, Try.func43.trans (congrArg some (by kernel_rfl))⟩
 f50 := ⟨Try.f44.name, by decide, Try.func44.trans (congrArg some (by kernel_rfl))⟩
 f57 := ⟨Try.f46.name, by decide, Try.func46.trans (congrArg some (by kernel_rfl))⟩
 t0 := Try.underlying0
 a0 := Try.isAgg0
 z0 := Try.sizeOf0
 v0 := Try.zeroValue0
 t3 := Try.underlying3
 a3 := Try.isAgg3
 z3 := Try.sizeOf3
 v3 := Try.zeroValue3
 t4 := Try.underlying4
 a4 := Try.isAgg4
 z4 := Try.sizeOf4
 v4 := Try.zeroValue4
 t5 := Try.underlying5
 a5 := Try.isAgg5
 z5 := Try.sizeOf5
 v5 := Try.zeroValue5
 t9 := Try.underlying9
 a9 := Try.isAgg9
 z9 := Try.sizeOf9
 v9 := Try.zeroValue9
 t22 := Try.underlying22
 a22 := Try.isAgg22
 z22 := Try.sizeOf22
 v22 := Try.zeroValue22
 t25 := Try.underlying33
 a25 := Try.isAgg33
 z25 := Try.sizeOf33
 v25 := Try.zeroValue33
 t39 := Try.underlying46
 a39 := Try.isAgg46
 z39 := Try.sizeOf46
 v39 := Try.zeroValue46
 t45 := Try.underlying57
 a45 := Try.isAgg57
 z45 := Try.sizeOf57
 v45 := Try.zeroValue57
 t46 := Try.underlying58
 a46 := Try.isAgg58
 z46 := Try.sizeOf58
 v46 := Try.zeroValue58
 t50 := Try.underlying47
 a50 := Try.isAgg47
 z50 := Try.sizeOf47
 v50 := Try.zeroValue47
 t53 := Try.underlying64
 a53 := Try.isAgg64
 z53 := Try.sizeOf64
 v53 := Try.zeroValue64
 t55 := Try.underlying66
 a55 := Try.isAgg66
 z55 := Try.sizeOf66
 v55 := Try.zeroValue66
 t66 := Try.underlying73
 a66 := Try.isAgg73
 z66 := Try.sizeOf73
 v66 := Try.zeroValue73
 t70 := Try.underlying77
 a70 := Try.isAgg77
 z70 := Try.sizeOf77
 v70 := Try.zeroValue77
 t76 := Try.underlying79
 a76 := Try.isAgg79
 z76 := Try.sizeOf79
 v76 := Try.zeroValue79
 t77 := Try.underlying80
 a77 := Try.isAgg80
 z77 := Try.sizeOf80
 v77 := Try.zeroValue80 }
end Go.Proofs
