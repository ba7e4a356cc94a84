/-
  Layer 10 (pair): the statement PairMany. Conditions: unicode/utf8's two tables hold what their initialisers lay.
-/
import Derived.Test.YthgbfaoblnkniaaDoorGxPcM0
import Derived.Test.YthgbfaoblnkniaaDoorGxPcM1
import Derived.Test.YthgbfaoblnkniaaDoorGxPcM2
import Derived.Test.YthgbfaoblnkniaaDoorGxPcM3
namespace Go.Proofs.YthgbfaoblnkniaaDoor
open Go.RowKit Go.Lib Go.Maps Go.WideMaps
theorem pairmany_any (what more : Int) (w : World) (h0 : 0 ≤ what ∧ what ≤ 255) (h1 : 0 ≤ more ∧ more ≤ 255) (hT : Lib.Utf8Tabs 0 1 w) :
  Calls Tryd.prog 3 #[.int .u8 what, .int .u8 more] w fun e w' => e = .returned (.bool true) ∧ Below w.heap.size w w' := by
 have ht : what % 4 = 0 ∨ what % 4 = 1 ∨ what % 4 = 2 ∨ what % 4 = 3 := by omega
 have hm : more % 3 = 0 ∨ more % 3 = 1 ∨ more % 3 = 2 := by omega
 rcases ht with ht | ht | ht | ht
 ·rcases hm with hm | hm | hm
  ·exact pairmany_0_0 what more w h0 h1 ht hm hT
  ·exact pairmany_0_1 what more w h0 h1 ht hm hT
  ·exact pairmany_0_2 what more w h0 h1 ht hm hT
 ·rcases hm with hm | hm | hm
  ·exact pairmany_1_0 what more w h0 h1 ht hm hT
  ·exact pairmany_1_1 what more w h0 h1 ht hm hT
  ·exact pairmany_1_2 what more w h0 h1 ht hm hT
 ·rcases hm with hm | hm | hm
  ·exact pairmany_2_0 what more w h0 h1 ht hm hT
  ·exact pairmany_2_1 what more w h0 h1 ht hm hT
  ·exact pairmany_2_2 what more w h0 h1 ht hm hT
 ·rcases hm with hm | hm | hm
  ·exact pairmany_3_0 what more w h0 h1 ht hm hT
  ·exact pairmany_3_1 what more w h0 h1 ht hm hT
  ·exact pairmany_3_2 what more w h0 h1 ht hm hT
end Go.Proofs.YthgbfaoblnkniaaDoor
