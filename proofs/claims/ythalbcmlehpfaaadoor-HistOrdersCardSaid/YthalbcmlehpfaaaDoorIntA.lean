/-
  A number as what is appended. No conditions.
-/
import Derived.Test.YthalbcmlehpfaaaDoorBase
namespace Go.Proofs.YthalbcmlehpfaaaDoor
open Go.RowKit

theorem news_int (w : World) (x : Int) (e : TypeId) : ∀ (j : Nat) (u : Value), ([.int .i64 x] : List Value)[j]? = some u → (w.alloc (.cells #[.int .i64 x] e)).cell? ((⟨w.heap.size, 0, none⟩ : Addr).add j) = some u := by
  intro j u hj
  match j, hj with
  | 0, hj => simp at hj; subst hj; simp [Addr.add]
theorem ones_int (x : Int) : ∀ u ∈ ([.int .i64 x] : List Value), u.oneCell' = true := by
  intro u hu
  simp at hu
  subst hu
  rfl

end Go.Proofs.YthalbcmlehpfaaaDoor
