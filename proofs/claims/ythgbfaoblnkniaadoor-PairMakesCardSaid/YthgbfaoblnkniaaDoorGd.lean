/-
  The walks of layer 7 (event): the kind of a first word, whether events of a kind are long; the reference's list of words. Condition: event.words holds what its initialiser lays.
-/
import Derived.Test.YthgbfaoblnkniaaDoorGa
namespace Go.Proofs.YthgbfaoblnkniaaDoor
open Go.RowKit
set_option maxHeartbeats 1000000 in
theorem long_any (k : Int) (w : World) :
  Calls Tryd.prog 47 #[.int .i64 k] w fun e w' => e = .returned (.bool (longK k)) ∧ w = w' := by
 rcases long_cases k with ⟨rfl, h⟩ | ⟨rfl, h⟩ | ⟨h1, h2, h⟩ <;> rw [h] <;> clear h
 all_goals
  go_enter Tryd.func47, Tryd.ntmps47
  go_wp2
  go_ret
  exact ⟨rfl, rfl⟩
end Go.Proofs.YthgbfaoblnkniaaDoor
