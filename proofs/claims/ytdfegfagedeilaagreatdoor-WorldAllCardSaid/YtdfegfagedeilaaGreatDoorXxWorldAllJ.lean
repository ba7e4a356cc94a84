/-
  WorldAll: the closed facts of its row, each by reckoning. No conditions.
-/
import Derived.Test.YtdfegfagedeilaaGreatDoorCards
import Derived.Test.YtdfegfagedeilaaGreatDoorTie
import Derived.Deep.DeepHandedRow
import Derived.SizedLaws
namespace Go.Proofs.YtdfegfagedeilaaGreatDoor.rowWorldAll
set_option maxHeartbeats 8000000 in
theorem joined : joinedFacts Tryz.pinned.checked.prog 4 Tryz.f4 (OpenSpec.ofChange Rows.worldAllSpec).bare Rows.worldAllRow = true := by
 unfold joinedFacts;simp only [Bool.and_eq_true];repeat' (first | refine And.intro ?_ ?_ | (as_aux_lemma => kernel_rfl))
end Go.Proofs.YtdfegfagedeilaaGreatDoor.rowWorldAll
