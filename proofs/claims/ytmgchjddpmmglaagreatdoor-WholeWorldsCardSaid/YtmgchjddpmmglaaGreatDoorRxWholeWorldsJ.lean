/-
  WholeWorlds: the closed facts of its row, each by reckoning. No conditions.
-/
import Derived.Test.YtmgchjddpmmglaaGreatDoorCards
import Derived.Test.YtmgchjddpmmglaaGreatDoorTie
import Derived.Deep.DeepHandedRow
import Derived.SizedLaws
namespace Go.Proofs.YtmgchjddpmmglaaGreatDoor.rowWholeWorlds
set_option maxHeartbeats 8000000 in
theorem joined : joinedFacts Tryz.pinned.checked.prog 11 Tryz.f11 (OpenSpec.ofChange Rows.wholeWorldsSpec).bare Rows.wholeWorldsRow = true := by
 unfold joinedFacts
 simp only [Bool.and_eq_true]
 repeat' (first | refine And.intro ?_ ?_ | (as_aux_lemma => kernel_rfl))
end Go.Proofs.YtmgchjddpmmglaaGreatDoor.rowWholeWorlds
