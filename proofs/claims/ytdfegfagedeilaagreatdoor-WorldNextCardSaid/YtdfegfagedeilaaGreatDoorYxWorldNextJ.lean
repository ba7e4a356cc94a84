/-
  WorldNext: the closed facts of its row, each by reckoning. No conditions.
-/
import Derived.Test.YtdfegfagedeilaaGreatDoorCards
import Derived.Test.YtdfegfagedeilaaGreatDoorTie
import Derived.Deep.DeepHandedRow
import Derived.SizedLaws
namespace Go.Proofs.YtdfegfagedeilaaGreatDoor.rowWorldNext
set_option maxHeartbeats 8000000 in
theorem joined:joinedFacts Tryz.pinned.checked.prog 3 Tryz.f3 (OpenSpec.ofChange Rows.worldNextSpec).bare Rows.worldNextRow=true:=by
 unfold joinedFacts;simp only[Bool.and_eq_true];repeat' (first | refine And.intro ?_ ?_ | (as_aux_lemma=>kernel_rfl))
end Go.Proofs.YtdfegfagedeilaaGreatDoor.rowWorldNext
