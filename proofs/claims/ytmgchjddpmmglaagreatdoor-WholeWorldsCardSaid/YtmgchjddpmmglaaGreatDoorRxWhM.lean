/-
  Layer 17 (whole): what is made whole is of modest size. No conditions.
-/
import Derived.Test.YtmgchjddpmmglaaGreatDoorRxWhP
namespace Go.Proofs.YtmgchjddpmmglaaGreatDoor
open Go.RowKit Go.Lib
theorem make_modst2 {h : HistM} {m : WorldM} (hm : Modst h) : Modst (makeH h m) := by
 refine ⟨hm.1, hm.2.1, ?_, hm.2.2.2.1, hm.2.2.2.2.1, ?_⟩
 ·show (makeG h.2.2 _ _).length ≤ 1000
  rw [make_len]
  exact hm.2.2.1
 ·intro t ht
  obtain ⟨u, hu, -, -, e⟩ := make_txn h.2.2 _ _ t ht
  rw [e]
  exact hm.2.2.2.2.2 u hu
end Go.Proofs.YtmgchjddpmmglaaGreatDoor
