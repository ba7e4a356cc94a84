/-
  The statement HistMays of layer 11 (hist), walked. No conditions but that unicode/utf8's two tables are as their initialisers lay them.
-/
import Derived.Test.YtmgchjddpmmglaaGreatDoorQxHFew
namespace Go.Proofs.YtmgchjddpmmglaaGreatDoor
open Go.RowKit Go.Lib
theorem few_v {w : World} {v : Value} {h : HistM} (hv : HistA w v (fewH h)) : Calls Tryz.prog 20 #[v] w fun e w' => ∃ v', e = .returned v' ∧ HistV w' v' (fewH h) ∧ HistA w' v' (fewH h) ∧ Below w.heap.size w w' := by
 have h1 := few11_any w v (fewH h) hv
 rw [fewH_few] at h1
 exact h1
theorem sameints_eq {w : World} {v v' : Value} {L : List Int} (hv : IntsS w v L) (hv' : IntsS w v' L) (hL : L.length ≤ 1000) : Calls Tryz.prog 31 #[v, v'] w fun e w' => e = .returned (.bool true) ∧ Below w.heap.size w w' := by
 have h := sameints_any w v v' L L hv hv' (by omega)
 rw [beq_self_eq_true] at h
 exact h
theorem whereL_len (p : TxnM → Bool) (h : HistM) (hm : Modst h) : (whereL p h).length ≤ 1000 := by
 unfold whereL
 split
 ·exact Nat.le_trans (idxs_len _ _ _) hm.2.2.1
 ·exact Nat.zero_le _
end Go.Proofs.YtmgchjddpmmglaaGreatDoor
