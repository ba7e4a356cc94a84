/-
  Layer 16 (world), the document: where the lost values stand among those that are tried, and whether a world is tried, walked. No conditions.
-/
import Derived.Test.YtdfegfagedeilaaGreatDoorVTn
namespace Go.Proofs.YtdfegfagedeilaaGreatDoor
open Go.RowKit Go.Lib
def bQc (LL : List (List aR)) (vs : List aR) : List Int := (List.range LL.length).map fun i => aJw (LL.getD i []) (vs.getD i aN)
def bQl (h : aI) (m : bK) : Bool := kX h m && (bQc (bD h m.1) m.2).all fun a => decide (0 ≤ a)
theorem bQp (h : aI) (m : bK) : bQl h m = true ↔ nX h m := by
 unfold bQl nX;rw [Bool.and_eq_true];refine and_congr_right fun hw => ?_
 have hl : m.2.length = (bD h m.1).length := by
  have hmm := (dA h).2 ((jP h m).1 hw).m;rw [qU, ((jP h m).1 hw).l, kF hmm, yY];rfl
 rw [aJx hl, List.all_eq_true];unfold bQc;constructor
 ·intro h1 i hi;have h2 := h1 _ (List.mem_map.2 ⟨i, List.mem_range.2 hi, rfl⟩);refine Classical.byContradiction fun q => ?_;unfold aJw at h2;rw [if_neg q] at h2;simp at h2
 ·intro h1 a ha;obtain ⟨i, hi, rfl⟩ := List.mem_map.1 ha;unfold aJw;rw [if_pos (h1 i (List.mem_range.1 hi))];simp
end Go.Proofs.YtdfegfagedeilaaGreatDoor
