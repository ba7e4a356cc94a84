/-
  Layer 14 (erase), the program: a history by a policy. No conditions but that unicode/utf8's two tables are as their initialisers lay them.
-/
import Derived.Test.YtmgchjddpmmglaaGreatDoorRWk
import Derived.Deep.CutBlock
namespace Go.Proofs.YtmgchjddpmmglaaGreatDoor
open Go.RowKit Go.Lib
theorem hist_stored {w : World} {B : Nat} {x0 x1 x2 : Value} {h : HistM} {p0 p1 p2 : Option Addr} {n0 n1 n2 c0 c1 c2 : Nat} (hB : Blk w B 25 [x0, x1, x2]) (hx : ∀ x ∈ [x0, x1, x2], ∃ p n c, x = Value.slice p n c) (hv : HistV w (.agg #[.slice p0 n0 c0, .slice p1 n1 c1, .slice p2 n2 c2]) h) :
  Blk (((w.setCell ⟨B, 0, none⟩ (.slice p0 n0 c0)).setCell ⟨B, 1, none⟩ (.slice p1 n1 c1)).setCell ⟨B, 2, none⟩ (.slice p2 n2 c2)) B 25 [.slice p0 n0 c0, .slice p1 n1 c1, .slice p2 n2 c2] ∧
  HistV (((w.setCell ⟨B, 0, none⟩ (.slice p0 n0 c0)).setCell ⟨B, 1, none⟩ (.slice p1 n1 c1)).setCell ⟨B, 2, none⟩ (.slice p2 n2 c2)) (.agg #[.slice p0 n0 c0, .slice p1 n1 c1, .slice p2 n2 c2]) h := by
 have s0 : SlBox w B 25 [x0, x1, x2] := ⟨hB, hx⟩
 have s1 := s0.set 0 p0 n0 c0
 have s2 := s1.set 1 p1 n1 c1
 have s3 := s2.set 2 p2 n2 c2
 exact ⟨s3.1, histV_box s2 2 _ (histV_box s1 1 _ (histV_box s0 0 _ hv))⟩
end Go.Proofs.YtmgchjddpmmglaaGreatDoor
