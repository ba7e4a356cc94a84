/-
  Layer 16 (world), the document: the first world with some fates, and the first of all, walked. No conditions.
-/
import Derived.Test.YtdfegfagedeilaaGreatDoorXLj
import Derived.Lib.LazyBuf
import Derived.Maps.RangeWalk
namespace Go.Proofs.YtdfegfagedeilaaGreatDoor
open Go.RowKit Go.Lib
theorem bQb {w : World} {a b : Addr} {u : Value} (h : w.cell? a = some u) (hne : a.block ≠ b.block) (v : Value) : (w.setCell b v).cell? a = some u :=
 (World.cell?_of_block (Below.heap_setCell w b v a.block hne)).trans h
theorem jA.far {w : World} {p q : Option Addr} {L : List Bool} {g n c : Nat} {t : TypeId} {cs : List Value} (h : jA w p L) (hB : Blk w g t (.slice q n c :: cs)) (i : Nat) (v : Value) : jA (w.setCell ⟨g, i, none⟩ v) p L := fun j hj => by
 obtain ⟨g', e, hc⟩ := h j hj;obtain ⟨g0, e0, hc0⟩ := h 0 (by omega);refine ⟨g', e, bQb hc (fun eq => ?_) v⟩;rw [e] at e0;injection e0 with e0;injection e0 with e0;have h1 : w.cell? ⟨g, 0, none⟩ = some (.slice q n c) := hB.cell 0 rfl;dsimp only at eq;rw [← eq, e0, hc0] at h1;cases h1
theorem lF.far {w : World} {p q : Option Addr} {L : List aR} {g n c : Nat} {t : TypeId} {cs : List Value} (h : lF w p L) (hB : Blk w g t (.slice q n c :: cs)) (i : Nat) (v : Value) : lF (w.setCell ⟨g, i, none⟩ v) p L := fun j hj => by
 obtain ⟨g', e, hc, hd⟩ := h j hj;obtain ⟨g0, e0, hc0, -⟩ := h 0 (by omega)
 have hne : g' ≠ g := fun eq => by
  rw [e] at e0;injection e0 with e0;injection e0 with e0;have h1 : w.cell? ⟨g, 0, none⟩ = some (.slice q n c) := hB.cell 0 rfl;rw [← eq, e0, show 0 = 0 * 2 from rfl, hc0] at h1;cases h1
 exact ⟨g', e, bQb hc hne v, bQb hd hne v⟩
theorem lI.two_sets {w : World} {u : Value} {m : bK} {g n c n2 c2 : Nat} {q q2 : Option Addr} {a0 : Value} {t : TypeId} (h : lI w u m) (hB : Blk w g t [.slice q2 n2 c2, a0]) (y : Value) : lI ((w.setCell ⟨g, 0, none⟩ (.slice q n c)).setCell ⟨g, 1, none⟩ y) u m := by
 obtain ⟨v0, v1, e, ⟨p0, c0, e0, h0, k0⟩, ⟨p1, c1, e1, h1, k1⟩⟩ := h;exact ⟨v0, v1, e, ⟨p0, c0, e0, h0, (k0.far hB 0 _).far (hB.set 0 (.slice q n c)) 1 y⟩, ⟨p1, c1, e1, h1, (k1.far hB 0 _).far (hB.set 0 (.slice q n c)) 1 y⟩⟩
end Go.Proofs.YtdfegfagedeilaaGreatDoor
