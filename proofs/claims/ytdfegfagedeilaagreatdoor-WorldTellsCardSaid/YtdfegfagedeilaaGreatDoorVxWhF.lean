/-
  Layer 17 (whole): the chapter's example, walked. Conditions: unicode/utf8's two tables and event.words hold what their initialisers lay, internal/bytealg.MaxLen holds a number.
-/
import Derived.Test.YtdfegfagedeilaaGreatDoorVTj
import Derived.Test.YtdfegfagedeilaaGreatDoorVxHistN
namespace Go.Proofs.YtdfegfagedeilaaGreatDoor
open Go.RowKit Go.Lib
section
variable {w : World} {B : Nat} {t : TypeId} {cs : List Value} (hB : aBk w B t cs) (i : Nat) (u : Value)
include hB
theorem bTl {v : Value} {L : List Bool} (h : qW w v L) : qW (w.setCell ⟨B, i, none⟩ u) v L := by
 obtain ⟨p, c, rfl, hl, hp⟩ := h;refine ⟨p, c, rfl, hl, fun j hj => ?_⟩;obtain ⟨g, rfl, hc⟩ := hp j hj;exact ⟨g, rfl, jB hc (hB.ne hc (by intros; simp))⟩
theorem bTp {v : Value} {L : List aR} (h : oS w v L) : oS (w.setCell ⟨B, i, none⟩ u) v L := by
 obtain ⟨p, c, rfl, hl, hp⟩ := h;refine ⟨p, c, rfl, hl, fun j hj => ?_⟩;obtain ⟨g, rfl, h0, h1⟩ := hp j hj;have hne : g ≠ B := hB.ne h0 (by intros; simp);exact ⟨g, rfl, jB h0 hne, jB h1 hne⟩
theorem bTj {v : Value} {m : bK} (h : lI w v m) : lI (w.setCell ⟨B, i, none⟩ u) v m := by
 obtain ⟨v0, v1, e, h0, h1⟩ := h;exact ⟨v0, v1, e, bTl hB i u h0, bTp hB i u h1⟩
theorem bTg {v : Value} {m : bK} (h : vX w v m) : vX (w.setCell ⟨B, i, none⟩ u) v m := by
 obtain ⟨v0, v1, e, ⟨p, c, e0, h1, h2, hc⟩, ⟨p', c', e0', h1', h2', hc'⟩⟩ := h;refine ⟨v0, v1, e, ⟨p, c, e0, h1, h2, fun j hj => ?_⟩, ⟨p', c', e0', h1', h2', fun j hj => ?_⟩⟩
 ·obtain ⟨a, ds, ea, hl, hd, hr⟩ := hc j hj;refine ⟨a, ds, ea, hl, fun q x hq => jB (hd q x hq) (hB.ne (hd q x hq) ?_), hr⟩;have hm := List.mem_of_getElem? hq;rw [show ds = _ from hr] at hm;simp at hm;subst hm
  intros; simp
 ·obtain ⟨a, ds, ea, hl, hd, hr⟩ := hc' j hj;refine ⟨a, ds, ea, hl, fun q x hq => jB (hd q x hq) (hB.ne (hd q x hq) ?_), hr⟩;have hm := List.mem_of_getElem? hq;rw [show ds = _ from hr] at hm;simp [aZ] at hm;rcases hm with rfl | rfl <;> (intros; simp)
end
theorem bTm {w W1 w2 : World} {x0 x1 x2 y0 y1 : Value} {h : aI} {m : bK} {p0 p1 p2 r0 r1 : Option Addr} {n0 n1 n2 c0 c1 c2 k0 k1 e0 e1 : Nat} (hb1 : Below w.heap.size w W1) (hB : Blk W1 w.heap.size 25 [x0, x1, x2]) (hx : ∀ x ∈ [x0, x1, x2], ∃ p n c, x = Value.slice p n c) (hU : Blk W1 (w.heap.size + 1) 29 [y0, y1]) (hy : ∀ x ∈ [y0, y1], ∃ p n c, x = Value.slice p n c) (hb : Below W1.heap.size W1 w2)
  (hv : cJ w2 (.agg #[.slice p0 n0 c0, .slice p1 n1 c1, .slice p2 n2 c2]) h) (ha : aBj w2 (.agg #[.slice p0 n0 c0, .slice p1 n1 c1, .slice p2 n2 c2]) h) (wv : lI w2 (.agg #[.slice r0 k0 e0, .slice r1 k1 e1]) m) (wa : vX w2 (.agg #[.slice r0 k0 e0, .slice r1 k1 e1]) m) :
  ∃ WZ, (((((w2.setCell ⟨w.heap.size, 0, none⟩ (.slice p0 n0 c0)).setCell ⟨w.heap.size, 1, none⟩ (.slice p1 n1 c1)).setCell ⟨w.heap.size, 2, none⟩ (.slice p2 n2 c2)).setCell ⟨w.heap.size + 1, 0, none⟩ (.slice r0 k0 e0)).setCell ⟨w.heap.size + 1, 1, none⟩ (.slice r1 k1 e1)) = WZ ∧
  Blk WZ w.heap.size 25 [.slice p0 n0 c0, .slice p1 n1 c1, .slice p2 n2 c2] ∧ Blk WZ (w.heap.size + 1) 29 [.slice r0 k0 e0, .slice r1 k1 e1] ∧
  cJ WZ (.agg #[.slice p0 n0 c0, .slice p1 n1 c1, .slice p2 n2 c2]) h ∧ aBj WZ (.agg #[.slice p0 n0 c0, .slice p1 n1 c1, .slice p2 n2 c2]) h ∧ lI WZ (.agg #[.slice r0 k0 e0, .slice r1 k1 e1]) m ∧ vX WZ (.agg #[.slice r0 k0 e0, .slice r1 k1 e1]) m ∧ Below w.heap.size w WZ := by
 have s0 : aBk w2 w.heap.size 25 [x0, x1, x2] := ⟨hB.later hb, hx⟩;have s1 := s0.set 0 p0 n0 c0;have s2 := s1.set 1 p1 n1 c1;have s3 := s2.set 2 p2 n2 c2;have hne : w.heap.size + 1 ≠ w.heap.size := (by omega);have u0 := (((hU.later hb).far (a := ⟨w.heap.size, 0, none⟩) hne (.slice p0 n0 c0)).far (a := ⟨w.heap.size, 1, none⟩) hne (.slice p1 n1 c1)).far (a := ⟨w.heap.size, 2, none⟩) hne (.slice p2 n2 c2);have t0 : aBk _ (w.heap.size + 1) 29 [y0, y1] := ⟨u0, hy⟩;have t1 := t0.set 0 r0 k0 e0;have t2 := t1.set 1 r1 k1 e1;have hne2 : w.heap.size ≠ w.heap.size + 1 := (by omega);refine ⟨_, rfl, (s3.1.far (a := ⟨w.heap.size + 1, 0, none⟩) hne2 _).far (a := ⟨w.heap.size + 1, 1, none⟩) hne2 _, t2.1, bTv t1 1 _ (bTv t0 0 _ (bTv s2 2 _ (bTv s1 1 _ (bTv s0 0 _ hv)))), bTx t1 1 _ (bTx t0 0 _ (bTx s2 2 _ (bTx s1 1 _ (bTx s0 0 _ ha)))), bTj t1 1 _ (bTj t0 0 _ (bTj s2 2 _ (bTj s1 1 _ (bTj s0 0 _ wv)))), bTg t1 1 _ (bTg t0 0 _ (bTg s2 2 _ (bTg s1 1 _ (bTg s0 0 _ wa)))), ?_⟩;exact (((((aB hb1 hb).setCell (by show w.heap.size ≤ w.heap.size; omega) _).setCell (by show w.heap.size ≤ w.heap.size; omega) _).setCell (by show w.heap.size ≤ w.heap.size; omega) _).setCell (by show w.heap.size ≤ w.heap.size + 1; omega) _).setCell (by show w.heap.size ≤ w.heap.size + 1; omega) _
end Go.Proofs.YtdfegfagedeilaaGreatDoor
