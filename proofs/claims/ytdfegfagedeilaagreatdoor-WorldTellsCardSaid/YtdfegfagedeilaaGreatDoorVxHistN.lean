/-
  A history as an argument beside a box of slices: stores into the box leave it as it was. No conditions.
-/
import Derived.Test.YtdfegfagedeilaaGreatDoorVxHFew
namespace Go.Proofs.YtdfegfagedeilaaGreatDoor
open Go.RowKit Go.Lib
section
variable {w : World} {B : Nat} {t : TypeId} {cs : List Value} (hB : aBk w B t cs) (i : Nat) (u : Value)
include hB
theorem bRz {α : Type} {size : Nat} {R : World → List Value → α → Prop} (hs : 0 < size) (hR : ∀ cs m, R w cs m → R (w.setCell ⟨B, i, none⟩ u) cs m) (hf : ∀ cs m, R w cs m → ∀ x, cs[0]? = some x → ∀ p n c, x ≠ .slice p n c) {v : Value} {L : List α} (h : SlR size R w v L) : SlR size R (w.setCell ⟨B, i, none⟩ u) v L := by
 obtain ⟨p, cap, hv, hl, hm, hc⟩ := h;refine ⟨p, cap, hv, hl, hm, fun j hj => ?_⟩;obtain ⟨a, ds, hp, hs', h1, h2⟩ := hc j hj;obtain ⟨x, hx⟩ : ∃ x, ds[0]? = some x := ⟨ds[0]'(by omega), by simp⟩;have hc0 := h1 0 x hx;have hne : (a.add (j * size + 0)).block ≠ B := hB.ne hc0 (hf _ _ h2 x hx)
 have hne' : a.block ≠ B := by
  intro e;apply hne;unfold Addr.add;split <;> exact e
 refine ⟨a, ds, hp, hs', fun q y hy => jB (h1 q y hy) ?_, hR _ _ h2⟩;unfold Addr.add;split <;> exact hne'
theorem bRy {v : Value} {L : List (List UInt8)} (h : zM w v L) : zM (w.setCell ⟨B, i, none⟩ u) v L :=
 bRz hB i u (by omega) (fun _ _ h => h) (fun cs m h x hx p n c => by obtain ⟨rfl, -⟩ := h; simp at hx; subst hx; simp) h
theorem bSm {v : Value} {L : List OpM} (h : aLm w v L) : aLm (w.setCell ⟨B, i, none⟩ u) v L :=
 bRz hB i u (by omega) (fun _ _ h => h) (fun cs m h x hx p n c => by unfold OpR at h; subst h; simp [nO] at hx; subst hx; simp) h
theorem bSl {v : Value} {L : List bB} (h : aBl w v L) : aBl (w.setCell ⟨B, i, none⟩ u) v L :=
 bRz hB i u (by omega) (fun _ _ ⟨sv, e, h⟩ => ⟨sv, e, bSm hB i u h⟩) (fun cs m h x hx p n c => by obtain ⟨sv, rfl, -⟩ := h; simp at hx; subst hx; simp) h
theorem bTx {v : Value} {h : aI} (hv : aBj w v h) : aBj (w.setCell ⟨B, i, none⟩ u) v h := by
 obtain ⟨v0, v1, v2, e, h0, h1, h2⟩ := hv;exact ⟨v0, v1, v2, e, bRy hB i u h0, bRy hB i u h1, bSl hB i u h2⟩
end
theorem bUn (h : aI) : cU (bHg h) := by
 refine ⟨Nat.le_trans (bSj _ _) (by omega), Nat.le_trans (bSj _ _) (by omega), ?_, ?_, ?_, ?_⟩
 ·simp [bHg]; omega
 ·intro x hx; have := aQt _ _ x hx; omega
 ·intro x hx; have := aQt _ _ x hx; omega
 ·intro t ht;obtain ⟨t', -, rfl⟩ := List.mem_map.1 ht;simp [tH]; omega
theorem bUy {w w1 : World} {W0 : World} {x0 x1 x2 : Value} {h : aI} {p0 p1 p2 : Option Addr} {n0 n1 n2 c0 c1 c2 : Nat} (hb0 : Below w.heap.size w W0) (hB : Blk W0 w.heap.size 25 [x0, x1, x2]) (hx : ∀ x ∈ [x0, x1, x2], ∃ p n c, x = Value.slice p n c) (hb : Below W0.heap.size W0 w1)
  (hv : cJ w1 (.agg #[.slice p0 n0 c0, .slice p1 n1 c1, .slice p2 n2 c2]) h) (ha : aBj w1 (.agg #[.slice p0 n0 c0, .slice p1 n1 c1, .slice p2 n2 c2]) h) :
  Blk (((w1.setCell ⟨w.heap.size, 0, none⟩ (.slice p0 n0 c0)).setCell ⟨w.heap.size, 1, none⟩ (.slice p1 n1 c1)).setCell ⟨w.heap.size, 2, none⟩ (.slice p2 n2 c2)) w.heap.size 25 [.slice p0 n0 c0, .slice p1 n1 c1, .slice p2 n2 c2] ∧
  cJ (((w1.setCell ⟨w.heap.size, 0, none⟩ (.slice p0 n0 c0)).setCell ⟨w.heap.size, 1, none⟩ (.slice p1 n1 c1)).setCell ⟨w.heap.size, 2, none⟩ (.slice p2 n2 c2)) (.agg #[.slice p0 n0 c0, .slice p1 n1 c1, .slice p2 n2 c2]) h ∧
  aBj (((w1.setCell ⟨w.heap.size, 0, none⟩ (.slice p0 n0 c0)).setCell ⟨w.heap.size, 1, none⟩ (.slice p1 n1 c1)).setCell ⟨w.heap.size, 2, none⟩ (.slice p2 n2 c2)) (.agg #[.slice p0 n0 c0, .slice p1 n1 c1, .slice p2 n2 c2]) h ∧
  Below w.heap.size w (((w1.setCell ⟨w.heap.size, 0, none⟩ (.slice p0 n0 c0)).setCell ⟨w.heap.size, 1, none⟩ (.slice p1 n1 c1)).setCell ⟨w.heap.size, 2, none⟩ (.slice p2 n2 c2)) := by
 have s0 : aBk w1 w.heap.size 25 [x0, x1, x2] := ⟨hB.later hb, hx⟩;have s1 := s0.set 0 p0 n0 c0;have s2 := s1.set 1 p1 n1 c1;have s3 := s2.set 2 p2 n2 c2;refine ⟨s3.1, bTv s2 2 _ (bTv s1 1 _ (bTv s0 0 _ hv)), bTx s2 2 _ (bTx s1 1 _ (bTx s0 0 _ ha)), ?_⟩;exact (((aB hb0 hb).setCell (by show w.heap.size ≤ w.heap.size; omega) _).setCell (by show w.heap.size ≤ w.heap.size; omega) _).setCell (by show w.heap.size ≤ w.heap.size; omega) _
end Go.Proofs.YtdfegfagedeilaaGreatDoor
