/-
  A history as an argument beside a box of slices: stores into the box leave it as it was. No conditions.
  The statement HistMays of layer 11 (hist), walked. No conditions but that unicode/utf8's two tables are as their initialisers lay them.
-/
import Derived.Test.YtmgchjddpmmglaaGreatDoorRxHFew
namespace Go.Proofs.YtmgchjddpmmglaaGreatDoor
section
open Go.RowKit Go.Lib
section
variable {w : World} {B : Nat} {t : TypeId} {cs : List Value} (hB : SlBox w B t cs) (i : Nat) (u : Value)
include hB
theorem slR_box {α : Type} {size : Nat} {R : World → List Value → α → Prop} (hs : 0 < size) (hR : ∀ cs m, R w cs m → R (w.setCell ⟨B, i, none⟩ u) cs m) (hf : ∀ cs m, R w cs m → ∀ x, cs[0]? = some x → ∀ p n c, x ≠ .slice p n c) {v : Value} {L : List α} (h : SlR size R w v L) : SlR size R (w.setCell ⟨B, i, none⟩ u) v L := by
 obtain ⟨p, cap, hv, hl, hm, hc⟩ := h
 refine ⟨p, cap, hv, hl, hm, fun j hj => ?_⟩
 obtain ⟨a, ds, hp, hs', h1, h2⟩ := hc j hj
 obtain ⟨x, hx⟩ : ∃ x, ds[0]? = some x := ⟨ds[0]'(by omega), by simp⟩
 have hc0 := h1 0 x hx
 have hne : (a.add (j * size + 0)).block ≠ B := hB.ne hc0 (hf _ _ h2 x hx)
 have hne' : a.block ≠ B := by
  intro e
  apply hne
  unfold Addr.add
  split <;> exact e
 refine ⟨a, ds, hp, hs', fun q y hy => cell_set_far (h1 q y hy) ?_, hR _ _ h2⟩
 unfold Addr.add
 split <;> exact hne'
theorem strsA_box {v : Value} {L : List (List UInt8)} (h : StrsA w v L) : StrsA (w.setCell ⟨B, i, none⟩ u) v L :=
 slR_box hB i u (by omega) (fun _ _ h => h) (fun cs m h x hx p n c => by obtain ⟨rfl, -⟩ := h; simp at hx; subst hx; simp) h
theorem opsA_box {v : Value} {L : List OpM} (h : OpsA w v L) : OpsA (w.setCell ⟨B, i, none⟩ u) v L :=
 slR_box hB i u (by omega) (fun _ _ h => h) (fun cs m h x hx p n c => by unfold OpR at h; subst h; simp [opCells] at hx; subst hx; simp) h
theorem txnsA_box {v : Value} {L : List TxnM} (h : TxnsA w v L) : TxnsA (w.setCell ⟨B, i, none⟩ u) v L :=
 slR_box hB i u (by omega) (fun _ _ ⟨sv, e, h⟩ => ⟨sv, e, opsA_box hB i u h⟩) (fun cs m h x hx p n c => by obtain ⟨sv, rfl, -⟩ := h; simp at hx; subst hx; simp) h
theorem histA_box {v : Value} {h : HistM} (hv : HistA w v h) : HistA (w.setCell ⟨B, i, none⟩ u) v h := by
 obtain ⟨v0, v1, v2, e, h0, h1, h2⟩ := hv
 exact ⟨v0, v1, v2, e, strsA_box hB i u h0, strsA_box hB i u h1, txnsA_box hB i u h2⟩
end
theorem few_modst (h : HistM) : Modst (fewH h) := by
 refine ⟨Nat.le_trans (cutS_le _ _) (by omega), Nat.le_trans (cutS_le _ _) (by omega), ?_, ?_, ?_, ?_⟩
 ·simp [fewH]; omega
 ·intro x hx; have := cutS_short _ _ x hx; omega
 ·intro x hx; have := cutS_short _ _ x hx; omega
 ·intro t ht
  obtain ⟨t', -, rfl⟩ := List.mem_map.1 ht
  simp [cutTxn]; omega
theorem few_stored {w w1 : World} {W0 : World} {x0 x1 x2 : Value} {h : HistM} {p0 p1 p2 : Option Addr} {n0 n1 n2 c0 c1 c2 : Nat} (hb0 : Below w.heap.size w W0) (hB : Blk W0 w.heap.size 25 [x0, x1, x2]) (hx : ∀ x ∈ [x0, x1, x2], ∃ p n c, x = Value.slice p n c) (hb : Below W0.heap.size W0 w1)
  (hv : HistV w1 (.agg #[.slice p0 n0 c0, .slice p1 n1 c1, .slice p2 n2 c2]) h) (ha : HistA w1 (.agg #[.slice p0 n0 c0, .slice p1 n1 c1, .slice p2 n2 c2]) h) :
  Blk (((w1.setCell ⟨w.heap.size, 0, none⟩ (.slice p0 n0 c0)).setCell ⟨w.heap.size, 1, none⟩ (.slice p1 n1 c1)).setCell ⟨w.heap.size, 2, none⟩ (.slice p2 n2 c2)) w.heap.size 25 [.slice p0 n0 c0, .slice p1 n1 c1, .slice p2 n2 c2] ∧
  HistV (((w1.setCell ⟨w.heap.size, 0, none⟩ (.slice p0 n0 c0)).setCell ⟨w.heap.size, 1, none⟩ (.slice p1 n1 c1)).setCell ⟨w.heap.size, 2, none⟩ (.slice p2 n2 c2)) (.agg #[.slice p0 n0 c0, .slice p1 n1 c1, .slice p2 n2 c2]) h ∧
  HistA (((w1.setCell ⟨w.heap.size, 0, none⟩ (.slice p0 n0 c0)).setCell ⟨w.heap.size, 1, none⟩ (.slice p1 n1 c1)).setCell ⟨w.heap.size, 2, none⟩ (.slice p2 n2 c2)) (.agg #[.slice p0 n0 c0, .slice p1 n1 c1, .slice p2 n2 c2]) h ∧
  Below w.heap.size w (((w1.setCell ⟨w.heap.size, 0, none⟩ (.slice p0 n0 c0)).setCell ⟨w.heap.size, 1, none⟩ (.slice p1 n1 c1)).setCell ⟨w.heap.size, 2, none⟩ (.slice p2 n2 c2)) := by
 have s0 : SlBox w1 w.heap.size 25 [x0, x1, x2] := ⟨hB.later hb, hx⟩
 have s1 := s0.set 0 p0 n0 c0
 have s2 := s1.set 1 p1 n1 c1
 have s3 := s2.set 2 p2 n2 c2
 refine ⟨s3.1, histV_box s2 2 _ (histV_box s1 1 _ (histV_box s0 0 _ hv)), histA_box s2 2 _ (histA_box s1 1 _ (histA_box s0 0 _ ha)), ?_⟩
 exact (((below_next hb0 hb).setCell (by show w.heap.size ≤ w.heap.size; omega) _).setCell (by show w.heap.size ≤ w.heap.size; omega) _).setCell (by show w.heap.size ≤ w.heap.size; omega) _
end
section
open Go.RowKit Go.Lib
theorem few_v {w : World} {v : Value} {h : HistM} (hv : HistA w v (fewH h)) : Calls Tryz.prog 20 #[v] w fun e w' => ∃ v', e = .returned v' ∧ HistV w' v' (fewH h) ∧ HistA w' v' (fewH h) ∧ Below w.heap.size w w' := by
 have h1 := few11_any w v (fewH h) hv
 rw [fewH_few] at h1
 exact h1
theorem sameints_eq {w : World} {v v' : Value} {L : List Int} (hv : IntsS w v L) (hv' : IntsS w v' L) (hL : L.length ≤ 1000) : Calls Tryz.prog 31 #[v, v'] w fun e w' => e = .returned (.bool true) ∧ Below w.heap.size w w' := by
 have h := sameints_any w v v' L L hv hv' (by omega)
 rw [beq_self_eq_true] at h
 exact h
theorem whereL_len (p : TxnM → Bool) (h : HistM) (hm : Modst h) : (whereL p h).length ≤ 1000 := by
 unfold whereL
 split
 ·exact Nat.le_trans (idxs_len _ _ _) hm.2.2.1
 ·exact Nat.zero_le _
end
end Go.Proofs.YtmgchjddpmmglaaGreatDoor
