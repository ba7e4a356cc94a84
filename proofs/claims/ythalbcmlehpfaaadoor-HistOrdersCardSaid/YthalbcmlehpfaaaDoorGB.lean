/-
  A history in memory beside a box of slices: stores into the box leave it as it was. No conditions.
  Layer 11 (hist): are two histories the same: the reference's whole way; wrappers for histories by value. No conditions but unicode/utf8's tables.
  The statement HistMays of layer 11 (hist), walked. No conditions but that unicode/utf8's two tables are as their initialisers lay them.
  A region that draws its order, some of whose operations wait for all that read: one condition on the world serves till those. No conditions.
  The statement HistOrders of layer 11 (hist), walked. No conditions but that unicode/utf8's two tables are as their initialisers lay them.
-/
import Derived.Test.YthalbcmlehpfaaaDoorGA
import Derived.Test.YthalbcmlehpfaaaDoorHFew
import Derived.Test.YthalbcmlehpfaaaDoorRowKit
import Derived.Test.YthalbcmlehpfaaaDoorBase
import Derived.OrdersHeld
namespace Go.Proofs.YthalbcmlehpfaaaDoor
open Go.RowKit Go.Lib

/-- A box that holds slices alone. -/
def SlBox (w : World) (B : Nat) (t : TypeId) (cs : List Value) : Prop := Blk w B t cs ∧ ∀ x ∈ cs, ∃ p n c, x = .slice p n c
theorem SlBox.ne {w : World} {B : Nat} {t : TypeId} {cs : List Value} (h : SlBox w B t cs) {a : Addr} {v : Value} (ha : w.cell? a = some v) (hv : ∀ p n c, v ≠ .slice p n c) : a.block ≠ B := by
  intro e
  obtain ⟨b, o, s⟩ := a
  simp only at e
  subst e
  have hs : s = none := by
    cases s with
    | none => rfl
    | some q =>
      exfalso
      have hb : w.heap[b]? = some (.cells cs.toArray t (0, 0)) := h.1
      simp [World.cell?, hb] at ha
  subst hs
  have hb : w.heap[b]? = some (.cells cs.toArray t (0, 0)) := h.1
  rw [cell_of_row w b o cs.toArray t (0, 0) hb] at ha
  have hm : v ∈ cs := by
    have : cs[o]? = some v := by simpa using ha
    exact List.mem_of_getElem? this
  obtain ⟨p, n, c, e⟩ := h.2 v hm
  exact hv p n c e
theorem cell_set_far {w : World} {B i : Nat} {u v : Value} {a : Addr} (h : w.cell? a = some v) (hne : a.block ≠ B) : (w.setCell ⟨B, i, none⟩ u).cell? a = some v := by
  rw [World.cell?_setCell_far _ _ _ _ (fun e => hne e.symm)]; exact h
theorem SlBox.set {w : World} {B : Nat} {t : TypeId} {cs : List Value} (h : SlBox w B t cs) (i : Nat) (p : Option Addr) (n c : Nat) : SlBox (w.setCell ⟨B, i, none⟩ (.slice p n c)) B t (cs.set i (.slice p n c)) :=
  ⟨h.1.set i _, fun x hx => by
    rcases List.mem_or_eq_of_mem_set hx with h' | h'
    · exact h.2 x h'
    · exact ⟨p, n, c, h'⟩⟩
section
variable {w : World} {B : Nat} {t : TypeId} {cs : List Value} (hB : SlBox w B t cs) (i : Nat) (u : Value)
include hB
theorem texts_box {v : Value} {L : List (List UInt8)} (h : Texts w v L) : Texts (w.setCell ⟨B, i, none⟩ u) v L := by
  obtain ⟨p, c, rfl, hp⟩ := h
  refine ⟨p, c, rfl, fun j hj => ?_⟩
  obtain ⟨g, rfl, hc⟩ := hp j hj
  exact ⟨g, rfl, cell_set_far hc (hB.ne hc (by intros; simp))⟩
theorem opsS_box {v : Value} {L : List OpM} (h : OpsS w v L) : OpsS (w.setCell ⟨B, i, none⟩ u) v L := by
  obtain ⟨p, c, rfl, hp⟩ := h
  refine ⟨p, c, rfl, fun j hj => ?_⟩
  obtain ⟨g, rfl, h0, h1, h2, h3⟩ := hp j hj
  have hne : g ≠ B := hB.ne h0 (by intros; simp)
  exact ⟨g, rfl, cell_set_far h0 hne, cell_set_far h1 hne, cell_set_far h2 hne, cell_set_far h3 hne⟩
theorem txnsS_box {v : Value} {L : List TxnM} (h : TxnsS w v L) : TxnsS (w.setCell ⟨B, i, none⟩ u) v L := by
  obtain ⟨p, c, rfl, hp⟩ := h
  refine ⟨p, c, rfl, fun j hj => ?_⟩
  obtain ⟨g, sv, rfl, h0, h1, h2, h3⟩ := hp j hj
  have hne : g ≠ B := hB.ne h0 (by intros; simp)
  exact ⟨g, sv, rfl, cell_set_far h0 hne, cell_set_far h1 hne, cell_set_far h2 hne, opsS_box hB i u h3⟩
theorem histV_box {v : Value} {h : HistM} (hv : HistV w v h) : HistV (w.setCell ⟨B, i, none⟩ u) v h := by
  obtain ⟨v0, v1, v2, e, h0, h1, h2⟩ := hv
  exact ⟨v0, v1, v2, e, texts_box hB i u h0, texts_box hB i u h1, txnsS_box hB i u h2⟩
theorem slR_box {α : Type} {size : Nat} {R : World → List Value → α → Prop} (hs : 0 < size) (hR : ∀ cs m, R w cs m → R (w.setCell ⟨B, i, none⟩ u) cs m) (hf : ∀ cs m, R w cs m → ∀ x, cs[0]? = some x → ∀ p n c, x ≠ .slice p n c) {v : Value} {L : List α} (h : SlR size R w v L) : SlR size R (w.setCell ⟨B, i, none⟩ u) v L := by
  obtain ⟨p, cap, hv, hl, hm, hc⟩ := h
  refine ⟨p, cap, hv, hl, hm, fun j hj => ?_⟩
  obtain ⟨a, ds, hp, hs', h1, h2⟩ := hc j hj
  obtain ⟨x, hx⟩ : ∃ x, ds[0]? = some x := ⟨ds[0]'(by omega), by simp⟩
  have hc0 := h1 0 x hx
  have hne : (a.add (j * size + 0)).block ≠ B := hB.ne hc0 (hf _ _ h2 x hx)
  have hne' : a.block ≠ B := by
    intro e
    apply hne
    unfold Addr.add
    split <;> exact e
  refine ⟨a, ds, hp, hs', fun q y hy => cell_set_far (h1 q y hy) ?_, hR _ _ h2⟩
  unfold Addr.add
  split <;> exact hne'
theorem strsA_box {v : Value} {L : List (List UInt8)} (h : StrsA w v L) : StrsA (w.setCell ⟨B, i, none⟩ u) v L :=
  slR_box hB i u (by omega) (fun _ _ h => h) (fun cs m h x hx p n c => by obtain ⟨rfl, -⟩ := h; simp at hx; subst hx; simp) h
theorem opsA_box {v : Value} {L : List OpM} (h : OpsA w v L) : OpsA (w.setCell ⟨B, i, none⟩ u) v L :=
  slR_box hB i u (by omega) (fun _ _ h => h) (fun cs m h x hx p n c => by unfold OpR at h; subst h; simp [opCells] at hx; subst hx; simp) h
theorem txnsA_box {v : Value} {L : List TxnM} (h : TxnsA w v L) : TxnsA (w.setCell ⟨B, i, none⟩ u) v L :=
  slR_box hB i u (by omega) (fun _ _ ⟨sv, e, h⟩ => ⟨sv, e, opsA_box hB i u h⟩) (fun cs m h x hx p n c => by obtain ⟨sv, rfl, -⟩ := h; simp at hx; subst hx; simp) h
theorem histA_box {v : Value} {h : HistM} (hv : HistA w v h) : HistA (w.setCell ⟨B, i, none⟩ u) v h := by
  obtain ⟨v0, v1, v2, e, h0, h1, h2⟩ := hv
  exact ⟨v0, v1, v2, e, strsA_box hB i u h0, strsA_box hB i u h1, txnsA_box hB i u h2⟩
end
theorem few_modst (h : HistM) : Modst (fewH h) := by
  refine ⟨Nat.le_trans (cutS_le _ _) (by omega), Nat.le_trans (cutS_le _ _) (by omega), ?_, ?_, ?_, ?_⟩
  · simp [fewH]; omega
  · intro x hx; have := cutS_short _ _ x hx; omega
  · intro x hx; have := cutS_short _ _ x hx; omega
  · intro t ht
    obtain ⟨t', -, rfl⟩ := List.mem_map.1 ht
    simp [cutTxn]; omega
/-- What stands behind 'h = Few(h)': the box holds the cut history. -/
theorem few_stored {w w1 : World} {W0 : World} {x0 x1 x2 : Value} {h : HistM} {p0 p1 p2 : Option Addr} {n0 n1 n2 c0 c1 c2 : Nat} (hb0 : Below w.heap.size w W0) (hB : Blk W0 w.heap.size 25 [x0, x1, x2]) (hx : ∀ x ∈ [x0, x1, x2], ∃ p n c, x = Value.slice p n c) (hb : Below W0.heap.size W0 w1)
    (hv : HistV w1 (.agg #[.slice p0 n0 c0, .slice p1 n1 c1, .slice p2 n2 c2]) h) (ha : HistA w1 (.agg #[.slice p0 n0 c0, .slice p1 n1 c1, .slice p2 n2 c2]) h) :
    Blk (((w1.setCell ⟨w.heap.size, 0, none⟩ (.slice p0 n0 c0)).setCell ⟨w.heap.size, 1, none⟩ (.slice p1 n1 c1)).setCell ⟨w.heap.size, 2, none⟩ (.slice p2 n2 c2)) w.heap.size 25 [.slice p0 n0 c0, .slice p1 n1 c1, .slice p2 n2 c2] ∧
    HistV (((w1.setCell ⟨w.heap.size, 0, none⟩ (.slice p0 n0 c0)).setCell ⟨w.heap.size, 1, none⟩ (.slice p1 n1 c1)).setCell ⟨w.heap.size, 2, none⟩ (.slice p2 n2 c2)) (.agg #[.slice p0 n0 c0, .slice p1 n1 c1, .slice p2 n2 c2]) h ∧
    HistA (((w1.setCell ⟨w.heap.size, 0, none⟩ (.slice p0 n0 c0)).setCell ⟨w.heap.size, 1, none⟩ (.slice p1 n1 c1)).setCell ⟨w.heap.size, 2, none⟩ (.slice p2 n2 c2)) (.agg #[.slice p0 n0 c0, .slice p1 n1 c1, .slice p2 n2 c2]) h ∧
    Below w.heap.size w (((w1.setCell ⟨w.heap.size, 0, none⟩ (.slice p0 n0 c0)).setCell ⟨w.heap.size, 1, none⟩ (.slice p1 n1 c1)).setCell ⟨w.heap.size, 2, none⟩ (.slice p2 n2 c2)) := by
  have s0 : SlBox w1 w.heap.size 25 [x0, x1, x2] := ⟨hB.later hb, hx⟩
  have s1 := s0.set 0 p0 n0 c0
  have s2 := s1.set 1 p1 n1 c1
  have s3 := s2.set 2 p2 n2 c2
  refine ⟨s3.1, histV_box s2 2 _ (histV_box s1 1 _ (histV_box s0 0 _ hv)), histA_box s2 2 _ (histA_box s1 1 _ (histA_box s0 0 _ ha)), ?_⟩
  exact (((below_next hb0 hb).setCell (by show w.heap.size ≤ w.heap.size; omega) _).setCell (by show w.heap.size ≤ w.heap.size; omega) _).setCell (by show w.heap.size ≤ w.heap.size; omega) _
end Go.Proofs.YthalbcmlehpfaaaDoor

namespace Go.Proofs.YthalbcmlehpfaaaDoor
open Go.RowKit Go.Lib

set_option maxRecDepth 100000 in
set_option maxHeartbeats 4000000 in
theorem rsame11_any (va0 va1 va2 vb0 vb1 vb2 : Value) (ha hb : HistM) (w : World) (a0 : Texts w va0 ha.1) (a1 : Texts w va1 ha.2.1) (a2 : TxnsS w va2 ha.2.2) (ma : Modst ha) (b0 : Texts w vb0 hb.1) (b1 : Texts w vb1 hb.2.1) (b2 : TxnsS w vb2 hb.2.2) (mb : Modst hb) :
    Calls Tryd.prog 25 #[.agg #[va0, va1, va2], .agg #[vb0, vb1, vb2]] w fun e w' => e = .returned (.bool (sameH ha hb)) ∧ Below w.heap.size w w' := by
  have HMa := Lib.hid (fun w' (h : Below w.heap.size w w') => (rmay_any va0 va1 va2 ha w' (a0.below h) (a1.below h) (a2.below h) ma))
  have HMb := Lib.hid (fun w' (h : Below w.heap.size w w') => (rmay_any vb0 vb1 vb2 hb w' (b0.below h) (b1.below h) (b2.below h) mb))
  have HE := Lib.hid (fun w' (h : Below w.heap.size w w') => (rsame10_any va0 va1 va2 vb0 vb1 vb2 ha hb w' (a0.below h) (a1.below h) (a2.below h) ma (b0.below h) (b1.below h) (b2.below h) mb))
  obtain ⟨p0, c0, rfl, -⟩ := a0
  obtain ⟨p1, c1, rfl, -⟩ := a1
  obtain ⟨p2, c2, rfl, -⟩ := a2
  obtain ⟨q0, d0, rfl, -⟩ := b0
  obtain ⟨q1, d1, rfl, -⟩ := b1
  obtain ⟨q2, d2, rfl, -⟩ := b2
  have HS : RowKit.Hid (sameH ha hb = (mayH ha && (mayH hb && eqH ha hb))) := Lib.hid rfl
  generalize sameH ha hb = R at *
  generalize eqH ha hb = e0 at *
  go_enter Tryd.func25, Tryd.ntmps25
  cases hmm : mayH ha with
  | false =>
    have HER := err_no hmm
    rw [HER] at HMa
    rw [hmm] at HS
    clear HER hmm
    have HR : RowKit.Hid (R = false) := Lib.hid HS.out
    clear HS
    go_wp2_with (fail)
    refine (HMa.out _ (by (repeat' (first | (with_reducible exact Below.refl _ _) | (with_reducible assumption) | (refine below_next ?_ (by with_reducible assumption)) | (with_reducible refine Below.alloc ?_ ?_ _) | (with_reducible refine Below.drew ?_) | (with_reducible refine below_drewN ?_ _) | omega | (simp; done) | (simp; omega))))).mono ?_
    rintro e w3 ⟨rfl, hb3⟩
    obtain ⟨hc3, hf3⟩ := bcell hb3
    have hz3 := hb3.size
    try simp at hz3
    have g3 : w.heap.size < w3.heap.size := by omega
    have k3 : w.heap.size + 1 < w3.heap.size := by omega
    go_wp2_with fail
    go_ret
    exact ⟨by rw [HR.out]; rfl, by (repeat' (first | (with_reducible exact Below.refl _ _) | (with_reducible assumption) | (refine below_next ?_ (by with_reducible assumption)) | (with_reducible refine Below.alloc ?_ ?_ _) | (with_reducible refine Below.drew ?_) | (with_reducible refine below_drewN ?_ _) | omega | (simp; done) | (simp; omega)))⟩
  | true =>
    have HER := err_yes hmm
    rw [HER] at HMa
    rw [hmm] at HS
    clear HER hmm
    cases hmm : mayH hb with
    | false =>
      have HER := err_no hmm
      rw [HER] at HMb
      rw [hmm] at HS
      clear HER hmm
      have HR : RowKit.Hid (R = false) := Lib.hid HS.out
      clear HS
      go_wp2_with (fail)
      refine (HMa.out _ (by (repeat' (first | (with_reducible exact Below.refl _ _) | (with_reducible assumption) | (refine below_next ?_ (by with_reducible assumption)) | (with_reducible refine Below.alloc ?_ ?_ _) | (with_reducible refine Below.drew ?_) | (with_reducible refine below_drewN ?_ _) | omega | (simp; done) | (simp; omega))))).mono ?_
      rintro e w3 ⟨rfl, hb3⟩
      obtain ⟨hc3, hf3⟩ := bcell hb3
      have hz3 := hb3.size
      try simp at hz3
      have g3 : w.heap.size < w3.heap.size := by omega
      have k3 : w.heap.size + 1 < w3.heap.size := by omega
      go_wp2_with (fail)
      refine (HMb.out _ (by (repeat' (first | (with_reducible exact Below.refl _ _) | (with_reducible assumption) | (refine below_next ?_ (by with_reducible assumption)) | (with_reducible refine Below.alloc ?_ ?_ _) | (with_reducible refine Below.drew ?_) | (with_reducible refine below_drewN ?_ _) | omega | (simp; done) | (simp; omega))))).mono ?_
      rintro e w4 ⟨rfl, hb4⟩
      obtain ⟨hc4, hf4⟩ := bcell hb4
      have hz4 := hb4.size
      try simp at hz4
      have g4 : w.heap.size < w4.heap.size := by omega
      have k4 : w.heap.size + 1 < w4.heap.size := by omega
      go_wp2_with fail
      go_ret
      exact ⟨by rw [HR.out]; rfl, by (repeat' (first | (with_reducible exact Below.refl _ _) | (with_reducible assumption) | (refine below_next ?_ (by with_reducible assumption)) | (with_reducible refine Below.alloc ?_ ?_ _) | (with_reducible refine Below.drew ?_) | (with_reducible refine below_drewN ?_ _) | omega | (simp; done) | (simp; omega)))⟩
    | true =>
      have HER := err_yes hmm
      rw [HER] at HMb
      rw [hmm] at HS
      clear HER hmm
      have HR : RowKit.Hid (R = e0) := Lib.hid HS.out
      clear HS
      go_wp2_with (fail)
      refine (HMa.out _ (by (repeat' (first | (with_reducible exact Below.refl _ _) | (with_reducible assumption) | (refine below_next ?_ (by with_reducible assumption)) | (with_reducible refine Below.alloc ?_ ?_ _) | (with_reducible refine Below.drew ?_) | (with_reducible refine below_drewN ?_ _) | omega | (simp; done) | (simp; omega))))).mono ?_
      rintro e w3 ⟨rfl, hb3⟩
      obtain ⟨hc3, hf3⟩ := bcell hb3
      have hz3 := hb3.size
      try simp at hz3
      have g3 : w.heap.size < w3.heap.size := by omega
      have k3 : w.heap.size + 1 < w3.heap.size := by omega
      go_wp2_with (fail)
      refine (HMb.out _ (by (repeat' (first | (with_reducible exact Below.refl _ _) | (with_reducible assumption) | (refine below_next ?_ (by with_reducible assumption)) | (with_reducible refine Below.alloc ?_ ?_ _) | (with_reducible refine Below.drew ?_) | (with_reducible refine below_drewN ?_ _) | omega | (simp; done) | (simp; omega))))).mono ?_
      rintro e w4 ⟨rfl, hb4⟩
      obtain ⟨hc4, hf4⟩ := bcell hb4
      have hz4 := hb4.size
      try simp at hz4
      have g4 : w.heap.size < w4.heap.size := by omega
      have k4 : w.heap.size + 1 < w4.heap.size := by omega
      go_wp2_with (fail)
      refine (HE.out _ (by (repeat' (first | (with_reducible exact Below.refl _ _) | (with_reducible assumption) | (refine below_next ?_ (by with_reducible assumption)) | (with_reducible refine Below.alloc ?_ ?_ _) | (with_reducible refine Below.drew ?_) | (with_reducible refine below_drewN ?_ _) | omega | (simp; done) | (simp; omega))))).mono ?_
      rintro e w5 ⟨rfl, hb5⟩
      obtain ⟨hc5, hf5⟩ := bcell hb5
      have hz5 := hb5.size
      try simp at hz5
      have g5 : w.heap.size < w5.heap.size := by omega
      have k5 : w.heap.size + 1 < w5.heap.size := by omega
      go_wp2_with fail
      go_ret
      exact ⟨by rw [HR.out]; rfl, by (repeat' (first | (with_reducible exact Below.refl _ _) | (with_reducible assumption) | (refine below_next ?_ (by with_reducible assumption)) | (with_reducible refine Below.alloc ?_ ?_ _) | (with_reducible refine Below.drew ?_) | (with_reducible refine below_drewN ?_ _) | omega | (simp; done) | (simp; omega)))⟩

theorem same_v {w : World} {v v' : Value} {g h : HistM} (hv : HistV w v g) (hv' : HistV w v' h) (hm : Modst g) (hm' : Modst h) (hT : Lib.Utf8Tabs 0 1 w) : Calls Tryd.prog 24 #[v, v'] w fun e w' => e = .returned (.bool (sameH g h)) ∧ Below w.heap.size w w' := by
  obtain ⟨v0, v1, v2, rfl, h0, h1, h2⟩ := hv
  obtain ⟨u0, u1, u2, rfl, k0, k1, k2⟩ := hv'
  exact hsame_any _ _ _ _ _ _ g h w h0 h1 h2 hm k0 k1 k2 hm' hT
theorem rsame_v {w : World} {v v' : Value} {g h : HistM} (hv : HistV w v g) (hv' : HistV w v' h) (hm : Modst g) (hm' : Modst h) : Calls Tryd.prog 25 #[v, v'] w fun e w' => e = .returned (.bool (sameH g h)) ∧ Below w.heap.size w w' := by
  obtain ⟨v0, v1, v2, rfl, h0, h1, h2⟩ := hv
  obtain ⟨u0, u1, u2, rfl, k0, k1, k2⟩ := hv'
  exact rsame11_any _ _ _ _ _ _ g h w h0 h1 h2 hm k0 k1 k2 hm'
end Go.Proofs.YthalbcmlehpfaaaDoor

namespace Go.Proofs.YthalbcmlehpfaaaDoor
open Go.RowKit Go.Lib

theorem few_v {w : World} {v : Value} {h : HistM} (hv : HistA w v (fewH h)) : Calls Tryd.prog 10 #[v] w fun e w' => ∃ v', e = .returned v' ∧ HistV w' v' (fewH h) ∧ HistA w' v' (fewH h) ∧ Below w.heap.size w w' := by
  have h1 := few11_any w v (fewH h) hv
  rw [fewH_few] at h1
  exact h1

theorem sameints_eq {w : World} {v v' : Value} {L : List Int} (hv : IntsS w v L) (hv' : IntsS w v' L) (hL : L.length ≤ 1000) : Calls Tryd.prog 14 #[v, v'] w fun e w' => e = .returned (.bool true) ∧ Below w.heap.size w w' := by
  have h := sameints_any w v v' L L hv hv' (by omega)
  rw [beq_self_eq_true] at h
  exact h
theorem whereL_len (p : TxnM → Bool) (h : HistM) (hm : Modst h) : (whereL p h).length ≤ 1000 := by
  unfold whereL
  split
  · exact Nat.le_trans (idxs_len _ _ _) hm.2.2.1
  · exact Nat.zero_le _
theorem ints_empty (w : World) (a : Addr) (c : Nat) : IntsS w (.slice (some a) 0 c) [] := ⟨_, c, rfl, fun j hj => absurd hj (Nat.not_lt_zero j)⟩
set_option maxRecDepth 100000 in
set_option maxHeartbeats 4000000 in
theorem histmays_any (v : Value) (hM : HistM) (s : Int) (w : World) (hv : HistA w v hM) (hT : Lib.Utf8Tabs 0 1 w) :
    Calls Tryd.prog 4 #[v, .int .i64 s] w fun e w' => e = .returned (.bool true) ∧ Below w.heap.size w w' := by
  have b0 : ∀ x0 x1 x2, Blk (w.alloc (.cells #[x0, x1, x2] 25)) w.heap.size 25 [x0, x1, x2] := fun x0 x1 x2 => Blk.new w _ [x0, x1, x2]
  have hb0 : ∀ o, Below w.heap.size w (w.alloc o) := fun o => (Below.refl _ w).alloc (Nat.le_refl _) o
  have HA0 := Lib.hid hv
  obtain ⟨v0, v1, v2, rfl, ⟨p0, c0, rfl, -⟩, ⟨p1, c1, rfl, -⟩, ⟨p2, c2, rfl, -⟩⟩ := hv
  have HF0 := Lib.hid (few11_any _ _ hM (HA0.out.below (hb0 (.cells #[.slice p0 hM.1.length c0, .slice p1 hM.2.1.length c1, .slice p2 hM.2.2.length c2] 25))))
  have HB0 := Lib.hid hb0
  have B0 := Lib.hid (b0 (.slice p0 hM.1.length c0) (.slice p1 hM.2.1.length c1) (.slice p2 hM.2.2.length c2))
  have y0 := B0.out.cell 0 rfl
  have y1 := B0.out.cell 1 rfl
  have y2 := B0.out.cell 2 rfl
  have HT := Lib.hid hT
  have HMo := Lib.hid (few_modst hM)
  clear b0 hb0 hT
  go_enter Tryd.func4, Tryd.ntmps4
  go_wp2_with fail
  refine HF0.out.mono ?_
  rintro e w1 ⟨v', rfl, hv', ha', hb1⟩
  have HV1 := Lib.hid hv'
  have HA1 := Lib.hid ha'
  obtain ⟨u0, u1, u2, rfl, ⟨q0, d0, rfl, -⟩, ⟨q1, d1, rfl, -⟩, ⟨q2, d2, rfl, -⟩⟩ := hv'
  have z := B0.out.later hb1
  have z0 := z.cell 0 rfl
  have z1 := z.cell 1 rfl
  have z2 := z.cell 2 rfl
  have z3 := z.frozen 0
  have z4 := z.frozen 1
  have z5 := z.frozen 2
  have ST := Lib.hid (few_stored (HB0.out _) B0.out (by intro x hx; simp at hx; rcases hx with rfl | rfl | rfl <;> exact ⟨_, _, _, rfl⟩) hb1 HV1.out HA1.out)
  clear ha' hb1 z y0 y1 y2 HF0 HV1 HA1
  go_upto_region 2 with fail
  generalize (((w1.setCell ⟨w.heap.size, 0, none⟩ (.slice q0 (fewH hM).1.length d0)).setCell ⟨w.heap.size, 1, none⟩ (.slice q1 (fewH hM).2.1.length d1)).setCell ⟨w.heap.size, 2, none⟩ (.slice q2 (fewH hM).2.2.length d2)) = W2 at *
  obtain ⟨k0, HVx, HAx, hbW⟩ := ST.out
  have KB := Lib.hid k0
  have HV2 := Lib.hid HVx
  have HA2 := Lib.hid HAx
  have HBW := Lib.hid hbW
  have o0 := k0.cell 0 rfl
  have o1 := k0.cell 1 rfl
  have o2 := k0.cell 2 rfl
  have hl0 : w.heap.size < W2.heap.size := k0.lt
  have hl1 : w.heap.size < W2.heap.size + 1 := by omega
  have hl2 : w.heap.size < W2.heap.size + 1 + 1 := by omega
  clear ST k0 HVx HAx hbW z0 z1 z2 z3 z4 z5
  have HFF := Lib.hid (fun w' v (ha : HistA w' v (fewH hM)) => few_v ha)
  generalize fewH hM = hF at *
  have HLen := Lib.hid (whereL_len (sessP s) hF HMo.out)
  go_wp2_with fail
  refine (rmay_v (HV2.out.below ((Below.refl _ _).alloc (Nat.le_refl _) _)) HMo.out).mono ?_
  rintro e w3 ⟨rfl, hb3⟩
  have hb23 := below_next ((Below.refl W2.heap.size W2).alloc (Nat.le_refl _) (.cells #[] 3)) hb3
  have k3 := KB.out.later hb23
  have r0 := k3.cell 0 rfl
  have r1 := k3.cell 1 rfl
  have r2 := k3.cell 2 rfl
  cases hmm : mayH hF with
  | false =>
    have HE := Lib.hid (err_no hmm)
    have HWant : RowKit.Hid (∀ w', Below w3.heap.size w3 w' → IntsS w' (.slice (some ⟨W2.heap.size, 0, none⟩) 0 0) (whereL (sessP s) hF)) := Lib.hid (fun w' _ => by rw [whereL_no _ hmm]; exact ints_empty _ _ _)
    clear hmm k3 hb3
    rw [HE.out]
    have HBB := Lib.hid (hb23)
    have HS : RowKit.Hid (∀ w', Below w3.heap.size w3 w' → (w'.cell? ⟨w.heap.size, 0, none⟩ = some (.slice q0 hF.1.length d0) ∧ w'.cell? ⟨w.heap.size, 1, none⟩ = some (.slice q1 hF.2.1.length d1) ∧ w'.cell? ⟨w.heap.size, 2, none⟩ = some (.slice q2 hF.2.2.length d2) ∧ Below w3.heap.size w3 w')) := Lib.hid (fun w' hb => ⟨(KB.out.later (below_next HBB.out hb)).cell 0 rfl, (KB.out.later (below_next HBB.out hb)).cell 1 rfl, (KB.out.later (below_next HBB.out hb)).cell 2 rfl, hb⟩)
    have HAb := Lib.hid (fun w' (hb : Below w3.heap.size w3 w') => HA2.out.below (below_next HBB.out hb))
    have HVb := Lib.hid (fun w' (hb : Below w3.heap.size w3 w') => HV2.out.below (below_next HBB.out hb))
    have HTb := Lib.hid (fun w' (hb : Below w3.heap.size w3 w') => Utf8Tabs_below HT.out (HBW.out.trans ((below_next HBB.out hb).mono HBW.out.size)))
    have HFin := Lib.hid (fun w' (hb : Below w3.heap.size w3 w') => HBW.out.trans ((below_next HBB.out hb).mono HBW.out.size))
    clear HV2 HA2 KB o0 o1 o2 hl0 hl1 hl2
    go_wp2_with fail
    go_region_held3 (fun w' => w'.cell? ⟨w.heap.size, 0, none⟩ = some (.slice q0 hF.1.length d0) ∧ w'.cell? ⟨w.heap.size, 1, none⟩ = some (.slice q1 hF.2.1.length d1) ∧ w'.cell? ⟨w.heap.size, 2, none⟩ = some (.slice q2 hF.2.2.length d2) ∧ Below w3.heap.size w3 w')
      ((go_split_ands; exact HS.out _ (by first | assumption | exact Below.drew (Below.refl _ _) | exact below_next (by assumption) (by assumption) | exact below_next (Below.drew (by assumption)) (by assumption))))
      ((go_split_ands; first
        | (go_at_call 10; refine (HFF.out _ _ (HAb.out _ (by assumption))).mono ?_; rintro e wq ⟨vq, rfl, hq1, hq2, hbq⟩)
        | (go_at_call 20; refine (hmay_v (by assumption) HMo.out (HTb.out _ (by assumption))).mono ?_; rintro e wq ⟨rfl, hbq⟩)
        | (go_at_call 11; refine (rmay_v (HVb.out _ (by assumption)) HMo.out).mono ?_; rintro e wq ⟨rfl, hbq⟩)
        | (go_at_call 21; refine (session_v s (by assumption) HMo.out (HTb.out _ (by assumption))).mono ?_; rintro e wq ⟨vq, rfl, hqi, hbq⟩)
        | (go_at_call 14; refine (sameints_eq (by assumption) (HWant.out _ (by assumption)) HLen.out).mono ?_; rintro e wq ⟨rfl, hbq⟩)
        | (go_at_call 18; refine (works11_any _ (HTb.out _ (by assumption))).mono ?_; rintro e wq ⟨rfl, hbq⟩)))
    all_goals
      go_split_ands
      go_wp2_with fail
      go_ret
      exact ⟨rfl, HFin.out _ (by assumption)⟩
  | true =>
    have HE := Lib.hid (err_yes hmm)
    have HWe := Lib.hid (whereL_yes (sessP s) hmm)
    clear hmm k3 hb3
    rw [HE.out]
    go_wp2_with fail
    refine (rsession_v s (HV2.out.below hb23) HMo.out).mono ?_
    rintro e w4 ⟨vw, rfl, hi4, hb4⟩
    have hb24 := below_next hb23 hb4
    have HWant : RowKit.Hid (∀ w', Below w4.heap.size w4 w' → IntsS w' vw (whereL (sessP s) hF)) := Lib.hid (fun w' hb => by rw [HWe.out]; exact hi4.below hb)
    clear hb4 hi4 r0 r1 r2
    have HBB := Lib.hid (hb24)
    have HS : RowKit.Hid (∀ w', Below w4.heap.size w4 w' → (w'.cell? ⟨w.heap.size, 0, none⟩ = some (.slice q0 hF.1.length d0) ∧ w'.cell? ⟨w.heap.size, 1, none⟩ = some (.slice q1 hF.2.1.length d1) ∧ w'.cell? ⟨w.heap.size, 2, none⟩ = some (.slice q2 hF.2.2.length d2) ∧ Below w4.heap.size w4 w')) := Lib.hid (fun w' hb => ⟨(KB.out.later (below_next HBB.out hb)).cell 0 rfl, (KB.out.later (below_next HBB.out hb)).cell 1 rfl, (KB.out.later (below_next HBB.out hb)).cell 2 rfl, hb⟩)
    have HAb := Lib.hid (fun w' (hb : Below w4.heap.size w4 w') => HA2.out.below (below_next HBB.out hb))
    have HVb := Lib.hid (fun w' (hb : Below w4.heap.size w4 w') => HV2.out.below (below_next HBB.out hb))
    have HTb := Lib.hid (fun w' (hb : Below w4.heap.size w4 w') => Utf8Tabs_below HT.out (HBW.out.trans ((below_next HBB.out hb).mono HBW.out.size)))
    have HFin := Lib.hid (fun w' (hb : Below w4.heap.size w4 w') => HBW.out.trans ((below_next HBB.out hb).mono HBW.out.size))
    clear HV2 HA2 KB o0 o1 o2 hl0 hl1 hl2
    go_wp2_with fail
    go_region_held3 (fun w' => w'.cell? ⟨w.heap.size, 0, none⟩ = some (.slice q0 hF.1.length d0) ∧ w'.cell? ⟨w.heap.size, 1, none⟩ = some (.slice q1 hF.2.1.length d1) ∧ w'.cell? ⟨w.heap.size, 2, none⟩ = some (.slice q2 hF.2.2.length d2) ∧ Below w4.heap.size w4 w')
      ((go_split_ands; exact HS.out _ (by first | assumption | exact Below.drew (Below.refl _ _) | exact below_next (by assumption) (by assumption) | exact below_next (Below.drew (by assumption)) (by assumption))))
      ((go_split_ands; first
        | (go_at_call 10; refine (HFF.out _ _ (HAb.out _ (by assumption))).mono ?_; rintro e wq ⟨vq, rfl, hq1, hq2, hbq⟩)
        | (go_at_call 20; refine (hmay_v (by assumption) HMo.out (HTb.out _ (by assumption))).mono ?_; rintro e wq ⟨rfl, hbq⟩)
        | (go_at_call 11; refine (rmay_v (HVb.out _ (by assumption)) HMo.out).mono ?_; rintro e wq ⟨rfl, hbq⟩)
        | (go_at_call 21; refine (session_v s (by assumption) HMo.out (HTb.out _ (by assumption))).mono ?_; rintro e wq ⟨vq, rfl, hqi, hbq⟩)
        | (go_at_call 14; refine (sameints_eq (by assumption) (HWant.out _ (by assumption)) HLen.out).mono ?_; rintro e wq ⟨rfl, hbq⟩)
        | (go_at_call 18; refine (works11_any _ (HTb.out _ (by assumption))).mono ?_; rintro e wq ⟨rfl, hbq⟩)))
    all_goals
      go_split_ands
      go_wp2_with fail
      go_ret
      exact ⟨rfl, HFin.out _ (by assumption)⟩
end Go.Proofs.YthalbcmlehpfaaaDoor

namespace Go.Proofs.YthalbcmlehpfaaaDoor
open Go.RowKit

section
variable {P : Program} {ops : Array Oper} {Q : Exit → Act → World → Prop} {md : Region.Mode} {S : World → Prop} {late : List Nat}

/-- Whatever order is picked from here on, and S holds behind every operation but the late ones. -/
def wpAnyL (P : Program) (md : Region.Mode) (ops : Array Oper) (Q : Exit → Act → World → Prop) (S : World → Prop) (late : List Nat) : Nat → Array Bool → Act → World → Prop
  | 0, listed, a, w => Region.ready md ops listed = [] ∧ Q .normal a w
  | fuel + 1, listed, a, w =>
    (Region.ready md ops listed = [] → Q .normal a w) ∧
    ∀ i ∈ Region.ready md ops listed, wpOp P ops Q i (fun a' w' => (late.contains i = false → S w') ∧ wpAnyL P md ops Q S late fuel (listed.setIfInBounds i true) a' w') a w
theorem wpAny_of_late : ∀ (fuel : Nat) (listed : Array Bool) (a : Act) (w : World), wpAnyL P md ops Q S late fuel listed a w → wpAny P md ops Q fuel listed a w
  | 0, _, _, _, h => h
  | fuel + 1, _, _, _, h => ⟨h.1, fun i hi => wpOp_mono (fun a' w' h' => wpAny_of_late fuel _ a' w' h'.2) (h.2 i hi)⟩
/-- Does one operation wait for another one, in so many steps at most? -/
def waitsN (md : Region.Mode) (ops : Array Oper) : Nat → Nat → Nat → Bool
  | 0, _, _ => false
  | n + 1, l, i => match ops[l]? with
    | some o => o.after.any fun e => Region.binds md e && (e.on == i || waitsN md ops n e.on i)
    | none => false
/-- What came up had all that it waits for. -/
def closedB (md : Region.Mode) (ops : Array Oper) (listed : Array Bool) : Bool := (List.range ops.size).all fun j => !listed.getD j true || match ops[j]? with
  | some o => o.after.all fun e => !Region.binds md e || listed.getD e.on true
  | none => true
def Closed (md : Region.Mode) (ops : Array Oper) (listed : Array Bool) : Prop := ∀ j o, ops[j]? = some o → listed.getD j true = true → ∀ e ∈ o.after, Region.binds md e = true → listed.getD e.on true = true
theorem closed_of {listed : Array Bool} (h : closedB md ops listed = true) : Closed md ops listed := by
  intro j o ho hj e he hb
  have hlt : j < ops.size := (Array.getElem?_eq_some_iff.1 ho).1
  have h1 := List.all_eq_true.1 h j (List.mem_range.2 hlt)
  simp only [hj, Bool.not_true, Bool.false_or, ho] at h1
  have h2 := Array.all_eq_true_iff_forall_mem.1 h1 e he
  simpa [hb] using h2
theorem ready_on {listed : Array Bool} {j : Nat} {o : Oper} (hj : j ∈ Region.ready md ops listed) (ho : ops[j]? = some o) : ∀ e ∈ o.after, Region.binds md e = true → listed.getD e.on true = true := by
  intro e he hb
  obtain ⟨-, o', ho', hall⟩ := mem_ready.1 hj
  obtain rfl := Option.some.inj (ho.symm.trans ho')
  have h1 := hall e he hb
  rcases Nat.lt_or_ge e.on listed.size with h' | h'
  · simp [h'] at h1 ⊢; exact h1
  · simp [Array.getElem?_eq_none h'] at h1
theorem Closed.next {listed : Array Bool} (h : Closed md ops listed) {j : Nat} (hj : j ∈ Region.ready md ops listed) : Closed md ops (listed.setIfInBounds j true) := by
  have up : ∀ k, listed.getD k true = true → (listed.setIfInBounds j true).getD k true = true := by
    intro k hk
    by_cases hjk : j = k
    · subst hjk
      rcases Nat.lt_or_ge j listed.size with h' | h'
      · simp [h']
      · simp
    · rw [getD_set_ne true hjk]; exact hk
  intro k o ho hk e he hb
  apply up
  by_cases hjk : j = k
  · subst hjk
    exact ready_on hj ho e he hb
  · rw [getD_set_ne true hjk] at hk
    exact h k o ho hk e he hb
theorem waits_open {i : Nat} {listed : Array Bool} (hc : Closed md ops listed) (hi : listed.getD i true = false) : ∀ n l, waitsN md ops n l i = true → listed.getD l true = false ∧ l ∉ Region.ready md ops listed
  | 0, _, h => by cases h
  | n + 1, l, h => by
    unfold waitsN at h
    split at h
    · rename_i o ho
      obtain ⟨e, he, hb⟩ := Array.any_eq_true'.1 h
      simp only [Bool.and_eq_true, Bool.or_eq_true, beq_iff_eq] at hb
      have hne : listed.getD e.on true = false := by
        rcases hb.2 with h1 | h1
        · rw [h1]; exact hi
        · exact (waits_open hc hi n e.on h1).1
      constructor
      · cases hl : listed.getD l true with
        | false => rfl
        | true => rw [hc l o ho hl e he hb.1] at hne; cases hne
      · intro hr
        rw [ready_on hr ho e he hb.1] at hne
        cases hne
    · cases h
theorem wpAnyL_first {i n : Nat} {oi : Oper} {v : Value} (hi : ops[i]? = some oi) (hsel : ∀ (j : Nat) (o : Oper) cs b, ops[j]? = some o → o.op ≠ .select cs b)
    (hQ : ∀ c a w, Q (.panic c) (a.put oi.dst v) w → Q (.panic c) a w) (hw : late.all (fun l => waitsN md ops n l i) = true) :
    ∀ (fuel : Nat) (listed : Array Bool) (a : Act) (w : World), Closed md ops listed →
      (∀ j oj, ops[j]? = some oj → j ≠ i → listed.getD j true = false → (∀ e ∈ oj.after, Region.binds md e = true → e.on ≠ i) → oi.apart ops oj = true) →
      i ∈ Region.ready md ops listed → YieldsIf P ops S oi v a → S w →
      wpAnyL P md ops Q S late fuel (listed.setIfInBounds i true) (a.put oi.dst v) w → wpAnyL P md ops Q S late (fuel + 1) listed a w := by
  intro fuel
  induction fuel with
  | zero =>
    intro listed a w _ _ hr hy hS H
    refine ⟨fun h => (by rw [h] at hr; cases hr), fun j hj => ?_⟩
    by_cases hji : j = i
    · subst hji; exact hy.wpOp hi hS ⟨fun _ => hS, H⟩
    · have := ready_mono hj hji
      rw [H.1] at this
      cases this
  | succ fuel ih =>
    intro listed a w hcl hfree hr hy hS H
    refine ⟨fun h => (by rw [h] at hr; cases hr), fun j hj => ?_⟩
    by_cases hji : j = i
    · subst hji; exact hy.wpOp hi hS ⟨fun _ => hS, H⟩
    · have hjl : late.contains j = false := by
        cases hc : late.contains j with
        | false => rfl
        | true =>
          have hm : j ∈ late := by simpa using hc
          exact absurd hj (waits_open hcl (mem_ready.1 hr).1 n j (List.all_eq_true.1 hw j hm)).2
      have h1 := H.2 j (ready_mono hj hji)
      obtain ⟨hjun, oj, hoj, hall⟩ := mem_ready.1 hj
      have hnot : ∀ e ∈ oj.after, Region.binds md e = true → e.on ≠ i := fun e he hb heq => by
        have h1 := hall e he hb
        have h0 := (mem_ready.1 hr).1
        rw [heq] at h1
        rcases Nat.lt_or_ge i listed.size with h' | h'
        · simp [h'] at h0 h1; rw [h0] at h1; cases h1
        · simp [Array.getElem?_eq_none h'] at h1
      have h2 := wpOp_putIf hoj (hfree j oj hoj hji hjun hnot) (fun cs b => hsel i oi cs b hi) (fun cs b => hsel j oj cs b hoj) hQ hy h1
      have hfree' : ∀ k ok, ops[k]? = some ok → k ≠ i → (listed.setIfInBounds j true).getD k true = false →
          (∀ e ∈ ok.after, Region.binds md e = true → e.on ≠ i) → oi.apart ops ok = true := fun k ok hk hki hun hno => by
        refine hfree k ok hk hki ?_ hno
        by_cases hjk : j = k
        · subst hjk; exact hjun
        · rw [getD_set_ne true hjk] at hun; exact hun
      refine wpOp_mono (fun a' w' h3 => ⟨fun _ => h3.2.1 hjl, ih (listed.setIfInBounds j true) a' w' (hcl.next hj) hfree' (ready_mono hr (Ne.symm hji)) h3.1 (h3.2.1 hjl) ?_⟩) h2
      rw [Array.setIfInBounds_comm _ _ hji]
      exact h3.2.2
/-- Take number i first. -/
theorem wpAnyL_take (i n : Nat) {d : Tmp} {op : Op} {ty : TypeId} {pos : String} {aft : Array Edge} {gd : Option (Nat × Bool)} {v : Value} {fuel : Nat} {listed : Array Bool} {a : Act} {w : World} (hi : ops[i]? = some ⟨some d, op, ty, pos, aft, gd⟩)
    (hs : Region.noSelect ops = true) (hf : Region.free md ops listed i = true) (hr : (Region.ready md ops listed).contains i = true) (hw : late.all (fun l => waitsN md ops n l i) = true) (hcl : closedB md ops listed = true)
    (hQ : ∀ c a w, Q (.panic c) (a.put (some d) v) w → Q (.panic c) a w) (hy : YieldsIf P ops S ⟨some d, op, ty, pos, aft, gd⟩ v a) (hS : S w)
    (h : wpAnyL P md ops Q S late fuel (listed.setIfInBounds i true) (a.put (some d) v) w) : wpAnyL P md ops Q S late (fuel + 1) listed a w :=
  wpAnyL_first hi (Region.noSelect_spec hs) hQ hw fuel listed a w (closed_of hcl) (Region.free_spec hi hf) (by simpa using hr) hy hS h
/-- The one that comes up next. -/
theorem wpAnyL_one (i : Nat) {d : Option Tmp} {op : Op} {ty : TypeId} {pos : String} {aft : Array Edge} {gd : Option (Nat × Bool)} {fuel : Nat} {listed : Array Bool} {a : Act} {w : World} (ho : ops[i]? = some ⟨d, op, ty, pos, aft, gd⟩) (hr : Region.ready md ops listed = [i])
    (h : ∀ K : Act → World → Prop, RowKit.Hid (∀ a' w', (late.contains i = false → S w') → wpAnyL P md ops Q S late fuel (listed.setIfInBounds i true) a' w' → K a' w') → if Region.wanted ⟨d, op, ty, pos, aft, gd⟩ (yielded ops a.tmps) = true then Oper.wp P ⟨d, op, ty, pos, aft, gd⟩ a w K Q else K (a.put d undef) w) : wpAnyL P md ops Q S late (fuel + 1) listed a w := by
  refine ⟨fun h0 => (by rw [hr] at h0; cases h0), fun j hj => ?_⟩
  rw [hr] at hj
  obtain rfl : j = i := by simpa using hj
  exact wpOp_step ho (fun K hK => h K (Lib.hid (fun a' w' h1 h2 => hK a' w' ⟨h1, h2⟩)))
theorem wpAnyL_done {listed : Array Bool} {a : Act} {w : World} (hr : Region.ready md ops listed = []) (h : Q .normal a w) : ∀ fuel, wpAnyL P md ops Q S late fuel listed a w
  | 0 => ⟨hr, h⟩
  | _ + 1 => ⟨fun _ => h, by rw [hr]; simp⟩
theorem wp_region_late (S : World → Prop) (late : List Nat) {id : Nat} {a : Act} {w : World} (hm : P.follows .mixedOrders = true)
    (h : wpAnyL P .any ops Q S late ops.size (Array.replicate ops.size false) a w.drew) : (Code.region id ops true).wp P Q a w :=
  wp_region_any hm (wpAny_of_late _ _ _ _ h)
end
end Go.Proofs.YthalbcmlehpfaaaDoor

namespace Go.Proofs.YthalbcmlehpfaaaDoor
open Go.RowKit Go.Lib

/-- Two boxes of slices, and what two histories hold. -/
def TwoSt (w wr : World) (xs ys : List Value) (vg vh : Value) (g h : HistM) : Prop :=
  SlBox wr w.heap.size 25 xs ∧ SlBox wr (w.heap.size + 1) 25 ys ∧ HistV wr vg g ∧ HistA wr vg g ∧ HistV wr vh h ∧ HistA wr vh h ∧ Below w.heap.size w wr
theorem TwoSt.set0 {w wr : World} {xs ys : List Value} {vg vh : Value} {g h : HistM} (s : TwoSt w wr xs ys vg vh g h) (i : Nat) (p : Option Addr) (n c : Nat) : TwoSt w (wr.setCell ⟨w.heap.size, i, none⟩ (.slice p n c)) (xs.set i (.slice p n c)) ys vg vh g h := by
  obtain ⟨a, b, c1, c2, c3, c4, d⟩ := s
  exact ⟨a.set i p n c, ⟨b.1.far (by show w.heap.size + 1 ≠ w.heap.size; omega) _, b.2⟩, histV_box a i _ c1, histA_box a i _ c2, histV_box a i _ c3, histA_box a i _ c4, d.setCell (by show w.heap.size ≤ w.heap.size; omega) _⟩
theorem TwoSt.set1 {w wr : World} {xs ys : List Value} {vg vh : Value} {g h : HistM} (s : TwoSt w wr xs ys vg vh g h) (i : Nat) (p : Option Addr) (n c : Nat) : TwoSt w (wr.setCell ⟨w.heap.size + 1, i, none⟩ (.slice p n c)) xs (ys.set i (.slice p n c)) vg vh g h := by
  obtain ⟨a, b, c1, c2, c3, c4, d⟩ := s
  exact ⟨⟨a.1.far (by show w.heap.size ≠ w.heap.size + 1; omega) _, a.2⟩, b.set i p n c, histV_box b i _ c1, histA_box b i _ c2, histV_box b i _ c3, histA_box b i _ c4, d.setCell (by show w.heap.size ≤ w.heap.size + 1; omega) _⟩
theorem TwoSt.six {w wr : World} {x0 x1 x2 y0 y1 y2 : Value} {vg vh : Value} {g h : HistM} {q0 q1 q2 k0 k1 k2 : Option Addr} {a0 a1 a2 d0 d1 d2 b0 b1 b2 l0 l1 l2 : Nat} (s : TwoSt w wr [x0, x1, x2] [y0, y1, y2] vg vh g h) :
    TwoSt w ((((((wr.setCell ⟨w.heap.size, 0, none⟩ (.slice q0 a0 d0)).setCell ⟨w.heap.size, 1, none⟩ (.slice q1 a1 d1)).setCell ⟨w.heap.size, 2, none⟩ (.slice q2 a2 d2)).setCell ⟨w.heap.size + 1, 0, none⟩ (.slice k0 b0 l0)).setCell ⟨w.heap.size + 1, 1, none⟩ (.slice k1 b1 l1)).setCell ⟨w.heap.size + 1, 2, none⟩ (.slice k2 b2 l2)) [.slice q0 a0 d0, .slice q1 a1 d1, .slice q2 a2 d2] [.slice k0 b0 l0, .slice k1 b1 l1, .slice k2 b2 l2] vg vh g h :=
  (((((s.set0 0 q0 a0 d0).set0 1 q1 a1 d1).set0 2 q2 a2 d2).set1 0 k0 b0 l0).set1 1 k1 b1 l1).set1 2 k2 b2 l2
/-- Behind both calls, ahead of the stores. -/
theorem two_start {w wr w1 w2 : World} {xs ys : List Value} {vg vh : Value} {g h : HistM} (b0 : SlBox wr w.heap.size 25 xs) (b1 : SlBox wr (w.heap.size + 1) 25 ys) (hb : Below w.heap.size w wr) (hb1 : Below wr.heap.size wr w1) (hb2 : Below w1.heap.size w1 w2) (hv : HistV w1 vg g) (ha : HistA w1 vg g) (hv' : HistV w2 vh h) (ha' : HistA w2 vh h) : TwoSt w w2 xs ys vg vh g h :=
  ⟨⟨(b0.1.later hb1).later hb2, b0.2⟩, ⟨(b1.1.later hb1).later hb2, b1.2⟩, hv.below hb2, ha.below hb2, hv', ha', below_next (below_next hb hb1) hb2⟩

set_option maxRecDepth 100000 in
set_option maxHeartbeats 4000000 in
theorem historders_any (vg vh : Value) (gM hM : HistM) (a b : Int) (w : World) (hg : HistA w vg gM) (hh : HistA w vh hM) (hT : Lib.Utf8Tabs 0 1 w) :
    Calls Tryd.prog 6 #[vg, vh, .int .i64 a, .int .i64 b] w fun e w' => e = .returned (.bool true) ∧ Below w.heap.size w w' := by
  have HG := Lib.hid hg
  have HH := Lib.hid hh
  obtain ⟨v0, v1, v2, rfl, ⟨p0, c0, rfl, -⟩, ⟨p1, c1, rfl, -⟩, ⟨p2, c2, rfl, -⟩⟩ := hg
  obtain ⟨u0, u1, u2, rfl, ⟨r0, s0, rfl, -⟩, ⟨r1, s1, rfl, -⟩, ⟨r2, s2, rfl, -⟩⟩ := hh
  have hb0 : Below w.heap.size w ((w.alloc (.cells #[.slice p0 gM.1.length c0, .slice p1 gM.2.1.length c1, .slice p2 gM.2.2.length c2] 25)).alloc (.cells #[.slice r0 hM.1.length s0, .slice r1 hM.2.1.length s1, .slice r2 hM.2.2.length s2] 25)) := ((Below.refl _ w).alloc (Nat.le_refl _) _).alloc (by simp) _
  have B0 : SlBox ((w.alloc (.cells #[.slice p0 gM.1.length c0, .slice p1 gM.2.1.length c1, .slice p2 gM.2.2.length c2] 25)).alloc (.cells #[.slice r0 hM.1.length s0, .slice r1 hM.2.1.length s1, .slice r2 hM.2.2.length s2] 25)) w.heap.size 25 [.slice p0 gM.1.length c0, .slice p1 gM.2.1.length c1, .slice p2 gM.2.2.length c2] := ⟨(Blk.new w 25 [.slice p0 gM.1.length c0, .slice p1 gM.2.1.length c1, .slice p2 gM.2.2.length c2]).alloc _, by intro x hx; simp at hx; rcases hx with rfl | rfl | rfl <;> exact ⟨_, _, _, rfl⟩⟩
  have B1 : SlBox ((w.alloc (.cells #[.slice p0 gM.1.length c0, .slice p1 gM.2.1.length c1, .slice p2 gM.2.2.length c2] 25)).alloc (.cells #[.slice r0 hM.1.length s0, .slice r1 hM.2.1.length s1, .slice r2 hM.2.2.length s2] 25)) (w.heap.size + 1) 25 [.slice r0 hM.1.length s0, .slice r1 hM.2.1.length s1, .slice r2 hM.2.2.length s2] := ⟨by have := Blk.new (w.alloc (.cells #[.slice p0 gM.1.length c0, .slice p1 gM.2.1.length c1, .slice p2 gM.2.2.length c2] 25)) 25 [.slice r0 hM.1.length s0, .slice r1 hM.2.1.length s1, .slice r2 hM.2.2.length s2]; simpa using this, by intro x hx; simp at hx; rcases hx with rfl | rfl | rfl <;> exact ⟨_, _, _, rfl⟩⟩
  have y0 := B0.1.cell 0 rfl
  have y1 := B0.1.cell 1 rfl
  have y2 := B0.1.cell 2 rfl
  have z0 := B1.1.cell 0 rfl
  have z1 := B1.1.cell 1 rfl
  have z2 := B1.1.cell 2 rfl
  have HB := Lib.hid hb0
  have HB0 := Lib.hid B0
  have HB1 := Lib.hid B1
  have HT := Lib.hid hT
  have HMg := Lib.hid (few_modst gM)
  have HMh := Lib.hid (few_modst hM)
  have HFg := Lib.hid (fun w' (hb : Below (((w.alloc (.cells #[.slice p0 gM.1.length c0, .slice p1 gM.2.1.length c1, .slice p2 gM.2.2.length c2] 25)).alloc (.cells #[.slice r0 hM.1.length s0, .slice r1 hM.2.1.length s1, .slice r2 hM.2.2.length s2] 25))).heap.size ((w.alloc (.cells #[.slice p0 gM.1.length c0, .slice p1 gM.2.1.length c1, .slice p2 gM.2.2.length c2] 25)).alloc (.cells #[.slice r0 hM.1.length s0, .slice r1 hM.2.1.length s1, .slice r2 hM.2.2.length s2] 25)) w') => few11_any w' _ gM (HG.out.below (below_next HB.out hb)))
  have HFh := Lib.hid (fun w' (hb : Below (((w.alloc (.cells #[.slice p0 gM.1.length c0, .slice p1 gM.2.1.length c1, .slice p2 gM.2.2.length c2] 25)).alloc (.cells #[.slice r0 hM.1.length s0, .slice r1 hM.2.1.length s1, .slice r2 hM.2.2.length s2] 25))).heap.size ((w.alloc (.cells #[.slice p0 gM.1.length c0, .slice p1 gM.2.1.length c1, .slice p2 gM.2.2.length c2] 25)).alloc (.cells #[.slice r0 hM.1.length s0, .slice r1 hM.2.1.length s1, .slice r2 hM.2.2.length s2] 25)) w') => few11_any w' _ hM (HH.out.below (below_next HB.out hb)))
  have HFF := Lib.hid (fun w' v M (ha : HistA w' v (fewH M)) => few_v ha)
  clear hT hb0 B0 B1
  go_enter Tryd.func6, Tryd.ntmps6
  go_upto_region 2 with fail
  go_cut [9] (fun _ wx => ∃ (q0 q1 q2 k0 k1 k2 : Option Addr) (d0 d1 d2 l0 l1 l2 : Nat), TwoSt w wx [.slice q0 (fewH gM).1.length d0, .slice q1 (fewH gM).2.1.length d1, .slice q2 (fewH gM).2.2.length d2] [.slice k0 (fewH hM).1.length l0, .slice k1 (fewH hM).2.1.length l1, .slice k2 (fewH hM).2.2.length l2] (.agg #[.slice q0 (fewH gM).1.length d0, .slice q1 (fewH gM).2.1.length d1, .slice q2 (fewH gM).2.2.length d2]) (.agg #[.slice k0 (fewH hM).1.length l0, .slice k1 (fewH hM).2.1.length l1, .slice k2 (fewH hM).2.2.length l2]) (fewH gM) (fewH hM))
  case first =>
    have HS : RowKit.Hid (∀ w', Below ((w.alloc (.cells #[.slice p0 gM.1.length c0, .slice p1 gM.2.1.length c1, .slice p2 gM.2.2.length c2] 25)).alloc (.cells #[.slice r0 hM.1.length s0, .slice r1 hM.2.1.length s1, .slice r2 hM.2.2.length s2] 25)).heap.size ((w.alloc (.cells #[.slice p0 gM.1.length c0, .slice p1 gM.2.1.length c1, .slice p2 gM.2.2.length c2] 25)).alloc (.cells #[.slice r0 hM.1.length s0, .slice r1 hM.2.1.length s1, .slice r2 hM.2.2.length s2] 25)) w' → (w'.cell? ⟨w.heap.size, 0, none⟩ = some (.slice p0 gM.1.length c0) ∧ w'.cell? ⟨w.heap.size, 1, none⟩ = some (.slice p1 gM.2.1.length c1) ∧ w'.cell? ⟨w.heap.size, 2, none⟩ = some (.slice p2 gM.2.2.length c2) ∧ w'.cell? ⟨w.heap.size + 1, 0, none⟩ = some (.slice r0 hM.1.length s0) ∧ w'.cell? ⟨w.heap.size + 1, 1, none⟩ = some (.slice r1 hM.2.1.length s1) ∧ w'.cell? ⟨w.heap.size + 1, 2, none⟩ = some (.slice r2 hM.2.2.length s2) ∧ Below ((w.alloc (.cells #[.slice p0 gM.1.length c0, .slice p1 gM.2.1.length c1, .slice p2 gM.2.2.length c2] 25)).alloc (.cells #[.slice r0 hM.1.length s0, .slice r1 hM.2.1.length s1, .slice r2 hM.2.2.length s2] 25)).heap.size ((w.alloc (.cells #[.slice p0 gM.1.length c0, .slice p1 gM.2.1.length c1, .slice p2 gM.2.2.length c2] 25)).alloc (.cells #[.slice r0 hM.1.length s0, .slice r1 hM.2.1.length s1, .slice r2 hM.2.2.length s2] 25)) w')) := Lib.hid (fun w' hb => ⟨cell_later hb y0, cell_later hb y1, cell_later hb y2, cell_later hb z0, cell_later hb z1, cell_later hb z2, hb⟩)
    clear y0 y1 y2 z0 z1 z2
    refine wp_region_late (fun w' => w'.cell? ⟨w.heap.size, 0, none⟩ = some (.slice p0 gM.1.length c0) ∧ w'.cell? ⟨w.heap.size, 1, none⟩ = some (.slice p1 gM.2.1.length c1) ∧ w'.cell? ⟨w.heap.size, 2, none⟩ = some (.slice p2 gM.2.2.length c2) ∧ w'.cell? ⟨w.heap.size + 1, 0, none⟩ = some (.slice r0 hM.1.length s0) ∧ w'.cell? ⟨w.heap.size + 1, 1, none⟩ = some (.slice r1 hM.2.1.length s1) ∧ w'.cell? ⟨w.heap.size + 1, 2, none⟩ = some (.slice r2 hM.2.2.length s2) ∧ Below ((w.alloc (.cells #[.slice p0 gM.1.length c0, .slice p1 gM.2.1.length c1, .slice p2 gM.2.2.length c2] 25)).alloc (.cells #[.slice r0 hM.1.length s0, .slice r1 hM.2.1.length s1, .slice r2 hM.2.2.length s2] 25)).heap.size ((w.alloc (.cells #[.slice p0 gM.1.length c0, .slice p1 gM.2.1.length c1, .slice p2 gM.2.2.length c2] 25)).alloc (.cells #[.slice r0 hM.1.length s0, .slice r1 hM.2.1.length s1, .slice r2 hM.2.2.length s2] 25)) w') [4, 5] (by kernel_rfl) ?_
    have hS0 := HS.out _ (Below.drew (Below.refl _ _))
    refine wpAnyL_take 0 6 (v := ?_) rfl (by kernel_rfl) (by kernel_rfl) (by kernel_rfl) (by kernel_rfl) (by kernel_rfl) (fun _ _ _ h => h) (Or.inl ⟨by rfl, ?_⟩) hS0 ?_
    rotate_left
    · intro w' hw'
      try dsimp only at hw'
      go_simp
      try with_reducible rfl
    try simp only [Act.put, List.setIfInBounds_toArray, List.set_cons_zero, List.set_cons_succ]
    refine wpAnyL_take 2 6 (v := ?_) rfl (by kernel_rfl) (by kernel_rfl) (by kernel_rfl) (by kernel_rfl) (by kernel_rfl) (fun _ _ _ h => h) (Or.inl ⟨by rfl, ?_⟩) hS0 ?_
    rotate_left
    · intro w' hw'
      try dsimp only at hw'
      go_simp
      try with_reducible rfl
    try simp only [Act.put, List.setIfInBounds_toArray, List.set_cons_zero, List.set_cons_succ]
    refine wpAnyL_one 1 rfl (by kernel_rfl) (fun K hK => ?_)
    go_simp
    go_at_call 10
    refine (HFg.out _ (Below.drew (Below.refl _ _))).mono ?_
    rintro e w1 ⟨v1, rfl, hv1, ha1, hb1⟩
    have hbw1 := below_next (Below.drew (Below.refl _ _)) hb1
    have hS1 := HS.out _ hbw1
    refine hK.out _ _ (fun _ => hS1) ?_
    clear hK K
    try simp only [Act.put, List.setIfInBounds_toArray, List.set_cons_zero, List.set_cons_succ]
    refine wpAnyL_one 3 rfl (by kernel_rfl) (fun K hK => ?_)
    go_simp
    go_at_call 10
    refine (HFh.out _ hbw1).mono ?_
    rintro e w2 ⟨v2, rfl, hv2, ha2, hb2⟩
    have hbw2 := below_next hbw1 hb2
    have hS2 := HS.out _ hbw2
    refine hK.out _ _ (fun _ => hS2) ?_
    clear hK K
    try simp only [Act.put, List.setIfInBounds_toArray, List.set_cons_zero, List.set_cons_succ]
    have HV1 := Lib.hid hv1
    have HV2 := Lib.hid hv2
    obtain ⟨a0, a1, a2, rfl, ⟨q0, d0, rfl, -⟩, ⟨q1, d1, rfl, -⟩, ⟨q2, d2, rfl, -⟩⟩ := hv1
    obtain ⟨e0, e1, e2, rfl, ⟨k0, l0, rfl, -⟩, ⟨k1, l1, rfl, -⟩, ⟨k2, l2, rfl, -⟩⟩ := hv2
    have ST := Lib.hid (two_start (wr := ((w.alloc (.cells #[.slice p0 gM.1.length c0, .slice p1 gM.2.1.length c1, .slice p2 gM.2.2.length c2] 25)).alloc (.cells #[.slice r0 hM.1.length s0, .slice r1 hM.2.1.length s1, .slice r2 hM.2.2.length s2] 25))) HB0.out HB1.out HB.out hbw1 hb2 HV1.out ha1 HV2.out ha2)
    obtain ⟨t0, t1, t2, t3, t4, t5, -⟩ := hS2
    have n0 := (HB0.out.1.later hbw2).frozen 0
    have n1 := (HB0.out.1.later hbw2).frozen 1
    have n2 := (HB0.out.1.later hbw2).frozen 2
    have n3 := (HB1.out.1.later hbw2).frozen 0
    have n4 := (HB1.out.1.later hbw2).frozen 1
    have n5 := (HB1.out.1.later hbw2).frozen 2
    clear hS0 hS1 hb1 hb2 ha1 ha2 hbw1 hbw2
    refine wpAnyL_one 4 rfl (by kernel_rfl) (fun K hK => ?_)
    go_simp
    refine hK.out _ _ (fun h => absurd h (by decide)) ?_
    clear hK K
    try simp only [Act.put, List.setIfInBounds_toArray, List.set_cons_zero, List.set_cons_succ]
    refine wpAnyL_one 5 rfl (by kernel_rfl) (fun K hK => ?_)
    go_simp
    refine hK.out _ _ (fun h => absurd h (by decide)) ?_
    clear hK K
    try simp only [Act.put, List.setIfInBounds_toArray, List.set_cons_zero, List.set_cons_succ]
    refine wpAnyL_done (by kernel_rfl) ?_ _
    go_wp2_with fail
    go_meet
    exact ⟨q0, q1, q2, k0, k1, k2, d0, d1, d2, l0, l1, l2, ST.out.six⟩
  case rest =>
    clear HFg HFh y0 y1 y2 z0 z1 z2
    obtain ⟨q0, q1, q2, k0, k1, k2, d0, d1, d2, l0, l1, l2, A0, A1, VG, AG, VH, AH, hbW⟩ := hcut
    have hl : w.heap.size + 1 < wc.heap.size := A1.1.lt
    have hl0 : w.heap.size < wc.heap.size := by omega
    have KG := Lib.hid A0.1
    have KH := Lib.hid A1.1
    have HFg := Lib.hid (fun w' v (ha : HistA w' v (fewH gM)) => few_v ha)
    have HFh := Lib.hid (fun w' v (ha : HistA w' v (fewH hM)) => few_v ha)
    clear HFF
    generalize fewH gM = gF at *
    generalize fewH hM = hF at *
    have HS : RowKit.Hid (∀ w', Below wc.heap.size wc w' → (w'.cell? ⟨w.heap.size, 0, none⟩ = some (.slice q0 gF.1.length d0) ∧ w'.cell? ⟨w.heap.size, 1, none⟩ = some (.slice q1 gF.2.1.length d1) ∧ w'.cell? ⟨w.heap.size, 2, none⟩ = some (.slice q2 gF.2.2.length d2) ∧ w'.cell? ⟨w.heap.size + 1, 0, none⟩ = some (.slice k0 hF.1.length l0) ∧ w'.cell? ⟨w.heap.size + 1, 1, none⟩ = some (.slice k1 hF.2.1.length l1) ∧ w'.cell? ⟨w.heap.size + 1, 2, none⟩ = some (.slice k2 hF.2.2.length l2) ∧ Below wc.heap.size wc w')) := Lib.hid (fun w' hb => ⟨(KG.out.later hb).cell 0 rfl, (KG.out.later hb).cell 1 rfl, (KG.out.later hb).cell 2 rfl, (KH.out.later hb).cell 0 rfl, (KH.out.later hb).cell 1 rfl, (KH.out.later hb).cell 2 rfl, hb⟩)
    have HAg := Lib.hid (fun w' (hb : Below wc.heap.size wc w') => AG.below hb)
    have HAh := Lib.hid (fun w' (hb : Below wc.heap.size wc w') => AH.below hb)
    have HVg := Lib.hid (fun w' (hb : Below wc.heap.size wc w') => VG.below hb)
    have HVh := Lib.hid (fun w' (hb : Below wc.heap.size wc w') => VH.below hb)
    have HTb := Lib.hid (fun w' (hb : Below wc.heap.size wc w') => Utf8Tabs_below HT.out (hbW.trans (hb.mono hbW.size)))
    have HFin := Lib.hid (fun w' (hb : Below wc.heap.size wc w') => hbW.trans (hb.mono hbW.size))
    clear A0 A1 VG AG VH AH hbW KG KH
    go_wp2_with fail
    refine wp_region_late (fun w' => w'.cell? ⟨w.heap.size, 0, none⟩ = some (.slice q0 gF.1.length d0) ∧ w'.cell? ⟨w.heap.size, 1, none⟩ = some (.slice q1 gF.2.1.length d1) ∧ w'.cell? ⟨w.heap.size, 2, none⟩ = some (.slice q2 gF.2.2.length d2) ∧ w'.cell? ⟨w.heap.size + 1, 0, none⟩ = some (.slice k0 hF.1.length l0) ∧ w'.cell? ⟨w.heap.size + 1, 1, none⟩ = some (.slice k1 hF.2.1.length l1) ∧ w'.cell? ⟨w.heap.size + 1, 2, none⟩ = some (.slice k2 hF.2.2.length l2) ∧ Below wc.heap.size wc w') [] (by kernel_rfl) ?_
    have hB0 : Below (wc).heap.size (wc) (wc).drew := Below.drew (Below.refl _ _)
    have hS0 := HS.out _ hB0
    refine wpAnyL_take 0 25 (v := ?_) rfl (by kernel_rfl) (by kernel_rfl) (by kernel_rfl) (by kernel_rfl) (by kernel_rfl) (fun _ _ _ h => h) (Or.inl ⟨by rfl, ?_⟩) hS0 ?_
    rotate_left
    · intro w' hw'
      try dsimp only at hw'
      go_simp
      try with_reducible rfl
    try simp only [Act.put, List.setIfInBounds_toArray, List.set_cons_zero, List.set_cons_succ]
    refine wpAnyL_take 2 25 (v := ?_) rfl (by kernel_rfl) (by kernel_rfl) (by kernel_rfl) (by kernel_rfl) (by kernel_rfl) (fun _ _ _ h => h) (Or.inl ⟨by rfl, ?_⟩) hS0 ?_
    rotate_left
    · intro w' hw'
      try dsimp only at hw'
      go_simp
      try with_reducible rfl
    try simp only [Act.put, List.setIfInBounds_toArray, List.set_cons_zero, List.set_cons_succ]
    refine wpAnyL_take 3 25 (v := ?_) rfl (by kernel_rfl) (by kernel_rfl) (by kernel_rfl) (by kernel_rfl) (by kernel_rfl) (fun _ _ _ h => h) (Or.inl ⟨by rfl, ?_⟩) hS0 ?_
    rotate_left
    · intro w' hw'
      try dsimp only at hw'
      go_simp
      try with_reducible rfl
    try simp only [Act.put, List.setIfInBounds_toArray, List.set_cons_zero, List.set_cons_succ]
    refine wpAnyL_take 5 25 (v := ?_) rfl (by kernel_rfl) (by kernel_rfl) (by kernel_rfl) (by kernel_rfl) (by kernel_rfl) (fun _ _ _ h => h) (Or.inl ⟨by rfl, ?_⟩) hS0 ?_
    rotate_left
    · intro w' hw'
      try dsimp only at hw'
      go_simp
      try with_reducible rfl
    try simp only [Act.put, List.setIfInBounds_toArray, List.set_cons_zero, List.set_cons_succ]
    refine wpAnyL_take 6 25 (v := ?_) rfl (by kernel_rfl) (by kernel_rfl) (by kernel_rfl) (by kernel_rfl) (by kernel_rfl) (fun _ _ _ h => h) (Or.inl ⟨by rfl, ?_⟩) hS0 ?_
    rotate_left
    · intro w' hw'
      try dsimp only at hw'
      go_simp
      try with_reducible rfl
    try simp only [Act.put, List.setIfInBounds_toArray, List.set_cons_zero, List.set_cons_succ]
    refine wpAnyL_take 7 25 (v := ?_) rfl (by kernel_rfl) (by kernel_rfl) (by kernel_rfl) (by kernel_rfl) (by kernel_rfl) (fun _ _ _ h => h) (Or.inl ⟨by rfl, ?_⟩) hS0 ?_
    rotate_left
    · intro w' hw'
      try dsimp only at hw'
      go_simp
      try with_reducible rfl
    try simp only [Act.put, List.setIfInBounds_toArray, List.set_cons_zero, List.set_cons_succ]
    refine wpAnyL_one 1 rfl (by kernel_rfl) (fun K hK => ?_)
    go_simp
    refine (HFh.out _ _ (HAh.out _ hB0)).mono ?_
    rintro e w1 ⟨v1, rfl, hx1, -, hb1⟩
    have hB1 := below_next hB0 hb1
    have hS1 := HS.out _ hB1
    refine hK.out _ _ (fun _ => hS1) ?_
    clear hK K hS0
    try simp only [Act.put, List.setIfInBounds_toArray, List.set_cons_zero, List.set_cons_succ]
    refine wpAnyL_one 4 rfl (by kernel_rfl) (fun K hK => ?_)
    go_simp
    refine (ahead_v a b hx1 HMh.out (HTb.out _ hB1)).mono ?_
    rintro e w2 ⟨rfl, hb2⟩
    have hB2 := below_next hB1 hb2
    have hS2 := HS.out _ hB2
    refine hK.out _ _ (fun _ => hS2) ?_
    clear hK K hS1
    try simp only [Act.put, List.setIfInBounds_toArray, List.set_cons_zero, List.set_cons_succ]
    refine wpAnyL_one 8 rfl (by kernel_rfl) (fun K hK => ?_)
    go_simp
    refine (rahead_v a b (HVh.out _ hB2) HMh.out).mono ?_
    rintro e w3 ⟨rfl, hb3⟩
    have hB3 := below_next hB2 hb3
    have hS3 := HS.out _ hB3
    refine hK.out _ _ (fun _ => hS3) ?_
    clear hK K hS2
    try simp only [Act.put, List.setIfInBounds_toArray, List.set_cons_zero, List.set_cons_succ]
    refine wpAnyL_one 9 rfl (by kernel_rfl) (fun K hK => ?_)
    go_simp
    refine hK.out _ _ (fun _ => hS3) ?_
    clear hK K
    try simp only [Act.put, List.setIfInBounds_toArray, List.set_cons_zero, List.set_cons_succ]
    refine wpAnyL_one 10 rfl (by kernel_rfl) (fun K hK => ?_)
    go_simp
    refine hK.out _ _ (fun _ => hS3) ?_
    clear hK K
    try simp only [Act.put, List.setIfInBounds_toArray, List.set_cons_zero, List.set_cons_succ]
    refine wpAnyL_take 11 25 (v := ?_) rfl (by kernel_rfl) (by kernel_rfl) (by kernel_rfl) (by kernel_rfl) (by kernel_rfl) (fun _ _ _ h => h) (Or.inl ⟨by rfl, ?_⟩) hS3 ?_
    rotate_left
    · intro w' hw'
      try dsimp only at hw'
      go_simp
      try with_reducible rfl
    try simp only [Act.put, List.setIfInBounds_toArray, List.set_cons_zero, List.set_cons_succ]
    refine wpAnyL_take 13 25 (v := ?_) rfl (by kernel_rfl) (by kernel_rfl) (by kernel_rfl) (by kernel_rfl) (by kernel_rfl) (fun _ _ _ h => h) (Or.inl ⟨by rfl, ?_⟩) hS3 ?_
    rotate_left
    · intro w' hw'
      try dsimp only at hw'
      go_simp
      try with_reducible rfl
    try simp only [Act.put, List.setIfInBounds_toArray, List.set_cons_zero, List.set_cons_succ]
    refine wpAnyL_take 16 25 (v := ?_) rfl (by kernel_rfl) (by kernel_rfl) (by kernel_rfl) (by kernel_rfl) (by kernel_rfl) (fun _ _ _ h => h) (Or.inl ⟨by rfl, ?_⟩) hS3 ?_
    rotate_left
    · intro w' hw'
      try dsimp only at hw'
      go_simp
      try with_reducible rfl
    try simp only [Act.put, List.setIfInBounds_toArray, List.set_cons_zero, List.set_cons_succ]
    refine wpAnyL_take 17 25 (v := ?_) rfl (by kernel_rfl) (by kernel_rfl) (by kernel_rfl) (by kernel_rfl) (by kernel_rfl) (fun _ _ _ h => h) (Or.inl ⟨by rfl, ?_⟩) hS3 ?_
    rotate_left
    · intro w' hw'
      try dsimp only at hw'
      go_simp
      try with_reducible rfl
    try simp only [Act.put, List.setIfInBounds_toArray, List.set_cons_zero, List.set_cons_succ]
    refine wpAnyL_one 12 rfl (by kernel_rfl) (fun K hK => ?_)
    go_simp
    refine (HFg.out _ _ (HAg.out _ hB3)).mono ?_
    rintro e w4 ⟨v4, rfl, hx4, -, hb4⟩
    have hB4 := below_next hB3 hb4
    have hS4 := HS.out _ hB4
    refine hK.out _ _ (fun _ => hS4) ?_
    clear hK K hS3
    try simp only [Act.put, List.setIfInBounds_toArray, List.set_cons_zero, List.set_cons_succ]
    refine wpAnyL_one 14 rfl (by kernel_rfl) (fun K hK => ?_)
    go_simp
    refine (HFh.out _ _ (HAh.out _ hB4)).mono ?_
    rintro e w5 ⟨v5, rfl, hx5, -, hb5⟩
    have hB5 := below_next hB4 hb5
    have hS5 := HS.out _ hB5
    refine hK.out _ _ (fun _ => hS5) ?_
    clear hK K hS4
    try simp only [Act.put, List.setIfInBounds_toArray, List.set_cons_zero, List.set_cons_succ]
    refine wpAnyL_one 15 rfl (by kernel_rfl) (fun K hK => ?_)
    go_simp
    refine (same_v (hx4.below hb5) hx5 HMg.out HMh.out (HTb.out _ hB5)).mono ?_
    rintro e w6 ⟨rfl, hb6⟩
    have hB6 := below_next hB5 hb6
    have hS6 := HS.out _ hB6
    refine hK.out _ _ (fun _ => hS6) ?_
    clear hK K hS5
    try simp only [Act.put, List.setIfInBounds_toArray, List.set_cons_zero, List.set_cons_succ]
    refine wpAnyL_one 18 rfl (by kernel_rfl) (fun K hK => ?_)
    go_simp
    refine (rsame_v (HVg.out _ hB6) (HVh.out _ hB6) HMg.out HMh.out).mono ?_
    rintro e w7 ⟨rfl, hb7⟩
    have hB7 := below_next hB6 hb7
    have hS7 := HS.out _ hB7
    refine hK.out _ _ (fun _ => hS7) ?_
    clear hK K hS6
    try simp only [Act.put, List.setIfInBounds_toArray, List.set_cons_zero, List.set_cons_succ]
    refine wpAnyL_one 19 rfl (by kernel_rfl) (fun K hK => ?_)
    go_simp
    refine hK.out _ _ (fun _ => hS7) ?_
    clear hK K
    try simp only [Act.put, List.setIfInBounds_toArray, List.set_cons_zero, List.set_cons_succ]
    refine wpAnyL_one 20 rfl (by kernel_rfl) (fun K hK => ?_)
    go_simp
    refine hK.out _ _ (fun _ => hS7) ?_
    clear hK K
    try simp only [Act.put, List.setIfInBounds_toArray, List.set_cons_zero, List.set_cons_succ]
    refine wpAnyL_one 21 rfl (by kernel_rfl) (fun K hK => ?_)
    go_simp
    refine hK.out _ _ (fun _ => hS7) ?_
    clear hK K
    try simp only [Act.put, List.setIfInBounds_toArray, List.set_cons_zero, List.set_cons_succ]
    refine wpAnyL_one 22 rfl (by kernel_rfl) (fun K hK => ?_)
    go_simp
    refine (works11_any _ (HTb.out _ hB7)).mono ?_
    rintro e w8 ⟨rfl, hb8⟩
    have hB8 := below_next hB7 hb8
    have hS8 := HS.out _ hB8
    refine hK.out _ _ (fun _ => hS8) ?_
    clear hK K hS7
    try simp only [Act.put, List.setIfInBounds_toArray, List.set_cons_zero, List.set_cons_succ]
    refine wpAnyL_one 23 rfl (by kernel_rfl) (fun K hK => ?_)
    go_simp
    refine hK.out _ _ (fun _ => hS8) ?_
    clear hK K
    try simp only [Act.put, List.setIfInBounds_toArray, List.set_cons_zero, List.set_cons_succ]
    refine wpAnyL_one 24 rfl (by kernel_rfl) (fun K hK => ?_)
    go_simp
    refine hK.out _ _ (fun _ => hS8) ?_
    clear hK K
    try simp only [Act.put, List.setIfInBounds_toArray, List.set_cons_zero, List.set_cons_succ]
    refine wpAnyL_done (by kernel_rfl) ?_ _
    try simp only [Act.put, List.setIfInBounds_toArray, List.set_cons_zero, List.set_cons_succ]
    go_wp2_with fail
    go_ret
    exact ⟨rfl, HFin.out _ hB8⟩
end Go.Proofs.YthalbcmlehpfaaaDoor
