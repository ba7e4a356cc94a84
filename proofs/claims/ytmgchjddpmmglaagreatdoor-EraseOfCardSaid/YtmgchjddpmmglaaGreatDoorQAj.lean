/-
  Layer 11 (hist): are two lists of texts, of operations, the same: the program's way and the reference's. No conditions but lengths below 2^62.
  Whether two operations, transactions, histories are the same can be told. No conditions.
  Layer 11 (hist): are two histories the same: the reference's way. No conditions but lengths.
  Layer 10 (pair) in plain words: what events make, transaction by transaction; the history of events, the open sessions; no program in sight. No conditions.
  Maps of the call's own keyed by texts, in plain words: counts; pointers. No conditions.
  Slices of structs, whatever the struct: what one holds; a row of the call's own as one, and as an argument. No conditions.
-/
import Derived.RangeFuncNested
import Derived.RangeFuncBound
import Derived.RangeFuncCalls
import Derived.RangeFuncLeaves
import Derived.Shelf.Abstract
import Derived.Shelf.RegionOpen
import Derived.OwnWalkIn
import Derived.TacticsInMore
import Derived.LoopNIn
import Derived.LoopIn
import Derived.Maps.OwnIn
import Derived.Maps.OwnSet
import Derived.Maps.Views
import Derived.RangeFuncBox
import Derived.Maps.AppendAt
import Derived.WalkArith
import Derived.Outline
import Derived.Test.YtmgchjddpmmglaaGreatDoorQAh
namespace Go.Proofs.YtmgchjddpmmglaaGreatDoor
section
open Go.RowKit Go.Lib
theorem list_same {α : Type} (d : α) (L M : List α) (hl : L.length = M.length) (h : ∀ j, j < L.length → L.getD j d = M.getD j d) : L = M := by
 refine List.ext_getElem hl (fun j h1 h2 => ?_)
 have := h j h1
 simpa [h1, h2] using this
theorem list_not {α : Type} (d : α) {L M : List α} {k : Nat} (h : L.getD k d ≠ M.getD k d) : L ≠ M := fun e => h (by rw [e])
theorem len_not {α : Type} {L M : List α} (h : L.length ≠ M.length) : L ≠ M := fun e => h (by rw [e])
set_option maxRecDepth 100000 in
set_option maxHeartbeats 4000000 in
theorem rtexts_any (v v' : Value) (L M : List (List UInt8)) (w : World) (hv : Texts w v L) (hv' : Texts w v' M) (hl : L.length ≤ 1000000) (_ : M.length ≤ 1000000) :
  Calls Tryz.prog 73 #[v, v'] w fun e w' => e = .returned (.bool (decide (L = M))) ∧ Below w.heap.size w w' := by
 obtain ⟨p, c, rfl, hp⟩ := hv
 obtain ⟨q, d, rfl, hq⟩ := hv'
 have HP := Lib.hid hp
 have HQ := Lib.hid hq
 clear hp hq
 go_enter Tryz.func73, Tryz.ntmps73
 by_cases hlm : L.length = M.length
 ·have hlmi : ((L.length : Nat) : Int) = ((M.length : Nat) : Int) := by omega
  have HLM := Lib.hid hlm
  clear hlm
  go_wp2_with fail
  go_loopw [5] (fun i wr => ∃ k : Nat, k ≤ L.length ∧ i = .int .i64 k ∧ (∀ j, j < k → L.getD j [] = M.getD j []) ∧ Below w.heap.size w wr) (fun i _ => L.length - (RowKit.intOf i).toNat)
  case atStart => exact ⟨0, Nat.zero_le _, rfl, fun j hj => absurd hj (Nat.not_lt_zero j), Below.refl _ _⟩
  case round =>
   obtain ⟨k, hk, rfl, heq, hbw⟩ := hrel
   have HEq := Lib.hid heq
   clear heq
   by_cases hk1 : k < L.length
   ·have hk2 : k < M.length := by rw [← HLM.out]; exact hk1
    obtain ⟨g, rfl, a1⟩ := HP.out k hk1
    obtain ⟨g', rfl, b1⟩ := HQ.out k hk2
    have a1' := cell_later hbw a1
    have b1' := cell_later hbw b1
    clear a1 b1
    by_cases hxy : L.getD k [] = M.getD k []
    ·have HK : RowKit.Hid (∀ j, j < k + 1 → L.getD j [] = M.getD j []) := Lib.hid (fun j hj => by
      by_cases h : j = k
      ·subst h; exact hxy
      ·exact HEq.out j (by omega))
     rw [← hxy] at b1'
     clear hxy
     generalize L.getD k [] = x at *
     go_wp2_with fail
     go_quiet (fail)
     have hbw2 : Below w.heap.size w (wr.drewN nq) := hbw.trans ⟨rfl, rfl, rfl, Nat.le_refl _, fun _ _ => rfl⟩
     generalize wr.drewN nq = wq at *
     go_wp2_with fail
     go_roundw
     case rel => exact ⟨k + 1, by omega, by go_num, HK.out, hbw2⟩
     case measure => simp [RowKit.intOf]; omega
    ·have HNe := Lib.hid (list_not (d := []) hxy)
     generalize L.getD k [] = x at *
     generalize M.getD k [] = y at *
     have hb2 : (x == y) = false := beq_eq_false_iff_ne.2 hxy
     clear hxy
     go_wp2_with fail
     go_quiet (fail)
     have hbw2 : Below w.heap.size w (wr.drewN nq) := hbw.trans ⟨rfl, rfl, rfl, Nat.le_refl _, fun _ _ => rfl⟩
     generalize wr.drewN nq = wq at *
     go_wp2_with fail
     go_ret
     exact ⟨by rw [decide_eq_false HNe.out]; rfl, hbw2⟩
   ·have hke : k = L.length := by omega
    subst hke
    have HLL := Lib.hid (list_same [] L M HLM.out HEq.out)
    go_wp2_with fail
    go_ret
    exact ⟨by rw [decide_eq_true HLL.out]; rfl, hbw⟩
 ·have HNe := Lib.hid (len_not hlm)
  have hlmi : ¬ (((L.length : Nat) : Int) = ((M.length : Nat) : Int)) := by omega
  go_wp2_with fail
  go_ret
  exact ⟨by rw [decide_eq_false HNe.out]; rfl, Below.refl _ _⟩
set_option maxRecDepth 100000 in
set_option maxHeartbeats 4000000 in
theorem rsameops_any (v v' : Value) (L M : List OpM) (w : World) (hv : OpsS w v L) (hv' : OpsS w v' M) (hl : L.length ≤ 1000000) (_ : M.length ≤ 1000000) :
  Calls Tryz.prog 74 #[v, v'] w fun e w' => e = .returned (.bool (decide (L = M))) ∧ Below w.heap.size w w' := by
 obtain ⟨p, c, rfl, -, hp⟩ := hv
 obtain ⟨q, d, rfl, -, hq⟩ := hv'
 have HP := Lib.hid hp
 have HQ := Lib.hid hq
 clear hp hq
 go_enter Tryz.func74, Tryz.ntmps74
 by_cases hlm : L.length = M.length
 ·have hlmi : ((L.length : Nat) : Int) = ((M.length : Nat) : Int) := by omega
  have HLM := Lib.hid hlm
  clear hlm
  go_wp2_with fail
  go_loopw [5] (fun i wr => ∃ k : Nat, k ≤ L.length ∧ i = .int .i64 k ∧ (∀ j, j < k → L.getD j noOp = M.getD j noOp) ∧ Below w.heap.size w wr) (fun i _ => L.length - (RowKit.intOf i).toNat)
  case atStart => exact ⟨0, Nat.zero_le _, rfl, fun j hj => absurd hj (Nat.not_lt_zero j), Below.refl _ _⟩
  case round =>
   obtain ⟨k, hk, rfl, heq, hbw⟩ := hrel
   have HEq := Lib.hid heq
   clear heq
   by_cases hk1 : k < L.length
   ·have hk2 : k < M.length := by rw [← HLM.out]; exact hk1
    obtain ⟨g, rfl, a1, a2, a3, a4⟩ := HP.out k hk1
    obtain ⟨g', rfl, b1, b2, b3, b4⟩ := HQ.out k hk2
    have a1' := cell_later hbw a1
    have b1' := cell_later hbw b1
    have a2' := cell_later hbw a2
    have b2' := cell_later hbw b2
    have a3' := cell_later hbw a3
    have b3' := cell_later hbw b3
    have a4' := cell_later hbw a4
    have b4' := cell_later hbw b4
    clear a1 b1 a2 b2 a3 b3 a4 b4
    by_cases hxy : L.getD k noOp = M.getD k noOp
    ·have HK : RowKit.Hid (∀ j, j < k + 1 → L.getD j noOp = M.getD j noOp) := Lib.hid (fun j hj => by
      by_cases h : j = k
      ·subst h; exact hxy
      ·exact HEq.out j (by omega))
     rw [← hxy] at b1' b2' b3' b4'
     clear hxy
     generalize L.getD k noOp = x at *
     obtain ⟨x1, x2, x3, x4⟩ := x
     simp only at a1' a2' a3' a4' b1' b2' b3' b4'
     go_wp2_with fail
     go_quiet (fail)
     have hbw2 : Below w.heap.size w (wr.drewN nq) := hbw.trans ⟨rfl, rfl, rfl, Nat.le_refl _, fun _ _ => rfl⟩
     generalize wr.drewN nq = wq at *
     go_wp2_with fail
     go_roundw
     case rel => exact ⟨k + 1, by omega, by go_num, HK.out, hbw2⟩
     case measure => simp [RowKit.intOf]; omega
    ·have HNe := Lib.hid (list_not (d := noOp) hxy)
     generalize L.getD k noOp = x at *
     generalize M.getD k noOp = y at *
     obtain ⟨x1, x2, x3, x4⟩ := x
     obtain ⟨y1, y2, y3, y4⟩ := y
     have hd : (x1 = true ∧ y1 = false) ∨ (x1 = false ∧ y1 = true) ∨ (x1 = y1 ∧ ¬ x2 = y2) ∨ (x1 = y1 ∧ x2 = y2 ∧ ¬ x3 = y3) ∨ (x1 = y1 ∧ x2 = y2 ∧ x3 = y3 ∧ ¬ x4 = y4) := by
      by_cases h1 : x1 = y1
      ·by_cases h2 : x2 = y2
       ·by_cases h3 : x3 = y3
        ·by_cases h4 : x4 = y4
         ·exact absurd (by rw [h1, h2, h3, h4]) hxy
         ·exact .inr (.inr (.inr (.inr ⟨h1, h2, h3, h4⟩)))
        ·exact .inr (.inr (.inr (.inl ⟨h1, h2, h3⟩)))
       ·exact .inr (.inr (.inl ⟨h1, h2⟩))
      ·cases x1 <;> cases y1
       ·exact absurd rfl h1
       ·exact .inr (.inl ⟨rfl, rfl⟩)
       ·exact .inl ⟨rfl, rfl⟩
       ·exact absurd rfl h1
     simp only at a1' a2' a3' a4' b1' b2' b3' b4'
     clear hxy
     rcases hd with ⟨rfl, rfl⟩ | ⟨rfl, rfl⟩ | ⟨rfl, hd⟩ | ⟨rfl, rfl, hd⟩ | ⟨rfl, rfl, rfl, hd⟩
     ·go_wp2_with fail
      go_quiet (fail)
      have hbw2 : Below w.heap.size w (wr.drewN nq) := hbw.trans ⟨rfl, rfl, rfl, Nat.le_refl _, fun _ _ => rfl⟩
      generalize wr.drewN nq = wq at *
      go_wp2_with fail
      go_ret
      exact ⟨by rw [decide_eq_false HNe.out]; rfl, hbw2⟩
     ·go_wp2_with fail
      go_quiet (fail)
      have hbw2 : Below w.heap.size w (wr.drewN nq) := hbw.trans ⟨rfl, rfl, rfl, Nat.le_refl _, fun _ _ => rfl⟩
      generalize wr.drewN nq = wq at *
      go_wp2_with fail
      go_ret
      exact ⟨by rw [decide_eq_false HNe.out]; rfl, hbw2⟩
     ·have he := beq_eq_false_iff_ne.2 hd
      go_wp2_with fail
      go_quiet (fail)
      have hbw2 : Below w.heap.size w (wr.drewN nq) := hbw.trans ⟨rfl, rfl, rfl, Nat.le_refl _, fun _ _ => rfl⟩
      generalize wr.drewN nq = wq at *
      go_wp2_with fail
      go_ret
      exact ⟨by rw [decide_eq_false HNe.out]; rfl, hbw2⟩
     ·have he := beq_eq_false_iff_ne.2 hd
      go_wp2_with fail
      go_quiet (fail)
      have hbw2 : Below w.heap.size w (wr.drewN nq) := hbw.trans ⟨rfl, rfl, rfl, Nat.le_refl _, fun _ _ => rfl⟩
      generalize wr.drewN nq = wq at *
      go_wp2_with fail
      go_ret
      exact ⟨by rw [decide_eq_false HNe.out]; rfl, hbw2⟩
     ·have he := beq_eq_false_iff_ne.2 hd
      go_wp2_with fail
      go_quiet (fail)
      have hbw2 : Below w.heap.size w (wr.drewN nq) := hbw.trans ⟨rfl, rfl, rfl, Nat.le_refl _, fun _ _ => rfl⟩
      generalize wr.drewN nq = wq at *
      go_wp2_with fail
      go_ret
      exact ⟨by rw [decide_eq_false HNe.out]; rfl, hbw2⟩
   ·have hke : k = L.length := by omega
    subst hke
    have HLL := Lib.hid (list_same noOp L M HLM.out HEq.out)
    go_wp2_with fail
    go_ret
    exact ⟨by rw [decide_eq_true HLL.out]; rfl, hbw⟩
 ·have HNe := Lib.hid (len_not hlm)
  have hlmi : ¬ (((L.length : Nat) : Int) = ((M.length : Nat) : Int)) := by omega
  go_wp2_with fail
  go_ret
  exact ⟨by rw [decide_eq_false HNe.out]; rfl, Below.refl _ _⟩
end
section
instance decOp : DecidableEq OpM := fun a b => (inferInstance : Decidable (a = b))
instance decTxn : DecidableEq TxnM := fun a b => (inferInstance : Decidable (a = b))
instance decTxns : DecidableEq (List TxnM) := instDecidableEqList
instance decHist : DecidableEq HistM := fun a b => (inferInstance : Decidable (a = b))
end
section
open Go.RowKit Go.Lib
attribute [local go_sem] Later.cell Later.frozen
def eqH (a b : HistM) : Bool := decide (a.1 = b.1) && (decide (a.2.1 = b.2.1) && decide (a.2.2 = b.2.2))
set_option maxRecDepth 100000 in
set_option maxHeartbeats 4000000 in
theorem rsame10_any (va0 va1 va2 vb0 vb1 vb2 : Value) (ha hb : HistM) (w : World) (a0 : Texts w va0 ha.1) (a1 : Texts w va1 ha.2.1) (a2 : TxnsS w va2 ha.2.2) (ma : Modst ha) (b0 : Texts w vb0 hb.1) (b1 : Texts w vb1 hb.2.1) (b2 : TxnsS w vb2 hb.2.2) (mb : Modst hb) :
  Calls Tryz.prog 18 #[.agg #[va0, va1, va2], .agg #[vb0, vb1, vb2]] w fun e w' => e = .returned (.bool (eqH ha hb)) ∧ Below w.heap.size w w' := by
 have HC0 := Lib.hid (fun w' (h : Below w.heap.size w w') => (rtexts_any va0 vb0 ha.1 hb.1 w' (a0.below h) (b0.below h) (by have := ma.1; omega) (by have := mb.1; omega)))
 have HC1 := Lib.hid (fun w' (h : Below w.heap.size w w') => (rtexts_any va1 vb1 ha.2.1 hb.2.1 w' (a1.below h) (b1.below h) (by have := ma.2.1; omega) (by have := mb.2.1; omega)))
 obtain ⟨p0, c0, rfl, -⟩ := a0
 obtain ⟨p1, c1, rfl, -⟩ := a1
 obtain ⟨p2, c2, rfl, hp⟩ := a2
 obtain ⟨q0, d0, rfl, -⟩ := b0
 obtain ⟨q1, d1, rfl, -⟩ := b1
 obtain ⟨q2, d2, rfl, hq⟩ := b2
 have HP := Lib.hid hp
 have HQ := Lib.hid hq
 have ml : ha.2.2.length ≤ 1000 := ma.2.2.1
 have ml' : hb.2.2.length ≤ 1000 := mb.2.2.1
 have HS : RowKit.Hid (eqH ha hb = (decide (ha.1 = hb.1) && (decide (ha.2.1 = hb.2.1) && decide (ha.2.2 = hb.2.2)))) := Lib.hid rfl
 generalize eqH ha hb = R at *
 generalize decide (ha.1 = hb.1) = e0 at *
 generalize decide (ha.2.1 = hb.2.1) = e1 at *
 clear hp hq
 go_enter Tryz.func18, Tryz.ntmps18
 cases e0 with
 | false =>
  have HR : RowKit.Hid (R = false) := Lib.hid HS.out
  clear HS
  go_wp2_with (fail)
  refine (HC0.out _ bel).mono ?_
  rintro e w3 ⟨rfl, hb3⟩
  obtain ⟨hc3, hf3⟩ := bcell hb3
  have hz3 := hb3.size
  try simp at hz3
  have g3 : w.heap.size < w3.heap.size := by omega
  have k3 : w.heap.size + 1 < w3.heap.size := by omega
  go_wp2_with fail
  go_ret
  exact ⟨by rw [HR.out]; rfl, bel⟩
 | true =>
  cases e1 with
  | false =>
   have HR : RowKit.Hid (R = false) := Lib.hid HS.out
   clear HS
   go_wp2_with (fail)
   refine (HC0.out _ bel).mono ?_
   rintro e w3 ⟨rfl, hb3⟩
   obtain ⟨hc3, hf3⟩ := bcell hb3
   have hz3 := hb3.size
   try simp at hz3
   have g3 : w.heap.size < w3.heap.size := by omega
   have k3 : w.heap.size + 1 < w3.heap.size := by omega
   go_wp2_with (fail)
   refine (HC1.out _ bel).mono ?_
   rintro e w4 ⟨rfl, hb4⟩
   obtain ⟨hc4, hf4⟩ := bcell hb4
   have hz4 := hb4.size
   try simp at hz4
   have g4 : w.heap.size < w4.heap.size := by omega
   have k4 : w.heap.size + 1 < w4.heap.size := by omega
   go_wp2_with fail
   go_ret
   exact ⟨by rw [HR.out]; rfl, bel⟩
  | true =>
   have HR : RowKit.Hid (R = decide (ha.2.2 = hb.2.2)) := Lib.hid HS.out
   clear HS
   go_wp2_with (fail)
   refine (HC0.out _ bel).mono ?_
   rintro e w3 ⟨rfl, hb3⟩
   obtain ⟨hc3, hf3⟩ := bcell hb3
   have hz3 := hb3.size
   try simp at hz3
   have g3 : w.heap.size < w3.heap.size := by omega
   have k3 : w.heap.size + 1 < w3.heap.size := by omega
   go_wp2_with (fail)
   refine (HC1.out _ bel).mono ?_
   rintro e w4 ⟨rfl, hb4⟩
   obtain ⟨hc4, hf4⟩ := bcell hb4
   have hz4 := hb4.size
   try simp at hz4
   have g4 : w.heap.size < w4.heap.size := by omega
   have k4 : w.heap.size + 1 < w4.heap.size := by omega
   by_cases hlm : ha.2.2.length = hb.2.2.length
   ·have hlmi : ((ha.2.2.length : Nat) : Int) = ((hb.2.2.length : Nat) : Int) := by omega
    have HLM := Lib.hid hlm
    have x2 := cell_later hb4 (cell_later hb3 (show World.cell? _ ⟨w.heap.size, 2, none⟩ = some (Value.slice p2 ha.2.2.length c2) from by go_simp))
    have y2 := cell_later hb4 (cell_later hb3 (show World.cell? _ ⟨w.heap.size + 1, 2, none⟩ = some (Value.slice q2 hb.2.2.length d2) from by go_simp))
    have hbx : Below w.heap.size w w4 := bel
    have HBX := Lib.hid hbx
    have g5 : w.heap.size < w4.heap.size := by omega
    have k5 : w.heap.size + 1 < w4.heap.size := by omega
    clear hlm hbx
    go_wp2_with fail
    go_loopw [5] (fun i wr => ∃ k : Nat, k ≤ ha.2.2.length ∧ i = .int .i64 k ∧ (∀ j, j < k → ha.2.2.getD j noTxn = hb.2.2.getD j noTxn) ∧ Below w4.heap.size w4 wr) (fun i _ => ha.2.2.length - (RowKit.intOf i).toNat)
    case atStart => exact ⟨0, Nat.zero_le _, rfl, fun j hj => absurd hj (Nat.not_lt_zero j), Below.refl _ _⟩
    case round =>
     obtain ⟨k, hk, rfl, heq, hbw⟩ := hrel
     have HEq := Lib.hid heq
     clear heq
     have x2' := cell_later hbw x2
     have y2' := cell_later hbw y2
     have hbwx := below_next HBX.out hbw
     by_cases hk1 : k < ha.2.2.length
     ·have hk2 : k < hb.2.2.length := by rw [← HLM.out]; exact hk1
      have HWr := Lib.hid (show IntKind.i64.wrap ((k : Int) + 1) = (k : Int) + 1 from IntWalk.i64_in _ (by omega))
      obtain ⟨g, sv, rfl, a1, a2, a3, a4⟩ := HP.out k hk1
      obtain ⟨g', sv', rfl, b1, b2, b3, b4⟩ := HQ.out k hk2
      have a1' := cell_later hbwx a1
      have a2' := cell_later hbwx a2
      have a3' := cell_later hbwx a3
      have b1' := cell_later hbwx b1
      have b2' := cell_later hbwx b2
      have b3' := cell_later hbwx b3
      have hg0 : g < wr.heap.size := World.block_lt_of_cell? wr _ a1'
      have hg1 : g' < wr.heap.size := World.block_lt_of_cell? wr _ b1'
      have hg2 : w.heap.size < wr.heap.size := World.block_lt_of_cell? wr _ x2'
      have hg3 : w.heap.size + 1 < wr.heap.size := World.block_lt_of_cell? wr _ y2'
      have hx1 : (ha.2.2.getD k noTxn).2.2.length ≤ 1000 := ma.2.2.2.2.2 _ (by simp [hk1])
      have hx2 : (hb.2.2.getD k noTxn).2.2.length ≤ 1000 := mb.2.2.2.2.2 _ (by simp [hk2])
      have HC := Lib.hid (fun w' (h : Below wr.heap.size wr w') => rsameops_any sv sv' (ha.2.2.getD k noTxn).2.2 (hb.2.2.getD k noTxn).2.2 w' (a4.below (below_next hbwx h)) (b4.below (below_next hbwx h)) (by omega) (by omega))
      have HK : RowKit.Hid (ha.2.2.getD k noTxn = hb.2.2.getD k noTxn → ∀ j, j < k + 1 → ha.2.2.getD j noTxn = hb.2.2.getD j noTxn) := Lib.hid (fun h0 j hj => by
       by_cases h : j = k
       ·subst h; exact h0
       ·exact HEq.out j (by omega))
      have HN : RowKit.Hid (ha.2.2.getD k noTxn ≠ hb.2.2.getD k noTxn → decide (ha.2.2 = hb.2.2) = false) := Lib.hid (fun h0 => decide_eq_false (list_not (d := noTxn) h0))
      generalize ha.2.2.getD k noTxn = x at *
      generalize hb.2.2.getD k noTxn = y at *
      obtain ⟨s, f, l⟩ := x
      obtain ⟨s', f', l'⟩ := y
      obtain ⟨sp, sc, rfl, -⟩ := a4
      obtain ⟨sp', sc', rfl, -⟩ := b4
      simp only at HC a1' a2' a3' b1' b2' b3' hx1 hx2
      clear a1 a2 a3 b1 b2 b3 HP HQ HEq x2 y2 hc3 hc4 hf3 hf4
      by_cases h1 : s = s'
      ·subst h1
       by_cases h2 : f = f'
       ·subst h2
        by_cases h3 : l = l'
        ·have HYe := Lib.hid (HK.out (by rw [h3]))
         have h4 : decide (l = l') = true := decide_eq_true h3
         rw [h4] at HC
         clear h3 h4 HN HK
         go_wp2_with fail
         refine wp_region_later (by kernel_rfl) (by kernel_rfl) ?_
         repeat (go_big_quiet_step (first | (go_at_call 74; exact Later.call (HC.out _ (Later.h _)))))
         refine wpQuiet_nil ?_
         intro _ hw'
         obtain ⟨⟨w6, hb6⟩, hw''⟩ := hw'
         have hw3 : w6 = _ := hw''.symm
         subst hw3
         try dsimp only at hb6
         go_wp2_with fail
         go_roundw
         case rel => exact ⟨k + 1, by omega, by rw [HWr.out]; go_num, HYe.out, below_next hbw hb6⟩
         case measure => simp [RowKit.intOf, HWr.out]; omega
        ·have HNo := Lib.hid (HN.out (fun e => h3 (congrArg (fun t : TxnM => t.2.2) e)))
         have h4 : decide (l = l') = false := decide_eq_false h3
         rw [h4] at HC
         clear h3 h4 HN HK
         go_wp2_with fail
         refine wp_region_later (by kernel_rfl) (by kernel_rfl) ?_
         repeat (go_big_quiet_step (first | (go_at_call 74; exact Later.call (HC.out _ (Later.h _)))))
         refine wpQuiet_nil ?_
         intro _ hw'
         obtain ⟨⟨w6, hb6⟩, hw''⟩ := hw'
         have hw3 : w6 = _ := hw''.symm
         subst hw3
         try dsimp only at hb6
         go_wp2_with fail
         go_ret
         exact ⟨by rw [HR.out, HNo.out]; rfl, below_next hbwx hb6⟩
       ·have HNo := Lib.hid (HN.out (fun e => h2 (congrArg (fun t : TxnM => t.2.1) e)))
        have h5 := beq_eq_false_iff_ne.2 h2
        have h6 : (f != f') = true := bne_iff_ne.2 h2
        clear HN HK h2
        go_wp2_with fail
        refine wp_region_later (by kernel_rfl) (by kernel_rfl) ?_
        repeat (go_big_quiet_step (first | (go_at_call 74; exact Later.call (HC.out _ (Later.h _)))))
        refine wpQuiet_nil ?_
        intro _ hw'
        obtain ⟨⟨w6, hb6⟩, hw''⟩ := hw'
        have hw3 : w6 = _ := hw''.symm
        subst hw3
        try dsimp only at hb6
        go_wp2_with fail
        go_ret
        exact ⟨by rw [HR.out, HNo.out]; rfl, below_next hbwx hb6⟩
      ·have HNo := Lib.hid (HN.out (fun e => h1 (congrArg (fun t : TxnM => t.1) e)))
       have h5 := beq_eq_false_iff_ne.2 h1
       have h6 : (s != s') = true := bne_iff_ne.2 h1
       clear HN HK h1
       go_wp2_with fail
       refine wp_region_later (by kernel_rfl) (by kernel_rfl) ?_
       repeat (go_big_quiet_step (first | (go_at_call 74; exact Later.call (HC.out _ (Later.h _)))))
       refine wpQuiet_nil ?_
       intro _ hw'
       obtain ⟨⟨w6, hb6⟩, hw''⟩ := hw'
       have hw3 : w6 = _ := hw''.symm
       subst hw3
       try dsimp only at hb6
       go_wp2_with fail
       go_ret
       exact ⟨by rw [HR.out, HNo.out]; rfl, below_next hbwx hb6⟩
     ·have hke : k = ha.2.2.length := by omega
      subst hke
      have HLL := Lib.hid (list_same noTxn ha.2.2 hb.2.2 HLM.out HEq.out)
      go_wp2_with fail
      go_ret
      exact ⟨by rw [HR.out, decide_eq_true HLL.out]; rfl, hbwx⟩
   ·have hlmi : ¬ (((ha.2.2.length : Nat) : Int) = ((hb.2.2.length : Nat) : Int)) := by omega
    have HNe := Lib.hid (len_not hlm)
    go_wp2_with fail
    go_ret
    exact ⟨by rw [HR.out, decide_eq_false HNe.out]; rfl, bel⟩
end
section
open Go.RowKit Go.Lib
structure DraftM where
 nm : List UInt8
 ks : List (List UInt8)
 ln : Int
 fate : Int
 ops : List OpM
 op : Bool
deriving DecidableEq
def noD : DraftM := ⟨[], [], 0, 0, [], false⟩
def namesD (L : List DraftM) : List (List UInt8) := L.map (·.nm)
def keysD (L : List DraftM) : List (List UInt8) := L.flatMap (·.ks)
def isAt (s : List UInt8) (d : DraftM) : Bool := d.op && decide (d.nm = s)
def atD (L : List DraftM) (s : List UInt8) : Nat := L.findIdx (isAt s)
def endD (d : DraftM) (f : Int) : DraftM := { d with fate := f, op := false }
def moreD (d : DraftM) (x : EventM) : DraftM := { d with ops := d.ops ++ [(x.1 == 3, 0, x.2.2.2.1, x.2.2.2.2.1)], ks := d.ks ++ [x.2.2.1] }
def putP (L : List DraftM) (x : EventM) : List DraftM × Int :=
 if mayE x = false then (L, 4)
 else if x.1 = 1 then
  if atD L x.2.1 < L.length then (L, 9)
  else if 20 < (sortedN (namesD L ++ [x.2.1])).length ∨ L.length = 40 then (L, 7)
  else (L ++ [⟨x.2.1, [], x.2.2.2.2.2, 0, [], true⟩], 0)
 else if ¬ atD L x.2.1 < L.length then (L, 10)
 else if 4 ≤ x.1 then (L.set (atD L x.2.1) (endD (L.getD (atD L x.2.1) noD) (x.1 - 3)), 0)
 else if (L.getD (atD L x.2.1) noD).ops.length = 20 ∨ 40 < (sortedN (keysD L ++ [x.2.2.1])).length then (L, 7)
 else (L.set (atD L x.2.1) (moreD (L.getD (atD L x.2.1) noD) x), 0)
def madeP : List EventM → List DraftM → List DraftM × Int × Int
 | [], L => (L, 0, 0)
 | x :: r, L => if (putP L x).2 = 0 then madeP r (putP L x).1 else ((putP L x).1, x.2.2.2.2.2, (putP L x).2)
def opK (K : List (List UInt8)) (o : OpM) (k : List UInt8) : OpM := (o.1, ((findT K k).1 : Int), o.2.2.1, o.2.2.2)
def txnD (S K : List (List UInt8)) (d : DraftM) : TxnM := (((findT S d.nm).1 : Int), d.fate, d.ops.zipWith (opK K) d.ks)
def noH : HistM := ([], [], [])
def histP (l : List EventM) : HistM × Int × Int :=
 if (madeP l []).2.2 ≠ 0 then (noH, (madeP l []).2.1, (madeP l []).2.2)
 else match (madeP l []).1.find? (·.op) with
  | some d => (noH, d.ln, 12)
  | none => ((sortedN (namesD (madeP l []).1), sortedN (keysD (madeP l []).1), (madeP l []).1.map (txnD (sortedN (namesD (madeP l []).1)) (sortedN (keysD (madeP l []).1)))), 0, 0)
structure GoodD (d : DraftM) : Prop where
 nm : nameL d.nm = true
 ks : ∀ k ∈ d.ks, nameL k = true
 len : d.ks.length = d.ops.length
 few : d.ops.length ≤ 20
 fate : 0 ≤ d.fate ∧ d.fate ≤ 3
structure GoodL (L : List DraftM) : Prop where
 all : ∀ d ∈ L, GoodD d
 few : L.length ≤ 40
 names : (sortedN (namesD L)).length ≤ 20
 keys : (sortedN (keysD L)).length ≤ 40
 one : ∀ i j : Nat, i < j → j < L.length → (L.getD i noD).op = true → (L.getD j noD).op = true → (L.getD i noD).nm ≠ (L.getD j noD).nm
theorem good_nil : GoodL [] := ⟨fun d h => (by cases h), by decide, by decide, by decide, fun i j h h2 => absurd h2 (Nat.not_lt_zero j)⟩
theorem atD_spec (L : List DraftM) (s : List UInt8) (h : atD L s < L.length) : (L.getD (atD L s) noD).op = true ∧ (L.getD (atD L s) noD).nm = s := by
 have h1 : isAt s L[atD L s] = true := List.findIdx_getElem (p := isAt s) (w := h)
 have e : L.getD (atD L s) noD = L[atD L s] := by simp [h]
 rw [e]
 generalize L[atD L s] = d at h1
 unfold isAt at h1
 simpa using h1
theorem atD_before (L : List DraftM) (s : List UInt8) (j : Nat) (h : j < atD L s) : isAt s (L.getD j noD) = false := by
 have hj : j < L.length := Nat.lt_of_lt_of_le h List.findIdx_le_length
 have h1 := List.not_of_lt_findIdx (p := isAt s) (xs := L) h
 have e : L.getD j noD = L[j] := by simp [hj]
 rw [e]
 simpa using h1
theorem atD_none (L : List DraftM) (s : List UInt8) (h : ¬ atD L s < L.length) (j : Nat) (hj : j < L.length) : isAt s (L.getD j noD) = false :=
 atD_before L s j (by omega)
theorem sortedN_same (A B : List (List UInt8)) (h : ∀ y, y ∈ A ↔ y ∈ B) : sortedN A = sortedN B := by
 obtain ⟨a1, a2⟩ := sortedN_spec A
 obtain ⟨b1, b2⟩ := sortedN_spec B
 exact strict_unique ltN ltN_irrefl ltN_trans _ _ a1 b1 (fun y => by rw [a2, b2, h])
theorem names_snoc (L : List DraftM) (d : DraftM) : namesD (L ++ [d]) = namesD L ++ [d.nm] := by simp [namesD]
theorem keys_snoc (L : List DraftM) (d : DraftM) : keysD (L ++ [d]) = keysD L ++ d.ks := by simp [keysD]
theorem names_set (L : List DraftM) (i : Nat) (d : DraftM) (hi : i < L.length) (h : d.nm = (L.getD i noD).nm) : namesD (L.set i d) = namesD L := by
 unfold namesD
 apply List.ext_getElem
 ·simp
 ·intro j h1 h2
  simp only [List.length_map] at h2
  rw [List.getElem_map, List.getElem_map, List.getElem_set]
  by_cases e : i = j
  ·subst e; rw [if_pos rfl, h]; simp [hi]
  ·rw [if_neg e]
theorem keys_mem (L : List DraftM) (y : List UInt8) : y ∈ keysD L ↔ ∃ j, j < L.length ∧ y ∈ (L.getD j noD).ks := by
 unfold keysD
 rw [List.mem_flatMap]
 constructor
 ·rintro ⟨d, hd, hy⟩
  obtain ⟨j, hj, rfl⟩ := List.getElem_of_mem hd
  exact ⟨j, hj, by simpa [hj] using hy⟩
 ·rintro ⟨j, hj, hy⟩
  exact ⟨L[j], List.getElem_mem hj, by simpa [hj] using hy⟩
theorem getD_setD (L : List DraftM) (i j : Nat) (d : DraftM) (hi : i < L.length) : (L.set i d).getD j noD = if i = j then d else L.getD j noD := by
 by_cases e : i = j
 ·subst e; simp [hi]
 ·rw [if_neg e]; simp [List.getElem?_set_ne e]
theorem keys_set (L : List DraftM) (i : Nat) (d : DraftM) (hi : i < L.length) (h : d.ks = (L.getD i noD).ks) : keysD (L.set i d) = keysD L := by
 unfold keysD
 rw [List.flatMap_def, List.flatMap_def]
 congr 1
 apply List.ext_getElem
 ·simp
 ·intro j h1 h2
  simp only [List.length_map] at h2
  rw [List.getElem_map, List.getElem_map, List.getElem_set]
  by_cases e : i = j
  ·subst e; rw [if_pos rfl, h]; simp [hi]
  ·rw [if_neg e]
theorem keys_more_mem (L : List DraftM) (i : Nat) (x : EventM) (hi : i < L.length) (y : List UInt8) : y ∈ keysD (L.set i (moreD (L.getD i noD) x)) ↔ y ∈ keysD L ++ [x.2.2.1] := by
 rw [List.mem_append, keys_mem, keys_mem, List.length_set]
 constructor
 ·rintro ⟨j, hj, hy⟩
  rw [getD_setD L i j _ hi] at hy
  by_cases e : i = j
  ·rw [if_pos e] at hy
   rcases List.mem_append.1 (show y ∈ (L.getD i noD).ks ++ [x.2.2.1] from hy) with h | h
   ·exact .inl ⟨i, hi, h⟩
   ·exact .inr h
  ·rw [if_neg e] at hy
   exact .inl ⟨j, hj, hy⟩
 ·rintro (⟨j, hj, hy⟩ | hy)
  ·refine ⟨j, hj, ?_⟩
   rw [getD_setD L i j _ hi]
   by_cases e : i = j
   ·subst e; rw [if_pos rfl]; exact List.mem_append.2 (.inl hy)
   ·rw [if_neg e]; exact hy
  ·refine ⟨i, hi, ?_⟩
   rw [getD_setD L i i _ hi, if_pos rfl]
   exact List.mem_append.2 (.inr hy)
theorem keys_more (L : List DraftM) (i : Nat) (x : EventM) (hi : i < L.length) : sortedN (keysD (L.set i (moreD (L.getD i noD) x))) = sortedN (keysD L ++ [x.2.2.1]) := sortedN_same _ _ (keys_more_mem L i x hi)
theorem mayE_nm (x : EventM) (h : mayE x = true) : nameL x.2.1 = true ∧ 1 ≤ x.1 ∧ x.1 ≤ 6 ∧ (x.1 = 2 ∨ x.1 = 3 → nameL x.2.2.1 = true) := by
 unfold mayE at h
 simp only [Bool.and_eq_true, decide_eq_true_eq] at h
 refine ⟨h.2.2.1, h.1, h.2.1, fun hk => ?_⟩
 have h4 := h.2.2.2
 have e : longK x.1 = true := by rcases hk with e | e <;> rw [e] <;> decide
 rw [if_pos e] at h4
 simp only [Bool.and_eq_true] at h4
 exact h4.1
theorem getD_memD (L : List DraftM) (i : Nat) (hi : i < L.length) : L.getD i noD ∈ L := by
 rw [show L.getD i noD = L[i] by simp [hi]]; exact List.getElem_mem hi
theorem good_set {L : List DraftM} (hL : GoodL L) (i : Nat) (d : DraftM) (hi : i < L.length) (hd : GoodD d) (hn : d.nm = (L.getD i noD).nm) (ho : d.op = true → (L.getD i noD).op = true) (hk : (sortedN (keysD (L.set i d))).length ≤ 40) : GoodL (L.set i d) := by
 refine ⟨fun e he => ?_, by rw [List.length_set]; exact hL.few, by rw [names_set L i d hi hn]; exact hL.names, hk, fun a b hab hb h1 h2 => ?_⟩
 ·rcases List.mem_or_eq_of_mem_set he with h | h
  ·exact hL.all e h
  ·rw [h]; exact hd
 ·rw [List.length_set] at hb
  rw [getD_setD L i a d hi] at h1 ⊢
  rw [getD_setD L i b d hi] at h2 ⊢
  have h3 : (if i = a then d else L.getD a noD).nm = (L.getD a noD).nm := by
   by_cases e : i = a
   ·subst e; rw [if_pos rfl, hn]
   ·rw [if_neg e]
  have h4 : (if i = b then d else L.getD b noD).nm = (L.getD b noD).nm := by
   by_cases e : i = b
   ·subst e; rw [if_pos rfl, hn]
   ·rw [if_neg e]
  rw [h3, h4]
  refine hL.one a b hab hb ?_ ?_
  ·by_cases e : i = a
   ·subst e; rw [if_pos rfl] at h1; exact ho h1
   ·rw [if_neg e] at h1; exact h1
  ·by_cases e : i = b
   ·subst e; rw [if_pos rfl] at h2; exact ho h2
   ·rw [if_neg e] at h2; exact h2
theorem put_good {L : List DraftM} (hL : GoodL L) (x : EventM) : GoodL (putP L x).1 := by
 unfold putP
 by_cases hm : mayE x = false
 ·rw [if_pos hm]; exact hL
 ·rw [if_neg hm]
  have hm' : mayE x = true := by simpa using hm
  obtain ⟨h1, h2, h3, h4⟩ := mayE_nm x hm'
  by_cases hk : x.1 = 1
  ·rw [if_pos hk]
   by_cases ha : atD L x.2.1 < L.length
   ·rw [if_pos ha]; exact hL
   ·rw [if_neg ha]
    by_cases hf : 20 < (sortedN (namesD L ++ [x.2.1])).length ∨ L.length = 40
    ·rw [if_pos hf]; exact hL
    ·rw [if_neg hf]
     have hl := hL.few
     refine ⟨fun d hd => ?_, by rw [List.length_append]; simp; omega, by rw [names_snoc]; simp only; omega, by rw [keys_snoc, List.append_nil]; exact hL.keys, fun i j hij hj g1 g2 => ?_⟩
     ·rcases List.mem_append.1 hd with h | h
      ·exact hL.all d h
      ·rw [List.mem_singleton] at h
       subst h
       exact ⟨h1, fun k hk => (by cases hk), rfl, Nat.zero_le _, Int.le_refl _, by simp only; omega⟩
     ·have hj' : j < L.length ∨ j = L.length := by simp at hj; omega
      have hi : i < L.length := by omega
      have e1 : ∀ d : DraftM, (L ++ [d]).getD i noD = L.getD i noD := fun d => by simp [List.getElem?_append_left hi]
      rw [e1] at g1 ⊢
      rcases hj' with hj' | rfl
      ·have e2 : ∀ d : DraftM, (L ++ [d]).getD j noD = L.getD j noD := fun d => by simp [List.getElem?_append_left hj']
       rw [e2] at g2 ⊢
       exact hL.one i j hij hj' g1 g2
      ·have e2 : ∀ d : DraftM, (L ++ [d]).getD L.length noD = d := fun d => by simp
       rw [e2]
       have h5 := atD_none L x.2.1 ha i hi
       intro e
       unfold isAt at h5
       rw [g1] at h5
       simp only [Bool.true_and, decide_eq_false_iff_not] at h5
       exact h5 e
  ·rw [if_neg hk]
   by_cases ha : atD L x.2.1 < L.length
   ·rw [if_neg (by simpa using ha)]
    obtain ⟨o1, o2⟩ := atD_spec L x.2.1 ha
    have hg := hL.all _ (getD_memD L _ ha)
    by_cases hf : 4 ≤ x.1
    ·rw [if_pos hf]
     refine good_set hL _ _ ha ⟨hg.nm, hg.ks, hg.len, hg.few, ?_, ?_⟩ rfl (fun h => (by cases h)) ?_
     ·show 0 ≤ x.1 - 3; omega
     ·show x.1 - 3 ≤ 3; omega
     ·rw [keys_set L _ (endD (L.getD (atD L x.2.1) noD) (x.1 - 3)) ha rfl]; exact hL.keys
    ·rw [if_neg hf]
     by_cases hc : (L.getD (atD L x.2.1) noD).ops.length = 20 ∨ 40 < (sortedN (keysD L ++ [x.2.2.1])).length
     ·rw [if_pos hc]; exact hL
     ·rw [if_neg hc]
      have hkey : nameL x.2.2.1 = true := h4 (by omega)
      refine good_set hL _ _ ha ⟨hg.nm, fun k h => ?_, ?_, ?_, hg.fate⟩ rfl (fun _ => o1) ?_
      ·rcases List.mem_append.1 (show k ∈ (L.getD (atD L x.2.1) noD).ks ++ [x.2.2.1] from h) with h | h
       ·exact hg.ks k h
       ·rw [List.mem_singleton] at h; rw [h]; exact hkey
      ·show ((L.getD (atD L x.2.1) noD).ks ++ [x.2.2.1]).length = ((L.getD (atD L x.2.1) noD).ops ++ [_]).length
       rw [List.length_append, List.length_append, hg.len]; rfl
      ·show ((L.getD (atD L x.2.1) noD).ops ++ [_]).length ≤ 20
       have := hg.few
       rw [List.length_append, List.length_singleton]; omega
      ·rw [keys_more L _ x ha]; omega
   ·rw [if_pos (by simpa using ha)]; exact hL
theorem made_good : ∀ (l : List EventM) (L : List DraftM), GoodL L → GoodL (madeP l L).1
 | [], _, h => h
 | x :: r, L, h => by
  unfold madeP
  by_cases e : (putP L x).2 = 0
  ·rw [if_pos e]; exact made_good r _ (put_good h x)
  ·rw [if_neg e]; exact put_good h x
theorem nodup_le {α : Type} [DecidableEq α] : ∀ (A B : List α), A.Nodup → (∀ x ∈ A, x ∈ B) → A.length ≤ B.length
 | [], _, _, _ => Nat.zero_le _
 | a :: A, B, hn, h => by
  rw [List.nodup_cons] at hn
  have hb := h a (List.mem_cons_self ..)
  have h1 := nodup_le A (B.erase a) hn.2 (fun x hx => (List.mem_erase_of_ne (fun e => hn.1 (by rw [← e]; exact hx))).2 (h x (List.mem_cons_of_mem _ hx)))
  rw [List.length_erase_of_mem hb] at h1
  have := List.length_pos_of_mem hb
  rw [List.length_cons]
  omega
theorem sorted_nodup (M : List (List UInt8)) : (sortedN M).Nodup := (sortedN_spec M).1.imp (fun h e => by subst e; rw [ltN_irrefl] at h; cases h)
theorem sorted_count (ks M : List (List UInt8)) (hd : ks.Nodup) (hm : ∀ x, x ∈ ks ↔ x ∈ M) (hn : ∀ x ∈ M, nameL x = true) : (sortedN M).length = ks.length := by
 have h2 := (sortedN_spec M).2
 refine Nat.le_antisymm (nodup_le _ _ (sorted_nodup M) (fun x hx => (hm x).2 ((h2 x).1 hx).1)) (nodup_le _ _ hd (fun x hx => (h2 x).2 ⟨(hm x).1 hx, hn x ((hm x).1 hx)⟩))
theorem names_good {L : List DraftM} (hL : GoodL L) : ∀ x ∈ namesD L, nameL x = true := fun x hx => by
 obtain ⟨d, hd, rfl⟩ := List.mem_map.1 hx
 exact (hL.all d hd).nm
theorem keys_good {L : List DraftM} (hL : GoodL L) : ∀ x ∈ keysD L, nameL x = true := fun x hx => by
 obtain ⟨d, hd, h⟩ := List.mem_flatMap.1 hx
 exact (hL.all d hd).ks x h
theorem count_more (ks M : List (List UInt8)) (s : List UInt8) (m : Nat) (hd : ks.Nodup) (hm : ∀ x, x ∈ ks ↔ x ∈ M) (hn : ∀ x ∈ M, nameL x = true) (hs : nameL s = true) (hle : (sortedN M).length ≤ m) : (m < (sortedN (M ++ [s])).length ↔ s ∉ ks ∧ ks.length = m) ∧ ks.length ≤ m := by
 have h1 := sorted_count ks M hd hm hn
 by_cases h : s ∈ ks
 ·have h2 := sorted_count ks (M ++ [s]) hd (fun x => by
   rw [List.mem_append, List.mem_singleton, hm]
   exact ⟨.inl, fun g => g.elim id (fun e => by rw [e]; exact (hm s).1 h)⟩) (fun x hx => (List.mem_append.1 hx).elim (hn x) (fun g => by rw [List.mem_singleton.1 g]; exact hs))
  rw [h2]
  exact ⟨⟨fun g => by omega, fun g => absurd h g.1⟩, by omega⟩
 ·have h2 := sorted_count (ks ++ [s]) (M ++ [s]) (List.nodup_append.2 ⟨hd, by simp, fun a ha b hb e => by rw [List.mem_singleton] at hb; subst hb; subst e; exact h ha⟩) (fun x => by rw [List.mem_append, List.mem_append, hm]) (fun x hx => (List.mem_append.1 hx).elim (hn x) (fun g => by rw [List.mem_singleton.1 g]; exact hs))
  rw [h2, List.length_append, List.length_singleton]
  exact ⟨⟨fun g => ⟨h, by omega⟩, fun g => by omega⟩, by omega⟩
end
section
open Go.RowKit Go.Lib Go.Maps Go.WideMaps
theorem heap_kept (w : World) (o : Obj) {r : Nat} (h : r < w.heap.size) : (w.alloc o).heap[r]? = w.heap[r]? := by
 show (w.heap.push o)[r]? = _
 rw [Array.getElem?_push, if_neg (by omega)]
theorem owns_cap {w : World} {base size n m c : Nat} {e : TypeId} {v : Value} {xs : List Value} {p : Option Addr} (h : w.ownsRow base e size v n xs) (hv : v = .slice p m c) : n ≤ c := by
 rcases h.2 with ⟨rfl, rfl⟩ | ⟨g, cap, cur, rfl, -, -, hc, -⟩
 ·exact Nat.zero_le _
 ·injection hv with _ _ hv
  rw [← hv]
  exact hc
theorem keyStr : Keyed Tryz.prog 9 := string_keyed Tryz.underlying9
theorem key_of (l : List UInt8) (h : l.length ≤ 9223372036854775807) : keyOf Tryz.prog 9 (.string (bs l)) = some (.string l) := by
 have h1 := keyOf_string_mk Tryz.underlying9 (s := bs l) (by rw [bs_size]; unfold maxLen; exact h)
 rw [h1]
 simp [bs]
theorem ownsMap_at {H : Type} {w w' : World} {P : Program} {k : TypeId} {R : Value → Option (DataW H × List MemPlace)} {b n : Nat} {D : DataW H} (h : w.ownsMap P k R b n D) (e : w'.heap[b]? = w.heap[b]?) : w'.ownsMap P k R b n D := by
 obtain ⟨es, clock, hb, r⟩ := h
 exact ⟨es, clock, e.trans hb, r⟩
theorem ownsMap_tight {H : Type} {w : World} {P : Program} {k : TypeId} {R : Value → Option (DataW H × List MemPlace)} {b n : Nat} {D : DataW H} (h : w.ownsMap P k R b n D) : w.ownsMap P k R b (Maps.size D) D := by
 obtain ⟨es, clock, hb, F, _, rfl⟩ := h
 exact ⟨es, clock, hb, F, by simp [Maps.size, length_sorted], rfl⟩
def CntM (w : World) (b : Nat) (ks : List (List UInt8)) (N : Nat) : Prop :=
 ∃ D : DataW Unit, w.ownsMap Tryz.prog 9 (plainElem Tryz.prog 3) b (Maps.size D) D ∧ Maps.size D = ks.length ∧ (∀ l, Maps.has D (.string l) = decide (l ∈ ks)) ∧
  ∀ l, ∃ c : Int, (∀ z, l ∈ ks → D.atKey (.string l) z = .lit (.int .i64 c)) ∧ (l ∈ ks → 1 ≤ c ∧ c ≤ N)
theorem CntM.at {w w' : World} {b : Nat} {ks : List (List UInt8)} {N : Nat} (h : CntM w b ks N) (e : w'.heap[b]? = w.heap[b]?) : CntM w' b ks N := by
 obtain ⟨D, h1, h2⟩ := h
 exact ⟨D, ownsMap_at h1 e, h2⟩
theorem CntM.lt {w : World} {b : Nat} {ks : List (List UInt8)} {N : Nat} (h : CntM w b ks N) : b < w.heap.size := by
 obtain ⟨D, h1, h2⟩ := h
 exact h1.lt
theorem cnt_new (w : World) : CntM (w.alloc (.map #[] 0)) w.heap.size [] 0 :=
 ⟨.map [], ownsMap_tight (World.ownsMap_made w _ _ _), rfl, fun l => by simp [Maps.has], fun l => ⟨0, fun _ h => (by cases h), fun h => (by cases h)⟩⟩
theorem zero_cnt (w : World) : (zeroValue 3).run Tryz.prog w = .ok (.int .i64 0) w := by kernel_rfl
set_option maxRecDepth 10000 in
theorem cnt_look {w : World} {b : Nat} {ks : List (List UInt8)} {N : Nat} (h : CntM w b ks N) (hN : ks.length ≤ 1000000 ∧ N ≤ 1000000) (l : List UInt8) (hl : l.length ≤ 9223372036854775807) :
  ∃ c : Int, (c = 0 ↔ l ∉ ks) ∧ 0 ≤ c ∧ c ≤ N ∧ ∀ w1 : World, w1.heap[b]? = w.heap[b]? → (Instr.lookup 132 (.map (some b)) (.string (bs l)) false).run Tryz.prog w1 = .ok (.int .i64 c) w1 ∧
   ∃ w', (Instr.mapUpdate 132 (.map (some b)) (.string (bs l)) (.int .i64 (c + 1))).run Tryz.prog w1 = .ok () w' ∧ CntM w' b (if l ∈ ks then ks else ks ++ [l]) (N + 1) ∧ w1.mapTurned w' b := by
 obtain ⟨D, h1, h2, h3, h4⟩ := h
 obtain ⟨c, -, hat, -⟩ := h1.lookup_int keyStr Tryz.underlying132 Tryz.underlying3 (zero_cnt w) (key_of l hl)
 have hat0 := hat
 have hc : (c = 0 ↔ l ∉ ks) ∧ 0 ≤ c ∧ c ≤ N := by
  by_cases hk : l ∈ ks
  ·obtain ⟨c', e1, e2⟩ := h4 l
   rw [e1 _ hk] at hat
   have e : c' = c := by injection hat with hat; injection hat
   have := e2 hk
   subst e
   exact ⟨⟨fun h => by omega, fun h => absurd hk h⟩, by omega, by omega⟩
  ·have e := atKey_of_not_has (D := D) (k := .string l) (by rw [h3]; exact decide_eq_false hk) (.lit (.int .i64 0))
   rw [e] at hat
   have e : 0 = c := by injection hat with hat; injection hat
   subst e
   exact ⟨⟨fun _ => hk, fun _ => rfl⟩, Int.le_refl _, by omega⟩
 have hsz : Maps.size D < maxLen := by unfold maxLen; omega
 refine ⟨c, hc.1, hc.2.1, hc.2.2, fun w1 hw1 => ?_⟩
 replace h1 := ownsMap_at h1 hw1
 obtain ⟨c', hrun, hat', -⟩ := h1.lookup_int keyStr Tryz.underlying132 Tryz.underlying3 (zero_cnt w1) (key_of l hl)
 have ecc : c' = c := by rw [hat0] at hat'; injection hat' with hat'; injection hat' with _ hat'; exact hat'.symm
 subst ecc
 obtain ⟨w', r1, r2, r3⟩ := h1.store keyStr Tryz.underlying132 hsz (key_of l hl) (plainElem_int Tryz.underlying3 (WalkArith.wf_i64 (n := c' + 1) (by omega)))
 refine ⟨hrun, w', r1, ⟨D.put (.string l) (.lit (.int .i64 (c' + 1))), ownsMap_tight r2, ?_, fun k => ?_, fun k => ?_⟩, r3⟩
 ·rw [size_put (h1.tidy keyStr), h3, h2]
  by_cases hk : l ∈ ks
  ·rw [if_pos (decide_eq_true hk), if_pos hk]
  ·rw [if_neg (by simpa using hk), if_neg hk]; simp
 ·by_cases e : k = l
  ·subst e
   rw [has_put_same h1.isMap (show WideAt.IsKeyLit (.string k) from trivial)]
   by_cases hk : k ∈ ks
   ·simp [hk]
   ·simp [hk]
  ·rw [has_put_other (by simpa using e), h3]
   by_cases hk : l ∈ ks
   ·simp [hk]
   ·simp [hk, e]
 ·by_cases e : k = l
  ·subst e
   refine ⟨c' + 1, fun z _ => atKey_put_same h1.isMap (show WideAt.IsKeyLit (.string k) from trivial) _ _, fun _ => ⟨by omega, by omega⟩⟩
  ·obtain ⟨c2, e1, e2⟩ := h4 k
   have hm : k ∈ (if l ∈ ks then ks else ks ++ [l]) → k ∈ ks := by
    by_cases hk : l ∈ ks
    ·rw [if_pos hk]; exact id
    ·rw [if_neg hk]; simp [e]
   exact ⟨c2, fun z h => by rw [atKey_put_other (by simpa using e)]; exact e1 z (hm h), fun h => by have := e2 (hm h); omega⟩
theorem cnt_len {w : World} {b : Nat} {ks : List (List UInt8)} {N : Nat} (h : CntM w b ks N) (ty : TypeId) : (Builtin.len_ #[132] ty #[.map (some b)]).run Tryz.prog w = .ok (.int .i64 ks.length) w := by
 obtain ⟨D, h1, h2, -⟩ := h
 rw [← h2]
 exact h1.len Tryz.underlying132 ty
def ptrElem : Value → Option (DataW Unit × List MemPlace)
 | .pointer none => some (.lit (.int .i64 (-1)), [])
 | .pointer (some ⟨g, 0, none⟩) => some (.lit (.int .i64 g), [])
 | _ => none
def ptrAt : Option Nat → Value
 | none => .pointer none
 | some g => .pointer (some ⟨g, 0, none⟩)
def numAt : Option Nat → Int
 | none => -1
 | some g => g
theorem ptr_elem (o : Option Nat) : ptrElem (ptrAt o) = some (.lit (.int .i64 (numAt o)), []) := by cases o <;> rfl
theorem ptr_inv {v : Value} {o : Option Nat} {ps : List MemPlace} (h : ptrElem v = some (.lit (.int .i64 (numAt o)), ps)) : v = ptrAt o := by
 have lit : ∀ (a b : Int) (q q' : List MemPlace), (some ((.lit (.int .i64 a) : DataW Unit), q) = some ((.lit (.int .i64 b) : DataW Unit), q')) → a = b := fun a b q q' e => by
  simpa using (Prod.mk.inj (Option.some.inj e)).1
 unfold ptrElem at h
 split at h
 ·have e := lit _ _ _ _ h
  cases o with
  | none => rfl
  | some g => simp only [numAt] at e; omega
 ·have e := lit _ _ _ _ h
  cases o with
  | none => simp only [numAt] at e; omega
  | some g =>
   simp only [numAt] at e
   rename_i g'
   have e2 : g' = g := by omega
   rw [e2]; rfl
 ·cases h
def updF (f : List UInt8 → Option Nat) (l : List UInt8) (o : Option Nat) (k : List UInt8) : Option Nat := if k = l then o else f k
theorem upd_same (f : List UInt8 → Option Nat) (l : List UInt8) (o : Option Nat) : updF f l o l = o := if_pos rfl
theorem upd_other (f : List UInt8 → Option Nat) (l : List UInt8) (o : Option Nat) {k : List UInt8} (h : k ≠ l) : updF f l o k = f k := if_neg h
def OpnM (w : World) (b : Nat) (f : List UInt8 → Option Nat) (n : Nat) : Prop :=
 ∃ D : DataW Unit, w.ownsMap Tryz.prog 9 ptrElem b n D ∧ (∀ l, Maps.has D (.string l) = (f l).isSome) ∧ ∀ l z, (f l).isSome = true → D.atKey (.string l) z = .lit (.int .i64 (numAt (f l)))
theorem OpnM.at {w w' : World} {b n : Nat} {f : List UInt8 → Option Nat} (h : OpnM w b f n) (e : w'.heap[b]? = w.heap[b]?) : OpnM w' b f n := by
 obtain ⟨D, h1, h2⟩ := h
 exact ⟨D, ownsMap_at h1 e, h2⟩
theorem OpnM.lt {w : World} {b n : Nat} {f : List UInt8 → Option Nat} (h : OpnM w b f n) : b < w.heap.size := by
 obtain ⟨D, h1, h2⟩ := h
 exact h1.lt
theorem opn_new (w : World) : OpnM (w.alloc (.map #[] 0)) w.heap.size (fun _ => none) 0 :=
 ⟨.map [], World.ownsMap_made w _ _ _, fun l => by simp [Maps.has], fun l z h => (by cases h)⟩
theorem zero_ptr (w : World) : (zeroValue 135).run Tryz.prog w = .ok (.pointer none) w := by kernel_rfl
theorem opn_look {w : World} {b n : Nat} {f : List UInt8 → Option Nat} (h : OpnM w b f n) (l : List UInt8) (hl : l.length ≤ 9223372036854775807) :
  (Instr.lookup 131 (.map (some b)) (.string (bs l)) false).run Tryz.prog w = .ok (ptrAt (f l)) w := by
 obtain ⟨D, h1, h2, h3⟩ := h
 obtain ⟨v, ps, hrun, hv⟩ := h1.lookup keyStr Tryz.underlying131 (zero_ptr w) (zd := .lit (.int .i64 (-1))) (zp := []) rfl (key_of l hl)
 have e : D.atKey (.string l) (.lit (.int .i64 (-1))) = .lit (.int .i64 (numAt (f l))) := by
  cases hf : f l with
  | some g =>
   have h4 := h3 l (.lit (.int .i64 (-1))) (by rw [hf]; rfl)
   rw [hf] at h4
   exact h4
  | none => exact atKey_of_not_has (by rw [h2, hf]; rfl) _
 rw [e] at hv
 rw [hrun, ptr_inv hv]
theorem opn_put {w : World} {b n : Nat} {f : List UInt8 → Option Nat} (h : OpnM w b f n) (hn : n ≤ 1000000) (l : List UInt8) (hl : l.length ≤ 9223372036854775807) (g : Nat) :
  ∃ w', (Instr.mapUpdate 131 (.map (some b)) (.string (bs l)) (.pointer (some ⟨g, 0, none⟩))).run Tryz.prog w = .ok () w' ∧ OpnM w' b (updF f l (some g)) (n + 1) ∧ w.mapTurned w' b := by
 obtain ⟨D, h1, h2, h3⟩ := h
 obtain ⟨w', r1, r2, r3⟩ := h1.store keyStr Tryz.underlying131 (by unfold maxLen; omega) (key_of l hl) (ptr_elem (some g))
 refine ⟨w', r1, ⟨_, r2, fun k => ?_, fun k z hk => ?_⟩, r3⟩
 ·by_cases e : k = l
  ·subst e
   rw [has_put_same h1.isMap (show WideAt.IsKeyLit (.string k) from trivial), upd_same]; rfl
  ·rw [has_put_other (by simpa using e), upd_other _ _ _ e, h2]
 ·by_cases e : k = l
  ·subst e
   rw [atKey_put_same h1.isMap (show WideAt.IsKeyLit (.string k) from trivial), upd_same]
  ·rw [upd_other _ _ _ e] at hk ⊢
   rw [atKey_put_other (by simpa using e)]
   exact h3 k z hk
theorem opn_del {w : World} {b n : Nat} {f : List UInt8 → Option Nat} (h : OpnM w b f n) (l : List UInt8) (hl : l.length ≤ 9223372036854775807) (ty : TypeId) :
  ∃ w', (Builtin.delete_ #[131, 9] ty #[.map (some b), .string (bs l)]).run Tryz.prog w = .ok (.tuple #[]) w' ∧ OpnM w' b (updF f l none) n ∧ w.mapTurned w' b := by
 obtain ⟨D, h1, h2, h3⟩ := h
 obtain ⟨w', r1, r2, r3⟩ := h1.drop keyStr Tryz.underlying131 (key_of l hl) ty
 refine ⟨w', r1, ⟨_, r2, fun k => ?_, fun k z hk => ?_⟩, r3⟩
 ·by_cases e : k = l
  ·subst e
   rw [has_del_same, upd_same]; rfl
  ·rw [has_del_other (by simpa using e), upd_other _ _ _ e, h2]
 ·by_cases e : k = l
  ·subst e
   rw [upd_same] at hk; cases hk
  ·rw [upd_other _ _ _ e] at hk ⊢
   rw [atKey_del_other (by simpa using e)]
   exact h3 k z hk
end
section
open Go.RowKit
theorem flat_at {α : Type} (f : α → List Value) (s : Nat) (hf : ∀ x, (f x).length = s) (d : α) : ∀ (L : List α) (j i : Nat), j < L.length → i < s → (L.flatMap f)[j * s + i]? = (f (L.getD j d))[i]?
 | [], j, _, hj, _ => absurd hj (Nat.not_lt_zero j)
 | x :: L, 0, i, _, hi => by
  rw [List.flatMap_cons, Nat.zero_mul, Nat.zero_add, List.getElem?_append_left (by rw [hf]; exact hi)]
  rfl
 | x :: L, j + 1, i, hj, hi => by
  rw [List.flatMap_cons, List.getElem?_append_right (by rw [hf, Nat.add_mul]; omega), hf, show (j + 1) * s + i - s = j * s + i by rw [Nat.add_mul]; omega]
  rw [flat_at f s hf d L j i (by simpa using hj) hi]
  rfl
theorem flat_len {α : Type} (f : α → List Value) (s : Nat) (hf : ∀ x, (f x).length = s) (L : List α) : (L.flatMap f).length = L.length * s := by
 induction L with
 | nil => simp
 | cons x L ih => rw [List.flatMap_cons, List.length_append, ih, hf, List.length_cons, Nat.add_mul]; omega
theorem flat_set {α : Type} (f : α → List Value) (s : Nat) (hf : ∀ x, (f x).length = s) (A B : List α) (x y : α) (i : Nat) (u : Value) (hi : i < s) (hy : f y = (f x).set i u) : ((A ++ x :: B).flatMap f).set (A.length * s + i) u = (A ++ y :: B).flatMap f := by
 rw [List.flatMap_append, List.flatMap_append, List.flatMap_cons, List.flatMap_cons, List.set_append_right _ _ (by rw [flat_len f s hf]; omega), flat_len f s hf, show A.length * s + i - A.length * s = i by omega, List.set_append_left _ _ (by rw [hf]; exact hi), hy]
theorem flat_snoc {α : Type} (f : α → List Value) (L : List α) (x : α) : L.flatMap f ++ f x = (L ++ [x]).flatMap f := by simp
def SlS {α : Type} (f : α → List Value) (s : Nat) (d : α) (w : World) (v : Value) (L : List α) : Prop := ∃ p cap, v = .slice p L.length cap ∧ ∀ j, j < L.length → ∃ g, p = some ⟨g, 0, none⟩ ∧ ∀ i u, (f (L.getD j d))[i]? = some u → w.cell? ⟨g, j * s + i, none⟩ = some u
theorem SlS.below {α : Type} {f : α → List Value} {s : Nat} {d : α} {w w' : World} {v : Value} {L : List α} (h : SlS f s d w v L) (hb : Below w.heap.size w w') : SlS f s d w' v L := by
 obtain ⟨p, cap, hv, hc⟩ := h
 refine ⟨p, cap, hv, fun j hj => ?_⟩
 obtain ⟨g, hp, h1⟩ := hc j hj
 exact ⟨g, hp, fun i u hu => cell_later hb (h1 i u hu)⟩
theorem sls_none {α : Type} (f : α → List Value) (s : Nat) (d : α) (w : World) : SlS f s d w (.slice none 0 0) [] := ⟨none, 0, rfl, fun j hj => absurd hj (Nat.not_lt_zero j)⟩
theorem own_sls {α : Type} {f : α → List Value} {s : Nat} (d : α) (hf : ∀ x, (f x).length = s) {w : World} {B : Nat} {e : TypeId} {v : Value} {L : List α} (h : w.ownsRow B e s v L.length (L.flatMap f)) : SlS f s d w v L := by
 obtain ⟨-, ⟨h0, hn⟩ | ⟨g, cap, cur, hv, -, hw, -, -, -, ht⟩⟩ := h
 ·have : L = [] := List.eq_nil_of_length_eq_zero hn
  subst this h0
  exact sls_none f s d w
 ·refine ⟨_, cap, hv, fun j hj => ⟨g, rfl, fun i u hu => ?_⟩⟩
  have hi : i < s := by
   have := (List.getElem?_eq_some_iff.1 hu).1
   rw [hf] at this
   exact this
  have hjs : j * s + i < L.length * s := by
   have : (j + 1) * s ≤ L.length * s := Nat.mul_le_mul_right s hj
   rw [Nat.add_mul] at this
   omega
  have h1 := congrArg (fun x : List Value => x[j * s + i]?) ht
  simp only [List.getElem?_take, hjs, if_true, Array.getElem?_toList] at h1
  rw [cell_of_row w g (j * s + i) _ _ (0, 0) hw, h1, flat_at f s hf d L j i hj hi]
  exact hu
end
end Go.Proofs.YtmgchjddpmmglaaGreatDoor
