/-
  Layer 11 (hist): are two lists of texts, of operations, the same: the program's way and the reference's. No conditions but lengths below 2^62.
  Layer 11 (hist): are two histories the same: the reference's way. No conditions but lengths.
  Layer 14 (erase): the statement EraseStays, walked. Conditions: unicode/utf8's two tables and event.words hold what their initialisers lay, internal/bytealg.MaxLen holds a number.
-/
import Derived.Test.YtmgchjddpmmglaaGreatDoorRWl
import Derived.Deep.CutBlock
namespace Go.Proofs.YtmgchjddpmmglaaGreatDoor
section
open Go.RowKit Go.Lib
theorem list_same {α : Type} (d : α) (L M : List α) (hl : L.length = M.length) (h : ∀ j, j < L.length → L.getD j d = M.getD j d) : L = M := by
 refine List.ext_getElem hl (fun j h1 h2 => ?_)
 have := h j h1
 simpa [h1, h2] using this
theorem list_not {α : Type} (d : α) {L M : List α} {k : Nat} (h : L.getD k d ≠ M.getD k d) : L ≠ M := fun e => h (by rw [e])
theorem len_not {α : Type} {L M : List α} (h : L.length ≠ M.length) : L ≠ M := fun e => h (by rw [e])
set_option maxRecDepth 100000 in
set_option maxHeartbeats 4000000 in
theorem rtexts_any (v v' : Value) (L M : List (List UInt8)) (w : World) (hv : Texts w v L) (hv' : Texts w v' M) (hl : L.length ≤ 1000000) (_ : M.length ≤ 1000000) :
  Calls Tryz.prog 73 #[v, v'] w fun e w' => e = .returned (.bool (decide (L = M))) ∧ Below w.heap.size w w' := by
 obtain ⟨p, c, rfl, hp⟩ := hv
 obtain ⟨q, d, rfl, hq⟩ := hv'
 have HP := Lib.hid hp
 have HQ := Lib.hid hq
 clear hp hq
 go_enter Tryz.func73, Tryz.ntmps73
 by_cases hlm : L.length = M.length
 ·have hlmi : ((L.length : Nat) : Int) = ((M.length : Nat) : Int) := by omega
  have HLM := Lib.hid hlm
  clear hlm
  go_wp2_with fail
  go_loopw [5] (fun i wr => ∃ k : Nat, k ≤ L.length ∧ i = .int .i64 k ∧ (∀ j, j < k → L.getD j [] = M.getD j []) ∧ Below w.heap.size w wr) (fun i _ => L.length - (RowKit.intOf i).toNat)
  case atStart => exact ⟨0, Nat.zero_le _, rfl, fun j hj => absurd hj (Nat.not_lt_zero j), Below.refl _ _⟩
  case round =>
   obtain ⟨k, hk, rfl, heq, hbw⟩ := hrel
   have HEq := Lib.hid heq
   clear heq
   by_cases hk1 : k < L.length
   ·have hk2 : k < M.length := by rw [← HLM.out]; exact hk1
    obtain ⟨g, rfl, a1⟩ := HP.out k hk1
    obtain ⟨g', rfl, b1⟩ := HQ.out k hk2
    have a1' := cell_later hbw a1
    have b1' := cell_later hbw b1
    clear a1 b1
    by_cases hxy : L.getD k [] = M.getD k []
    ·have HK : RowKit.Hid (∀ j, j < k + 1 → L.getD j [] = M.getD j []) := Lib.hid (fun j hj => by
      by_cases h : j = k
      ·subst h; exact hxy
      ·exact HEq.out j (by omega))
     rw [← hxy] at b1'
     clear hxy
     generalize L.getD k [] = x at *
     go_wp2_with fail
     go_quiet (fail)
     have hbw2 : Below w.heap.size w (wr.drewN nq) := hbw.trans ⟨rfl, rfl, rfl, Nat.le_refl _, fun _ _ => rfl⟩
     generalize wr.drewN nq = wq at *
     go_wp2_with fail
     go_roundw
     case rel => exact ⟨k + 1, by omega, by go_num, HK.out, hbw2⟩
     case measure => simp [RowKit.intOf]; omega
    ·have HNe := Lib.hid (list_not (d := []) hxy)
     generalize L.getD k [] = x at *
     generalize M.getD k [] = y at *
     have hb2 : (x == y) = false := beq_eq_false_iff_ne.2 hxy
     clear hxy
     go_wp2_with fail
     go_quiet (fail)
     have hbw2 : Below w.heap.size w (wr.drewN nq) := hbw.trans ⟨rfl, rfl, rfl, Nat.le_refl _, fun _ _ => rfl⟩
     generalize wr.drewN nq = wq at *
     go_wp2_with fail
     go_ret
     exact ⟨by rw [decide_eq_false HNe.out]; rfl, hbw2⟩
   ·have hke : k = L.length := by omega
    subst hke
    have HLL := Lib.hid (list_same [] L M HLM.out HEq.out)
    go_wp2_with fail
    go_ret
    exact ⟨by rw [decide_eq_true HLL.out]; rfl, hbw⟩
 ·have HNe := Lib.hid (len_not hlm)
  have hlmi : ¬ (((L.length : Nat) : Int) = ((M.length : Nat) : Int)) := by omega
  go_wp2_with fail
  go_ret
  exact ⟨by rw [decide_eq_false HNe.out]; rfl, Below.refl _ _⟩
set_option maxRecDepth 100000 in
set_option maxHeartbeats 4000000 in
theorem rsameops_any (v v' : Value) (L M : List OpM) (w : World) (hv : OpsS w v L) (hv' : OpsS w v' M) (hl : L.length ≤ 1000000) (_ : M.length ≤ 1000000) :
  Calls Tryz.prog 74 #[v, v'] w fun e w' => e = .returned (.bool (decide (L = M))) ∧ Below w.heap.size w w' := by
 obtain ⟨p, c, rfl, -, hp⟩ := hv
 obtain ⟨q, d, rfl, -, hq⟩ := hv'
 have HP := Lib.hid hp
 have HQ := Lib.hid hq
 clear hp hq
 go_enter Tryz.func74, Tryz.ntmps74
 by_cases hlm : L.length = M.length
 ·have hlmi : ((L.length : Nat) : Int) = ((M.length : Nat) : Int) := by omega
  have HLM := Lib.hid hlm
  clear hlm
  go_wp2_with fail
  go_loopw [5] (fun i wr => ∃ k : Nat, k ≤ L.length ∧ i = .int .i64 k ∧ (∀ j, j < k → L.getD j noOp = M.getD j noOp) ∧ Below w.heap.size w wr) (fun i _ => L.length - (RowKit.intOf i).toNat)
  case atStart => exact ⟨0, Nat.zero_le _, rfl, fun j hj => absurd hj (Nat.not_lt_zero j), Below.refl _ _⟩
  case round =>
   obtain ⟨k, hk, rfl, heq, hbw⟩ := hrel
   have HEq := Lib.hid heq
   clear heq
   by_cases hk1 : k < L.length
   ·have hk2 : k < M.length := by rw [← HLM.out]; exact hk1
    obtain ⟨g, rfl, a1, a2, a3, a4⟩ := HP.out k hk1
    obtain ⟨g', rfl, b1, b2, b3, b4⟩ := HQ.out k hk2
    have a1' := cell_later hbw a1
    have b1' := cell_later hbw b1
    have a2' := cell_later hbw a2
    have b2' := cell_later hbw b2
    have a3' := cell_later hbw a3
    have b3' := cell_later hbw b3
    have a4' := cell_later hbw a4
    have b4' := cell_later hbw b4
    clear a1 b1 a2 b2 a3 b3 a4 b4
    by_cases hxy : L.getD k noOp = M.getD k noOp
    ·have HK : RowKit.Hid (∀ j, j < k + 1 → L.getD j noOp = M.getD j noOp) := Lib.hid (fun j hj => by
      by_cases h : j = k
      ·subst h; exact hxy
      ·exact HEq.out j (by omega))
     rw [← hxy] at b1' b2' b3' b4'
     clear hxy
     generalize L.getD k noOp = x at *
     obtain ⟨x1, x2, x3, x4⟩ := x
     simp only at a1' a2' a3' a4' b1' b2' b3' b4'
     go_wp2_with fail
     go_quiet (fail)
     have hbw2 : Below w.heap.size w (wr.drewN nq) := hbw.trans ⟨rfl, rfl, rfl, Nat.le_refl _, fun _ _ => rfl⟩
     generalize wr.drewN nq = wq at *
     go_wp2_with fail
     go_roundw
     case rel => exact ⟨k + 1, by omega, by go_num, HK.out, hbw2⟩
     case measure => simp [RowKit.intOf]; omega
    ·have HNe := Lib.hid (list_not (d := noOp) hxy)
     generalize L.getD k noOp = x at *
     generalize M.getD k noOp = y at *
     obtain ⟨x1, x2, x3, x4⟩ := x
     obtain ⟨y1, y2, y3, y4⟩ := y
     have hd : (x1 = true ∧ y1 = false) ∨ (x1 = false ∧ y1 = true) ∨ (x1 = y1 ∧ ¬ x2 = y2) ∨ (x1 = y1 ∧ x2 = y2 ∧ ¬ x3 = y3) ∨ (x1 = y1 ∧ x2 = y2 ∧ x3 = y3 ∧ ¬ x4 = y4) := by
      by_cases h1 : x1 = y1
      ·by_cases h2 : x2 = y2
       ·by_cases h3 : x3 = y3
        ·by_cases h4 : x4 = y4
         ·exact absurd (by rw [h1, h2, h3, h4]) hxy
         ·exact .inr (.inr (.inr (.inr ⟨h1, h2, h3, h4⟩)))
        ·exact .inr (.inr (.inr (.inl ⟨h1, h2, h3⟩)))
       ·exact .inr (.inr (.inl ⟨h1, h2⟩))
      ·cases x1 <;> cases y1
       ·exact absurd rfl h1
       ·exact .inr (.inl ⟨rfl, rfl⟩)
       ·exact .inl ⟨rfl, rfl⟩
       ·exact absurd rfl h1
     simp only at a1' a2' a3' a4' b1' b2' b3' b4'
     clear hxy
     rcases hd with ⟨rfl, rfl⟩ | ⟨rfl, rfl⟩ | ⟨rfl, hd⟩ | ⟨rfl, rfl, hd⟩ | ⟨rfl, rfl, rfl, hd⟩
     ·go_wp2_with fail
      go_quiet (fail)
      have hbw2 : Below w.heap.size w (wr.drewN nq) := hbw.trans ⟨rfl, rfl, rfl, Nat.le_refl _, fun _ _ => rfl⟩
      generalize wr.drewN nq = wq at *
      go_wp2_with fail
      go_ret
      exact ⟨by rw [decide_eq_false HNe.out]; rfl, hbw2⟩
     ·go_wp2_with fail
      go_quiet (fail)
      have hbw2 : Below w.heap.size w (wr.drewN nq) := hbw.trans ⟨rfl, rfl, rfl, Nat.le_refl _, fun _ _ => rfl⟩
      generalize wr.drewN nq = wq at *
      go_wp2_with fail
      go_ret
      exact ⟨by rw [decide_eq_false HNe.out]; rfl, hbw2⟩
     ·have he := beq_eq_false_iff_ne.2 hd
      go_wp2_with fail
      go_quiet (fail)
      have hbw2 : Below w.heap.size w (wr.drewN nq) := hbw.trans ⟨rfl, rfl, rfl, Nat.le_refl _, fun _ _ => rfl⟩
      generalize wr.drewN nq = wq at *
      go_wp2_with fail
      go_ret
      exact ⟨by rw [decide_eq_false HNe.out]; rfl, hbw2⟩
     ·have he := beq_eq_false_iff_ne.2 hd
      go_wp2_with fail
      go_quiet (fail)
      have hbw2 : Below w.heap.size w (wr.drewN nq) := hbw.trans ⟨rfl, rfl, rfl, Nat.le_refl _, fun _ _ => rfl⟩
      generalize wr.drewN nq = wq at *
      go_wp2_with fail
      go_ret
      exact ⟨by rw [decide_eq_false HNe.out]; rfl, hbw2⟩
     ·have he := beq_eq_false_iff_ne.2 hd
      go_wp2_with fail
      go_quiet (fail)
      have hbw2 : Below w.heap.size w (wr.drewN nq) := hbw.trans ⟨rfl, rfl, rfl, Nat.le_refl _, fun _ _ => rfl⟩
      generalize wr.drewN nq = wq at *
      go_wp2_with fail
      go_ret
      exact ⟨by rw [decide_eq_false HNe.out]; rfl, hbw2⟩
   ·have hke : k = L.length := by omega
    subst hke
    have HLL := Lib.hid (list_same noOp L M HLM.out HEq.out)
    go_wp2_with fail
    go_ret
    exact ⟨by rw [decide_eq_true HLL.out]; rfl, hbw⟩
 ·have HNe := Lib.hid (len_not hlm)
  have hlmi : ¬ (((L.length : Nat) : Int) = ((M.length : Nat) : Int)) := by omega
  go_wp2_with fail
  go_ret
  exact ⟨by rw [decide_eq_false HNe.out]; rfl, Below.refl _ _⟩
end
section
open Go.RowKit Go.Lib
attribute [local go_sem] Later.cell Later.frozen
def eqH (a b : HistM) : Bool := decide (a.1 = b.1) && (decide (a.2.1 = b.2.1) && decide (a.2.2 = b.2.2))
set_option maxRecDepth 100000 in
set_option maxHeartbeats 4000000 in
theorem rsame10_any (va0 va1 va2 vb0 vb1 vb2 : Value) (ha hb : HistM) (w : World) (a0 : Texts w va0 ha.1) (a1 : Texts w va1 ha.2.1) (a2 : TxnsS w va2 ha.2.2) (ma : Modst ha) (b0 : Texts w vb0 hb.1) (b1 : Texts w vb1 hb.2.1) (b2 : TxnsS w vb2 hb.2.2) (mb : Modst hb) :
  Calls Tryz.prog 18 #[.agg #[va0, va1, va2], .agg #[vb0, vb1, vb2]] w fun e w' => e = .returned (.bool (eqH ha hb)) ∧ Below w.heap.size w w' := by
 have HC0 := Lib.hid (fun w' (h : Below w.heap.size w w') => (rtexts_any va0 vb0 ha.1 hb.1 w' (a0.below h) (b0.below h) (by have := ma.1; omega) (by have := mb.1; omega)))
 have HC1 := Lib.hid (fun w' (h : Below w.heap.size w w') => (rtexts_any va1 vb1 ha.2.1 hb.2.1 w' (a1.below h) (b1.below h) (by have := ma.2.1; omega) (by have := mb.2.1; omega)))
 obtain ⟨p0, c0, rfl, -⟩ := a0
 obtain ⟨p1, c1, rfl, -⟩ := a1
 obtain ⟨p2, c2, rfl, hp⟩ := a2
 obtain ⟨q0, d0, rfl, -⟩ := b0
 obtain ⟨q1, d1, rfl, -⟩ := b1
 obtain ⟨q2, d2, rfl, hq⟩ := b2
 have HP := Lib.hid hp
 have HQ := Lib.hid hq
 have ml : ha.2.2.length ≤ 1000 := ma.2.2.1
 have ml' : hb.2.2.length ≤ 1000 := mb.2.2.1
 have HS : RowKit.Hid (eqH ha hb = (decide (ha.1 = hb.1) && (decide (ha.2.1 = hb.2.1) && decide (ha.2.2 = hb.2.2)))) := Lib.hid rfl
 generalize eqH ha hb = R at *
 generalize decide (ha.1 = hb.1) = e0 at *
 generalize decide (ha.2.1 = hb.2.1) = e1 at *
 clear hp hq
 go_enter Tryz.func18, Tryz.ntmps18
 cases e0 with
 | false =>
  have HR : RowKit.Hid (R = false) := Lib.hid HS.out
  clear HS
  go_wp2_with (fail)
  refine (HC0.out _ bel).mono ?_
  rintro e w3 ⟨rfl, hb3⟩
  obtain ⟨hc3, hf3⟩ := bcell hb3
  have hz3 := hb3.size
  try simp at hz3
  have g3 : w.heap.size < w3.heap.size := by omega
  have k3 : w.heap.size + 1 < w3.heap.size := by omega
  go_wp2_with fail
  go_ret
  exact ⟨by rw [HR.out]; rfl, bel⟩
 | true =>
  cases e1 with
  | false =>
   have HR : RowKit.Hid (R = false) := Lib.hid HS.out
   clear HS
   go_wp2_with (fail)
   refine (HC0.out _ bel).mono ?_
   rintro e w3 ⟨rfl, hb3⟩
   obtain ⟨hc3, hf3⟩ := bcell hb3
   have hz3 := hb3.size
   try simp at hz3
   have g3 : w.heap.size < w3.heap.size := by omega
   have k3 : w.heap.size + 1 < w3.heap.size := by omega
   go_wp2_with (fail)
   refine (HC1.out _ bel).mono ?_
   rintro e w4 ⟨rfl, hb4⟩
   obtain ⟨hc4, hf4⟩ := bcell hb4
   have hz4 := hb4.size
   try simp at hz4
   have g4 : w.heap.size < w4.heap.size := by omega
   have k4 : w.heap.size + 1 < w4.heap.size := by omega
   go_wp2_with fail
   go_ret
   exact ⟨by rw [HR.out]; rfl, bel⟩
  | true =>
   have HR : RowKit.Hid (R = decide (ha.2.2 = hb.2.2)) := Lib.hid HS.out
   clear HS
   go_wp2_with (fail)
   refine (HC0.out _ bel).mono ?_
   rintro e w3 ⟨rfl, hb3⟩
   obtain ⟨hc3, hf3⟩ := bcell hb3
   have hz3 := hb3.size
   try simp at hz3
   have g3 : w.heap.size < w3.heap.size := by omega
   have k3 : w.heap.size + 1 < w3.heap.size := by omega
   go_wp2_with (fail)
   refine (HC1.out _ bel).mono ?_
   rintro e w4 ⟨rfl, hb4⟩
   obtain ⟨hc4, hf4⟩ := bcell hb4
   have hz4 := hb4.size
   try simp at hz4
   have g4 : w.heap.size < w4.heap.size := by omega
   have k4 : w.heap.size + 1 < w4.heap.size := by omega
   by_cases hlm : ha.2.2.length = hb.2.2.length
   ·have hlmi : ((ha.2.2.length : Nat) : Int) = ((hb.2.2.length : Nat) : Int) := by omega
    have HLM := Lib.hid hlm
    have x2 := cell_later hb4 (cell_later hb3 (show World.cell? _ ⟨w.heap.size, 2, none⟩ = some (Value.slice p2 ha.2.2.length c2) from by go_simp))
    have y2 := cell_later hb4 (cell_later hb3 (show World.cell? _ ⟨w.heap.size + 1, 2, none⟩ = some (Value.slice q2 hb.2.2.length d2) from by go_simp))
    have hbx : Below w.heap.size w w4 := bel
    have HBX := Lib.hid hbx
    have g5 : w.heap.size < w4.heap.size := by omega
    have k5 : w.heap.size + 1 < w4.heap.size := by omega
    clear hlm hbx
    go_wp2_with fail
    go_loopw [5] (fun i wr => ∃ k : Nat, k ≤ ha.2.2.length ∧ i = .int .i64 k ∧ (∀ j, j < k → ha.2.2.getD j noTxn = hb.2.2.getD j noTxn) ∧ Below w4.heap.size w4 wr) (fun i _ => ha.2.2.length - (RowKit.intOf i).toNat)
    case atStart => exact ⟨0, Nat.zero_le _, rfl, fun j hj => absurd hj (Nat.not_lt_zero j), Below.refl _ _⟩
    case round =>
     obtain ⟨k, hk, rfl, heq, hbw⟩ := hrel
     have HEq := Lib.hid heq
     clear heq
     have x2' := cell_later hbw x2
     have y2' := cell_later hbw y2
     have hbwx := below_next HBX.out hbw
     by_cases hk1 : k < ha.2.2.length
     ·have hk2 : k < hb.2.2.length := by rw [← HLM.out]; exact hk1
      have HWr := Lib.hid (show IntKind.i64.wrap ((k : Int) + 1) = (k : Int) + 1 from IntWalk.i64_in _ (by omega))
      obtain ⟨g, sv, rfl, a1, a2, a3, a4⟩ := HP.out k hk1
      obtain ⟨g', sv', rfl, b1, b2, b3, b4⟩ := HQ.out k hk2
      have a1' := cell_later hbwx a1
      have a2' := cell_later hbwx a2
      have a3' := cell_later hbwx a3
      have b1' := cell_later hbwx b1
      have b2' := cell_later hbwx b2
      have b3' := cell_later hbwx b3
      have hg0 : g < wr.heap.size := World.block_lt_of_cell? wr _ a1'
      have hg1 : g' < wr.heap.size := World.block_lt_of_cell? wr _ b1'
      have hg2 : w.heap.size < wr.heap.size := World.block_lt_of_cell? wr _ x2'
      have hg3 : w.heap.size + 1 < wr.heap.size := World.block_lt_of_cell? wr _ y2'
      have hx1 : (ha.2.2.getD k noTxn).2.2.length ≤ 1000 := ma.2.2.2.2.2 _ (by simp [hk1])
      have hx2 : (hb.2.2.getD k noTxn).2.2.length ≤ 1000 := mb.2.2.2.2.2 _ (by simp [hk2])
      have HC := Lib.hid (fun w' (h : Below wr.heap.size wr w') => rsameops_any sv sv' (ha.2.2.getD k noTxn).2.2 (hb.2.2.getD k noTxn).2.2 w' (a4.below (below_next hbwx h)) (b4.below (below_next hbwx h)) (by omega) (by omega))
      have HK : RowKit.Hid (ha.2.2.getD k noTxn = hb.2.2.getD k noTxn → ∀ j, j < k + 1 → ha.2.2.getD j noTxn = hb.2.2.getD j noTxn) := Lib.hid (fun h0 j hj => by
       by_cases h : j = k
       ·subst h; exact h0
       ·exact HEq.out j (by omega))
      have HN : RowKit.Hid (ha.2.2.getD k noTxn ≠ hb.2.2.getD k noTxn → decide (ha.2.2 = hb.2.2) = false) := Lib.hid (fun h0 => decide_eq_false (list_not (d := noTxn) h0))
      generalize ha.2.2.getD k noTxn = x at *
      generalize hb.2.2.getD k noTxn = y at *
      obtain ⟨s, f, l⟩ := x
      obtain ⟨s', f', l'⟩ := y
      obtain ⟨sp, sc, rfl, -⟩ := a4
      obtain ⟨sp', sc', rfl, -⟩ := b4
      simp only at HC a1' a2' a3' b1' b2' b3' hx1 hx2
      clear a1 a2 a3 b1 b2 b3 HP HQ HEq x2 y2 hc3 hc4 hf3 hf4
      by_cases h1 : s = s'
      ·subst h1
       by_cases h2 : f = f'
       ·subst h2
        by_cases h3 : l = l'
        ·have HYe := Lib.hid (HK.out (by rw [h3]))
         have h4 : decide (l = l') = true := decide_eq_true h3
         rw [h4] at HC
         clear h3 h4 HN HK
         go_wp2_with fail
         refine wp_region_later (by kernel_rfl) (by kernel_rfl) ?_
         repeat (go_big_quiet_step (first | (go_at_call 74; exact Later.call (HC.out _ (Later.h _)))))
         refine wpQuiet_nil ?_
         intro _ hw'
         obtain ⟨⟨w6, hb6⟩, hw''⟩ := hw'
         have hw3 : w6 = _ := hw''.symm
         subst hw3
         try dsimp only at hb6
         go_wp2_with fail
         go_roundw
         case rel => exact ⟨k + 1, by omega, by rw [HWr.out]; go_num, HYe.out, below_next hbw hb6⟩
         case measure => simp [RowKit.intOf, HWr.out]; omega
        ·have HNo := Lib.hid (HN.out (fun e => h3 (congrArg (fun t : TxnM => t.2.2) e)))
         have h4 : decide (l = l') = false := decide_eq_false h3
         rw [h4] at HC
         clear h3 h4 HN HK
         go_wp2_with fail
         refine wp_region_later (by kernel_rfl) (by kernel_rfl) ?_
         repeat (go_big_quiet_step (first | (go_at_call 74; exact Later.call (HC.out _ (Later.h _)))))
         refine wpQuiet_nil ?_
         intro _ hw'
         obtain ⟨⟨w6, hb6⟩, hw''⟩ := hw'
         have hw3 : w6 = _ := hw''.symm
         subst hw3
         try dsimp only at hb6
         go_wp2_with fail
         go_ret
         exact ⟨by rw [HR.out, HNo.out]; rfl, below_next hbwx hb6⟩
       ·have HNo := Lib.hid (HN.out (fun e => h2 (congrArg (fun t : TxnM => t.2.1) e)))
        have h5 := beq_eq_false_iff_ne.2 h2
        have h6 : (f != f') = true := bne_iff_ne.2 h2
        clear HN HK h2
        go_wp2_with fail
        refine wp_region_later (by kernel_rfl) (by kernel_rfl) ?_
        repeat (go_big_quiet_step (first | (go_at_call 74; exact Later.call (HC.out _ (Later.h _)))))
        refine wpQuiet_nil ?_
        intro _ hw'
        obtain ⟨⟨w6, hb6⟩, hw''⟩ := hw'
        have hw3 : w6 = _ := hw''.symm
        subst hw3
        try dsimp only at hb6
        go_wp2_with fail
        go_ret
        exact ⟨by rw [HR.out, HNo.out]; rfl, below_next hbwx hb6⟩
      ·have HNo := Lib.hid (HN.out (fun e => h1 (congrArg (fun t : TxnM => t.1) e)))
       have h5 := beq_eq_false_iff_ne.2 h1
       have h6 : (s != s') = true := bne_iff_ne.2 h1
       clear HN HK h1
       go_wp2_with fail
       refine wp_region_later (by kernel_rfl) (by kernel_rfl) ?_
       repeat (go_big_quiet_step (first | (go_at_call 74; exact Later.call (HC.out _ (Later.h _)))))
       refine wpQuiet_nil ?_
       intro _ hw'
       obtain ⟨⟨w6, hb6⟩, hw''⟩ := hw'
       have hw3 : w6 = _ := hw''.symm
       subst hw3
       try dsimp only at hb6
       go_wp2_with fail
       go_ret
       exact ⟨by rw [HR.out, HNo.out]; rfl, below_next hbwx hb6⟩
     ·have hke : k = ha.2.2.length := by omega
      subst hke
      have HLL := Lib.hid (list_same noTxn ha.2.2 hb.2.2 HLM.out HEq.out)
      go_wp2_with fail
      go_ret
      exact ⟨by rw [HR.out, decide_eq_true HLL.out]; rfl, hbwx⟩
   ·have hlmi : ¬ (((ha.2.2.length : Nat) : Int) = ((hb.2.2.length : Nat) : Int)) := by omega
    have HNe := Lib.hid (len_not hlm)
    go_wp2_with fail
    go_ret
    exact ⟨by rw [HR.out, decide_eq_false HNe.out]; rfl, bel⟩
end
section
open Go.RowKit Go.Lib
theorem eqH_refl (h : HistM) : eqH h h = true := by simp [eqH]
end
end Go.Proofs.YtmgchjddpmmglaaGreatDoor
