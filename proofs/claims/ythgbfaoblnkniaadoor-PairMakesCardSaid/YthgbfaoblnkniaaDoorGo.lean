/-
  Layer 10 (pair), the document's answer: Open, walked. Conditions: names of at most 1,000,000 bytes.
  The walks of layer 11 (hist): a history in memory; whether an operation, a transaction, the tables may be. No conditions but that unicode/utf8's two tables are as their initialisers lay them.
  The walks of layer 11 (hist), the program: whether the tables may be, whether all transactions may be. No conditions but that unicode/utf8's two tables are as their initialisers lay them.
  The iterator of layer 11 (hist): all operations of a history, with their places: what it hands on to any loop's body that keeps what lay. No conditions.
  The walk of layer 11 (hist), the program: whether each session has a transaction, and each key an operation. No conditions.
  The walk of layer 11 (hist), the program: whether a history may be. No conditions but that unicode/utf8's two tables are as their initialisers lay them.
  The walks of layer 11 (hist), the program: which transactions are so: a session's, those that may have committed. No conditions but that unicode/utf8's two tables are as their initialisers lay them.
  Layer 11 (hist): are two lists of texts, of operations, the same: the program's way and the reference's. No conditions but lengths below 2^62.
  Layer 11 (hist): are two transactions the same; are two lists of them: the program's way. No conditions but lengths.
  Layer 11 (hist): are two histories the same: the reference's way. No conditions but lengths.
  Layer 8 (log): events cut short, as slices and as arguments; cut again. No conditions.
-/
import Derived.Test.YthgbfaoblnkniaaDoorGn
import Derived.Test.YthgbfaoblnkniaaDoorGg
import Derived.Test.YthgbfaoblnkniaaDoorGa
import Derived.RangeFuncNested
import Derived.RangeFuncBound
import Derived.RangeFuncCalls
import Derived.RangeFuncLeaves
import Derived.Shelf.Abstract
import Derived.Shelf.RegionOpen
import Derived.WalkKit
import Derived.OwnWalkIn
import Derived.TacticsInMore
import Derived.LoopNIn
import Derived.LoopIn
import Derived.Maps.OwnIn
import Derived.Maps.OwnSet
import Derived.Maps.Views
import Derived.RangeFuncBox
import Derived.Maps.AppendAt
import Derived.WalkArith
import Derived.Outline
import Derived.Test.YthgbfaoblnkniaaDoorGb
import Derived.IntWalk
import Derived.Test.YthgbfaoblnkniaaDoorGi
namespace Go.Proofs.YthgbfaoblnkniaaDoor
open Go.RowKit Go.Lib Go.Maps Go.WideMaps
def opk (L : List DraftM) (k : Nat) : List (List UInt8) := ((L.take k).filter (·.op)).map (·.nm)
theorem opk_next (L : List DraftM) (k : Nat) (hk : k < L.length) : opk L (k + 1) = opk L k ++ (if (L.getD k noD).op then [(L.getD k noD).nm] else []) := by
 have e : L.getD k noD = L[k] := by simp [hk]
 unfold opk
 rw [List.take_succ_eq_append_getElem hk, List.filter_append, List.map_append, e]
 by_cases h : L[k].op = true
 ·rw [if_pos h]; simp [h]
 ·rw [if_neg h]; simp [h]
theorem opk_len (L : List DraftM) (k : Nat) : (opk L k).length ≤ L.length := by
 unfold opk
 rw [List.length_map]
 exact Nat.le_trans (List.length_filter_le _ _) (by rw [List.length_take]; omega)
theorem opk_good {L : List DraftM} (hG : GoodL L) (k : Nat) : ∀ x ∈ opk L k, x.length ≤ 1000000 := fun x hx => by
 unfold opk at hx
 rw [List.mem_map] at hx
 obtain ⟨d, hd, rfl⟩ := hx
 exact name_len _ (hG.all d (List.mem_of_mem_take (List.mem_filter.1 hd).1)).nm
set_option maxRecDepth 100000 in
set_option maxHeartbeats 2000000 in
theorem ropen10_any {w : World} (v : Value) (L : List EventM) (hv : EvsS w v L) (hL : L.length ≤ 1000) (hM : ∀ x ∈ L, x.2.1.length ≤ 1000000 ∧ x.2.2.1.length ≤ 1000000) :
  Calls Tryd.prog 13 #[v] w fun e w' => ∃ v', e = .returned v' ∧ TextsS w' v' (openP L) ∧ Below w.heap.size w w' := by
 have HMade := Lib.hid (rPut10_any v L hv hL hM)
 have HG := Lib.hid (made_good L [] good_nil)
 have HOk := Lib.hid (openP_ok L)
 have HBad := Lib.hid (openP_bad L)
 obtain ⟨i0, hi, hz0, hz1, hz2⟩ := info_parts info_str
 clear hv hL hM
 obtain ⟨⟨Lm, n, er⟩, hr⟩ : ∃ r, madeP L [] = r := ⟨_, rfl⟩
 rw [hr] at HMade HG HOk HBad
 clear hr
 go_enter Tryd.func13, Tryd.ntmps13
 go_wp2_with fail
 refine HMade.out.mono ?_
 rintro e w1 ⟨gm, vT, vN, vK, vL, vO, E, rfl, hwi, hb1⟩
 try dsimp only at hwi HG ⊢
 obtain ⟨pO, cO, rfl⟩ := owns_form hwi.rO
 obtain ⟨pN, cN, rfl⟩ := owns_form hwi.rN
 have hb6 := hwi.bx.cell 6 rfl
 have hb3 := hwi.bx.cell 3 rfl
 have hbl := hwi.bx.lt
 have HO := Lib.hid hwi.rO
 have HN := Lib.hid hwi.rN
 have HOE := Lib.hid (own_empty (heap_alloc_new w1 (.cells #[] 9)) (Nat.le_refl _))
 have HA := Lib.hid ((Below.refl w1.heap.size w1).alloc (Nat.le_refl _) (.cells #[] 9))
 have hLf := HG.out.few
 have hw1 := hb1.size
 clear HMade hwi
 by_cases her : er = 0
 ·subst her
  have HE := Lib.hid (HOk.out rfl)
  clear HOk HBad
  go_wp2_with fail
  go_loopw [6, 7] (fun out i wr => ∃ k : Nat, k ≤ Lm.length ∧ i = .int .i64 k ∧ wr.ownsRow w1.heap.size 9 1 out (opk Lm k).length (strs (opk Lm k)) ∧ Below w1.heap.size w1 wr) (fun _ i _ => Lm.length - (RowKit.intOf i).toNat)
  case atStart => exact ⟨0, Nat.zero_le _, rfl, HOE.out, HA.out⟩
  case round =>
   obtain ⟨k, hk, rfl, hown, hbw⟩ := hrel
   have hb6' := cell_later hbw hb6
   have hb3' := cell_later hbw hb3
   have hol := opk_len Lm k
   have hbs := hbw.size
   by_cases hk1 : k < Lm.length
   ·obtain ⟨gO, c1, e1, a1, -⟩ := own_cell (f := opd) (s := 1) noD (fun _ => rfl) (owns_later HO.out hbw) rfl k hk1
    obtain ⟨gN, c2, e2, a2, -⟩ := own_cell (f := nmd) (s := 1) noD (fun _ => rfl) (owns_later HN.out hbw) rfl k hk1
    injection e1 with e1 _ e1'
    injection e2 with e2 _ e2'
    subst e1 e2 e1' e2'
    have b1 := a1 0 _ rfl
    have b2 := a2 0 _ rfl
    simp only [Nat.mul_one, Nat.add_zero] at b1 b2
    have hnx := opk_next Lm k hk1
    obtain ⟨d, hd⟩ : ∃ d, Lm.getD k noD = d := ⟨_, rfl⟩
    rw [hd] at b1 b2 hnx
    clear hd a1 a2
    cases ho : d.op with
    | false =>
     rw [ho] at b1 hnx
     simp only [Bool.false_eq_true, if_false, List.append_nil] at hnx
     have HNx := Lib.hid hnx
     clear ho hnx
     go_wp2_with fail
     go_roundw
     case rel => exact ⟨k + 1, by omega, by go_num, by rw [HNx.out]; exact hown, hbw⟩
     case measure => simp [RowKit.intOf]; omega
    | true =>
     rw [ho] at b1 hnx
     simp only [if_true] at hnx
     have HNx := Lib.hid hnx
     obtain ⟨M, hM⟩ : ∃ M, opk Lm k = M := ⟨_, rfl⟩
     rw [hM] at HNx hown hol
     clear ho hnx hM
     go_wp2_with (at_builtin; refine wpList_append_own _ rfl _ _ 29 rfl w1.heap.size 9 i0 (.string ByteArray.empty) 1 16 Tryd.underlying29 hi hz0 hz1 hz2 rfl (by decide) _ M.length (strs M) rfl (hown.alloc _) ⟨wr.heap.size, 0, none⟩ 1 1 [.string (bs d.nm)] rfl rfl (texts_news _ _ _) (ones_s _) (by unfold maxLen; omega) (by omega) (by simp; omega) ?_)
     intro v4 w4 hown4 hgrow4 hnil4
     have hb4 : Below w1.heap.size w1 w4 := (hbw.alloc hbs _).grown hgrow4 (by simp; omega) (fun q hq => (hown.lt q hq).1)
     have HO4 : RowKit.Hid (w4.ownsRow w1.heap.size 9 1 v4 (opk Lm (k + 1)).length (strs (opk Lm (k + 1)))) := Lib.hid (by rw [HNx.out, ← strs_snoc, List.length_append]; exact hown4)
     clear hown4 hgrow4 hnil4 hown
     go_wp2_with fail
     go_roundw
     case rel => exact ⟨k + 1, by omega, by go_num, HO4.out, hb4⟩
     case measure => simp [RowKit.intOf]; omega
   ·have hke : k = Lm.length := by omega
    subst hke
    have HX := Lib.hid (own_texts hown)
    have hall : opk Lm Lm.length = ((Lm.filter (·.op)).map (·.nm)) := by unfold opk; rw [List.take_length]
    have HS := Lib.hid (opk_good HG.out Lm.length)
    have HAll := Lib.hid hall
    have HBW := Lib.hid (hb1.trans (hbw.mono hw1))
    clear hown hall hbw
    go_wp2_with fail
    refine (rsorted_any wr _ _ HX.out (by omega) HS.out).mono ?_
    rintro e w4 ⟨v', rfl, ht, hb4⟩
    go_wp2_with fail
    go_ret
    rw [HAll.out] at ht
    exact ⟨v', rfl, by rw [HE.out]; exact ht, HBW.out.trans (hb4.mono (by omega))⟩
 ·have hfb : (er == 0) = false := by simpa using her
  have HE := Lib.hid (HBad.out her)
  have HX : RowKit.Hid (Texts (w1.alloc (.cells #[] 9)) (.slice (some ⟨w1.heap.size, 0, none⟩) 0 0) []) := Lib.hid ⟨_, 0, rfl, fun j hj => absurd hj (Nat.not_lt_zero j)⟩
  have HBW : RowKit.Hid (Below w.heap.size w (w1.alloc (.cells #[] 9))) := Lib.hid (hb1.trans (HA.out.mono hw1))
  clear HOk HBad her
  go_wp2_with fail
  have hA := HA.out
  obtain ⟨W9, hW9⟩ : ∃ q, w1.alloc (.cells #[] 9) = q := ⟨_, rfl⟩
  rw [hW9] at hA HX HBW
  try simp only [hW9]
  have c6 := cell_later hA hb6
  have HSrt := Lib.hid (rsorted_any W9 _ [] HX.out (by simp) (fun x hx => by cases hx))
  clear hW9 HA HOE hA
  go_loopw [6, 7] (fun out i wr => out = .slice (some ⟨w1.heap.size, 0, none⟩) 0 0 ∧ i = .int .i64 0 ∧ wr = W9) (fun _ _ _ => 0)
  case atStart => exact ⟨rfl, rfl, rfl⟩
  case round =>
   obtain ⟨rfl, rfl, rfl⟩ := hrel
   by_cases h0 : 0 < Lm.length
   all_goals
    go_wp2_with fail
    refine HSrt.out.mono ?_
    rintro e w4 ⟨v', rfl, ht, hb4⟩
    go_wp2_with fail
    go_ret
    exact ⟨v', rfl, by rw [HE.out]; exact ht, HBW.out.trans (hb4.mono HBW.out.size)⟩
end Go.Proofs.YthgbfaoblnkniaaDoor

namespace Go.Proofs.YthgbfaoblnkniaaDoor
open Go.RowKit Go.Lib
section
attribute [local go_sem] as_nil as_nil_lost as_int64 as_lost as_int64_no as_lost_no
end
end Go.Proofs.YthgbfaoblnkniaaDoor

namespace Go.Proofs.YthgbfaoblnkniaaDoor
open Go.RowKit Go.Lib
def Modst (h : HistM) : Prop := h.1.length ≤ 1000 ∧ h.2.1.length ≤ 1000 ∧ h.2.2.length ≤ 1000 ∧ (∀ x ∈ h.1, x.length ≤ 1000000) ∧ (∀ x ∈ h.2.1, x.length ≤ 1000000) ∧ ∀ t ∈ h.2.2, t.2.2.length ≤ 1000
def Three (w : World) (B : Nat) (v0 v1 v2 : Value) : Prop := w.cell? ⟨B, 0, none⟩ = some v0 ∧ w.cell? ⟨B, 1, none⟩ = some v1 ∧ w.cell? ⟨B, 2, none⟩ = some v2
theorem Three.below {w w' : World} {B : Nat} {v0 v1 v2 : Value} (h : Three w B v0 v1 v2) (hb : Below w.heap.size w w') : Three w' B v0 v1 v2 := ⟨cell_later hb h.1, cell_later hb h.2.1, cell_later hb h.2.2⟩
end Go.Proofs.YthgbfaoblnkniaaDoor

namespace Go.Proofs.YthgbfaoblnkniaaDoor
open Go.RowKit Go.Shelf Go.Lib
attribute [local go_sem] Oper.semAt_some
end Go.Proofs.YthgbfaoblnkniaaDoor

namespace Go.Proofs.YthgbfaoblnkniaaDoor
open Go.RowKit Go.Shelf Go.Lib
attribute [local go_sem] Oper.semAt_some
end Go.Proofs.YthgbfaoblnkniaaDoor

namespace Go.Proofs.YthgbfaoblnkniaaDoor
open Go.RowKit Go.Shelf Go.Lib
attribute [local go_sem] Oper.semAt_some
end Go.Proofs.YthgbfaoblnkniaaDoor

namespace Go.Proofs.YthgbfaoblnkniaaDoor
open Go.RowKit Go.Lib
end Go.Proofs.YthgbfaoblnkniaaDoor

namespace Go.Proofs.YthgbfaoblnkniaaDoor
open Go.RowKit Go.Lib
theorem list_same {α : Type} (d : α) (L M : List α) (hl : L.length = M.length) (h : ∀ j, j < L.length → L.getD j d = M.getD j d) : L = M := by
 refine List.ext_getElem hl (fun j h1 h2 => ?_)
 have := h j h1
 simpa [h1, h2] using this
theorem list_not {α : Type} (d : α) {L M : List α} {k : Nat} (h : L.getD k d ≠ M.getD k d) : L ≠ M := fun e => h (by rw [e])
theorem len_not {α : Type} {L M : List α} (h : L.length ≠ M.length) : L ≠ M := fun e => h (by rw [e])
set_option maxRecDepth 100000 in
set_option maxHeartbeats 4000000 in
theorem rtexts_any (v v' : Value) (L M : List (List UInt8)) (w : World) (hv : Texts w v L) (hv' : Texts w v' M) (hl : L.length ≤ 1000000) (_ : M.length ≤ 1000000) :
  Calls Tryd.prog 23 #[v, v'] w fun e w' => e = .returned (.bool (decide (L = M))) ∧ Below w.heap.size w w' := by
 obtain ⟨p, c, rfl, hp⟩ := hv
 obtain ⟨q, d, rfl, hq⟩ := hv'
 have HP := Lib.hid hp
 have HQ := Lib.hid hq
 clear hp hq
 go_enter Tryd.func23, Tryd.ntmps23
 by_cases hlm : L.length = M.length
 ·have hlmi : ((L.length : Nat) : Int) = ((M.length : Nat) : Int) := by omega
  have HLM := Lib.hid hlm
  clear hlm
  go_wp2_with fail
  go_loopw [5] (fun i wr => ∃ k : Nat, k ≤ L.length ∧ i = .int .i64 k ∧ (∀ j, j < k → L.getD j [] = M.getD j []) ∧ Below w.heap.size w wr) (fun i _ => L.length - (RowKit.intOf i).toNat)
  case atStart => exact ⟨0, Nat.zero_le _, rfl, fun j hj => absurd hj (Nat.not_lt_zero j), Below.refl _ _⟩
  case round =>
   obtain ⟨k, hk, rfl, heq, hbw⟩ := hrel
   have HEq := Lib.hid heq
   clear heq
   by_cases hk1 : k < L.length
   ·have hk2 : k < M.length := by rw [← HLM.out]; exact hk1
    obtain ⟨g, rfl, a1⟩ := HP.out k hk1
    obtain ⟨g', rfl, b1⟩ := HQ.out k hk2
    have a1' := cell_later hbw a1
    have b1' := cell_later hbw b1
    clear a1 b1
    by_cases hxy : L.getD k [] = M.getD k []
    ·have HK : RowKit.Hid (∀ j, j < k + 1 → L.getD j [] = M.getD j []) := Lib.hid (fun j hj => by
      by_cases h : j = k
      ·subst h; exact hxy
      ·exact HEq.out j (by omega))
     rw [← hxy] at b1'
     clear hxy
     generalize L.getD k [] = x at *
     go_wp2_with fail
     go_quiet (fail)
     have hbw2 : Below w.heap.size w (wr.drewN nq) := hbw.trans ⟨rfl, rfl, rfl, Nat.le_refl _, fun _ _ => rfl⟩
     generalize wr.drewN nq = wq at *
     go_wp2_with fail
     go_roundw
     case rel => exact ⟨k + 1, by omega, by go_num, HK.out, hbw2⟩
     case measure => simp [RowKit.intOf]; omega
    ·have HNe := Lib.hid (list_not (d := []) hxy)
     generalize L.getD k [] = x at *
     generalize M.getD k [] = y at *
     have hb2 : (x == y) = false := beq_eq_false_iff_ne.2 hxy
     clear hxy
     go_wp2_with fail
     go_quiet (fail)
     have hbw2 : Below w.heap.size w (wr.drewN nq) := hbw.trans ⟨rfl, rfl, rfl, Nat.le_refl _, fun _ _ => rfl⟩
     generalize wr.drewN nq = wq at *
     go_wp2_with fail
     go_ret
     exact ⟨by rw [decide_eq_false HNe.out]; rfl, hbw2⟩
   ·have hke : k = L.length := by omega
    subst hke
    have HLL := Lib.hid (list_same [] L M HLM.out HEq.out)
    go_wp2_with fail
    go_ret
    exact ⟨by rw [decide_eq_true HLL.out]; rfl, hbw⟩
 ·have HNe := Lib.hid (len_not hlm)
  have hlmi : ¬ (((L.length : Nat) : Int) = ((M.length : Nat) : Int)) := by omega
  go_wp2_with fail
  go_ret
  exact ⟨by rw [decide_eq_false HNe.out]; rfl, Below.refl _ _⟩
set_option maxRecDepth 100000 in
set_option maxHeartbeats 4000000 in
theorem rsameops_any (v v' : Value) (L M : List OpM) (w : World) (hv : OpsS w v L) (hv' : OpsS w v' M) (hl : L.length ≤ 1000000) (_ : M.length ≤ 1000000) :
  Calls Tryd.prog 24 #[v, v'] w fun e w' => e = .returned (.bool (decide (L = M))) ∧ Below w.heap.size w w' := by
 obtain ⟨p, c, rfl, hp⟩ := hv
 obtain ⟨q, d, rfl, hq⟩ := hv'
 have HP := Lib.hid hp
 have HQ := Lib.hid hq
 clear hp hq
 go_enter Tryd.func24, Tryd.ntmps24
 by_cases hlm : L.length = M.length
 ·have hlmi : ((L.length : Nat) : Int) = ((M.length : Nat) : Int) := by omega
  have HLM := Lib.hid hlm
  clear hlm
  go_wp2_with fail
  go_loopw [5] (fun i wr => ∃ k : Nat, k ≤ L.length ∧ i = .int .i64 k ∧ (∀ j, j < k → L.getD j noOp = M.getD j noOp) ∧ Below w.heap.size w wr) (fun i _ => L.length - (RowKit.intOf i).toNat)
  case atStart => exact ⟨0, Nat.zero_le _, rfl, fun j hj => absurd hj (Nat.not_lt_zero j), Below.refl _ _⟩
  case round =>
   obtain ⟨k, hk, rfl, heq, hbw⟩ := hrel
   have HEq := Lib.hid heq
   clear heq
   by_cases hk1 : k < L.length
   ·have hk2 : k < M.length := by rw [← HLM.out]; exact hk1
    obtain ⟨g, rfl, a1, a2, a3, a4⟩ := HP.out k hk1
    obtain ⟨g', rfl, b1, b2, b3, b4⟩ := HQ.out k hk2
    have a1' := cell_later hbw a1
    have b1' := cell_later hbw b1
    have a2' := cell_later hbw a2
    have b2' := cell_later hbw b2
    have a3' := cell_later hbw a3
    have b3' := cell_later hbw b3
    have a4' := cell_later hbw a4
    have b4' := cell_later hbw b4
    clear a1 b1 a2 b2 a3 b3 a4 b4
    by_cases hxy : L.getD k noOp = M.getD k noOp
    ·have HK : RowKit.Hid (∀ j, j < k + 1 → L.getD j noOp = M.getD j noOp) := Lib.hid (fun j hj => by
      by_cases h : j = k
      ·subst h; exact hxy
      ·exact HEq.out j (by omega))
     rw [← hxy] at b1' b2' b3' b4'
     clear hxy
     generalize L.getD k noOp = x at *
     obtain ⟨x1, x2, x3, x4⟩ := x
     simp only at a1' a2' a3' a4' b1' b2' b3' b4'
     go_wp2_with fail
     go_quiet (fail)
     have hbw2 : Below w.heap.size w (wr.drewN nq) := hbw.trans ⟨rfl, rfl, rfl, Nat.le_refl _, fun _ _ => rfl⟩
     generalize wr.drewN nq = wq at *
     go_wp2_with fail
     go_roundw
     case rel => exact ⟨k + 1, by omega, by go_num, HK.out, hbw2⟩
     case measure => simp [RowKit.intOf]; omega
    ·have HNe := Lib.hid (list_not (d := noOp) hxy)
     generalize L.getD k noOp = x at *
     generalize M.getD k noOp = y at *
     obtain ⟨x1, x2, x3, x4⟩ := x
     obtain ⟨y1, y2, y3, y4⟩ := y
     have hd : (x1 = true ∧ y1 = false) ∨ (x1 = false ∧ y1 = true) ∨ (x1 = y1 ∧ ¬ x2 = y2) ∨ (x1 = y1 ∧ x2 = y2 ∧ ¬ x3 = y3) ∨ (x1 = y1 ∧ x2 = y2 ∧ x3 = y3 ∧ ¬ x4 = y4) := by
      by_cases h1 : x1 = y1
      ·by_cases h2 : x2 = y2
       ·by_cases h3 : x3 = y3
        ·by_cases h4 : x4 = y4
         ·exact absurd (by rw [h1, h2, h3, h4]) hxy
         ·exact .inr (.inr (.inr (.inr ⟨h1, h2, h3, h4⟩)))
        ·exact .inr (.inr (.inr (.inl ⟨h1, h2, h3⟩)))
       ·exact .inr (.inr (.inl ⟨h1, h2⟩))
      ·cases x1 <;> cases y1
       ·exact absurd rfl h1
       ·exact .inr (.inl ⟨rfl, rfl⟩)
       ·exact .inl ⟨rfl, rfl⟩
       ·exact absurd rfl h1
     simp only at a1' a2' a3' a4' b1' b2' b3' b4'
     clear hxy
     rcases hd with ⟨rfl, rfl⟩ | ⟨rfl, rfl⟩ | ⟨rfl, hd⟩ | ⟨rfl, rfl, hd⟩ | ⟨rfl, rfl, rfl, hd⟩
     ·go_wp2_with fail
      go_quiet (fail)
      have hbw2 : Below w.heap.size w (wr.drewN nq) := hbw.trans ⟨rfl, rfl, rfl, Nat.le_refl _, fun _ _ => rfl⟩
      generalize wr.drewN nq = wq at *
      go_wp2_with fail
      go_ret
      exact ⟨by rw [decide_eq_false HNe.out]; rfl, hbw2⟩
     ·go_wp2_with fail
      go_quiet (fail)
      have hbw2 : Below w.heap.size w (wr.drewN nq) := hbw.trans ⟨rfl, rfl, rfl, Nat.le_refl _, fun _ _ => rfl⟩
      generalize wr.drewN nq = wq at *
      go_wp2_with fail
      go_ret
      exact ⟨by rw [decide_eq_false HNe.out]; rfl, hbw2⟩
     ·have he := beq_eq_false_iff_ne.2 hd
      go_wp2_with fail
      go_quiet (fail)
      have hbw2 : Below w.heap.size w (wr.drewN nq) := hbw.trans ⟨rfl, rfl, rfl, Nat.le_refl _, fun _ _ => rfl⟩
      generalize wr.drewN nq = wq at *
      go_wp2_with fail
      go_ret
      exact ⟨by rw [decide_eq_false HNe.out]; rfl, hbw2⟩
     ·have he := beq_eq_false_iff_ne.2 hd
      go_wp2_with fail
      go_quiet (fail)
      have hbw2 : Below w.heap.size w (wr.drewN nq) := hbw.trans ⟨rfl, rfl, rfl, Nat.le_refl _, fun _ _ => rfl⟩
      generalize wr.drewN nq = wq at *
      go_wp2_with fail
      go_ret
      exact ⟨by rw [decide_eq_false HNe.out]; rfl, hbw2⟩
     ·have he := beq_eq_false_iff_ne.2 hd
      go_wp2_with fail
      go_quiet (fail)
      have hbw2 : Below w.heap.size w (wr.drewN nq) := hbw.trans ⟨rfl, rfl, rfl, Nat.le_refl _, fun _ _ => rfl⟩
      generalize wr.drewN nq = wq at *
      go_wp2_with fail
      go_ret
      exact ⟨by rw [decide_eq_false HNe.out]; rfl, hbw2⟩
   ·have hke : k = L.length := by omega
    subst hke
    have HLL := Lib.hid (list_same noOp L M HLM.out HEq.out)
    go_wp2_with fail
    go_ret
    exact ⟨by rw [decide_eq_true HLL.out]; rfl, hbw⟩
 ·have HNe := Lib.hid (len_not hlm)
  have hlmi : ¬ (((L.length : Nat) : Int) = ((M.length : Nat) : Int)) := by omega
  go_wp2_with fail
  go_ret
  exact ⟨by rw [decide_eq_false HNe.out]; rfl, Below.refl _ _⟩
end Go.Proofs.YthgbfaoblnkniaaDoor

namespace Go.Proofs.YthgbfaoblnkniaaDoor
open Go.RowKit Go.Lib
instance decTxn : DecidableEq TxnM := fun a b => (inferInstance : Decidable (a = b))
instance decTxns : DecidableEq (List TxnM) := instDecidableEqList
end Go.Proofs.YthgbfaoblnkniaaDoor

namespace Go.Proofs.YthgbfaoblnkniaaDoor
open Go.RowKit Go.Lib
attribute [local go_sem] Later.cell Later.frozen
def eqH (a b : HistM) : Bool := decide (a.1 = b.1) && (decide (a.2.1 = b.2.1) && decide (a.2.2 = b.2.2))
set_option maxRecDepth 100000 in
set_option maxHeartbeats 4000000 in
theorem rsame10_any (va0 va1 va2 vb0 vb1 vb2 : Value) (ha hb : HistM) (w : World) (a0 : Texts w va0 ha.1) (a1 : Texts w va1 ha.2.1) (a2 : TxnsS w va2 ha.2.2) (ma : Modst ha) (b0 : Texts w vb0 hb.1) (b1 : Texts w vb1 hb.2.1) (b2 : TxnsS w vb2 hb.2.2) (mb : Modst hb) :
  Calls Tryd.prog 10 #[.agg #[va0, va1, va2], .agg #[vb0, vb1, vb2]] w fun e w' => e = .returned (.bool (eqH ha hb)) ∧ Below w.heap.size w w' := by
 have HC0 := Lib.hid (fun w' (h : Below w.heap.size w w') => (rtexts_any va0 vb0 ha.1 hb.1 w' (a0.below h) (b0.below h) (by have := ma.1; omega) (by have := mb.1; omega)))
 have HC1 := Lib.hid (fun w' (h : Below w.heap.size w w') => (rtexts_any va1 vb1 ha.2.1 hb.2.1 w' (a1.below h) (b1.below h) (by have := ma.2.1; omega) (by have := mb.2.1; omega)))
 obtain ⟨p0, c0, rfl, -⟩ := a0
 obtain ⟨p1, c1, rfl, -⟩ := a1
 obtain ⟨p2, c2, rfl, hp⟩ := a2
 obtain ⟨q0, d0, rfl, -⟩ := b0
 obtain ⟨q1, d1, rfl, -⟩ := b1
 obtain ⟨q2, d2, rfl, hq⟩ := b2
 have HP := Lib.hid hp
 have HQ := Lib.hid hq
 have ml : ha.2.2.length ≤ 1000 := ma.2.2.1
 have ml' : hb.2.2.length ≤ 1000 := mb.2.2.1
 have HS : RowKit.Hid (eqH ha hb = (decide (ha.1 = hb.1) && (decide (ha.2.1 = hb.2.1) && decide (ha.2.2 = hb.2.2)))) := Lib.hid rfl
 generalize eqH ha hb = R at *
 generalize decide (ha.1 = hb.1) = e0 at *
 generalize decide (ha.2.1 = hb.2.1) = e1 at *
 clear hp hq
 go_enter Tryd.func10, Tryd.ntmps10
 cases e0 with
 | false =>
  have HR : RowKit.Hid (R = false) := Lib.hid HS.out
  clear HS
  go_wp2_with (fail)
  refine (HC0.out _ (by (repeat' (first | (with_reducible exact Below.refl _ _) | (with_reducible assumption) | (refine below_next ?_ (by with_reducible assumption)) | (with_reducible refine Below.alloc ?_ ?_ _) | (with_reducible refine Below.drew ?_) | (with_reducible refine below_drewN ?_ _) | omega | (simp; done) | (simp; omega))))).mono ?_
  rintro e w3 ⟨rfl, hb3⟩
  obtain ⟨hc3, hf3⟩ := bcell hb3
  have hz3 := hb3.size
  try simp at hz3
  have g3 : w.heap.size < w3.heap.size := by omega
  have k3 : w.heap.size + 1 < w3.heap.size := by omega
  go_wp2_with fail
  go_ret
  exact ⟨by rw [HR.out]; rfl, by (repeat' (first | (with_reducible exact Below.refl _ _) | (with_reducible assumption) | (refine below_next ?_ (by with_reducible assumption)) | (with_reducible refine Below.alloc ?_ ?_ _) | (with_reducible refine Below.drew ?_) | (with_reducible refine below_drewN ?_ _) | omega | (simp; done) | (simp; omega)))⟩
 | true =>
  cases e1 with
  | false =>
   have HR : RowKit.Hid (R = false) := Lib.hid HS.out
   clear HS
   go_wp2_with (fail)
   refine (HC0.out _ (by (repeat' (first | (with_reducible exact Below.refl _ _) | (with_reducible assumption) | (refine below_next ?_ (by with_reducible assumption)) | (with_reducible refine Below.alloc ?_ ?_ _) | (with_reducible refine Below.drew ?_) | (with_reducible refine below_drewN ?_ _) | omega | (simp; done) | (simp; omega))))).mono ?_
   rintro e w3 ⟨rfl, hb3⟩
   obtain ⟨hc3, hf3⟩ := bcell hb3
   have hz3 := hb3.size
   try simp at hz3
   have g3 : w.heap.size < w3.heap.size := by omega
   have k3 : w.heap.size + 1 < w3.heap.size := by omega
   go_wp2_with (fail)
   refine (HC1.out _ (by (repeat' (first | (with_reducible exact Below.refl _ _) | (with_reducible assumption) | (refine below_next ?_ (by with_reducible assumption)) | (with_reducible refine Below.alloc ?_ ?_ _) | (with_reducible refine Below.drew ?_) | (with_reducible refine below_drewN ?_ _) | omega | (simp; done) | (simp; omega))))).mono ?_
   rintro e w4 ⟨rfl, hb4⟩
   obtain ⟨hc4, hf4⟩ := bcell hb4
   have hz4 := hb4.size
   try simp at hz4
   have g4 : w.heap.size < w4.heap.size := by omega
   have k4 : w.heap.size + 1 < w4.heap.size := by omega
   go_wp2_with fail
   go_ret
   exact ⟨by rw [HR.out]; rfl, by (repeat' (first | (with_reducible exact Below.refl _ _) | (with_reducible assumption) | (refine below_next ?_ (by with_reducible assumption)) | (with_reducible refine Below.alloc ?_ ?_ _) | (with_reducible refine Below.drew ?_) | (with_reducible refine below_drewN ?_ _) | omega | (simp; done) | (simp; omega)))⟩
  | true =>
   have HR : RowKit.Hid (R = decide (ha.2.2 = hb.2.2)) := Lib.hid HS.out
   clear HS
   go_wp2_with (fail)
   refine (HC0.out _ (by (repeat' (first | (with_reducible exact Below.refl _ _) | (with_reducible assumption) | (refine below_next ?_ (by with_reducible assumption)) | (with_reducible refine Below.alloc ?_ ?_ _) | (with_reducible refine Below.drew ?_) | (with_reducible refine below_drewN ?_ _) | omega | (simp; done) | (simp; omega))))).mono ?_
   rintro e w3 ⟨rfl, hb3⟩
   obtain ⟨hc3, hf3⟩ := bcell hb3
   have hz3 := hb3.size
   try simp at hz3
   have g3 : w.heap.size < w3.heap.size := by omega
   have k3 : w.heap.size + 1 < w3.heap.size := by omega
   go_wp2_with (fail)
   refine (HC1.out _ (by (repeat' (first | (with_reducible exact Below.refl _ _) | (with_reducible assumption) | (refine below_next ?_ (by with_reducible assumption)) | (with_reducible refine Below.alloc ?_ ?_ _) | (with_reducible refine Below.drew ?_) | (with_reducible refine below_drewN ?_ _) | omega | (simp; done) | (simp; omega))))).mono ?_
   rintro e w4 ⟨rfl, hb4⟩
   obtain ⟨hc4, hf4⟩ := bcell hb4
   have hz4 := hb4.size
   try simp at hz4
   have g4 : w.heap.size < w4.heap.size := by omega
   have k4 : w.heap.size + 1 < w4.heap.size := by omega
   by_cases hlm : ha.2.2.length = hb.2.2.length
   ·have hlmi : ((ha.2.2.length : Nat) : Int) = ((hb.2.2.length : Nat) : Int) := by omega
    have HLM := Lib.hid hlm
    have x2 := cell_later hb4 (cell_later hb3 (show World.cell? _ ⟨w.heap.size, 2, none⟩ = some (Value.slice p2 ha.2.2.length c2) from by go_simp))
    have y2 := cell_later hb4 (cell_later hb3 (show World.cell? _ ⟨w.heap.size + 1, 2, none⟩ = some (Value.slice q2 hb.2.2.length d2) from by go_simp))
    have hbx : Below w.heap.size w w4 := by (repeat' (first | (with_reducible exact Below.refl _ _) | (with_reducible assumption) | (refine below_next ?_ (by with_reducible assumption)) | (with_reducible refine Below.alloc ?_ ?_ _) | (with_reducible refine Below.drew ?_) | (with_reducible refine below_drewN ?_ _) | omega | (simp; done) | (simp; omega)))
    have HBX := Lib.hid hbx
    have g5 : w.heap.size < w4.heap.size := by omega
    have k5 : w.heap.size + 1 < w4.heap.size := by omega
    clear hlm hbx
    go_wp2_with fail
    go_loopw [5] (fun i wr => ∃ k : Nat, k ≤ ha.2.2.length ∧ i = .int .i64 k ∧ (∀ j, j < k → ha.2.2.getD j noTxn = hb.2.2.getD j noTxn) ∧ Below w4.heap.size w4 wr) (fun i _ => ha.2.2.length - (RowKit.intOf i).toNat)
    case atStart => exact ⟨0, Nat.zero_le _, rfl, fun j hj => absurd hj (Nat.not_lt_zero j), Below.refl _ _⟩
    case round =>
     obtain ⟨k, hk, rfl, heq, hbw⟩ := hrel
     have HEq := Lib.hid heq
     clear heq
     have x2' := cell_later hbw x2
     have y2' := cell_later hbw y2
     have hbwx := below_next HBX.out hbw
     by_cases hk1 : k < ha.2.2.length
     ·have hk2 : k < hb.2.2.length := by rw [← HLM.out]; exact hk1
      have HWr := Lib.hid (show IntKind.i64.wrap ((k : Int) + 1) = (k : Int) + 1 from IntWalk.i64_in _ (by omega))
      obtain ⟨g, sv, rfl, a1, a2, a3, a4⟩ := HP.out k hk1
      obtain ⟨g', sv', rfl, b1, b2, b3, b4⟩ := HQ.out k hk2
      have a1' := cell_later hbwx a1
      have a2' := cell_later hbwx a2
      have a3' := cell_later hbwx a3
      have b1' := cell_later hbwx b1
      have b2' := cell_later hbwx b2
      have b3' := cell_later hbwx b3
      have hg0 : g < wr.heap.size := World.block_lt_of_cell? wr _ a1'
      have hg1 : g' < wr.heap.size := World.block_lt_of_cell? wr _ b1'
      have hg2 : w.heap.size < wr.heap.size := World.block_lt_of_cell? wr _ x2'
      have hg3 : w.heap.size + 1 < wr.heap.size := World.block_lt_of_cell? wr _ y2'
      have hx1 : (ha.2.2.getD k noTxn).2.2.length ≤ 1000 := ma.2.2.2.2.2 _ (by simp [hk1])
      have hx2 : (hb.2.2.getD k noTxn).2.2.length ≤ 1000 := mb.2.2.2.2.2 _ (by simp [hk2])
      have HC := Lib.hid (fun w' (h : Below wr.heap.size wr w') => rsameops_any sv sv' (ha.2.2.getD k noTxn).2.2 (hb.2.2.getD k noTxn).2.2 w' (a4.below (below_next hbwx h)) (b4.below (below_next hbwx h)) (by omega) (by omega))
      have HK : RowKit.Hid (ha.2.2.getD k noTxn = hb.2.2.getD k noTxn → ∀ j, j < k + 1 → ha.2.2.getD j noTxn = hb.2.2.getD j noTxn) := Lib.hid (fun h0 j hj => by
       by_cases h : j = k
       ·subst h; exact h0
       ·exact HEq.out j (by omega))
      have HN : RowKit.Hid (ha.2.2.getD k noTxn ≠ hb.2.2.getD k noTxn → decide (ha.2.2 = hb.2.2) = false) := Lib.hid (fun h0 => decide_eq_false (list_not (d := noTxn) h0))
      generalize ha.2.2.getD k noTxn = x at *
      generalize hb.2.2.getD k noTxn = y at *
      obtain ⟨s, f, l⟩ := x
      obtain ⟨s', f', l'⟩ := y
      obtain ⟨sp, sc, rfl, -⟩ := a4
      obtain ⟨sp', sc', rfl, -⟩ := b4
      simp only at HC a1' a2' a3' b1' b2' b3' hx1 hx2
      clear a1 a2 a3 b1 b2 b3 HP HQ HEq x2 y2 hc3 hc4 hf3 hf4
      by_cases h1 : s = s'
      ·subst h1
       by_cases h2 : f = f'
       ·subst h2
        by_cases h3 : l = l'
        ·have HYe := Lib.hid (HK.out (by rw [h3]))
         have h4 : decide (l = l') = true := decide_eq_true h3
         rw [h4] at HC
         clear h3 h4 HN HK
         go_wp2_with fail
         refine wp_region_later (by kernel_rfl) (by kernel_rfl) ?_
         repeat (go_big_quiet_step (first | (go_at_call 24; exact Later.call (HC.out _ (Later.h _)))))
         refine wpQuiet_nil ?_
         intro _ hw'
         obtain ⟨⟨w6, hb6⟩, hw''⟩ := hw'
         have hw3 : w6 = _ := hw''.symm
         subst hw3
         try dsimp only at hb6
         go_wp2_with fail
         go_roundw
         case rel => exact ⟨k + 1, by omega, by rw [HWr.out]; go_num, HYe.out, below_next hbw hb6⟩
         case measure => simp [RowKit.intOf, HWr.out]; omega
        ·have HNo := Lib.hid (HN.out (fun e => h3 (congrArg (fun t : TxnM => t.2.2) e)))
         have h4 : decide (l = l') = false := decide_eq_false h3
         rw [h4] at HC
         clear h3 h4 HN HK
         go_wp2_with fail
         refine wp_region_later (by kernel_rfl) (by kernel_rfl) ?_
         repeat (go_big_quiet_step (first | (go_at_call 24; exact Later.call (HC.out _ (Later.h _)))))
         refine wpQuiet_nil ?_
         intro _ hw'
         obtain ⟨⟨w6, hb6⟩, hw''⟩ := hw'
         have hw3 : w6 = _ := hw''.symm
         subst hw3
         try dsimp only at hb6
         go_wp2_with fail
         go_ret
         exact ⟨by rw [HR.out, HNo.out]; rfl, below_next hbwx hb6⟩
       ·have HNo := Lib.hid (HN.out (fun e => h2 (congrArg (fun t : TxnM => t.2.1) e)))
        have h5 := beq_eq_false_iff_ne.2 h2
        have h6 : (f != f') = true := bne_iff_ne.2 h2
        clear HN HK h2
        go_wp2_with fail
        refine wp_region_later (by kernel_rfl) (by kernel_rfl) ?_
        repeat (go_big_quiet_step (first | (go_at_call 24; exact Later.call (HC.out _ (Later.h _)))))
        refine wpQuiet_nil ?_
        intro _ hw'
        obtain ⟨⟨w6, hb6⟩, hw''⟩ := hw'
        have hw3 : w6 = _ := hw''.symm
        subst hw3
        try dsimp only at hb6
        go_wp2_with fail
        go_ret
        exact ⟨by rw [HR.out, HNo.out]; rfl, below_next hbwx hb6⟩
      ·have HNo := Lib.hid (HN.out (fun e => h1 (congrArg (fun t : TxnM => t.1) e)))
       have h5 := beq_eq_false_iff_ne.2 h1
       have h6 : (s != s') = true := bne_iff_ne.2 h1
       clear HN HK h1
       go_wp2_with fail
       refine wp_region_later (by kernel_rfl) (by kernel_rfl) ?_
       repeat (go_big_quiet_step (first | (go_at_call 24; exact Later.call (HC.out _ (Later.h _)))))
       refine wpQuiet_nil ?_
       intro _ hw'
       obtain ⟨⟨w6, hb6⟩, hw''⟩ := hw'
       have hw3 : w6 = _ := hw''.symm
       subst hw3
       try dsimp only at hb6
       go_wp2_with fail
       go_ret
       exact ⟨by rw [HR.out, HNo.out]; rfl, below_next hbwx hb6⟩
     ·have hke : k = ha.2.2.length := by omega
      subst hke
      have HLL := Lib.hid (list_same noTxn ha.2.2 hb.2.2 HLM.out HEq.out)
      go_wp2_with fail
      go_ret
      exact ⟨by rw [HR.out, decide_eq_true HLL.out]; rfl, hbwx⟩
   ·have hlmi : ¬ (((ha.2.2.length : Nat) : Int) = ((hb.2.2.length : Nat) : Int)) := by omega
    have HNe := Lib.hid (len_not hlm)
    go_wp2_with fail
    go_ret
    exact ⟨by rw [HR.out, decide_eq_false HNe.out]; rfl, by (repeat' (first | (with_reducible exact Below.refl _ _) | (with_reducible assumption) | (refine below_next ?_ (by with_reducible assumption)) | (with_reducible refine Below.alloc ?_ ?_ _) | (with_reducible refine Below.drew ?_) | (with_reducible refine below_drewN ?_ _) | omega | (simp; done) | (simp; omega)))⟩
end Go.Proofs.YthgbfaoblnkniaaDoor

namespace Go.Proofs.YthgbfaoblnkniaaDoor
open Go.RowKit Go.Lib
theorem few_both {L : List EventM} {w : World} {B : Nat} {v : Value} (hL : ∀ x ∈ L, x.2.1.length ≤ 9223372036854775807 ∧ x.2.2.1.length ≤ 9223372036854775807 ∧ NumE x) (h : w.ownsRow B 28 6 v (fewE L).length (evcs (fewE L))) : EvsS w v (fewE L) ∧ EvsA w v (fewE L) :=
 ⟨own_evs h, own_evsA h (fun x hx => by
  obtain ⟨h1, h2, h3⟩ := few_good hL x hx
  exact ⟨by omega, by omega, h3⟩)⟩
theorem few8_again (v : Value) (L : List EventM) (w : World) (hv : EvsA w v (fewE L)) (hL : ∀ x ∈ L, x.2.1.length ≤ 9223372036854775807 ∧ x.2.2.1.length ≤ 9223372036854775807 ∧ NumE x) :
  Calls Tryd.prog 8 #[v] w fun e w' => ∃ v', e = .returned v' ∧ EvsS w' v' (fewE L) ∧ Below w.heap.size w w' := by
 refine (few8_any v (fewE L) w hv).mono ?_
 rintro e w' ⟨v', rfl, h, hb⟩
 rw [fewE_few] at h
 exact ⟨v', rfl, (few_both hL h).1, hb⟩
end Go.Proofs.YthgbfaoblnkniaaDoor
