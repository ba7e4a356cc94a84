/-
  The walk of layer 2's reference (name): texts' names in order. No conditions.
  A slice of texts as an argument: what its reading says of its cells. No conditions.
  The walks of layer 9 (table): not too many texts; whether a list is a table, in the program. No conditions but that unicode/utf8's two tables are as their initialisers lay them.
  The walks of layer 9 (table), the program: a table or not, where a text stands, a copy, a name put in. No conditions but that unicode/utf8's two tables are as their initialisers lay them.
  The walks of layer 9 (table), the program: a table made, a name found, a name put in. No conditions but that unicode/utf8's two tables are as their initialisers lay them.
  Layer 10 (pair): the table of what a map has: names; a range over a map of texts. Conditions: unicode/utf8's two tables hold what their initialisers lay.
  Layer 10 (pair): Open, walked. Conditions: unicode/utf8's two tables hold what their initialisers lay; names of at most 1,000,000 bytes.
  A history in memory: operations, transactions, histories as cells. No conditions.
  A number as what is appended. No conditions.
  Slices of numbers: what one holds, and the walk of the comparison of two. No conditions.
  The walks of layer 9 (table), the program: names' numbers in a table; the chapter's example. No conditions but that unicode/utf8's two tables are as their initialisers lay them.
-/
import Derived.Test.YthgbfaoblnkniaaDoorGb
import Derived.Test.YthgbfaoblnkniaaDoorGxNameU
import Derived.Test.YthgbfaoblnkniaaDoorGf
import Derived.Deep.RegionHeld3
import Derived.Deep.AppendLies
import Derived.Test.YthgbfaoblnkniaaDoorGa
import Derived.SliceStrings
import Derived.Lib.SliceRun
import Derived.Test.YthgbfaoblnkniaaDoorGc
import Derived.Maps.StringElems
import Derived.StringKeys
import Derived.Laws.OwnMore
import Derived.OwnWalk
namespace Go.Proofs.YthgbfaoblnkniaaDoor
open Go.RowKit Go.Lib
def sortK (L : List (List UInt8)) (k : Nat) : List (List UInt8) := sortedN (L.take k)
theorem sortK_next (L : List (List UInt8)) (k : Nat) (hk : k < L.length) : sortK L (k + 1) = if nameL (L.getD k []) then insN (L.getD k []) (sortK L k) else sortK L k := by
 have e : L.take (k + 1) = L.take k ++ [L.getD k []] := by
  rw [List.take_add_one]
  simp [hk]
 unfold sortK sortedN
 rw [e, List.foldl_append]
 rfl
theorem ins_len (x : List UInt8) : ∀ r, (insN x r).length ≤ r.length + 1
 | [] => by simp [insN]
 | y :: r => by
  unfold insN
  split
  ·have := ins_len x r
   simp only [List.length_cons]; omega
  ·split <;> simp only [List.length_cons] <;> omega
theorem sortK_len (L : List (List UInt8)) : ∀ k, k ≤ L.length → (sortK L k).length ≤ k
 | 0, _ => by simp [sortK, sortedN]
 | k + 1, h => by
  have ih := sortK_len L k (by omega)
  rw [sortK_next L k (by omega)]
  split
  ·have := ins_len (L.getD k []) (sortK L k); omega
  ·omega
theorem sortK_mem (L : List (List UInt8)) (k : Nat) : ∀ x ∈ sortK L k, x ∈ L := fun x hx => List.mem_of_mem_take ((sortedN_spec (L.take k)).2 x |>.1 hx).1
set_option maxRecDepth 100000 in
set_option maxHeartbeats 4000000 in
theorem rsorted_new (w : World) (v : Value) (L : List (List UInt8)) (h : Texts w v L) (hL : L.length ≤ 100000) (hs : ∀ x ∈ L, x.length ≤ 1000000) :
  Calls Tryd.prog 20 #[v] w fun e w' => ∃ v', e = .returned v' ∧ TextsS w' v' (sortedN L) ∧ (∀ g, v'.ownBlock = some g → w.heap.size ≤ g) ∧ Below w.heap.size w w' := by
 obtain ⟨p, cap, rfl, ht⟩ := h
 have HX := Lib.hid ht
 have HS := Lib.hid hs
 clear ht hs
 obtain ⟨i0, hi, hz0, hz1, hz2⟩ := info_parts info_str
 go_enter Tryd.func20, Tryd.ntmps20
 go_wp2_with fail
 go_loopw [3, 4] (fun out i wr => ∃ k : Nat, k ≤ L.length ∧ i = .int .i64 k ∧ TextsS wr out (sortK L k) ∧ Below w.heap.size w wr ∧ RowKit.Hid (∀ g, out.ownBlock = some g → w.heap.size ≤ g)) (fun _ i _ => L.length - (RowKit.intOf i).toNat)
 case atStart => exact ⟨0, Nat.zero_le _, rfl, ⟨_, _, rfl, Nat.le_refl _, fun j hj => absurd hj (Nat.not_lt_zero j)⟩, (Below.refl _ _).alloc (Nat.le_refl _) _, Lib.hid (fun g e => by simp [Value.ownBlock] at e; omega)⟩
 case round =>
  obtain ⟨k, hk, rfl, hout, hbw, HNW⟩ := hrel
  by_cases hlt : k < L.length
  ·obtain ⟨gl, rfl, hc⟩ := HX.out k hlt
   have hc' := cell_later hbw hc
   have hnx := sortK_next L k hlt
   have hxl := HS.out _ (getD_mem L k hlt)
   have hslen := sortK_len L k hk
   have hsl : ∀ x ∈ sortK L k, x.length ≤ 1000000 := fun x hx => HS.out x (sortK_mem L k x hx)
   have HI := Lib.hid (ris_any (L.getD k []) hxl)
   obtain ⟨x, hx⟩ : ∃ x, L.getD k [] = x := ⟨_, rfl⟩
   rw [hx] at hc' hnx hxl HI
   obtain ⟨S, hS⟩ : ∃ S, sortK L k = S := ⟨_, rfl⟩
   rw [hS] at hout hnx hslen hsl
   clear hc hx hS
   obtain ⟨go, co, rfl, hco, hcells⟩ := hout
   have HC := Lib.hid hcells
   have HSL := Lib.hid hsl
   clear hcells hsl
   cases hn : nameL x with
   | false =>
    rw [hn] at hnx HI
    simp only [Bool.false_eq_true, if_false] at hnx
    have HN := Lib.hid hnx
    clear hnx hn
    go_wp2_with fail
    refine (HI.out _).mono ?_
    rintro e w1 ⟨rfl, hb1⟩
    go_wp2_with fail
    go_roundw
    case rel => exact ⟨k + 1, by omega, by go_num, by rw [HN.out]; exact ⟨go, co, rfl, hco, fun j hj => cell_later hb1 (HC.out j hj)⟩, below_next hbw hb1, HNW⟩
    case measure => simp [RowKit.intOf]; omega
   | true =>
    rw [hn] at hnx HI
    simp only [if_true] at hnx
    obtain ⟨q1, q2, q3, q4⟩ := ins_at x S
    rw [q4] at hnx
    have HN := Lib.hid hnx
    have HQ := Lib.hid q2
    have HQ3 := Lib.hid q3
    generalize aheadN x S = A at *
    clear hnx hn q4 q2 q3
    go_wp2_with fail
    refine (HI.out _).mono ?_
    rintro e w1 ⟨rfl, hb1⟩
    have hc1 := cell_later hb1 hc'
    have HC1 : RowKit.Hid (∀ j, j < S.length → w1.cell? ⟨go, j, none⟩ = some (.string (bs (S.getD j [])))) := Lib.hid (fun j hj => cell_later hb1 (HC.out j hj))
    have hb01 := below_next hbw hb1
    clear HC HI hb1 hc'
    go_wp2_with fail
    go_loopw [5] (fun a wa => ∃ j : Nat, j ≤ A ∧ a = .int .i64 j ∧ Below w1.heap.size w1 wa) (fun a _ => A - (RowKit.intOf a).toNat)
    case atStart => exact ⟨0, Nat.zero_le _, rfl, Below.refl _ _⟩
    case round =>
     obtain ⟨j, hj, rfl, hba⟩ := hrel
     have hc2 := cell_later hba hc1
     by_cases hjA : j < A
     ·have hcj := cell_later hba (HC1.out j (by omega))
      have hlj := HSL.out _ (getD_mem S j (by omega))
      have hq := HQ.out j hjA
      have HLt := Lib.hid (rless_any (S.getD j []) x hlj hxl)
      have hq' : lexLess (runesU (S.getD j [])) (runesU x) = true := hq
      rw [hq'] at HLt
      generalize S.getD j [] = y at *
      have hjS : j < S.length := by omega
      clear hq hq'
      go_wp2_with fail
      go_region_held3 (fun w' => w'.cell? ⟨go, j, none⟩ = some (.string (bs y)) ∧ w'.cell? ⟨gl, k, none⟩ = some (.string (bs x)) ∧ Below wr.heap.size wr w')
       (first | ((repeat' (refine And.intro ?_ ?_)) <;> (first | (go_simp; done) | (go_grown; done))) | (go_split_ands; (repeat' (refine And.intro ?_ ?_)) <;> (first | exact cell_later (by assumption) (by assumption) | (refine below_next ?_ (by assumption); assumption))))
       (first | (go_at_call 31; refine (HLt.out _).mono ?_; rintro e w3 ⟨rfl, hb3⟩))
      go_wp2_with fail
      go_roundw
      case rel => exact ⟨j + 1, by omega, by go_num, by go_split_ands; exact below_next hba (by assumption)⟩
      case measure => simp [RowKit.intOf]; omega
     ·obtain rfl : j = A := by omega
      by_cases hAS : j < S.length
      ·have hcj := cell_later hba (HC1.out j hAS)
       have hlj := HSL.out _ (getD_mem S j hAS)
       have hq := HQ3.out hAS
       have HLt := Lib.hid (rless_any (S.getD j []) x hlj hxl)
       have hq' : lexLess (runesU (S.getD j [])) (runesU x) = false := hq
       rw [hq'] at HLt
       obtain ⟨y, hy⟩ : ∃ y, S.getD j [] = y := ⟨_, rfl⟩
       rw [hy] at HLt hcj
       have HY := Lib.hid hy
       clear hq hq' hy hlj
       go_wp2_with fail
       go_region_held3 (fun w' => w'.cell? ⟨go, j, none⟩ = some (.string (bs y)) ∧ w'.cell? ⟨gl, k, none⟩ = some (.string (bs x)) ∧ Below wr.heap.size wr w')
        (first | ((repeat' (refine And.intro ?_ ?_)) <;> (first | (go_simp; done) | (go_grown; done))) | (go_split_ands; (repeat' (refine And.intro ?_ ?_)) <;> (first | exact cell_later (by assumption) (by assumption) | (refine below_next ?_ (by assumption); assumption))))
        (first | (go_at_call 31; refine (HLt.out _).mono ?_; rintro e w3 ⟨rfl, hb3⟩))
       go_split_ands
       have hb3' : Below wr.heap.size wr w3 := by assumption
       have hb13 := below_next hba hb3'
       have k1 : w3.cell? ⟨go, j, none⟩ = some (.string (bs y)) := by assumption
       have k2 : w3.cell? ⟨gl, k, none⟩ = some (.string (bs x)) := by assumption
       by_cases hyx : y = x
       ·subst hyx
        have hN2 := HN.out
        rw [if_pos ⟨hAS, HY.out⟩] at hN2
        have HN2 := Lib.hid hN2
        clear hN2
        go_wp2_with fail
        go_region
        go_wp2_with fail
        go_roundw
        case rel => exact ⟨k + 1, by omega, by go_num, by rw [HN2.out]; exact ⟨go, co, rfl, hco, fun q hq => cell_later hb13.drew (HC1.out q hq)⟩, below_next hb01 hb13.drew, HNW⟩
        case measure => simp [RowKit.intOf]; omega
       ·have hN2 := HN.out
        rw [if_neg (fun h => hyx (HY.out.symm.trans h.2))] at hN2
        have HN2 := Lib.hid hN2
        have HC3 : RowKit.Hid (∀ q, q < S.length → w3.drew.cell? ⟨go, q, none⟩ = some (.string (bs (S.getD q [])))) := Lib.hid (fun q hq => cell_later hb13.drew (HC1.out q hq))
        have hyx' : (y == x) = false := beq_eq_false_iff_ne.2 hyx
        have hb03 := below_next hb01 hb13.drew
        have hjc : j ≤ co := by omega
        clear hN2
        go_wp2_with fail
        go_region
        go_wp2_with fail
        have k3 : w3.drew.cell? ⟨gl, k, none⟩ = some (.string (bs x)) := k2
        generalize w3.drew = wx at *
        have HTake : RowKit.Hid (∀ q, q < (S.take j).length → wx.cell? ⟨go, 0 + q, none⟩ = some (.string (bs ((S.take j).getD q [])))) := Lib.hid (fun q hq => by
         rw [List.length_take] at hq
         rw [Nat.zero_add, HC3.out q (by omega)]
         simp [List.getD, show q < j by omega])
        have HDrop : RowKit.Hid (∀ q, q < (S.drop j).length → wx.cell? ⟨go, j + q, none⟩ = some (.string (bs ((S.drop j).getD q [])))) := Lib.hid (fun q hq => by
         rw [List.length_drop] at hq
         rw [HC3.out (j + q) (by omega)]
         simp [List.getD, List.getElem?_drop])
        have hcne : ¬ (co = j) := by omega
        clear k1 k2 hb3 hb3' hb13
        go_region_held3 (fun w' => w'.cell? ⟨gl, k, none⟩ = some (.string (bs x)) ∧ Below wx.heap.size wx w')
         (first | exact ⟨cell_later (by assumption) k3, by assumption⟩ | (go_split_ands; first | exact ⟨cell_later (by assumption) k3, by assumption⟩ | exact ⟨cell_later (keep_alloc (by assumption) _) k3, keep_alloc (by assumption) _⟩ | exact ⟨cell_later (Below.drew (keep_alloc (by assumption) _)) k3, Below.drew (keep_alloc (by assumption) _)⟩) | exact ⟨k3, Below.drew (Below.refl _ _)⟩ | exact ⟨k3, Below.refl _ _⟩)
         (first
          | (((go_split_ands; refine step_append_own (by rfl) _ _ 29 (by rfl) wx.heap.size 9 i0 (.string ByteArray.empty) 1 16 Tryd.underlying29 hi hz0 hz1 hz2 rfl (by decide) (.slice (some ⟨_, 0, none⟩) 0 0) 0 [] (by rfl) (by first | exact own_empty (heap_alloc_new _ _) (Nat.le_refl _) | exact own_empty (heap2_new _ _ _) (Nat.le_succ _) | exact own_empty (heap2_old _ _ _) (Nat.le_refl _)) ⟨go, 0, none⟩ j co (strs (S.take j)) (by rfl) (by simp only [strs, List.length_map, List.length_take]; omega) (cells_from _ go 0 (S.take j) (fun q hq => cell_later (by assumption) (HTake.out q hq))) (ones_strs _) (by unfold maxLen; omega) (by omega) (Below.size (by assumption)) ?_); intro v4 w4 hown4 hgrow4 hnil4; have hbw4 := keep_grown (by assumption) (by first | exact own_empty (heap_alloc_new _ _) (Nat.le_refl _) | exact own_empty (heap2_new _ _ _) (Nat.le_succ _) | exact own_empty (heap2_old _ _ _) (Nat.le_refl _)) hgrow4))
          | (((go_split_ands; refine step_append_own (by rfl) _ _ 29 (by rfl) wx.heap.size 9 i0 (.string ByteArray.empty) 1 16 Tryd.underlying29 hi hz0 hz1 hz2 rfl (by decide) v4 (0 + j) _ (by rfl) (by first | exact hown4 | exact hown4.alloc _) _ 1 1 ([.string (bs x)]) (by rfl) (rfl) (by first | exact news_str' _ _ _ | exact news_block (by first | (rw [hgrow4.block _ (by first | (simp; done) | (simp; omega)) (by first | (simp [Value.ownBlock]; done) | (simp [Value.ownBlock]; omega))]; first | exact heap2_new _ _ _ | exact heap2_old _ _ _))) (ones_one _) (by unfold maxLen; omega) (by omega) (Below.size (by assumption)) ?_); intro v6 w6 hown6 hgrow6 hnil6; have hbw6 := keep_grown (by assumption) (by first | exact hown4 | exact hown4.alloc _) hgrow6))
          | (((go_split_ands; refine step_append_own (by rfl) _ _ 29 (by rfl) wx.heap.size 9 i0 (.string ByteArray.empty) 1 16 Tryd.underlying29 hi hz0 hz1 hz2 rfl (by decide) v6 (0 + j + 1) _ (by rfl) (hown6) ⟨go, j, none⟩ (S.length - j) (co - j) (strs (S.drop j)) (by rfl) (by simp only [strs, List.length_map, List.length_drop, Nat.mul_one]) (cells_from _ go j (S.drop j) (fun q hq => cell_later (by assumption) (HDrop.out q hq))) (ones_strs _) (by unfold maxLen; omega) (by omega) (Below.size (by assumption)) ?_); intro v8 w8 hown8 hgrow8 hnil8; have hbw8 := keep_grown (by assumption) (hown6) hgrow8)))
        all_goals
         go_split_ands
         have hbf : Below w.heap.size w w8 := below_next hb03 (by assumption)
         have hn6 : v6 ≠ .slice none 0 0 := fun h => by have := hnil6.1 h; simp at this
         have hn8 : v8 ≠ .slice none 0 0 := fun h => hn6 (hnil8.1 h).1
         have hcat : [] ++ strs (S.take j) ++ [.string (bs x)] ++ strs (S.drop j) = strs (S.take j ++ x :: S.drop j) := by simp [strs]
         have hlen : 0 + j + 1 + (S.length - j) = (S.take j ++ x :: S.drop j).length := by
          rw [List.length_append, List.length_cons, List.length_take, List.length_drop]
          omega
         rw [hcat, hlen] at hown8
         have HNew : RowKit.Hid (∀ g, v8.ownBlock = some g → w.heap.size ≤ g) := Lib.hid (fun g e => Nat.le_trans (Below.size hb03) (hown8.lt g e).1)
         have HO := Lib.hid (own_textsS hown8 hn8)
         clear hown8 hn8 hn6 hnil8 hnil6 hnil4
         go_wp2_with fail
         go_roundw
         case rel => exact ⟨k + 1, by omega, by go_num, by rw [HN2.out]; exact HO.out, hbf, HNew⟩
         case measure => simp [RowKit.intOf]; omega
      ·obtain rfl : j = S.length := by omega
       have hN2 := HN.out
       rw [if_neg (fun h => hAS h.1), List.take_length, List.drop_length] at hN2
       have HN2 := Lib.hid hN2
       clear hN2 hAS hjA
       go_wp2_with fail
       go_quiet (fail)
       have hbq : Below w1.heap.size w1 (wr.drewN nq) := hba.trans ⟨rfl, rfl, rfl, Nat.le_refl _, fun _ _ => rfl⟩
       generalize wr.drewN nq = wq at *
       go_wp2_with fail
       go_quiet (fail)
       have hbz : Below w1.heap.size w1 (wq.drewN nq) := hbq.trans ⟨rfl, rfl, rfl, Nat.le_refl _, fun _ _ => rfl⟩
       generalize wq.drewN nq = wx at *
       go_wp2_with fail
       have hb03 := below_next hb01 hbz
       have HTake : RowKit.Hid (∀ q, q < S.length → wx.cell? ⟨go, 0 + q, none⟩ = some (.string (bs (S.getD q [])))) := Lib.hid (fun q hq => by
        rw [Nat.zero_add]
        exact cell_later hbz (HC1.out q hq))
       have k3 : wx.cell? ⟨gl, k, none⟩ = some (.string (bs x)) := cell_later hbz hc1
       clear hba hbq hbz hc2
       by_cases hcj : co = S.length
       ·subst hcj
        go_region_held3 (fun w' => w'.cell? ⟨gl, k, none⟩ = some (.string (bs x)) ∧ Below wx.heap.size wx w')
         (first | exact ⟨cell_later (by assumption) k3, by assumption⟩ | (go_split_ands; first | exact ⟨cell_later (by assumption) k3, by assumption⟩ | exact ⟨cell_later (keep_alloc (by assumption) _) k3, keep_alloc (by assumption) _⟩ | exact ⟨cell_later (Below.drew (keep_alloc (by assumption) _)) k3, Below.drew (keep_alloc (by assumption) _)⟩) | exact ⟨k3, Below.drew (Below.refl _ _)⟩ | exact ⟨k3, Below.refl _ _⟩)
         (first
          | (((go_split_ands; refine step_append_own (by rfl) _ _ 29 (by rfl) wx.heap.size 9 i0 (.string ByteArray.empty) 1 16 Tryd.underlying29 hi hz0 hz1 hz2 rfl (by decide) (.slice (some ⟨_, 0, none⟩) 0 0) 0 [] (by rfl) (by first | exact own_empty (heap_alloc_new _ _) (Nat.le_refl _) | exact own_empty (heap2_new _ _ _) (Nat.le_succ _) | exact own_empty (heap2_old _ _ _) (Nat.le_refl _)) ⟨go, 0, none⟩ S.length S.length (strs S) (by rfl) (by simp only [strs, List.length_map, Nat.mul_one]) (cells_from _ go 0 S (fun q hq => cell_later (by assumption) (HTake.out q hq))) (ones_strs _) (by unfold maxLen; omega) (by omega) (Below.size (by assumption)) ?_); intro v4 w4 hown4 hgrow4 hnil4; have hbw4 := keep_grown (by assumption) (by first | exact own_empty (heap_alloc_new _ _) (Nat.le_refl _) | exact own_empty (heap2_new _ _ _) (Nat.le_succ _) | exact own_empty (heap2_old _ _ _) (Nat.le_refl _)) hgrow4))
          | (((go_split_ands; refine step_append_own (by rfl) _ _ 29 (by rfl) wx.heap.size 9 i0 (.string ByteArray.empty) 1 16 Tryd.underlying29 hi hz0 hz1 hz2 rfl (by decide) v4 (0 + S.length) _ (by rfl) (by first | exact hown4 | exact hown4.alloc _) _ 1 1 ([.string (bs x)]) (by rfl) (rfl) (by first | exact news_str' _ _ _ | exact news_block (by first | (rw [hgrow4.block _ (by first | (simp; done) | (simp; omega)) (by first | (simp [Value.ownBlock]; done) | (simp [Value.ownBlock]; omega))]; first | exact heap2_new _ _ _ | exact heap2_old _ _ _))) (ones_one _) (by unfold maxLen; omega) (by omega) (Below.size (by assumption)) ?_); intro v6 w6 hown6 hgrow6 hnil6; have hbw6 := keep_grown (by assumption) (by first | exact hown4 | exact hown4.alloc _) hgrow6))
          | (((go_split_ands; refine step_append_own (by rfl) _ _ 29 (by rfl) wx.heap.size 9 i0 (.string ByteArray.empty) 1 16 Tryd.underlying29 hi hz0 hz1 hz2 rfl (by decide) v6 (0 + S.length + 1) _ (by rfl) (hown6) ⟨go, 0, none⟩ 0 0 ([]) (by rfl) (rfl) (fun j u hj => by simp at hj) (fun u hu => by simp at hu) (by unfold maxLen; omega) (by omega) (Below.size (by assumption)) ?_); intro v8 w8 hown8 hgrow8 hnil8; have hbw8 := keep_grown (by assumption) (hown6) hgrow8)))
        all_goals
         go_split_ands
         have hbf : Below w.heap.size w w8 := below_next hb03 (by assumption)
         have hn6 : v6 ≠ .slice none 0 0 := fun h => by have := hnil6.1 h; simp at this
         have hn8 : v8 ≠ .slice none 0 0 := fun h => hn6 (hnil8.1 h).1
         have hcat : [] ++ strs S ++ [.string (bs x)] ++ [] = strs (S ++ [x]) := by simp [strs]
         have hlen : 0 + S.length + 1 + 0 = (S ++ [x]).length := by
          rw [List.length_append]
          simp
         rw [hcat, hlen] at hown8
         have HNew : RowKit.Hid (∀ g, v8.ownBlock = some g → w.heap.size ≤ g) := Lib.hid (fun g e => Nat.le_trans (Below.size hb03) (hown8.lt g e).1)
         have HO := Lib.hid (own_textsS hown8 hn8)
         clear hown8 hn8 hn6 hnil8 hnil6 hnil4
         go_wp2_with fail
         go_roundw
         case rel => exact ⟨k + 1, by omega, by go_num, by rw [HN2.out]; exact HO.out, hbf, HNew⟩
         case measure => simp [RowKit.intOf]; omega
       ·have hcne : ¬ (co = S.length) := hcj
        go_region_held3 (fun w' => w'.cell? ⟨gl, k, none⟩ = some (.string (bs x)) ∧ Below wx.heap.size wx w')
         (first | exact ⟨cell_later (by assumption) k3, by assumption⟩ | (go_split_ands; first | exact ⟨cell_later (by assumption) k3, by assumption⟩ | exact ⟨cell_later (keep_alloc (by assumption) _) k3, keep_alloc (by assumption) _⟩ | exact ⟨cell_later (Below.drew (keep_alloc (by assumption) _)) k3, Below.drew (keep_alloc (by assumption) _)⟩) | exact ⟨k3, Below.drew (Below.refl _ _)⟩ | exact ⟨k3, Below.refl _ _⟩)
         (first
          | (((go_split_ands; refine step_append_own (by rfl) _ _ 29 (by rfl) wx.heap.size 9 i0 (.string ByteArray.empty) 1 16 Tryd.underlying29 hi hz0 hz1 hz2 rfl (by decide) (.slice (some ⟨_, 0, none⟩) 0 0) 0 [] (by rfl) (by first | exact own_empty (heap_alloc_new _ _) (Nat.le_refl _) | exact own_empty (heap2_new _ _ _) (Nat.le_succ _) | exact own_empty (heap2_old _ _ _) (Nat.le_refl _)) ⟨go, 0, none⟩ S.length co (strs S) (by rfl) (by simp only [strs, List.length_map, Nat.mul_one]) (cells_from _ go 0 S (fun q hq => cell_later (by assumption) (HTake.out q hq))) (ones_strs _) (by unfold maxLen; omega) (by omega) (Below.size (by assumption)) ?_); intro v4 w4 hown4 hgrow4 hnil4; have hbw4 := keep_grown (by assumption) (by first | exact own_empty (heap_alloc_new _ _) (Nat.le_refl _) | exact own_empty (heap2_new _ _ _) (Nat.le_succ _) | exact own_empty (heap2_old _ _ _) (Nat.le_refl _)) hgrow4))
          | (((go_split_ands; refine step_append_own (by rfl) _ _ 29 (by rfl) wx.heap.size 9 i0 (.string ByteArray.empty) 1 16 Tryd.underlying29 hi hz0 hz1 hz2 rfl (by decide) v4 (0 + S.length) _ (by rfl) (by first | exact hown4 | exact hown4.alloc _) _ 1 1 ([.string (bs x)]) (by rfl) (rfl) (by first | exact news_str' _ _ _ | exact news_block (by first | (rw [hgrow4.block _ (by first | (simp; done) | (simp; omega)) (by first | (simp [Value.ownBlock]; done) | (simp [Value.ownBlock]; omega))]; first | exact heap2_new _ _ _ | exact heap2_old _ _ _))) (ones_one _) (by unfold maxLen; omega) (by omega) (Below.size (by assumption)) ?_); intro v6 w6 hown6 hgrow6 hnil6; have hbw6 := keep_grown (by assumption) (by first | exact hown4 | exact hown4.alloc _) hgrow6))
          | (((go_split_ands; refine step_append_own (by rfl) _ _ 29 (by rfl) wx.heap.size 9 i0 (.string ByteArray.empty) 1 16 Tryd.underlying29 hi hz0 hz1 hz2 rfl (by decide) v6 (0 + S.length + 1) _ (by rfl) (hown6) ⟨go, S.length, none⟩ 0 (co - S.length) ([]) (by rfl) (rfl) (fun j u hj => by simp at hj) (fun u hu => by simp at hu) (by unfold maxLen; omega) (by omega) (Below.size (by assumption)) ?_); intro v8 w8 hown8 hgrow8 hnil8; have hbw8 := keep_grown (by assumption) (hown6) hgrow8)))
        all_goals
         go_split_ands
         have hbf : Below w.heap.size w w8 := below_next hb03 (by assumption)
         have hn6 : v6 ≠ .slice none 0 0 := fun h => by have := hnil6.1 h; simp at this
         have hn8 : v8 ≠ .slice none 0 0 := fun h => hn6 (hnil8.1 h).1
         have hcat : [] ++ strs S ++ [.string (bs x)] ++ [] = strs (S ++ [x]) := by simp [strs]
         have hlen : 0 + S.length + 1 + 0 = (S ++ [x]).length := by
          rw [List.length_append]
          simp
         rw [hcat, hlen] at hown8
         have HNew : RowKit.Hid (∀ g, v8.ownBlock = some g → w.heap.size ≤ g) := Lib.hid (fun g e => Nat.le_trans (Below.size hb03) (hown8.lt g e).1)
         have HO := Lib.hid (own_textsS hown8 hn8)
         clear hown8 hn8 hn6 hnil8 hnil6 hnil4
         go_wp2_with fail
         go_roundw
         case rel => exact ⟨k + 1, by omega, by go_num, by rw [HN2.out]; exact HO.out, hbf, HNew⟩
         case measure => simp [RowKit.intOf]; omega
  ·have hke : k = L.length := by omega
   subst hke
   have e : sortK L L.length = sortedN L := by unfold sortK; rw [List.take_length]
   rw [e] at hout
   have HO := Lib.hid hout
   clear hout e
   go_wp2_with fail
   go_ret
   exact ⟨_, rfl, HO.out, HNW.out, hbw⟩
theorem rsorted_any (w : World) (v : Value) (L : List (List UInt8)) (h : Texts w v L) (hL : L.length ≤ 100000) (hs : ∀ x ∈ L, x.length ≤ 1000000) :
  Calls Tryd.prog 20 #[v] w fun e w' => ∃ v', e = .returned v' ∧ TextsS w' v' (sortedN L) ∧ Below w.heap.size w w' :=
 (rsorted_new w v L h hL hs).mono (fun _ _ ⟨v', h1, h2, _, h3⟩ => ⟨v', h1, h2, h3⟩)
end Go.Proofs.YthgbfaoblnkniaaDoor

namespace Go.Proofs.YthgbfaoblnkniaaDoor
open Go.ChangeShapes Go.WideShapes Go.ChangeAt Go.RowKit
def ArgTx (w : World) (v : Value) (L : List (List UInt8)) : Prop := ∃ p cap, v = .slice p L.length cap ∧ ∀ i, i < L.length → ∃ a : Addr, p = some a ∧ w.cell? (a.add i) = some (.string (bs (L.getD i [])))
end Go.Proofs.YthgbfaoblnkniaaDoor

namespace Go.Proofs.YthgbfaoblnkniaaDoor
open Go.RowKit Go.Lib
theorem ArgTx.below {w w' : World} {v : Value} {L : List (List UInt8)} (h : ArgTx w v L) (hb : Below w.heap.size w w') : ArgTx w' v L := by
 obtain ⟨p, cap, hv, hc⟩ := h
 refine ⟨p, cap, hv, fun j hj => ?_⟩
 obtain ⟨a, rfl, h1⟩ := hc j hj
 exact ⟨a, rfl, cell_later hb h1⟩
end Go.Proofs.YthgbfaoblnkniaaDoor

namespace Go.Proofs.YthgbfaoblnkniaaDoor
open Go.RowKit Go.Lib
set_option maxRecDepth 100000 in
set_option maxHeartbeats 1000000 in
theorem index_any (w : World) (v : Value) (L : List (List UInt8)) (s : List UInt8) (hv : Texts w v L) (hL : L.length ≤ 1000000) :
  Calls Tryd.prog 28 #[v, .string (bs s)] w fun e w' => e = .returned (.int .i64 (idxI L s)) ∧ w = w' := by
 obtain ⟨p, c, rfl, hp⟩ := hv
 have HX := Lib.hid hp
 have HA := Lib.hid (idxI_at L s)
 have HZ := Lib.hid (idxI_none L s)
 obtain ⟨R, hR⟩ : ∃ R, idxI L s = R := ⟨_, rfl⟩
 rw [hR] at HA HZ ⊢
 clear hp hR
 go_enter Tryd.func28, Tryd.ntmps28
 go_wp2_with fail
 go_loopw [8] (fun i wr => ∃ k : Nat, k ≤ L.length ∧ i = .int .i64 k ∧ wr = w ∧ ∀ j, j < k → L.getD j [] ≠ s) (fun i _ => L.length - (RowKit.intOf i).toNat)
 case atStart => exact ⟨0, Nat.zero_le _, rfl, rfl, fun j hj => absurd hj (Nat.not_lt_zero j)⟩
 case round =>
  obtain ⟨k, hk, rfl, rfl, hn⟩ := hrel
  have HN := Lib.hid hn
  clear hn
  by_cases hlt : k < L.length
  ·obtain ⟨g, rfl, hc⟩ := HX.out k hlt
   by_cases he : L.getD k [] = s
   ·have H1 := Lib.hid (HA.out k hlt he HN.out)
    rw [he] at hc
    clear he
    go_wp2_with fail
    go_ret
    exact ⟨by rw [H1.out]; rfl, rfl⟩
   ·obtain ⟨x, hx⟩ : ∃ x, L.getD k [] = x := ⟨_, rfl⟩
    have he0 : L.getD k [] ≠ s := he
    have H1 : RowKit.Hid (∀ j, j < k + 1 → L.getD j [] ≠ s) := Lib.hid (by
     intro j hj
     by_cases hjk : j < k
     ·exact HN.out j hjk
     ·obtain rfl : j = k := by omega
      exact he0)
    rw [hx] at hc he
    have e1 : (s == x) = false := beq_eq_false_iff_ne.2 fun e => he e.symm
    clear he0 he hx
    go_wp2_with fail
    go_roundw
    case rel => exact ⟨k + 1, by omega, by go_num, trivial, H1.out⟩
    case measure => simp [RowKit.intOf]; omega
  ·have hke : k = L.length := by omega
   subst hke
   have H1 := Lib.hid (HZ.out HN.out)
   go_wp2_with fail
   go_ret
   exact ⟨by rw [H1.out]; rfl, rfl⟩
theorem good_len (L : List (List UInt8)) (k : Nat) (hs : ∀ x ∈ L, x.length ≤ 1000000) : (L.getD k []).length ≤ 1000000 := by
 by_cases h : k < L.length
 ·exact hs _ (getD_mem L k h)
 ·rw [List.getD_eq_getElem?_getD, List.getElem?_eq_none (by omega)]
  simp
set_option maxRecDepth 100000 in
set_option maxHeartbeats 2000000 in
theorem tis_any (w : World) (v : Value) (L : List (List UInt8)) (hv : Texts w v L) (hL : L.length ≤ 1000000) (hs : ∀ x ∈ L, x.length ≤ 1000000) (hT : Lib.Utf8Tabs 0 1 w) :
  Calls Tryd.prog 27 #[v] w fun e w' => e = .returned (.bool (isT L)) ∧ Below w.heap.size w w' := by
 obtain ⟨p, c, rfl, hp⟩ := hv
 have HX := Lib.hid hp
 have HS := Lib.hid hs
 have HT := Lib.hid hT
 have HA := Lib.hid (isT_no L)
 have HZ := Lib.hid (isT_yes L)
 obtain ⟨R, hR⟩ : ∃ R, isT L = R := ⟨_, rfl⟩
 rw [hR] at HA HZ ⊢
 clear hp hs hT hR
 go_enter Tryd.func27, Tryd.ntmps27
 go_wp2_with fail
 go_loopw [7] (fun i wr => ∃ k : Nat, k ≤ L.length ∧ i = .int .i64 k ∧ (∀ j, j < k → goodT L j = true) ∧ Below w.heap.size w wr) (fun i _ => L.length - (RowKit.intOf i).toNat)
 case atStart => exact ⟨0, Nat.zero_le _, rfl, fun j hj => absurd hj (Nat.not_lt_zero j), Below.refl _ _⟩
 case round =>
  obtain ⟨k, hk, rfl, hn, hbw⟩ := hrel
  have HN := Lib.hid hn
  clear hn
  by_cases hlt : k < L.length
  ·have HTr := Lib.hid (Utf8Tabs_below HT.out hbw)
   have hstep : goodT L k = true → ∀ j, j < k + 1 → goodT L j = true := fun hg j hj => by
    by_cases hjk : j < k
    ·exact HN.out j hjk
    ·obtain rfl : j = k := by omega
     exact hg
   have HStep := Lib.hid hstep
   have HNo := Lib.hid (HA.out k hlt)
   clear hstep
   cases k with
   | zero =>
    obtain ⟨g, rfl, hc⟩ := HX.out 0 hlt
    have hc' := cell_later hbw hc
    have HI := Lib.hid (nis_any (L.getD 0 []) (good_len L 0 HS.out))
    have hg0 := good_first L
    obtain ⟨x, hx⟩ : ∃ x, L.getD 0 [] = x := ⟨_, rfl⟩
    rw [hx] at hc' HI hg0
    clear hc hx
    cases hnx : nameL x with
    | false =>
     rw [hnx] at HI hg0
     have H1 := Lib.hid (HNo.out hg0)
     clear hnx hg0
     go_wp2_with fail
     refine (HI.out _ HTr.out).mono ?_
     rintro e w1 ⟨rfl, hb1⟩
     go_wp2_with fail
     go_ret
     exact ⟨by rw [H1.out]; rfl, below_next hbw hb1⟩
    | true =>
     rw [hnx] at HI hg0
     have H1 := Lib.hid (HStep.out hg0)
     clear hnx hg0
     go_wp2_with fail
     refine (HI.out _ HTr.out).mono ?_
     rintro e w1 ⟨rfl, hb1⟩
     go_wp2_with fail
     go_roundw
     case rel => exact ⟨1, by omega, rfl, H1.out, below_next hbw hb1⟩
     case measure => simp [RowKit.intOf]; omega
   | succ q =>
    obtain ⟨g, rfl, hc⟩ := HX.out (q + 1) hlt
    obtain ⟨g', hg', hd⟩ := HX.out q (by omega)
    obtain rfl : g = g' := by simpa using hg'
    have hc' := cell_later hbw hc
    have HI := Lib.hid (nis_any (L.getD (q + 1) []) (good_len L (q + 1) HS.out))
    have HL := Lib.hid (nless_any (L.getD q []) (L.getD (q + 1) []) (good_len L q HS.out) (good_len L (q + 1) HS.out))
    have hg0 := good_next L q
    have hlt0 : ltN (L.getD q []) (L.getD (q + 1) []) = lexLess (runesU (L.getD q [])) (runesU (L.getD (q + 1) [])) := rfl
    obtain ⟨x, hx⟩ : ∃ x, L.getD (q + 1) [] = x := ⟨_, rfl⟩
    obtain ⟨y, hy⟩ : ∃ y, L.getD q [] = y := ⟨_, rfl⟩
    rw [hx] at hc' HI HL hg0 hlt0
    rw [hy] at hd HL hg0 hlt0
    rw [← hlt0] at HL
    have hd' := cell_later hbw hd
    have c3 : (0 : Int) < (q : Int) + 1 := by omega
    clear hc hx hy hlt0 hg'
    cases hnx : nameL x with
    | false =>
     rw [hnx] at HI hg0
     have H1 := Lib.hid (HNo.out hg0)
     clear hnx hg0
     go_wp2_with fail
     refine (HI.out _ HTr.out).mono ?_
     rintro e w1 ⟨rfl, hb1⟩
     go_wp2_with fail
     go_ret
     exact ⟨by rw [H1.out]; rfl, below_next hbw hb1⟩
    | true =>
     rw [hnx, Bool.true_and] at hg0
     rw [hnx] at HI
     cases hl : ltN y x with
     | false =>
      rw [hl] at HL hg0
      have H1 := Lib.hid (HNo.out hg0)
      clear hnx hg0 hl
      go_wp2_with fail
      refine (HI.out _ HTr.out).mono ?_
      rintro e w1 ⟨rfl, hb1⟩
      have hb2 := below_next hbw hb1
      have hd2 := cell_later hb2 hd
      clear hd' hc' hd hb1
      go_wp2_with fail
      refine (HL.out _).mono ?_
      rintro e w2 ⟨rfl, hb3⟩
      go_wp2_with fail
      go_ret
      exact ⟨by rw [H1.out]; rfl, below_next hb2 hb3⟩
     | true =>
      rw [hl] at HL hg0
      have H1 := Lib.hid (HStep.out hg0)
      clear hnx hg0 hl
      go_wp2_with fail
      refine (HI.out _ HTr.out).mono ?_
      rintro e w1 ⟨rfl, hb1⟩
      have hb2 := below_next hbw hb1
      have hd2 := cell_later hb2 hd
      clear hd' hc' hd hb1
      go_wp2_with fail
      refine (HL.out _).mono ?_
      rintro e w2 ⟨rfl, hb3⟩
      go_wp2_with fail
      go_roundw
      case rel => exact ⟨q + 1 + 1, by omega, by go_num, H1.out, below_next hb2 hb3⟩
      case measure => simp [RowKit.intOf]; omega
  ·have hke : k = L.length := by omega
   subst hke
   have H1 := Lib.hid (HZ.out HN.out)
   go_wp2_with fail
   go_ret
   exact ⟨by rw [H1.out]; rfl, hbw⟩
end Go.Proofs.YthgbfaoblnkniaaDoor

namespace Go.Proofs.YthgbfaoblnkniaaDoor
open Go.RowKit Go.Lib
set_option maxRecDepth 100000 in
set_option maxHeartbeats 1000000 in
theorem make_new (w : World) (v : Value) (L : List (List UInt8)) (h : Texts w v L) (hL : L.length ≤ 100000) (hs : ∀ x ∈ L, x.length ≤ 1000000) (hT : Lib.Utf8Tabs 0 1 w) :
  Calls Tryd.prog 25 #[v] w fun e w' => ∃ v', e = .returned v' ∧ Texts w' v' (sortedN L) ∧ NewV w.heap.size v' ∧ Below w.heap.size w w' := by
 have H1 := Lib.hid (nsorted_new w v L h hL hs hT)
 clear h hL hs hT
 obtain ⟨R, hR⟩ : ∃ R, sortedN L = R := ⟨_, rfl⟩
 rw [hR] at H1 ⊢
 clear hR
 go_enter Tryd.func25, Tryd.ntmps25
 go_wp2_with fail
 refine H1.out.mono ?_
 rintro e w1 ⟨v1, rfl, ht, hn, hb⟩
 go_wp2_with fail
 go_ret
 exact ⟨_, rfl, ht, hn, hb⟩
theorem make_any (w : World) (v : Value) (L : List (List UInt8)) (h : Texts w v L) (hL : L.length ≤ 100000) (hs : ∀ x ∈ L, x.length ≤ 1000000) (hT : Lib.Utf8Tabs 0 1 w) :
  Calls Tryd.prog 25 #[v] w fun e w' => ∃ v', e = .returned v' ∧ Texts w' v' (sortedN L) ∧ Below w.heap.size w w' :=
 (make_new w v L h hL hs hT).mono (fun _ _ ⟨v', h1, h2, _, h3⟩ => ⟨v', h1, h2, h3⟩)
set_option maxRecDepth 100000 in
set_option maxHeartbeats 1000000 in
theorem find_any (w : World) (v : Value) (L : List (List UInt8)) (s : List UInt8) (hv : Texts w v L) (hL : L.length ≤ 1000000) (hs : ∀ x ∈ L, x.length ≤ 1000000) (hT : Lib.Utf8Tabs 0 1 w) :
  Calls Tryd.prog 17 #[v, .string (bs s)] w fun e w' => e = .returned (.tuple #[.int .i64 ((findT L s).1 : Nat), .bool (findT L s).2]) ∧ Below w.heap.size w w' := by
 have H1 := Lib.hid (tis_any w v L hv hL hs hT)
 have H2 := Lib.hid (fun w' (h : Texts w' v L) => index_any w' v L s h hL)
 have HV := Lib.hid hv
 obtain ⟨r1, r2⟩ := idxI_range L s
 cases ht : isT L with
 | false =>
  rw [ht] at H1
  have HF := Lib.hid (find_not L s ht)
  generalize findT L s = F at *
  clear hv hL hs hT ht r1 r2
  go_enter Tryd.func17, Tryd.ntmps17
  go_wp2_with fail
  refine H1.out.mono ?_
  rintro e w1 ⟨rfl, hb⟩
  go_wp2_with fail
  go_ret2
  exact ⟨by rw [HF.out]; rfl, hb⟩
 | true =>
  rw [ht] at H1
  have hF := find_idx L s ht
  generalize findT L s = F at *
  generalize idxI L s = I at *
  subst hF
  clear hv hs hT ht
  by_cases h0 : 0 ≤ I
  ·have e1 : decide (0 ≤ I) = true := decide_eq_true h0
   have e2 : (max I 0 : Int) = I := by omega
   have e3 : ((max I 0).toNat : Int) = I := by omega
   simp only [e3, e1]
   clear e1 e3
   go_enter Tryd.func17, Tryd.ntmps17
   go_wp2_with fail
   refine H1.out.mono ?_
   rintro e w1 ⟨rfl, hb⟩
   have HV1 := Lib.hid (HV.out.below hb)
   go_wp2_with fail
   refine (H2.out _ HV1.out).mono ?_
   rintro e w2 ⟨rfl, rfl⟩
   go_wp2_with fail
   go_ret2
   exact ⟨rfl, hb⟩
  ·have e1 : decide (0 ≤ I) = false := decide_eq_false h0
   have e2 : (max I 0 : Int) = 0 := by omega
   have e3 : ((max I 0).toNat : Int) = 0 := by omega
   simp only [e3, e1]
   have E1 := Lib.hid e1
   clear e1 e3
   go_enter Tryd.func17, Tryd.ntmps17
   go_wp2_with fail
   refine H1.out.mono ?_
   rintro e w1 ⟨rfl, hb⟩
   have HV1 := Lib.hid (HV.out.below hb)
   go_wp2_with fail
   refine (H2.out _ HV1.out).mono ?_
   rintro e w2 ⟨rfl, rfl⟩
   go_wp2_with fail
   go_ret2
   refine ⟨?_, hb⟩
   show Ending.returned (.tuple #[.int .i64 0, .bool (decide (0 ≤ I))]) = _
   rw [E1.out]
end Go.Proofs.YthgbfaoblnkniaaDoor

namespace Go.Proofs.YthgbfaoblnkniaaDoor
open Go.RowKit Go.Lib Go.Maps Go.WideMaps
theorem key_inv {key : Value} {kl : Lit} (h : keyOf Tryd.prog 9 key = some kl) : ∃ l, key = .string (bs l) ∧ kl = .string l := by
 obtain ⟨s, rfl, rfl, _⟩ := string_of_keyOf Tryd.underlying9 h
 exact ⟨s.data.toList, by simp [bs], rfl⟩
theorem bs_inj' {a b : List UInt8} (h : bs a = bs b) : a = b := by
 simpa [bs] using h
theorem ptr_shape {v : Value} {y : DataW Unit × List MemPlace} (h : ptrElem v = some y) : ∃ o : Option Nat, v = ptrAt o := by
 unfold ptrElem at h
 split at h
 ·exact ⟨none, rfl⟩
 ·rename_i g
  exact ⟨some g, rfl⟩
 ·cases h
section
variable {w : World} {ops : Array Oper} {rest : List Oper} {o : Oper} {a : Act} {Q : Exit → Act → World → Prop}
theorem wpList_next_str {β : Type} (hg : o.guard = none) (it : Operand) (hop : o.op = Op.next it false) (R : Value → Option (DataW Unit × List MemPlace)) (mkV : β → Value) (invV : ∀ v y, R v = some y → ∃ c, v = mkV c) (b r n : Nat) (D : DataW Unit) (left : Lit → Bool) (cnt : Nat)
  (hit : a.eval it = .pointer (some ⟨r, 0, none⟩)) (h : w.ranges Tryd.prog 9 R b r n D left cnt)
  (hDone : cnt = 0 → (∀ kl, left kl = false) → wpList Tryd.prog ops Q rest (a.put o.dst (.tuple #[.bool false])) w)
  (hMore : ∀ (l : List UInt8) (c : β) (w' : World) (cnt' : Nat), left (.string l) = true → w'.ranges Tryd.prog 9 R b r n D (fun z => left z && !z.sameKey (.string l)) cnt' → cnt' < cnt →
   w.grownBy w' (some r) → w'.heap.size = w.heap.size → (Instr.entry (.pointer (some ⟨r, 0, none⟩))).run Tryd.prog w' = .ok (.tuple #[.string (bs l), mkV c]) w' → wpList Tryd.prog ops Q rest (a.put o.dst (.tuple #[.bool true, .string (bs l), mkV c])) w') :
  wpList Tryd.prog ops Q (o :: rest) a w :=
 wpList_next_ranges w hg it hop 9 keyStr R (fun l => .string (bs l)) mkV (fun key kl hk => by obtain ⟨l, h1, _⟩ := key_inv hk; exact ⟨l, h1⟩) invV b r n D left cnt hit h hDone
  (fun l c kl y w' cnt' hkey hlk _ _ hrg hlt hgr hsz hen => by
   obtain ⟨l', e1, rfl⟩ := key_inv hkey
   injection e1 with e1
   obtain rfl := bs_inj' e1
   exact hMore l c w' cnt' hlk hrg hlt hgr hsz hen)
end
theorem same_str (a b : List UInt8) : (Lit.string a).sameKey (.string b) = decide (a = b) := by
 by_cases h : a = b
 ·subst h; rw [WideAt.sameKey_self (show WideAt.IsKeyLit (.string a) from trivial), decide_eq_true rfl]
 ·rw [Maps.sameKey_ne (by simpa using h), decide_eq_false h]
def LeftK (ks done : List (List UInt8)) (left : Lit → Bool) : Prop := ∀ l, left (.string l) = decide (l ∈ ks ∧ l ∉ done)
theorem left_start {D : DataW Unit} {ks : List (List UInt8)} (h : ∀ l, Maps.has D (.string l) = decide (l ∈ ks)) : LeftK ks [] (Maps.has D) := fun l => by rw [h]; simp
theorem left_next {ks done : List (List UInt8)} {left : Lit → Bool} (h : LeftK ks done left) (l : List UInt8) (hl : left (.string l) = true) : LeftK ks (done ++ [l]) (fun z => left z && !z.sameKey (.string l)) ∧ l ∈ ks ∧ l ∉ done := by
 rw [h l] at hl
 refine ⟨fun x => ?_, of_decide_eq_true hl⟩
 show (left (.string x) && !(Lit.string x).sameKey (.string l)) = _
 rw [h x, same_str]
 by_cases e : x = l
 ·subst e; simp
 ·simp [e]
theorem left_done {ks done : List (List UInt8)} {left : Lit → Bool} (h : LeftK ks done left) (h0 : ∀ kl, left kl = false) (hd : ∀ x ∈ done, x ∈ ks) (x : List UInt8) : x ∈ done ↔ x ∈ ks := by
 refine ⟨hd x, fun hx => ?_⟩
 have h1 := h x
 rw [h0] at h1
 have h2 := of_decide_eq_false h1.symm
 exact Decidable.byContradiction fun h3 => h2 ⟨hx, h3⟩
theorem nodup_snoc {done : List (List UInt8)} {l : List UInt8} (h : done.Nodup) (hl : l ∉ done) : (done ++ [l]).Nodup :=
 List.nodup_append.2 ⟨h, by simp, fun a ha b hb e => by rw [List.mem_singleton] at hb; subst hb; subst e; exact hl ha⟩
theorem texts_news (w : World) (l : List UInt8) (e : TypeId) : ∀ (j : Nat) (u : Value), ([.string (bs l)] : List Value)[j]? = some u → (w.alloc (.cells #[.string (bs l)] e)).cell? ((⟨w.heap.size, 0, none⟩ : Addr).add j) = some u := by
 intro j u hj
 match j, hj with
 | 0, hj => simp at hj; subst hj; simp [Addr.add]
theorem ones_s (l : List UInt8) : ∀ u ∈ ([.string (bs l)] : List Value), u.oneCell' = true := by
 intro u hu
 simp at hu
 subst hu
 rfl
set_option maxRecDepth 100000 in
set_option maxHeartbeats 2000000 in
theorem names_any {w : World} {b N : Nat} {ks : List (List UInt8)} (M : List (List UInt8)) (h : CntM w b ks N) (hd : ks.Nodup) (hm : ∀ x, x ∈ ks ↔ x ∈ M) (hN : ks.length ≤ 1000) (hs : ∀ x ∈ ks, x.length ≤ 1000000) (hT : Lib.Utf8Tabs 0 1 w) :
  Calls Tryd.prog 16 #[.map (some b)] w fun e w' => ∃ v', e = .returned v' ∧ Texts w' v' (sortedN M) ∧ NewV w.heap.size v' ∧ Below w.heap.size w w' := by
 obtain ⟨D, h1, h2, h3, -⟩ := h
 have HO := Lib.hid h1
 have HL := Lib.hid (left_start h3)
 have HD := Lib.hid hd
 have HM := Lib.hid hm
 have HS := Lib.hid hs
 have HT := Lib.hid hT
 obtain ⟨i0, hi, hz0, hz1, hz2⟩ := info_parts info_str
 clear h1 h2 h3 hd hm hs hT
 go_enter Tryd.func16, Tryd.ntmps16
 go_wp2_with (first | (at_range; refine wpList_range_own _ rfl _ 52 rfl 9 3 keyStr Tryd.underlying52 (plainElem Tryd.prog 3) b _ D rfl HO.out ?_; intro w0 hrg0 hg0 hs0) | go_in)
 go_frame
 obtain ⟨r, hr⟩ : ∃ r, w.heap.size = r := ⟨_, rfl⟩
 rw [hr] at hrg0 hs0
 try simp only [hr]
 go_loopw [3] (fun v wr => ∃ (left : Lit → Bool) (cnt : Nat) (done : List (List UInt8)), wr.ranges Tryd.prog 9 (plainElem Tryd.prog 3) b r (Maps.size D) D left cnt ∧ LeftK ks done left ∧ done.Nodup ∧ (∀ x ∈ done, x ∈ ks) ∧ wr.ownsRow (r + 1) 9 1 v done.length (strs done) ∧ Below r w wr ∧ r + 1 ≤ wr.heap.size) (fun _ wr => wr.rangeLeft b r)
 case atStart => exact ⟨_, _, [], hrg0, HL.out, List.nodup_nil, fun x hx => (by cases hx), World.ownsRow_nil _ _ _ _, (Below.refl r w).grown hg0 (by omega) (fun k hk => by cases hk), by omega⟩
 case round =>
  obtain ⟨left, cnt, done, hrg, hlf, hdn, hdk, hown, hbw, hsz⟩ := hrel
  have hcount := nodup_le done ks hdn hdk
  go_wp2_with (first | (at_next; refine wpList_next_str rfl _ rfl (plainElem Tryd.prog 3) (Value.int .i64) (fun v y hv => by obtain ⟨c, rfl, _⟩ := plainElem_int_inv Tryd.underlying3 hv; exact ⟨c, rfl⟩) b r _ D left cnt rfl hrg ?_ ?_) | go_in)
  ·intro _ hl0
   have HE := Lib.hid (sortedN_same done M (fun y => (left_done hlf hl0 hdk y).trans (HM.out y)))
   have HX := Lib.hid (own_texts hown)
   have HK := Lib.hid hdk
   have HB := Lib.hid hbw
   clear hrg hlf hdn hdk hown hl0 hbw
   go_wp2_with fail
   refine (make_new wr _ done HX.out (by omega) (fun x hx => HS.out x (HK.out x hx)) (Utf8Tabs_below HT.out (by rw [hr]; exact HB.out))).mono ?_
   rintro e w4 ⟨v', rfl, ht, hn4, hb4⟩
   go_wp2_with fail
   go_ret
   exact ⟨v', rfl, by rw [← HE.out]; exact ht, (fun g e => Nat.le_trans (by omega) (hn4 g e)), (by rw [hr]; exact HB.out.trans (hb4.mono (by omega)))⟩
  ·intro l c w1 cnt1 hll hrg1 hlt hg1 hs1 hen
   obtain ⟨hlf1, hlk, hld⟩ := left_next hlf l hll
   have hdn1 := nodup_snoc hdn hld
   have hlen := nodup_le _ ks hdn1 (fun x hx => by rw [List.mem_append, List.mem_singleton] at hx; exact hx.elim (hdk x) (fun e => by rw [e]; exact hlk))
   rw [List.length_append, List.length_singleton] at hlen
   have hown1 := owns_at hown (fun q hq => hg1.block q (own_lt hown hq) (fun e => by have := (hown.lt q hq).1; injection e with e; omega))
   have hb1 : Below r w w1 := hbw.grown hg1 (by omega) (fun k hk => by injection hk with hk; omega)
   have hrlt := hrg1.lt
   have hsz1 : r + 1 ≤ w1.heap.size := by omega
   clear hg1 hown hbw hll hs1
   go_wp2_with (at_builtin; refine wpList_append_own _ rfl _ _ 29 rfl (r + 1) 9 i0 (.string ByteArray.empty) 1 16 Tryd.underlying29 hi hz0 hz1 hz2 rfl (by decide) _ done.length (strs done) rfl (hown1.alloc _) ⟨w1.heap.size, 0, none⟩ 1 1 [.string (bs l)] rfl rfl (texts_news _ _ _) (ones_s _) (by unfold maxLen; omega) (by omega) (by simp; omega) ?_)
   intro v4 w4 hown4 hgrow4 hnil4
   have hne : some r ≠ Value.ownBlock _ := fun e => by have := (hown1.lt r e.symm).1; omega
   have hrg4 := (hrg1.alloc _).kept hgrow4 (fun e => (map_ty hrg1.owns (owns_ty hown1 e.symm)) rfl) hne
   have hb4 : Below r w w4 := (hb1.alloc (by omega) _).grown hgrow4 (by simp; omega) (fun k hk => by have := (hown1.lt k hk).1; omega)
   have hsz4 : r + 1 ≤ w4.heap.size := Nat.le_trans (by simp; omega) hgrow4.size
   rw [strs_snoc] at hown4
   go_wp2_with fail
   go_roundw
   case rel => exact ⟨_, cnt1, done ++ [l], hrg4, hlf1, hdn1, (fun x hx => by rw [List.mem_append, List.mem_singleton] at hx; exact hx.elim (hdk x) (fun e => by rw [e]; exact hlk)), by rw [List.length_append]; exact hown4, hb4, hsz4⟩
   case measure => rw [hrg4.left_eq, hrg.left_eq]; omega
end Go.Proofs.YthgbfaoblnkniaaDoor

namespace Go.Proofs.YthgbfaoblnkniaaDoor
open Go.RowKit Go.Lib Go.Maps Go.WideMaps
theorem openF_mem (L : List DraftM) (E : List EntM) (l : List UInt8) : (openF L E l).isSome = decide (l ∈ (L.filter (·.op)).map (·.nm)) := by
 have h : atD L l < L.length ↔ l ∈ (L.filter (·.op)).map (·.nm) := by
  unfold atD
  rw [List.findIdx_lt_length]
  simp only [List.mem_map, List.mem_filter, isAt, Bool.and_eq_true, decide_eq_true_eq]
  exact ⟨fun ⟨d, h1, h2, h3⟩ => ⟨d, ⟨h1, h2⟩, h3⟩, fun ⟨d, ⟨h1, h2⟩, h3⟩ => ⟨d, h1, h2, h3⟩⟩
 unfold openF
 by_cases g : atD L l < L.length
 ·rw [if_pos g, decide_eq_true (h.1 g)]; rfl
 ·rw [if_neg g, decide_eq_false (fun x => g (h.2 x))]; rfl
theorem openP_ok (l : List EventM) (h : (madeP l []).2.2 = 0) : openP l = sortedN (((madeP l []).1.filter (·.op)).map (·.nm)) := by
 unfold openP
 rw [if_neg (by rw [h]; exact fun h => h rfl)]
theorem openP_bad (l : List EventM) (h : (madeP l []).2.2 ≠ 0) : openP l = [] := if_pos h
set_option maxRecDepth 100000 in
set_option maxHeartbeats 2000000 in
theorem open10_any {w : World} (v : Value) (L : List EventM) (hv : EvsS w v L) (hL : L.length ≤ 1000) (hM : ∀ x ∈ L, x.2.1.length ≤ 1000000 ∧ x.2.2.1.length ≤ 1000000) (hT : Lib.Utf8Tabs 0 1 w) :
  Calls Tryd.prog 12 #[v] w fun e w' => ∃ v', e = .returned v' ∧ Texts w' v' (openP L) ∧ Below w.heap.size w w' := by
 have HMade := Lib.hid (made10_any v L hv hL hM hT)
 have HG := Lib.hid (made_good L [] good_nil)
 have HT := Lib.hid hT
 have HOk := Lib.hid (openP_ok L)
 have HBad := Lib.hid (openP_bad L)
 obtain ⟨i0, hi, hz0, hz1, hz2⟩ := info_parts info_str
 clear hv hL hM hT
 obtain ⟨⟨Lm, n, er⟩, hr⟩ : ∃ r, madeP L [] = r := ⟨_, rfl⟩
 rw [hr] at HMade HG HOk HBad
 clear hr
 go_enter Tryd.func12, Tryd.ntmps12
 go_wp2_with fail
 refine HMade.out.mono ?_
 rintro e w1 ⟨gm, lv, bo, bz, bk, E, rfl, hmi, hb1⟩
 try dsimp only at hmi ⊢
 by_cases her : er = 0
 ·subst her
  have HE := Lib.hid (HOk.out rfl)
  have hG := HG.out
  try dsimp only at hG
  have hx1 := hmi.bx.cell 1 rfl
  obtain ⟨D, h1, h2, -⟩ := hmi.opn
  have HO := Lib.hid h1
  obtain ⟨ks, hks⟩ : ∃ ks, (Lm.filter (·.op)).map (·.nm) = ks := ⟨_, rfl⟩
  have hkl : ks.length ≤ 40 := by
   rw [← hks, List.length_map]
   exact Nat.le_trans (List.length_filter_le _ _) hG.few
  have hkn : ∀ x ∈ ks, x.length ≤ 1000000 := fun x hx => by
   rw [← hks, List.mem_map] at hx
   obtain ⟨d, hd, rfl⟩ := hx
   exact name_len _ (hG.all d (List.mem_filter.1 hd).1).nm
  have HL := Lib.hid (left_start (D := D) (ks := ks) (fun l => by rw [h2, openF_mem, hks]))
  have HS := Lib.hid hkn
  have HE2 : RowKit.Hid (openP L = sortedN ks) := Lib.hid (by rw [← hks]; exact HE.out)
  clear HE hmi h1 h2 HMade HG HOk HBad hks hkn hG
  go_wp2_with (first | (at_range; refine wpList_range_own _ rfl _ 51 rfl 9 55 keyStr Tryd.underlying51 ptrElem bo _ D rfl HO.out ?_; intro w0 hrg0 hg0 hs0) | go_in)
  go_frame
  obtain ⟨r, hr⟩ : ∃ r, w1.heap.size = r := ⟨_, rfl⟩
  rw [hr] at hrg0 hs0
  try simp only [hr]
  have hwr := hb1.size
  have hb0 : Below w.heap.size w w0 := hb1.grown hg0 hwr (fun k hk => by cases hk)
  rw [hr] at hwr
  go_loopw [6] (fun v wr => ∃ (left : Lit → Bool) (cnt : Nat) (done : List (List UInt8)), wr.ranges Tryd.prog 9 ptrElem bo r L.length D left cnt ∧ LeftK ks done left ∧ done.Nodup ∧ (∀ x ∈ done, x ∈ ks) ∧ wr.ownsRow (r + 1) 9 1 v done.length (strs done) ∧ Below w.heap.size w wr ∧ r + 1 ≤ wr.heap.size) (fun _ wr => wr.rangeLeft bo r)
  case atStart => exact ⟨_, _, [], hrg0, HL.out, List.nodup_nil, fun x hx => (by cases hx), World.ownsRow_nil _ _ _ _, hb0, by omega⟩
  case round =>
   obtain ⟨left, cnt, done, hrg, hlf, hdn, hdk, hown, hbw, hsz⟩ := hrel
   have hcount := nodup_le done ks hdn hdk
   go_wp2_with (first | (at_next; refine wpList_next_str rfl _ rfl ptrElem ptrAt (fun v y hv => ptr_shape hv) bo r _ D left cnt rfl hrg ?_ ?_) | go_in)
   ·intro _ hl0
    have HE := Lib.hid (sortedN_same done ks (fun y => left_done hlf hl0 hdk y))
    have HX := Lib.hid (own_texts hown)
    have HK := Lib.hid hdk
    have HB := Lib.hid hbw
    clear hrg hlf hdn hdk hown hl0 hbw
    go_wp2_with fail
    refine (make_any wr _ done HX.out (by omega) (fun x hx => HS.out x (HK.out x hx)) (Utf8Tabs_below HT.out HB.out)).mono ?_
    rintro e w4 ⟨v', rfl, ht, hb4⟩
    go_wp2_with fail
    go_ret
    exact ⟨v', rfl, by rw [HE2.out, ← HE.out]; exact ht, HB.out.trans (hb4.mono (by omega))⟩
   ·intro l c w2 cnt1 hll hrg1 hlt hg1 hs1 hen
    obtain ⟨hlf1, hlk, hld⟩ := left_next hlf l hll
    have hdn1 := nodup_snoc hdn hld
    have hlen := nodup_le _ ks hdn1 (fun x hx => by rw [List.mem_append, List.mem_singleton] at hx; exact hx.elim (hdk x) (fun e => by rw [e]; exact hlk))
    rw [List.length_append, List.length_singleton] at hlen
    have hown1 := owns_at hown (fun q hq => hg1.block q (own_lt hown hq) (fun e => by have := (hown.lt q hq).1; injection e with e; omega))
    have hb2 : Below w.heap.size w w2 := hbw.grown hg1 (by omega) (fun k hk => by injection hk with hk; omega)
    have hrlt := hrg1.lt
    have hsz1 : r + 1 ≤ w2.heap.size := by omega
    clear hg1 hown hbw hll hs1
    go_wp2_with (at_builtin; refine wpList_append_own _ rfl _ _ 29 rfl (r + 1) 9 i0 (.string ByteArray.empty) 1 16 Tryd.underlying29 hi hz0 hz1 hz2 rfl (by decide) _ done.length (strs done) rfl (hown1.alloc _) ⟨w2.heap.size, 0, none⟩ 1 1 [.string (bs l)] rfl rfl (texts_news _ _ _) (ones_s _) (by unfold maxLen; omega) (by omega) (by simp; omega) ?_)
    intro v4 w4 hown4 hgrow4 hnil4
    have hne : some r ≠ Value.ownBlock _ := fun e => by have := (hown1.lt r e.symm).1; omega
    have hrg4 := (hrg1.alloc _).kept hgrow4 (fun e => (map_ty hrg1.owns (owns_ty hown1 e.symm)) rfl) hne
    have hb4 : Below w.heap.size w w4 := (hb2.alloc (by omega) _).grown hgrow4 (by simp; omega) (fun k hk => by have := (hown1.lt k hk).1; omega)
    have hsz4 : r + 1 ≤ w4.heap.size := Nat.le_trans (by simp; omega) hgrow4.size
    rw [strs_snoc] at hown4
    go_wp2_with fail
    go_roundw
    case rel => exact ⟨_, cnt1, done ++ [l], hrg4, hlf1, hdn1, (fun x hx => by rw [List.mem_append, List.mem_singleton] at hx; exact hx.elim (hdk x) (fun e => by rw [e]; exact hlk)), by rw [List.length_append]; exact hown4, hb4, hsz4⟩
    case measure => rw [hrg4.left_eq, hrg.left_eq]; omega
 ·have hfb : (er != 0) = true := by simpa using her
  have HE := Lib.hid (HBad.out her)
  clear her
  go_wp2_with fail
  go_ret
  rw [HE.out]
  exact ⟨_, rfl, texts_none _, hb1⟩
end Go.Proofs.YthgbfaoblnkniaaDoor

namespace Go.Proofs.YthgbfaoblnkniaaDoor
open Go.RowKit
def HasOps (w : World) (p : Option Addr) (L : List OpM) : Prop := ∀ j, j < L.length → ∃ g, p = some ⟨g, 0, none⟩ ∧ w.cell? ⟨g, j * 4, none⟩ = some (.bool (L.getD j noOp).1) ∧ w.cell? ⟨g, j * 4 + 1, none⟩ = some (.int .i64 (L.getD j noOp).2.1) ∧
 w.cell? ⟨g, j * 4 + 2, none⟩ = some (.int .i64 (L.getD j noOp).2.2.1) ∧ w.cell? ⟨g, j * 4 + 3, none⟩ = some (.int .i64 (L.getD j noOp).2.2.2)
theorem HasOps.below {w w' : World} {p : Option Addr} {L : List OpM} (h : HasOps w p L) (hb : Below w.heap.size w w') : HasOps w' p L := fun j hj => by
 obtain ⟨g, hp, h1, h2, h3, h4⟩ := h j hj
 exact ⟨g, hp, cell_later hb h1, cell_later hb h2, cell_later hb h3, cell_later hb h4⟩
def OpsS (w : World) (v : Value) (L : List OpM) : Prop := ∃ p cap, v = .slice p L.length cap ∧ HasOps w p L
theorem OpsS.below {w w' : World} {v : Value} {L : List OpM} (h : OpsS w v L) (hb : Below w.heap.size w w') : OpsS w' v L := by
 obtain ⟨p, cap, hv, ht⟩ := h
 exact ⟨p, cap, hv, ht.below hb⟩
def HasTxns (w : World) (p : Option Addr) (L : List TxnM) : Prop := ∀ j, j < L.length → ∃ g sv, p = some ⟨g, 0, none⟩ ∧ w.cell? ⟨g, j * 3, none⟩ = some (.int .i64 (L.getD j noTxn).1) ∧ w.cell? ⟨g, j * 3 + 1, none⟩ = some (.int .i64 (L.getD j noTxn).2.1) ∧
 w.cell? ⟨g, j * 3 + 2, none⟩ = some sv ∧ OpsS w sv (L.getD j noTxn).2.2
theorem HasTxns.below {w w' : World} {p : Option Addr} {L : List TxnM} (h : HasTxns w p L) (hb : Below w.heap.size w w') : HasTxns w' p L := fun j hj => by
 obtain ⟨g, sv, hp, h1, h2, h3, h4⟩ := h j hj
 exact ⟨g, sv, hp, cell_later hb h1, cell_later hb h2, cell_later hb h3, h4.below hb⟩
def TxnsS (w : World) (v : Value) (L : List TxnM) : Prop := ∃ p cap, v = .slice p L.length cap ∧ HasTxns w p L
theorem TxnsS.below {w w' : World} {v : Value} {L : List TxnM} (h : TxnsS w v L) (hb : Below w.heap.size w w') : TxnsS w' v L := by
 obtain ⟨p, cap, hv, ht⟩ := h
 exact ⟨p, cap, hv, ht.below hb⟩
def HistV (w : World) (v : Value) (h : HistM) : Prop := ∃ v0 v1 v2, v = .agg #[v0, v1, v2] ∧ Texts w v0 h.1 ∧ Texts w v1 h.2.1 ∧ TxnsS w v2 h.2.2
theorem HistV.below {w w' : World} {v : Value} {h : HistM} (hh : HistV w v h) (hb : Below w.heap.size w w') : HistV w' v h := by
 obtain ⟨v0, v1, v2, hv, h0, h1, h2⟩ := hh
 exact ⟨v0, v1, v2, hv, h0.below hb, h1.below hb, h2.below hb⟩
end Go.Proofs.YthgbfaoblnkniaaDoor

namespace Go.Proofs.YthgbfaoblnkniaaDoor
open Go.RowKit
end Go.Proofs.YthgbfaoblnkniaaDoor

namespace Go.Proofs.YthgbfaoblnkniaaDoor
open Go.RowKit
def HasInts (w : World) (p : Option Addr) (L : List Int) : Prop := ∀ j, j < L.length → ∃ g, p = some ⟨g, 0, none⟩ ∧ w.cell? ⟨g, j, none⟩ = some (.int .i64 (L.getD j 0))
theorem HasInts.below {w w' : World} {p : Option Addr} {L : List Int} (h : HasInts w p L) (hb : Below w.heap.size w w') : HasInts w' p L := fun j hj => by
 obtain ⟨g, hp, hc⟩ := h j hj
 exact ⟨g, hp, cell_later hb hc⟩
def IntsS (w : World) (v : Value) (L : List Int) : Prop := ∃ p cap, v = .slice p L.length cap ∧ HasInts w p L
theorem IntsS.below {w w' : World} {v : Value} {L : List Int} (h : IntsS w v L) (hb : Below w.heap.size w w') : IntsS w' v L := by
 obtain ⟨p, cap, hv, ht⟩ := h
 exact ⟨p, cap, hv, ht.below hb⟩
theorem ints_none (w : World) : IntsS w (.slice none 0 0) [] := ⟨none, 0, rfl, fun j hj => absurd hj (Nat.not_lt_zero j)⟩
def vints (L : List Int) : List Value := L.map fun n => .int .i64 n
theorem vints_set (L : List Int) (j : Nat) (n : Int) : (vints L).set j (.int .i64 n) = vints (L.set j n) := by simp [vints, List.map_set]
theorem own_intsI {w : World} {B : Nat} {e : TypeId} {v : Value} {L : List Int} (h : w.ownsRow B e 1 v L.length (vints L)) : IntsS w v L := by
 obtain ⟨-, ⟨h0, hn⟩ | ⟨g, cap, cur, hv, -, hw, -, -, -, ht⟩⟩ := h
 ·have : L = [] := List.eq_nil_of_length_eq_zero hn
  subst this h0
  exact ints_none w
 ·refine ⟨_, cap, hv, fun j hj => ⟨g, rfl, ?_⟩⟩
  have h1 := congrArg (fun x : List Value => x[j]?) ht
  simp only [Nat.mul_one, List.getElem?_take, hj, if_true, Array.getElem?_toList] at h1
  rw [cell_of_row w g j _ _ (0, 0) hw, h1]
  simp [vints, hj]
theorem info_i64 : (Tryd.prog.info? 3).map (fun i => (i.zero, i.size, i.bytes)) = some (some (.int .i64 0), 1, 8) := by kernel_rfl
end Go.Proofs.YthgbfaoblnkniaaDoor

namespace Go.Proofs.YthgbfaoblnkniaaDoor
open Go.RowKit Go.Lib
def partM (fr M : List (List UInt8)) (k : Nat) : List Int := (fr.take k).map (numT M) ++ List.replicate (fr.length - k) 0
theorem partM_len (fr M : List (List UInt8)) (k : Nat) (hk : k ≤ fr.length) : (partM fr M k).length = fr.length := by
 unfold partM
 simp only [List.length_append, List.length_map, List.length_take, List.length_replicate]
 omega
theorem partM_next (fr M : List (List UInt8)) (k : Nat) (hk : k < fr.length) : (partM fr M k).set k (numT M (fr.getD k [])) = partM fr M (k + 1) := by
 unfold partM
 have hl : ((fr.take k).map (numT M)).length = k := by simp; omega
 obtain ⟨r, hr⟩ : ∃ r, fr.length - k = r + 1 := ⟨fr.length - k - 1, by omega⟩
 have hr2 : fr.length - (k + 1) = r := by omega
 rw [hr, hr2, List.set_append_right _ _ (by omega), hl, Nat.sub_self, List.replicate_succ, List.set_cons_zero, List.take_add_one, List.map_append]
 simp [hk]
theorem partM_all (fr M : List (List UInt8)) : partM fr M fr.length = mapT fr M := by simp [partM, mapT]
theorem made_ints (n : Nat) : (madeCells (Value.cells (.int .i64 0)) (n * 1)).toList = vints (List.replicate n 0) := by
 rw [Nat.mul_one]
 show (madeCells #[.int .i64 0] n).toList = _
 rw [toList_madeCells_one]
 simp [vints]
set_option maxRecDepth 100000 in
set_option maxHeartbeats 2000000 in
theorem map_new (w : World) (v v' : Value) (F L : List (List UInt8)) (hf : Texts w v F) (hv : Texts w v' L) (hF : F.length ≤ 10000) (hL : L.length ≤ 10000) (hs : ∀ x ∈ L, x.length ≤ 1000000) (hT : Lib.Utf8Tabs 0 1 w) :
  Calls Tryd.prog 18 #[v, v'] w fun e w' => ∃ v4, e = .returned v4 ∧ IntsS w' v4 (mapT F L) ∧ NewV w.heap.size v4 ∧ Below w.heap.size w w' := by
 obtain ⟨p, c, rfl, hp⟩ := hf
 have HX := Lib.hid hp
 have HV := Lib.hid hv
 have HT := Lib.hid hT
 have HS := Lib.hid hs
 obtain ⟨i0, hi, hz0, hz1, hz2⟩ := info_parts info_i64
 obtain ⟨w1, hmk, hown, hgrow⟩ := run_make_full (P := Tryd.prog) w w.heap.size 23 3 i0 (.int .i64 0) 1 Tryd.underlying23 hi hz0 hz1 .i64 .i64 F.length (by rw [hz2]; omega) (by unfold maxLen; omega) (Nat.le_refl _)
 rw [made_ints] at hown
 have hb1 : Below w.heap.size w w1 := (Below.refl _ _).grown hgrow (Nat.le_refl _) (fun k hk => by cases hk)
 have e0 : List.replicate F.length (0 : Int) = partM F L 0 := by simp [partM]
 rw [e0] at hown
 have HO := Lib.hid hown
 clear hown hgrow e0 hp hv hT hs
 go_enter Tryd.func18, Tryd.ntmps18
 go_wp2_with fail
 go_loopw [15] (fun i wr => ∃ k : Nat, k ≤ F.length ∧ i = .int .i64 k ∧ wr.ownsRow w.heap.size 3 1 (.slice (some ⟨w.heap.size, 0, none⟩) F.length F.length) F.length (vints (partM F L k)) ∧ Below w.heap.size w wr) (fun i _ => F.length - (RowKit.intOf i).toNat)
 case atStart => exact ⟨0, Nat.zero_le _, rfl, HO.out, hb1⟩
 case round =>
  obtain ⟨k, hk, rfl, hown, hbw⟩ := hrel
  by_cases hlt : k < F.length
  ·obtain ⟨g, rfl, hc⟩ := HX.out k hlt
   have hnx := partM_next F L k hlt
   have hlen := partM_len F L k hk
   obtain ⟨x, hx⟩ : ∃ x, F.getD k [] = x := ⟨_, rfl⟩
   rw [hx] at hc hnx
   have H1 := Lib.hid (fun w' (h : Texts w' v' L) (hT' : Lib.Utf8Tabs 0 1 w') => find_any w' v' L x h (by omega) HS.out hT')
   have hc' := cell_later hbw hc
   have HV1 := Lib.hid (HV.out.below hbw)
   have HT1 := Lib.hid (Utf8Tabs_below HT.out hbw)
   have HN := Lib.hid hnx
   unfold numT at hnx
   have HFx : RowKit.Hid (numT L x = if (findT L x).2 = true then ((findT L x).1 : Int) else -1) := Lib.hid rfl
   clear hx hc hnx
   generalize findT L x = Z at *
   obtain ⟨a, b⟩ := Z
   cases b with
   | false =>
    have HE : RowKit.Hid (numT L x = -1) := Lib.hid (by rw [HFx.out]; rfl)
    go_wp2_with fail
    refine (H1.out _ HV1.out HT1.out).mono ?_
    rintro e w2 ⟨rfl, hb2⟩
    have hown2 := owns_below hown hb2
    have hbw2 := below_next hbw hb2
    have q1 : w2.cell? ⟨w.heap.size, k, none⟩ = some (.int .i64 ((partM F L k).getD k 0)) := by
     rw [hown2.cellAt k (by omega)]
     simp [vints, hlen, hlt]
    have q2 := hown2.frozenAt k
    generalize (partM F L k).getD k 0 = old at q1
    clear hown hb2 hbw HV1 HT1
    go_wp2_with fail
    go_roundw
    case rel =>
     have st := hown2.stored k (.int .i64 (-1))
     rw [vints_set, ← HE.out, HN.out] at st
     exact ⟨k + 1, by omega, by go_num, by rw [← HE.out]; exact st.1, hbw2.grown (by rw [← HE.out]; exact st.2) hbw2.size (fun j hj => by cases hj; exact Nat.le_refl _)⟩
    case measure => simp [RowKit.intOf]; omega
   | true =>
    have HE : RowKit.Hid (numT L x = (a : Int)) := Lib.hid (by rw [HFx.out]; rfl)
    go_wp2_with fail
    refine (H1.out _ HV1.out HT1.out).mono ?_
    rintro e w2 ⟨rfl, hb2⟩
    have hown2 := owns_below hown hb2
    have hbw2 := below_next hbw hb2
    have q1 : w2.cell? ⟨w.heap.size, k, none⟩ = some (.int .i64 ((partM F L k).getD k 0)) := by
     rw [hown2.cellAt k (by omega)]
     simp [vints, hlen, hlt]
    have q2 := hown2.frozenAt k
    generalize (partM F L k).getD k 0 = old at q1
    clear hown hb2 hbw HV1 HT1
    go_wp2_with fail
    go_roundw
    case rel =>
     have st := hown2.stored k (.int .i64 (a : Int))
     rw [vints_set, ← HE.out, HN.out] at st
     exact ⟨k + 1, by omega, by go_num, by rw [← HE.out]; exact st.1, hbw2.grown (by rw [← HE.out]; exact st.2) hbw2.size (fun j hj => by cases hj; exact Nat.le_refl _)⟩
    case measure => simp [RowKit.intOf]; omega
  ·have hke : k = F.length := by omega
   subst hke
   rw [partM_all] at hown
   have HO2 : RowKit.Hid (IntsS wr (.slice (some ⟨w.heap.size, 0, none⟩) F.length F.length) (mapT F L)) := Lib.hid (own_intsI (L := mapT F L) (by simpa [mapT] using hown))
   clear hown
   go_wp2_with fail
   go_ret
   exact ⟨_, rfl, HO2.out, (fun g' e => by simp [Value.ownBlock] at e; omega), hbw⟩
end Go.Proofs.YthgbfaoblnkniaaDoor
