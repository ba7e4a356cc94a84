/-
  The walk of layer 2's reference (name): texts' names in order. No conditions.
-/
import Derived.Test.YthalbcmlehpfaaaDoorNameG
import Derived.Test.YthalbcmlehpfaaaDoorNameU
import Derived.Test.YthalbcmlehpfaaaDoorRow
import Derived.Deep.RegionHeld3
import Derived.Deep.AppendLies
namespace Go.Proofs.YthalbcmlehpfaaaDoor
open Go.RowKit Go.Lib

/-- The names among the first so many, in order. -/
def sortK (L : List (List UInt8)) (k : Nat) : List (List UInt8) := sortedN (L.take k)
theorem sortK_next (L : List (List UInt8)) (k : Nat) (hk : k < L.length) : sortK L (k + 1) = if nameL (L.getD k []) then insN (L.getD k []) (sortK L k) else sortK L k := by
  have e : L.take (k + 1) = L.take k ++ [L.getD k []] := by
    rw [List.take_add_one]
    simp [hk]
  unfold sortK sortedN
  rw [e, List.foldl_append]
  rfl
theorem ins_len (x : List UInt8) : ∀ r, (insN x r).length ≤ r.length + 1
  | [] => by simp [insN]
  | y :: r => by
    unfold insN
    split
    · have := ins_len x r
      simp only [List.length_cons]; omega
    · split <;> simp only [List.length_cons] <;> omega
theorem sortK_len (L : List (List UInt8)) : ∀ k, k ≤ L.length → (sortK L k).length ≤ k
  | 0, _ => by simp [sortK, sortedN]
  | k + 1, h => by
    have ih := sortK_len L k (by omega)
    rw [sortK_next L k (by omega)]
    split
    · have := ins_len (L.getD k []) (sortK L k); omega
    · omega
theorem sortK_mem (L : List (List UInt8)) (k : Nat) : ∀ x ∈ sortK L k, x ∈ L := fun x hx => List.mem_of_mem_take ((sortedN_spec (L.take k)).2 x |>.1 hx).1
set_option maxRecDepth 100000 in
set_option maxHeartbeats 4000000 in
theorem rsorted_any (w : World) (v : Value) (L : List (List UInt8)) (h : Texts w v L) (hL : L.length ≤ 100000) (hs : ∀ x ∈ L, x.length ≤ 1000000) :
    Calls Tryd.prog 29 #[v] w fun e w' => ∃ v', e = .returned v' ∧ TextsS w' v' (sortedN L) ∧ Below w.heap.size w w' := by
  obtain ⟨p, cap, rfl, ht⟩ := h
  have HX := Lib.hid ht
  have HS := Lib.hid hs
  clear ht hs
  obtain ⟨i0, hi, hz0, hz1, hz2⟩ := info_parts info_str
  go_enter Tryd.func29, Tryd.ntmps29
  go_wp2_with fail
  go_loopw [3, 4] (fun out i wr => ∃ k : Nat, k ≤ L.length ∧ i = .int .i64 k ∧ TextsS wr out (sortK L k) ∧ Below w.heap.size w wr) (fun _ i _ => L.length - (RowKit.intOf i).toNat)
  case atStart => exact ⟨0, Nat.zero_le _, rfl, ⟨_, _, rfl, Nat.le_refl _, fun j hj => absurd hj (Nat.not_lt_zero j)⟩, (Below.refl _ _).alloc (Nat.le_refl _) _⟩
  case round =>
    obtain ⟨k, hk, rfl, hout, hbw⟩ := hrel
    by_cases hlt : k < L.length
    · obtain ⟨gl, rfl, hc⟩ := HX.out k hlt
      have hc' := cell_later hbw hc
      have hnx := sortK_next L k hlt
      have hxl := HS.out _ (getD_mem L k hlt)
      have hslen := sortK_len L k hk
      have hsl : ∀ x ∈ sortK L k, x.length ≤ 1000000 := fun x hx => HS.out x (sortK_mem L k x hx)
      have HI := Lib.hid (ris_any (L.getD k []) hxl)
      obtain ⟨x, hx⟩ : ∃ x, L.getD k [] = x := ⟨_, rfl⟩
      rw [hx] at hc' hnx hxl HI
      obtain ⟨S, hS⟩ : ∃ S, sortK L k = S := ⟨_, rfl⟩
      rw [hS] at hout hnx hslen hsl
      clear hc hx hS
      obtain ⟨go, co, rfl, hco, hcells⟩ := hout
      have HC := Lib.hid hcells
      have HSL := Lib.hid hsl
      clear hcells hsl
      cases hn : nameL x with
      | false =>
        rw [hn] at hnx HI
        simp only [Bool.false_eq_true, if_false] at hnx
        have HN := Lib.hid hnx
        clear hnx hn
        go_wp2_with fail
        refine (HI.out _).mono ?_
        rintro e w1 ⟨rfl, hb1⟩
        go_wp2_with fail
        go_roundw
        case rel => exact ⟨k + 1, by omega, by go_num, by rw [HN.out]; exact ⟨go, co, rfl, hco, fun j hj => cell_later hb1 (HC.out j hj)⟩, below_next hbw hb1⟩
        case measure => simp [RowKit.intOf]; omega
      | true =>
        rw [hn] at hnx HI
        simp only [if_true] at hnx
        obtain ⟨q1, q2, q3, q4⟩ := ins_at x S
        rw [q4] at hnx
        have HN := Lib.hid hnx
        have HQ := Lib.hid q2
        have HQ3 := Lib.hid q3
        generalize aheadN x S = A at *
        clear hnx hn q4 q2 q3
        go_wp2_with fail
        refine (HI.out _).mono ?_
        rintro e w1 ⟨rfl, hb1⟩
        have hc1 := cell_later hb1 hc'
        have HC1 : RowKit.Hid (∀ j, j < S.length → w1.cell? ⟨go, j, none⟩ = some (.string (bs (S.getD j [])))) := Lib.hid (fun j hj => cell_later hb1 (HC.out j hj))
        have hb01 := below_next hbw hb1
        clear HC HI hb1 hc'
        go_wp2_with fail
        go_loopw [5] (fun a wa => ∃ j : Nat, j ≤ A ∧ a = .int .i64 j ∧ Below w1.heap.size w1 wa) (fun a _ => A - (RowKit.intOf a).toNat)
        case atStart => exact ⟨0, Nat.zero_le _, rfl, Below.refl _ _⟩
        case round =>
          obtain ⟨j, hj, rfl, hba⟩ := hrel
          have hc2 := cell_later hba hc1
          by_cases hjA : j < A
          · have hcj := cell_later hba (HC1.out j (by omega))
            have hlj := HSL.out _ (getD_mem S j (by omega))
            have hq := HQ.out j hjA
            have HLt := Lib.hid (rless_any (S.getD j []) x hlj hxl)
            have hq' : lexLess (runesU (S.getD j [])) (runesU x) = true := hq
            rw [hq'] at HLt
            generalize S.getD j [] = y at *
            have hjS : j < S.length := by omega
            clear hq hq'
            go_wp2_with fail
            go_region_held3 (fun w' => w'.cell? ⟨go, j, none⟩ = some (.string (bs y)) ∧ w'.cell? ⟨gl, k, none⟩ = some (.string (bs x)) ∧ Below wr.heap.size wr w')
              (first | ((repeat' (refine And.intro ?_ ?_)) <;> (first | (go_simp; done) | (go_grown; done))) | (go_split_ands; (repeat' (refine And.intro ?_ ?_)) <;> (first | exact cell_later (by assumption) (by assumption) | (refine below_next ?_ (by assumption); assumption))))
              (first | (go_at_call 58; refine (HLt.out _).mono ?_; rintro e w3 ⟨rfl, hb3⟩))
            go_wp2_with fail
            go_roundw
            case rel => exact ⟨j + 1, by omega, by go_num, by go_split_ands; exact below_next hba (by assumption)⟩
            case measure => simp [RowKit.intOf]; omega
          · obtain rfl : j = A := by omega
            by_cases hAS : j < S.length
            · have hcj := cell_later hba (HC1.out j hAS)
              have hlj := HSL.out _ (getD_mem S j hAS)
              have hq := HQ3.out hAS
              have HLt := Lib.hid (rless_any (S.getD j []) x hlj hxl)
              have hq' : lexLess (runesU (S.getD j [])) (runesU x) = false := hq
              rw [hq'] at HLt
              obtain ⟨y, hy⟩ : ∃ y, S.getD j [] = y := ⟨_, rfl⟩
              rw [hy] at HLt hcj
              have HY := Lib.hid hy
              clear hq hq' hy hlj
              go_wp2_with fail
              go_region_held3 (fun w' => w'.cell? ⟨go, j, none⟩ = some (.string (bs y)) ∧ w'.cell? ⟨gl, k, none⟩ = some (.string (bs x)) ∧ Below wr.heap.size wr w')
                (first | ((repeat' (refine And.intro ?_ ?_)) <;> (first | (go_simp; done) | (go_grown; done))) | (go_split_ands; (repeat' (refine And.intro ?_ ?_)) <;> (first | exact cell_later (by assumption) (by assumption) | (refine below_next ?_ (by assumption); assumption))))
                (first | (go_at_call 58; refine (HLt.out _).mono ?_; rintro e w3 ⟨rfl, hb3⟩))
              go_split_ands
              have hb3' : Below wr.heap.size wr w3 := by assumption
              have hb13 := below_next hba hb3'
              have k1 : w3.cell? ⟨go, j, none⟩ = some (.string (bs y)) := by assumption
              have k2 : w3.cell? ⟨gl, k, none⟩ = some (.string (bs x)) := by assumption
              by_cases hyx : y = x
              · subst hyx
                have hN2 := HN.out
                rw [if_pos ⟨hAS, HY.out⟩] at hN2
                have HN2 := Lib.hid hN2
                clear hN2
                go_wp2_with fail
                go_region
                go_wp2_with fail
                go_roundw
                case rel => exact ⟨k + 1, by omega, by go_num, by rw [HN2.out]; exact ⟨go, co, rfl, hco, fun q hq => cell_later hb13.drew (HC1.out q hq)⟩, below_next hb01 hb13.drew⟩
                case measure => simp [RowKit.intOf]; omega
              · have hN2 := HN.out
                rw [if_neg (fun h => hyx (HY.out.symm.trans h.2))] at hN2
                have HN2 := Lib.hid hN2
                have HC3 : RowKit.Hid (∀ q, q < S.length → w3.drew.cell? ⟨go, q, none⟩ = some (.string (bs (S.getD q [])))) := Lib.hid (fun q hq => cell_later hb13.drew (HC1.out q hq))
                have hyx' : (y == x) = false := beq_eq_false_iff_ne.2 hyx
                have hb03 := below_next hb01 hb13.drew
                have hjc : j ≤ co := by omega
                clear hN2
                go_wp2_with fail
                go_region
                go_wp2_with fail
                have k3 : w3.drew.cell? ⟨gl, k, none⟩ = some (.string (bs x)) := k2
                generalize w3.drew = wx at *
                have HTake : RowKit.Hid (∀ q, q < (S.take j).length → wx.cell? ⟨go, 0 + q, none⟩ = some (.string (bs ((S.take j).getD q [])))) := Lib.hid (fun q hq => by
                  rw [List.length_take] at hq
                  rw [Nat.zero_add, HC3.out q (by omega)]
                  simp [List.getD, show q < j by omega])
                have HDrop : RowKit.Hid (∀ q, q < (S.drop j).length → wx.cell? ⟨go, j + q, none⟩ = some (.string (bs ((S.drop j).getD q [])))) := Lib.hid (fun q hq => by
                  rw [List.length_drop] at hq
                  rw [HC3.out (j + q) (by omega)]
                  simp [List.getD, List.getElem?_drop])
                have hcne : ¬ (co = j) := by omega
                clear k1 k2 hb3 hb3' hb13
                go_region_held3 (fun w' => w'.cell? ⟨gl, k, none⟩ = some (.string (bs x)) ∧ Below wx.heap.size wx w')
                  (first | exact ⟨cell_later (by assumption) k3, by assumption⟩ | (go_split_ands; first | exact ⟨cell_later (by assumption) k3, by assumption⟩ | exact ⟨cell_later (keep_alloc (by assumption) _) k3, keep_alloc (by assumption) _⟩ | exact ⟨cell_later (Below.drew (keep_alloc (by assumption) _)) k3, Below.drew (keep_alloc (by assumption) _)⟩) | exact ⟨k3, Below.drew (Below.refl _ _)⟩ | exact ⟨k3, Below.refl _ _⟩)
                  (first
                    | (((go_split_ands; refine step_append_own (by rfl) _ _ 22 (by rfl) wx.heap.size 9 i0 (.string ByteArray.empty) 1 16 Tryd.underlying22 hi hz0 hz1 hz2 rfl (by decide) (.slice (some ⟨_, 0, none⟩) 0 0) 0 [] (by rfl) (by first | exact own_empty (heap_alloc_new _ _) (Nat.le_refl _) | exact own_empty (heap2_new _ _ _) (Nat.le_succ _) | exact own_empty (heap2_old _ _ _) (Nat.le_refl _)) ⟨go, 0, none⟩ j co (strs (S.take j)) (by rfl) (by simp only [strs, List.length_map, List.length_take]; omega) (cells_from _ go 0 (S.take j) (fun q hq => cell_later (by assumption) (HTake.out q hq))) (ones_strs _) (by unfold maxLen; omega) (by omega) (Below.size (by assumption)) ?_); intro v4 w4 hown4 hgrow4 hnil4; have hbw4 := keep_grown (by assumption) (by first | exact own_empty (heap_alloc_new _ _) (Nat.le_refl _) | exact own_empty (heap2_new _ _ _) (Nat.le_succ _) | exact own_empty (heap2_old _ _ _) (Nat.le_refl _)) hgrow4))
                    | (((go_split_ands; refine step_append_own (by rfl) _ _ 22 (by rfl) wx.heap.size 9 i0 (.string ByteArray.empty) 1 16 Tryd.underlying22 hi hz0 hz1 hz2 rfl (by decide) v4 (0 + j) _ (by rfl) (by first | exact hown4 | exact hown4.alloc _) _ 1 1 ([.string (bs x)]) (by rfl) (rfl) (by first | exact news_str' _ _ _ | exact news_block (by first | (rw [hgrow4.block _ (by first | (simp; done) | (simp; omega)) (by first | (simp [Value.ownBlock]; done) | (simp [Value.ownBlock]; omega))]; first | exact heap2_new _ _ _ | exact heap2_old _ _ _))) (ones_one _) (by unfold maxLen; omega) (by omega) (Below.size (by assumption)) ?_); intro v6 w6 hown6 hgrow6 hnil6; have hbw6 := keep_grown (by assumption) (by first | exact hown4 | exact hown4.alloc _) hgrow6))
                    | (((go_split_ands; refine step_append_own (by rfl) _ _ 22 (by rfl) wx.heap.size 9 i0 (.string ByteArray.empty) 1 16 Tryd.underlying22 hi hz0 hz1 hz2 rfl (by decide) v6 (0 + j + 1) _ (by rfl) (hown6) ⟨go, j, none⟩ (S.length - j) (co - j) (strs (S.drop j)) (by rfl) (by simp only [strs, List.length_map, List.length_drop, Nat.mul_one]) (cells_from _ go j (S.drop j) (fun q hq => cell_later (by assumption) (HDrop.out q hq))) (ones_strs _) (by unfold maxLen; omega) (by omega) (Below.size (by assumption)) ?_); intro v8 w8 hown8 hgrow8 hnil8; have hbw8 := keep_grown (by assumption) (hown6) hgrow8)))
                all_goals
                  go_split_ands
                  have hbf : Below w.heap.size w w8 := below_next hb03 (by assumption)
                  have hn6 : v6 ≠ .slice none 0 0 := fun h => by have := hnil6.1 h; simp at this
                  have hn8 : v8 ≠ .slice none 0 0 := fun h => hn6 (hnil8.1 h).1
                  have hcat : [] ++ strs (S.take j) ++ [.string (bs x)] ++ strs (S.drop j) = strs (S.take j ++ x :: S.drop j) := by simp [strs]
                  have hlen : 0 + j + 1 + (S.length - j) = (S.take j ++ x :: S.drop j).length := by
                    rw [List.length_append, List.length_cons, List.length_take, List.length_drop]
                    omega
                  rw [hcat, hlen] at hown8
                  have HO := Lib.hid (own_textsS hown8 hn8)
                  clear hown8 hn8 hn6 hnil8 hnil6 hnil4
                  go_wp2_with fail
                  go_roundw
                  case rel => exact ⟨k + 1, by omega, by go_num, by rw [HN2.out]; exact HO.out, hbf⟩
                  case measure => simp [RowKit.intOf]; omega
            · obtain rfl : j = S.length := by omega
              have hN2 := HN.out
              rw [if_neg (fun h => hAS h.1), List.take_length, List.drop_length] at hN2
              have HN2 := Lib.hid hN2
              clear hN2 hAS hjA
              go_wp2_with fail
              go_quiet (fail)
              have hbq : Below w1.heap.size w1 (wr.drewN nq) := hba.trans ⟨rfl, rfl, rfl, Nat.le_refl _, fun _ _ => rfl⟩
              generalize wr.drewN nq = wq at *
              go_wp2_with fail
              go_quiet (fail)
              have hbz : Below w1.heap.size w1 (wq.drewN nq) := hbq.trans ⟨rfl, rfl, rfl, Nat.le_refl _, fun _ _ => rfl⟩
              generalize wq.drewN nq = wx at *
              go_wp2_with fail
              have hb03 := below_next hb01 hbz
              have HTake : RowKit.Hid (∀ q, q < S.length → wx.cell? ⟨go, 0 + q, none⟩ = some (.string (bs (S.getD q [])))) := Lib.hid (fun q hq => by
                rw [Nat.zero_add]
                exact cell_later hbz (HC1.out q hq))
              have k3 : wx.cell? ⟨gl, k, none⟩ = some (.string (bs x)) := cell_later hbz hc1
              clear hba hbq hbz hc2
              by_cases hcj : co = S.length
              · subst hcj
                go_region_held3 (fun w' => w'.cell? ⟨gl, k, none⟩ = some (.string (bs x)) ∧ Below wx.heap.size wx w')
                  (first | exact ⟨cell_later (by assumption) k3, by assumption⟩ | (go_split_ands; first | exact ⟨cell_later (by assumption) k3, by assumption⟩ | exact ⟨cell_later (keep_alloc (by assumption) _) k3, keep_alloc (by assumption) _⟩ | exact ⟨cell_later (Below.drew (keep_alloc (by assumption) _)) k3, Below.drew (keep_alloc (by assumption) _)⟩) | exact ⟨k3, Below.drew (Below.refl _ _)⟩ | exact ⟨k3, Below.refl _ _⟩)
                  (first
                    | (((go_split_ands; refine step_append_own (by rfl) _ _ 22 (by rfl) wx.heap.size 9 i0 (.string ByteArray.empty) 1 16 Tryd.underlying22 hi hz0 hz1 hz2 rfl (by decide) (.slice (some ⟨_, 0, none⟩) 0 0) 0 [] (by rfl) (by first | exact own_empty (heap_alloc_new _ _) (Nat.le_refl _) | exact own_empty (heap2_new _ _ _) (Nat.le_succ _) | exact own_empty (heap2_old _ _ _) (Nat.le_refl _)) ⟨go, 0, none⟩ S.length S.length (strs S) (by rfl) (by simp only [strs, List.length_map, Nat.mul_one]) (cells_from _ go 0 S (fun q hq => cell_later (by assumption) (HTake.out q hq))) (ones_strs _) (by unfold maxLen; omega) (by omega) (Below.size (by assumption)) ?_); intro v4 w4 hown4 hgrow4 hnil4; have hbw4 := keep_grown (by assumption) (by first | exact own_empty (heap_alloc_new _ _) (Nat.le_refl _) | exact own_empty (heap2_new _ _ _) (Nat.le_succ _) | exact own_empty (heap2_old _ _ _) (Nat.le_refl _)) hgrow4))
                    | (((go_split_ands; refine step_append_own (by rfl) _ _ 22 (by rfl) wx.heap.size 9 i0 (.string ByteArray.empty) 1 16 Tryd.underlying22 hi hz0 hz1 hz2 rfl (by decide) v4 (0 + S.length) _ (by rfl) (by first | exact hown4 | exact hown4.alloc _) _ 1 1 ([.string (bs x)]) (by rfl) (rfl) (by first | exact news_str' _ _ _ | exact news_block (by first | (rw [hgrow4.block _ (by first | (simp; done) | (simp; omega)) (by first | (simp [Value.ownBlock]; done) | (simp [Value.ownBlock]; omega))]; first | exact heap2_new _ _ _ | exact heap2_old _ _ _))) (ones_one _) (by unfold maxLen; omega) (by omega) (Below.size (by assumption)) ?_); intro v6 w6 hown6 hgrow6 hnil6; have hbw6 := keep_grown (by assumption) (by first | exact hown4 | exact hown4.alloc _) hgrow6))
                    | (((go_split_ands; refine step_append_own (by rfl) _ _ 22 (by rfl) wx.heap.size 9 i0 (.string ByteArray.empty) 1 16 Tryd.underlying22 hi hz0 hz1 hz2 rfl (by decide) v6 (0 + S.length + 1) _ (by rfl) (hown6) ⟨go, 0, none⟩ 0 0 ([]) (by rfl) (rfl) (fun j u hj => by simp at hj) (fun u hu => by simp at hu) (by unfold maxLen; omega) (by omega) (Below.size (by assumption)) ?_); intro v8 w8 hown8 hgrow8 hnil8; have hbw8 := keep_grown (by assumption) (hown6) hgrow8)))
                all_goals
                  go_split_ands
                  have hbf : Below w.heap.size w w8 := below_next hb03 (by assumption)
                  have hn6 : v6 ≠ .slice none 0 0 := fun h => by have := hnil6.1 h; simp at this
                  have hn8 : v8 ≠ .slice none 0 0 := fun h => hn6 (hnil8.1 h).1
                  have hcat : [] ++ strs S ++ [.string (bs x)] ++ [] = strs (S ++ [x]) := by simp [strs]
                  have hlen : 0 + S.length + 1 + 0 = (S ++ [x]).length := by
                    rw [List.length_append]
                    simp
                  rw [hcat, hlen] at hown8
                  have HO := Lib.hid (own_textsS hown8 hn8)
                  clear hown8 hn8 hn6 hnil8 hnil6 hnil4
                  go_wp2_with fail
                  go_roundw
                  case rel => exact ⟨k + 1, by omega, by go_num, by rw [HN2.out]; exact HO.out, hbf⟩
                  case measure => simp [RowKit.intOf]; omega
              · have hcne : ¬ (co = S.length) := hcj
                go_region_held3 (fun w' => w'.cell? ⟨gl, k, none⟩ = some (.string (bs x)) ∧ Below wx.heap.size wx w')
                  (first | exact ⟨cell_later (by assumption) k3, by assumption⟩ | (go_split_ands; first | exact ⟨cell_later (by assumption) k3, by assumption⟩ | exact ⟨cell_later (keep_alloc (by assumption) _) k3, keep_alloc (by assumption) _⟩ | exact ⟨cell_later (Below.drew (keep_alloc (by assumption) _)) k3, Below.drew (keep_alloc (by assumption) _)⟩) | exact ⟨k3, Below.drew (Below.refl _ _)⟩ | exact ⟨k3, Below.refl _ _⟩)
                  (first
                    | (((go_split_ands; refine step_append_own (by rfl) _ _ 22 (by rfl) wx.heap.size 9 i0 (.string ByteArray.empty) 1 16 Tryd.underlying22 hi hz0 hz1 hz2 rfl (by decide) (.slice (some ⟨_, 0, none⟩) 0 0) 0 [] (by rfl) (by first | exact own_empty (heap_alloc_new _ _) (Nat.le_refl _) | exact own_empty (heap2_new _ _ _) (Nat.le_succ _) | exact own_empty (heap2_old _ _ _) (Nat.le_refl _)) ⟨go, 0, none⟩ S.length co (strs S) (by rfl) (by simp only [strs, List.length_map, Nat.mul_one]) (cells_from _ go 0 S (fun q hq => cell_later (by assumption) (HTake.out q hq))) (ones_strs _) (by unfold maxLen; omega) (by omega) (Below.size (by assumption)) ?_); intro v4 w4 hown4 hgrow4 hnil4; have hbw4 := keep_grown (by assumption) (by first | exact own_empty (heap_alloc_new _ _) (Nat.le_refl _) | exact own_empty (heap2_new _ _ _) (Nat.le_succ _) | exact own_empty (heap2_old _ _ _) (Nat.le_refl _)) hgrow4))
                    | (((go_split_ands; refine step_append_own (by rfl) _ _ 22 (by rfl) wx.heap.size 9 i0 (.string ByteArray.empty) 1 16 Tryd.underlying22 hi hz0 hz1 hz2 rfl (by decide) v4 (0 + S.length) _ (by rfl) (by first | exact hown4 | exact hown4.alloc _) _ 1 1 ([.string (bs x)]) (by rfl) (rfl) (by first | exact news_str' _ _ _ | exact news_block (by first | (rw [hgrow4.block _ (by first | (simp; done) | (simp; omega)) (by first | (simp [Value.ownBlock]; done) | (simp [Value.ownBlock]; omega))]; first | exact heap2_new _ _ _ | exact heap2_old _ _ _))) (ones_one _) (by unfold maxLen; omega) (by omega) (Below.size (by assumption)) ?_); intro v6 w6 hown6 hgrow6 hnil6; have hbw6 := keep_grown (by assumption) (by first | exact hown4 | exact hown4.alloc _) hgrow6))
                    | (((go_split_ands; refine step_append_own (by rfl) _ _ 22 (by rfl) wx.heap.size 9 i0 (.string ByteArray.empty) 1 16 Tryd.underlying22 hi hz0 hz1 hz2 rfl (by decide) v6 (0 + S.length + 1) _ (by rfl) (hown6) ⟨go, S.length, none⟩ 0 (co - S.length) ([]) (by rfl) (rfl) (fun j u hj => by simp at hj) (fun u hu => by simp at hu) (by unfold maxLen; omega) (by omega) (Below.size (by assumption)) ?_); intro v8 w8 hown8 hgrow8 hnil8; have hbw8 := keep_grown (by assumption) (hown6) hgrow8)))
                all_goals
                  go_split_ands
                  have hbf : Below w.heap.size w w8 := below_next hb03 (by assumption)
                  have hn6 : v6 ≠ .slice none 0 0 := fun h => by have := hnil6.1 h; simp at this
                  have hn8 : v8 ≠ .slice none 0 0 := fun h => hn6 (hnil8.1 h).1
                  have hcat : [] ++ strs S ++ [.string (bs x)] ++ [] = strs (S ++ [x]) := by simp [strs]
                  have hlen : 0 + S.length + 1 + 0 = (S ++ [x]).length := by
                    rw [List.length_append]
                    simp
                  rw [hcat, hlen] at hown8
                  have HO := Lib.hid (own_textsS hown8 hn8)
                  clear hown8 hn8 hn6 hnil8 hnil6 hnil4
                  go_wp2_with fail
                  go_roundw
                  case rel => exact ⟨k + 1, by omega, by go_num, by rw [HN2.out]; exact HO.out, hbf⟩
                  case measure => simp [RowKit.intOf]; omega
    · have hke : k = L.length := by omega
      subst hke
      have e : sortK L L.length = sortedN L := by unfold sortK; rw [List.take_length]
      rw [e] at hout
      have HO := Lib.hid hout
      clear hout e
      go_wp2_with fail
      go_ret
      exact ⟨_, rfl, HO.out, hbw⟩
end Go.Proofs.YthalbcmlehpfaaaDoor
