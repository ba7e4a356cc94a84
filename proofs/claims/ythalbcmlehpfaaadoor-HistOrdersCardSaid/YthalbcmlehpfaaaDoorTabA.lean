/-
  The walks of layer 9 (table): not too many texts; whether a list is a table, in the program. No conditions but that unicode/utf8's two tables are as their initialisers lay them.
-/
import Derived.Test.YthalbcmlehpfaaaDoorTabP
import Derived.Test.YthalbcmlehpfaaaDoorNameN
import Derived.Test.YthalbcmlehpfaaaDoorNameM
import Derived.Test.YthalbcmlehpfaaaDoorArgT
namespace Go.Proofs.YthalbcmlehpfaaaDoor
open Go.RowKit Go.Lib

theorem texts_of {w : World} {v : Value} {L : List (List UInt8)} (h : TextsS w v L) : Texts w v L := by
  obtain ⟨g, cap, hv, -, hc⟩ := h
  exact ⟨_, cap, hv, fun j hj => ⟨g, rfl, hc j hj⟩⟩
theorem arg_of {w : World} {v : Value} {L : List (List UInt8)} (h : Texts w v L) : ArgTx w v L := by
  obtain ⟨p, cap, hv, hc⟩ := h
  refine ⟨p, cap, hv, fun j hj => ?_⟩
  obtain ⟨g, rfl, h1⟩ := hc j hj
  exact ⟨_, rfl, by rw [Addr.add_lit, Nat.zero_add]; exact h1⟩
theorem ArgTx.below {w w' : World} {v : Value} {L : List (List UInt8)} (h : ArgTx w v L) (hb : Below w.heap.size w w') : ArgTx w' v L := by
  obtain ⟨p, cap, hv, hc⟩ := h
  refine ⟨p, cap, hv, fun j hj => ?_⟩
  obtain ⟨a, rfl, h1⟩ := hc j hj
  exact ⟨a, rfl, cell_later hb h1⟩

set_option maxRecDepth 100000 in
set_option maxHeartbeats 2000000 in
theorem few9_any (w : World) (v : Value) (L : List (List UInt8)) (hv : ArgTx w v L) (hs : ∀ x ∈ L, x.length ≤ 9223372036854775807) :
    Calls Tryd.prog 26 #[v] w fun e w' => ∃ v', e = .returned v' ∧ TextsS w' v' (fewT L) ∧ Below w.heap.size w w' := by
  obtain ⟨p, cap, rfl, ht⟩ := hv
  have HX := Lib.hid ht
  have HL := Lib.hid hs
  clear ht hs
  obtain ⟨i0, hi, hz0, hz1, hz2⟩ := info_parts info_str
  go_enter Tryd.func26, Tryd.ntmps26
  go_wp2_with fail
  go_loopw [3, 4] (fun m i wr => ∃ k : Nat, k ≤ L.length ∧ k ≤ 30 ∧ i = .int .i64 k ∧ wr.ownsRow w.heap.size 9 1 m k (strs ((L.take k).map (·.take 100))) ∧ m ≠ .slice none 0 0 ∧ Below w.heap.size w wr) (fun _ i _ => L.length - (RowKit.intOf i).toNat)
  case atStart => exact ⟨0, Nat.zero_le _, Nat.zero_le _, rfl, World.ownsRow_made w #[] 0 (Nat.le_refl _) (Nat.zero_le _) rfl, by simp, (Below.refl _ _).alloc (Nat.le_refl _) _⟩
  case round =>
    obtain ⟨k, hk, hk30, rfl, hown, hnn, hbw⟩ := hrel
    have HN := Lib.hid hnn
    clear hnn
    by_cases hlt : k < L.length ∧ k < 30
    · obtain ⟨hl1, hl2⟩ := hlt
      obtain ⟨a, rfl, hc⟩ := HX.out k hl1
      have hxl := HL.out (L.getD k []) (getD_mem L k hl1)
      have hnx := few_next L k hl1
      obtain ⟨x, hx⟩ : ∃ x, L.getD k [] = x := ⟨_, rfl⟩
      rw [hx] at hc hxl hnx
      have HNx := Lib.hid hnx
      have e : x.take (min (x.length : Int) 100).toNat = x.take 100 := by
        by_cases h : x.length ≤ 100
        · rw [show (min (x.length : Int) 100).toNat = x.length by omega, List.take_length, List.take_of_length_le h]
        · rw [show (min (x.length : Int) 100).toNat = 100 by omega]
      have E := Lib.hid e
      have b1 : (0 : Int) ≤ min (x.length : Int) 100 := by omega
      have b2 : min (x.length : Int) 100 ≤ (x.length : Int) := by omega
      clear hx e hnx
      go_wp2_with fail
      have hown2 : wr.drew.ownsRow w.heap.size 9 1 _ k (strs ((L.take k).map (·.take 100))) := hown
      go_region_held3 (fun w' => w'.cell? (a.add k) = some (.string (bs x)) ∧ Below w.heap.size w w')
        (first | exact ⟨cell_later (by assumption) hc, by assumption⟩ | (go_split_ands; first | exact ⟨cell_later (by assumption) hc, by assumption⟩ | exact ⟨cell_later (keep_alloc (by assumption) _) hc, keep_alloc (by assumption) _⟩ | exact ⟨cell_later (Below.drew (keep_alloc (by assumption) _)) hc, Below.drew (keep_alloc (by assumption) _)⟩) | exact ⟨cell_later (Below.drew (by assumption)) hc, Below.drew (by assumption)⟩)
        ((go_split_ands; refine step_append_own (by rfl) _ _ 22 (by rfl) w.heap.size 9 i0 (.string ByteArray.empty) 1 16 Tryd.underlying22 hi hz0 hz1 hz2 rfl (by decide) _ k (strs ((L.take k).map (·.take 100))) (by rfl) (by first | exact (hown.alloc _).drew | exact hown2.alloc _) ⟨wr.heap.size, 0, none⟩ 1 1 [_] (by rfl) rfl (by exact news_str' _ _ _) (ones_one _) (by unfold maxLen; omega) (by omega) (Below.size (by assumption)) ?_; intro v' w4 hown4 hgrow hnil; have hbw4 := keep_grown (by assumption) (by first | exact (hown.alloc _).drew | exact hown2.alloc _) hgrow))
      go_split_ands
      rw [E.out, strs_snoc, ← HNx.out] at hown4
      have HO := Lib.hid hown4
      have HN2 : RowKit.Hid (v' ≠ .slice none 0 0) := Lib.hid (fun h => by have := hnil.1 h; simp at this)
      clear hown4 hnil hown hown2
      go_wp2_with fail
      go_roundw
      case rel => exact ⟨k + 1, by omega, by omega, by go_num, HO.out, HN2.out, by assumption⟩
      case measure => simp [RowKit.intOf]; omega
    · have hle : ∀ (K : Prop), ((L.length ≤ k) → K) → ((k < L.length ∧ 30 ≤ k) → K) → K := fun K h1 h2 => by
        by_cases h : k < L.length
        · exact h2 ⟨h, by omega⟩
        · exact h1 (by omega)
      have hfew : (L.take k).map (·.take 100) = fewT L := by
        unfold fewT
        by_cases h : k < L.length
        · rw [show k = 30 by omega]
        · rw [List.take_of_length_le (show L.length ≤ k by omega), List.take_of_length_le (show L.length ≤ 30 by omega)]
      have hlen : k = (fewT L).length := by rw [← hfew, List.length_map, List.length_take]; omega
      rw [hfew] at hown
      have HS := Lib.hid (own_textsS (hlen ▸ hown) HN.out)
      clear hown HN hfew HX HL
      refine hle _ (fun hs1 => ?_) (fun hs2 => ?_)
      all_goals
        clear hle hlt
        go_wp2_with fail
        go_ret
        exact ⟨_, rfl, HS.out, hbw⟩
end Go.Proofs.YthalbcmlehpfaaaDoor
