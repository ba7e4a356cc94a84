/-
  The walk of layer 2's reference (name): a text turned. No conditions.
-/
import Derived.Test.YtcajbgphpidiiaaDoorNameH
namespace Go.Proofs.YtcajbgphpidiiaaDoor
open Go.RowKit Go.Lib

theorem news_int (w : World) (x : Int) (e : TypeId) : ∀ (j : Nat) (u : Value), ([.int .i64 x] : List Value)[j]? = some u → (w.alloc (.cells #[.int .i64 x] e)).cell? ((⟨w.heap.size, 0, none⟩ : Addr).add j) = some u := by
  intro j u hj
  match j, hj with
  | 0, hj => simp at hj; subst hj; simp [Addr.add]
theorem ones_int (x : Int) : ∀ u ∈ ([.int .i64 x] : List Value), u.oneCell' = true := by
  intro u hu
  simp at hu
  subst hu
  rfl
theorem rev_next (r : List Nat) (j : Nat) (h : j < r.length) : r.reverse.take (j + 1) = r.reverse.take j ++ [r.getD (r.length - 1 - j) 0] := by
  rw [List.take_add_one]
  congr 1
  rw [List.getElem?_reverse h]
  simp [show r.length - 1 - j < r.length by omega]

set_option maxRecDepth 100000 in
set_option maxHeartbeats 2000000 in
theorem rturned_any (l : List UInt8) (hs : l.length ≤ 1000000) (w : World) :
    Calls Tryd.prog 42 #[.string (bs l)] w fun e w' => e = .returned (.string (bs (textU (runesU l).reverse))) ∧ Below w.heap.size w w' := by
  have H1 := Lib.hid (runes_any l hs)
  have hlen := runesU_length l
  have HS := Lib.hid (runesU_scalar l)
  generalize runesU l = r at *
  obtain ⟨i0, hi, hz0, hz1, hz2⟩ := info_parts info_int
  go_enter Tryd.func42, Tryd.ntmps42
  go_wp2_with fail
  refine (H1.out _).mono ?_
  rintro e w1 ⟨g, cap, rfl, hg, hg1, hcap, hcells, hb1⟩
  have HX := Lib.hid hcells
  clear hcells
  go_wp2_with fail
  go_loopw [4, 5] (fun v i wr => ∃ j : Nat, j ≤ r.length ∧ i = .int .i64 ((r.length : Int) - 1 - (j : Int)) ∧ wr.ownsRow w1.heap.size 3 1 v j (ints (r.reverse.take j)) ∧ Below w1.heap.size w1 wr) (fun _ i _ => (RowKit.intOf i + 1).toNat)
  case atStart => exact ⟨0, Nat.zero_le _, by simp, World.ownsRow_made w1 #[] 0 (Nat.le_refl _) (Nat.zero_le _) rfl, (Below.refl _ _).alloc (Nat.le_refl _) _⟩
  case round =>
    obtain ⟨j, hj, rfl, hown, hbw⟩ := hrel
    by_cases hlt : j < r.length
    · obtain ⟨k, hk⟩ : ∃ k : Nat, k = r.length - 1 - j := ⟨_, rfl⟩
      have hkI : (r.length : Int) - 1 - (j : Int) = (k : Int) := by omega
      have hc := cell_later hbw (HX.out k (by omega))
      have hnx := rev_next r j hlt
      rw [← hk] at hnx
      have HN := Lib.hid hnx
      have hkl : k < r.length := by omega
      have hnext : (r.length : Int) - 1 - ((j + 1 : Nat) : Int) = (k : Int) - 1 := by omega
      have HNext := Lib.hid hnext
      rw [hkI]
      generalize r.getD k 0 = c at *
      clear hnx hk hkI hnext
      go_wp2_with (at_builtin; refine wpList_append_own _ rfl _ _ 53 rfl w1.heap.size 3 i0 (.int .i64 0) 1 8 Tryd.underlying53 hi hz0 hz1 hz2 rfl (by decide) _ _ _ rfl (hown.alloc _) ⟨wr.heap.size, 0, none⟩ 1 1 [.int .i64 (c : Int)] rfl rfl (news_int _ _ _) (ones_int _) (by unfold maxLen; omega) (by omega) (by have := hbw.size; simp; omega) ?_)
      intro v' w4 hown4 hgrow hnil
      have hb4 : Below w1.heap.size w1 w4 := (hbw.alloc hbw.size _).grown hgrow (by have := hbw.size; simp; omega) (fun k hk => (hown.lt k hk).1)
      have HO : RowKit.Hid (w4.ownsRow w1.heap.size 3 1 v' (j + 1) (ints (r.reverse.take (j + 1)))) := Lib.hid (by
        rw [HN.out, ← ints_snoc]
        exact hown4)
      clear hown4 hgrow hnil hown hbw
      go_wp2_with fail
      go_roundw
      case rel => exact ⟨j + 1, by omega, by rw [HNext.out], HO.out, hb4⟩
      case measure => first | (simp [RowKit.intOf]; done) | (simp [RowKit.intOf]; omega)
    · have hje : j = r.length := by omega
      subst hje
      have e : ((r.length : Int) - 1 - (r.length : Int)) = -1 := by omega
      rw [e]
      rw [List.take_of_length_le (by simp)] at hown
      obtain ⟨p, cap2, rfl, ht⟩ := own_nats (B := w1.heap.size) (e := 3) (r := r.reverse) (by rw [List.length_reverse]; exact hown)
      rw [List.length_reverse]
      have HT := Lib.hid (rtext_any wr p cap2 r.reverse ht (fun c hc => HS.out c (List.mem_reverse.1 hc)) (by rw [List.length_reverse]; omega))
      rw [List.length_reverse] at HT
      have hbw2 := below_next hb1 hbw
      clear ht hown e
      go_wp2_with fail
      refine HT.out.mono ?_
      rintro e w5 ⟨rfl, hb5⟩
      go_wp2_with fail
      go_ret
      exact ⟨rfl, below_next hbw2 hb5⟩
end Go.Proofs.YtcajbgphpidiiaaDoor
