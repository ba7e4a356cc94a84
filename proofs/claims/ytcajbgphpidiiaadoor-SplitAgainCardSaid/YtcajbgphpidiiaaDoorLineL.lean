/-
  The statements LineOf and LineJoins of layer 1 (line), walked. No conditions but that internal/bytealg.MaxLen holds a number.
-/
import Derived.Test.YtcajbgphpidiiaaDoorLineO
namespace Go.Proofs.YtcajbgphpidiiaaDoor
open Go.RowKit Go.Lib

set_option maxRecDepth 100000 in
set_option maxHeartbeats 1000000 in
theorem lshort_any (l : List UInt8) (hs : l.length ≤ 9223372036854775807) (w : World) :
    Calls Tryd.prog 21 #[.string (bs l)] w fun e w' => ∃ x : List UInt8, e = .returned (.string (bs x)) ∧ x.length ≤ 65537 ∧ w = w' := by
  by_cases h : 65536 < l.length
  · go_enter Tryd.func21, Tryd.ntmps21
    go_wp2_with fail
    go_ret
    exact ⟨_, rfl, by rw [List.length_take]; omega, rfl⟩
  · go_enter Tryd.func21, Tryd.ntmps21
    go_wp2_with fail
    go_ret
    exact ⟨_, rfl, by rw [List.length_take]; omega, rfl⟩

theorem ex_of : ofL [97, 10, 10, 98] = ([[97], [], [98]], 0, 0) := by decide +kernel
theorem ex_runes : runesN [97, 195, 169] = (2, true) := by decide +kernel
theorem of_ok (x : List UInt8) (h : (ofL x).2.2 = 0) : (ofL x).1 = linesL x := by
  unfold ofL at h ⊢
  split at h
  · simp at h
  · rename_i hx
    rw [if_neg hx]
    exact (resGo_full _ _ _ h).1
theorem of_err (x : List UInt8) (h : (ofL x).2.2 ≠ 0) : (ofL x).1 = [] := by
  unfold ofL at h ⊢
  split at h
  · rename_i hx
    rw [if_pos hx]
  · rename_i hx
    rw [if_neg hx]
    exact (resGo_bad _ _ _ h).1
theorem resGo_le (full : List (List UInt8)) : ∀ (n : Nat) (r : List (List UInt8)), (resGo full n r).2.1 ≤ n + r.length ∧ (resGo full n r).2.2 ≤ 5 ∧ ((resGo full n r).1 = full ∨ (resGo full n r).1 = [])
  | n, [] => ⟨Nat.zero_le _, Nat.zero_le _, .inl rfl⟩
  | n, x :: r => by
    unfold resGo
    split
    · have := resGo_le full (n + 1) r
      exact ⟨by simp only [List.length_cons]; omega, this.2⟩
    · exact ⟨by simp only [List.length_cons]; omega, by simp, .inr rfl⟩
theorem of_le (x : List UInt8) (hx : x.length ≤ 65537) : (ofL x).2.1 ≤ 65539 ∧ (ofL x).2.2 ≤ 6 ∧ (ofL x).1.length ≤ 65538 := by
  unfold ofL
  split
  · exact ⟨by simp, by simp, by simp⟩
  · have h := resGo_le (linesL x) 0 (linesL x)
    have hl := lines_len x []
    have e : linesL x = linesAux [] x := rfl
    rw [e] at h ⊢
    refine ⟨by omega, by omega, ?_⟩
    rcases h.2.2 with h2 | h2
    · rw [h2]; omega
    · rw [h2]; simp
theorem feed_take (M : List (List UInt8)) (k : Nat) (hk : k < M.length) : feedL (M.take (k + 1)) = feedL (M.take k) ++ (M.getD k [] ++ [10]) := by
  have e : M.take (k + 1) = M.take k ++ [M.getD k []] := by
    rw [List.take_add_one]
    simp [hk]
  rw [e]
  unfold feedL
  rw [List.flatMap_append]
  simp
theorem feed_le : ∀ (M : List (List UInt8)) (k : Nat), (feedL (M.take k)).length ≤ (feedL M).length
  | [], k => by simp
  | x :: M, 0 => by simp [feedL]
  | x :: M, k + 1 => by
    have h := feed_le M k
    have e : ∀ x M, feedL (x :: M) = x ++ [10] ++ feedL M := fun x M => by simp [feedL]
    rw [List.take_succ_cons, e, e, List.length_append, List.length_append (bs := feedL M)]
    omega

set_option maxRecDepth 100000 in
set_option maxHeartbeats 1000000 in
theorem lworks_any (w : World) (hm : HasMax w) :
    Calls Tryd.prog 25 #[] w fun e w' => e = .returned (.bool true) ∧ Below w.heap.size w w' := by
  have H1 := Lib.hid (lof_any [97, 10, 10, 98] (by decide))
  have H2 := Lib.hid (lrunes_any [97, 195, 169] (by decide))
  rw [ex_of] at H1
  rw [ex_runes] at H2
  go_enter Tryd.func25, Tryd.ntmps25
  go_wp2_with fail
  refine (H1.out _ hm).mono ?_
  rintro e w1 ⟨v, rfl, ⟨p, cap, rfl, ht⟩, hb1⟩
  obtain ⟨g, rfl, hc⟩ := ht 2 (by decide)
  have hc' : w1.cell? ⟨g, 2, none⟩ = some (.string (bs [98])) := hc
  clear ht hc
  go_wp2_with fail
  refine (H2.out _).mono ?_
  rintro e w2 ⟨rfl, hb2⟩
  have hc2 := cell_later hb2 hc'
  go_wp2_with fail
  go_ret
  exact ⟨rfl, below_next hb1 hb2⟩

set_option maxRecDepth 100000 in
set_option maxHeartbeats 1000000 in
theorem lineof_any (l : List UInt8) (hs : l.length ≤ 9223372036854775807) (w : World) (hm : HasMax w) :
    Calls Tryd.prog 5 #[.string (bs l)] w fun e w' => e = .returned (.bool true) ∧ Below w.heap.size w w' := by
  have HS := Lib.hid (lshort_any l hs)
  have HM := Lib.hid hm
  clear hs hm
  go_enter Tryd.func5, Tryd.ntmps5
  go_wp2_with fail
  refine (HS.out _).mono ?_
  rintro e w' ⟨x, rfl, hx, rfl⟩
  have H1 := Lib.hid (lof_any x (by omega))
  have H2 := Lib.hid (rof_any x (by omega))
  have hle := of_le x hx
  generalize ofL x = R at *
  clear hx
  go_wp2_with fail
  refine (H1.out _ HM.out).mono ?_
  rintro e w1 ⟨v1, rfl, ht1, hb1⟩
  have HT1 := Lib.hid ht1
  clear ht1
  go_wp2_with fail
  refine (H2.out _).mono ?_
  rintro e w2 ⟨v2, rfl, ht2, hb2⟩
  have HT2 := Lib.hid ht2
  clear ht2
  have hb12 := below_next hb1 hb2
  have H3 := Lib.hid (sametexts_any w2 v1 v2 R.1 R.1 (HT1.out.below hb2) HT2.out (by omega))
  rw [show (R.1 == R.1) = true by simp] at H3
  go_wp2_with fail
  refine H3.out.mono ?_
  rintro e w3 ⟨rfl, hb3⟩
  have hb13 := below_next hb12 hb3
  have HM3 := Lib.hid (HM.out.below hb13)
  go_wp2_with fail
  refine (lworks_any _ HM3.out).mono ?_
  rintro e w4 ⟨rfl, hb4⟩
  go_wp2_with fail
  go_ret
  exact ⟨rfl, below_next hb13 hb4⟩

set_option maxRecDepth 100000 in
set_option maxHeartbeats 1000000 in
theorem linejoins_any (l : List UInt8) (hs : l.length ≤ 9223372036854775807) (w : World) (hm : HasMax w) :
    Calls Tryd.prog 6 #[.string (bs l)] w fun e w' => e = .returned (.bool true) ∧ Below w.heap.size w w' := by
  have HS := Lib.hid (lshort_any l hs)
  have HM := Lib.hid hm
  clear hs hm
  go_enter Tryd.func6, Tryd.ntmps6
  go_wp2_with fail
  refine (lworks_any _ HM.out).mono ?_
  rintro e w1 ⟨rfl, hb1⟩
  have HM1 := Lib.hid (HM.out.below hb1)
  go_wp2_with fail
  refine (HS.out _).mono ?_
  rintro e w' ⟨x, rfl, hx, rfl⟩
  have H1 := Lib.hid (lof_any x (by omega))
  have hle := of_le x hx
  have HO := Lib.hid (of_ok x)
  have HE := Lib.hid (of_err x)
  obtain ⟨M, hM⟩ : ∃ M, linesL x = M := ⟨_, rfl⟩
  have HF := feed_lines x []
  have e : linesL x = linesAux [] x := rfl
  rw [← e, hM] at HF
  rw [hM] at HO
  have hfl : (feedL M).length ≤ 65538 := by
    rcases HF with h | h
    · rw [h]; simp; omega
    · rw [h]; simp; omega
  have HF2 := Lib.hid HF
  generalize ofL x = R at *
  clear hM e HF
  go_wp2_with fail
  refine (H1.out _ HM1.out).mono ?_
  rintro e w2 ⟨v, rfl, ⟨p, cap, rfl, ht⟩, hb2⟩
  have hb12 := below_next hb1 hb2
  have HT := Lib.hid ht
  clear ht
  obtain ⟨R1, R2, R3⟩ := R
  simp only at HO HE HT hle
  by_cases h3 : R3 = 0
  · subst h3
    obtain rfl : M = R1 := (HO.out rfl).symm
    clear HO HE
    go_wp2_with fail
    go_loopw [6, 7] (fun t i wr => ∃ k : Nat, k ≤ M.length ∧ t = .string (bs (feedL (M.take k))) ∧ i = .int .i64 k ∧ wr = w2) (fun _ i _ => M.length - (RowKit.intOf i).toNat)
    case atStart => exact ⟨0, Nat.zero_le _, rfl, rfl, rfl⟩
    case round =>
      obtain ⟨k, hk, rfl, rfl, rfl⟩ := hrel
      by_cases hlt : k < M.length
      · obtain ⟨g, rfl, hc⟩ := HT.out k hlt
        have hf := feed_take M k hlt
        have hl1 := feed_le M (k + 1)
        rw [hf] at hl1
        rw [List.length_append, List.length_append] at hl1
        have HF3 := Lib.hid hf
        generalize M.getD k [] = y at *
        clear hf
        go_wp2_with fail
        go_roundw
        case rel => exact ⟨k + 1, by omega, (by rw [HF3.out, ← bs_append, ← bs_append]; rfl), by go_num, trivial⟩
        case measure => simp [RowKit.intOf]; omega
      · have ek : k = M.length := by omega
        subst ek
        rw [List.take_length]
        rcases HF2.out with h | h
        · have e1 : (feedL M == x) = true := by rw [h]; simp
          clear h
          go_wp2_with fail
          go_ret
          exact ⟨by first | rfl | simp [e1], hb12⟩
        · have e2 : feedL M = x ++ [10] := by rw [h]; simp
          clear h
          rw [e2]
          go_wp2_with fail
          all_goals
            go_ret
            exact ⟨by first | rfl | (simp; done) | (simp; rw [show (bs x ++ { data := #[10] }) = bs (x ++ [10]) from bs_append x [10], bs_toList]), hb12⟩
  · obtain rfl := HE.out h3
    have e3 : ((R3 : Int) != 0) = true := by simp; omega
    clear HO HE h3
    go_wp2_with fail
    go_ret
    exact ⟨rfl, hb12⟩
end Go.Proofs.YtcajbgphpidiiaaDoor
