/-
  The walks of layer 9's reference (table): a table or not, a name found, a name put in. No conditions.
-/
import Derived.Test.YthalbcmlehpfaaaDoorTabA
import Derived.IntWalk
namespace Go.Proofs.YthalbcmlehpfaaaDoor
open Go.RowKit Go.Lib

theorem good_len' (L : List (List UInt8)) (k : Nat) (hs : ∀ x ∈ L, x.length ≤ 1000000) : (L.getD k []).length ≤ 1000000 := by
  by_cases h : k < L.length
  · exact hs _ (getD_mem L k h)
  · rw [List.getD_eq_getElem?_getD, List.getElem?_eq_none (by omega)]
    simp
set_option maxRecDepth 100000 in
set_option maxHeartbeats 2000000 in
theorem rtis_any (w : World) (v : Value) (L : List (List UInt8)) (hv : Texts w v L) (hL : L.length ≤ 1000000) (hs : ∀ x ∈ L, x.length ≤ 1000000) :
    Calls Tryd.prog 31 #[v] w fun e w' => e = .returned (.bool (isT L)) ∧ Below w.heap.size w w' := by
  obtain ⟨p, c, rfl, hp⟩ := hv
  have HX := Lib.hid hp
  have HS := Lib.hid hs
  have HA := Lib.hid (isT_no L)
  have HZ := Lib.hid (isT_yes L)
  obtain ⟨R, hR⟩ : ∃ R, isT L = R := ⟨_, rfl⟩
  rw [hR] at HA HZ ⊢
  clear hp hs hR
  go_enter Tryd.func31, Tryd.ntmps31
  go_wp2_with fail
  go_loopw [3] (fun i wr => ∃ k : Nat, k ≤ L.length ∧ i = .int .i64 k ∧ (∀ j, j < k → goodT L j = true) ∧ Below w.heap.size w wr) (fun i _ => L.length - (RowKit.intOf i).toNat)
  case atStart => exact ⟨0, Nat.zero_le _, rfl, fun j hj => absurd hj (Nat.not_lt_zero j), Below.refl _ _⟩
  case round =>
    obtain ⟨k, hk, rfl, hn, hbw⟩ := hrel
    have HN := Lib.hid hn
    clear hn
    by_cases hlt : k < L.length
    · have hstep : goodT L k = true → ∀ j, j < k + 1 → goodT L j = true := fun hg j hj => by
        by_cases hjk : j < k
        · exact HN.out j hjk
        · obtain rfl : j = k := by omega
          exact hg
      have HStep := Lib.hid hstep
      have HNo := Lib.hid (HA.out k hlt)
      clear hstep
      cases k with
      | zero =>
        obtain ⟨g, rfl, hc⟩ := HX.out 0 hlt
        have HI := Lib.hid (ris_any (L.getD 0 []) (good_len' L 0 HS.out))
        have hg0 := good_first L
        obtain ⟨x, hx⟩ : ∃ x, L.getD 0 [] = x := ⟨_, rfl⟩
        rw [hx] at hc HI hg0
        have c3 : decide ((0 : Int) < 0) = false := by decide
        clear hx
        cases hnx : nameL x with
        | false =>
          rw [hnx] at HI hg0
          have H1 := Lib.hid (HNo.out hg0)
          clear hnx hg0
          go_wp2_with fail
          have hq0 : ∀ m : Later wr, m.w.cell? ⟨g, 0, none⟩ = some (.string (bs x)) := fun m => cell_later m.h (cell_later hbw hc)
          refine wp_region_later (by kernel_rfl) (by kernel_rfl) ?_
          repeat (go_big_quiet_step (first | (go_at_call 36; exact Later.call (HI.out _))))
          refine wpQuiet_nil ?_
          intro _ hw'
          obtain ⟨⟨w3, hb3⟩, hw''⟩ := hw'
          have hw3 : w3 = _ := hw''.symm
          subst hw3
          try dsimp only at hb3
          go_wp2_with fail
          go_ret
          exact ⟨by rw [H1.out]; rfl, below_next hbw hb3⟩
        | true =>
          rw [hnx] at HI hg0
          have H1 := Lib.hid (HStep.out hg0)
          have hwr : IntKind.i64.wrap 1 = 1 := by decide
          clear hnx hg0
          go_wp2_with fail
          have hq0 : ∀ m : Later wr, m.w.cell? ⟨g, 0, none⟩ = some (.string (bs x)) := fun m => cell_later m.h (cell_later hbw hc)
          refine wp_region_later (by kernel_rfl) (by kernel_rfl) ?_
          repeat (go_big_quiet_step (first | (go_at_call 36; exact Later.call (HI.out _))))
          refine wpQuiet_nil ?_
          intro _ hw'
          obtain ⟨⟨w3, hb3⟩, hw''⟩ := hw'
          have hw3 : w3 = _ := hw''.symm
          subst hw3
          try dsimp only at hb3
          go_wp2_with fail
          go_roundw
          case rel => exact ⟨1, by omega, rfl, H1.out, below_next hbw hb3⟩
          case measure => simp [RowKit.intOf]; omega
      | succ q =>
        obtain ⟨g, rfl, hc⟩ := HX.out (q + 1) hlt
        obtain ⟨g', hg', hd⟩ := HX.out q (by omega)
        obtain rfl : g = g' := by simpa using hg'
        have HI := Lib.hid (ris_any (L.getD (q + 1) []) (good_len' L (q + 1) HS.out))
        have HL := Lib.hid (rless_any (L.getD q []) (L.getD (q + 1) []) (good_len' L q HS.out) (good_len' L (q + 1) HS.out))
        have hg0 := good_next L q
        have hlt0 : ltN (L.getD q []) (L.getD (q + 1) []) = lexLess (runesU (L.getD q [])) (runesU (L.getD (q + 1) [])) := rfl
        obtain ⟨x, hx⟩ : ∃ x, L.getD (q + 1) [] = x := ⟨_, rfl⟩
        obtain ⟨y, hy⟩ : ∃ y, L.getD q [] = y := ⟨_, rfl⟩
        rw [hx] at hc HI HL hg0 hlt0
        rw [hy] at hd HL hg0 hlt0
        rw [← hlt0] at HL
        have c3 : decide ((0 : Int) < (q : Int) + 1) = true := decide_eq_true (by omega)
        clear hx hy hlt0 hg'
        cases hnx : nameL x with
        | false =>
          rw [hnx] at HI hg0
          have H1 := Lib.hid (HNo.out hg0)
          clear hnx hg0
          go_wp2_with fail
          have hq0 : ∀ m : Later wr, m.w.cell? ⟨g, q + 1, none⟩ = some (.string (bs x)) := fun m => cell_later m.h (cell_later hbw hc)
          have hq1 : ∀ m : Later wr, m.w.cell? ⟨g, q, none⟩ = some (.string (bs y)) := fun m => cell_later m.h (cell_later hbw hd)
          refine wp_region_later (by kernel_rfl) (by kernel_rfl) ?_
          repeat (go_big_quiet_step (first | (go_at_call 36; exact Later.call (HI.out _))))
          refine wpQuiet_nil ?_
          intro _ hw'
          obtain ⟨⟨w3, hb3⟩, hw''⟩ := hw'
          have hw3 : w3 = _ := hw''.symm
          subst hw3
          try dsimp only at hb3
          go_wp2_with fail
          go_ret
          exact ⟨by rw [H1.out]; rfl, below_next hbw hb3⟩
        | true =>
          rw [hnx, Bool.true_and] at hg0
          rw [hnx] at HI
          cases hl : ltN y x with
          | false =>
            rw [hl] at HL hg0
            have H1 := Lib.hid (HNo.out hg0)
            clear hnx hg0 hl
            go_wp2_with fail
            have hq0 : ∀ m : Later wr, m.w.cell? ⟨g, q + 1, none⟩ = some (.string (bs x)) := fun m => cell_later m.h (cell_later hbw hc)
            have hq1 : ∀ m : Later wr, m.w.cell? ⟨g, q, none⟩ = some (.string (bs y)) := fun m => cell_later m.h (cell_later hbw hd)
            refine wp_region_later (by kernel_rfl) (by kernel_rfl) ?_
            repeat (go_big_quiet_step (first | (go_at_call 36; exact Later.call (HI.out _)) | (go_at_call 58; exact Later.call (HL.out _))))
            refine wpQuiet_nil ?_
            intro _ hw'
            obtain ⟨⟨w3, hb3⟩, hw''⟩ := hw'
            have hw3 : w3 = _ := hw''.symm
            subst hw3
            try dsimp only at hb3
            go_wp2_with fail
            go_ret
            exact ⟨by rw [H1.out]; rfl, below_next hbw hb3⟩
          | true =>
            rw [hl] at HL hg0
            have H1 := Lib.hid (HStep.out hg0)
            have hwr : IntKind.i64.wrap ((q : Int) + 1 + 1) = (q : Int) + 1 + 1 := IntWalk.i64_in _ (by omega)
            clear hnx hg0 hl
            go_wp2_with fail
            have hq0 : ∀ m : Later wr, m.w.cell? ⟨g, q + 1, none⟩ = some (.string (bs x)) := fun m => cell_later m.h (cell_later hbw hc)
            have hq1 : ∀ m : Later wr, m.w.cell? ⟨g, q, none⟩ = some (.string (bs y)) := fun m => cell_later m.h (cell_later hbw hd)
            refine wp_region_later (by kernel_rfl) (by kernel_rfl) ?_
            repeat (go_big_quiet_step (first | (go_at_call 36; exact Later.call (HI.out _)) | (go_at_call 58; exact Later.call (HL.out _))))
            refine wpQuiet_nil ?_
            intro _ hw'
            obtain ⟨⟨w3, hb3⟩, hw''⟩ := hw'
            have hw3 : w3 = _ := hw''.symm
            subst hw3
            try dsimp only at hb3
            go_wp2_with fail
            go_roundw
            case rel => exact ⟨q + 1 + 1, by omega, by go_num, H1.out, below_next hbw hb3⟩
            case measure => simp [RowKit.intOf]; omega
    · have hke : k = L.length := by omega
      subst hke
      have H1 := Lib.hid (HZ.out HN.out)
      go_wp2_with fail
      go_ret
      exact ⟨by rw [H1.out]; rfl, hbw⟩
end Go.Proofs.YthalbcmlehpfaaaDoor
