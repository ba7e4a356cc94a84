/-
  The walks of Parse, of package digit and of its reference: a text's number, or the error. Texts of at most 2^62 bytes (every readable text is shorter).
-/
import Derived.Test.YtphhgdgamnogpaaDoorDigW
namespace Go.Proofs.YtphhgdgamnogpaaDoor
open Go.RowKit

theorem fold_none (t : List UInt8) (k : Nat) (h : foldP (t.take k) = none) : foldP t = none := by
  have e : foldP t = (t.drop k).foldl stepP (foldP (t.take k)) := by
    unfold foldP; rw [← List.foldl_append, List.take_append_drop]
  rw [e, h]
  generalize t.drop k = r
  induction r with
  | nil => rfl
  | cons a r ih => simpa [stepP] using ih
theorem fold_succ (t : List UInt8) (k : Nat) (hk : k < t.length) (n : Int) (h : foldP (t.take k) = some n) : foldP (t.take (k + 1)) = stepP (some n) t[k] := by
  rw [List.take_succ_eq_append_getElem hk, foldP_snoc, h]
theorem step_over (n : Int) (c : UInt8) (h : n < -922337203685477580 ∨ (n = -922337203685477580 ∧ 56 < c.toNat)) : stepP (some n) c = none := by
  simp only [stepP, Option.bind_some]
  rw [if_pos (by omega)]
theorem step_on (n : Int) (c : UInt8) (h1 : 48 ≤ c.toNat) (h : ¬ (n < -922337203685477580 ∨ (n = -922337203685477580 ∧ 56 < c.toNat))) : stepP (some n) c = some (n * 10 - ((c.toNat : Int) - 48)) := by
  simp only [stepP, Option.bind_some]
  rw [if_neg (by omega)]; congr 1; omega
theorem parse_over (l : List UInt8) (hd : digL l = true) (h : foldP (restL l) = none) : parseL l = (0, 8) := by
  unfold parseL; rw [if_pos hd, h]
theorem parse_neg (l : List UInt8) (n : Int) (hd : digL l = true) (h : foldP (restL l) = some n) (hn : negL l = true) : parseL l = (n, 0) := by
  unfold parseL; rw [if_pos hd, h]; simp [hn]
theorem parse_least (l : List UInt8) (n : Int) (hd : digL l = true) (h : foldP (restL l) = some n) (hn : negL l = false) (hl : n = -9223372036854775808) : parseL l = (0, 8) := by
  unfold parseL; rw [if_pos hd, h]; simp [hn, hl]
theorem parse_pos (l : List UInt8) (n : Int) (hd : digL l = true) (h : foldP (restL l) = some n) (hn : negL l = false) (hl : -9223372036854775808 < n) : parseL l = (-n, 0) := by
  unfold parseL; rw [if_pos hd, h]; simp only [hn, Bool.false_eq_true, if_false]; rw [if_neg (by omega)]
theorem parse_no (l : List UInt8) (hd : digL l = false) : parseL l = (0, 5) := by
  unfold parseL; rw [hd]; simp
theorem ret_pair {a b c d : Int} (h : (a, b) = (c, d)) : Ending.returned (.tuple #[.int .i64 a, .int .i64 b]) = .returned (.tuple #[.int .i64 c, .int .i64 d]) := by
  injection h with h1 h2; rw [h1, h2]
theorem digL_all (l : List UInt8) (h : digL l = true) : (restL l).all isDig = true := by
  unfold digL digT at h; simp only [Bool.and_eq_true] at h; exact h.2
theorem all_at (t : List UInt8) (h : t.all isDig = true) (k : Nat) (hk : k < t.length) : 48 ≤ t[k].toNat ∧ t[k].toNat ≤ 57 :=
  (isDig_iff _).1 (List.all_eq_true.1 h _ (List.getElem_mem hk))

set_option maxHeartbeats 2000000 in
theorem parse_run (l t : List UInt8) (neg : Bool) (ht : restL l = t) (hn : negL l = neg) (hd : digL l = true) (hs : l.length ≤ 9223372036854775806) (v c : Int) (hres : parseL l = (v, c)) (w : World) :
    Calls Tryd.prog 135 #[.string (bs l)] w fun e w' => e = .returned (.tuple #[.int .i64 v, .int .i64 c]) ∧ w = w' := by
  have HR := Lib.hid hres
  have HD := Lib.hid (fun W => by simpa only [hd] using digits_any l (by omega) W)
  have HC := Lib.hid (cut_of l t neg ht hn (by omega))
  have HT := Lib.hid ht
  have HN := Lib.hid hn
  have HG := Lib.hid hd
  have hta : t.all isDig = true := by rw [← ht]; exact digL_all l hd
  have HTA := Lib.hid hta
  have htl : t.length ≤ 9223372036854775806 := by have := rest_len l; rw [ht] at this; omega
  clear hres hn hd hta
  clear ht hs
  go_enter Tryd.func135, Tryd.ntmps135
  go_wp2_with (first
    | (go_at_call 154; refine (HD.out _).mono ?_; rintro e w1 ⟨rfl, rfl⟩)
    | (go_at_call 155; refine (HC.out _).mono ?_; rintro e w1 ⟨rfl, rfl⟩))
  clear HD HC
  go_loop [6, 7, 8, 19] (fun a _ _ i => ∃ (k : Nat) (n : Int), k ≤ t.length ∧ i = .int .i64 k ∧ a = .int .i64 n ∧ -9223372036854775808 ≤ n ∧ n ≤ 0 ∧ foldP (t.take k) = some n) (fun _ _ _ i => t.length - (intOf i).toNat)
  case atStart => exact ⟨0, 0, Nat.zero_le _, rfl, rfl, by omega, by omega, rfl⟩
  case round =>
    obtain ⟨k, n, hk, rfl, rfl, hn0, hn1, hf⟩ := hrel
    have HF := Lib.hid hf
    clear hf
    by_cases hlt : k < t.length
    · have hc1 := (all_at t HTA.out k hlt).1
      have hc2 := (all_at t HTA.out k hlt).2
      by_cases h1 : n < -922337203685477580
      · have HX := Lib.hid (parse_over l HG.out (by rw [HT.out]; exact fold_none t (k + 1) (by rw [fold_succ t k hlt n HF.out]; exact step_over _ _ (.inl h1))))
        go_wp2
        go_ret2
        exact ⟨ret_pair (HX.out.symm.trans HR.out), rfl⟩
      · by_cases h2 : n = -922337203685477580
        · by_cases h3 : 56 < t[k].toNat
          · have HX := Lib.hid (parse_over l HG.out (by rw [HT.out]; exact fold_none t (k + 1) (by rw [fold_succ t k hlt n HF.out]; exact step_over _ _ (.inr ⟨h2, h3⟩))))
            subst h2
            clear h1
            go_wp2
            go_ret2
            exact ⟨ret_pair (HX.out.symm.trans HR.out), rfl⟩
          · have HX := Lib.hid (by rw [← step_on n t[k] hc1 (by omega)]; exact fold_succ t k hlt n HF.out : foldP (t.take (k + 1)) = some (n * 10 - ((t[k].toNat : Int) - 48)))
            subst h2
            clear h1
            have h4 : (t[k].toNat : Int) ≤ 56 := by omega
            clear h3
            go_wp2
            go_round
            case rel => exact ⟨k + 1, _, by omega, by go_num, rfl, by omega, by omega, HX.out⟩
            case measure => simp [intOf]; omega
        · have HX := Lib.hid (by rw [← step_on n t[k] hc1 (by omega)]; exact fold_succ t k hlt n HF.out : foldP (t.take (k + 1)) = some (n * 10 - ((t[k].toNat : Int) - 48)))
          have h3 : -922337203685477579 ≤ n := by omega
          clear h1 h2
          go_wp2
          go_round
          case rel => exact ⟨k + 1, _, by omega, by go_num, rfl, by omega, by omega, HX.out⟩
          case measure => simp [intOf]; omega
    · have e : t.take k = t := List.take_of_length_le (by omega)
      have hF := HF.out
      rw [e] at hF
      have HB := Lib.hid hF
      clear HF hF e
      cases neg with
      | true =>
        have HX := Lib.hid (parse_neg l n HG.out (by rw [HT.out]; exact HB.out) HN.out)
        go_wp2
        go_ret2
        exact ⟨ret_pair (HX.out.symm.trans HR.out), rfl⟩
      | false =>
        by_cases hl : n = -9223372036854775808
        · have HX := Lib.hid (parse_least l n HG.out (by rw [HT.out]; exact HB.out) HN.out hl)
          subst hl
          clear hn0 hn1
          go_wp2
          go_ret2
          exact ⟨ret_pair (HX.out.symm.trans HR.out), rfl⟩
        · have HX := Lib.hid (parse_pos l n HG.out (by rw [HT.out]; exact HB.out) HN.out (by omega))
          have hn2 : -9223372036854775808 < n := by omega
          clear hl hn0
          go_wp2
          go_ret2
          exact ⟨ret_pair (HX.out.symm.trans HR.out), rfl⟩

set_option maxHeartbeats 1000000 in
theorem parse_bad (l : List UInt8) (hd : digL l = false) (hs : l.length ≤ 9223372036854775806) (w : World) :
    Calls Tryd.prog 135 #[.string (bs l)] w fun e w' => e = .returned (.tuple #[.int .i64 0, .int .i64 5]) ∧ w = w' := by
  have HD := Lib.hid (fun W => by simpa only [hd] using digits_any l (by omega) W)
  clear hd hs
  go_enter Tryd.func135, Tryd.ntmps135
  go_wp2_with (go_at_call 154; refine (HD.out _).mono ?_; rintro e w1 ⟨rfl, rfl⟩)
  go_ret2
  exact ⟨rfl, rfl⟩
theorem parse_any (l : List UInt8) (hs : l.length ≤ 9223372036854775806) (w : World) :
    Calls Tryd.prog 135 #[.string (bs l)] w fun e w' => e = .returned (.tuple #[.int .i64 (parseL l).1, .int .i64 (parseL l).2]) ∧ w = w' := by
  cases hd : digL l
  · rw [parse_no l hd]; exact parse_bad l hd hs w
  · exact parse_run l _ _ rfl rfl hd hs _ _ rfl w
set_option maxHeartbeats 2000000 in
theorem refparse_neg (l t : List UInt8) (ht : restL l = t) (hn : negL l = true) (hl : l = 45 :: t) (hd : digL l = true) (hs : l.length ≤ 9223372036854775806) (v c : Int) (hres : parseL l = (v, c)) (w : World) :
    Calls Tryd.prog 137 #[.string (bs l)] w fun e w' => e = .returned (.tuple #[.int .i64 v, .int .i64 c]) ∧ w = w' := by
  have HR := Lib.hid hres
  have HD := Lib.hid (fun W => by simpa only [hd] using refdigits_any l (by omega) W)
  have HT := Lib.hid ht
  have HN := Lib.hid hn
  have HG := Lib.hid hd
  have hta : t.all isDig = true := by rw [← ht]; exact digL_all l hd
  have HTA := Lib.hid hta
  have htl : t.length ≤ 9223372036854775806 := by have := rest_len l; rw [ht] at this; omega
  clear hres hn hd hta
  clear ht
  subst hl
  simp only [List.length_cons] at hs
  go_enter Tryd.func137, Tryd.ntmps137
  go_wp2_with (go_at_call 156; refine (HD.out _).mono ?_; rintro e w1 ⟨rfl, rfl⟩)
  clear HD
  go_loop [5, 6, 7] (fun i a _ => ∃ (k : Nat) (n : Int), k ≤ t.length ∧ i = .int .i64 ((k : Int) + 1) ∧ a = .int .i64 n ∧ -9223372036854775808 ≤ n ∧ n ≤ 0 ∧ foldP (t.take k) = some n) (fun i _ _ => t.length + 1 - (intOf i).toNat)
  case atStart => exact ⟨0, 0, Nat.zero_le _, by go_num, rfl, by omega, by omega, rfl⟩
  case round =>
    obtain ⟨k, n, hk, rfl, rfl, hn0, hn1, hf⟩ := hrel
    have HF := Lib.hid hf
    clear hf
    by_cases hlt : k < t.length
    · have hc1 := (all_at t HTA.out k hlt).1
      have hc2 := (all_at t HTA.out k hlt).2
      by_cases h1 : n < -922337203685477580
      · have HX := Lib.hid (parse_over _ HG.out (by rw [HT.out]; exact fold_none t (k + 1) (by rw [fold_succ t k hlt n HF.out]; exact step_over _ _ (.inl h1))))
        go_wp2
        go_ret2
        exact ⟨ret_pair (HX.out.symm.trans HR.out), rfl⟩
      · by_cases h2 : n = -922337203685477580
        · by_cases h3 : 56 < t[k].toNat
          · have HX := Lib.hid (parse_over _ HG.out (by rw [HT.out]; exact fold_none t (k + 1) (by rw [fold_succ t k hlt n HF.out]; exact step_over _ _ (.inr ⟨h2, h3⟩))))
            subst h2
            clear h1
            go_wp2
            go_ret2
            exact ⟨ret_pair (HX.out.symm.trans HR.out), rfl⟩
          · have HX := Lib.hid (by rw [Int.mul_comm, ← step_on n t[k] hc1 (by omega)]; exact fold_succ t k hlt n HF.out : foldP (t.take (k + 1)) = some (10 * n - ((t[k].toNat : Int) - 48)))
            subst h2
            clear h1
            have h4 : (t[k].toNat : Int) ≤ 56 := by omega
            clear h3
            go_wp2
            go_round
            case rel => exact ⟨k + 1, _, by omega, by go_num, rfl, by omega, by omega, HX.out⟩
            case measure => simp [intOf]; omega
        · have HX := Lib.hid (by rw [Int.mul_comm, ← step_on n t[k] hc1 (by omega)]; exact fold_succ t k hlt n HF.out : foldP (t.take (k + 1)) = some (10 * n - ((t[k].toNat : Int) - 48)))
          have h3 : -922337203685477579 ≤ n := by omega
          clear h1 h2
          go_wp2
          go_round
          case rel => exact ⟨k + 1, _, by omega, by go_num, rfl, by omega, by omega, HX.out⟩
          case measure => simp [intOf]; omega
    · have e : t.take k = t := List.take_of_length_le (by omega)
      have hF := HF.out
      rw [e] at hF
      have HB := Lib.hid hF
      clear HF hF e
      have HX := Lib.hid (parse_neg _ n HG.out (by rw [HT.out]; exact HB.out) HN.out)
      go_wp2
      go_ret2
      exact ⟨ret_pair (HX.out.symm.trans HR.out), rfl⟩

set_option maxHeartbeats 2000000 in
theorem refparse_pos (l t : List UInt8) (h0 : 0 < t.length) (ht : restL l = t) (hn : negL l = false) (hl : t = l) (hd : digL l = true) (hs : l.length ≤ 9223372036854775806) (v c : Int) (hres : parseL l = (v, c)) (w : World) :
    Calls Tryd.prog 137 #[.string (bs l)] w fun e w' => e = .returned (.tuple #[.int .i64 v, .int .i64 c]) ∧ w = w' := by
  have HR := Lib.hid hres
  have HD := Lib.hid (fun W => by simpa only [hd] using refdigits_any l (by omega) W)
  have HT := Lib.hid ht
  have HN := Lib.hid hn
  have HG := Lib.hid hd
  have hta : t.all isDig = true := by rw [← ht]; exact digL_all l hd
  have HTA := Lib.hid hta
  have htl : t.length ≤ 9223372036854775806 := by have := rest_len l; rw [ht] at this; omega
  clear hres hn hd hta
  clear ht
  subst hl
  have h45 : (((t[0]'h0).toNat : Int) == 45) = false := by
    have := (all_at t HTA.out 0 h0).1
    rw [beq_eq_false_iff_ne]; omega
  go_enter Tryd.func137, Tryd.ntmps137
  go_wp2_with (go_at_call 156; refine (HD.out _).mono ?_; rintro e w1 ⟨rfl, rfl⟩)
  clear HD h45
  go_loop [5, 6, 7] (fun i a _ => ∃ (k : Nat) (n : Int), k ≤ t.length ∧ i = .int .i64 k ∧ a = .int .i64 n ∧ -9223372036854775808 ≤ n ∧ n ≤ 0 ∧ foldP (t.take k) = some n) (fun i _ _ => t.length + 1 - (intOf i).toNat)
  case atStart => exact ⟨0, 0, Nat.zero_le _, rfl, rfl, by omega, by omega, rfl⟩
  case round =>
    obtain ⟨k, n, hk, rfl, rfl, hn0, hn1, hf⟩ := hrel
    have HF := Lib.hid hf
    clear hf
    by_cases hlt : k < t.length
    · have hc1 := (all_at t HTA.out k hlt).1
      have hc2 := (all_at t HTA.out k hlt).2
      by_cases h1 : n < -922337203685477580
      · have HX := Lib.hid (parse_over _ HG.out (by rw [HT.out]; exact fold_none t (k + 1) (by rw [fold_succ t k hlt n HF.out]; exact step_over _ _ (.inl h1))))
        go_wp2
        go_ret2
        exact ⟨ret_pair (HX.out.symm.trans HR.out), rfl⟩
      · by_cases h2 : n = -922337203685477580
        · by_cases h3 : 56 < t[k].toNat
          · have HX := Lib.hid (parse_over _ HG.out (by rw [HT.out]; exact fold_none t (k + 1) (by rw [fold_succ t k hlt n HF.out]; exact step_over _ _ (.inr ⟨h2, h3⟩))))
            subst h2
            clear h1
            go_wp2
            go_ret2
            exact ⟨ret_pair (HX.out.symm.trans HR.out), rfl⟩
          · have HX := Lib.hid (by rw [Int.mul_comm, ← step_on n t[k] hc1 (by omega)]; exact fold_succ t k hlt n HF.out : foldP (t.take (k + 1)) = some (10 * n - ((t[k].toNat : Int) - 48)))
            subst h2
            clear h1
            have h4 : (t[k].toNat : Int) ≤ 56 := by omega
            clear h3
            go_wp2
            go_round
            case rel => exact ⟨k + 1, _, by omega, by go_num, rfl, by omega, by omega, HX.out⟩
            case measure => simp [intOf]; omega
        · have HX := Lib.hid (by rw [Int.mul_comm, ← step_on n t[k] hc1 (by omega)]; exact fold_succ t k hlt n HF.out : foldP (t.take (k + 1)) = some (10 * n - ((t[k].toNat : Int) - 48)))
          have h3 : -922337203685477579 ≤ n := by omega
          clear h1 h2
          go_wp2
          go_round
          case rel => exact ⟨k + 1, _, by omega, by go_num, rfl, by omega, by omega, HX.out⟩
          case measure => simp [intOf]; omega
    · have e : t.take k = t := List.take_of_length_le (by omega)
      have hF := HF.out
      rw [e] at hF
      have HB := Lib.hid hF
      clear HF hF e
      by_cases hl : n = -9223372036854775808
      · have HX := Lib.hid (parse_least _ n HG.out (by rw [HT.out]; exact HB.out) HN.out hl)
        subst hl
        clear hn0 hn1
        go_wp2
        go_ret2
        exact ⟨ret_pair (HX.out.symm.trans HR.out), rfl⟩
      · have HX := Lib.hid (parse_pos _ n HG.out (by rw [HT.out]; exact HB.out) HN.out (by omega))
        have hn2 : -9223372036854775808 < n := by omega
        clear hl hn0
        go_wp2
        go_ret2
        exact ⟨ret_pair (HX.out.symm.trans HR.out), rfl⟩

set_option maxHeartbeats 1000000 in
theorem refparse_bad (l : List UInt8) (hd : digL l = false) (hs : l.length ≤ 9223372036854775806) (w : World) :
    Calls Tryd.prog 137 #[.string (bs l)] w fun e w' => e = .returned (.tuple #[.int .i64 0, .int .i64 5]) ∧ w = w' := by
  have HD := Lib.hid (fun W => by simpa only [hd] using refdigits_any l (by omega) W)
  clear hd hs
  go_enter Tryd.func137, Tryd.ntmps137
  go_wp2_with (go_at_call 156; refine (HD.out _).mono ?_; rintro e w1 ⟨rfl, rfl⟩)
  go_ret2
  exact ⟨rfl, rfl⟩
theorem rest_pos (l : List UInt8) (hd : digL l = true) : 0 < (restL l).length := by
  unfold digL digT at hd
  simp only [Bool.and_eq_true, Bool.not_eq_true', List.isEmpty_eq_false_iff] at hd
  exact List.length_pos_iff.2 hd.1.1
theorem refparse_any (l : List UInt8) (hs : l.length ≤ 9223372036854775806) (w : World) :
    Calls Tryd.prog 137 #[.string (bs l)] w fun e w' => e = .returned (.tuple #[.int .i64 (parseL l).1, .int .i64 (parseL l).2]) ∧ w = w' := by
  cases hd : digL l
  · rw [parse_no l hd]; exact refparse_bad l hd hs w
  · cases hn : negL l
    · have e : restL l = l := by simp [restL, hn]
      exact refparse_pos l l (by have := rest_pos l hd; rwa [e] at this) e hn rfl hd hs _ _ rfl w
    · have hl : l = 45 :: restL l := by
        unfold restL; rw [if_pos hn]
        cases l with
        | nil => simp [negL] at hn
        | cons x y => simp [negL] at hn; subst hn; rfl
      exact refparse_neg l (restL l) rfl hn hl hd hs _ _ rfl w
end Go.Proofs.YtphhgdgamnogpaaDoor
