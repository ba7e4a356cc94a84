/-
  The laws of layer 3 (digit) walked: each returns true, whatever it is given. Texts of at most 2^63 - 2 bytes (every readable text is shorter).
-/
import Derived.Test.YtbeblcmlljnmiaaDigR
namespace Go.Proofs.Ytbeblcmlljnmiaa
open Go.RowKit

theorem const1 : parseL [45, 48] = (0, 5) := by decide
theorem const2 : parseL [57, 50, 50, 51, 51, 55, 50, 48, 51, 54, 56, 53, 52, 55, 55, 53, 56, 48, 56] = (0, 8) := by decide
theorem const3 : parseL [45, 55, 48] = (-70, 0) := by decide
theorem const4 : printL (-9223372036854775808) = [45, 57, 50, 50, 51, 51, 55, 50, 48, 51, 54, 56, 53, 52, 55, 55, 53, 56, 48, 56] := by
  have h := dec_val [57, 50, 50, 51, 51, 55, 50, 48, 51, 54, 56, 53, 52, 55, 55, 53, 56, 48, 56] (by decide) (by decide) (by decide)
  have e : valL [57, 50, 50, 51, 51, 55, 50, 48, 51, 54, 56, 53, 52, 55, 55, 53, 56, 48, 56] = 9223372036854775808 := by decide
  rw [e] at h
  unfold printL
  rw [if_pos (by decide)]
  exact congrArg (List.cons 45) h
theorem parse_at (l : List UInt8) (v c : Int) (hs : l.length ≤ 9223372036854775806) (h : parseL l = (v, c)) (w : World) :
    Calls Try.prog 29 #[.string (bs l)] w fun e w' => e = .returned (.tuple #[.int .i64 v, .int .i64 c]) ∧ w = w' := by
  have := parse_any l hs w
  rwa [h] at this
theorem print_least (w : World) :
    Calls Try.prog 26 #[.int .i64 (-9223372036854775808)] w fun e w' => e = .returned (.string (bs [45, 57, 50, 50, 51, 51, 55, 50, 48, 51, 54, 56, 53, 52, 55, 55, 53, 56, 48, 56])) ∧ Below w.heap.size w w' := by
  have := print_any (-9223372036854775808) (by decide) (by decide) w
  rwa [const4] at this

set_option maxHeartbeats 1000000 in
theorem works3 (w : World) :
    Calls Try.prog 28 #[] w fun e w' => e = .returned (.bool true) ∧ Below w.heap.size w w' := by
  go_enter Try.func28, Try.ntmps28
  go_wp2_with fail
  refine (parse_at [45, 48] _ _ (by decide) const1 _).mono ?_
  rintro e w1 ⟨rfl, rfl⟩
  go_wp2_with fail
  refine (parse_at [57, 50, 50, 51, 51, 55, 50, 48, 51, 54, 56, 53, 52, 55, 55, 53, 56, 48, 56] _ _ (by decide) const2 _).mono ?_
  rintro e w1 ⟨rfl, rfl⟩
  go_wp2_with fail
  refine (parse_at [45, 55, 48] _ _ (by decide) const3 _).mono ?_
  rintro e w1 ⟨rfl, rfl⟩
  go_wp2_with fail
  refine (print_least _).mono ?_
  rintro e w1 ⟨rfl, hb1⟩
  go_wp2
  go_ret
  exact ⟨rfl, hb1⟩

set_option maxHeartbeats 1000000 in
theorem digitprints_any (n : Int) (h0 : -9223372036854775808 ≤ n) (h1 : n ≤ 9223372036854775807) (w : World) :
    Calls Try.prog 7 #[.int .i64 n] w fun e w' => e = .returned (.bool true) ∧ Below w.heap.size w w' := by
  go_enter Try.func7, Try.ntmps7
  go_wp2_with fail
  refine (print_any n h0 h1 _).mono ?_
  rintro e w1 ⟨rfl, hb1⟩
  go_wp2_with fail
  refine (refprint_any n h0 h1 _).mono ?_
  rintro e w2 ⟨rfl, hb2⟩
  go_wp2_with fail
  refine (works3 _).mono ?_
  rintro e w3 ⟨rfl, hb3⟩
  go_wp2
  go_ret
  exact ⟨rfl, by (repeat' (first | (with_reducible exact Below.refl _ _) | (with_reducible assumption) | (refine below_next ?_ (by with_reducible assumption)) | (with_reducible refine Below.alloc ?_ ?_ _) | (with_reducible refine Below.drew ?_) | (with_reducible refine below_drewN ?_ _) | omega | (simp only [World.size_alloc, World.size_setCell, World.size_drew]; omega)))⟩

set_option maxHeartbeats 1000000 in
theorem digitparses_any (l : List UInt8) (hs : l.length ≤ 9223372036854775806) (w : World) :
    Calls Try.prog 8 #[.string (bs l)] w fun e w' => e = .returned (.bool true) ∧ Below w.heap.size w w' := by
  go_enter Try.func8, Try.ntmps8
  go_wp2_with fail
  refine (parse_any l hs _).mono ?_
  rintro e w1 ⟨rfl, rfl⟩
  go_wp2_with fail
  refine (refparse_any l hs _).mono ?_
  rintro e w1 ⟨rfl, rfl⟩
  go_wp2_with fail
  refine (digits_any l (by omega) _).mono ?_
  rintro e w1 ⟨rfl, rfl⟩
  go_wp2_with fail
  refine (refdigits_any l hs _).mono ?_
  rintro e w1 ⟨rfl, rfl⟩
  go_wp2_with fail
  refine (works3 _).mono ?_
  rintro e w3 ⟨rfl, hb3⟩
  go_wp2
  go_ret
  exact ⟨rfl, hb3⟩

theorem parse_range (l : List UInt8) (k c : Int) (h : parseL l = (k, c)) : -9223372036854775808 ≤ k ∧ k ≤ 9223372036854775807 := by
  cases hd : digL l
  · rw [parse_no l hd] at h; injection h with h1 _; omega
  · have ha := foldP_spec _ (digL_all l hd)
    by_cases hv : valL (restL l) ≤ 9223372036854775808
    · rw [if_pos hv] at ha
      cases hn : negL l
      · by_cases hl : (-(valL (restL l) : Int)) = -9223372036854775808
        · rw [parse_least l _ hd ha hn hl] at h; injection h with h1 _; omega
        · rw [parse_pos l _ hd ha hn (by omega)] at h; injection h with h1 _; omega
      · rw [parse_neg l _ hd ha hn] at h; injection h with h1 _; omega
    · rw [if_neg hv] at ha
      rw [parse_over l hd ha] at h; injection h with h1 _; omega

set_option maxHeartbeats 1000000 in
theorem digitback_any (n : Int) (h0 : -9223372036854775808 ≤ n) (h1 : n ≤ 9223372036854775807) (l : List UInt8) (hs : l.length ≤ 9223372036854775806) (w : World) :
    Calls Try.prog 9 #[.int .i64 n, .string (bs l)] w fun e w' => e = .returned (.bool true) ∧ Below w.heap.size w w' := by
  have HP := Lib.hid (parse_at (printL n) n 0 (by have := print_len n h0 h1; omega) (parse_print n h0 h1))
  obtain ⟨k, c, hk⟩ : ∃ k c, parseL l = (k, c) := ⟨_, _, rfl⟩
  have HK := Lib.hid (parse_at l k c hs hk)
  have hr := parse_range l k c hk
  by_cases hc : c = 0
  · subst hc
    have HE := Lib.hid (print_any k hr.1 hr.2)
    rw [print_parse l k hk] at HE
    clear hk hr
    go_enter Try.func9, Try.ntmps9
    go_wp2_with fail
    refine (works3 _).mono ?_
    rintro e w1 ⟨rfl, hb1⟩
    go_wp2_with fail
    refine (print_any n h0 h1 _).mono ?_
    rintro e w2 ⟨rfl, hb2⟩
    go_wp2_with fail
    refine (HP.out _).mono ?_
    rintro e w3 ⟨rfl, rfl⟩
    go_wp2_with fail
    refine (HK.out _).mono ?_
    rintro e w4 ⟨rfl, rfl⟩
    go_wp2_with fail
    refine (HE.out _).mono ?_
    rintro e w5 ⟨rfl, hb5⟩
    go_wp2_with fail
    go_ret
    exact ⟨rfl, by (repeat' (first | (with_reducible exact Below.refl _ _) | (with_reducible assumption) | (refine below_next ?_ (by with_reducible assumption)) | (with_reducible refine Below.alloc ?_ ?_ _) | (with_reducible refine Below.drew ?_) | (with_reducible refine below_drewN ?_ _) | omega | (simp only [World.size_alloc, World.size_setCell, World.size_drew]; omega)))⟩
  · have hc' : (c != 0) = true := by simpa using hc
    clear hk hr hc
    go_enter Try.func9, Try.ntmps9
    go_wp2_with fail
    refine (works3 _).mono ?_
    rintro e w1 ⟨rfl, hb1⟩
    go_wp2_with fail
    refine (print_any n h0 h1 _).mono ?_
    rintro e w2 ⟨rfl, hb2⟩
    go_wp2_with fail
    refine (HP.out _).mono ?_
    rintro e w3 ⟨rfl, rfl⟩
    go_wp2_with fail
    refine (HK.out _).mono ?_
    rintro e w4 ⟨rfl, rfl⟩
    go_wp2_with fail
    go_ret
    exact ⟨rfl, by (repeat' (first | (with_reducible exact Below.refl _ _) | (with_reducible assumption) | (refine below_next ?_ (by with_reducible assumption)) | (with_reducible refine Below.alloc ?_ ?_ _) | (with_reducible refine Below.drew ?_) | (with_reducible refine below_drewN ?_ _) | omega | (simp only [World.size_alloc, World.size_setCell, World.size_drew]; omega)))⟩
end Go.Proofs.Ytbeblcmlljnmiaa
