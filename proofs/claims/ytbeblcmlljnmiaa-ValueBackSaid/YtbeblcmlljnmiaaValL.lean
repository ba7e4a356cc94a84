/-
  The laws of layer 5 (value) walked, but for ValueSorts: each returns true, whatever it is given. Texts of at most 2^63 - 2 bytes.
-/
import Derived.Test.YtbeblcmlljnmiaaValW
namespace Go.Proofs.Ytbeblcmlljnmiaa
open Go.RowKit
attribute [local go_sem] Later.cell Later.frozen

set_option maxHeartbeats 2000000 in
theorem valueprints_any (k n : Int) (h0 : -9223372036854775808 ≤ n) (h1 : n ≤ 9223372036854775807) (w : World) :
    Calls Try.prog 10 #[.agg #[.int .i64 k, .int .i64 n]] w fun e w' => e = .returned (.bool true) ∧ Below w.heap.size w w' := by
  have HP := Lib.hid (vprint_any k n h0 h1)
  have HR := Lib.hid (refvprint_any k n h0 h1)
  clear h0 h1
  go_enter Try.func10, Try.ntmps10
  go_wp2_with (fail)
  refine (HP.out _).mono ?_
  rintro e w1 ⟨rfl, hb1⟩
  obtain ⟨hc1, hf1⟩ := bcell hb1
  have hz1 := hb1.size
  try simp at hz1
  have hl1_0 : w.heap.size < w1.heap.size := by omega
  go_wp2_with (fail)
  refine (HR.out _).mono ?_
  rintro e w2 ⟨rfl, hb2⟩
  obtain ⟨hc2, hf2⟩ := bcell hb2
  have hz2 := hb2.size
  try simp at hz2
  have hl2_0 : w.heap.size < w2.heap.size := by omega
  go_wp2_with (fail)
  refine wp_region_later (by kernel_rfl) (by kernel_rfl) ?_
  repeat (quiet_step (first | (go_at_call 35; exact Later.call (may_any _ _ _)) | (go_at_call 36; exact Later.call (refmay_any _ _ _)) | (go_at_call 37; exact Later.call (works5 _))))
  refine wpQuiet_nil ?_
  intro _ hw'
  obtain ⟨⟨w9, hb9⟩, hw''⟩ := hw'
  subst hw''
  obtain ⟨hc9, hf9⟩ := bcell hb9
  have hz9 := hb9.size
  try simp at hz9
  try dsimp only at hb9 hc9 hf9 hz9
  go_wp2
  go_ret
  exact ⟨rfl, by (repeat' (first | (with_reducible exact Below.refl _ _) | (with_reducible assumption) | (refine below_next ?_ (by with_reducible assumption)) | (with_reducible refine Below.alloc ?_ ?_ _) | (with_reducible refine Below.drew ?_) | (with_reducible refine below_drewN ?_ _) | omega | (simp; done) | (simp; omega)))⟩

set_option maxHeartbeats 2000000 in
theorem valueparses_any (l : List UInt8) (hs : l.length ≤ 9223372036854775806) (w : World) :
    Calls Try.prog 11 #[.string (bs l)] w fun e w' => e = .returned (.bool true) ∧ Below w.heap.size w w' := by
  obtain ⟨a, b, c, h⟩ : ∃ a b c, vParse l = (a, b, c) := ⟨_, _, _, rfl⟩
  have HP := Lib.hid (vparse_of l a b c hs h)
  have HR := Lib.hid (refvparse_of l a b c hs h)
  clear h hs
  go_enter Try.func11, Try.ntmps11
  go_wp2_with (fail)
  refine (HP.out _).mono ?_
  rintro e w1 ⟨rfl, hb1⟩
  obtain ⟨hc1, hf1⟩ := bcell hb1
  have hz1 := hb1.size
  try simp at hz1
  go_wp2_with (fail)
  refine (HR.out _).mono ?_
  rintro e w2 ⟨rfl, hb2⟩
  obtain ⟨hc2, hf2⟩ := bcell hb2
  have hz2 := hb2.size
  try simp at hz2
  have hl2_0 : w1.heap.size < w2.heap.size := by omega
  have hl2_0_1 : w1.heap.size < w2.heap.size + 1 := by omega
  go_wp2_with (fail)
  refine (works5 _).mono ?_
  rintro e w3 ⟨rfl, hb3⟩
  obtain ⟨hc3, hf3⟩ := bcell hb3
  have hz3 := hb3.size
  try simp at hz3
  go_wp2
  go_ret
  exact ⟨rfl, by (repeat' (first | (with_reducible exact Below.refl _ _) | (with_reducible assumption) | (refine below_next ?_ (by with_reducible assumption)) | (with_reducible refine Below.alloc ?_ ?_ _) | (with_reducible refine Below.drew ?_) | (with_reducible refine below_drewN ?_ _) | omega | (simp; done) | (simp; omega)))⟩

/-! ### Parse undoes Print; unlike values have unlike texts. -/
theorem val_back (k n : Int) (h0 : -9223372036854775808 ≤ n) (h1 : n ≤ 9223372036854775807) (hm : mayV k n = true) : vParse (vTxt k n) = (k, n, 0) := by
  rcases may_cases k n with ⟨rfl, h⟩ | ⟨rfl, rfl, h⟩ | ⟨rfl, rfl, h⟩ | h'
  · have e1 : vTxt 1 n = printL n := by simp [vTxt, h]
    have hp := parse_print n h0 h1
    have hd := digL_print n
    have n1 : printL n ≠ [110, 105, 108] := fun e => by rw [e] at hd; exact absurd hd (by decide)
    have n2 : printL n ≠ [63] := fun e => by rw [e] at hd; exact absurd hd (by decide)
    rw [e1]; simp [vParse, n1, n2, hp]
  · rw [show vTxt 0 0 = [110, 105, 108] by simp [vTxt, h]]; simp [vParse]
  · rw [show vTxt 2 0 = [63] by simp [vTxt, h]]; simp [vParse]
  · have h : mayV k n = false := by
      rcases h' with ⟨-, -, -, h⟩ | ⟨-, -, -, h⟩ | ⟨-, -, -, -, h⟩ <;> exact h
    rw [h] at hm; exact absurd hm (by decide)
theorem val_inj (k n k' n' : Int) (h0 : -9223372036854775808 ≤ n) (h1 : n ≤ 9223372036854775807) (h0' : -9223372036854775808 ≤ n') (h1' : n' ≤ 9223372036854775807)
    (hm : mayV k n = true) (hm' : mayV k' n' = true) (h : vTxt k n = vTxt k' n') : k = k' ∧ n = n' := by
  have a := val_back k n h0 h1 hm
  have b := val_back k' n' h0' h1' hm'
  rw [h, b] at a
  simp only [Prod.mk.injEq] at a
  exact ⟨a.1.symm, a.2.1.symm⟩
theorem txt_len (k n : Int) (h0 : -9223372036854775808 ≤ n) (h1 : n ≤ 9223372036854775807) : (vTxt k n).length ≤ 20 := by
  unfold vTxt
  split
  · split
    · exact print_len n h0 h1
    · split <;> simp
  · simp

set_option maxHeartbeats 4000000 in
theorem valueback_any (k n k' n' : Int) (h0 : -9223372036854775808 ≤ n) (h1 : n ≤ 9223372036854775807) (h0' : -9223372036854775808 ≤ n') (h1' : n' ≤ 9223372036854775807) (w : World) :
    Calls Try.prog 12 #[.agg #[.int .i64 k, .int .i64 n], .agg #[.int .i64 k', .int .i64 n']] w fun e w' => e = .returned (.bool true) ∧ Below w.heap.size w w' := by
  have HP := Lib.hid (vprint_any k n h0 h1)
  have HP' := Lib.hid (vprint_any k' n' h0' h1')
  have HM := Lib.hid (may_any k n)
  have HM' := Lib.hid (may_any k' n')
  by_cases hm : mayV k n = true
  · rw [hm] at HM
    rw [show vErr k n = 0 by simp [vErr, hm]] at HP
    by_cases hm' : mayV k' n' = true
    · rw [show vErr k' n' = 0 by simp [vErr, hm']] at HP'
      have HB := Lib.hid (vparse_of (vTxt k n) _ _ _ (by have := txt_len k n h0 h1; omega) (val_back k n h0 h1 hm))
      have hi := val_inj k n k' n' h0 h1 h0' h1' hm hm'
      clear HM HM' hm hm' h0 h1 h0' h1'
      by_cases he : k = k' ∧ n = n'
      · obtain ⟨rfl, rfl⟩ := he
        clear hi
        go_enter Try.func12, Try.ntmps12
        go_wp2_with (fail)
        refine (works5 _).mono ?_
        rintro e w1 ⟨rfl, hb1⟩
        obtain ⟨hc1, hf1⟩ := bcell hb1
        have hz1 := hb1.size
        try simp at hz1
        have hl1_0 : w.heap.size < w1.heap.size := by omega
        have hl1_1 : w.heap.size+1 < w1.heap.size := by omega
        go_wp2_with (fail)
        refine (HP.out _).mono ?_
        rintro e w2 ⟨rfl, hb2⟩
        obtain ⟨hc2, hf2⟩ := bcell hb2
        have hz2 := hb2.size
        try simp at hz2
        have hl2_0 : w.heap.size < w2.heap.size := by omega
        have hl2_1 : w.heap.size+1 < w2.heap.size := by omega
        go_wp2_with (fail)
        refine (HP'.out _).mono ?_
        rintro e w3 ⟨rfl, hb3⟩
        obtain ⟨hc3, hf3⟩ := bcell hb3
        have hz3 := hb3.size
        try simp at hz3
        have hl3_0 : w.heap.size < w3.heap.size := by omega
        have hl3_1 : w.heap.size+1 < w3.heap.size := by omega
        go_wp2_with (fail)
        refine (HB.out _).mono ?_
        rintro e w4 ⟨rfl, hb4⟩
        obtain ⟨hc4, hf4⟩ := bcell hb4
        have hz4 := hb4.size
        try simp at hz4
        have hl4_0 : w.heap.size < w4.heap.size := by omega
        have hl4_0_1 : w.heap.size < w4.heap.size + 1 := by omega
        have hl4_1 : w.heap.size+1 < w4.heap.size := by omega
        have hl4_1_1 : w.heap.size+1 < w4.heap.size + 1 := by omega
        go_wp2
        go_ret
        exact ⟨rfl, by (repeat' (first | (with_reducible exact Below.refl _ _) | (with_reducible assumption) | (refine below_next ?_ (by with_reducible assumption)) | (with_reducible refine Below.alloc ?_ ?_ _) | (with_reducible refine Below.drew ?_) | (with_reducible refine below_drewN ?_ _) | omega | (simp; done) | (simp; omega)))⟩
      · have ht : (vTxt k n == vTxt k' n') = false := by
          rw [beq_eq_false_iff_ne]; exact fun h => he (hi h)
        have hor : (k == k') = false ∨ (k = k' ∧ (n == n') = false) := by
          by_cases hk : k = k'
          · exact .inr ⟨hk, by simpa using fun h => he ⟨hk, h⟩⟩
          · exact .inl (by simpa using hk)
        clear hi he
        rcases hor with hk | ⟨rfl, hk⟩
        all_goals
          go_enter Try.func12, Try.ntmps12
          go_wp2_with (fail)
          refine (works5 _).mono ?_
          rintro e w1 ⟨rfl, hb1⟩
          obtain ⟨hc1, hf1⟩ := bcell hb1
          have hz1 := hb1.size
          try simp at hz1
          have hl1_0 : w.heap.size < w1.heap.size := by omega
          have hl1_1 : w.heap.size+1 < w1.heap.size := by omega
          go_wp2_with (fail)
          refine (HP.out _).mono ?_
          rintro e w2 ⟨rfl, hb2⟩
          obtain ⟨hc2, hf2⟩ := bcell hb2
          have hz2 := hb2.size
          try simp at hz2
          have hl2_0 : w.heap.size < w2.heap.size := by omega
          have hl2_1 : w.heap.size+1 < w2.heap.size := by omega
          go_wp2_with (fail)
          refine (HP'.out _).mono ?_
          rintro e w3 ⟨rfl, hb3⟩
          obtain ⟨hc3, hf3⟩ := bcell hb3
          have hz3 := hb3.size
          try simp at hz3
          have hl3_0 : w.heap.size < w3.heap.size := by omega
          have hl3_1 : w.heap.size+1 < w3.heap.size := by omega
          go_wp2_with (fail)
          refine (HB.out _).mono ?_
          rintro e w4 ⟨rfl, hb4⟩
          obtain ⟨hc4, hf4⟩ := bcell hb4
          have hz4 := hb4.size
          try simp at hz4
          have hl4_0 : w.heap.size < w4.heap.size := by omega
          have hl4_0_1 : w.heap.size < w4.heap.size + 1 := by omega
          have hl4_1 : w.heap.size+1 < w4.heap.size := by omega
          have hl4_1_1 : w.heap.size+1 < w4.heap.size + 1 := by omega
          go_wp2
          go_ret
          exact ⟨rfl, by (repeat' (first | (with_reducible exact Below.refl _ _) | (with_reducible assumption) | (refine below_next ?_ (by with_reducible assumption)) | (with_reducible refine Below.alloc ?_ ?_ _) | (with_reducible refine Below.drew ?_) | (with_reducible refine below_drewN ?_ _) | omega | (simp; done) | (simp; omega)))⟩
    · have hf : mayV k' n' = false := by simpa using hm'
      rw [hf] at HM'
      rw [show vErr k' n' = 4 by simp [vErr, hf]] at HP'
      clear hm hm' hf h0 h1 h0' h1'
      go_enter Try.func12, Try.ntmps12
      go_wp2_with (fail)
      refine (works5 _).mono ?_
      rintro e w1 ⟨rfl, hb1⟩
      obtain ⟨hc1, hf1⟩ := bcell hb1
      have hz1 := hb1.size
      try simp at hz1
      have hl1_0 : w.heap.size < w1.heap.size := by omega
      have hl1_1 : w.heap.size+1 < w1.heap.size := by omega
      go_wp2_with (fail)
      refine (HP.out _).mono ?_
      rintro e w2 ⟨rfl, hb2⟩
      obtain ⟨hc2, hf2⟩ := bcell hb2
      have hz2 := hb2.size
      try simp at hz2
      have hl2_0 : w.heap.size < w2.heap.size := by omega
      have hl2_1 : w.heap.size+1 < w2.heap.size := by omega
      go_wp2_with (fail)
      refine (HP'.out _).mono ?_
      rintro e w3 ⟨rfl, hb3⟩
      obtain ⟨hc3, hf3⟩ := bcell hb3
      have hz3 := hb3.size
      try simp at hz3
      have hl3_0 : w.heap.size < w3.heap.size := by omega
      have hl3_1 : w.heap.size+1 < w3.heap.size := by omega
      go_wp2_with (fail)
      refine (HM.out _).mono ?_
      rintro e w4 ⟨rfl, hb4⟩
      obtain ⟨hc4, hf4⟩ := bcell hb4
      have hz4 := hb4.size
      try simp at hz4
      have hl4_0 : w.heap.size < w4.heap.size := by omega
      have hl4_1 : w.heap.size+1 < w4.heap.size := by omega
      go_wp2_with (fail)
      refine (HM'.out _).mono ?_
      rintro e w5 ⟨rfl, hb5⟩
      obtain ⟨hc5, hf5⟩ := bcell hb5
      have hz5 := hb5.size
      try simp at hz5
      have hl5_0 : w.heap.size < w5.heap.size := by omega
      have hl5_1 : w.heap.size+1 < w5.heap.size := by omega
      go_wp2
      go_ret
      exact ⟨rfl, by (repeat' (first | (with_reducible exact Below.refl _ _) | (with_reducible assumption) | (refine below_next ?_ (by with_reducible assumption)) | (with_reducible refine Below.alloc ?_ ?_ _) | (with_reducible refine Below.drew ?_) | (with_reducible refine below_drewN ?_ _) | omega | (simp; done) | (simp; omega)))⟩
  · have hf : mayV k n = false := by simpa using hm
    rw [hf] at HM
    rw [show vErr k n = 4 by simp [vErr, hf]] at HP
    clear hm hf h0 h1 h0' h1'
    go_enter Try.func12, Try.ntmps12
    go_wp2_with (fail)
    refine (works5 _).mono ?_
    rintro e w1 ⟨rfl, hb1⟩
    obtain ⟨hc1, hf1⟩ := bcell hb1
    have hz1 := hb1.size
    try simp at hz1
    have hl1_0 : w.heap.size < w1.heap.size := by omega
    have hl1_1 : w.heap.size+1 < w1.heap.size := by omega
    go_wp2_with (fail)
    refine (HP.out _).mono ?_
    rintro e w2 ⟨rfl, hb2⟩
    obtain ⟨hc2, hf2⟩ := bcell hb2
    have hz2 := hb2.size
    try simp at hz2
    have hl2_0 : w.heap.size < w2.heap.size := by omega
    have hl2_1 : w.heap.size+1 < w2.heap.size := by omega
    go_wp2_with (fail)
    refine (HP'.out _).mono ?_
    rintro e w3 ⟨rfl, hb3⟩
    obtain ⟨hc3, hf3⟩ := bcell hb3
    have hz3 := hb3.size
    try simp at hz3
    have hl3_0 : w.heap.size < w3.heap.size := by omega
    have hl3_1 : w.heap.size+1 < w3.heap.size := by omega
    go_wp2_with (fail)
    refine (HM.out _).mono ?_
    rintro e w4 ⟨rfl, hb4⟩
    obtain ⟨hc4, hf4⟩ := bcell hb4
    have hz4 := hb4.size
    try simp at hz4
    have hl4_0 : w.heap.size < w4.heap.size := by omega
    have hl4_1 : w.heap.size+1 < w4.heap.size := by omega
    go_wp2
    go_ret
    exact ⟨rfl, by (repeat' (first | (with_reducible exact Below.refl _ _) | (with_reducible assumption) | (refine below_next ?_ (by with_reducible assumption)) | (with_reducible refine Below.alloc ?_ ?_ _) | (with_reducible refine Below.drew ?_) | (with_reducible refine below_drewN ?_ _) | omega | (simp; done) | (simp; omega)))⟩
end Go.Proofs.Ytbeblcmlljnmiaa
