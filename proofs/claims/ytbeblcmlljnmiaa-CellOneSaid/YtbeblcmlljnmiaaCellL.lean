/-
  The laws of layer 4 (cell) walked: each returns true, whatever it is given. No conditions.
-/
import Derived.Test.YtbeblcmlljnmiaaCellW
namespace Go.Proofs.Ytbeblcmlljnmiaa
open Go.RowKit
attribute [local go_sem] as_nil as_nil_lost as_int64 as_int64_must as_int as_lost as_int64_no as_int_no as_lost_no
attribute [local go_sem] Later.cell Later.frozen
attribute [local go_sem ↓] Go.wp_at_zero Go.wp_at_succ

set_option maxHeartbeats 1000000 in
theorem works4 (w : World) :
    Calls Try.prog 17 #[] w fun e w' => e = .returned (.bool true) ∧ Below w.heap.size w w' := by
  go_enter Try.func17, Try.ntmps17
  go_wp2
  go_returns
  exact ⟨rfl, by go_grown⟩

set_option maxHeartbeats 1000000 in
theorem clean_int (n : Int) (w : World) :
    Calls Try.prog 16 #[.agg #[.int .i64 1, .int .i64 n]] w fun e w' => e = .returned (.agg #[.int .i64 1, .int .i64 n]) ∧ Below w.heap.size w w' := by
  go_enter Try.func16, Try.ntmps16
  go_wp2
  go_returns
  exact ⟨rfl, by go_grown⟩

theorem clean_lost (n : Int) (w : World) :
    Calls Try.prog 16 #[.agg #[.int .i64 2, .int .i64 n]] w fun e w' => e = .returned (.agg #[.int .i64 2, .int .i64 0]) ∧ Below w.heap.size w w' := by
  go_enter Try.func16, Try.ntmps16
  go_wp2
  go_returns
  exact ⟨rfl, by go_grown⟩
theorem clean_nil (k n : Int) (w : World) (h1 : (k == 1) = false) (h2 : (k == 2) = false) :
    Calls Try.prog 16 #[.agg #[.int .i64 k, .int .i64 n]] w fun e w' => e = .returned (.agg #[.int .i64 0, .int .i64 0]) ∧ Below w.heap.size w w' := by
  go_enter Try.func16, Try.ntmps16
  go_wp2
  go_returns
  exact ⟨rfl, by go_grown⟩


/-- CellOf at a value of any kind: its cell comes back as the document's clean value. -/
theorem cellof_of (k n a b : Int) (h : Value) (w : World) (hof : ∀ W, Calls Try.prog 15 #[.agg #[.int .i64 k, .int .i64 n]] W fun e w' => e = .returned (.agg #[h]) ∧ Below W.heap.size W w')
    (hback : ∀ W, Calls Try.prog 14 #[.agg #[h]] W fun e w' => e = .returned (.tuple #[.agg #[.int .i64 a, .int .i64 b], .int .i64 0]) ∧ Below W.heap.size W w')
    (hclean : ∀ W, Calls Try.prog 16 #[.agg #[.int .i64 k, .int .i64 n]] W fun e w' => e = .returned (.agg #[.int .i64 a, .int .i64 b]) ∧ Below W.heap.size W w') :
    Calls Try.prog 3 #[.agg #[.int .i64 k, .int .i64 n]] w fun e w' => e = .returned (.bool true) ∧ Below w.heap.size w w' := by
  have HO := Lib.hid hof; clear hof
  have HB := Lib.hid hback; clear hback
  have HC := Lib.hid hclean; clear hclean
  go_enter Try.func3, Try.ntmps3
  go_wp2_with (fail)
  refine (HO.out _).mono ?_
  rintro e w1 ⟨rfl, hb1⟩
  have c1 : w1.cell? ⟨w.heap.size, 0, none⟩ = some (.int .i64 k) := cell_later hb1 (by go_simp)
  have c2 : w1.cell? ⟨w.heap.size, 1, none⟩ = some (.int .i64 n) := cell_later hb1 (by go_simp)
  have b1 : Below w.heap.size w w1 := below_next (by go_grown) hb1
  clear hb1
  go_wp2_with (fail)
  refine (HB.out _).mono ?_
  rintro e w2 ⟨rfl, hb2⟩
  have d1 := cell_past (.cells #[.int .i64 a, .int .i64 b] 23) (cell_later hb2 c1)
  have d2 := cell_past (.cells #[.int .i64 a, .int .i64 b] 23) (cell_later hb2 c2)
  have b2 := (below_next b1 hb2)
  have b3 := b2.alloc b2.size (.cells #[.int .i64 a, .int .i64 b] 23)
  clear c1 c2 hb2 b1 b2
  go_wp2_with (fail)
  go_region_held3 (fun w' => w'.cell? ⟨w.heap.size, 0, none⟩ = some (.int .i64 k) ∧ w'.cell? ⟨w.heap.size, 1, none⟩ = some (.int .i64 n) ∧ w'.cell? ⟨w2.heap.size, 0, none⟩ = some (.int .i64 a) ∧ w'.cell? ⟨w2.heap.size, 1, none⟩ = some (.int .i64 b) ∧ Below w.heap.size w w')
    ((first | (go_split_ands; (repeat' (refine And.intro ?_ ?_)) <;> (first | (with_reducible assumption) | exact cell_later (by assumption) (by assumption) | exact cell_past _ (by assumption) | exact cell_drew (by assumption) | (refine below_next ?_ (by assumption); assumption) | (refine Below.drew ?_; assumption))) | ((repeat' (refine And.intro ?_ ?_)) <;> (first | (go_simp; done) | (go_grown; done)))))
    (first
      | (go_at_call 16; refine (HC.out _).mono ?_; rintro e w3 ⟨rfl, hb3⟩)
      | (go_at_call 17; refine (works4 _).mono ?_; rintro e w4 ⟨rfl, hb4⟩))
  go_wp2
  go_ret
  exact ⟨rfl, by go_split_ands; assumption⟩

theorem cellof_any (k n : Int) (w : World) :
    Calls Try.prog 3 #[.agg #[.int .i64 k, .int .i64 n]] w fun e w' => e = .returned (.bool true) ∧ Below w.heap.size w w' := by
  by_cases h1 : k = 1
  · subst h1; exact cellof_of _ _ _ _ _ w (of_int n) (back_int n) (clean_int n)
  by_cases h2 : k = 2
  · subst h2; exact cellof_of _ _ _ _ _ w (of_lost n) back_lost (clean_lost n)
  · exact cellof_of _ _ _ _ _ w (fun W => of_nil k n W (by simpa using h1) (by simpa using h2)) back_nil (fun W => clean_nil k n W (by simpa using h1) (by simpa using h2))

set_option maxHeartbeats 1000000 in
theorem celltells_any (t n : Int) (hn : IntKind.i64.wrap n = n) (w : World) :
    Calls Try.prog 4 #[.agg #[.int .i64 t, .int .i64 n]] w fun e w' => e = .returned (.bool true) ∧ Below w.heap.size w w' := by
  have HN := Lib.hid hn; clear hn
  by_cases ht : t = 1
  · subst ht
    go_enter Try.func4, Try.ntmps4
    go_wp2_with (fail)
    refine (made_any _ _ HN.out _).mono ?_
    rintro e w1 ⟨rfl, hb1⟩
    obtain ⟨hc1, hf1⟩ := bcell hb1
    have hz1 := hb1.size
    try simp at hz1
    have hl1_0 : w.heap.size < w1.heap.size := by omega
    go_wp2_with (fail)
    refine (back_held _ _ _).mono ?_
    rintro e w2 ⟨rfl, hb2⟩
    obtain ⟨hc2, hf2⟩ := bcell hb2
    have hz2 := hb2.size
    try simp at hz2
    have hl2_0 : w.heap.size < w2.heap.size := by omega
    go_wp2_with (fail)
    refine (refback_any _ _ _).mono ?_
    rintro e w3 ⟨rfl, hb3⟩
    obtain ⟨hc3, hf3⟩ := bcell hb3
    have hz3 := hb3.size
    try simp at hz3
    have hl3_0 : w.heap.size < w3.heap.size := by omega
    have hl3_1 : w2.heap.size < w3.heap.size := by omega
    go_wp2_with (fail)
    refine (made_any _ _ HN.out _).mono ?_
    rintro e w4 ⟨rfl, hb4⟩
    obtain ⟨hc4, hf4⟩ := bcell hb4
    have hz4 := hb4.size
    try simp at hz4
    have hl4_0 : w.heap.size < w4.heap.size := by omega
    have hl4_1 : w2.heap.size < w4.heap.size := by omega
    have hl4_2 : w3.heap.size < w4.heap.size := by omega
    go_wp2_with (fail)
    refine (int_held _ _ HN.out _).mono ?_
    rintro e w5 ⟨rfl, hb5⟩
    obtain ⟨hc5, hf5⟩ := bcell hb5
    have hz5 := hb5.size
    try simp at hz5
    have hl5_0 : w.heap.size < w5.heap.size := by omega
    have hl5_1 : w2.heap.size < w5.heap.size := by omega
    have hl5_2 : w3.heap.size < w5.heap.size := by omega
    go_wp2_with (fail)
    refine (refint_any _ _ _).mono ?_
    rintro e w6 ⟨rfl, hb6⟩
    obtain ⟨hc6, hf6⟩ := bcell hb6
    have hz6 := hb6.size
    try simp at hz6
    have hl6_0 : w.heap.size < w6.heap.size := by omega
    have hl6_1 : w2.heap.size < w6.heap.size := by omega
    have hl6_2 : w3.heap.size < w6.heap.size := by omega
    go_wp2_with (fail)
    have q1 : w6.cell? ⟨w.heap.size, 0, none⟩ = some (.int .i64 1) := by go_simp
    have q2 : w6.cell? ⟨w.heap.size, 1, none⟩ = some (.int .i64 n) := by go_simp
    have q3 : Below w.heap.size w w6 := by (repeat' (first | (with_reducible exact Below.refl _ _) | (with_reducible assumption) | (refine below_next ?_ (by with_reducible assumption)) | (with_reducible refine Below.alloc ?_ ?_ _) | (with_reducible refine Below.drew ?_) | (with_reducible refine below_drewN ?_ _) | omega | (simp; done) | (simp; omega)))
    have q4 : heldOf 1 n = .iface 2 (.int .i64 n) := by simp [heldOf]
    clear hb1 hb2 hb3 hb4 hb5 hb6 hc1 hc2 hc3 hc4 hc5 hc6 hf1 hf2 hf3 hf4 hf5 hf6
    go_region_held3 (fun w' => w'.cell? ⟨w.heap.size, 0, none⟩ = some (.int .i64 1) ∧ w'.cell? ⟨w.heap.size, 1, none⟩ = some (.int .i64 n) ∧ Below w.heap.size w w')
      ((first | (go_split_ands; (repeat' (refine And.intro ?_ ?_)) <;> (first | (with_reducible assumption) | exact cell_later (by assumption) (by assumption) | exact cell_past _ (by assumption) | exact cell_drew (by assumption) | (refine below_next ?_ (by assumption); assumption) | (refine Below.drew ?_; assumption))) | ((repeat' (refine And.intro ?_ ?_)) <;> (first | (go_simp; done) | (go_grown; done)))))
      (first
        | (go_at_call 18; refine (made_any _ _ HN.out _).mono ?_; rintro e w7 ⟨rfl, hb7⟩)
        | (go_at_call 22; go_simp; refine (must_int _ _).mono ?_; rintro e w8 ⟨rfl, hb8⟩)
        | (go_at_call 17; refine (works4 _).mono ?_; rintro e w9 ⟨rfl, hb9⟩))
    go_wp2
    go_ret
    exact ⟨rfl, by go_split_ands; assumption⟩
  · have ht' : (t != 1) = true := by simpa using ht
    go_enter Try.func4, Try.ntmps4
    go_wp2_with (fail)
    refine (made_any _ _ HN.out _).mono ?_
    rintro e w1 ⟨rfl, hb1⟩
    obtain ⟨hc1, hf1⟩ := bcell hb1
    have hz1 := hb1.size
    try simp at hz1
    have hl1_0 : w.heap.size < w1.heap.size := by omega
    go_wp2_with (fail)
    refine (back_held _ _ _).mono ?_
    rintro e w2 ⟨rfl, hb2⟩
    obtain ⟨hc2, hf2⟩ := bcell hb2
    have hz2 := hb2.size
    try simp at hz2
    have hl2_0 : w.heap.size < w2.heap.size := by omega
    go_wp2_with (fail)
    refine (refback_any _ _ _).mono ?_
    rintro e w3 ⟨rfl, hb3⟩
    obtain ⟨hc3, hf3⟩ := bcell hb3
    have hz3 := hb3.size
    try simp at hz3
    have hl3_0 : w.heap.size < w3.heap.size := by omega
    have hl3_1 : w2.heap.size < w3.heap.size := by omega
    go_wp2_with (fail)
    refine (made_any _ _ HN.out _).mono ?_
    rintro e w4 ⟨rfl, hb4⟩
    obtain ⟨hc4, hf4⟩ := bcell hb4
    have hz4 := hb4.size
    try simp at hz4
    have hl4_0 : w.heap.size < w4.heap.size := by omega
    have hl4_1 : w2.heap.size < w4.heap.size := by omega
    have hl4_2 : w3.heap.size < w4.heap.size := by omega
    go_wp2_with (fail)
    refine (int_held _ _ HN.out _).mono ?_
    rintro e w5 ⟨rfl, hb5⟩
    obtain ⟨hc5, hf5⟩ := bcell hb5
    have hz5 := hb5.size
    try simp at hz5
    have hl5_0 : w.heap.size < w5.heap.size := by omega
    have hl5_1 : w2.heap.size < w5.heap.size := by omega
    have hl5_2 : w3.heap.size < w5.heap.size := by omega
    go_wp2_with (fail)
    refine (refint_any _ _ _).mono ?_
    rintro e w6 ⟨rfl, hb6⟩
    obtain ⟨hc6, hf6⟩ := bcell hb6
    have hz6 := hb6.size
    try simp at hz6
    have hl6_0 : w.heap.size < w6.heap.size := by omega
    have hl6_1 : w2.heap.size < w6.heap.size := by omega
    have hl6_2 : w3.heap.size < w6.heap.size := by omega
    go_wp2_with (fail)
    have q1 : w6.cell? ⟨w.heap.size, 0, none⟩ = some (.int .i64 t) := by go_simp
    have q3 : Below w.heap.size w w6 := by (repeat' (first | (with_reducible exact Below.refl _ _) | (with_reducible assumption) | (refine below_next ?_ (by with_reducible assumption)) | (with_reducible refine Below.alloc ?_ ?_ _) | (with_reducible refine Below.drew ?_) | (with_reducible refine below_drewN ?_ _) | omega | (simp; done) | (simp; omega)))
    clear hb1 hb2 hb3 hb4 hb5 hb6 hc1 hc2 hc3 hc4 hc5 hc6 hf1 hf2 hf3 hf4 hf5 hf6
    refine wp_region_later (by kernel_rfl) (by kernel_rfl) ?_
    repeat (quiet_step (first | (go_at_call 17; exact Later.call (works4 _))))
    refine wpQuiet_nil ?_
    intro _ hw'
    obtain ⟨⟨w9, hb9⟩, hw''⟩ := hw'
    subst hw''
    obtain ⟨hc9, hf9⟩ := bcell hb9
    have hz9 := hb9.size
    try simp at hz9
    try dsimp only at hb9 hc9 hf9 hz9
    go_wp2
    go_ret
    exact ⟨rfl, by (repeat' (first | (with_reducible exact Below.refl _ _) | (with_reducible assumption) | (refine below_next ?_ (by with_reducible assumption)) | (with_reducible refine Below.alloc ?_ ?_ _) | (with_reducible refine Below.drew ?_) | (with_reducible refine below_drewN ?_ _) | omega | (simp; done) | (simp; omega)))⟩

/-- The reference's order of fair values. -/
def lessV (k n k' n' : Int) : Bool := if k = k' then k == 1 && decide (n < n') else decide (k < k')
set_option maxHeartbeats 1000000 in
theorem refless_any (k n k' n' : Int) (w : World) :
    Calls Try.prog 25 #[.agg #[.int .i64 k, .int .i64 n], .agg #[.int .i64 k', .int .i64 n']] w fun e w' => e = .returned (.bool (lessV k n k' n')) ∧ Below w.heap.size w w' := by
  by_cases h1 : k = k'
  · subst h1
    have e1 : lessV k n k n' = (k == 1 && decide (n < n')) := by simp [lessV]
    rw [e1]; clear e1
    by_cases h2 : k = 1
    · subst h2
      go_enter Try.func25, Try.ntmps25
      go_wp2
      go_ret
      exact ⟨by simp, by go_grown⟩
    · have h2' : (k == 1) = false := by simpa using h2
      clear h2
      go_enter Try.func25, Try.ntmps25
      go_wp2
      go_ret
      exact ⟨by simp; intro hk; exact absurd hk (by simpa using h2'), by go_grown⟩
  · have e1 : lessV k n k' n' = decide (k < k') := by simp [lessV, h1]
    have h1' : (k != k') = true := by simpa using h1
    rw [e1]; clear e1 h1
    go_enter Try.func25, Try.ntmps25
    go_wp2
    go_ret
    exact ⟨by simp, by go_grown⟩

theorem fair_held (t n : Int) : fairOf (heldOf t n) = (errB t == 0) := by
  rcases held_cases t n with ⟨rfl, h⟩ | ⟨rfl, h⟩ | ⟨rfl, h⟩ | ⟨rfl, h⟩ | ⟨h0, h1, h2, h3, h⟩ <;> rw [h] <;> simp [fairOf, errB]
  exact ⟨by simpa using h0, by simpa using h1, by simpa using h2⟩
theorem kind_held (t n : Int) : kindOf (heldOf t n) = kindB t := by
  rcases held_cases t n with ⟨rfl, h⟩ | ⟨rfl, h⟩ | ⟨rfl, h⟩ | ⟨rfl, h⟩ | ⟨h0, h1, h2, h3, h⟩ <;> rw [h] <;> simp [kindOf, kindB]
  rw [if_neg (by simpa using h1), if_neg (by simpa using h2)]
theorem num_held (t n : Int) (ht : kindB t = 1) : numOf (heldOf t n) = numB t n := by
  have h1 : t = 1 := by
    unfold kindB at ht
    split at ht
    · assumption
    · split at ht <;> omega
  subst h1
  simp [heldOf, numOf, numB]
theorem num_zero (t n : Int) (ht : kindB t ≠ 1) : numB t n = 0 := by
  unfold kindB at ht
  unfold numB
  split at ht
  · exact absurd rfl ht
  · rename_i h; rw [if_neg h]
theorem same_held (t n t' n' : Int) (h : errB t = 0) (h' : errB t' = 0) : sameB (heldOf t n) (heldOf t' n') = (kindB t == kindB t' && numB t n == numB t' n') := by
  unfold sameB
  rw [fair_held, fair_held, kind_held, kind_held, h, h']
  by_cases hk : kindB t = kindB t'
  · by_cases h1 : kindB t = 1
    · rw [num_held t n h1, num_held t' n' (by omega)]; simp [← hk, h1]
    · rw [num_zero t n h1, num_zero t' n' (by omega)]; have h2 : ¬ kindB t' = 1 := by omega
      simp [hk, h2]
  · have : (kindB t == kindB t') = false := by simpa using hk
    simp [this]
theorem less_held (t n t' n' : Int) (h : errB t = 0) (h' : errB t' = 0) : lessB (heldOf t n) (heldOf t' n') = lessV (kindB t) (numB t n) (kindB t') (numB t' n') := by
  unfold lessB lessV
  rw [fair_held, fair_held, kind_held, kind_held, h, h']
  by_cases hk : kindB t = kindB t'
  · rw [if_pos hk, if_pos hk]
    by_cases h1 : kindB t = 1
    · rw [num_held t n h1, num_held t' n' (by omega)]; simp
    · have h2 : (kindB t == 1) = false := by simpa using h1
      simp [h2]
  · rw [if_neg hk, if_neg hk]; simp
theorem same_unfair (t n t' n' : Int) (h : (errB t == 0 && errB t' == 0) = false) : sameB (heldOf t n) (heldOf t' n') = false := by
  unfold sameB; rw [fair_held, fair_held, h]; simp
theorem less_unfair (t n t' n' : Int) (h : (errB t == 0 && errB t' == 0) = false) : lessB (heldOf t n) (heldOf t' n') = false := by
  unfold lessB; rw [fair_held, fair_held, h]; simp

set_option maxHeartbeats 2000000 in
theorem cellorders_any (t n t' n' : Int) (hn : IntKind.i64.wrap n = n) (hn' : IntKind.i64.wrap n' = n') (w : World) :
    Calls Try.prog 6 #[.agg #[.int .i64 t, .int .i64 n], .agg #[.int .i64 t', .int .i64 n']] w fun e w' => e = .returned (.bool true) ∧ Below w.heap.size w w' := by
  have HN := Lib.hid hn; clear hn
  have HN' := Lib.hid hn'; clear hn'
  by_cases hf : errB t = 0 ∧ errB t' = 0
  · obtain ⟨h1, h2⟩ := hf
    have es := same_held t n t' n' h1 h2
    have el := less_held t n t' n' h1 h2
    by_cases hk : kindB t = kindB t' ∧ numB t n = numB t' n'
    · obtain ⟨k1, k2⟩ := hk
      rw [k1, k2] at es el
      simp at es
      go_enter Try.func6, Try.ntmps6
      go_wp2_with (fail)
      refine (refback_any _ _ _).mono ?_
      rintro e w1 ⟨rfl, hb1⟩
      obtain ⟨hc1, hf1⟩ := bcell hb1
      have hz1 := hb1.size
      try simp at hz1
      have hl1_0 : w.heap.size < w1.heap.size := by omega
      have hl1_1 : w.heap.size+1 < w1.heap.size := by omega
      go_wp2_with (fail)
      refine (refback_any _ _ _).mono ?_
      rintro e w2 ⟨rfl, hb2⟩
      obtain ⟨hc2, hf2⟩ := bcell hb2
      have hz2 := hb2.size
      try simp at hz2
      have hl2_0 : w.heap.size < w2.heap.size := by omega
      have hl2_1 : w.heap.size+1 < w2.heap.size := by omega
      have hl2_2 : w1.heap.size < w2.heap.size := by omega
      go_wp2_with (fail)
      refine wp_region_later (by kernel_rfl) (by kernel_rfl) ?_
      repeat (quiet_step (first | (go_at_call 18; exact Later.call (made_any _ _ (by first | exact HN.out | exact HN'.out) _)) | (go_at_call 24; exact Later.call (same_any _ _ (held_fit _ _) (held_fit _ _) _)) | (go_at_call 23; exact Later.call (less_any _ _ (held_fit _ _) (held_fit _ _) _)) | (go_at_call 25; exact Later.call (refless_any _ _ _ _ _)) | (go_at_call 17; exact Later.call (works4 _))))
      refine wpQuiet_nil ?_
      intro _ hw'
      obtain ⟨⟨w9, hb9⟩, hw''⟩ := hw'
      subst hw''
      obtain ⟨hc9, hf9⟩ := bcell hb9
      have hz9 := hb9.size
      try simp at hz9
      try dsimp only at hb9 hc9 hf9 hz9
      go_wp2
      go_ret
      exact ⟨rfl, by (repeat' (first | (with_reducible exact Below.refl _ _) | (with_reducible assumption) | (refine below_next ?_ (by with_reducible assumption)) | (with_reducible refine Below.alloc ?_ ?_ _) | (with_reducible refine Below.drew ?_) | (with_reducible refine below_drewN ?_ _) | omega | (simp; done) | (simp; omega)))⟩
    · have es' : sameB (heldOf t n) (heldOf t' n') = false := by rw [es]; simpa using hk
      clear es
      by_cases k1 : kindB t = kindB t'
      · have k2 : (numB t n == numB t' n') = false := by simpa using fun h => hk ⟨k1, h⟩
        rw [k1] at el
        clear hk
        go_enter Try.func6, Try.ntmps6
        go_wp2_with (fail)
        refine (refback_any _ _ _).mono ?_
        rintro e w1 ⟨rfl, hb1⟩
        obtain ⟨hc1, hf1⟩ := bcell hb1
        have hz1 := hb1.size
        try simp at hz1
        have hl1_0 : w.heap.size < w1.heap.size := by omega
        have hl1_1 : w.heap.size+1 < w1.heap.size := by omega
        go_wp2_with (fail)
        refine (refback_any _ _ _).mono ?_
        rintro e w2 ⟨rfl, hb2⟩
        obtain ⟨hc2, hf2⟩ := bcell hb2
        have hz2 := hb2.size
        try simp at hz2
        have hl2_0 : w.heap.size < w2.heap.size := by omega
        have hl2_1 : w.heap.size+1 < w2.heap.size := by omega
        have hl2_2 : w1.heap.size < w2.heap.size := by omega
        go_wp2_with (fail)
        refine wp_region_later (by kernel_rfl) (by kernel_rfl) ?_
        repeat (quiet_step (first | (go_at_call 18; exact Later.call (made_any _ _ (by first | exact HN.out | exact HN'.out) _)) | (go_at_call 24; exact Later.call (same_any _ _ (held_fit _ _) (held_fit _ _) _)) | (go_at_call 23; exact Later.call (less_any _ _ (held_fit _ _) (held_fit _ _) _)) | (go_at_call 25; exact Later.call (refless_any _ _ _ _ _)) | (go_at_call 17; exact Later.call (works4 _))))
        refine wpQuiet_nil ?_
        intro _ hw'
        obtain ⟨⟨w9, hb9⟩, hw''⟩ := hw'
        subst hw''
        obtain ⟨hc9, hf9⟩ := bcell hb9
        have hz9 := hb9.size
        try simp at hz9
        try dsimp only at hb9 hc9 hf9 hz9
        go_wp2
        go_ret
        exact ⟨rfl, by (repeat' (first | (with_reducible exact Below.refl _ _) | (with_reducible assumption) | (refine below_next ?_ (by with_reducible assumption)) | (with_reducible refine Below.alloc ?_ ?_ _) | (with_reducible refine Below.drew ?_) | (with_reducible refine below_drewN ?_ _) | omega | (simp; done) | (simp; omega)))⟩
      · have k2 : (kindB t == kindB t') = false := by simpa using k1
        clear hk k1
        go_enter Try.func6, Try.ntmps6
        go_wp2_with (fail)
        refine (refback_any _ _ _).mono ?_
        rintro e w1 ⟨rfl, hb1⟩
        obtain ⟨hc1, hf1⟩ := bcell hb1
        have hz1 := hb1.size
        try simp at hz1
        have hl1_0 : w.heap.size < w1.heap.size := by omega
        have hl1_1 : w.heap.size+1 < w1.heap.size := by omega
        go_wp2_with (fail)
        refine (refback_any _ _ _).mono ?_
        rintro e w2 ⟨rfl, hb2⟩
        obtain ⟨hc2, hf2⟩ := bcell hb2
        have hz2 := hb2.size
        try simp at hz2
        have hl2_0 : w.heap.size < w2.heap.size := by omega
        have hl2_1 : w.heap.size+1 < w2.heap.size := by omega
        have hl2_2 : w1.heap.size < w2.heap.size := by omega
        go_wp2_with (fail)
        refine wp_region_later (by kernel_rfl) (by kernel_rfl) ?_
        repeat (quiet_step (first | (go_at_call 18; exact Later.call (made_any _ _ (by first | exact HN.out | exact HN'.out) _)) | (go_at_call 24; exact Later.call (same_any _ _ (held_fit _ _) (held_fit _ _) _)) | (go_at_call 23; exact Later.call (less_any _ _ (held_fit _ _) (held_fit _ _) _)) | (go_at_call 25; exact Later.call (refless_any _ _ _ _ _)) | (go_at_call 17; exact Later.call (works4 _))))
        refine wpQuiet_nil ?_
        intro _ hw'
        obtain ⟨⟨w9, hb9⟩, hw''⟩ := hw'
        subst hw''
        obtain ⟨hc9, hf9⟩ := bcell hb9
        have hz9 := hb9.size
        try simp at hz9
        try dsimp only at hb9 hc9 hf9 hz9
        go_wp2
        go_ret
        exact ⟨rfl, by (repeat' (first | (with_reducible exact Below.refl _ _) | (with_reducible assumption) | (refine below_next ?_ (by with_reducible assumption)) | (with_reducible refine Below.alloc ?_ ?_ _) | (with_reducible refine Below.drew ?_) | (with_reducible refine below_drewN ?_ _) | omega | (simp; done) | (simp; omega)))⟩
  · have hf' : (errB t == 0 && errB t' == 0) = false := by simpa using hf
    have es := same_unfair t n t' n' hf'
    have el := less_unfair t n t' n' hf'
    by_cases h1 : errB t = 0
    · have h2 : (errB t' == 0) = false := by simpa using fun h => hf ⟨h1, h⟩
      clear hf hf'
      go_enter Try.func6, Try.ntmps6
      go_wp2_with (fail)
      refine (refback_any _ _ _).mono ?_
      rintro e w1 ⟨rfl, hb1⟩
      obtain ⟨hc1, hf1⟩ := bcell hb1
      have hz1 := hb1.size
      try simp at hz1
      have hl1_0 : w.heap.size < w1.heap.size := by omega
      have hl1_1 : w.heap.size+1 < w1.heap.size := by omega
      go_wp2_with (fail)
      refine (refback_any _ _ _).mono ?_
      rintro e w2 ⟨rfl, hb2⟩
      obtain ⟨hc2, hf2⟩ := bcell hb2
      have hz2 := hb2.size
      try simp at hz2
      have hl2_0 : w.heap.size < w2.heap.size := by omega
      have hl2_1 : w.heap.size+1 < w2.heap.size := by omega
      have hl2_2 : w1.heap.size < w2.heap.size := by omega
      go_wp2_with (fail)
      refine wp_region_later (by kernel_rfl) (by kernel_rfl) ?_
      repeat (quiet_step (first | (go_at_call 18; exact Later.call (made_any _ _ (by first | exact HN.out | exact HN'.out) _)) | (go_at_call 24; exact Later.call (same_any _ _ (held_fit _ _) (held_fit _ _) _)) | (go_at_call 23; exact Later.call (less_any _ _ (held_fit _ _) (held_fit _ _) _)) | (go_at_call 25; exact Later.call (refless_any _ _ _ _ _)) | (go_at_call 17; exact Later.call (works4 _))))
      refine wpQuiet_nil ?_
      intro _ hw'
      obtain ⟨⟨w9, hb9⟩, hw''⟩ := hw'
      subst hw''
      obtain ⟨hc9, hf9⟩ := bcell hb9
      have hz9 := hb9.size
      try simp at hz9
      try dsimp only at hb9 hc9 hf9 hz9
      go_wp2
      go_ret
      exact ⟨rfl, by (repeat' (first | (with_reducible exact Below.refl _ _) | (with_reducible assumption) | (refine below_next ?_ (by with_reducible assumption)) | (with_reducible refine Below.alloc ?_ ?_ _) | (with_reducible refine Below.drew ?_) | (with_reducible refine below_drewN ?_ _) | omega | (simp; done) | (simp; omega)))⟩
    · have h2 : (errB t == 0) = false := by simpa using h1
      clear hf hf' h1
      go_enter Try.func6, Try.ntmps6
      go_wp2_with (fail)
      refine (refback_any _ _ _).mono ?_
      rintro e w1 ⟨rfl, hb1⟩
      obtain ⟨hc1, hf1⟩ := bcell hb1
      have hz1 := hb1.size
      try simp at hz1
      have hl1_0 : w.heap.size < w1.heap.size := by omega
      have hl1_1 : w.heap.size+1 < w1.heap.size := by omega
      go_wp2_with (fail)
      refine (refback_any _ _ _).mono ?_
      rintro e w2 ⟨rfl, hb2⟩
      obtain ⟨hc2, hf2⟩ := bcell hb2
      have hz2 := hb2.size
      try simp at hz2
      have hl2_0 : w.heap.size < w2.heap.size := by omega
      have hl2_1 : w.heap.size+1 < w2.heap.size := by omega
      have hl2_2 : w1.heap.size < w2.heap.size := by omega
      go_wp2_with (fail)
      refine wp_region_later (by kernel_rfl) (by kernel_rfl) ?_
      repeat (quiet_step (first | (go_at_call 18; exact Later.call (made_any _ _ (by first | exact HN.out | exact HN'.out) _)) | (go_at_call 24; exact Later.call (same_any _ _ (held_fit _ _) (held_fit _ _) _)) | (go_at_call 23; exact Later.call (less_any _ _ (held_fit _ _) (held_fit _ _) _)) | (go_at_call 25; exact Later.call (refless_any _ _ _ _ _)) | (go_at_call 17; exact Later.call (works4 _))))
      refine wpQuiet_nil ?_
      intro _ hw'
      obtain ⟨⟨w9, hb9⟩, hw''⟩ := hw'
      subst hw''
      obtain ⟨hc9, hf9⟩ := bcell hb9
      have hz9 := hb9.size
      try simp at hz9
      try dsimp only at hb9 hc9 hf9 hz9
      go_wp2
      go_ret
      exact ⟨rfl, by (repeat' (first | (with_reducible exact Below.refl _ _) | (with_reducible assumption) | (refine below_next ?_ (by with_reducible assumption)) | (with_reducible refine Below.alloc ?_ ?_ _) | (with_reducible refine Below.drew ?_) | (with_reducible refine below_drewN ?_ _) | omega | (simp; done) | (simp; omega)))⟩
end Go.Proofs.Ytbeblcmlljnmiaa
