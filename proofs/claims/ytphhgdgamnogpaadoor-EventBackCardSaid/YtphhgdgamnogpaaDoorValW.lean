/-
  The walks of layer 5 (value): May, Print, Parse, Less, of the package and of its reference; each leaves all memory that was there as it was. Texts of at most 2^63 - 2 bytes.
-/
import Derived.Test.YtphhgdgamnogpaaDoorCellA
import Derived.Test.YtphhgdgamnogpaaDoorValA
import Derived.Test.YtphhgdgamnogpaaDoorDigX
namespace Go.Proofs.YtphhgdgamnogpaaDoor
open Go.RowKit
attribute [local go_sem] as_nil as_nil_lost as_int64 as_int64_must as_int as_lost as_int64_no as_int_no as_lost_no
attribute [local go_sem] Later.cell Later.frozen

set_option maxHeartbeats 2000000 in
theorem may_any (k n : Int) (w : World) :
    Calls Tryd.prog 63 #[.agg #[.int .i64 k, .int .i64 n]] w fun e w' => e = .returned (.bool (mayV k n)) ∧ Below w.heap.size w w' := by
  rcases may_cases k n with ⟨rfl, h⟩ | ⟨rfl, rfl, h⟩ | ⟨rfl, rfl, h⟩ | ⟨rfl, h1, h2, h⟩ | ⟨rfl, h1, h2, h⟩ | ⟨h1, h2, h3, h4, h⟩ <;> rw [h] <;> clear h
  all_goals
    go_enter Tryd.func63, Tryd.ntmps63
    go_wp2
    go_ret
    exact ⟨rfl, by go_grown⟩
set_option maxHeartbeats 2000000 in
theorem refmay_any (k n : Int) (w : World) :
    Calls Tryd.prog 65 #[.agg #[.int .i64 k, .int .i64 n]] w fun e w' => e = .returned (.bool (mayV k n)) ∧ Below w.heap.size w w' := by
  rcases may_cases k n with ⟨rfl, h⟩ | ⟨rfl, rfl, h⟩ | ⟨rfl, rfl, h⟩ | ⟨rfl, h1, h2, h⟩ | ⟨rfl, h1, h2, h⟩ | ⟨h1, h2, h3, h4, h⟩ <;> rw [h] <;> clear h
  all_goals
    go_enter Tryd.func65, Tryd.ntmps65
    go_wp2
    go_ret
    exact ⟨rfl, by go_grown⟩

/-- A value's text. -/
def vTxt (k n : Int) : List UInt8 := if mayV k n then (if k = 1 then printL n else if k = 0 then [110, 105, 108] else [63]) else []
def vErr (k n : Int) : Int := if mayV k n then 0 else 4
/-- A text's value: kind, number, error. -/
def vParse (l : List UInt8) : Int × Int × Int :=
  if l = [110, 105, 108] then (0, 0, 0) else if l = [63] then (2, 0, 0) else if (parseL l).2 = 0 then (1, (parseL l).1, 0) else (0, 0, (parseL l).2)

theorem int_int (n : Int) (w : World) :
    Calls Tryd.prog 105 #[.agg #[.iface 2 (.int .i64 n)]] w fun e w' => e = .returned (.tuple #[.int .i64 n, .int .i64 0]) ∧ Below w.heap.size w w' := by
  go_enter Tryd.func105, Tryd.ntmps105
  go_wp2
  go_returns
  exact ⟨rfl, by go_grown⟩

set_option maxHeartbeats 2000000 in
theorem vprint_any (k n : Int) (h0 : -9223372036854775808 ≤ n) (h1 : n ≤ 9223372036854775807) (w : World) :
    Calls Tryd.prog 59 #[.agg #[.int .i64 k, .int .i64 n]] w fun e w' => e = .returned (.tuple #[.string (bs (vTxt k n)), .int .i64 (vErr k n)]) ∧ Below w.heap.size w w' := by
  have HP := Lib.hid (print_any n h0 h1)
  have HM := Lib.hid (may_any k n)
  clear h0 h1
  rcases may_cases k n with ⟨rfl, h⟩ | ⟨rfl, rfl, h⟩ | ⟨rfl, rfl, h⟩ | h'
  · have e1 : vTxt 1 n = printL n := by simp [vTxt, h]
    have e2 : vErr 1 n = 0 := by simp [vErr, h]
    rw [e1, e2]
    rw [h] at HM
    clear h e1 e2
    go_enter Tryd.func59, Tryd.ntmps59
    go_wp2_with (fail)
    refine (HM.out _).mono ?_
    rintro e w1 ⟨rfl, hb1⟩
    obtain ⟨hc1, hf1⟩ := bcell hb1
    have hz1 := hb1.size
    try simp at hz1
    have hl1_0 : w.heap.size < w1.heap.size := by omega
    have hl1_0_1 : w.heap.size < w1.heap.size + 1 := by omega
    have hl1_0_2 : w.heap.size < w1.heap.size + 1 + 1 := by omega
    have hl1_0_3 : w.heap.size < w1.heap.size + 1 + 1 + 1 := by omega
    have hl1_0_4 : w.heap.size < w1.heap.size + 1 + 1 + 1 + 1 := by omega
    have hl1_0_5 : w.heap.size < w1.heap.size + 1 + 1 + 1 + 1 + 1 := by omega
    go_wp2_with (first | (go_at_call 107; refine (HP.out _).mono ?_; rintro e w2 ⟨rfl, hb2⟩) | go_in)
    go_returns
    exact ⟨rfl, by (repeat' (first | (with_reducible exact Below.refl _ _) | (with_reducible assumption) | (refine below_next ?_ (by with_reducible assumption)) | (with_reducible refine Below.alloc ?_ ?_ _) | (with_reducible refine Below.drew ?_) | (with_reducible refine below_drewN ?_ _) | omega | (simp; done) | (simp; omega)))⟩
  · have e1 : vTxt 0 0 = [110, 105, 108] := by simp [vTxt, h]
    have e2 : vErr 0 0 = 0 := by simp [vErr, h]
    rw [e1, e2]
    rw [h] at HM
    clear h e1 e2
    go_enter Tryd.func59, Tryd.ntmps59
    go_wp2_with (fail)
    refine (HM.out _).mono ?_
    rintro e w1 ⟨rfl, hb1⟩
    obtain ⟨hc1, hf1⟩ := bcell hb1
    have hz1 := hb1.size
    try simp at hz1
    have hl1_0 : w.heap.size < w1.heap.size := by omega
    have hl1_0_1 : w.heap.size < w1.heap.size + 1 := by omega
    have hl1_0_2 : w.heap.size < w1.heap.size + 1 + 1 := by omega
    have hl1_0_3 : w.heap.size < w1.heap.size + 1 + 1 + 1 := by omega
    have hl1_0_4 : w.heap.size < w1.heap.size + 1 + 1 + 1 + 1 := by omega
    have hl1_0_5 : w.heap.size < w1.heap.size + 1 + 1 + 1 + 1 + 1 := by omega
    go_wp2
    go_returns
    exact ⟨rfl, by (repeat' (first | (with_reducible exact Below.refl _ _) | (with_reducible assumption) | (refine below_next ?_ (by with_reducible assumption)) | (with_reducible refine Below.alloc ?_ ?_ _) | (with_reducible refine Below.drew ?_) | (with_reducible refine below_drewN ?_ _) | omega | (simp; done) | (simp; omega)))⟩
  · have e1 : vTxt 2 0 = [63] := by simp [vTxt, h]
    have e2 : vErr 2 0 = 0 := by simp [vErr, h]
    rw [e1, e2]
    rw [h] at HM
    clear h e1 e2
    go_enter Tryd.func59, Tryd.ntmps59
    go_wp2_with (fail)
    refine (HM.out _).mono ?_
    rintro e w1 ⟨rfl, hb1⟩
    obtain ⟨hc1, hf1⟩ := bcell hb1
    have hz1 := hb1.size
    try simp at hz1
    have hl1_0 : w.heap.size < w1.heap.size := by omega
    have hl1_0_1 : w.heap.size < w1.heap.size + 1 := by omega
    have hl1_0_2 : w.heap.size < w1.heap.size + 1 + 1 := by omega
    have hl1_0_3 : w.heap.size < w1.heap.size + 1 + 1 + 1 := by omega
    have hl1_0_4 : w.heap.size < w1.heap.size + 1 + 1 + 1 + 1 := by omega
    have hl1_0_5 : w.heap.size < w1.heap.size + 1 + 1 + 1 + 1 + 1 := by omega
    go_wp2
    go_returns
    exact ⟨rfl, by (repeat' (first | (with_reducible exact Below.refl _ _) | (with_reducible assumption) | (refine below_next ?_ (by with_reducible assumption)) | (with_reducible refine Below.alloc ?_ ?_ _) | (with_reducible refine Below.drew ?_) | (with_reducible refine below_drewN ?_ _) | omega | (simp; done) | (simp; omega)))⟩
  · have h : mayV k n = false := by
      rcases h' with ⟨-, -, -, h⟩ | ⟨-, -, -, h⟩ | ⟨-, -, -, -, h⟩ <;> exact h
    have e1 : vTxt k n = [] := by simp [vTxt, h]
    have e2 : vErr k n = 4 := by simp [vErr, h]
    rw [e1, e2]
    rw [h] at HM
    clear h h' e1 e2
    go_enter Tryd.func59, Tryd.ntmps59
    go_wp2_with (fail)
    refine (HM.out _).mono ?_
    rintro e w1 ⟨rfl, hb1⟩
    obtain ⟨hc1, hf1⟩ := bcell hb1
    have hz1 := hb1.size
    try simp at hz1
    have hl1_0 : w.heap.size < w1.heap.size := by omega
    have hl1_0_1 : w.heap.size < w1.heap.size + 1 := by omega
    have hl1_0_2 : w.heap.size < w1.heap.size + 1 + 1 := by omega
    have hl1_0_3 : w.heap.size < w1.heap.size + 1 + 1 + 1 := by omega
    have hl1_0_4 : w.heap.size < w1.heap.size + 1 + 1 + 1 + 1 := by omega
    have hl1_0_5 : w.heap.size < w1.heap.size + 1 + 1 + 1 + 1 + 1 := by omega
    go_wp2
    go_returns
    exact ⟨rfl, by (repeat' (first | (with_reducible exact Below.refl _ _) | (with_reducible assumption) | (refine below_next ?_ (by with_reducible assumption)) | (with_reducible refine Below.alloc ?_ ?_ _) | (with_reducible refine Below.drew ?_) | (with_reducible refine below_drewN ?_ _) | omega | (simp; done) | (simp; omega)))⟩

set_option maxHeartbeats 2000000 in
theorem refvprint_any (k n : Int) (h0 : -9223372036854775808 ≤ n) (h1 : n ≤ 9223372036854775807) (w : World) :
    Calls Tryd.prog 61 #[.agg #[.int .i64 k, .int .i64 n]] w fun e w' => e = .returned (.tuple #[.string (bs (vTxt k n)), .int .i64 (vErr k n)]) ∧ Below w.heap.size w w' := by
  have HP := Lib.hid (refprint_any n h0 h1)
  have HM := Lib.hid (refmay_any k n)
  clear h0 h1
  rcases may_cases k n with ⟨rfl, h⟩ | ⟨rfl, rfl, h⟩ | ⟨rfl, rfl, h⟩ | h'
  · have e1 : vTxt 1 n = printL n := by simp [vTxt, h]
    have e2 : vErr 1 n = 0 := by simp [vErr, h]
    rw [e1, e2]
    rw [h] at HM
    clear h e1 e2
    go_enter Tryd.func61, Tryd.ntmps61
    go_wp2_with (fail)
    refine (HM.out _).mono ?_
    rintro e w1 ⟨rfl, hb1⟩
    obtain ⟨hc1, hf1⟩ := bcell hb1
    have hz1 := hb1.size
    try simp at hz1
    have hl1_0 : w.heap.size < w1.heap.size := by omega
    go_wp2_with (first | (go_at_call 108; refine (HP.out _).mono ?_; rintro e w2 ⟨rfl, hb2⟩) | go_in)
    go_returns
    exact ⟨rfl, by (repeat' (first | (with_reducible exact Below.refl _ _) | (with_reducible assumption) | (refine below_next ?_ (by with_reducible assumption)) | (with_reducible refine Below.alloc ?_ ?_ _) | (with_reducible refine Below.drew ?_) | (with_reducible refine below_drewN ?_ _) | omega | (simp; done) | (simp; omega)))⟩
  · have e1 : vTxt 0 0 = [110, 105, 108] := by simp [vTxt, h]
    have e2 : vErr 0 0 = 0 := by simp [vErr, h]
    rw [e1, e2]
    rw [h] at HM
    clear h e1 e2
    go_enter Tryd.func61, Tryd.ntmps61
    go_wp2_with (fail)
    refine (HM.out _).mono ?_
    rintro e w1 ⟨rfl, hb1⟩
    obtain ⟨hc1, hf1⟩ := bcell hb1
    have hz1 := hb1.size
    try simp at hz1
    have hl1_0 : w.heap.size < w1.heap.size := by omega
    go_wp2
    go_returns
    exact ⟨rfl, by (repeat' (first | (with_reducible exact Below.refl _ _) | (with_reducible assumption) | (refine below_next ?_ (by with_reducible assumption)) | (with_reducible refine Below.alloc ?_ ?_ _) | (with_reducible refine Below.drew ?_) | (with_reducible refine below_drewN ?_ _) | omega | (simp; done) | (simp; omega)))⟩
  · have e1 : vTxt 2 0 = [63] := by simp [vTxt, h]
    have e2 : vErr 2 0 = 0 := by simp [vErr, h]
    rw [e1, e2]
    rw [h] at HM
    clear h e1 e2
    go_enter Tryd.func61, Tryd.ntmps61
    go_wp2_with (fail)
    refine (HM.out _).mono ?_
    rintro e w1 ⟨rfl, hb1⟩
    obtain ⟨hc1, hf1⟩ := bcell hb1
    have hz1 := hb1.size
    try simp at hz1
    have hl1_0 : w.heap.size < w1.heap.size := by omega
    go_wp2
    go_returns
    exact ⟨rfl, by (repeat' (first | (with_reducible exact Below.refl _ _) | (with_reducible assumption) | (refine below_next ?_ (by with_reducible assumption)) | (with_reducible refine Below.alloc ?_ ?_ _) | (with_reducible refine Below.drew ?_) | (with_reducible refine below_drewN ?_ _) | omega | (simp; done) | (simp; omega)))⟩
  · have h : mayV k n = false := by
      rcases h' with ⟨-, -, -, h⟩ | ⟨-, -, -, h⟩ | ⟨-, -, -, -, h⟩ <;> exact h
    have e1 : vTxt k n = [] := by simp [vTxt, h]
    have e2 : vErr k n = 4 := by simp [vErr, h]
    rw [e1, e2]
    rw [h] at HM
    clear h h' e1 e2
    go_enter Tryd.func61, Tryd.ntmps61
    go_wp2_with (fail)
    refine (HM.out _).mono ?_
    rintro e w1 ⟨rfl, hb1⟩
    obtain ⟨hc1, hf1⟩ := bcell hb1
    have hz1 := hb1.size
    try simp at hz1
    have hl1_0 : w.heap.size < w1.heap.size := by omega
    go_wp2
    go_returns
    exact ⟨rfl, by (repeat' (first | (with_reducible exact Below.refl _ _) | (with_reducible assumption) | (refine below_next ?_ (by with_reducible assumption)) | (with_reducible refine Below.alloc ?_ ?_ _) | (with_reducible refine Below.drew ?_) | (with_reducible refine below_drewN ?_ _) | omega | (simp; done) | (simp; omega)))⟩

/-- The four ways of Parse. -/
theorem vparse_cases (l : List UInt8) : (l = [110, 105, 108] ∧ vParse l = (0, 0, 0)) ∨ (l = [63] ∧ vParse l = (2, 0, 0)) ∨
    ((l == [110, 105, 108]) = false ∧ (l == [63]) = false ∧ ∃ v, parseL l = (v, 0) ∧ vParse l = (1, v, 0)) ∨
    ((l == [110, 105, 108]) = false ∧ (l == [63]) = false ∧ ∃ v c, parseL l = (v, c) ∧ (c != 0) = true ∧ vParse l = (0, 0, c)) := by
  by_cases h1 : l = [110, 105, 108]
  · exact .inl ⟨h1, by simp [vParse, h1]⟩
  by_cases h2 : l = [63]
  · exact .inr (.inl ⟨h2, by simp [vParse, h2]⟩)
  have e1 : (l == [110, 105, 108]) = false := by simpa using h1
  have e2 : (l == [63]) = false := by simpa using h2
  obtain ⟨v, c, hp⟩ : ∃ v c, parseL l = (v, c) := ⟨_, _, rfl⟩
  by_cases hc : c = 0
  · subst hc
    exact .inr (.inr (.inl ⟨e1, e2, v, hp, by simp [vParse, h1, h2, hp]⟩))
  · exact .inr (.inr (.inr ⟨e1, e2, v, c, hp, by simpa using hc, by simp [vParse, h1, h2, hp, hc]⟩))

theorem refparse_at (l : List UInt8) (v c : Int) (hs : l.length ≤ 9223372036854775806) (h : parseL l = (v, c)) (w : World) :
    Calls Tryd.prog 137 #[.string (bs l)] w fun e w' => e = .returned (.tuple #[.int .i64 v, .int .i64 c]) ∧ w = w' := by
  have := refparse_any l hs w
  rwa [h] at this

set_option maxHeartbeats 2000000 in
theorem vparse_of (l : List UInt8) (a b c : Int) (hs : l.length ≤ 9223372036854775806) (h : vParse l = (a, b, c)) (w : World) :
    Calls Tryd.prog 117 #[.string (bs l)] w fun e w' => e = .returned (.tuple #[.agg #[.int .i64 a, .int .i64 b], .int .i64 c]) ∧ Below w.heap.size w w' := by
  rcases vparse_cases l with ⟨rfl, h'⟩ | ⟨rfl, h'⟩ | ⟨h1, h2, v, hp, h'⟩ | ⟨h1, h2, v, c', hp, hc, h'⟩
  all_goals
    rw [h'] at h
    simp only [Prod.mk.injEq] at h
    obtain ⟨rfl, rfl, rfl⟩ := h
    clear h'
  · go_enter Tryd.func117, Tryd.ntmps117
    go_wp2
    go_returns
    exact ⟨rfl, by go_grown⟩
  · go_enter Tryd.func117, Tryd.ntmps117
    go_wp2
    go_returns
    exact ⟨rfl, by go_grown⟩
  all_goals
    have HP := Lib.hid (parse_at l _ _ hs hp)
    clear hp hs
    go_enter Tryd.func117, Tryd.ntmps117
    go_wp2_with (go_at_call 135; refine (HP.out _).mono ?_; rintro e w1 ⟨rfl, rfl⟩)
    go_returns
    exact ⟨rfl, by go_grown⟩
set_option maxHeartbeats 2000000 in
theorem refvparse_of (l : List UInt8) (a b c : Int) (hs : l.length ≤ 9223372036854775806) (h : vParse l = (a, b, c)) (w : World) :
    Calls Tryd.prog 118 #[.string (bs l)] w fun e w' => e = .returned (.tuple #[.agg #[.int .i64 a, .int .i64 b], .int .i64 c]) ∧ Below w.heap.size w w' := by
  rcases vparse_cases l with ⟨rfl, h'⟩ | ⟨rfl, h'⟩ | ⟨h1, h2, v, hp, h'⟩ | ⟨h1, h2, v, c', hp, hc, h'⟩
  all_goals
    rw [h'] at h
    simp only [Prod.mk.injEq] at h
    obtain ⟨rfl, rfl, rfl⟩ := h
    clear h'
  · go_enter Tryd.func118, Tryd.ntmps118
    go_wp2
    go_returns
    exact ⟨rfl, by go_grown⟩
  · go_enter Tryd.func118, Tryd.ntmps118
    go_wp2
    go_returns
    exact ⟨rfl, by go_grown⟩
  all_goals
    have HP := Lib.hid (refparse_at l _ _ hs hp)
    clear hp hs
    go_enter Tryd.func118, Tryd.ntmps118
    go_wp2_with (go_at_call 137; refine (HP.out _).mono ?_; rintro e w1 ⟨rfl, rfl⟩)
    go_returns
    exact ⟨rfl, by go_grown⟩

end Go.Proofs.YtphhgdgamnogpaaDoor
