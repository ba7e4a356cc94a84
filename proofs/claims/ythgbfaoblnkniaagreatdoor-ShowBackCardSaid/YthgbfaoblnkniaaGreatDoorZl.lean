/-
  The walks of layer 5 (value): May, Print, Parse, Less, of the package and of its reference; each leaves all memory that was there as it was. Texts of at most 2^63 - 2 bytes.
  Layer 5 (value), in plain words: reading undoes printing. No conditions.
  Layer 7 (event) in plain words: which events may be, their lines, what a line is read as; that reading undoes printing, and that what is read may be; no program in sight. No conditions.
-/
import Derived.Test.YthgbfaoblnkniaaGreatDoorZb
import Derived.Test.YthgbfaoblnkniaaGreatDoorZa
import Derived.Test.YthgbfaoblnkniaaGreatDoorZk
import Derived.Test.YthgbfaoblnkniaaGreatDoorZj
import Derived.Lib.RuneBytes
namespace Go.Proofs.YthgbfaoblnkniaaGreatDoor
open Go.RowKit
attribute [local go_sem] as_nil as_nil_lost as_int64 as_int64_must as_int as_lost as_int64_no as_int_no as_lost_no
attribute [local go_sem] Later.cell Later.frozen
set_option maxHeartbeats 2000000 in
theorem may_any (k n : Int) (w : World) :
  Calls Tryz.prog 66 #[.agg #[.int .i64 k, .int .i64 n]] w fun e w' => e = .returned (.bool (mayV k n)) ∧ Below w.heap.size w w' := by
 rcases may_cases k n with ⟨rfl, h⟩ | ⟨rfl, rfl, h⟩ | ⟨rfl, rfl, h⟩ | ⟨rfl, h1, h2, h⟩ | ⟨rfl, h1, h2, h⟩ | ⟨h1, h2, h3, h4, h⟩ <;> rw [h] <;> clear h
 all_goals
  go_enter Tryz.func66, Tryz.ntmps66
  go_wp2
  go_ret
  exact ⟨rfl, by go_grown⟩
set_option maxHeartbeats 2000000 in
theorem refmay_any (k n : Int) (w : World) :
  Calls Tryz.prog 61 #[.agg #[.int .i64 k, .int .i64 n]] w fun e w' => e = .returned (.bool (mayV k n)) ∧ Below w.heap.size w w' := by
 rcases may_cases k n with ⟨rfl, h⟩ | ⟨rfl, rfl, h⟩ | ⟨rfl, rfl, h⟩ | ⟨rfl, h1, h2, h⟩ | ⟨rfl, h1, h2, h⟩ | ⟨h1, h2, h3, h4, h⟩ <;> rw [h] <;> clear h
 all_goals
  go_enter Tryz.func61, Tryz.ntmps61
  go_wp2
  go_ret
  exact ⟨rfl, by go_grown⟩
def vTxt (k n : Int) : List UInt8 := if mayV k n then (if k = 1 then printL n else if k = 0 then [110, 105, 108] else [63]) else []
def vErr (k n : Int) : Int := if mayV k n then 0 else 4
def vParse (l : List UInt8) : Int × Int × Int :=
 if l = [110, 105, 108] then (0, 0, 0) else if l = [63] then (2, 0, 0) else if (parseL l).2 = 0 then (1, (parseL l).1, 0) else (0, 0, (parseL l).2)
set_option maxHeartbeats 2000000 in
theorem vprint_any (k n : Int) (h0 : -9223372036854775808 ≤ n) (h1 : n ≤ 9223372036854775807) (w : World) :
  Calls Tryz.prog 71 #[.agg #[.int .i64 k, .int .i64 n]] w fun e w' => e = .returned (.tuple #[.string (bs (vTxt k n)), .int .i64 (vErr k n)]) ∧ Below w.heap.size w w' := by
 have HP := Lib.hid (print_any n h0 h1)
 have HM := Lib.hid (may_any k n)
 clear h0 h1
 rcases may_cases k n with ⟨rfl, h⟩ | ⟨rfl, rfl, h⟩ | ⟨rfl, rfl, h⟩ | h'
 ·have e1 : vTxt 1 n = printL n := by simp [vTxt, h]
  have e2 : vErr 1 n = 0 := by simp [vErr, h]
  rw [e1, e2]
  rw [h] at HM
  clear h e1 e2
  go_enter Tryz.func71, Tryz.ntmps71
  go_wp2_with (fail)
  refine (HM.out _).mono ?_
  rintro e w1 ⟨rfl, hb1⟩
  obtain ⟨hc1, hf1⟩ := bcell hb1
  have hz1 := hb1.size
  try simp at hz1
  have hl1_0 : w.heap.size < w1.heap.size := by omega
  have hl1_0_1 : w.heap.size < w1.heap.size + 1 := by omega
  have hl1_0_2 : w.heap.size < w1.heap.size + 1 + 1 := by omega
  have hl1_0_3 : w.heap.size < w1.heap.size + 1 + 1 + 1 := by omega
  have hl1_0_4 : w.heap.size < w1.heap.size + 1 + 1 + 1 + 1 := by omega
  have hl1_0_5 : w.heap.size < w1.heap.size + 1 + 1 + 1 + 1 + 1 := by omega
  go_wp2_with (first | (go_at_call 100; refine (HP.out _).mono ?_; rintro e w2 ⟨rfl, hb2⟩) | go_in)
  go_returns
  exact ⟨rfl, by (repeat' (first | (with_reducible exact Below.refl _ _) | (with_reducible assumption) | (refine below_next ?_ (by with_reducible assumption)) | (with_reducible refine Below.alloc ?_ ?_ _) | (with_reducible refine Below.drew ?_) | (with_reducible refine below_drewN ?_ _) | omega | (simp; done) | (simp; omega)))⟩
 ·have e1 : vTxt 0 0 = [110, 105, 108] := by simp [vTxt, h]
  have e2 : vErr 0 0 = 0 := by simp [vErr, h]
  rw [e1, e2]
  rw [h] at HM
  clear h e1 e2
  go_enter Tryz.func71, Tryz.ntmps71
  go_wp2_with (fail)
  refine (HM.out _).mono ?_
  rintro e w1 ⟨rfl, hb1⟩
  obtain ⟨hc1, hf1⟩ := bcell hb1
  have hz1 := hb1.size
  try simp at hz1
  have hl1_0 : w.heap.size < w1.heap.size := by omega
  have hl1_0_1 : w.heap.size < w1.heap.size + 1 := by omega
  have hl1_0_2 : w.heap.size < w1.heap.size + 1 + 1 := by omega
  have hl1_0_3 : w.heap.size < w1.heap.size + 1 + 1 + 1 := by omega
  have hl1_0_4 : w.heap.size < w1.heap.size + 1 + 1 + 1 + 1 := by omega
  have hl1_0_5 : w.heap.size < w1.heap.size + 1 + 1 + 1 + 1 + 1 := by omega
  go_wp2
  go_returns
  exact ⟨rfl, by (repeat' (first | (with_reducible exact Below.refl _ _) | (with_reducible assumption) | (refine below_next ?_ (by with_reducible assumption)) | (with_reducible refine Below.alloc ?_ ?_ _) | (with_reducible refine Below.drew ?_) | (with_reducible refine below_drewN ?_ _) | omega | (simp; done) | (simp; omega)))⟩
 ·have e1 : vTxt 2 0 = [63] := by simp [vTxt, h]
  have e2 : vErr 2 0 = 0 := by simp [vErr, h]
  rw [e1, e2]
  rw [h] at HM
  clear h e1 e2
  go_enter Tryz.func71, Tryz.ntmps71
  go_wp2_with (fail)
  refine (HM.out _).mono ?_
  rintro e w1 ⟨rfl, hb1⟩
  obtain ⟨hc1, hf1⟩ := bcell hb1
  have hz1 := hb1.size
  try simp at hz1
  have hl1_0 : w.heap.size < w1.heap.size := by omega
  have hl1_0_1 : w.heap.size < w1.heap.size + 1 := by omega
  have hl1_0_2 : w.heap.size < w1.heap.size + 1 + 1 := by omega
  have hl1_0_3 : w.heap.size < w1.heap.size + 1 + 1 + 1 := by omega
  have hl1_0_4 : w.heap.size < w1.heap.size + 1 + 1 + 1 + 1 := by omega
  have hl1_0_5 : w.heap.size < w1.heap.size + 1 + 1 + 1 + 1 + 1 := by omega
  go_wp2
  go_returns
  exact ⟨rfl, by (repeat' (first | (with_reducible exact Below.refl _ _) | (with_reducible assumption) | (refine below_next ?_ (by with_reducible assumption)) | (with_reducible refine Below.alloc ?_ ?_ _) | (with_reducible refine Below.drew ?_) | (with_reducible refine below_drewN ?_ _) | omega | (simp; done) | (simp; omega)))⟩
 ·have h : mayV k n = false := by
   rcases h' with ⟨-, -, -, h⟩ | ⟨-, -, -, h⟩ | ⟨-, -, -, -, h⟩ <;> exact h
  have e1 : vTxt k n = [] := by simp [vTxt, h]
  have e2 : vErr k n = 4 := by simp [vErr, h]
  rw [e1, e2]
  rw [h] at HM
  clear h h' e1 e2
  go_enter Tryz.func71, Tryz.ntmps71
  go_wp2_with (fail)
  refine (HM.out _).mono ?_
  rintro e w1 ⟨rfl, hb1⟩
  obtain ⟨hc1, hf1⟩ := bcell hb1
  have hz1 := hb1.size
  try simp at hz1
  have hl1_0 : w.heap.size < w1.heap.size := by omega
  have hl1_0_1 : w.heap.size < w1.heap.size + 1 := by omega
  have hl1_0_2 : w.heap.size < w1.heap.size + 1 + 1 := by omega
  have hl1_0_3 : w.heap.size < w1.heap.size + 1 + 1 + 1 := by omega
  have hl1_0_4 : w.heap.size < w1.heap.size + 1 + 1 + 1 + 1 := by omega
  have hl1_0_5 : w.heap.size < w1.heap.size + 1 + 1 + 1 + 1 + 1 := by omega
  go_wp2
  go_returns
  exact ⟨rfl, by (repeat' (first | (with_reducible exact Below.refl _ _) | (with_reducible assumption) | (refine below_next ?_ (by with_reducible assumption)) | (with_reducible refine Below.alloc ?_ ?_ _) | (with_reducible refine Below.drew ?_) | (with_reducible refine below_drewN ?_ _) | omega | (simp; done) | (simp; omega)))⟩
set_option maxHeartbeats 2000000 in
theorem refvprint_any (k n : Int) (h0 : -9223372036854775808 ≤ n) (h1 : n ≤ 9223372036854775807) (w : World) :
  Calls Tryz.prog 74 #[.agg #[.int .i64 k, .int .i64 n]] w fun e w' => e = .returned (.tuple #[.string (bs (vTxt k n)), .int .i64 (vErr k n)]) ∧ Below w.heap.size w w' := by
 have HP := Lib.hid (refprint_any n h0 h1)
 have HM := Lib.hid (refmay_any k n)
 clear h0 h1
 rcases may_cases k n with ⟨rfl, h⟩ | ⟨rfl, rfl, h⟩ | ⟨rfl, rfl, h⟩ | h'
 ·have e1 : vTxt 1 n = printL n := by simp [vTxt, h]
  have e2 : vErr 1 n = 0 := by simp [vErr, h]
  rw [e1, e2]
  rw [h] at HM
  clear h e1 e2
  go_enter Tryz.func74, Tryz.ntmps74
  go_wp2_with (fail)
  refine (HM.out _).mono ?_
  rintro e w1 ⟨rfl, hb1⟩
  obtain ⟨hc1, hf1⟩ := bcell hb1
  have hz1 := hb1.size
  try simp at hz1
  have hl1_0 : w.heap.size < w1.heap.size := by omega
  go_wp2_with (first | (go_at_call 102; refine (HP.out _).mono ?_; rintro e w2 ⟨rfl, hb2⟩) | go_in)
  go_returns
  exact ⟨rfl, by (repeat' (first | (with_reducible exact Below.refl _ _) | (with_reducible assumption) | (refine below_next ?_ (by with_reducible assumption)) | (with_reducible refine Below.alloc ?_ ?_ _) | (with_reducible refine Below.drew ?_) | (with_reducible refine below_drewN ?_ _) | omega | (simp; done) | (simp; omega)))⟩
 ·have e1 : vTxt 0 0 = [110, 105, 108] := by simp [vTxt, h]
  have e2 : vErr 0 0 = 0 := by simp [vErr, h]
  rw [e1, e2]
  rw [h] at HM
  clear h e1 e2
  go_enter Tryz.func74, Tryz.ntmps74
  go_wp2_with (fail)
  refine (HM.out _).mono ?_
  rintro e w1 ⟨rfl, hb1⟩
  obtain ⟨hc1, hf1⟩ := bcell hb1
  have hz1 := hb1.size
  try simp at hz1
  have hl1_0 : w.heap.size < w1.heap.size := by omega
  go_wp2
  go_returns
  exact ⟨rfl, by (repeat' (first | (with_reducible exact Below.refl _ _) | (with_reducible assumption) | (refine below_next ?_ (by with_reducible assumption)) | (with_reducible refine Below.alloc ?_ ?_ _) | (with_reducible refine Below.drew ?_) | (with_reducible refine below_drewN ?_ _) | omega | (simp; done) | (simp; omega)))⟩
 ·have e1 : vTxt 2 0 = [63] := by simp [vTxt, h]
  have e2 : vErr 2 0 = 0 := by simp [vErr, h]
  rw [e1, e2]
  rw [h] at HM
  clear h e1 e2
  go_enter Tryz.func74, Tryz.ntmps74
  go_wp2_with (fail)
  refine (HM.out _).mono ?_
  rintro e w1 ⟨rfl, hb1⟩
  obtain ⟨hc1, hf1⟩ := bcell hb1
  have hz1 := hb1.size
  try simp at hz1
  have hl1_0 : w.heap.size < w1.heap.size := by omega
  go_wp2
  go_returns
  exact ⟨rfl, by (repeat' (first | (with_reducible exact Below.refl _ _) | (with_reducible assumption) | (refine below_next ?_ (by with_reducible assumption)) | (with_reducible refine Below.alloc ?_ ?_ _) | (with_reducible refine Below.drew ?_) | (with_reducible refine below_drewN ?_ _) | omega | (simp; done) | (simp; omega)))⟩
 ·have h : mayV k n = false := by
   rcases h' with ⟨-, -, -, h⟩ | ⟨-, -, -, h⟩ | ⟨-, -, -, -, h⟩ <;> exact h
  have e1 : vTxt k n = [] := by simp [vTxt, h]
  have e2 : vErr k n = 4 := by simp [vErr, h]
  rw [e1, e2]
  rw [h] at HM
  clear h h' e1 e2
  go_enter Tryz.func74, Tryz.ntmps74
  go_wp2_with (fail)
  refine (HM.out _).mono ?_
  rintro e w1 ⟨rfl, hb1⟩
  obtain ⟨hc1, hf1⟩ := bcell hb1
  have hz1 := hb1.size
  try simp at hz1
  have hl1_0 : w.heap.size < w1.heap.size := by omega
  go_wp2
  go_returns
  exact ⟨rfl, by (repeat' (first | (with_reducible exact Below.refl _ _) | (with_reducible assumption) | (refine below_next ?_ (by with_reducible assumption)) | (with_reducible refine Below.alloc ?_ ?_ _) | (with_reducible refine Below.drew ?_) | (with_reducible refine below_drewN ?_ _) | omega | (simp; done) | (simp; omega)))⟩
theorem vparse_cases (l : List UInt8) : (l = [110, 105, 108] ∧ vParse l = (0, 0, 0)) ∨ (l = [63] ∧ vParse l = (2, 0, 0)) ∨
  ((l == [110, 105, 108]) = false ∧ (l == [63]) = false ∧ ∃ v, parseL l = (v, 0) ∧ vParse l = (1, v, 0)) ∨
  ((l == [110, 105, 108]) = false ∧ (l == [63]) = false ∧ ∃ v c, parseL l = (v, c) ∧ (c != 0) = true ∧ vParse l = (0, 0, c)) := by
 by_cases h1 : l = [110, 105, 108]
 ·exact .inl ⟨h1, by simp [vParse, h1]⟩
 by_cases h2 : l = [63]
 ·exact .inr (.inl ⟨h2, by simp [vParse, h2]⟩)
 have e1 : (l == [110, 105, 108]) = false := by simpa using h1
 have e2 : (l == [63]) = false := by simpa using h2
 obtain ⟨v, c, hp⟩ : ∃ v c, parseL l = (v, c) := ⟨_, _, rfl⟩
 by_cases hc : c = 0
 ·subst hc
  exact .inr (.inr (.inl ⟨e1, e2, v, hp, by simp [vParse, h1, h2, hp]⟩))
 ·exact .inr (.inr (.inr ⟨e1, e2, v, c, hp, by simpa using hc, by simp [vParse, h1, h2, hp, hc]⟩))
theorem refparse_at (l : List UInt8) (v c : Int) (hs : l.length ≤ 9223372036854775806) (h : parseL l = (v, c)) (w : World) :
  Calls Tryz.prog 116 #[.string (bs l)] w fun e w' => e = .returned (.tuple #[.int .i64 v, .int .i64 c]) ∧ w = w' := by
 have := refparse_any l hs w
 rwa [h] at this
set_option maxHeartbeats 2000000 in
theorem vparse_of (l : List UInt8) (a b c : Int) (hs : l.length ≤ 9223372036854775806) (h : vParse l = (a, b, c)) (w : World) :
  Calls Tryz.prog 109 #[.string (bs l)] w fun e w' => e = .returned (.tuple #[.agg #[.int .i64 a, .int .i64 b], .int .i64 c]) ∧ Below w.heap.size w w' := by
 rcases vparse_cases l with ⟨rfl, h'⟩ | ⟨rfl, h'⟩ | ⟨h1, h2, v, hp, h'⟩ | ⟨h1, h2, v, c', hp, hc, h'⟩
 all_goals
  rw [h'] at h
  simp only [Prod.mk.injEq] at h
  obtain ⟨rfl, rfl, rfl⟩ := h
  clear h'
 ·go_enter Tryz.func109, Tryz.ntmps109
  go_wp2
  go_returns
  exact ⟨rfl, by go_grown⟩
 ·go_enter Tryz.func109, Tryz.ntmps109
  go_wp2
  go_returns
  exact ⟨rfl, by go_grown⟩
 all_goals
  have HP := Lib.hid (parse_at l _ _ hs hp)
  clear hp hs
  go_enter Tryz.func109, Tryz.ntmps109
  go_wp2_with (go_at_call 128; refine (HP.out _).mono ?_; rintro e w1 ⟨rfl, rfl⟩)
  go_returns
  exact ⟨rfl, by go_grown⟩
set_option maxHeartbeats 2000000 in
theorem refvparse_of (l : List UInt8) (a b c : Int) (hs : l.length ≤ 9223372036854775806) (h : vParse l = (a, b, c)) (w : World) :
  Calls Tryz.prog 86 #[.string (bs l)] w fun e w' => e = .returned (.tuple #[.agg #[.int .i64 a, .int .i64 b], .int .i64 c]) ∧ Below w.heap.size w w' := by
 rcases vparse_cases l with ⟨rfl, h'⟩ | ⟨rfl, h'⟩ | ⟨h1, h2, v, hp, h'⟩ | ⟨h1, h2, v, c', hp, hc, h'⟩
 all_goals
  rw [h'] at h
  simp only [Prod.mk.injEq] at h
  obtain ⟨rfl, rfl, rfl⟩ := h
  clear h'
 ·go_enter Tryz.func86, Tryz.ntmps86
  go_wp2
  go_returns
  exact ⟨rfl, by go_grown⟩
 ·go_enter Tryz.func86, Tryz.ntmps86
  go_wp2
  go_returns
  exact ⟨rfl, by go_grown⟩
 all_goals
  have HP := Lib.hid (refparse_at l _ _ hs hp)
  clear hp hs
  go_enter Tryz.func86, Tryz.ntmps86
  go_wp2_with (go_at_call 116; refine (HP.out _).mono ?_; rintro e w1 ⟨rfl, rfl⟩)
  go_returns
  exact ⟨rfl, by go_grown⟩
end Go.Proofs.YthgbfaoblnkniaaGreatDoor

namespace Go.Proofs.YthgbfaoblnkniaaGreatDoor
open Go.RowKit
theorem val_back (k n : Int) (h0 : -9223372036854775808 ≤ n) (h1 : n ≤ 9223372036854775807) (hm : mayV k n = true) : vParse (vTxt k n) = (k, n, 0) := by
 rcases may_cases k n with ⟨rfl, h⟩ | ⟨rfl, rfl, h⟩ | ⟨rfl, rfl, h⟩ | h'
 ·have e1 : vTxt 1 n = printL n := by simp [vTxt, h]
  have hp := parse_print n h0 h1
  have hd := digL_print n
  have n1 : printL n ≠ [110, 105, 108] := fun e => by rw [e] at hd; exact absurd hd (by decide)
  have n2 : printL n ≠ [63] := fun e => by rw [e] at hd; exact absurd hd (by decide)
  rw [e1]; simp [vParse, n1, n2, hp]
 ·rw [show vTxt 0 0 = [110, 105, 108] by simp [vTxt, h]]; simp [vParse]
 ·rw [show vTxt 2 0 = [63] by simp [vTxt, h]]; simp [vParse]
 ·have h : mayV k n = false := by
   rcases h' with ⟨-, -, -, h⟩ | ⟨-, -, -, h⟩ | ⟨-, -, -, -, h⟩ <;> exact h
  rw [h] at hm; exact absurd hm (by decide)
theorem txt_len (k n : Int) (h0 : -9223372036854775808 ≤ n) (h1 : n ≤ 9223372036854775807) : (vTxt k n).length ≤ 20 := by
 unfold vTxt
 split
 ·split
  ·exact print_len n h0 h1
  ·split <;> simp
 ·simp
end Go.Proofs.YthgbfaoblnkniaaGreatDoor

namespace Go.Proofs.YthgbfaoblnkniaaGreatDoor
open Go.RowKit Go.Lib
def mayE (x : EventM) : Bool := decide (1 ≤ x.1) && (decide (x.1 ≤ 6) && (nameL x.2.1 &&
 (if longK x.1 then nameL x.2.2.1 && (mayV x.2.2.2.1 x.2.2.2.2.1 && (x.1 == 2 || x.2.2.2.1 == 1)) else decide (x.2.2.1 = []) && (x.2.2.2.1 == 0 && x.2.2.2.2.1 == 0))))
def wordsE (x : EventM) : List (List UInt8) := if longK x.1 then [kindW x.1, x.2.1, x.2.2.1, vTxt x.2.2.2.1 x.2.2.2.2.1] else [kindW x.1, x.2.1]
def lineE (x : EventM) : List UInt8 := if mayE x then join (wordsE x) [32] else []
def errE (x : EventM) : Int := if mayE x then 0 else 4
def valuedE (k : Int) (s key t : List UInt8) : EventM × Int :=
 if (vParse t).2.2 ≠ 0 then (noEv, (vParse t).2.2) else if k = 3 ∧ (vParse t).1 = 0 then (noEv, 11) else if k = 3 ∧ (vParse t).1 = 2 then (noEv, 5) else ((k, s, key, (vParse t).1, (vParse t).2.1, 0), 0)
def headE (L : List (List UInt8)) : Bool := decide (kindL (L.getD 0 []) ≠ 0) && (decide (L.length = if longK (kindL (L.getD 0 [])) then 4 else 2) && (nameL (L.getD 1 []) && (!longK (kindL (L.getD 0 [])) || nameL (L.getD 2 []))))
def readE (L : List (List UInt8)) : EventM × Bool × Int :=
 if headE L = false then (noEv, false, 5)
 else if longK (kindL (L.getD 0 [])) then ((valuedE (kindL (L.getD 0 [])) (L.getD 1 []) (L.getD 2 []) (L.getD 3 [])).1, decide ((valuedE (kindL (L.getD 0 [])) (L.getD 1 []) (L.getD 2 []) (L.getD 3 [])).2 = 0), (valuedE (kindL (L.getD 0 [])) (L.getD 1 []) (L.getD 2 []) (L.getD 3 [])).2)
 else ((kindL (L.getD 0 []), L.getD 1 [], [], 0, 0, 0), true, 0)
def parseE (s : List UInt8) : EventM × Bool × Int :=
 if (wordsR s).2 ≠ 0 ∨ (wordsR s).1 = [] then (noEv, false, ((wordsR s).2 : Int)) else readE ((wordsR s).1.map (·.1))
theorem u8_back (x : Int) (h0 : 0 ≤ x) (h : x < 256) : ((x.toNat.toUInt8).toNat : Int) = x := by
 simp only [Nat.toUInt8, UInt8.toNat_ofNat']
 omega
theorem encode_high (c : Nat) (h : 127 < c) (hs : c ≤ 1114111) : ∀ b ∈ encodeRune (c : Int), 128 ≤ b.toNat := by
 have key : ∀ x ∈ encodeRuneZ (c : Int), 128 ≤ x ∧ x < 256 := by
  intro x hx
  unfold encodeRuneZ at hx
  (repeat' split at hx) <;> simp only [List.mem_cons, List.not_mem_nil, or_false] at hx <;> omega
 intro b hb
 obtain ⟨x, hx, rfl⟩ := List.mem_map.1 hb
 have hk := key x hx
 have := u8_back x (by omega) (by omega)
 omega
theorem encode_low (c : Nat) (h : c ≤ 127) : encodeRune (c : Int) = [UInt8.ofNat c] := by
 rw [encodeRune, encodeRuneZ_one (by omega) (by omega)]
 simp
theorem low_rune (l : List UInt8) (hv : validD l = true) (b : UInt8) (hb : b ∈ l) (hl : b.toNat < 128) : b.toNat ∈ runesU l := by
 have e := textU_runes _ l (Nat.le_refl _) hv
 rw [← e] at hb
 obtain ⟨c, hc, hb⟩ := List.mem_flatMap.1 hb
 by_cases h : c ≤ 127
 ·rw [encode_low c h] at hb
  obtain rfl : b = UInt8.ofNat c := by simpa using hb
  rw [UInt8.toNat_ofNat', Nat.mod_eq_of_lt (by omega)]
  exact hc
 ·have := encode_high c (by omega) (runesU_rune l c hc) b hb
  omega
theorem name_word (l : List UInt8) (h : nameL l = true) : WordT l := by
 unfold nameL at h
 simp only [Bool.and_eq_true] at h
 obtain ⟨⟨-, hv⟩, hw⟩ := h
 unfold word at hw
 simp only [Bool.and_eq_true, decide_eq_true_eq, List.all_eq_true] at hw
 obtain ⟨⟨⟨h0, -⟩, hp⟩, -⟩ := hw
 have key : ∀ b ∈ l, b.toNat < 128 → part b.toNat = true := fun b hb hl => hp _ (low_rune l hv b hb hl)
 refine ⟨fun e => by subst e; simp [runesU_nil] at h0, fun b hb => ?_, hv, fun b hb => ?_⟩
 ·cases hbl : blankB b with
  | false => rfl
  | true =>
   have hlow := blankB_low b hbl
   have := key b hb hlow
   unfold blankB blankR at hbl
   unfold part dig at this
   simp at hbl this
   omega
 ·constructor
  ·rintro rfl
   exact absurd (key 35 hb (by decide)) (by decide)
  ·rintro rfl
   exact absurd (key 10 hb (by decide)) (by decide)
theorem dig_word (l : List UInt8) (h0 : l ≠ []) (h : ∀ b ∈ l, b.toNat < 128 ∧ blankB b = false ∧ b ≠ 35 ∧ b ≠ 10) : WordT l := by
 refine ⟨h0, fun b hb => (h b hb).2.1, ?_, fun b hb => (h b hb).2.2⟩
 clear h0
 induction l with
 | nil => rfl
 | cons b t ih =>
  have hb := h b (List.mem_cons_self ..)
  have e := valid_cut _ [] t b (Nat.le_refl _) hb.1
  rw [List.nil_append] at e
  rw [e, ih (fun c hc => h c (List.mem_cons_of_mem _ hc))]
  rfl
theorem print_bytes (n : Int) : ∀ b ∈ printL n, b = 45 ∨ isDig b = true := by
 intro b hb
 unfold printL at hb
 have := decL_all n.natAbs
 rw [List.all_eq_true] at this
 split at hb
 ·rcases List.mem_cons.1 hb with rfl | hb
  ·exact .inl rfl
  ·exact .inr (this b hb)
 ·exact .inr (this b hb)
theorem print_ne (n : Int) : printL n ≠ [] := by
 unfold printL
 split
 ·simp
 ·exact decL_ne _
theorem val_word (k n : Int) (h : mayV k n = true) : WordT (vTxt k n) := by
 unfold vTxt
 rw [if_pos h]
 split
 ·refine dig_word _ (print_ne n) fun b hb => ?_
  rcases print_bytes n b hb with rfl | hd
  ·decide
  ·have hd' := (isDig_iff b).1 hd
   refine ⟨by omega, ?_, ?_, ?_⟩
   ·unfold blankB blankR; simp; omega
   ·rintro rfl; exact absurd hd (by decide)
   ·rintro rfl; exact absurd hd (by decide)
 ·split
  ·exact dig_word _ (by decide) (by decide)
  ·exact dig_word _ (by decide) (by decide)
theorem kind_word (k : Int) (h0 : 1 ≤ k) (h1 : k ≤ 6) : WordT (kindW k) ∧ kindL (kindW k) = k := by
 have : k = 1 ∨ k = 2 ∨ k = 3 ∨ k = 4 ∨ k = 5 ∨ k = 6 := by omega
 rcases this with rfl | rfl | rfl | rfl | rfl | rfl <;> exact ⟨dig_word _ (by decide) (by decide), by decide⟩
theorem kindL_range (l : List UInt8) : 0 ≤ kindL l ∧ kindL l ≤ 6 := by
 unfold kindL
 (repeat' split) <;> decide
theorem words_join (L : List (List UInt8)) (hw : ∀ x ∈ L, WordT x) : (wordsR (join L [32])).2 = 0 ∧ (wordsR (join L [32])).1.map (·.1) = L := by
 obtain ⟨h1, h2⟩ := join_valid L hw
 have e2 : wordsR (join L [32]) = (wordsL (join L [32]), 0) := by
  unfold wordsR
  rw [if_pos (by rw [h1, feed_false _ (fun b hb => (h2 b hb).2)]; rfl), ahead_same _ (fun b hb => (h2 b hb).1)]
 rw [e2]
 exact ⟨rfl, by rw [words_texts, texts_join L hw]⟩
theorem may_words (x : EventM) (h : mayE x = true) : ∀ t ∈ wordsE x, WordT t := by
 unfold mayE at h
 simp only [Bool.and_eq_true, decide_eq_true_eq] at h
 obtain ⟨h0, h1, hs, hr⟩ := h
 have hk := (kind_word x.1 h0 h1).1
 have hn := name_word _ hs
 unfold wordsE
 cases hl : longK x.1 with
 | false =>
  simp only [Bool.false_eq_true, if_false]
  intro t ht
  simp at ht
  rcases ht with rfl | rfl
  ·exact hk
  ·exact hn
 | true =>
  rw [hl] at hr
  simp only [if_true, Bool.and_eq_true] at hr
  obtain ⟨hkey, hv, -⟩ := hr
  simp only [if_true]
  intro t ht
  simp at ht
  rcases ht with rfl | rfl | rfl | rfl
  ·exact hk
  ·exact hn
  ·exact name_word _ hkey
  ·exact val_word _ _ hv
theorem read_words (x : EventM) (h : mayE x = true) (h0 : -9223372036854775808 ≤ x.2.2.2.2.1) (h1 : x.2.2.2.2.1 ≤ 9223372036854775807) : readE (wordsE x) = ((x.1, x.2.1, x.2.2.1, x.2.2.2.1, x.2.2.2.2.1, 0), true, 0) := by
 obtain ⟨k, s, key, vk, n, ln⟩ := x
 simp only at h0 h1
 unfold mayE at h
 simp only [Bool.and_eq_true, decide_eq_true_eq] at h
 obtain ⟨hk0, hk1, hs, hr⟩ := h
 have hk := (kind_word k hk0 hk1).2
 unfold wordsE
 simp only
 cases hl : longK k with
 | false =>
  rw [hl] at hr
  simp only [Bool.false_eq_true, if_false, Bool.and_eq_true, decide_eq_true_eq, beq_iff_eq] at hr
  obtain ⟨rfl, rfl, rfl⟩ := hr
  have hh : headE [kindW k, s] = true := by
   unfold headE
   simp [hk, hl, hs]
   omega
  unfold readE
  simp only [Bool.false_eq_true, if_false]
  rw [if_neg (by rw [hh]; decide)]
  simp [hk, hl]
 | true =>
  rw [hl] at hr
  simp only [if_true, Bool.and_eq_true] at hr
  obtain ⟨hkey, hv, hw⟩ := hr
  have hh : headE [kindW k, s, key, vTxt vk n] = true := by
   unfold headE
   simp [hk, hl, hs, hkey]
   omega
  have hb := val_back vk n h0 h1 hv
  have hvv : valuedE k s key (vTxt vk n) = ((k, s, key, vk, n, 0), 0) := by
   unfold valuedE
   rw [hb]
   have h3 : k = 3 → vk = 1 := by
    intro e
    subst e
    simpa using hw
   rw [if_neg (by simp), if_neg (by rintro ⟨a, b⟩; have := h3 a; simp at b; omega), if_neg (by rintro ⟨a, b⟩; have := h3 a; simp at b; omega)]
  unfold readE
  simp only [if_true]
  rw [if_neg (by rw [hh]; decide)]
  simp [hk, hl, hvv]
theorem parse_line (x : EventM) (h : mayE x = true) (h0 : -9223372036854775808 ≤ x.2.2.2.2.1) (h1 : x.2.2.2.2.1 ≤ 9223372036854775807) : parseE (lineE x) = ((x.1, x.2.1, x.2.2.1, x.2.2.2.1, x.2.2.2.2.1, 0), true, 0) := by
 obtain ⟨e1, e2⟩ := words_join (wordsE x) (may_words x h)
 unfold lineE parseE
 rw [if_pos h, if_neg, e2, read_words x h h0 h1]
 rintro (h3 | h3)
 ·exact h3 e1
 ·rw [h3] at e2
  unfold wordsE at e2
  split at e2 <;> simp at e2
theorem parse_digs (t : List UInt8) (h : (vParse t).2.2 = 0) : mayV (vParse t).1 (vParse t).2.1 = true := by
 unfold vParse at h ⊢
 (repeat' split) <;> simp_all [mayV]
theorem read_may (L : List (List UInt8)) (h : (readE L).2.1 = true) : (readE L).2.2 = 0 ∧ mayE (readE L).1 = true := by
 unfold readE at h ⊢
 by_cases hh : headE L = false
 ·rw [if_pos hh] at h; cases h
 ·rw [if_neg hh] at h ⊢
  have hh' : headE L = true := by simpa using hh
  clear hh
  unfold headE at hh'
  have hkr := kindL_range (L.getD 0 [])
  generalize kindL (L.getD 0 []) = K at *
  generalize L.getD 1 [] = n1 at *
  generalize L.getD 2 [] = n2 at *
  generalize L.getD 3 [] = t at *
  simp only [Bool.and_eq_true, decide_eq_true_eq] at hh'
  obtain ⟨hk0, -, hn, hn2⟩ := hh'
  cases hl : longK K with
  | false =>
   rw [if_neg (by simp)]
   refine ⟨rfl, ?_⟩
   unfold mayE
   simp only [hl, hn]
   simp
   omega
  | true =>
   rw [hl] at h hn2
   rw [if_pos rfl] at h ⊢
   have hm := parse_digs t
   unfold valuedE at h ⊢
   obtain ⟨a, b, c, hp⟩ : ∃ a b c, vParse t = (a, b, c) := ⟨_, _, _, rfl⟩
   rw [hp] at h hm ⊢
   simp only at h hm ⊢
   have hn2' : nameL n2 = true := by simpa using hn2
   by_cases h1 : c = 0
   ·subst h1
    have hm' := hm rfl
    rw [if_neg (by simp)] at h ⊢
    by_cases h2 : K = 3 ∧ a = 0
    ·rw [if_pos h2] at h; simp at h
    ·rw [if_neg h2] at h ⊢
     by_cases h3 : K = 3 ∧ a = 2
     ·rw [if_pos h3] at h; simp at h
     ·rw [if_neg h3]
      refine ⟨rfl, ?_⟩
      unfold mayE
      simp only [hl, if_true, hn, hm', hn2']
      have hk23 : K = 2 ∨ K = 3 := by
       unfold longK at hl
       simpa using hl
      have hv : K = 3 → a = 1 := by
       intro e
       have a0 : a ≠ 0 := fun b => h2 ⟨e, b⟩
       have a2 : a ≠ 2 := fun b => h3 ⟨e, b⟩
       unfold mayV at hm'
       simp at hm'
       omega
      rcases hk23 with e | e
      ·simp [e]
      ·simp [e, hv e]
   ·rw [if_pos (by simpa using h1)] at h
    simp at h
    exact absurd h h1
theorem parse_may (s : List UInt8) (h : (parseE s).2.1 = true) : (parseE s).2.2 = 0 ∧ mayE (parseE s).1 = true := by
 unfold parseE at h ⊢
 split
 ·rename_i hc
  rw [if_pos hc] at h
  simp at h
 ·rename_i hc
  rw [if_neg hc] at h
  exact read_may _ h
end Go.Proofs.YthgbfaoblnkniaaGreatDoor
