/-
  The walks of Parse, of package digit and of its reference: a text's number, or the error. Texts of at most 2^62 bytes (every readable text is shorter).
  The walks of Print, of package digit and of its reference: any number's text. No conditions but that the number is an int64.
  Layer 3 (digit): what reading a text gives, at a known answer; how great it may be. Texts of at most 2^63 - 2 bytes.
  The walks of layer 5 (value): May, Print, Parse, Less, of the package and of its reference; each leaves all memory that was there as it was. Texts of at most 2^63 - 2 bytes.
  Layer 7 (event) in plain words: which events may be, their lines, what a line is read as; that reading undoes printing, and that what is read may be; no program in sight. No conditions.
  Layer 8 (log) in plain words: what a text is read as, a log's text, how many events are of a kind; that reading undoes printing; no program in sight. No conditions.
  The walks of layer 7 (event): the kind of a first word, whether events of a kind are long; the reference's list of words. Condition: event.words holds what its initialiser lays.
-/
import Derived.Test.YtmgchjddpmmglaaGreatDoorQAc
namespace Go.Proofs.YtmgchjddpmmglaaGreatDoor
section
open Go.RowKit
theorem fold_none (t : List UInt8) (k : Nat) (h : foldP (t.take k) = none) : foldP t = none := by
 have e : foldP t = (t.drop k).foldl stepP (foldP (t.take k)) := by
  unfold foldP; rw [← List.foldl_append, List.take_append_drop]
 rw [e, h]
 generalize t.drop k = r
 induction r with
 | nil => rfl
 | cons a r ih => simpa [stepP] using ih
theorem fold_succ (t : List UInt8) (k : Nat) (hk : k < t.length) (n : Int) (h : foldP (t.take k) = some n) : foldP (t.take (k + 1)) = stepP (some n) t[k] := by
 rw [List.take_succ_eq_append_getElem hk, foldP_snoc, h]
theorem step_over (n : Int) (c : UInt8) (h : n < -922337203685477580 ∨ (n = -922337203685477580 ∧ 56 < c.toNat)) : stepP (some n) c = none := by
 simp only [stepP, Option.bind_some]
 rw [if_pos (by omega)]
theorem step_on (n : Int) (c : UInt8) (h1 : 48 ≤ c.toNat) (h : ¬ (n < -922337203685477580 ∨ (n = -922337203685477580 ∧ 56 < c.toNat))) : stepP (some n) c = some (n * 10 - ((c.toNat : Int) - 48)) := by
 simp only [stepP, Option.bind_some]
 rw [if_neg (by omega)]; congr 1; omega
theorem parse_over (l : List UInt8) (hd : digL l = true) (h : foldP (restL l) = none) : parseL l = (0, 8) := by
 unfold parseL; rw [if_pos hd, h]
theorem parse_neg (l : List UInt8) (n : Int) (hd : digL l = true) (h : foldP (restL l) = some n) (hn : negL l = true) : parseL l = (n, 0) := by
 unfold parseL; rw [if_pos hd, h]; simp [hn]
theorem parse_least (l : List UInt8) (n : Int) (hd : digL l = true) (h : foldP (restL l) = some n) (hn : negL l = false) (hl : n = -9223372036854775808) : parseL l = (0, 8) := by
 unfold parseL; rw [if_pos hd, h]; simp [hn, hl]
theorem parse_pos (l : List UInt8) (n : Int) (hd : digL l = true) (h : foldP (restL l) = some n) (hn : negL l = false) (hl : -9223372036854775808 < n) : parseL l = (-n, 0) := by
 unfold parseL; rw [if_pos hd, h]; simp only [hn, Bool.false_eq_true, if_false]; rw [if_neg (by omega)]
theorem parse_no (l : List UInt8) (hd : digL l = false) : parseL l = (0, 5) := by
 unfold parseL; rw [hd]; simp
theorem ret_pair {a b c d : Int} (h : (a, b) = (c, d)) : Ending.returned (.tuple #[.int .i64 a, .int .i64 b]) = .returned (.tuple #[.int .i64 c, .int .i64 d]) := by
 injection h with h1 h2; rw [h1, h2]
theorem digL_all (l : List UInt8) (h : digL l = true) : (restL l).all isDig = true := by
 unfold digL digT at h; simp only [Bool.and_eq_true] at h; exact h.2
theorem all_at (t : List UInt8) (h : t.all isDig = true) (k : Nat) (hk : k < t.length) : 48 ≤ t[k].toNat ∧ t[k].toNat ≤ 57 :=
 (isDig_iff _).1 (List.all_eq_true.1 h _ (List.getElem_mem hk))
set_option maxHeartbeats 2000000 in
theorem parse_run (l t : List UInt8) (neg : Bool) (ht : restL l = t) (hn : negL l = neg) (hd : digL l = true) (hs : l.length ≤ 9223372036854775806) (v c : Int) (hres : parseL l = (v, c)) (w : World) :
  Calls Tryz.prog 229 #[.string (bs l)] w fun e w' => e = .returned (.tuple #[.int .i64 v, .int .i64 c]) ∧ w = w' := by
 have HR := Lib.hid hres
 have HD := Lib.hid (fun W => by simpa only [hd] using digits_any l (by omega) W)
 have HC := Lib.hid (cut_of l t neg ht hn (by omega))
 have HT := Lib.hid ht
 have HN := Lib.hid hn
 have HG := Lib.hid hd
 have hta : t.all isDig = true := by rw [← ht]; exact digL_all l hd
 have HTA := Lib.hid hta
 have htl : t.length ≤ 9223372036854775806 := by have := rest_len l; rw [ht] at this; omega
 clear hres hn hd hta
 clear ht hs
 go_enter Tryz.func229, Tryz.ntmps229
 go_wp2_with (first
  | (go_at_call 245; refine (HD.out _).mono ?_; rintro e w1 ⟨rfl, rfl⟩)
  | (go_at_call 246; refine (HC.out _).mono ?_; rintro e w1 ⟨rfl, rfl⟩))
 clear HD HC
 go_loop [6, 7, 8, 19] (fun a _ _ i => ∃ (k : Nat) (n : Int), k ≤ t.length ∧ i = .int .i64 k ∧ a = .int .i64 n ∧ -9223372036854775808 ≤ n ∧ n ≤ 0 ∧ foldP (t.take k) = some n) (fun _ _ _ i => t.length - (RowKit.intOf i).toNat)
 case atStart => exact ⟨0, 0, Nat.zero_le _, rfl, rfl, by omega, by omega, rfl⟩
 case round =>
  obtain ⟨k, n, hk, rfl, rfl, hn0, hn1, hf⟩ := hrel
  have HF := Lib.hid hf
  clear hf
  by_cases hlt : k < t.length
  ·have hc1 := (all_at t HTA.out k hlt).1
   have hc2 := (all_at t HTA.out k hlt).2
   by_cases h1 : n < -922337203685477580
   ·have HX := Lib.hid (parse_over l HG.out (by rw [HT.out]; exact fold_none t (k + 1) (by rw [fold_succ t k hlt n HF.out]; exact step_over _ _ (.inl h1))))
    go_wp2
    go_ret2
    exact ⟨ret_pair (HX.out.symm.trans HR.out), rfl⟩
   ·by_cases h2 : n = -922337203685477580
    ·by_cases h3 : 56 < t[k].toNat
     ·have HX := Lib.hid (parse_over l HG.out (by rw [HT.out]; exact fold_none t (k + 1) (by rw [fold_succ t k hlt n HF.out]; exact step_over _ _ (.inr ⟨h2, h3⟩))))
      subst h2
      clear h1
      go_wp2
      go_ret2
      exact ⟨ret_pair (HX.out.symm.trans HR.out), rfl⟩
     ·have HX := Lib.hid (by rw [← step_on n t[k] hc1 (by omega)]; exact fold_succ t k hlt n HF.out : foldP (t.take (k + 1)) = some (n * 10 - ((t[k].toNat : Int) - 48)))
      subst h2
      clear h1
      have h4 : (t[k].toNat : Int) ≤ 56 := by omega
      clear h3
      go_wp2
      go_round
      case rel => exact ⟨k + 1, _, by omega, by go_num, rfl, by omega, by omega, HX.out⟩
      case measure => simp [RowKit.intOf]; omega
    ·have HX := Lib.hid (by rw [← step_on n t[k] hc1 (by omega)]; exact fold_succ t k hlt n HF.out : foldP (t.take (k + 1)) = some (n * 10 - ((t[k].toNat : Int) - 48)))
     have h3 : -922337203685477579 ≤ n := by omega
     clear h1 h2
     go_wp2
     go_round
     case rel => exact ⟨k + 1, _, by omega, by go_num, rfl, by omega, by omega, HX.out⟩
     case measure => simp [RowKit.intOf]; omega
  ·have e : t.take k = t := List.take_of_length_le (by omega)
   have hF := HF.out
   rw [e] at hF
   have HB := Lib.hid hF
   clear HF hF e
   cases neg with
   | true =>
    have HX := Lib.hid (parse_neg l n HG.out (by rw [HT.out]; exact HB.out) HN.out)
    go_wp2
    go_ret2
    exact ⟨ret_pair (HX.out.symm.trans HR.out), rfl⟩
   | false =>
    by_cases hl : n = -9223372036854775808
    ·have HX := Lib.hid (parse_least l n HG.out (by rw [HT.out]; exact HB.out) HN.out hl)
     subst hl
     clear hn0 hn1
     go_wp2
     go_ret2
     exact ⟨ret_pair (HX.out.symm.trans HR.out), rfl⟩
    ·have HX := Lib.hid (parse_pos l n HG.out (by rw [HT.out]; exact HB.out) HN.out (by omega))
     have hn2 : -9223372036854775808 < n := by omega
     clear hl hn0
     go_wp2
     go_ret2
     exact ⟨ret_pair (HX.out.symm.trans HR.out), rfl⟩
set_option maxHeartbeats 1000000 in
theorem parse_bad (l : List UInt8) (hd : digL l = false) (hs : l.length ≤ 9223372036854775806) (w : World) :
  Calls Tryz.prog 229 #[.string (bs l)] w fun e w' => e = .returned (.tuple #[.int .i64 0, .int .i64 5]) ∧ w = w' := by
 have HD := Lib.hid (fun W => by simpa only [hd] using digits_any l (by omega) W)
 clear hd hs
 go_enter Tryz.func229, Tryz.ntmps229
 go_wp2_with (go_at_call 245; refine (HD.out _).mono ?_; rintro e w1 ⟨rfl, rfl⟩)
 go_ret2
 exact ⟨rfl, rfl⟩
theorem parse_any (l : List UInt8) (hs : l.length ≤ 9223372036854775806) (w : World) :
  Calls Tryz.prog 229 #[.string (bs l)] w fun e w' => e = .returned (.tuple #[.int .i64 (parseL l).1, .int .i64 (parseL l).2]) ∧ w = w' := by
 cases hd : digL l
 ·rw [parse_no l hd]; exact parse_bad l hd hs w
 ·exact parse_run l _ _ rfl rfl hd hs _ _ rfl w
set_option maxHeartbeats 2000000 in
theorem refparse_neg (l t : List UInt8) (ht : restL l = t) (hn : negL l = true) (hl : l = 45 :: t) (hd : digL l = true) (hs : l.length ≤ 9223372036854775806) (v c : Int) (hres : parseL l = (v, c)) (w : World) :
  Calls Tryz.prog 208 #[.string (bs l)] w fun e w' => e = .returned (.tuple #[.int .i64 v, .int .i64 c]) ∧ w = w' := by
 have HR := Lib.hid hres
 have HD := Lib.hid (fun W => by simpa only [hd] using refdigits_any l (by omega) W)
 have HT := Lib.hid ht
 have HN := Lib.hid hn
 have HG := Lib.hid hd
 have hta : t.all isDig = true := by rw [← ht]; exact digL_all l hd
 have HTA := Lib.hid hta
 have htl : t.length ≤ 9223372036854775806 := by have := rest_len l; rw [ht] at this; omega
 clear hres hn hd hta
 clear ht
 subst hl
 simp only [List.length_cons] at hs
 go_enter Tryz.func208, Tryz.ntmps208
 go_wp2_with (go_at_call 233; refine (HD.out _).mono ?_; rintro e w1 ⟨rfl, rfl⟩)
 clear HD
 go_loop [5, 6, 7] (fun i a _ => ∃ (k : Nat) (n : Int), k ≤ t.length ∧ i = .int .i64 ((k : Int) + 1) ∧ a = .int .i64 n ∧ -9223372036854775808 ≤ n ∧ n ≤ 0 ∧ foldP (t.take k) = some n) (fun i _ _ => t.length + 1 - (RowKit.intOf i).toNat)
 case atStart => exact ⟨0, 0, Nat.zero_le _, by go_num, rfl, by omega, by omega, rfl⟩
 case round =>
  obtain ⟨k, n, hk, rfl, rfl, hn0, hn1, hf⟩ := hrel
  have HF := Lib.hid hf
  clear hf
  by_cases hlt : k < t.length
  ·have hc1 := (all_at t HTA.out k hlt).1
   have hc2 := (all_at t HTA.out k hlt).2
   by_cases h1 : n < -922337203685477580
   ·have HX := Lib.hid (parse_over _ HG.out (by rw [HT.out]; exact fold_none t (k + 1) (by rw [fold_succ t k hlt n HF.out]; exact step_over _ _ (.inl h1))))
    go_wp2
    go_ret2
    exact ⟨ret_pair (HX.out.symm.trans HR.out), rfl⟩
   ·by_cases h2 : n = -922337203685477580
    ·by_cases h3 : 56 < t[k].toNat
     ·have HX := Lib.hid (parse_over _ HG.out (by rw [HT.out]; exact fold_none t (k + 1) (by rw [fold_succ t k hlt n HF.out]; exact step_over _ _ (.inr ⟨h2, h3⟩))))
      subst h2
      clear h1
      go_wp2
      go_ret2
      exact ⟨ret_pair (HX.out.symm.trans HR.out), rfl⟩
     ·have HX := Lib.hid (by rw [Int.mul_comm, ← step_on n t[k] hc1 (by omega)]; exact fold_succ t k hlt n HF.out : foldP (t.take (k + 1)) = some (10 * n - ((t[k].toNat : Int) - 48)))
      subst h2
      clear h1
      have h4 : (t[k].toNat : Int) ≤ 56 := by omega
      clear h3
      go_wp2
      go_round
      case rel => exact ⟨k + 1, _, by omega, by go_num, rfl, by omega, by omega, HX.out⟩
      case measure => simp [RowKit.intOf]; omega
    ·have HX := Lib.hid (by rw [Int.mul_comm, ← step_on n t[k] hc1 (by omega)]; exact fold_succ t k hlt n HF.out : foldP (t.take (k + 1)) = some (10 * n - ((t[k].toNat : Int) - 48)))
     have h3 : -922337203685477579 ≤ n := by omega
     clear h1 h2
     go_wp2
     go_round
     case rel => exact ⟨k + 1, _, by omega, by go_num, rfl, by omega, by omega, HX.out⟩
     case measure => simp [RowKit.intOf]; omega
  ·have e : t.take k = t := List.take_of_length_le (by omega)
   have hF := HF.out
   rw [e] at hF
   have HB := Lib.hid hF
   clear HF hF e
   have HX := Lib.hid (parse_neg _ n HG.out (by rw [HT.out]; exact HB.out) HN.out)
   go_wp2
   go_ret2
   exact ⟨ret_pair (HX.out.symm.trans HR.out), rfl⟩
set_option maxHeartbeats 2000000 in
theorem refparse_pos (l t : List UInt8) (h0 : 0 < t.length) (ht : restL l = t) (hn : negL l = false) (hl : t = l) (hd : digL l = true) (hs : l.length ≤ 9223372036854775806) (v c : Int) (hres : parseL l = (v, c)) (w : World) :
  Calls Tryz.prog 208 #[.string (bs l)] w fun e w' => e = .returned (.tuple #[.int .i64 v, .int .i64 c]) ∧ w = w' := by
 have HR := Lib.hid hres
 have HD := Lib.hid (fun W => by simpa only [hd] using refdigits_any l (by omega) W)
 have HT := Lib.hid ht
 have HN := Lib.hid hn
 have HG := Lib.hid hd
 have hta : t.all isDig = true := by rw [← ht]; exact digL_all l hd
 have HTA := Lib.hid hta
 have htl : t.length ≤ 9223372036854775806 := by have := rest_len l; rw [ht] at this; omega
 clear hres hn hd hta
 clear ht
 subst hl
 have h45 : (((t[0]'h0).toNat : Int) == 45) = false := by
  have := (all_at t HTA.out 0 h0).1
  rw [beq_eq_false_iff_ne]; omega
 go_enter Tryz.func208, Tryz.ntmps208
 go_wp2_with (go_at_call 233; refine (HD.out _).mono ?_; rintro e w1 ⟨rfl, rfl⟩)
 clear HD h45
 go_loop [5, 6, 7] (fun i a _ => ∃ (k : Nat) (n : Int), k ≤ t.length ∧ i = .int .i64 k ∧ a = .int .i64 n ∧ -9223372036854775808 ≤ n ∧ n ≤ 0 ∧ foldP (t.take k) = some n) (fun i _ _ => t.length + 1 - (RowKit.intOf i).toNat)
 case atStart => exact ⟨0, 0, Nat.zero_le _, rfl, rfl, by omega, by omega, rfl⟩
 case round =>
  obtain ⟨k, n, hk, rfl, rfl, hn0, hn1, hf⟩ := hrel
  have HF := Lib.hid hf
  clear hf
  by_cases hlt : k < t.length
  ·have hc1 := (all_at t HTA.out k hlt).1
   have hc2 := (all_at t HTA.out k hlt).2
   by_cases h1 : n < -922337203685477580
   ·have HX := Lib.hid (parse_over _ HG.out (by rw [HT.out]; exact fold_none t (k + 1) (by rw [fold_succ t k hlt n HF.out]; exact step_over _ _ (.inl h1))))
    go_wp2
    go_ret2
    exact ⟨ret_pair (HX.out.symm.trans HR.out), rfl⟩
   ·by_cases h2 : n = -922337203685477580
    ·by_cases h3 : 56 < t[k].toNat
     ·have HX := Lib.hid (parse_over _ HG.out (by rw [HT.out]; exact fold_none t (k + 1) (by rw [fold_succ t k hlt n HF.out]; exact step_over _ _ (.inr ⟨h2, h3⟩))))
      subst h2
      clear h1
      go_wp2
      go_ret2
      exact ⟨ret_pair (HX.out.symm.trans HR.out), rfl⟩
     ·have HX := Lib.hid (by rw [Int.mul_comm, ← step_on n t[k] hc1 (by omega)]; exact fold_succ t k hlt n HF.out : foldP (t.take (k + 1)) = some (10 * n - ((t[k].toNat : Int) - 48)))
      subst h2
      clear h1
      have h4 : (t[k].toNat : Int) ≤ 56 := by omega
      clear h3
      go_wp2
      go_round
      case rel => exact ⟨k + 1, _, by omega, by go_num, rfl, by omega, by omega, HX.out⟩
      case measure => simp [RowKit.intOf]; omega
    ·have HX := Lib.hid (by rw [Int.mul_comm, ← step_on n t[k] hc1 (by omega)]; exact fold_succ t k hlt n HF.out : foldP (t.take (k + 1)) = some (10 * n - ((t[k].toNat : Int) - 48)))
     have h3 : -922337203685477579 ≤ n := by omega
     clear h1 h2
     go_wp2
     go_round
     case rel => exact ⟨k + 1, _, by omega, by go_num, rfl, by omega, by omega, HX.out⟩
     case measure => simp [RowKit.intOf]; omega
  ·have e : t.take k = t := List.take_of_length_le (by omega)
   have hF := HF.out
   rw [e] at hF
   have HB := Lib.hid hF
   clear HF hF e
   by_cases hl : n = -9223372036854775808
   ·have HX := Lib.hid (parse_least _ n HG.out (by rw [HT.out]; exact HB.out) HN.out hl)
    subst hl
    clear hn0 hn1
    go_wp2
    go_ret2
    exact ⟨ret_pair (HX.out.symm.trans HR.out), rfl⟩
   ·have HX := Lib.hid (parse_pos _ n HG.out (by rw [HT.out]; exact HB.out) HN.out (by omega))
    have hn2 : -9223372036854775808 < n := by omega
    clear hl hn0
    go_wp2
    go_ret2
    exact ⟨ret_pair (HX.out.symm.trans HR.out), rfl⟩
set_option maxHeartbeats 1000000 in
theorem refparse_bad (l : List UInt8) (hd : digL l = false) (hs : l.length ≤ 9223372036854775806) (w : World) :
  Calls Tryz.prog 208 #[.string (bs l)] w fun e w' => e = .returned (.tuple #[.int .i64 0, .int .i64 5]) ∧ w = w' := by
 have HD := Lib.hid (fun W => by simpa only [hd] using refdigits_any l (by omega) W)
 clear hd hs
 go_enter Tryz.func208, Tryz.ntmps208
 go_wp2_with (go_at_call 233; refine (HD.out _).mono ?_; rintro e w1 ⟨rfl, rfl⟩)
 go_ret2
 exact ⟨rfl, rfl⟩
theorem rest_pos (l : List UInt8) (hd : digL l = true) : 0 < (restL l).length := by
 unfold digL digT at hd
 simp only [Bool.and_eq_true, Bool.not_eq_true', List.isEmpty_eq_false_iff] at hd
 exact List.length_pos_iff.2 hd.1.1
theorem refparse_any (l : List UInt8) (hs : l.length ≤ 9223372036854775806) (w : World) :
  Calls Tryz.prog 208 #[.string (bs l)] w fun e w' => e = .returned (.tuple #[.int .i64 (parseL l).1, .int .i64 (parseL l).2]) ∧ w = w' := by
 cases hd : digL l
 ·rw [parse_no l hd]; exact refparse_bad l hd hs w
 ·cases hn : negL l
  ·have e : restL l = l := by simp [restL, hn]
   exact refparse_pos l l (by have := rest_pos l hd; rwa [e] at this) e hn rfl hd hs _ _ rfl w
  ·have hl : l = 45 :: restL l := by
    unfold restL; rw [if_pos hn]
    cases l with
    | nil => simp [negL] at hn
    | cons x y => simp [negL] at hn; subst hn; rfl
   exact refparse_neg l (restL l) rfl hn hl hd hs _ _ rfl w
end
section
open Go.RowKit
theorem decL_len (k m : Nat) (hk : 0 < k) (h : m < 10 ^ k) : (decL m).length ≤ k := by
 induction k generalizing m with
 | zero => omega
 | succ k ih =>
  rw [decL]
  split
  ·simp
  ·rename_i h10
   rw [Nat.pow_succ] at h
   rcases Nat.eq_zero_or_pos k with h0 | h0
   ·subst h0; simp at h; omega
   ·have := ih (m / 10) h0 (by omega)
    simp; omega
def Left (m y : Nat) (suf : List UInt8) : Prop := decL m = if suf = [] ∨ 0 < y then decL y ++ suf else suf
theorem left_step (m y : Nat) (suf : List UInt8) (h : Left m y suf) (hc : suf = [] ∨ 0 < y) : Left m (y / 10) (UInt8.ofNat (48 + y % 10) :: suf) := by
 unfold Left at *
 rw [if_pos hc] at h
 rw [h]
 by_cases h1 : 0 < y / 10
 ·rw [if_pos (.inr h1), decL, if_neg (by omega)]; simp
 ·rw [if_neg (by simpa using h1), decL, if_pos (by omega)]
  have : y % 10 = y := by omega
  rw [this]; rfl
theorem left_len (m y : Nat) (suf : List UInt8) (hm : m ≤ 9223372036854775808) (h : Left m y suf) (hc : suf = [] ∨ 0 < y) : suf.length ≤ 18 ∧ y ≤ m := by
 unfold Left at h
 rw [if_pos hc] at h
 have h1 := decL_len 19 m (by omega) (by omega)
 rw [h] at h1
 have h2 := List.length_pos_iff.2 (decL_ne y)
 rw [List.length_append] at h1
 have h3 := congrArg valL h
 rw [decL_val] at h3
 refine ⟨by omega, ?_⟩
 rw [h3]
 have : ∀ s : List UInt8, y ≤ valL (decL y ++ s) := by
  intro s
  induction s using snoc_ind with
  | h0 => simp [decL_val]
  | h1 s c ih => rw [← List.append_assoc, valL_snoc]; omega
 exact this suf
theorem left_end (m : Nat) (suf : List UInt8) (h : Left m 0 suf) (hs : suf ≠ []) : decL m = suf := by
 unfold Left at h
 rwa [if_neg (by simp [hs])] at h
def rowOf (j : Nat) (suf : List UInt8) : Array Value := (List.replicate j (Value.int .u8 0) ++ suf.map fun b => Value.int .u8 (b.toNat : Int)).toArray
theorem row_free (j : Nat) (suf : List UInt8) (h : 1 ≤ j) : (rowOf j suf)[j - 1]? = some (.int .u8 0) := by
 unfold rowOf
 rw [List.getElem?_toArray, List.getElem?_append_left (by simp; omega)]
 rw [List.getElem?_replicate, if_pos (by omega)]
theorem row_at (j : Nat) (suf : List UInt8) (q : Nat) (h : q < suf.length) : (rowOf j suf)[j + q]? = some (.int .u8 (suf[q].toNat : Int)) := by
 unfold rowOf
 rw [List.getElem?_toArray, List.getElem?_append_right (by simp)]
 simp [h]
theorem row_set (j : Nat) (suf : List UInt8) (b : UInt8) (h : 1 ≤ j) : (rowOf j suf).setIfInBounds (j - 1) (.int .u8 (b.toNat : Int)) = rowOf (j - 1) (b :: suf) := by
 obtain ⟨i, rfl⟩ : ∃ i, j = i + 1 := ⟨j - 1, by omega⟩
 unfold rowOf
 rw [List.setIfInBounds_toArray, List.replicate_succ', List.append_assoc, List.set_append_right _ _ (by simp)]
 simp
theorem cell_row {w : World} {g : Nat} {t : TypeId} {C : Array Value} (h : w.heap[g]? = some (.cells C t (0, 0))) (i : Nat) : w.cell? ⟨g, i, none⟩ = C[i]? := cell_of_row w g i C t (0, 0) h
theorem free_row {w : World} {g : Nat} {t : TypeId} {C : Array Value} (h : w.heap[g]? = some (.cells C t (0, 0))) (i : Nat) : w.frozen? ⟨g, i, none⟩ = false := by simp [World.frozen?, h]
theorem set_row {w : World} {g : Nat} {t : TypeId} {C : Array Value} (h : w.heap[g]? = some (.cells C t (0, 0))) (i : Nat) (v : Value) : (w.setCell ⟨g, i, none⟩ v).heap[g]? = some (.cells (C.setIfInBounds i v) t (0, 0)) := by
 simp [World.setCell, Array.getElem?_modify, h]
set_option maxRecDepth 100000 in
theorem slice_arr (w : World) (g : Nat) (l : Int) (j : Nat) (h0 : 0 ≤ l) (h1 : l < 20) (hl : l.toNat = j) :
  (Instr.sliceAt 267 (.pointer (some ⟨g, 0, none⟩)) (some (.int .i64 l)) none none).run Tryz.prog w = .ok (.slice (some ⟨g, j, none⟩) (20 - j) (20 - j)) w := by
 have e20 : Tryz.prog.arrayLen 267 = 20 := by kernel_rfl
 have es : (sizeOf (Tryz.prog.elem 267)).run Tryz.prog w = .ok 1 w := by kernel_rfl
 rw [run_sliceAt_array_l (P := Tryz.prog) w 267 ⟨g, 0, none⟩ (by kernel_rfl) .i64 l h0 (by rw [e20]; omega), es, e20, hl]
 simp only [Result.andThen_ok, slicedAt]
 rw [if_neg (by omega)]
 congr 3
 unfold Addr.add
 split <;> simp_all
theorem text_of_row {w : World} {g j : Nat} {t : TypeId} {suf : List UInt8} (h : w.heap[g]? = some (.cells (rowOf j suf) t (0, 0))) (n cap : Nat) (hn : suf.length = n) :
  (convert 193 9 (.slice (some ⟨g, j, none⟩) n cap)).run Tryz.prog w = .ok (.string (bs suf)) w := by
 rw [← hn]
 refine run_convert_bytes_back w _ _ 5 _ cap suf Tryz.underlying193 Tryz.underlying5 Tryz.underlying9 (fun q hq => ?_)
 have := row_at j suf q hq
 rw [← cell_row h] at this
 have e : (⟨g, j, none⟩ : Addr).add q = ⟨g, j + q, none⟩ := by unfold Addr.add; split <;> simp_all
 rw [e]; exact this
def PrintRel (m : Nat) (w : World) (X : Nat → Int) (i x : Value) (wr : World) : Prop :=
 ∃ (j y : Nat) (suf : List UInt8), j + suf.length = 20 ∧ i = .int .i64 (j : Int) ∧ x = .int .i64 (X y) ∧ Left m y suf ∧
  wr.heap[w.heap.size]? = some (.cells (rowOf j suf) 267 (0, 0)) ∧ Below w.heap.size w wr ∧ suf.length ≤ 19
set_option maxRecDepth 20000 in
set_option maxHeartbeats 2000000 in
theorem print_pos (m : Nat) (hm : m ≤ 9223372036854775807) (w : World) :
  Calls Tryz.prog 236 #[.int .i64 (m : Int)] w fun e w' => e = .returned (.string (bs (decL m))) ∧ Below w.heap.size w w' := by
 obtain ⟨out, hout⟩ : ∃ out, out = decL m := ⟨_, rfl⟩
 rw [← hout]
 have HO := Lib.hid hout
 clear hout
 go_enter Tryz.func236, Tryz.ntmps236
 go_wp2_with fail
 go_loopw [4, 5, 6] (fun i x _ wr => PrintRel m w (fun y => (y : Int)) i x wr) (fun i _ _ _ => (RowKit.intOf i).toNat)
 case atStart => exact ⟨20, m, [], rfl, rfl, rfl, by simp [Left], heap_alloc_new w _, by go_grown, by simp⟩
 case round =>
  obtain ⟨j, y, suf, hj, rfl, rfl, hL, hC, hb, hs⟩ := hrel
  have HL := Lib.hid hL
  have HJ := Lib.hid hj
  have HC := Lib.hid hC
  clear hL hC
  by_cases hc : suf = [] ∨ 0 < y
  ·have hlen := left_len m y suf (by omega) HL.out hc
   have HS := Lib.hid (left_step m y suf HL.out hc)
   have h1 : wr.cell? ⟨w.heap.size, j - 1, none⟩ = some (.int .u8 0) := by rw [cell_row HC.out]; exact row_free j suf (by omega)
   have h2 : wr.frozen? ⟨w.heap.size, j - 1, none⟩ = false := free_row HC.out _
   have hj1 : (2 : Int) ≤ (j : Int) := by omega
   have hj2 : (j : Int) ≤ 20 := by omega
   have hy0 : y ≤ 9223372036854775808 := by omega
   have hy1 : y ≤ 9223372036854775807 := by omega
   have HR := Lib.hid (set_row HC.out (j - 1) (.int .u8 (48 + (y : Int) % 10)))
   have HR2 : Hid ((rowOf j suf).setIfInBounds (j - 1) (.int .u8 (48 + (y : Int) % 10)) = rowOf (j - 1) (UInt8.ofNat (48 + y % 10) :: suf)) := by
    have := row_set j suf (UInt8.ofNat (48 + y % 10)) (by omega)
    rw [toNat_dig _ (by omega)] at this
    rw [Hid, ← this]; congr 2
   have hl2 := hlen.1
   clear hlen hj
   have hor : (j : Int) = 20 ∨ ((j : Int) < 20 ∧ 0 < y) := by
    rcases hc with rfl | hc
    ·left; have := HJ.out; simp at this; omega
    ·by_cases hj3 : (j : Int) = 20
     ·exact .inl hj3
     ·exact .inr ⟨by omega, hc⟩
   clear hc
   have hmx : max ((y : Int) % 10) (-((y : Int) % 10)) = (y : Int) % 10 := by omega
   rcases hor with h20 | ⟨h20, hy⟩
   ·have h20' : ((j : Int) == 20) = true := by simpa using h20
    clear h20
    go_wp2
    go_roundw
    case rel => exact ⟨j - 1, y / 10, _, by have := HJ.out; simp; omega, by go_num, by go_num, HS.out, by rw [HR.out, HR2.out], hb.setCell (by simp) _, by simp; omega⟩
    case measure => simp [RowKit.intOf]; omega
   ·have h20' : ((j : Int) == 20) = false := by rw [beq_eq_false_iff_ne]; omega
    have hy' : (((y : Int)) != 0) = true := by rw [bne_iff_ne]; omega
    go_wp2
    go_roundw
    case rel => exact ⟨j - 1, y / 10, _, by have := HJ.out; simp; omega, by go_num, by go_num, HS.out, by rw [HR.out, HR2.out], hb.setCell (by simp) _, by simp; omega⟩
    case measure => simp [RowKit.intOf]; omega
  ·have hsuf : suf ≠ [] := fun h => hc (.inl h)
   have hy : y = 0 := by have : ¬ 0 < y := fun h => hc (.inr h)
                         omega
   subst hy
   have hj2 : 0 < suf.length := List.length_pos_iff.2 hsuf
   have HE := Lib.hid (left_end m suf HL.out hsuf)
   clear hc hsuf
   have h20 : ((j : Int) == 20) = false := by rw [beq_eq_false_iff_ne]; omega
   have hj3 : (1 : Int) ≤ (j : Int) := by omega
   have hj4 : (j : Int) ≤ 19 := by omega
   have hcv := text_of_row HC.out (20 - j) (20 - j) (by omega)
   have hsl := slice_arr wr w.heap.size (j : Int) j (by omega) (by omega) (by omega)
   clear hj hs hj2
   go_wp2
   go_ret
   exact ⟨by rw [HO.out, HE.out]; rfl, hb⟩
set_option maxRecDepth 20000 in
set_option maxHeartbeats 2000000 in
theorem print_neg (m : Nat) (hm : m ≤ 9223372036854775808) (hm0 : 0 < m) (w : World) :
  Calls Tryz.prog 236 #[.int .i64 (-(m : Int))] w fun e w' => e = .returned (.string (bs (45 :: decL m))) ∧ Below w.heap.size w w' := by
 obtain ⟨out, hout⟩ : ∃ out, out = decL m := ⟨_, rfl⟩
 rw [← hout]
 have HO := Lib.hid hout
 clear hout
 have hmz : (-(m : Int)) < 0 := by omega
 clear hm0
 go_enter Tryz.func236, Tryz.ntmps236
 go_wp2_with fail
 go_loopw [4, 5, 6] (fun i x _ wr => PrintRel m w (fun y => -(y : Int)) i x wr) (fun i _ _ _ => (RowKit.intOf i).toNat)
 case atStart => exact ⟨20, m, [], rfl, rfl, rfl, by simp [Left], heap_alloc_new w _, by go_grown, by simp⟩
 case round =>
  obtain ⟨j, y, suf, hj, rfl, rfl, hL, hC, hb, hs⟩ := hrel
  have HL := Lib.hid hL
  have HJ := Lib.hid hj
  have HC := Lib.hid hC
  clear hL hC
  by_cases hc : suf = [] ∨ 0 < y
  ·have hlen := left_len m y suf (by omega) HL.out hc
   have HS := Lib.hid (left_step m y suf HL.out hc)
   have h1 : wr.cell? ⟨w.heap.size, j - 1, none⟩ = some (.int .u8 0) := by rw [cell_row HC.out]; exact row_free j suf (by omega)
   have h2 : wr.frozen? ⟨w.heap.size, j - 1, none⟩ = false := free_row HC.out _
   have hj1 : (2 : Int) ≤ (j : Int) := by omega
   have hj2 : (j : Int) ≤ 20 := by omega
   have hy0 : y ≤ 9223372036854775808 := by omega
   have hrem : (-(y : Int)).tmod 10 = -((y : Int) % 10) := by rw [Int.neg_tmod, Int.tmod_eq_emod_of_nonneg (by omega)]
   have hmax : (if -((y : Int) % 10) < (y : Int) % 10 then (y : Int) % 10 else -((y : Int) % 10)) = (y : Int) % 10 := by split <;> omega
   have hquo : (-(y : Int)).tdiv 10 = -((y : Int) / 10) := by rw [Int.neg_tdiv, Int.tdiv_eq_ediv_of_nonneg (by omega)]
   have HR := Lib.hid (set_row HC.out (j - 1) (.int .u8 (48 + (y : Int) % 10)))
   have HR2 : Hid ((rowOf j suf).setIfInBounds (j - 1) (.int .u8 (48 + (y : Int) % 10)) = rowOf (j - 1) (UInt8.ofNat (48 + y % 10) :: suf)) := by
    have := row_set j suf (UInt8.ofNat (48 + y % 10)) (by omega)
    rw [toNat_dig _ (by omega)] at this
    rw [Hid, ← this]; congr 2
   have hl2 := hlen.1
   clear hlen hj
   have hor : (j : Int) = 20 ∨ ((j : Int) < 20 ∧ 0 < y) := by
    rcases hc with rfl | hc
    ·left; have := HJ.out; simp at this; omega
    ·by_cases hj3 : (j : Int) = 20
     ·exact .inl hj3
     ·exact .inr ⟨by omega, hc⟩
   clear hc
   have hmx : max (-((y : Int) % 10)) ((y : Int) % 10) = (y : Int) % 10 := by omega
   rcases hor with h20 | ⟨h20, hy⟩
   ·have h20' : ((j : Int) == 20) = true := by simpa using h20
    clear h20
    go_wp2
    go_roundw
    case rel => exact ⟨j - 1, y / 10, _, by have := HJ.out; simp; omega, by go_num, by go_num, HS.out, by rw [HR.out, HR2.out], hb.setCell (by simp) _, by simp; omega⟩
    case measure => simp [RowKit.intOf]; omega
   ·have h20' : ((j : Int) == 20) = false := by rw [beq_eq_false_iff_ne]; omega
    have hy' : ((-(y : Int)) != 0) = true := by rw [bne_iff_ne]; omega
    go_wp2
    go_roundw
    case rel => exact ⟨j - 1, y / 10, _, by have := HJ.out; simp; omega, by go_num, by go_num, HS.out, by rw [HR.out, HR2.out], hb.setCell (by simp) _, by simp; omega⟩
    case measure => simp [RowKit.intOf]; omega
  ·have hsuf : suf ≠ [] := fun h => hc (.inl h)
   have hy : y = 0 := by have : ¬ 0 < y := fun h => hc (.inr h)
                         omega
   subst hy
   have hj2 : 0 < suf.length := List.length_pos_iff.2 hsuf
   have HE := Lib.hid (left_end m suf HL.out hsuf)
   clear hc hsuf
   have h20 : ((j : Int) == 20) = false := by rw [beq_eq_false_iff_ne]; omega
   have hj3 : (1 : Int) ≤ (j : Int) := by omega
   have hj4 : (j : Int) ≤ 19 := by omega
   have h1 : wr.cell? ⟨w.heap.size, j - 1, none⟩ = some (.int .u8 0) := by rw [cell_row HC.out]; exact row_free j suf (by omega)
   have h2 : wr.frozen? ⟨w.heap.size, j - 1, none⟩ = false := free_row HC.out _
   have HR : (wr.setCell ⟨w.heap.size, j - 1, none⟩ (.int .u8 45)).heap[w.heap.size]? = some (.cells (rowOf (j - 1) (45 :: suf)) 267 (0, 0)) := by
    rw [set_row HC.out (j - 1) (.int .u8 45)]
    have := row_set j suf 45 (by omega)
    rw [← this]; rfl
   have hcv := text_of_row HR (20 - (j - 1)) (20 - (j - 1)) (by simp; omega)
   have hsl := slice_arr (wr.setCell ⟨w.heap.size, j - 1, none⟩ (.int .u8 45)) w.heap.size ((j : Int) - 1) (j - 1) (by omega) (by omega) (by omega)
   clear hj hs hj2 HR
   go_wp2
   go_ret
   exact ⟨by rw [HO.out, HE.out]; rfl, hb.setCell (by simp) _⟩
theorem print_any (n : Int) (h0 : -9223372036854775808 ≤ n) (h1 : n ≤ 9223372036854775807) (w : World) :
  Calls Tryz.prog 236 #[.int .i64 n] w fun e w' => e = .returned (.string (bs (printL n))) ∧ Below w.heap.size w w' := by
 by_cases h : n < 0
 ·obtain ⟨m, rfl⟩ : ∃ m : Nat, n = -(m : Int) := ⟨n.natAbs, by omega⟩
  have e : printL (-(m : Int)) = 45 :: decL m := by unfold printL; rw [if_pos h]; congr 2; omega
  rw [e]
  exact print_neg m (by omega) (by omega) w
 ·obtain ⟨m, rfl⟩ : ∃ m : Nat, n = (m : Int) := ⟨n.toNat, by omega⟩
  have e : printL (m : Int) = decL m := by unfold printL; rw [if_neg h]; congr 1
  rw [e]
  exact print_pos m (by omega) w
theorem print_len (n : Int) (h0 : -9223372036854775808 ≤ n) (h1 : n ≤ 9223372036854775807) : (printL n).length ≤ 20 := by
 have := decL_len 19 n.natAbs (by omega) (by omega)
 unfold printL
 split <;> simp <;> omega
end
section
open Go.RowKit
theorem parse_at (l : List UInt8) (v c : Int) (hs : l.length ≤ 9223372036854775806) (h : parseL l = (v, c)) (w : World) :
  Calls Tryz.prog 229 #[.string (bs l)] w fun e w' => e = .returned (.tuple #[.int .i64 v, .int .i64 c]) ∧ w = w' := by
 have := parse_any l hs w
 rwa [h] at this
end
section
open Go.RowKit
attribute [local go_sem] as_nil as_nil_lost as_int64 as_int64_must as_int as_lost as_int64_no as_int_no as_lost_no
attribute [local go_sem] Later.cell Later.frozen
set_option maxHeartbeats 2000000 in
theorem may_any (k n : Int) (w : World) :
  Calls Tryz.prog 181 #[.agg #[.int .i64 k, .int .i64 n]] w fun e w' => e = .returned (.bool (mayV k n)) ∧ Below w.heap.size w w' := by
 rcases may_cases k n with ⟨rfl, h⟩ | ⟨rfl, rfl, h⟩ | ⟨rfl, rfl, h⟩ | ⟨rfl, h1, h2, h⟩ | ⟨rfl, h1, h2, h⟩ | ⟨h1, h2, h3, h4, h⟩ <;> rw [h] <;> clear h
 all_goals
  go_enter Tryz.func181, Tryz.ntmps181
  go_wp2
  go_ret
  exact ⟨rfl, by go_grown⟩
set_option maxHeartbeats 2000000 in
theorem refmay_any (k n : Int) (w : World) :
  Calls Tryz.prog 138 #[.agg #[.int .i64 k, .int .i64 n]] w fun e w' => e = .returned (.bool (mayV k n)) ∧ Below w.heap.size w w' := by
 rcases may_cases k n with ⟨rfl, h⟩ | ⟨rfl, rfl, h⟩ | ⟨rfl, rfl, h⟩ | ⟨rfl, h1, h2, h⟩ | ⟨rfl, h1, h2, h⟩ | ⟨h1, h2, h3, h4, h⟩ <;> rw [h] <;> clear h
 all_goals
  go_enter Tryz.func138, Tryz.ntmps138
  go_wp2
  go_ret
  exact ⟨rfl, by go_grown⟩
def vTxt (k n : Int) : List UInt8 := if mayV k n then (if k = 1 then printL n else if k = 0 then [110, 105, 108] else [63]) else []
def vErr (k n : Int) : Int := if mayV k n then 0 else 4
def vParse (l : List UInt8) : Int × Int × Int :=
 if l = [110, 105, 108] then (0, 0, 0) else if l = [63] then (2, 0, 0) else if (parseL l).2 = 0 then (1, (parseL l).1, 0) else (0, 0, (parseL l).2)
set_option maxHeartbeats 2000000 in
theorem vprint_any (k n : Int) (h0 : -9223372036854775808 ≤ n) (h1 : n ≤ 9223372036854775807) (w : World) :
  Calls Tryz.prog 213 #[.agg #[.int .i64 k, .int .i64 n]] w fun e w' => e = .returned (.tuple #[.string (bs (vTxt k n)), .int .i64 (vErr k n)]) ∧ Below w.heap.size w w' := by
 have HP := Lib.hid (print_any n h0 h1)
 have HM := Lib.hid (may_any k n)
 clear h0 h1
 rcases may_cases k n with ⟨rfl, h⟩ | ⟨rfl, rfl, h⟩ | ⟨rfl, rfl, h⟩ | h'
 ·have e1 : vTxt 1 n = printL n := by simp [vTxt, h]
  have e2 : vErr 1 n = 0 := by simp [vErr, h]
  rw [e1, e2]
  rw [h] at HM
  clear h e1 e2
  go_enter Tryz.func213, Tryz.ntmps213
  go_wp2_with (fail)
  refine (HM.out _).mono ?_
  rintro e w1 ⟨rfl, hb1⟩
  obtain ⟨hc1, hf1⟩ := bcell hb1
  have hz1 := hb1.size
  try simp at hz1
  have hl1_0 : w.heap.size < w1.heap.size := by omega
  have hl1_0_1 : w.heap.size < w1.heap.size + 1 := by omega
  have hl1_0_2 : w.heap.size < w1.heap.size + 1 + 1 := by omega
  have hl1_0_3 : w.heap.size < w1.heap.size + 1 + 1 + 1 := by omega
  have hl1_0_4 : w.heap.size < w1.heap.size + 1 + 1 + 1 + 1 := by omega
  have hl1_0_5 : w.heap.size < w1.heap.size + 1 + 1 + 1 + 1 + 1 := by omega
  go_wp2_with (first | (go_at_call 236; refine (HP.out _).mono ?_; rintro e w2 ⟨rfl, hb2⟩) | go_in)
  go_returns
  exact ⟨rfl, bel⟩
 ·have e1 : vTxt 0 0 = [110, 105, 108] := by simp [vTxt, h]
  have e2 : vErr 0 0 = 0 := by simp [vErr, h]
  rw [e1, e2]
  rw [h] at HM
  clear h e1 e2
  go_enter Tryz.func213, Tryz.ntmps213
  go_wp2_with (fail)
  refine (HM.out _).mono ?_
  rintro e w1 ⟨rfl, hb1⟩
  obtain ⟨hc1, hf1⟩ := bcell hb1
  have hz1 := hb1.size
  try simp at hz1
  have hl1_0 : w.heap.size < w1.heap.size := by omega
  have hl1_0_1 : w.heap.size < w1.heap.size + 1 := by omega
  have hl1_0_2 : w.heap.size < w1.heap.size + 1 + 1 := by omega
  have hl1_0_3 : w.heap.size < w1.heap.size + 1 + 1 + 1 := by omega
  have hl1_0_4 : w.heap.size < w1.heap.size + 1 + 1 + 1 + 1 := by omega
  have hl1_0_5 : w.heap.size < w1.heap.size + 1 + 1 + 1 + 1 + 1 := by omega
  go_wp2
  go_returns
  exact ⟨rfl, bel⟩
 ·have e1 : vTxt 2 0 = [63] := by simp [vTxt, h]
  have e2 : vErr 2 0 = 0 := by simp [vErr, h]
  rw [e1, e2]
  rw [h] at HM
  clear h e1 e2
  go_enter Tryz.func213, Tryz.ntmps213
  go_wp2_with (fail)
  refine (HM.out _).mono ?_
  rintro e w1 ⟨rfl, hb1⟩
  obtain ⟨hc1, hf1⟩ := bcell hb1
  have hz1 := hb1.size
  try simp at hz1
  have hl1_0 : w.heap.size < w1.heap.size := by omega
  have hl1_0_1 : w.heap.size < w1.heap.size + 1 := by omega
  have hl1_0_2 : w.heap.size < w1.heap.size + 1 + 1 := by omega
  have hl1_0_3 : w.heap.size < w1.heap.size + 1 + 1 + 1 := by omega
  have hl1_0_4 : w.heap.size < w1.heap.size + 1 + 1 + 1 + 1 := by omega
  have hl1_0_5 : w.heap.size < w1.heap.size + 1 + 1 + 1 + 1 + 1 := by omega
  go_wp2
  go_returns
  exact ⟨rfl, bel⟩
 ·have h : mayV k n = false := by
   rcases h' with ⟨-, -, -, h⟩ | ⟨-, -, -, h⟩ | ⟨-, -, -, -, h⟩ <;> exact h
  have e1 : vTxt k n = [] := by simp [vTxt, h]
  have e2 : vErr k n = 4 := by simp [vErr, h]
  rw [e1, e2]
  rw [h] at HM
  clear h h' e1 e2
  go_enter Tryz.func213, Tryz.ntmps213
  go_wp2_with (fail)
  refine (HM.out _).mono ?_
  rintro e w1 ⟨rfl, hb1⟩
  obtain ⟨hc1, hf1⟩ := bcell hb1
  have hz1 := hb1.size
  try simp at hz1
  have hl1_0 : w.heap.size < w1.heap.size := by omega
  have hl1_0_1 : w.heap.size < w1.heap.size + 1 := by omega
  have hl1_0_2 : w.heap.size < w1.heap.size + 1 + 1 := by omega
  have hl1_0_3 : w.heap.size < w1.heap.size + 1 + 1 + 1 := by omega
  have hl1_0_4 : w.heap.size < w1.heap.size + 1 + 1 + 1 + 1 := by omega
  have hl1_0_5 : w.heap.size < w1.heap.size + 1 + 1 + 1 + 1 + 1 := by omega
  go_wp2
  go_returns
  exact ⟨rfl, bel⟩
theorem vparse_cases (l : List UInt8) : (l = [110, 105, 108] ∧ vParse l = (0, 0, 0)) ∨ (l = [63] ∧ vParse l = (2, 0, 0)) ∨
  ((l == [110, 105, 108]) = false ∧ (l == [63]) = false ∧ ∃ v, parseL l = (v, 0) ∧ vParse l = (1, v, 0)) ∨
  ((l == [110, 105, 108]) = false ∧ (l == [63]) = false ∧ ∃ v c, parseL l = (v, c) ∧ (c != 0) = true ∧ vParse l = (0, 0, c)) := by
 by_cases h1 : l = [110, 105, 108]
 ·exact .inl ⟨h1, by simp [vParse, h1]⟩
 by_cases h2 : l = [63]
 ·exact .inr (.inl ⟨h2, by simp [vParse, h2]⟩)
 have e1 : (l == [110, 105, 108]) = false := by simpa using h1
 have e2 : (l == [63]) = false := by simpa using h2
 obtain ⟨v, c, hp⟩ : ∃ v c, parseL l = (v, c) := ⟨_, _, rfl⟩
 by_cases hc : c = 0
 ·subst hc
  exact .inr (.inr (.inl ⟨e1, e2, v, hp, by simp [vParse, h1, h2, hp]⟩))
 ·exact .inr (.inr (.inr ⟨e1, e2, v, c, hp, by simpa using hc, by simp [vParse, h1, h2, hp, hc]⟩))
theorem refparse_at (l : List UInt8) (v c : Int) (hs : l.length ≤ 9223372036854775806) (h : parseL l = (v, c)) (w : World) :
  Calls Tryz.prog 208 #[.string (bs l)] w fun e w' => e = .returned (.tuple #[.int .i64 v, .int .i64 c]) ∧ w = w' := by
 have := refparse_any l hs w
 rwa [h] at this
set_option maxHeartbeats 2000000 in
theorem vparse_of (l : List UInt8) (a b c : Int) (hs : l.length ≤ 9223372036854775806) (h : vParse l = (a, b, c)) (w : World) :
  Calls Tryz.prog 200 #[.string (bs l)] w fun e w' => e = .returned (.tuple #[.agg #[.int .i64 a, .int .i64 b], .int .i64 c]) ∧ Below w.heap.size w w' := by
 rcases vparse_cases l with ⟨rfl, h'⟩ | ⟨rfl, h'⟩ | ⟨h1, h2, v, hp, h'⟩ | ⟨h1, h2, v, c', hp, hc, h'⟩
 all_goals
  rw [h'] at h
  simp only [Prod.mk.injEq] at h
  obtain ⟨rfl, rfl, rfl⟩ := h
  clear h'
 ·go_enter Tryz.func200, Tryz.ntmps200
  go_wp2
  go_returns
  exact ⟨rfl, by go_grown⟩
 ·go_enter Tryz.func200, Tryz.ntmps200
  go_wp2
  go_returns
  exact ⟨rfl, by go_grown⟩
 all_goals
  have HP := Lib.hid (parse_at l _ _ hs hp)
  clear hp hs
  go_enter Tryz.func200, Tryz.ntmps200
  go_wp2_with (go_at_call 229; refine (HP.out _).mono ?_; rintro e w1 ⟨rfl, rfl⟩)
  go_returns
  exact ⟨rfl, by go_grown⟩
set_option maxHeartbeats 2000000 in
theorem refvparse_of (l : List UInt8) (a b c : Int) (hs : l.length ≤ 9223372036854775806) (h : vParse l = (a, b, c)) (w : World) :
  Calls Tryz.prog 166 #[.string (bs l)] w fun e w' => e = .returned (.tuple #[.agg #[.int .i64 a, .int .i64 b], .int .i64 c]) ∧ Below w.heap.size w w' := by
 rcases vparse_cases l with ⟨rfl, h'⟩ | ⟨rfl, h'⟩ | ⟨h1, h2, v, hp, h'⟩ | ⟨h1, h2, v, c', hp, hc, h'⟩
 all_goals
  rw [h'] at h
  simp only [Prod.mk.injEq] at h
  obtain ⟨rfl, rfl, rfl⟩ := h
  clear h'
 ·go_enter Tryz.func166, Tryz.ntmps166
  go_wp2
  go_returns
  exact ⟨rfl, by go_grown⟩
 ·go_enter Tryz.func166, Tryz.ntmps166
  go_wp2
  go_returns
  exact ⟨rfl, by go_grown⟩
 all_goals
  have HP := Lib.hid (refparse_at l _ _ hs hp)
  clear hp hs
  go_enter Tryz.func166, Tryz.ntmps166
  go_wp2_with (go_at_call 208; refine (HP.out _).mono ?_; rintro e w1 ⟨rfl, rfl⟩)
  go_returns
  exact ⟨rfl, by go_grown⟩
end
section
open Go.RowKit Go.Lib
def mayE (x : EventM) : Bool := decide (1 ≤ x.1) && (decide (x.1 ≤ 6) && (nameL x.2.1 &&
 (if longK x.1 then nameL x.2.2.1 && (mayV x.2.2.2.1 x.2.2.2.2.1 && (x.1 == 2 || x.2.2.2.1 == 1)) else decide (x.2.2.1 = []) && (x.2.2.2.1 == 0 && x.2.2.2.2.1 == 0))))
def wordsE (x : EventM) : List (List UInt8) := if longK x.1 then [kindW x.1, x.2.1, x.2.2.1, vTxt x.2.2.2.1 x.2.2.2.2.1] else [kindW x.1, x.2.1]
def lineE (x : EventM) : List UInt8 := if mayE x then join (wordsE x) [32] else []
def errE (x : EventM) : Int := if mayE x then 0 else 4
def valuedE (k : Int) (s key t : List UInt8) : EventM × Int :=
 if (vParse t).2.2 ≠ 0 then (noEv, (vParse t).2.2) else if k = 3 ∧ (vParse t).1 = 0 then (noEv, 11) else if k = 3 ∧ (vParse t).1 = 2 then (noEv, 5) else ((k, s, key, (vParse t).1, (vParse t).2.1, 0), 0)
def headE (L : List (List UInt8)) : Bool := decide (kindL (L.getD 0 []) ≠ 0) && (decide (L.length = if longK (kindL (L.getD 0 [])) then 4 else 2) && (nameL (L.getD 1 []) && (!longK (kindL (L.getD 0 [])) || nameL (L.getD 2 []))))
def readE (L : List (List UInt8)) : EventM × Bool × Int :=
 if headE L = false then (noEv, false, 5)
 else if longK (kindL (L.getD 0 [])) then ((valuedE (kindL (L.getD 0 [])) (L.getD 1 []) (L.getD 2 []) (L.getD 3 [])).1, decide ((valuedE (kindL (L.getD 0 [])) (L.getD 1 []) (L.getD 2 []) (L.getD 3 [])).2 = 0), (valuedE (kindL (L.getD 0 [])) (L.getD 1 []) (L.getD 2 []) (L.getD 3 [])).2)
 else ((kindL (L.getD 0 []), L.getD 1 [], [], 0, 0, 0), true, 0)
def parseE (s : List UInt8) : EventM × Bool × Int :=
 if (wordsR s).2 ≠ 0 ∨ (wordsR s).1 = [] then (noEv, false, ((wordsR s).2 : Int)) else readE ((wordsR s).1.map (·.1))
theorem dig_word (l : List UInt8) (h0 : l ≠ []) (h : ∀ b ∈ l, b.toNat < 128 ∧ blankB b = false ∧ b ≠ 35 ∧ b ≠ 10) : WordT l := by
 refine ⟨h0, fun b hb => (h b hb).2.1, ?_, fun b hb => (h b hb).2.2⟩
 clear h0
 induction l with
 | nil => rfl
 | cons b t ih =>
  have hb := h b (List.mem_cons_self ..)
  have e := valid_cut _ [] t b (Nat.le_refl _) hb.1
  rw [List.nil_append] at e
  rw [e, ih (fun c hc => h c (List.mem_cons_of_mem _ hc))]
  rfl
theorem kind_word (k : Int) (h0 : 1 ≤ k) (h1 : k ≤ 6) : WordT (kindW k) ∧ kindL (kindW k) = k := by
 have : k = 1 ∨ k = 2 ∨ k = 3 ∨ k = 4 ∨ k = 5 ∨ k = 6 := by omega
 rcases this with rfl | rfl | rfl | rfl | rfl | rfl <;> exact ⟨dig_word _ (by decide) (by decide), by decide⟩
theorem kindL_range (l : List UInt8) : 0 ≤ kindL l ∧ kindL l ≤ 6 := by
 unfold kindL
 (repeat' split) <;> decide
theorem parse_digs (t : List UInt8) (h : (vParse t).2.2 = 0) : mayV (vParse t).1 (vParse t).2.1 = true := by
 unfold vParse at h ⊢
 (repeat' split) <;> simp_all [mayV]
theorem read_may (L : List (List UInt8)) (h : (readE L).2.1 = true) : (readE L).2.2 = 0 ∧ mayE (readE L).1 = true := by
 unfold readE at h ⊢
 by_cases hh : headE L = false
 ·rw [if_pos hh] at h; cases h
 ·rw [if_neg hh] at h ⊢
  have hh' : headE L = true := by simpa using hh
  clear hh
  unfold headE at hh'
  have hkr := kindL_range (L.getD 0 [])
  generalize kindL (L.getD 0 []) = K at *
  generalize L.getD 1 [] = n1 at *
  generalize L.getD 2 [] = n2 at *
  generalize L.getD 3 [] = t at *
  simp only [Bool.and_eq_true, decide_eq_true_eq] at hh'
  obtain ⟨hk0, -, hn, hn2⟩ := hh'
  cases hl : longK K with
  | false =>
   rw [if_neg (by simp)]
   refine ⟨rfl, ?_⟩
   unfold mayE
   simp only [hl, hn]
   simp
   omega
  | true =>
   rw [hl] at h hn2
   rw [if_pos rfl] at h ⊢
   have hm := parse_digs t
   unfold valuedE at h ⊢
   obtain ⟨a, b, c, hp⟩ : ∃ a b c, vParse t = (a, b, c) := ⟨_, _, _, rfl⟩
   rw [hp] at h hm ⊢
   simp only at h hm ⊢
   have hn2' : nameL n2 = true := by simpa using hn2
   by_cases h1 : c = 0
   ·subst h1
    have hm' := hm rfl
    rw [if_neg (by simp)] at h ⊢
    by_cases h2 : K = 3 ∧ a = 0
    ·rw [if_pos h2] at h; simp at h
    ·rw [if_neg h2] at h ⊢
     by_cases h3 : K = 3 ∧ a = 2
     ·rw [if_pos h3] at h; simp at h
     ·rw [if_neg h3]
      refine ⟨rfl, ?_⟩
      unfold mayE
      simp only [hl, if_true, hn, hm', hn2']
      have hk23 : K = 2 ∨ K = 3 := by
       unfold longK at hl
       simpa using hl
      have hv : K = 3 → a = 1 := by
       intro e
       have a0 : a ≠ 0 := fun b => h2 ⟨e, b⟩
       have a2 : a ≠ 2 := fun b => h3 ⟨e, b⟩
       unfold mayV at hm'
       simp at hm'
       omega
      rcases hk23 with e | e
      ·simp [e]
      ·simp [e, hv e]
   ·rw [if_pos (by simpa using h1)] at h
    simp at h
    exact absurd h h1
theorem parse_may (s : List UInt8) (h : (parseE s).2.1 = true) : (parseE s).2.2 = 0 ∧ mayE (parseE s).1 = true := by
 unfold parseE at h ⊢
 split
 ·rename_i hc
  rw [if_pos hc] at h
  simp at h
 ·rename_i hc
  rw [if_neg hc] at h
  exact read_may _ h
end
section
open Go.RowKit Go.Lib
def onLine (x : EventM) (n : Int) : EventM := (x.1, x.2.1, x.2.2.1, x.2.2.2.1, x.2.2.2.2.1, n)
def logGo : List (List UInt8) → Nat → List EventM → List EventM × Int × Int
 | [], _, out => (out, 0, 0)
 | t :: r, i, out =>
  if (parseE t).2.2 ≠ 0 then ([], ((i + 1 : Nat) : Int), (parseE t).2.2)
  else if (parseE t).2.1 = false then logGo r (i + 1) out
  else if out.length = 1000 then ([], ((i + 1 : Nat) : Int), 7)
  else logGo r (i + 1) (out ++ [onLine (parseE t).1 ((i + 1 : Nat) : Int)])
def readL (s : List UInt8) : List EventM × Int × Int :=
 if (ofL s).2.2 ≠ 0 then ([], ((ofL s).2.1 : Int), ((ofL s).2.2 : Int)) else logGo (ofL s).1 0 []
def catGo : List EventM → List UInt8 → List UInt8 × Int
 | [], s => (s, 0)
 | x :: r, s => if 65536 < (s ++ lineE x ++ [10]).length then ([], 6) else catGo r (s ++ lineE x ++ [10])
def writeL (L : List EventM) : List UInt8 × Int := if L.all mayE then catGo L [] else ([], 4)
def lined : List EventM → Nat → List EventM
 | [], _ => []
 | x :: r, i => onLine x ((i + 1 : Nat) : Int) :: lined r (i + 1)
def NumE (x : EventM) : Prop := -9223372036854775808 ≤ x.2.2.2.2.1 ∧ x.2.2.2.2.1 ≤ 9223372036854775807
end
section
open Go.RowKit
set_option maxHeartbeats 1000000 in
theorem long_any (k : Int) (w : World) :
  Calls Tryz.prog 156 #[.int .i64 k] w fun e w' => e = .returned (.bool (longK k)) ∧ w = w' := by
 rcases long_cases k with ⟨rfl, h⟩ | ⟨rfl, h⟩ | ⟨h1, h2, h⟩ <;> rw [h] <;> clear h
 all_goals
  go_enter Tryz.func156, Tryz.ntmps156
  go_wp2
  go_ret
  exact ⟨rfl, rfl⟩
theorem kindL_hit (i : Nat) (h0 : 0 < i) (h : i < 7) (l : List UInt8) (e : kindW i = l) : kindL l = i := by
 subst e
 match i, h0, h with
 | 1, _, _ => decide
 | 2, _, _ => decide
 | 3, _, _ => decide
 | 4, _, _ => decide
 | 5, _, _ => decide
 | 6, _, _ => decide
theorem kindL_miss (l : List UInt8) (h : ∀ i : Nat, 0 < i → i < 7 → kindW i ≠ l) : kindL l = 0 := by
 have h1 := h 1 (by decide) (by decide)
 have h2 := h 2 (by decide) (by decide)
 have h3 := h 3 (by decide) (by decide)
 have h4 := h 4 (by decide) (by decide)
 have h5 := h 5 (by decide) (by decide)
 have h6 := h 6 (by decide) (by decide)
 simp only [kindW] at h1 h2 h3 h4 h5 h6
 unfold kindL
 rw [if_neg (fun e => h1 (by rw [e]; rfl)), if_neg (fun e => h2 (by rw [e]; rfl)), if_neg (fun e => h3 (by rw [e]; rfl)), if_neg (fun e => h4 (by rw [e]; rfl)), if_neg (fun e => h5 (by rw [e]; rfl)), if_neg (fun e => h6 (by rw [e]; rfl))]
def tabE : Value := .agg #[.string (bs []), .string (bs [98, 101, 103, 105, 110]), .string (bs [114, 101, 97, 100]), .string (bs [119, 114, 105, 116, 101]), .string (bs [111, 107]), .string (bs [102, 97, 105, 108]), .string (bs [105, 110, 102, 111])]
theorem tabE_0 (w : World) : (Instr.index 219 tabE (.int .i64 ((0 : Nat) : Int))).run Tryz.prog w = .ok (.string (bs (kindW ((0 : Nat) : Int)))) w := by kernel_rfl
theorem tabE_1 (w : World) : (Instr.index 219 tabE (.int .i64 ((1 : Nat) : Int))).run Tryz.prog w = .ok (.string (bs (kindW ((1 : Nat) : Int)))) w := by kernel_rfl
theorem tabE_2 (w : World) : (Instr.index 219 tabE (.int .i64 ((2 : Nat) : Int))).run Tryz.prog w = .ok (.string (bs (kindW ((2 : Nat) : Int)))) w := by kernel_rfl
theorem tabE_3 (w : World) : (Instr.index 219 tabE (.int .i64 ((3 : Nat) : Int))).run Tryz.prog w = .ok (.string (bs (kindW ((3 : Nat) : Int)))) w := by kernel_rfl
theorem tabE_4 (w : World) : (Instr.index 219 tabE (.int .i64 ((4 : Nat) : Int))).run Tryz.prog w = .ok (.string (bs (kindW ((4 : Nat) : Int)))) w := by kernel_rfl
theorem tabE_5 (w : World) : (Instr.index 219 tabE (.int .i64 ((5 : Nat) : Int))).run Tryz.prog w = .ok (.string (bs (kindW ((5 : Nat) : Int)))) w := by kernel_rfl
theorem tabE_6 (w : World) : (Instr.index 219 tabE (.int .i64 ((6 : Nat) : Int))).run Tryz.prog w = .ok (.string (bs (kindW ((6 : Nat) : Int)))) w := by kernel_rfl
theorem tabE_at (i : Nat) (h : i < 7) (w : World) : (Instr.index 219 tabE (.int .i64 (i : Int))).run Tryz.prog w = .ok (.string (bs (kindW i))) w :=
 match i, h with
 | 0, _ => tabE_0 w
 | 1, _ => tabE_1 w
 | 2, _ => tabE_2 w
 | 3, _ => tabE_3 w
 | 4, _ => tabE_4 w
 | 5, _ => tabE_5 w
 | 6, _ => tabE_6 w
set_option maxRecDepth 100000 in
set_option maxHeartbeats 1000000 in
theorem kind_any (l : List UInt8) (w : World) (hE : EvTab w) :
  Calls Tryz.prog 155 #[.string (bs l)] w fun e w' => e = .returned (.int .i64 (kindL l)) ∧ w = w' := by
 have h0 : w.cell? ⟨0, 0, none⟩ = some (.string (bs [])) := hE 0 (by decide)
 have h1 : w.cell? ⟨0, 1, none⟩ = some (.string (bs [98, 101, 103, 105, 110])) := hE 1 (by decide)
 have h2 : w.cell? ⟨0, 2, none⟩ = some (.string (bs [114, 101, 97, 100])) := hE 2 (by decide)
 have h3 : w.cell? ⟨0, 3, none⟩ = some (.string (bs [119, 114, 105, 116, 101])) := hE 3 (by decide)
 have h4 : w.cell? ⟨0, 4, none⟩ = some (.string (bs [111, 107])) := hE 4 (by decide)
 have h5 : w.cell? ⟨0, 5, none⟩ = some (.string (bs [102, 97, 105, 108])) := hE 5 (by decide)
 have h6 : w.cell? ⟨0, 6, none⟩ = some (.string (bs [105, 110, 102, 111])) := hE 6 (by decide)
 clear hE
 have IX := Lib.hid tabE_at
 go_enter Tryz.func155, Tryz.ntmps155
 go_wp2
 clear h0 h1 h2 h3 h4 h5 h6
 go_loop [6] (fun i => ∃ k : Nat, k ≤ 7 ∧ i = .int .i64 k ∧ ∀ j : Nat, 0 < j → j < k → kindW j ≠ l) (fun i => 7 - (RowKit.intOf i).toNat)
 case atStart => exact ⟨0, by omega, rfl, fun j h0 h1 => absurd h1 (Nat.not_lt_zero j)⟩
 case round =>
  obtain ⟨k, hk, rfl, hno⟩ := hrel
  have HNo := Lib.hid hno
  clear hno
  by_cases hlt : k < 7
  ·have ix := IX.out k hlt
   unfold tabE at ix
   by_cases hk0 : 0 < k
   ·by_cases he : kindW k = l
    ·have HR := Lib.hid (kindL_hit k hk0 hlt l he)
     have hb : (kindW k == l) = true := by rw [he]; simp
     clear he
     go_wp2_with fail
     go_ret
     exact ⟨by rw [HR.out]; rfl, rfl⟩
    ·have HN : RowKit.Hid (∀ j : Nat, 0 < j → j < k + 1 → kindW j ≠ l) := Lib.hid (fun j h0 h1 => by
      by_cases h : j = k
      ·rw [h]; exact he
      ·exact HNo.out j h0 (by omega))
     have hb : (kindW k == l) = false := beq_eq_false_iff_ne.2 he
     clear he
     go_wp2_with fail
     go_round
     case rel => exact ⟨k + 1, by omega, by go_num, HN.out⟩
     case measure => simp [RowKit.intOf]; omega
   ·have hk1 : k = 0 := by omega
    subst hk1
    clear ix
    have ix : ∀ w : World, (Instr.index 219 (.agg #[.string (bs []), .string (bs [98, 101, 103, 105, 110]), .string (bs [114, 101, 97, 100]), .string (bs [119, 114, 105, 116, 101]), .string (bs [111, 107]), .string (bs [102, 97, 105, 108]), .string (bs [105, 110, 102, 111])]) (.int .i64 0)).run Tryz.prog w = .ok (.string (bs [])) w := tabE_0
    go_wp2_with fail
    go_round
    case rel => exact ⟨1, by omega, rfl, fun j h0 h1 => by omega⟩
    case measure => simp [RowKit.intOf]
  ·have hk7 : k = 7 := by omega
   subst hk7
   have HR := Lib.hid (kindL_miss l HNo.out)
   go_wp2_with fail
   go_ret
   exact ⟨by rw [HR.out]; rfl, rfl⟩
end
end Go.Proofs.YtmgchjddpmmglaaGreatDoor
