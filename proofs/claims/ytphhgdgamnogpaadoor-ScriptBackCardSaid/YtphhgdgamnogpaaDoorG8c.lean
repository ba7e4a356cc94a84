/-
  The walks of Parse, of package digit and of its reference: a text's number, or the error. Texts of at most 2^62 bytes (every readable text is shorter).
  The walks of Print, of package digit and of its reference: any number's text. No conditions but that the number is an int64.
  Layer 3 (digit): what reading a text gives, at a known answer; how great it may be. Texts of at most 2^63 - 2 bytes.
  The walks of layer 5 (value): May, Print, Parse, Less, of the package and of its reference; each leaves all memory that was there as it was. Texts of at most 2^63 - 2 bytes.
  Layer 5 (value), in plain words: reading undoes printing. No conditions.
  Layer 7 (event) in plain words: which events may be, their lines, what a line is read as; that reading undoes printing, and that what is read may be; no program in sight. No conditions.
  The walk of the decoder of layer 2's reference at a lead byte of three bytes. No conditions.
  The walk of the decoder of layer 2's reference at a lead byte of four bytes. No conditions.
  The decoder of layer 2's reference, at any place. No conditions.
  The walks of layer 2's reference (name) over a text's runes: the list of them, and whether the text is UTF-8. No conditions.
  The walks of layer 2 (name): reserved words, what may stand in a name, the comparison of two runes. No conditions.
  The walks of layer 2 (name): which of two texts is ahead, in the program and in the reference. No conditions.
  DERIVED: THE SHELF's CONTRACTS AT THIS DUMP, IN PLAIN WORDS (tools/lay-plain.mjs out of 'TrydShelfV4.lean', which tools/lay-shelf.mjs wrote): THE SAME DECLARATIONS UNDER THE SAME NAMES: 'import', 'namespace', 'open', 'def', 'theorem' AND NOTHING ELSE: no command of the shelf's: FOR A HAND-IN. Each laying: the table of numbers ('.._ren') and one theorem, a field a fact of the dump's own or the kernel's comparison; each contract: ONE APPLICATION.
  The walk of layer 2 (name): what a name is, in the program, where unicode/utf8's two tables are as their initialisers lay them. No conditions.
-/
import Derived.Test.YtphhgdgamnogpaaDoorG8b
import Derived.Test.YtphhgdgamnogpaaDoorG8a
import Derived.Lib.RuneBytes
import Derived.WalkKit
import Derived.Laws.IdiomStrings
import Derived.Shelf.SlGeneric
import Derived.Ground.NamesProg
import Derived.Shelf.LaysM
import Derived.Shelf.Unicode.ValidAny
import Derived.Test.YtphhgdgamnogpaaDoorProg
import Derived.Laws.RangeAny
namespace Go.Proofs.YtphhgdgamnogpaaDoor
open Go.RowKit

theorem fold_none (t : List UInt8) (k : Nat) (h : foldP (t.take k) = none) : foldP t = none := by
  have e : foldP t = (t.drop k).foldl stepP (foldP (t.take k)) := by
    unfold foldP; rw [← List.foldl_append, List.take_append_drop]
  rw [e, h]
  generalize t.drop k = r
  induction r with
  | nil => rfl
  | cons a r ih => simpa [stepP] using ih
theorem fold_succ (t : List UInt8) (k : Nat) (hk : k < t.length) (n : Int) (h : foldP (t.take k) = some n) : foldP (t.take (k + 1)) = stepP (some n) t[k] := by
  rw [List.take_succ_eq_append_getElem hk, foldP_snoc, h]
theorem step_over (n : Int) (c : UInt8) (h : n < -922337203685477580 ∨ (n = -922337203685477580 ∧ 56 < c.toNat)) : stepP (some n) c = none := by
  simp only [stepP, Option.bind_some]
  rw [if_pos (by omega)]
theorem step_on (n : Int) (c : UInt8) (h1 : 48 ≤ c.toNat) (h : ¬ (n < -922337203685477580 ∨ (n = -922337203685477580 ∧ 56 < c.toNat))) : stepP (some n) c = some (n * 10 - ((c.toNat : Int) - 48)) := by
  simp only [stepP, Option.bind_some]
  rw [if_neg (by omega)]; congr 1; omega
theorem parse_over (l : List UInt8) (hd : digL l = true) (h : foldP (restL l) = none) : parseL l = (0, 8) := by
  unfold parseL; rw [if_pos hd, h]
theorem parse_neg (l : List UInt8) (n : Int) (hd : digL l = true) (h : foldP (restL l) = some n) (hn : negL l = true) : parseL l = (n, 0) := by
  unfold parseL; rw [if_pos hd, h]; simp [hn]
theorem parse_least (l : List UInt8) (n : Int) (hd : digL l = true) (h : foldP (restL l) = some n) (hn : negL l = false) (hl : n = -9223372036854775808) : parseL l = (0, 8) := by
  unfold parseL; rw [if_pos hd, h]; simp [hn, hl]
theorem parse_pos (l : List UInt8) (n : Int) (hd : digL l = true) (h : foldP (restL l) = some n) (hn : negL l = false) (hl : -9223372036854775808 < n) : parseL l = (-n, 0) := by
  unfold parseL; rw [if_pos hd, h]; simp only [hn, Bool.false_eq_true, if_false]; rw [if_neg (by omega)]
theorem parse_no (l : List UInt8) (hd : digL l = false) : parseL l = (0, 5) := by
  unfold parseL; rw [hd]; simp
theorem ret_pair {a b c d : Int} (h : (a, b) = (c, d)) : Ending.returned (.tuple #[.int .i64 a, .int .i64 b]) = .returned (.tuple #[.int .i64 c, .int .i64 d]) := by
  injection h with h1 h2; rw [h1, h2]
theorem digL_all (l : List UInt8) (h : digL l = true) : (restL l).all isDig = true := by
  unfold digL digT at h; simp only [Bool.and_eq_true] at h; exact h.2
theorem all_at (t : List UInt8) (h : t.all isDig = true) (k : Nat) (hk : k < t.length) : 48 ≤ t[k].toNat ∧ t[k].toNat ≤ 57 :=
  (isDig_iff _).1 (List.all_eq_true.1 h _ (List.getElem_mem hk))

set_option maxHeartbeats 2000000 in
theorem parse_run (l t : List UInt8) (neg : Bool) (ht : restL l = t) (hn : negL l = neg) (hd : digL l = true) (hs : l.length ≤ 9223372036854775806) (v c : Int) (hres : parseL l = (v, c)) (w : World) :
    Calls Tryd.prog 135 #[.string (bs l)] w fun e w' => e = .returned (.tuple #[.int .i64 v, .int .i64 c]) ∧ w = w' := by
  have HR := Lib.hid hres
  have HD := Lib.hid (fun W => by simpa only [hd] using digits_any l (by omega) W)
  have HC := Lib.hid (cut_of l t neg ht hn (by omega))
  have HT := Lib.hid ht
  have HN := Lib.hid hn
  have HG := Lib.hid hd
  have hta : t.all isDig = true := by rw [← ht]; exact digL_all l hd
  have HTA := Lib.hid hta
  have htl : t.length ≤ 9223372036854775806 := by have := rest_len l; rw [ht] at this; omega
  clear hres hn hd hta
  clear ht hs
  go_enter Tryd.func135, Tryd.ntmps135
  go_wp2_with (first
    | (go_at_call 154; refine (HD.out _).mono ?_; rintro e w1 ⟨rfl, rfl⟩)
    | (go_at_call 155; refine (HC.out _).mono ?_; rintro e w1 ⟨rfl, rfl⟩))
  clear HD HC
  go_loop [6, 7, 8, 19] (fun a _ _ i => ∃ (k : Nat) (n : Int), k ≤ t.length ∧ i = .int .i64 k ∧ a = .int .i64 n ∧ -9223372036854775808 ≤ n ∧ n ≤ 0 ∧ foldP (t.take k) = some n) (fun _ _ _ i => t.length - (intOf i).toNat)
  case atStart => exact ⟨0, 0, Nat.zero_le _, rfl, rfl, by omega, by omega, rfl⟩
  case round =>
    obtain ⟨k, n, hk, rfl, rfl, hn0, hn1, hf⟩ := hrel
    have HF := Lib.hid hf
    clear hf
    by_cases hlt : k < t.length
    · have hc1 := (all_at t HTA.out k hlt).1
      have hc2 := (all_at t HTA.out k hlt).2
      by_cases h1 : n < -922337203685477580
      · have HX := Lib.hid (parse_over l HG.out (by rw [HT.out]; exact fold_none t (k + 1) (by rw [fold_succ t k hlt n HF.out]; exact step_over _ _ (.inl h1))))
        go_wp2
        go_ret2
        exact ⟨ret_pair (HX.out.symm.trans HR.out), rfl⟩
      · by_cases h2 : n = -922337203685477580
        · by_cases h3 : 56 < t[k].toNat
          · have HX := Lib.hid (parse_over l HG.out (by rw [HT.out]; exact fold_none t (k + 1) (by rw [fold_succ t k hlt n HF.out]; exact step_over _ _ (.inr ⟨h2, h3⟩))))
            subst h2
            clear h1
            go_wp2
            go_ret2
            exact ⟨ret_pair (HX.out.symm.trans HR.out), rfl⟩
          · have HX := Lib.hid (by rw [← step_on n t[k] hc1 (by omega)]; exact fold_succ t k hlt n HF.out : foldP (t.take (k + 1)) = some (n * 10 - ((t[k].toNat : Int) - 48)))
            subst h2
            clear h1
            have h4 : (t[k].toNat : Int) ≤ 56 := by omega
            clear h3
            go_wp2
            go_round
            case rel => exact ⟨k + 1, _, by omega, by go_num, rfl, by omega, by omega, HX.out⟩
            case measure => simp [intOf]; omega
        · have HX := Lib.hid (by rw [← step_on n t[k] hc1 (by omega)]; exact fold_succ t k hlt n HF.out : foldP (t.take (k + 1)) = some (n * 10 - ((t[k].toNat : Int) - 48)))
          have h3 : -922337203685477579 ≤ n := by omega
          clear h1 h2
          go_wp2
          go_round
          case rel => exact ⟨k + 1, _, by omega, by go_num, rfl, by omega, by omega, HX.out⟩
          case measure => simp [intOf]; omega
    · have e : t.take k = t := List.take_of_length_le (by omega)
      have hF := HF.out
      rw [e] at hF
      have HB := Lib.hid hF
      clear HF hF e
      cases neg with
      | true =>
        have HX := Lib.hid (parse_neg l n HG.out (by rw [HT.out]; exact HB.out) HN.out)
        go_wp2
        go_ret2
        exact ⟨ret_pair (HX.out.symm.trans HR.out), rfl⟩
      | false =>
        by_cases hl : n = -9223372036854775808
        · have HX := Lib.hid (parse_least l n HG.out (by rw [HT.out]; exact HB.out) HN.out hl)
          subst hl
          clear hn0 hn1
          go_wp2
          go_ret2
          exact ⟨ret_pair (HX.out.symm.trans HR.out), rfl⟩
        · have HX := Lib.hid (parse_pos l n HG.out (by rw [HT.out]; exact HB.out) HN.out (by omega))
          have hn2 : -9223372036854775808 < n := by omega
          clear hl hn0
          go_wp2
          go_ret2
          exact ⟨ret_pair (HX.out.symm.trans HR.out), rfl⟩

set_option maxHeartbeats 1000000 in
theorem parse_bad (l : List UInt8) (hd : digL l = false) (hs : l.length ≤ 9223372036854775806) (w : World) :
    Calls Tryd.prog 135 #[.string (bs l)] w fun e w' => e = .returned (.tuple #[.int .i64 0, .int .i64 5]) ∧ w = w' := by
  have HD := Lib.hid (fun W => by simpa only [hd] using digits_any l (by omega) W)
  clear hd hs
  go_enter Tryd.func135, Tryd.ntmps135
  go_wp2_with (go_at_call 154; refine (HD.out _).mono ?_; rintro e w1 ⟨rfl, rfl⟩)
  go_ret2
  exact ⟨rfl, rfl⟩
theorem parse_any (l : List UInt8) (hs : l.length ≤ 9223372036854775806) (w : World) :
    Calls Tryd.prog 135 #[.string (bs l)] w fun e w' => e = .returned (.tuple #[.int .i64 (parseL l).1, .int .i64 (parseL l).2]) ∧ w = w' := by
  cases hd : digL l
  · rw [parse_no l hd]; exact parse_bad l hd hs w
  · exact parse_run l _ _ rfl rfl hd hs _ _ rfl w
set_option maxHeartbeats 2000000 in
theorem refparse_neg (l t : List UInt8) (ht : restL l = t) (hn : negL l = true) (hl : l = 45 :: t) (hd : digL l = true) (hs : l.length ≤ 9223372036854775806) (v c : Int) (hres : parseL l = (v, c)) (w : World) :
    Calls Tryd.prog 137 #[.string (bs l)] w fun e w' => e = .returned (.tuple #[.int .i64 v, .int .i64 c]) ∧ w = w' := by
  have HR := Lib.hid hres
  have HD := Lib.hid (fun W => by simpa only [hd] using refdigits_any l (by omega) W)
  have HT := Lib.hid ht
  have HN := Lib.hid hn
  have HG := Lib.hid hd
  have hta : t.all isDig = true := by rw [← ht]; exact digL_all l hd
  have HTA := Lib.hid hta
  have htl : t.length ≤ 9223372036854775806 := by have := rest_len l; rw [ht] at this; omega
  clear hres hn hd hta
  clear ht
  subst hl
  simp only [List.length_cons] at hs
  go_enter Tryd.func137, Tryd.ntmps137
  go_wp2_with (go_at_call 156; refine (HD.out _).mono ?_; rintro e w1 ⟨rfl, rfl⟩)
  clear HD
  go_loop [5, 6, 7] (fun i a _ => ∃ (k : Nat) (n : Int), k ≤ t.length ∧ i = .int .i64 ((k : Int) + 1) ∧ a = .int .i64 n ∧ -9223372036854775808 ≤ n ∧ n ≤ 0 ∧ foldP (t.take k) = some n) (fun i _ _ => t.length + 1 - (intOf i).toNat)
  case atStart => exact ⟨0, 0, Nat.zero_le _, by go_num, rfl, by omega, by omega, rfl⟩
  case round =>
    obtain ⟨k, n, hk, rfl, rfl, hn0, hn1, hf⟩ := hrel
    have HF := Lib.hid hf
    clear hf
    by_cases hlt : k < t.length
    · have hc1 := (all_at t HTA.out k hlt).1
      have hc2 := (all_at t HTA.out k hlt).2
      by_cases h1 : n < -922337203685477580
      · have HX := Lib.hid (parse_over _ HG.out (by rw [HT.out]; exact fold_none t (k + 1) (by rw [fold_succ t k hlt n HF.out]; exact step_over _ _ (.inl h1))))
        go_wp2
        go_ret2
        exact ⟨ret_pair (HX.out.symm.trans HR.out), rfl⟩
      · by_cases h2 : n = -922337203685477580
        · by_cases h3 : 56 < t[k].toNat
          · have HX := Lib.hid (parse_over _ HG.out (by rw [HT.out]; exact fold_none t (k + 1) (by rw [fold_succ t k hlt n HF.out]; exact step_over _ _ (.inr ⟨h2, h3⟩))))
            subst h2
            clear h1
            go_wp2
            go_ret2
            exact ⟨ret_pair (HX.out.symm.trans HR.out), rfl⟩
          · have HX := Lib.hid (by rw [Int.mul_comm, ← step_on n t[k] hc1 (by omega)]; exact fold_succ t k hlt n HF.out : foldP (t.take (k + 1)) = some (10 * n - ((t[k].toNat : Int) - 48)))
            subst h2
            clear h1
            have h4 : (t[k].toNat : Int) ≤ 56 := by omega
            clear h3
            go_wp2
            go_round
            case rel => exact ⟨k + 1, _, by omega, by go_num, rfl, by omega, by omega, HX.out⟩
            case measure => simp [intOf]; omega
        · have HX := Lib.hid (by rw [Int.mul_comm, ← step_on n t[k] hc1 (by omega)]; exact fold_succ t k hlt n HF.out : foldP (t.take (k + 1)) = some (10 * n - ((t[k].toNat : Int) - 48)))
          have h3 : -922337203685477579 ≤ n := by omega
          clear h1 h2
          go_wp2
          go_round
          case rel => exact ⟨k + 1, _, by omega, by go_num, rfl, by omega, by omega, HX.out⟩
          case measure => simp [intOf]; omega
    · have e : t.take k = t := List.take_of_length_le (by omega)
      have hF := HF.out
      rw [e] at hF
      have HB := Lib.hid hF
      clear HF hF e
      have HX := Lib.hid (parse_neg _ n HG.out (by rw [HT.out]; exact HB.out) HN.out)
      go_wp2
      go_ret2
      exact ⟨ret_pair (HX.out.symm.trans HR.out), rfl⟩

set_option maxHeartbeats 2000000 in
theorem refparse_pos (l t : List UInt8) (h0 : 0 < t.length) (ht : restL l = t) (hn : negL l = false) (hl : t = l) (hd : digL l = true) (hs : l.length ≤ 9223372036854775806) (v c : Int) (hres : parseL l = (v, c)) (w : World) :
    Calls Tryd.prog 137 #[.string (bs l)] w fun e w' => e = .returned (.tuple #[.int .i64 v, .int .i64 c]) ∧ w = w' := by
  have HR := Lib.hid hres
  have HD := Lib.hid (fun W => by simpa only [hd] using refdigits_any l (by omega) W)
  have HT := Lib.hid ht
  have HN := Lib.hid hn
  have HG := Lib.hid hd
  have hta : t.all isDig = true := by rw [← ht]; exact digL_all l hd
  have HTA := Lib.hid hta
  have htl : t.length ≤ 9223372036854775806 := by have := rest_len l; rw [ht] at this; omega
  clear hres hn hd hta
  clear ht
  subst hl
  have h45 : (((t[0]'h0).toNat : Int) == 45) = false := by
    have := (all_at t HTA.out 0 h0).1
    rw [beq_eq_false_iff_ne]; omega
  go_enter Tryd.func137, Tryd.ntmps137
  go_wp2_with (go_at_call 156; refine (HD.out _).mono ?_; rintro e w1 ⟨rfl, rfl⟩)
  clear HD h45
  go_loop [5, 6, 7] (fun i a _ => ∃ (k : Nat) (n : Int), k ≤ t.length ∧ i = .int .i64 k ∧ a = .int .i64 n ∧ -9223372036854775808 ≤ n ∧ n ≤ 0 ∧ foldP (t.take k) = some n) (fun i _ _ => t.length + 1 - (intOf i).toNat)
  case atStart => exact ⟨0, 0, Nat.zero_le _, rfl, rfl, by omega, by omega, rfl⟩
  case round =>
    obtain ⟨k, n, hk, rfl, rfl, hn0, hn1, hf⟩ := hrel
    have HF := Lib.hid hf
    clear hf
    by_cases hlt : k < t.length
    · have hc1 := (all_at t HTA.out k hlt).1
      have hc2 := (all_at t HTA.out k hlt).2
      by_cases h1 : n < -922337203685477580
      · have HX := Lib.hid (parse_over _ HG.out (by rw [HT.out]; exact fold_none t (k + 1) (by rw [fold_succ t k hlt n HF.out]; exact step_over _ _ (.inl h1))))
        go_wp2
        go_ret2
        exact ⟨ret_pair (HX.out.symm.trans HR.out), rfl⟩
      · by_cases h2 : n = -922337203685477580
        · by_cases h3 : 56 < t[k].toNat
          · have HX := Lib.hid (parse_over _ HG.out (by rw [HT.out]; exact fold_none t (k + 1) (by rw [fold_succ t k hlt n HF.out]; exact step_over _ _ (.inr ⟨h2, h3⟩))))
            subst h2
            clear h1
            go_wp2
            go_ret2
            exact ⟨ret_pair (HX.out.symm.trans HR.out), rfl⟩
          · have HX := Lib.hid (by rw [Int.mul_comm, ← step_on n t[k] hc1 (by omega)]; exact fold_succ t k hlt n HF.out : foldP (t.take (k + 1)) = some (10 * n - ((t[k].toNat : Int) - 48)))
            subst h2
            clear h1
            have h4 : (t[k].toNat : Int) ≤ 56 := by omega
            clear h3
            go_wp2
            go_round
            case rel => exact ⟨k + 1, _, by omega, by go_num, rfl, by omega, by omega, HX.out⟩
            case measure => simp [intOf]; omega
        · have HX := Lib.hid (by rw [Int.mul_comm, ← step_on n t[k] hc1 (by omega)]; exact fold_succ t k hlt n HF.out : foldP (t.take (k + 1)) = some (10 * n - ((t[k].toNat : Int) - 48)))
          have h3 : -922337203685477579 ≤ n := by omega
          clear h1 h2
          go_wp2
          go_round
          case rel => exact ⟨k + 1, _, by omega, by go_num, rfl, by omega, by omega, HX.out⟩
          case measure => simp [intOf]; omega
    · have e : t.take k = t := List.take_of_length_le (by omega)
      have hF := HF.out
      rw [e] at hF
      have HB := Lib.hid hF
      clear HF hF e
      by_cases hl : n = -9223372036854775808
      · have HX := Lib.hid (parse_least _ n HG.out (by rw [HT.out]; exact HB.out) HN.out hl)
        subst hl
        clear hn0 hn1
        go_wp2
        go_ret2
        exact ⟨ret_pair (HX.out.symm.trans HR.out), rfl⟩
      · have HX := Lib.hid (parse_pos _ n HG.out (by rw [HT.out]; exact HB.out) HN.out (by omega))
        have hn2 : -9223372036854775808 < n := by omega
        clear hl hn0
        go_wp2
        go_ret2
        exact ⟨ret_pair (HX.out.symm.trans HR.out), rfl⟩

set_option maxHeartbeats 1000000 in
theorem refparse_bad (l : List UInt8) (hd : digL l = false) (hs : l.length ≤ 9223372036854775806) (w : World) :
    Calls Tryd.prog 137 #[.string (bs l)] w fun e w' => e = .returned (.tuple #[.int .i64 0, .int .i64 5]) ∧ w = w' := by
  have HD := Lib.hid (fun W => by simpa only [hd] using refdigits_any l (by omega) W)
  clear hd hs
  go_enter Tryd.func137, Tryd.ntmps137
  go_wp2_with (go_at_call 156; refine (HD.out _).mono ?_; rintro e w1 ⟨rfl, rfl⟩)
  go_ret2
  exact ⟨rfl, rfl⟩
theorem rest_pos (l : List UInt8) (hd : digL l = true) : 0 < (restL l).length := by
  unfold digL digT at hd
  simp only [Bool.and_eq_true, Bool.not_eq_true', List.isEmpty_eq_false_iff] at hd
  exact List.length_pos_iff.2 hd.1.1
theorem refparse_any (l : List UInt8) (hs : l.length ≤ 9223372036854775806) (w : World) :
    Calls Tryd.prog 137 #[.string (bs l)] w fun e w' => e = .returned (.tuple #[.int .i64 (parseL l).1, .int .i64 (parseL l).2]) ∧ w = w' := by
  cases hd : digL l
  · rw [parse_no l hd]; exact refparse_bad l hd hs w
  · cases hn : negL l
    · have e : restL l = l := by simp [restL, hn]
      exact refparse_pos l l (by have := rest_pos l hd; rwa [e] at this) e hn rfl hd hs _ _ rfl w
    · have hl : l = 45 :: restL l := by
        unfold restL; rw [if_pos hn]
        cases l with
        | nil => simp [negL] at hn
        | cons x y => simp [negL] at hn; subst hn; rfl
      exact refparse_neg l (restL l) rfl hn hl hd hs _ _ rfl w
end Go.Proofs.YtphhgdgamnogpaaDoor

namespace Go.Proofs.YtphhgdgamnogpaaDoor
open Go.RowKit

theorem decL_len (k m : Nat) (hk : 0 < k) (h : m < 10 ^ k) : (decL m).length ≤ k := by
  induction k generalizing m with
  | zero => omega
  | succ k ih =>
    rw [decL]
    split
    · simp
    · rename_i h10
      rw [Nat.pow_succ] at h
      rcases Nat.eq_zero_or_pos k with h0 | h0
      · subst h0; simp at h; omega
      · have := ih (m / 10) h0 (by omega)
        simp; omega
/-- What is still to be written, y, and what has been, suf. -/
def Left (m y : Nat) (suf : List UInt8) : Prop := decL m = if suf = [] ∨ 0 < y then decL y ++ suf else suf
theorem left_step (m y : Nat) (suf : List UInt8) (h : Left m y suf) (hc : suf = [] ∨ 0 < y) : Left m (y / 10) (UInt8.ofNat (48 + y % 10) :: suf) := by
  unfold Left at *
  rw [if_pos hc] at h
  rw [h]
  by_cases h1 : 0 < y / 10
  · rw [if_pos (.inr h1), decL, if_neg (by omega)]; simp
  · rw [if_neg (by simpa using h1), decL, if_pos (by omega)]
    have : y % 10 = y := by omega
    rw [this]; rfl
theorem left_len (m y : Nat) (suf : List UInt8) (hm : m ≤ 9223372036854775808) (h : Left m y suf) (hc : suf = [] ∨ 0 < y) : suf.length ≤ 18 ∧ y ≤ m := by
  unfold Left at h
  rw [if_pos hc] at h
  have h1 := decL_len 19 m (by omega) (by omega)
  rw [h] at h1
  have h2 := List.length_pos_iff.2 (decL_ne y)
  rw [List.length_append] at h1
  have h3 := congrArg valL h
  rw [decL_val] at h3
  refine ⟨by omega, ?_⟩
  rw [h3]
  have : ∀ s : List UInt8, y ≤ valL (decL y ++ s) := by
    intro s
    induction s using snoc_ind with
    | h0 => simp [decL_val]
    | h1 s c ih => rw [← List.append_assoc, valL_snoc]; omega
  exact this suf
theorem left_end (m : Nat) (suf : List UInt8) (h : Left m 0 suf) (hs : suf ≠ []) : decL m = suf := by
  unfold Left at h
  rwa [if_neg (by simp [hs])] at h

/-- The array as it stands: j places free, the digits behind. -/
def rowOf (j : Nat) (suf : List UInt8) : Array Value := (List.replicate j (Value.int .u8 0) ++ suf.map fun b => Value.int .u8 (b.toNat : Int)).toArray
theorem row_free (j : Nat) (suf : List UInt8) (h : 1 ≤ j) : (rowOf j suf)[j - 1]? = some (.int .u8 0) := by
  unfold rowOf
  rw [List.getElem?_toArray, List.getElem?_append_left (by simp; omega)]
  rw [List.getElem?_replicate, if_pos (by omega)]
theorem row_at (j : Nat) (suf : List UInt8) (q : Nat) (h : q < suf.length) : (rowOf j suf)[j + q]? = some (.int .u8 (suf[q].toNat : Int)) := by
  unfold rowOf
  rw [List.getElem?_toArray, List.getElem?_append_right (by simp)]
  simp [h]
theorem row_set (j : Nat) (suf : List UInt8) (b : UInt8) (h : 1 ≤ j) : (rowOf j suf).setIfInBounds (j - 1) (.int .u8 (b.toNat : Int)) = rowOf (j - 1) (b :: suf) := by
  obtain ⟨i, rfl⟩ : ∃ i, j = i + 1 := ⟨j - 1, by omega⟩
  unfold rowOf
  rw [List.setIfInBounds_toArray, List.replicate_succ', List.append_assoc, List.set_append_right _ _ (by simp)]
  simp

theorem cell_row {w : World} {g : Nat} {t : TypeId} {C : Array Value} (h : w.heap[g]? = some (.cells C t (0, 0))) (i : Nat) : w.cell? ⟨g, i, none⟩ = C[i]? := cell_of_row w g i C t (0, 0) h
theorem free_row {w : World} {g : Nat} {t : TypeId} {C : Array Value} (h : w.heap[g]? = some (.cells C t (0, 0))) (i : Nat) : w.frozen? ⟨g, i, none⟩ = false := by simp [World.frozen?, h]
theorem set_row {w : World} {g : Nat} {t : TypeId} {C : Array Value} (h : w.heap[g]? = some (.cells C t (0, 0))) (i : Nat) (v : Value) : (w.setCell ⟨g, i, none⟩ v).heap[g]? = some (.cells (C.setIfInBounds i v) t (0, 0)) := by
  simp [World.setCell, Array.getElem?_modify, h]

set_option maxRecDepth 100000 in
/-- b[i:] of the array. -/
theorem slice_arr (w : World) (g : Nat) (l : Int) (j : Nat) (h0 : 0 ≤ l) (h1 : l < 20) (hl : l.toNat = j) :
    (Instr.sliceAt 181 (.pointer (some ⟨g, 0, none⟩)) (some (.int .i64 l)) none none).run Tryd.prog w = .ok (.slice (some ⟨g, j, none⟩) (20 - j) (20 - j)) w := by
  have e20 : Tryd.prog.arrayLen 181 = 20 := by kernel_rfl
  have es : (sizeOf (Tryd.prog.elem 181)).run Tryd.prog w = .ok 1 w := by kernel_rfl
  rw [run_sliceAt_array_l (P := Tryd.prog) w 181 ⟨g, 0, none⟩ (by kernel_rfl) .i64 l h0 (by rw [e20]; omega), es, e20, hl]
  simp only [Result.andThen_ok, slicedAt]
  rw [if_neg (by omega)]
  congr 3
  unfold Addr.add
  split <;> simp_all

/-- The text out of the array. -/
theorem text_of_row {w : World} {g j : Nat} {t : TypeId} {suf : List UInt8} (h : w.heap[g]? = some (.cells (rowOf j suf) t (0, 0))) (n cap : Nat) (hn : suf.length = n) :
    (convert 104 9 (.slice (some ⟨g, j, none⟩) n cap)).run Tryd.prog w = .ok (.string (bs suf)) w := by
  rw [← hn]
  refine run_convert_bytes_back w _ _ 5 _ cap suf Tryd.underlying104 Tryd.underlying5 Tryd.underlying9 (fun q hq => ?_)
  have := row_at j suf q hq
  rw [← cell_row h] at this
  have e : (⟨g, j, none⟩ : Addr).add q = ⟨g, j + q, none⟩ := by unfold Addr.add; split <;> simp_all
  rw [e]; exact this

/-- The relation of Print's loop. -/
def PrintRel (m : Nat) (w : World) (X : Nat → Int) (i x : Value) (wr : World) : Prop :=
  ∃ (j y : Nat) (suf : List UInt8), j + suf.length = 20 ∧ i = .int .i64 (j : Int) ∧ x = .int .i64 (X y) ∧ Left m y suf ∧
    wr.heap[w.heap.size]? = some (.cells (rowOf j suf) 181 (0, 0)) ∧ Below w.heap.size w wr ∧ suf.length ≤ 19

set_option maxRecDepth 20000 in
set_option maxHeartbeats 2000000 in
theorem print_pos (m : Nat) (hm : m ≤ 9223372036854775807) (w : World) :
    Calls Tryd.prog 107 #[.int .i64 (m : Int)] w fun e w' => e = .returned (.string (bs (decL m))) ∧ Below w.heap.size w w' := by
  obtain ⟨out, hout⟩ : ∃ out, out = decL m := ⟨_, rfl⟩
  rw [← hout]
  have HO := Lib.hid hout
  clear hout
  go_enter Tryd.func107, Tryd.ntmps107
  go_wp2_with fail
  go_loopw [4, 5, 6] (fun i x _ wr => PrintRel m w (fun y => (y : Int)) i x wr) (fun i _ _ _ => (intOf i).toNat)
  case atStart => exact ⟨20, m, [], rfl, rfl, rfl, by simp [Left], heap_alloc_new w _, by go_grown, by simp⟩
  case round =>
    obtain ⟨j, y, suf, hj, rfl, rfl, hL, hC, hb, hs⟩ := hrel
    have HL := Lib.hid hL
    have HJ := Lib.hid hj
    have HC := Lib.hid hC
    clear hL hC
    by_cases hc : suf = [] ∨ 0 < y
    · have hlen := left_len m y suf (by omega) HL.out hc
      have HS := Lib.hid (left_step m y suf HL.out hc)
      have h1 : wr.cell? ⟨w.heap.size, j - 1, none⟩ = some (.int .u8 0) := by rw [cell_row HC.out]; exact row_free j suf (by omega)
      have h2 : wr.frozen? ⟨w.heap.size, j - 1, none⟩ = false := free_row HC.out _
      have hj1 : (2 : Int) ≤ (j : Int) := by omega
      have hj2 : (j : Int) ≤ 20 := by omega
      have hy0 : y ≤ 9223372036854775808 := by omega
      have hy1 : y ≤ 9223372036854775807 := by omega
      have HR := Lib.hid (set_row HC.out (j - 1) (.int .u8 (48 + (y : Int) % 10)))
      have HR2 : Hid ((rowOf j suf).setIfInBounds (j - 1) (.int .u8 (48 + (y : Int) % 10)) = rowOf (j - 1) (UInt8.ofNat (48 + y % 10) :: suf)) := by
        have := row_set j suf (UInt8.ofNat (48 + y % 10)) (by omega)
        rw [toNat_dig _ (by omega)] at this
        rw [Hid, ← this]; congr 2
      have hl2 := hlen.1
      clear hlen hj
      have hor : (j : Int) = 20 ∨ ((j : Int) < 20 ∧ 0 < y) := by
        rcases hc with rfl | hc
        · left; have := HJ.out; simp at this; omega
        · by_cases hj3 : (j : Int) = 20
          · exact .inl hj3
          · exact .inr ⟨by omega, hc⟩
      clear hc
      have hmx : max ((y : Int) % 10) (-((y : Int) % 10)) = (y : Int) % 10 := by omega
      rcases hor with h20 | ⟨h20, hy⟩
      · have h20' : ((j : Int) == 20) = true := by simpa using h20
        clear h20
        go_wp2
        go_roundw
        case rel => exact ⟨j - 1, y / 10, _, by have := HJ.out; simp; omega, by go_num, by go_num, HS.out, by rw [HR.out, HR2.out], hb.setCell (by simp) _, by simp; omega⟩
        case measure => simp [intOf]; omega
      · have h20' : ((j : Int) == 20) = false := by rw [beq_eq_false_iff_ne]; omega
        have hy' : (((y : Int)) != 0) = true := by rw [bne_iff_ne]; omega
        go_wp2
        go_roundw
        case rel => exact ⟨j - 1, y / 10, _, by have := HJ.out; simp; omega, by go_num, by go_num, HS.out, by rw [HR.out, HR2.out], hb.setCell (by simp) _, by simp; omega⟩
        case measure => simp [intOf]; omega
    · have hsuf : suf ≠ [] := fun h => hc (.inl h)
      have hy : y = 0 := by have : ¬ 0 < y := fun h => hc (.inr h)
                            omega
      subst hy
      have hj2 : 0 < suf.length := List.length_pos_iff.2 hsuf
      have HE := Lib.hid (left_end m suf HL.out hsuf)
      clear hc hsuf
      have h20 : ((j : Int) == 20) = false := by rw [beq_eq_false_iff_ne]; omega
      have hj3 : (1 : Int) ≤ (j : Int) := by omega
      have hj4 : (j : Int) ≤ 19 := by omega
      have hcv := text_of_row HC.out (20 - j) (20 - j) (by omega)
      have hsl := slice_arr wr w.heap.size (j : Int) j (by omega) (by omega) (by omega)
      clear hj hs hj2
      go_wp2
      go_ret
      exact ⟨by rw [HO.out, HE.out]; rfl, hb⟩

set_option maxRecDepth 20000 in
set_option maxHeartbeats 2000000 in
theorem print_neg (m : Nat) (hm : m ≤ 9223372036854775808) (hm0 : 0 < m) (w : World) :
    Calls Tryd.prog 107 #[.int .i64 (-(m : Int))] w fun e w' => e = .returned (.string (bs (45 :: decL m))) ∧ Below w.heap.size w w' := by
  obtain ⟨out, hout⟩ : ∃ out, out = decL m := ⟨_, rfl⟩
  rw [← hout]
  have HO := Lib.hid hout
  clear hout
  have hmz : (-(m : Int)) < 0 := by omega
  clear hm0
  go_enter Tryd.func107, Tryd.ntmps107
  go_wp2_with fail
  go_loopw [4, 5, 6] (fun i x _ wr => PrintRel m w (fun y => -(y : Int)) i x wr) (fun i _ _ _ => (intOf i).toNat)
  case atStart => exact ⟨20, m, [], rfl, rfl, rfl, by simp [Left], heap_alloc_new w _, by go_grown, by simp⟩
  case round =>
    obtain ⟨j, y, suf, hj, rfl, rfl, hL, hC, hb, hs⟩ := hrel
    have HL := Lib.hid hL
    have HJ := Lib.hid hj
    have HC := Lib.hid hC
    clear hL hC
    by_cases hc : suf = [] ∨ 0 < y
    · have hlen := left_len m y suf (by omega) HL.out hc
      have HS := Lib.hid (left_step m y suf HL.out hc)
      have h1 : wr.cell? ⟨w.heap.size, j - 1, none⟩ = some (.int .u8 0) := by rw [cell_row HC.out]; exact row_free j suf (by omega)
      have h2 : wr.frozen? ⟨w.heap.size, j - 1, none⟩ = false := free_row HC.out _
      have hj1 : (2 : Int) ≤ (j : Int) := by omega
      have hj2 : (j : Int) ≤ 20 := by omega
      have hy0 : y ≤ 9223372036854775808 := by omega
      have hrem : (-(y : Int)).tmod 10 = -((y : Int) % 10) := by rw [Int.neg_tmod, Int.tmod_eq_emod_of_nonneg (by omega)]
      have hmax : (if -((y : Int) % 10) < (y : Int) % 10 then (y : Int) % 10 else -((y : Int) % 10)) = (y : Int) % 10 := by split <;> omega
      have hquo : (-(y : Int)).tdiv 10 = -((y : Int) / 10) := by rw [Int.neg_tdiv, Int.tdiv_eq_ediv_of_nonneg (by omega)]
      have HR := Lib.hid (set_row HC.out (j - 1) (.int .u8 (48 + (y : Int) % 10)))
      have HR2 : Hid ((rowOf j suf).setIfInBounds (j - 1) (.int .u8 (48 + (y : Int) % 10)) = rowOf (j - 1) (UInt8.ofNat (48 + y % 10) :: suf)) := by
        have := row_set j suf (UInt8.ofNat (48 + y % 10)) (by omega)
        rw [toNat_dig _ (by omega)] at this
        rw [Hid, ← this]; congr 2
      have hl2 := hlen.1
      clear hlen hj
      have hor : (j : Int) = 20 ∨ ((j : Int) < 20 ∧ 0 < y) := by
        rcases hc with rfl | hc
        · left; have := HJ.out; simp at this; omega
        · by_cases hj3 : (j : Int) = 20
          · exact .inl hj3
          · exact .inr ⟨by omega, hc⟩
      clear hc
      have hmx : max (-((y : Int) % 10)) ((y : Int) % 10) = (y : Int) % 10 := by omega
      rcases hor with h20 | ⟨h20, hy⟩
      · have h20' : ((j : Int) == 20) = true := by simpa using h20
        clear h20
        go_wp2
        go_roundw
        case rel => exact ⟨j - 1, y / 10, _, by have := HJ.out; simp; omega, by go_num, by go_num, HS.out, by rw [HR.out, HR2.out], hb.setCell (by simp) _, by simp; omega⟩
        case measure => simp [intOf]; omega
      · have h20' : ((j : Int) == 20) = false := by rw [beq_eq_false_iff_ne]; omega
        have hy' : ((-(y : Int)) != 0) = true := by rw [bne_iff_ne]; omega
        go_wp2
        go_roundw
        case rel => exact ⟨j - 1, y / 10, _, by have := HJ.out; simp; omega, by go_num, by go_num, HS.out, by rw [HR.out, HR2.out], hb.setCell (by simp) _, by simp; omega⟩
        case measure => simp [intOf]; omega
    · have hsuf : suf ≠ [] := fun h => hc (.inl h)
      have hy : y = 0 := by have : ¬ 0 < y := fun h => hc (.inr h)
                            omega
      subst hy
      have hj2 : 0 < suf.length := List.length_pos_iff.2 hsuf
      have HE := Lib.hid (left_end m suf HL.out hsuf)
      clear hc hsuf
      have h20 : ((j : Int) == 20) = false := by rw [beq_eq_false_iff_ne]; omega
      have hj3 : (1 : Int) ≤ (j : Int) := by omega
      have hj4 : (j : Int) ≤ 19 := by omega
      have h1 : wr.cell? ⟨w.heap.size, j - 1, none⟩ = some (.int .u8 0) := by rw [cell_row HC.out]; exact row_free j suf (by omega)
      have h2 : wr.frozen? ⟨w.heap.size, j - 1, none⟩ = false := free_row HC.out _
      have HR : (wr.setCell ⟨w.heap.size, j - 1, none⟩ (.int .u8 45)).heap[w.heap.size]? = some (.cells (rowOf (j - 1) (45 :: suf)) 181 (0, 0)) := by
        rw [set_row HC.out (j - 1) (.int .u8 45)]
        have := row_set j suf 45 (by omega)
        rw [← this]; rfl
      have hcv := text_of_row HR (20 - (j - 1)) (20 - (j - 1)) (by simp; omega)
      have hsl := slice_arr (wr.setCell ⟨w.heap.size, j - 1, none⟩ (.int .u8 45)) w.heap.size ((j : Int) - 1) (j - 1) (by omega) (by omega) (by omega)
      clear hj hs hj2 HR
      go_wp2
      go_ret
      exact ⟨by rw [HO.out, HE.out]; rfl, hb.setCell (by simp) _⟩

theorem print_any (n : Int) (h0 : -9223372036854775808 ≤ n) (h1 : n ≤ 9223372036854775807) (w : World) :
    Calls Tryd.prog 107 #[.int .i64 n] w fun e w' => e = .returned (.string (bs (printL n))) ∧ Below w.heap.size w w' := by
  by_cases h : n < 0
  · obtain ⟨m, rfl⟩ : ∃ m : Nat, n = -(m : Int) := ⟨n.natAbs, by omega⟩
    have e : printL (-(m : Int)) = 45 :: decL m := by unfold printL; rw [if_pos h]; congr 2; omega
    rw [e]
    exact print_neg m (by omega) (by omega) w
  · obtain ⟨m, rfl⟩ : ∃ m : Nat, n = (m : Int) := ⟨n.toNat, by omega⟩
    have e : printL (m : Int) = decL m := by unfold printL; rw [if_neg h]; congr 1
    rw [e]
    exact print_pos m (by omega) w

/-! ### The reference's Print. -/
/-- A text of one byte, made of a slice. -/
theorem one_byte (b : UInt8) (v : Int) (hv : v = (b.toNat : Int)) (W : World) :
    (convert 104 9 (.slice (some ⟨W.heap.size, 0, none⟩) 1 1)).run Tryd.prog (W.alloc (.cells #[.int .u8 v] 5)) = .ok (.string (bs [b])) (W.alloc (.cells #[.int .u8 v] 5)) := by
  subst hv
  refine run_convert_bytes_back (P := Tryd.prog) _ _ _ 5 _ 1 [b] Tryd.underlying104 Tryd.underlying5 Tryd.underlying9 (fun q hq => ?_)
  have : q = 0 := by simp at hq; omega
  subst this
  simp [Addr.add]
/-- The relation of its loop. -/
def RefRel (m : Nat) (w : World) (X : Nat → Int) (s x : Value) (wr : World) : Prop :=
  ∃ (y : Nat) (suf : List UInt8), s = .string (bs suf) ∧ x = .int .i64 (X y) ∧ Left m y suf ∧ Below w.heap.size w wr ∧ suf.length ≤ 19

set_option maxRecDepth 20000 in
set_option maxHeartbeats 2000000 in
theorem refprint_pos (m : Nat) (hm : m ≤ 9223372036854775807) (hm0 : 0 < m) (w : World) :
    Calls Tryd.prog 108 #[.int .i64 (m : Int)] w fun e w' => e = .returned (.string (bs (decL m))) ∧ Below w.heap.size w w' := by
  obtain ⟨out, hout⟩ : ∃ out, out = decL m := ⟨_, rfl⟩
  rw [← hout]
  have HO := Lib.hid hout
  have HM := Lib.hid hm0
  clear hout
  have hmz : ((m : Int) == 0) = false := by rw [beq_eq_false_iff_ne]; omega
  have hlt : 0 < (m : Int) := by omega
  clear hm0
  go_enter Tryd.func108, Tryd.ntmps108
  go_wp2_with fail
  clear hmz
  go_loopw [3, 4, 5] (fun s x _ wr => RefRel m w (fun y => (y : Int)) s x wr) (fun _ x _ _ => (intOf x).natAbs)
  case atStart => exact ⟨m, [], rfl, rfl, by simp [Left], by go_grown, by simp⟩
  case round =>
    obtain ⟨y, suf, rfl, rfl, hL, hb, hs⟩ := hrel
    have HL := Lib.hid hL
    clear hL
    by_cases hy : 0 < y
    · have hlen := left_len m y suf (by omega) HL.out (.inr hy)
      have HS := Lib.hid (left_step m y suf HL.out (.inr hy))
      have hy0 : (((y : Int)) != 0) = true := by rw [bne_iff_ne]; omega
      have hy1 : y ≤ 9223372036854775808 := by omega
      have hy2 : y ≤ 9223372036854775807 := by omega
      have hl2 := hlen.1
      clear hlen
      obtain ⟨b, hbe⟩ : ∃ b, b = UInt8.ofNat (48 + y % 10) := ⟨_, rfl⟩
      have HBV : Hid (48 + (y : Int) % 10 = (b.toNat : Int)) := by rw [Hid, hbe, toNat_dig _ (by omega)]; omega
      have hcv := one_byte b (48 + (y : Int) % 10) HBV.out
      rw [← hbe] at HS
      clear hbe
      all_goals
        go_wp2
        go_roundw
        case rel => exact ⟨y / 10, b :: suf, rfl, by go_num, HS.out, hb.alloc hb.size _, by simp; omega⟩
        case measure => simp [intOf]; omega
    · have hy0 : y = 0 := by omega
      subst hy0
      clear hy
      have hsuf : suf ≠ [] := fun h => by
        subst h
        have := HL.out
        unfold Left at this
        rw [if_pos (.inl rfl)] at this
        have := congrArg valL this
        rw [decL_val, List.append_nil, decL_val] at this
        have := HM.out
        omega
      have HE := Lib.hid (left_end m suf HL.out hsuf)
      clear hsuf
      go_wp2
      go_ret
      exact ⟨by rw [HO.out, HE.out]; rfl, hb⟩

set_option maxRecDepth 20000 in
set_option maxHeartbeats 2000000 in
theorem refprint_neg (m : Nat) (hm : m ≤ 9223372036854775808) (hm0 : 0 < m) (w : World) :
    Calls Tryd.prog 108 #[.int .i64 (-(m : Int))] w fun e w' => e = .returned (.string (bs (45 :: decL m))) ∧ Below w.heap.size w w' := by
  obtain ⟨out, hout⟩ : ∃ out, out = decL m := ⟨_, rfl⟩
  rw [← hout]
  have HO := Lib.hid hout
  have HM := Lib.hid hm0
  clear hout
  have hmz : ((-(m : Int)) == 0) = false := by rw [beq_eq_false_iff_ne]; omega
  have hlt : (-(m : Int)) < 0 := by omega
  clear hm0
  go_enter Tryd.func108, Tryd.ntmps108
  go_wp2_with fail
  clear hmz
  go_loopw [3, 4, 5] (fun s x _ wr => RefRel m w (fun y => -(y : Int)) s x wr) (fun _ x _ _ => (intOf x).natAbs)
  case atStart => exact ⟨m, [], rfl, rfl, by simp [Left], by go_grown, by simp⟩
  case round =>
    obtain ⟨y, suf, rfl, rfl, hL, hb, hs⟩ := hrel
    have HL := Lib.hid hL
    clear hL
    by_cases hy : 0 < y
    · have hlen := left_len m y suf (by omega) HL.out (.inr hy)
      have HS := Lib.hid (left_step m y suf HL.out (.inr hy))
      have hy0 : ((-(y : Int)) != 0) = true := by rw [bne_iff_ne]; omega
      have hy1 : y ≤ 9223372036854775808 := by omega
      have hrem : (-(y : Int)).tmod 10 = -((y : Int) % 10) := by rw [Int.neg_tmod, Int.tmod_eq_emod_of_nonneg (by omega)]
      have hquo : (-(y : Int)).tdiv 10 = -((y : Int) / 10) := by rw [Int.neg_tdiv, Int.tdiv_eq_ediv_of_nonneg (by omega)]
      have hd0 : 0 ≤ (y : Int) % 10 := by omega
      have hd1 : (y : Int) % 10 ≤ 9 := by omega
      have hl2 := hlen.1
      clear hlen
      obtain ⟨b, hbe⟩ : ∃ b, b = UInt8.ofNat (48 + y % 10) := ⟨_, rfl⟩
      have HBV : Hid (48 + (y : Int) % 10 = (b.toNat : Int)) := by rw [Hid, hbe, toNat_dig _ (by omega)]; omega
      have hcv := one_byte b (48 + (y : Int) % 10) HBV.out
      rw [← hbe] at HS
      clear hbe
      rcases (show ((y : Int) % 10 = 0) ∨ 0 < (y : Int) % 10 by omega) with hz | hz
      · have hcv2 := one_byte b 48 (by have := HBV.out; omega)
        clear hcv
        go_wp2
        go_roundw
        case rel => exact ⟨y / 10, b :: suf, rfl, by go_num, HS.out, hb.alloc hb.size _, by simp; omega⟩
        case measure => simp [intOf]; omega
      · go_wp2
        go_roundw
        case rel => exact ⟨y / 10, b :: suf, rfl, by go_num, HS.out, hb.alloc hb.size _, by simp; omega⟩
        case measure => simp [intOf]; omega
    · have hy0 : y = 0 := by omega
      subst hy0
      clear hy
      have hsuf : suf ≠ [] := fun h => by
        subst h
        have := HL.out
        unfold Left at this
        rw [if_pos (.inl rfl)] at this
        have := congrArg valL this
        rw [decL_val, List.append_nil, decL_val] at this
        have := HM.out
        omega
      have HE := Lib.hid (left_end m suf HL.out hsuf)
      clear hsuf
      go_wp2
      go_ret
      exact ⟨by rw [HO.out, HE.out]; rfl, hb⟩

set_option maxHeartbeats 400000 in
theorem refprint_zero (w : World) :
    Calls Tryd.prog 108 #[.int .i64 0] w fun e w' => e = .returned (.string (bs [48])) ∧ Below w.heap.size w w' := by
  go_enter Tryd.func108, Tryd.ntmps108
  go_wp2
  go_ret
  exact ⟨rfl, Below.refl _ _⟩
theorem refprint_any (n : Int) (h0 : -9223372036854775808 ≤ n) (h1 : n ≤ 9223372036854775807) (w : World) :
    Calls Tryd.prog 108 #[.int .i64 n] w fun e w' => e = .returned (.string (bs (printL n))) ∧ Below w.heap.size w w' := by
  by_cases h : n < 0
  · obtain ⟨m, rfl⟩ : ∃ m : Nat, n = -(m : Int) := ⟨n.natAbs, by omega⟩
    have e : printL (-(m : Int)) = 45 :: decL m := by unfold printL; rw [if_pos h]; congr 2; omega
    rw [e]
    exact refprint_neg m (by omega) (by omega) w
  · by_cases hz : n = 0
    · subst hz
      have e : printL 0 = [48] := by unfold printL; rw [if_neg (by omega)]; exact decL_zero
      rw [e]
      exact refprint_zero w
    · obtain ⟨m, rfl⟩ : ∃ m : Nat, n = (m : Int) := ⟨n.toNat, by omega⟩
      have e : printL (m : Int) = decL m := by unfold printL; rw [if_neg h]; congr 1
      rw [e]
      exact refprint_pos m (by omega) (by omega) w

theorem print_len (n : Int) (h0 : -9223372036854775808 ≤ n) (h1 : n ≤ 9223372036854775807) : (printL n).length ≤ 20 := by
  have := decL_len 19 n.natAbs (by omega) (by omega)
  unfold printL
  split <;> simp <;> omega
end Go.Proofs.YtphhgdgamnogpaaDoor

namespace Go.Proofs.YtphhgdgamnogpaaDoor
open Go.RowKit

theorem parse_at (l : List UInt8) (v c : Int) (hs : l.length ≤ 9223372036854775806) (h : parseL l = (v, c)) (w : World) :
    Calls Tryd.prog 135 #[.string (bs l)] w fun e w' => e = .returned (.tuple #[.int .i64 v, .int .i64 c]) ∧ w = w' := by
  have := parse_any l hs w
  rwa [h] at this
theorem parse_range (l : List UInt8) (k c : Int) (h : parseL l = (k, c)) : -9223372036854775808 ≤ k ∧ k ≤ 9223372036854775807 := by
  cases hd : digL l
  · rw [parse_no l hd] at h; injection h with h1 _; omega
  · have ha := foldP_spec _ (digL_all l hd)
    by_cases hv : valL (restL l) ≤ 9223372036854775808
    · rw [if_pos hv] at ha
      cases hn : negL l
      · by_cases hl : (-(valL (restL l) : Int)) = -9223372036854775808
        · rw [parse_least l _ hd ha hn hl] at h; injection h with h1 _; omega
        · rw [parse_pos l _ hd ha hn (by omega)] at h; injection h with h1 _; omega
      · rw [parse_neg l _ hd ha hn] at h; injection h with h1 _; omega
    · rw [if_neg hv] at ha
      rw [parse_over l hd ha] at h; injection h with h1 _; omega

end Go.Proofs.YtphhgdgamnogpaaDoor

namespace Go.Proofs.YtphhgdgamnogpaaDoor
open Go.RowKit
attribute [local go_sem] as_nil as_nil_lost as_int64 as_int64_must as_int as_lost as_int64_no as_int_no as_lost_no
attribute [local go_sem] Later.cell Later.frozen

set_option maxHeartbeats 2000000 in
theorem may_any (k n : Int) (w : World) :
    Calls Tryd.prog 63 #[.agg #[.int .i64 k, .int .i64 n]] w fun e w' => e = .returned (.bool (mayV k n)) ∧ Below w.heap.size w w' := by
  rcases may_cases k n with ⟨rfl, h⟩ | ⟨rfl, rfl, h⟩ | ⟨rfl, rfl, h⟩ | ⟨rfl, h1, h2, h⟩ | ⟨rfl, h1, h2, h⟩ | ⟨h1, h2, h3, h4, h⟩ <;> rw [h] <;> clear h
  all_goals
    go_enter Tryd.func63, Tryd.ntmps63
    go_wp2
    go_ret
    exact ⟨rfl, by go_grown⟩
set_option maxHeartbeats 2000000 in
theorem refmay_any (k n : Int) (w : World) :
    Calls Tryd.prog 65 #[.agg #[.int .i64 k, .int .i64 n]] w fun e w' => e = .returned (.bool (mayV k n)) ∧ Below w.heap.size w w' := by
  rcases may_cases k n with ⟨rfl, h⟩ | ⟨rfl, rfl, h⟩ | ⟨rfl, rfl, h⟩ | ⟨rfl, h1, h2, h⟩ | ⟨rfl, h1, h2, h⟩ | ⟨h1, h2, h3, h4, h⟩ <;> rw [h] <;> clear h
  all_goals
    go_enter Tryd.func65, Tryd.ntmps65
    go_wp2
    go_ret
    exact ⟨rfl, by go_grown⟩

/-- A value's text. -/
def vTxt (k n : Int) : List UInt8 := if mayV k n then (if k = 1 then printL n else if k = 0 then [110, 105, 108] else [63]) else []
def vErr (k n : Int) : Int := if mayV k n then 0 else 4
/-- A text's value: kind, number, error. -/
def vParse (l : List UInt8) : Int × Int × Int :=
  if l = [110, 105, 108] then (0, 0, 0) else if l = [63] then (2, 0, 0) else if (parseL l).2 = 0 then (1, (parseL l).1, 0) else (0, 0, (parseL l).2)

theorem int_int (n : Int) (w : World) :
    Calls Tryd.prog 105 #[.agg #[.iface 2 (.int .i64 n)]] w fun e w' => e = .returned (.tuple #[.int .i64 n, .int .i64 0]) ∧ Below w.heap.size w w' := by
  go_enter Tryd.func105, Tryd.ntmps105
  go_wp2
  go_returns
  exact ⟨rfl, by go_grown⟩

set_option maxHeartbeats 2000000 in
theorem vprint_any (k n : Int) (h0 : -9223372036854775808 ≤ n) (h1 : n ≤ 9223372036854775807) (w : World) :
    Calls Tryd.prog 59 #[.agg #[.int .i64 k, .int .i64 n]] w fun e w' => e = .returned (.tuple #[.string (bs (vTxt k n)), .int .i64 (vErr k n)]) ∧ Below w.heap.size w w' := by
  have HP := Lib.hid (print_any n h0 h1)
  have HM := Lib.hid (may_any k n)
  clear h0 h1
  rcases may_cases k n with ⟨rfl, h⟩ | ⟨rfl, rfl, h⟩ | ⟨rfl, rfl, h⟩ | h'
  · have e1 : vTxt 1 n = printL n := by simp [vTxt, h]
    have e2 : vErr 1 n = 0 := by simp [vErr, h]
    rw [e1, e2]
    rw [h] at HM
    clear h e1 e2
    go_enter Tryd.func59, Tryd.ntmps59
    go_wp2_with (fail)
    refine (HM.out _).mono ?_
    rintro e w1 ⟨rfl, hb1⟩
    obtain ⟨hc1, hf1⟩ := bcell hb1
    have hz1 := hb1.size
    try simp at hz1
    have hl1_0 : w.heap.size < w1.heap.size := by omega
    have hl1_0_1 : w.heap.size < w1.heap.size + 1 := by omega
    have hl1_0_2 : w.heap.size < w1.heap.size + 1 + 1 := by omega
    have hl1_0_3 : w.heap.size < w1.heap.size + 1 + 1 + 1 := by omega
    have hl1_0_4 : w.heap.size < w1.heap.size + 1 + 1 + 1 + 1 := by omega
    have hl1_0_5 : w.heap.size < w1.heap.size + 1 + 1 + 1 + 1 + 1 := by omega
    go_wp2_with (first | (go_at_call 107; refine (HP.out _).mono ?_; rintro e w2 ⟨rfl, hb2⟩) | go_in)
    go_returns
    exact ⟨rfl, by (repeat' (first | (with_reducible exact Below.refl _ _) | (with_reducible assumption) | (refine below_next ?_ (by with_reducible assumption)) | (with_reducible refine Below.alloc ?_ ?_ _) | (with_reducible refine Below.drew ?_) | (with_reducible refine below_drewN ?_ _) | omega | (simp; done) | (simp; omega)))⟩
  · have e1 : vTxt 0 0 = [110, 105, 108] := by simp [vTxt, h]
    have e2 : vErr 0 0 = 0 := by simp [vErr, h]
    rw [e1, e2]
    rw [h] at HM
    clear h e1 e2
    go_enter Tryd.func59, Tryd.ntmps59
    go_wp2_with (fail)
    refine (HM.out _).mono ?_
    rintro e w1 ⟨rfl, hb1⟩
    obtain ⟨hc1, hf1⟩ := bcell hb1
    have hz1 := hb1.size
    try simp at hz1
    have hl1_0 : w.heap.size < w1.heap.size := by omega
    have hl1_0_1 : w.heap.size < w1.heap.size + 1 := by omega
    have hl1_0_2 : w.heap.size < w1.heap.size + 1 + 1 := by omega
    have hl1_0_3 : w.heap.size < w1.heap.size + 1 + 1 + 1 := by omega
    have hl1_0_4 : w.heap.size < w1.heap.size + 1 + 1 + 1 + 1 := by omega
    have hl1_0_5 : w.heap.size < w1.heap.size + 1 + 1 + 1 + 1 + 1 := by omega
    go_wp2
    go_returns
    exact ⟨rfl, by (repeat' (first | (with_reducible exact Below.refl _ _) | (with_reducible assumption) | (refine below_next ?_ (by with_reducible assumption)) | (with_reducible refine Below.alloc ?_ ?_ _) | (with_reducible refine Below.drew ?_) | (with_reducible refine below_drewN ?_ _) | omega | (simp; done) | (simp; omega)))⟩
  · have e1 : vTxt 2 0 = [63] := by simp [vTxt, h]
    have e2 : vErr 2 0 = 0 := by simp [vErr, h]
    rw [e1, e2]
    rw [h] at HM
    clear h e1 e2
    go_enter Tryd.func59, Tryd.ntmps59
    go_wp2_with (fail)
    refine (HM.out _).mono ?_
    rintro e w1 ⟨rfl, hb1⟩
    obtain ⟨hc1, hf1⟩ := bcell hb1
    have hz1 := hb1.size
    try simp at hz1
    have hl1_0 : w.heap.size < w1.heap.size := by omega
    have hl1_0_1 : w.heap.size < w1.heap.size + 1 := by omega
    have hl1_0_2 : w.heap.size < w1.heap.size + 1 + 1 := by omega
    have hl1_0_3 : w.heap.size < w1.heap.size + 1 + 1 + 1 := by omega
    have hl1_0_4 : w.heap.size < w1.heap.size + 1 + 1 + 1 + 1 := by omega
    have hl1_0_5 : w.heap.size < w1.heap.size + 1 + 1 + 1 + 1 + 1 := by omega
    go_wp2
    go_returns
    exact ⟨rfl, by (repeat' (first | (with_reducible exact Below.refl _ _) | (with_reducible assumption) | (refine below_next ?_ (by with_reducible assumption)) | (with_reducible refine Below.alloc ?_ ?_ _) | (with_reducible refine Below.drew ?_) | (with_reducible refine below_drewN ?_ _) | omega | (simp; done) | (simp; omega)))⟩
  · have h : mayV k n = false := by
      rcases h' with ⟨-, -, -, h⟩ | ⟨-, -, -, h⟩ | ⟨-, -, -, -, h⟩ <;> exact h
    have e1 : vTxt k n = [] := by simp [vTxt, h]
    have e2 : vErr k n = 4 := by simp [vErr, h]
    rw [e1, e2]
    rw [h] at HM
    clear h h' e1 e2
    go_enter Tryd.func59, Tryd.ntmps59
    go_wp2_with (fail)
    refine (HM.out _).mono ?_
    rintro e w1 ⟨rfl, hb1⟩
    obtain ⟨hc1, hf1⟩ := bcell hb1
    have hz1 := hb1.size
    try simp at hz1
    have hl1_0 : w.heap.size < w1.heap.size := by omega
    have hl1_0_1 : w.heap.size < w1.heap.size + 1 := by omega
    have hl1_0_2 : w.heap.size < w1.heap.size + 1 + 1 := by omega
    have hl1_0_3 : w.heap.size < w1.heap.size + 1 + 1 + 1 := by omega
    have hl1_0_4 : w.heap.size < w1.heap.size + 1 + 1 + 1 + 1 := by omega
    have hl1_0_5 : w.heap.size < w1.heap.size + 1 + 1 + 1 + 1 + 1 := by omega
    go_wp2
    go_returns
    exact ⟨rfl, by (repeat' (first | (with_reducible exact Below.refl _ _) | (with_reducible assumption) | (refine below_next ?_ (by with_reducible assumption)) | (with_reducible refine Below.alloc ?_ ?_ _) | (with_reducible refine Below.drew ?_) | (with_reducible refine below_drewN ?_ _) | omega | (simp; done) | (simp; omega)))⟩

set_option maxHeartbeats 2000000 in
theorem refvprint_any (k n : Int) (h0 : -9223372036854775808 ≤ n) (h1 : n ≤ 9223372036854775807) (w : World) :
    Calls Tryd.prog 61 #[.agg #[.int .i64 k, .int .i64 n]] w fun e w' => e = .returned (.tuple #[.string (bs (vTxt k n)), .int .i64 (vErr k n)]) ∧ Below w.heap.size w w' := by
  have HP := Lib.hid (refprint_any n h0 h1)
  have HM := Lib.hid (refmay_any k n)
  clear h0 h1
  rcases may_cases k n with ⟨rfl, h⟩ | ⟨rfl, rfl, h⟩ | ⟨rfl, rfl, h⟩ | h'
  · have e1 : vTxt 1 n = printL n := by simp [vTxt, h]
    have e2 : vErr 1 n = 0 := by simp [vErr, h]
    rw [e1, e2]
    rw [h] at HM
    clear h e1 e2
    go_enter Tryd.func61, Tryd.ntmps61
    go_wp2_with (fail)
    refine (HM.out _).mono ?_
    rintro e w1 ⟨rfl, hb1⟩
    obtain ⟨hc1, hf1⟩ := bcell hb1
    have hz1 := hb1.size
    try simp at hz1
    have hl1_0 : w.heap.size < w1.heap.size := by omega
    go_wp2_with (first | (go_at_call 108; refine (HP.out _).mono ?_; rintro e w2 ⟨rfl, hb2⟩) | go_in)
    go_returns
    exact ⟨rfl, by (repeat' (first | (with_reducible exact Below.refl _ _) | (with_reducible assumption) | (refine below_next ?_ (by with_reducible assumption)) | (with_reducible refine Below.alloc ?_ ?_ _) | (with_reducible refine Below.drew ?_) | (with_reducible refine below_drewN ?_ _) | omega | (simp; done) | (simp; omega)))⟩
  · have e1 : vTxt 0 0 = [110, 105, 108] := by simp [vTxt, h]
    have e2 : vErr 0 0 = 0 := by simp [vErr, h]
    rw [e1, e2]
    rw [h] at HM
    clear h e1 e2
    go_enter Tryd.func61, Tryd.ntmps61
    go_wp2_with (fail)
    refine (HM.out _).mono ?_
    rintro e w1 ⟨rfl, hb1⟩
    obtain ⟨hc1, hf1⟩ := bcell hb1
    have hz1 := hb1.size
    try simp at hz1
    have hl1_0 : w.heap.size < w1.heap.size := by omega
    go_wp2
    go_returns
    exact ⟨rfl, by (repeat' (first | (with_reducible exact Below.refl _ _) | (with_reducible assumption) | (refine below_next ?_ (by with_reducible assumption)) | (with_reducible refine Below.alloc ?_ ?_ _) | (with_reducible refine Below.drew ?_) | (with_reducible refine below_drewN ?_ _) | omega | (simp; done) | (simp; omega)))⟩
  · have e1 : vTxt 2 0 = [63] := by simp [vTxt, h]
    have e2 : vErr 2 0 = 0 := by simp [vErr, h]
    rw [e1, e2]
    rw [h] at HM
    clear h e1 e2
    go_enter Tryd.func61, Tryd.ntmps61
    go_wp2_with (fail)
    refine (HM.out _).mono ?_
    rintro e w1 ⟨rfl, hb1⟩
    obtain ⟨hc1, hf1⟩ := bcell hb1
    have hz1 := hb1.size
    try simp at hz1
    have hl1_0 : w.heap.size < w1.heap.size := by omega
    go_wp2
    go_returns
    exact ⟨rfl, by (repeat' (first | (with_reducible exact Below.refl _ _) | (with_reducible assumption) | (refine below_next ?_ (by with_reducible assumption)) | (with_reducible refine Below.alloc ?_ ?_ _) | (with_reducible refine Below.drew ?_) | (with_reducible refine below_drewN ?_ _) | omega | (simp; done) | (simp; omega)))⟩
  · have h : mayV k n = false := by
      rcases h' with ⟨-, -, -, h⟩ | ⟨-, -, -, h⟩ | ⟨-, -, -, -, h⟩ <;> exact h
    have e1 : vTxt k n = [] := by simp [vTxt, h]
    have e2 : vErr k n = 4 := by simp [vErr, h]
    rw [e1, e2]
    rw [h] at HM
    clear h h' e1 e2
    go_enter Tryd.func61, Tryd.ntmps61
    go_wp2_with (fail)
    refine (HM.out _).mono ?_
    rintro e w1 ⟨rfl, hb1⟩
    obtain ⟨hc1, hf1⟩ := bcell hb1
    have hz1 := hb1.size
    try simp at hz1
    have hl1_0 : w.heap.size < w1.heap.size := by omega
    go_wp2
    go_returns
    exact ⟨rfl, by (repeat' (first | (with_reducible exact Below.refl _ _) | (with_reducible assumption) | (refine below_next ?_ (by with_reducible assumption)) | (with_reducible refine Below.alloc ?_ ?_ _) | (with_reducible refine Below.drew ?_) | (with_reducible refine below_drewN ?_ _) | omega | (simp; done) | (simp; omega)))⟩

/-- The four ways of Parse. -/
theorem vparse_cases (l : List UInt8) : (l = [110, 105, 108] ∧ vParse l = (0, 0, 0)) ∨ (l = [63] ∧ vParse l = (2, 0, 0)) ∨
    ((l == [110, 105, 108]) = false ∧ (l == [63]) = false ∧ ∃ v, parseL l = (v, 0) ∧ vParse l = (1, v, 0)) ∨
    ((l == [110, 105, 108]) = false ∧ (l == [63]) = false ∧ ∃ v c, parseL l = (v, c) ∧ (c != 0) = true ∧ vParse l = (0, 0, c)) := by
  by_cases h1 : l = [110, 105, 108]
  · exact .inl ⟨h1, by simp [vParse, h1]⟩
  by_cases h2 : l = [63]
  · exact .inr (.inl ⟨h2, by simp [vParse, h2]⟩)
  have e1 : (l == [110, 105, 108]) = false := by simpa using h1
  have e2 : (l == [63]) = false := by simpa using h2
  obtain ⟨v, c, hp⟩ : ∃ v c, parseL l = (v, c) := ⟨_, _, rfl⟩
  by_cases hc : c = 0
  · subst hc
    exact .inr (.inr (.inl ⟨e1, e2, v, hp, by simp [vParse, h1, h2, hp]⟩))
  · exact .inr (.inr (.inr ⟨e1, e2, v, c, hp, by simpa using hc, by simp [vParse, h1, h2, hp, hc]⟩))

theorem refparse_at (l : List UInt8) (v c : Int) (hs : l.length ≤ 9223372036854775806) (h : parseL l = (v, c)) (w : World) :
    Calls Tryd.prog 137 #[.string (bs l)] w fun e w' => e = .returned (.tuple #[.int .i64 v, .int .i64 c]) ∧ w = w' := by
  have := refparse_any l hs w
  rwa [h] at this

set_option maxHeartbeats 2000000 in
theorem vparse_of (l : List UInt8) (a b c : Int) (hs : l.length ≤ 9223372036854775806) (h : vParse l = (a, b, c)) (w : World) :
    Calls Tryd.prog 117 #[.string (bs l)] w fun e w' => e = .returned (.tuple #[.agg #[.int .i64 a, .int .i64 b], .int .i64 c]) ∧ Below w.heap.size w w' := by
  rcases vparse_cases l with ⟨rfl, h'⟩ | ⟨rfl, h'⟩ | ⟨h1, h2, v, hp, h'⟩ | ⟨h1, h2, v, c', hp, hc, h'⟩
  all_goals
    rw [h'] at h
    simp only [Prod.mk.injEq] at h
    obtain ⟨rfl, rfl, rfl⟩ := h
    clear h'
  · go_enter Tryd.func117, Tryd.ntmps117
    go_wp2
    go_returns
    exact ⟨rfl, by go_grown⟩
  · go_enter Tryd.func117, Tryd.ntmps117
    go_wp2
    go_returns
    exact ⟨rfl, by go_grown⟩
  all_goals
    have HP := Lib.hid (parse_at l _ _ hs hp)
    clear hp hs
    go_enter Tryd.func117, Tryd.ntmps117
    go_wp2_with (go_at_call 135; refine (HP.out _).mono ?_; rintro e w1 ⟨rfl, rfl⟩)
    go_returns
    exact ⟨rfl, by go_grown⟩
set_option maxHeartbeats 2000000 in
theorem refvparse_of (l : List UInt8) (a b c : Int) (hs : l.length ≤ 9223372036854775806) (h : vParse l = (a, b, c)) (w : World) :
    Calls Tryd.prog 118 #[.string (bs l)] w fun e w' => e = .returned (.tuple #[.agg #[.int .i64 a, .int .i64 b], .int .i64 c]) ∧ Below w.heap.size w w' := by
  rcases vparse_cases l with ⟨rfl, h'⟩ | ⟨rfl, h'⟩ | ⟨h1, h2, v, hp, h'⟩ | ⟨h1, h2, v, c', hp, hc, h'⟩
  all_goals
    rw [h'] at h
    simp only [Prod.mk.injEq] at h
    obtain ⟨rfl, rfl, rfl⟩ := h
    clear h'
  · go_enter Tryd.func118, Tryd.ntmps118
    go_wp2
    go_returns
    exact ⟨rfl, by go_grown⟩
  · go_enter Tryd.func118, Tryd.ntmps118
    go_wp2
    go_returns
    exact ⟨rfl, by go_grown⟩
  all_goals
    have HP := Lib.hid (refparse_at l _ _ hs hp)
    clear hp hs
    go_enter Tryd.func118, Tryd.ntmps118
    go_wp2_with (go_at_call 137; refine (HP.out _).mono ?_; rintro e w1 ⟨rfl, rfl⟩)
    go_returns
    exact ⟨rfl, by go_grown⟩

end Go.Proofs.YtphhgdgamnogpaaDoor

namespace Go.Proofs.YtphhgdgamnogpaaDoor
open Go.RowKit

theorem val_back (k n : Int) (h0 : -9223372036854775808 ≤ n) (h1 : n ≤ 9223372036854775807) (hm : mayV k n = true) : vParse (vTxt k n) = (k, n, 0) := by
  rcases may_cases k n with ⟨rfl, h⟩ | ⟨rfl, rfl, h⟩ | ⟨rfl, rfl, h⟩ | h'
  · have e1 : vTxt 1 n = printL n := by simp [vTxt, h]
    have hp := parse_print n h0 h1
    have hd := digL_print n
    have n1 : printL n ≠ [110, 105, 108] := fun e => by rw [e] at hd; exact absurd hd (by decide)
    have n2 : printL n ≠ [63] := fun e => by rw [e] at hd; exact absurd hd (by decide)
    rw [e1]; simp [vParse, n1, n2, hp]
  · rw [show vTxt 0 0 = [110, 105, 108] by simp [vTxt, h]]; simp [vParse]
  · rw [show vTxt 2 0 = [63] by simp [vTxt, h]]; simp [vParse]
  · have h : mayV k n = false := by
      rcases h' with ⟨-, -, -, h⟩ | ⟨-, -, -, h⟩ | ⟨-, -, -, -, h⟩ <;> exact h
    rw [h] at hm; exact absurd hm (by decide)
theorem val_inj (k n k' n' : Int) (h0 : -9223372036854775808 ≤ n) (h1 : n ≤ 9223372036854775807) (h0' : -9223372036854775808 ≤ n') (h1' : n' ≤ 9223372036854775807)
    (hm : mayV k n = true) (hm' : mayV k' n' = true) (h : vTxt k n = vTxt k' n') : k = k' ∧ n = n' := by
  have a := val_back k n h0 h1 hm
  have b := val_back k' n' h0' h1' hm'
  rw [h, b] at a
  simp only [Prod.mk.injEq] at a
  exact ⟨a.1.symm, a.2.1.symm⟩
theorem txt_len (k n : Int) (h0 : -9223372036854775808 ≤ n) (h1 : n ≤ 9223372036854775807) : (vTxt k n).length ≤ 20 := by
  unfold vTxt
  split
  · split
    · exact print_len n h0 h1
    · split <;> simp
  · simp

end Go.Proofs.YtphhgdgamnogpaaDoor

namespace Go.Proofs.YtphhgdgamnogpaaDoor
open Go.RowKit Go.Lib

/-- May an event be? -/
def mayE (x : EventM) : Bool := decide (1 ≤ x.1) && (decide (x.1 ≤ 6) && (nameL x.2.1 &&
  (if longK x.1 then nameL x.2.2.1 && (mayV x.2.2.2.1 x.2.2.2.2.1 && (x.1 == 2 || x.2.2.2.1 == 1)) else decide (x.2.2.1 = []) && (x.2.2.2.1 == 0 && x.2.2.2.2.1 == 0))))
/-- An event's words. -/
def wordsE (x : EventM) : List (List UInt8) := if longK x.1 then [kindW x.1, x.2.1, x.2.2.1, vTxt x.2.2.2.1 x.2.2.2.2.1] else [kindW x.1, x.2.1]
/-- An event's line, and the error. -/
def lineE (x : EventM) : List UInt8 := if mayE x then join (wordsE x) [32] else []
def errE (x : EventM) : Int := if mayE x then 0 else 4
/-- An event of four words, whose names are right. -/
def valuedE (k : Int) (s key t : List UInt8) : EventM × Int :=
  if (vParse t).2.2 ≠ 0 then (noEv, (vParse t).2.2) else if k = 3 ∧ (vParse t).1 = 0 then (noEv, 11) else if k = 3 ∧ (vParse t).1 = 2 then (noEv, 5) else ((k, s, key, (vParse t).1, (vParse t).2.1, 0), 0)
/-- Are these a kind, and the right number of words, with names? -/
def headE (L : List (List UInt8)) : Bool := decide (kindL (L.getD 0 []) ≠ 0) && (decide (L.length = if longK (kindL (L.getD 0 [])) then 4 else 2) && (nameL (L.getD 1 []) && (!longK (kindL (L.getD 0 [])) || nameL (L.getD 2 []))))
/-- What words are read as. -/
def readE (L : List (List UInt8)) : EventM × Bool × Int :=
  if headE L = false then (noEv, false, 5)
  else if longK (kindL (L.getD 0 [])) then ((valuedE (kindL (L.getD 0 [])) (L.getD 1 []) (L.getD 2 []) (L.getD 3 [])).1, decide ((valuedE (kindL (L.getD 0 [])) (L.getD 1 []) (L.getD 2 []) (L.getD 3 [])).2 = 0), (valuedE (kindL (L.getD 0 [])) (L.getD 1 []) (L.getD 2 []) (L.getD 3 [])).2)
  else ((kindL (L.getD 0 []), L.getD 1 [], [], 0, 0, 0), true, 0)
/-- What a line is read as. -/
def parseE (s : List UInt8) : EventM × Bool × Int :=
  if (wordsR s).2 ≠ 0 ∨ (wordsR s).1 = [] then (noEv, false, ((wordsR s).2 : Int)) else readE ((wordsR s).1.map (·.1))

/-! ### words -/
theorem u8_back (x : Int) (h0 : 0 ≤ x) (h : x < 256) : ((x.toNat.toUInt8).toNat : Int) = x := by
  simp only [Nat.toUInt8, UInt8.toNat_ofNat']
  omega
theorem encode_high (c : Nat) (h : 127 < c) (hs : c ≤ 1114111) : ∀ b ∈ encodeRune (c : Int), 128 ≤ b.toNat := by
  have key : ∀ x ∈ encodeRuneZ (c : Int), 128 ≤ x ∧ x < 256 := by
    intro x hx
    unfold encodeRuneZ at hx
    (repeat' split at hx) <;> simp only [List.mem_cons, List.not_mem_nil, or_false] at hx <;> omega
  intro b hb
  obtain ⟨x, hx, rfl⟩ := List.mem_map.1 hb
  have hk := key x hx
  have := u8_back x (by omega) (by omega)
  omega
theorem encode_low (c : Nat) (h : c ≤ 127) : encodeRune (c : Int) = [UInt8.ofNat c] := by
  rw [encodeRune, encodeRuneZ_one (by omega) (by omega)]
  simp
/-- A low byte of a valid text is a rune of it. -/
theorem low_rune (l : List UInt8) (hv : validD l = true) (b : UInt8) (hb : b ∈ l) (hl : b.toNat < 128) : b.toNat ∈ runesU l := by
  have e := textU_runes _ l (Nat.le_refl _) hv
  rw [← e] at hb
  obtain ⟨c, hc, hb⟩ := List.mem_flatMap.1 hb
  by_cases h : c ≤ 127
  · rw [encode_low c h] at hb
    obtain rfl : b = UInt8.ofNat c := by simpa using hb
    rw [UInt8.toNat_ofNat', Nat.mod_eq_of_lt (by omega)]
    exact hc
  · have := encode_high c (by omega) (runesU_rune l c hc) b hb
    omega
theorem name_word (l : List UInt8) (h : nameL l = true) : WordT l := by
  unfold nameL at h
  simp only [Bool.and_eq_true] at h
  obtain ⟨⟨-, hv⟩, hw⟩ := h
  unfold word at hw
  simp only [Bool.and_eq_true, decide_eq_true_eq, List.all_eq_true] at hw
  obtain ⟨⟨⟨h0, -⟩, hp⟩, -⟩ := hw
  have key : ∀ b ∈ l, b.toNat < 128 → part b.toNat = true := fun b hb hl => hp _ (low_rune l hv b hb hl)
  refine ⟨fun e => by subst e; simp [runesU_nil] at h0, fun b hb => ?_, hv, fun b hb => ?_⟩
  · cases hbl : blankB b with
    | false => rfl
    | true =>
      have hlow := blankB_low b hbl
      have := key b hb hlow
      unfold blankB blankR at hbl
      unfold part dig at this
      simp at hbl this
      omega
  · constructor
    · rintro rfl
      exact absurd (key 35 hb (by decide)) (by decide)
    · rintro rfl
      exact absurd (key 10 hb (by decide)) (by decide)
theorem dig_word (l : List UInt8) (h0 : l ≠ []) (h : ∀ b ∈ l, b.toNat < 128 ∧ blankB b = false ∧ b ≠ 35 ∧ b ≠ 10) : WordT l := by
  refine ⟨h0, fun b hb => (h b hb).2.1, ?_, fun b hb => (h b hb).2.2⟩
  clear h0
  induction l with
  | nil => rfl
  | cons b t ih =>
    have hb := h b (List.mem_cons_self ..)
    have e := valid_cut _ [] t b (Nat.le_refl _) hb.1
    rw [List.nil_append] at e
    rw [e, ih (fun c hc => h c (List.mem_cons_of_mem _ hc))]
    rfl
theorem print_bytes (n : Int) : ∀ b ∈ printL n, b = 45 ∨ isDig b = true := by
  intro b hb
  unfold printL at hb
  have := decL_all n.natAbs
  rw [List.all_eq_true] at this
  split at hb
  · rcases List.mem_cons.1 hb with rfl | hb
    · exact .inl rfl
    · exact .inr (this b hb)
  · exact .inr (this b hb)
theorem print_ne (n : Int) : printL n ≠ [] := by
  unfold printL
  split
  · simp
  · exact decL_ne _
theorem val_word (k n : Int) (h : mayV k n = true) : WordT (vTxt k n) := by
  unfold vTxt
  rw [if_pos h]
  split
  · refine dig_word _ (print_ne n) fun b hb => ?_
    rcases print_bytes n b hb with rfl | hd
    · decide
    · have hd' := (isDig_iff b).1 hd
      refine ⟨by omega, ?_, ?_, ?_⟩
      · unfold blankB blankR; simp; omega
      · rintro rfl; exact absurd hd (by decide)
      · rintro rfl; exact absurd hd (by decide)
  · split
    · exact dig_word _ (by decide) (by decide)
    · exact dig_word _ (by decide) (by decide)
theorem kind_word (k : Int) (h0 : 1 ≤ k) (h1 : k ≤ 6) : WordT (kindW k) ∧ kindL (kindW k) = k := by
  have : k = 1 ∨ k = 2 ∨ k = 3 ∨ k = 4 ∨ k = 5 ∨ k = 6 := by omega
  rcases this with rfl | rfl | rfl | rfl | rfl | rfl <;> exact ⟨dig_word _ (by decide) (by decide), by decide⟩
theorem kindL_range (l : List UInt8) : 0 ≤ kindL l ∧ kindL l ≤ 6 := by
  unfold kindL
  (repeat' split) <;> decide
/-- Words joined are parted into the same. -/
theorem words_join (L : List (List UInt8)) (hw : ∀ x ∈ L, WordT x) : (wordsR (join L [32])).2 = 0 ∧ (wordsR (join L [32])).1.map (·.1) = L := by
  obtain ⟨h1, h2⟩ := join_valid L hw
  have e2 : wordsR (join L [32]) = (wordsL (join L [32]), 0) := by
    unfold wordsR
    rw [if_pos (by rw [h1, feed_false _ (fun b hb => (h2 b hb).2)]; rfl), ahead_same _ (fun b hb => (h2 b hb).1)]
  rw [e2]
  exact ⟨rfl, by rw [words_texts, texts_join L hw]⟩

/-! ### reading undoes printing -/
theorem may_words (x : EventM) (h : mayE x = true) : ∀ t ∈ wordsE x, WordT t := by
  unfold mayE at h
  simp only [Bool.and_eq_true, decide_eq_true_eq] at h
  obtain ⟨h0, h1, hs, hr⟩ := h
  have hk := (kind_word x.1 h0 h1).1
  have hn := name_word _ hs
  unfold wordsE
  cases hl : longK x.1 with
  | false =>
    simp only [Bool.false_eq_true, if_false]
    intro t ht
    simp at ht
    rcases ht with rfl | rfl
    · exact hk
    · exact hn
  | true =>
    rw [hl] at hr
    simp only [if_true, Bool.and_eq_true] at hr
    obtain ⟨hkey, hv, -⟩ := hr
    simp only [if_true]
    intro t ht
    simp at ht
    rcases ht with rfl | rfl | rfl | rfl
    · exact hk
    · exact hn
    · exact name_word _ hkey
    · exact val_word _ _ hv
theorem read_words (x : EventM) (h : mayE x = true) (h0 : -9223372036854775808 ≤ x.2.2.2.2.1) (h1 : x.2.2.2.2.1 ≤ 9223372036854775807) : readE (wordsE x) = ((x.1, x.2.1, x.2.2.1, x.2.2.2.1, x.2.2.2.2.1, 0), true, 0) := by
  obtain ⟨k, s, key, vk, n, ln⟩ := x
  simp only at h0 h1
  unfold mayE at h
  simp only [Bool.and_eq_true, decide_eq_true_eq] at h
  obtain ⟨hk0, hk1, hs, hr⟩ := h
  have hk := (kind_word k hk0 hk1).2
  unfold wordsE
  simp only
  cases hl : longK k with
  | false =>
    rw [hl] at hr
    simp only [Bool.false_eq_true, if_false, Bool.and_eq_true, decide_eq_true_eq, beq_iff_eq] at hr
    obtain ⟨rfl, rfl, rfl⟩ := hr
    have hh : headE [kindW k, s] = true := by
      unfold headE
      simp [hk, hl, hs]
      omega
    unfold readE
    simp only [Bool.false_eq_true, if_false]
    rw [if_neg (by rw [hh]; decide)]
    simp [hk, hl]
  | true =>
    rw [hl] at hr
    simp only [if_true, Bool.and_eq_true] at hr
    obtain ⟨hkey, hv, hw⟩ := hr
    have hh : headE [kindW k, s, key, vTxt vk n] = true := by
      unfold headE
      simp [hk, hl, hs, hkey]
      omega
    have hb := val_back vk n h0 h1 hv
    have hvv : valuedE k s key (vTxt vk n) = ((k, s, key, vk, n, 0), 0) := by
      unfold valuedE
      rw [hb]
      have h3 : k = 3 → vk = 1 := by
        intro e
        subst e
        simpa using hw
      rw [if_neg (by simp), if_neg (by rintro ⟨a, b⟩; have := h3 a; simp at b; omega), if_neg (by rintro ⟨a, b⟩; have := h3 a; simp at b; omega)]
    unfold readE
    simp only [if_true]
    rw [if_neg (by rw [hh]; decide)]
    simp [hk, hl, hvv]
/-- What is printed is read as the same event, but for its line. -/
theorem parse_line (x : EventM) (h : mayE x = true) (h0 : -9223372036854775808 ≤ x.2.2.2.2.1) (h1 : x.2.2.2.2.1 ≤ 9223372036854775807) : parseE (lineE x) = ((x.1, x.2.1, x.2.2.1, x.2.2.2.1, x.2.2.2.2.1, 0), true, 0) := by
  obtain ⟨e1, e2⟩ := words_join (wordsE x) (may_words x h)
  unfold lineE parseE
  rw [if_pos h, if_neg, e2, read_words x h h0 h1]
  rintro (h3 | h3)
  · exact h3 e1
  · rw [h3] at e2
    unfold wordsE at e2
    split at e2 <;> simp at e2

/-! ### what is read may be -/
theorem parse_digs (t : List UInt8) (h : (vParse t).2.2 = 0) : mayV (vParse t).1 (vParse t).2.1 = true := by
  unfold vParse at h ⊢
  (repeat' split) <;> simp_all [mayV]
theorem read_may (L : List (List UInt8)) (h : (readE L).2.1 = true) : (readE L).2.2 = 0 ∧ mayE (readE L).1 = true := by
  unfold readE at h ⊢
  by_cases hh : headE L = false
  · rw [if_pos hh] at h; cases h
  · rw [if_neg hh] at h ⊢
    have hh' : headE L = true := by simpa using hh
    clear hh
    unfold headE at hh'
    have hkr := kindL_range (L.getD 0 [])
    generalize kindL (L.getD 0 []) = K at *
    generalize L.getD 1 [] = n1 at *
    generalize L.getD 2 [] = n2 at *
    generalize L.getD 3 [] = t at *
    simp only [Bool.and_eq_true, decide_eq_true_eq] at hh'
    obtain ⟨hk0, -, hn, hn2⟩ := hh'
    cases hl : longK K with
    | false =>
      rw [if_neg (by simp)]
      refine ⟨rfl, ?_⟩
      unfold mayE
      simp only [hl, hn]
      simp
      omega
    | true =>
      rw [hl] at h hn2
      rw [if_pos rfl] at h ⊢
      have hm := parse_digs t
      unfold valuedE at h ⊢
      obtain ⟨a, b, c, hp⟩ : ∃ a b c, vParse t = (a, b, c) := ⟨_, _, _, rfl⟩
      rw [hp] at h hm ⊢
      simp only at h hm ⊢
      have hn2' : nameL n2 = true := by simpa using hn2
      by_cases h1 : c = 0
      · subst h1
        have hm' := hm rfl
        rw [if_neg (by simp)] at h ⊢
        by_cases h2 : K = 3 ∧ a = 0
        · rw [if_pos h2] at h; simp at h
        · rw [if_neg h2] at h ⊢
          by_cases h3 : K = 3 ∧ a = 2
          · rw [if_pos h3] at h; simp at h
          · rw [if_neg h3]
            refine ⟨rfl, ?_⟩
            unfold mayE
            simp only [hl, if_true, hn, hm', hn2']
            have hk23 : K = 2 ∨ K = 3 := by
              unfold longK at hl
              simpa using hl
            have hv : K = 3 → a = 1 := by
              intro e
              have a0 : a ≠ 0 := fun b => h2 ⟨e, b⟩
              have a2 : a ≠ 2 := fun b => h3 ⟨e, b⟩
              unfold mayV at hm'
              simp at hm'
              omega
            rcases hk23 with e | e
            · simp [e]
            · simp [e, hv e]
      · rw [if_pos (by simpa using h1)] at h
        simp at h
        exact absurd h h1
theorem parse_may (s : List UInt8) (h : (parseE s).2.1 = true) : (parseE s).2.2 = 0 ∧ mayE (parseE s).1 = true := by
  unfold parseE at h ⊢
  split
  · rename_i hc
    rw [if_pos hc] at h
    simp at h
  · rename_i hc
    rw [if_neg hc] at h
    exact read_may _ h
end Go.Proofs.YtphhgdgamnogpaaDoor

namespace Go.Proofs.YtphhgdgamnogpaaDoor
open Go.RowKit Go.Lib

set_option maxRecDepth 100000 in
set_option maxHeartbeats 4000000 in
theorem one_three (l : List UInt8) (p : Nat) (hp : p < l.length) (hs : l.length ≤ 4611686018427387904) (h : 224 ≤ l[p].toNat) (h' : l[p].toNat ≤ 239) (w : World) :
    Calls Tryd.prog 140 #[.string (bs l), .int .i64 p] w fun e w' => e = .returned (.tuple #[.int .i64 ((oneAt l p).2 : Nat), .int .i64 ((oneAt l p).1 : Nat)]) ∧ w = w' := by
  have h0 := getD_at l p hp
  have hN := oneAt_N l p
  rw [h0, dec3 _ _ _ _ _ h h'] at hN
  by_cases hl : p + 2 < l.length
  · have h1 := getD_at l (p + 1) (by omega)
    have h2 := getD_at l (p + 2) (by omega)
    rw [h1, h2] at hN
    have hb1 := l[p + 1].toNat_lt
    have hb2 := l[p + 2].toNat_lt
    have H := Lib.hid hN
    clear hN h0 h1 h2
    rcases (show (l[p + 1].toNat < 128) ∨ (128 ≤ l[p + 1].toNat ∧ 191 < l[p + 1].toNat) ∨ (128 ≤ l[p + 1].toNat ∧ l[p + 1].toNat ≤ 191 ∧ l[p + 2].toNat < 128) ∨ (128 ≤ l[p + 1].toNat ∧ l[p + 1].toNat ≤ 191 ∧ 128 ≤ l[p + 2].toNat ∧ 191 < l[p + 2].toNat) ∨ (128 ≤ l[p + 1].toNat ∧ l[p + 1].toNat ≤ 191 ∧ 128 ≤ l[p + 2].toNat ∧ l[p + 2].toNat ≤ 191 ∧ (l[p].toNat - 224) * 4096 + (l[p + 1].toNat - 128) * 64 + (l[p + 2].toNat - 128) < 2048) ∨ (128 ≤ l[p + 1].toNat ∧ l[p + 1].toNat ≤ 191 ∧ 128 ≤ l[p + 2].toNat ∧ l[p + 2].toNat ≤ 191 ∧ 2048 ≤ (l[p].toNat - 224) * 4096 + (l[p + 1].toNat - 128) * 64 + (l[p + 2].toNat - 128) ∧ (l[p].toNat - 224) * 4096 + (l[p + 1].toNat - 128) * 64 + (l[p + 2].toNat - 128) < 55296) ∨ (128 ≤ l[p + 1].toNat ∧ l[p + 1].toNat ≤ 191 ∧ 128 ≤ l[p + 2].toNat ∧ l[p + 2].toNat ≤ 191 ∧ 55296 ≤ (l[p].toNat - 224) * 4096 + (l[p + 1].toNat - 128) * 64 + (l[p + 2].toNat - 128) ∧ (l[p].toNat - 224) * 4096 + (l[p + 1].toNat - 128) * 64 + (l[p + 2].toNat - 128) ≤ 57343) ∨ (128 ≤ l[p + 1].toNat ∧ l[p + 1].toNat ≤ 191 ∧ 128 ≤ l[p + 2].toNat ∧ l[p + 2].toNat ≤ 191 ∧ 57343 < (l[p].toNat - 224) * 4096 + (l[p + 1].toNat - 128) * 64 + (l[p + 2].toNat - 128)) by omega) with ⟨r0⟩ | ⟨r0, r1⟩ | ⟨r0, r1, r2⟩ | ⟨r0, r1, r2, r3⟩ | ⟨r0, r1, r2, r3, r4⟩ | ⟨r0, r1, r2, r3, r4, r5⟩ | ⟨r0, r1, r2, r3, r4, r5⟩ | ⟨r0, r1, r2, r3, r4⟩
    · go_enter Tryd.func140, Tryd.ntmps140; go_wp2; go_rounds 3; go_ret2; rw [H.out, if_neg (by omega)]; exact ⟨rfl, rfl⟩
    · go_enter Tryd.func140, Tryd.ntmps140; go_wp2; go_rounds 3; go_ret2; rw [H.out, if_neg (by omega)]; exact ⟨rfl, rfl⟩
    · go_enter Tryd.func140, Tryd.ntmps140; go_wp2; go_rounds 3; go_ret2; rw [H.out, if_neg (by omega)]; exact ⟨rfl, rfl⟩
    · go_enter Tryd.func140, Tryd.ntmps140; go_wp2; go_rounds 3; go_ret2; rw [H.out, if_neg (by omega)]; exact ⟨rfl, rfl⟩
    · go_enter Tryd.func140, Tryd.ntmps140; go_wp2; go_rounds 3; go_ret2; rw [H.out, if_neg (by omega)]; exact ⟨rfl, rfl⟩
    · go_enter Tryd.func140, Tryd.ntmps140; go_wp2; go_rounds 3; go_ret2; rw [H.out, if_pos (by omega)]; refine ⟨?_, rfl⟩; simp; omega
    · go_enter Tryd.func140, Tryd.ntmps140; go_wp2; go_rounds 3; go_ret2; rw [H.out, if_neg (by omega)]; exact ⟨rfl, rfl⟩
    · go_enter Tryd.func140, Tryd.ntmps140; go_wp2; go_rounds 3; go_ret2; rw [H.out, if_pos (by omega)]; refine ⟨?_, rfl⟩; simp; omega
  · have H := Lib.hid hN
    clear hN h0
    go_enter Tryd.func140, Tryd.ntmps140; go_wp2; go_ret2; rw [H.out, if_neg (by omega)]; exact ⟨rfl, rfl⟩
end Go.Proofs.YtphhgdgamnogpaaDoor

namespace Go.Proofs.YtphhgdgamnogpaaDoor
open Go.RowKit Go.Lib

set_option maxRecDepth 100000 in
set_option maxHeartbeats 4000000 in
theorem one_four (l : List UInt8) (p : Nat) (hp : p < l.length) (hs : l.length ≤ 4611686018427387904) (h : 240 ≤ l[p].toNat) (h' : l[p].toNat ≤ 244) (w : World) :
    Calls Tryd.prog 140 #[.string (bs l), .int .i64 p] w fun e w' => e = .returned (.tuple #[.int .i64 ((oneAt l p).2 : Nat), .int .i64 ((oneAt l p).1 : Nat)]) ∧ w = w' := by
  have h0 := getD_at l p hp
  have hN := oneAt_N l p
  rw [h0, dec4 _ _ _ _ _ h h'] at hN
  by_cases hl : p + 3 < l.length
  · have h1 := getD_at l (p + 1) (by omega)
    have h2 := getD_at l (p + 2) (by omega)
    have h3 := getD_at l (p + 3) (by omega)
    rw [h1, h2, h3] at hN
    have hb1 := l[p + 1].toNat_lt
    have hb2 := l[p + 2].toNat_lt
    have hb3 := l[p + 3].toNat_lt
    have H := Lib.hid hN
    clear hN h0 h1 h2 h3
    rcases (show (l[p + 1].toNat < 128) ∨ (128 ≤ l[p + 1].toNat ∧ 191 < l[p + 1].toNat) ∨ (128 ≤ l[p + 1].toNat ∧ l[p + 1].toNat ≤ 191 ∧ l[p + 2].toNat < 128) ∨ (128 ≤ l[p + 1].toNat ∧ l[p + 1].toNat ≤ 191 ∧ 128 ≤ l[p + 2].toNat ∧ 191 < l[p + 2].toNat) ∨ (128 ≤ l[p + 1].toNat ∧ l[p + 1].toNat ≤ 191 ∧ 128 ≤ l[p + 2].toNat ∧ l[p + 2].toNat ≤ 191 ∧ l[p + 3].toNat < 128) ∨ (128 ≤ l[p + 1].toNat ∧ l[p + 1].toNat ≤ 191 ∧ 128 ≤ l[p + 2].toNat ∧ l[p + 2].toNat ≤ 191 ∧ 128 ≤ l[p + 3].toNat ∧ 191 < l[p + 3].toNat) ∨ (128 ≤ l[p + 1].toNat ∧ l[p + 1].toNat ≤ 191 ∧ 128 ≤ l[p + 2].toNat ∧ l[p + 2].toNat ≤ 191 ∧ 128 ≤ l[p + 3].toNat ∧ l[p + 3].toNat ≤ 191 ∧ (l[p].toNat - 240) * 262144 + (l[p + 1].toNat - 128) * 4096 + (l[p + 2].toNat - 128) * 64 + (l[p + 3].toNat - 128) < 65536) ∨ (128 ≤ l[p + 1].toNat ∧ l[p + 1].toNat ≤ 191 ∧ 128 ≤ l[p + 2].toNat ∧ l[p + 2].toNat ≤ 191 ∧ 128 ≤ l[p + 3].toNat ∧ l[p + 3].toNat ≤ 191 ∧ 65536 ≤ (l[p].toNat - 240) * 262144 + (l[p + 1].toNat - 128) * 4096 + (l[p + 2].toNat - 128) * 64 + (l[p + 3].toNat - 128) ∧ (l[p].toNat - 240) * 262144 + (l[p + 1].toNat - 128) * 4096 + (l[p + 2].toNat - 128) * 64 + (l[p + 3].toNat - 128) ≤ 1114111) ∨ (128 ≤ l[p + 1].toNat ∧ l[p + 1].toNat ≤ 191 ∧ 128 ≤ l[p + 2].toNat ∧ l[p + 2].toNat ≤ 191 ∧ 128 ≤ l[p + 3].toNat ∧ l[p + 3].toNat ≤ 191 ∧ 1114111 < (l[p].toNat - 240) * 262144 + (l[p + 1].toNat - 128) * 4096 + (l[p + 2].toNat - 128) * 64 + (l[p + 3].toNat - 128)) by omega) with ⟨r0⟩ | ⟨r0, r1⟩ | ⟨r0, r1, r2⟩ | ⟨r0, r1, r2, r3⟩ | ⟨r0, r1, r2, r3, r4⟩ | ⟨r0, r1, r2, r3, r4, r5⟩ | ⟨r0, r1, r2, r3, r4, r5, r6⟩ | ⟨r0, r1, r2, r3, r4, r5, r6, r7⟩ | ⟨r0, r1, r2, r3, r4, r5, r6⟩
    · go_enter Tryd.func140, Tryd.ntmps140; go_wp2; go_rounds 4; go_ret2; rw [H.out, if_neg (by omega)]; exact ⟨rfl, rfl⟩
    · go_enter Tryd.func140, Tryd.ntmps140; go_wp2; go_rounds 4; go_ret2; rw [H.out, if_neg (by omega)]; exact ⟨rfl, rfl⟩
    · go_enter Tryd.func140, Tryd.ntmps140; go_wp2; go_rounds 4; go_ret2; rw [H.out, if_neg (by omega)]; exact ⟨rfl, rfl⟩
    · go_enter Tryd.func140, Tryd.ntmps140; go_wp2; go_rounds 4; go_ret2; rw [H.out, if_neg (by omega)]; exact ⟨rfl, rfl⟩
    · go_enter Tryd.func140, Tryd.ntmps140; go_wp2; go_rounds 4; go_ret2; rw [H.out, if_neg (by omega)]; exact ⟨rfl, rfl⟩
    · go_enter Tryd.func140, Tryd.ntmps140; go_wp2; go_rounds 4; go_ret2; rw [H.out, if_neg (by omega)]; exact ⟨rfl, rfl⟩
    · go_enter Tryd.func140, Tryd.ntmps140; go_wp2; go_rounds 4; go_ret2; rw [H.out, if_neg (by omega)]; exact ⟨rfl, rfl⟩
    · go_enter Tryd.func140, Tryd.ntmps140; go_wp2; go_rounds 4; go_ret2; rw [H.out, if_pos (by omega)]; refine ⟨?_, rfl⟩; simp; omega
    · go_enter Tryd.func140, Tryd.ntmps140; go_wp2; go_rounds 4; go_ret2; rw [H.out, if_neg (by omega)]; exact ⟨rfl, rfl⟩
  · have H := Lib.hid hN
    clear hN h0
    go_enter Tryd.func140, Tryd.ntmps140; go_wp2; go_ret2; rw [H.out, if_neg (by omega)]; exact ⟨rfl, rfl⟩
end Go.Proofs.YtphhgdgamnogpaaDoor

namespace Go.Proofs.YtphhgdgamnogpaaDoor
open Go.RowKit Go.Lib

theorem one_any (l : List UInt8) (p : Nat) (hp : p < l.length) (hs : l.length ≤ 4611686018427387904) (w : World) :
    Calls Tryd.prog 140 #[.string (bs l), .int .i64 p] w fun e w' => e = .returned (.tuple #[.int .i64 ((oneAt l p).2 : Nat), .int .i64 ((oneAt l p).1 : Nat)]) ∧ w = w' := by
  by_cases h1 : l[p].toNat < 194
  · exact one_low l p hp (by omega) w
  · by_cases h2 : l[p].toNat ≤ 223
    · exact one_two l p hp hs (by omega) h2 w
    · by_cases h3 : l[p].toNat ≤ 239
      · exact one_three l p hp hs (by omega) h3 w
      · by_cases h4 : l[p].toNat ≤ 244
        · exact one_four l p hp hs (by omega) h4 w
        · exact one_low l p hp (by omega) w
end Go.Proofs.YtphhgdgamnogpaaDoor

namespace Go.Proofs.YtphhgdgamnogpaaDoor
open Go.RowKit Go.Lib

theorem runes_step (l : List UInt8) (p : Nat) (done : List Nat) (hp : p < l.length) (h : runesU l = done ++ runesU (l.drop p)) :
    runesU l = (done ++ [(oneAt l p).1]) ++ runesU (l.drop (p + (oneAt l p).2)) ∧ 1 ≤ (oneAt l p).2 ∧ p + (oneAt l p).2 ≤ l.length := by
  have hne : l.drop p ≠ [] := by
    intro e
    have := congrArg List.length e
    simp at this
    omega
  have hw := decodeL_le' (l.drop p) hne
  rw [List.length_drop] at hw
  refine ⟨?_, hw.1, by unfold oneAt; omega⟩
  rw [h, runesU_step _ hne, List.append_assoc, List.drop_drop]
  rfl
/-- Runes as the cells of a slice of int. -/
def ints (r : List Nat) : List Value := r.map fun (n : Nat) => Value.int .i64 (n : Int)
theorem ints_snoc (r : List Nat) (n : Nat) : ints r ++ [.int .i64 (n : Int)] = ints (r ++ [n]) := by simp [ints]
/-- A slice of int that lies in a row of its own: its cells. -/
theorem own_row {w : World} {B : Nat} {e : TypeId} {v : Value} {r : List Nat} (h : w.ownsRow B e 1 v r.length (ints r)) (hn : v ≠ .slice none 0 0) :
    ∃ g cap, v = .slice (some ⟨g, 0, none⟩) r.length cap ∧ B ≤ g ∧ g < w.heap.size ∧ r.length ≤ cap ∧ ∀ j, j < r.length → w.cell? ⟨g, j, none⟩ = some (.int .i64 ((r.getD j 0 : Nat) : Int)) := by
  obtain ⟨-, ⟨h0, -⟩ | ⟨g, cap, cur, hv, hB, hw, hc, -, -, ht⟩⟩ := h
  · exact absurd h0 hn
  · refine ⟨g, cap, hv, hB, (Array.getElem?_eq_some_iff.1 hw).1, hc, fun j hj => ?_⟩
    have h1 := congrArg (fun x : List Value => x[j]?) ht
    simp only [Nat.mul_one, List.getElem?_take, hj, if_true, Array.getElem?_toList] at h1
    rw [cell_of_row w g j _ _ (0, 0) hw, h1]
    simp [ints, hj]
theorem info_int : (Tryd.prog.info? 3).map (fun i => (i.zero, i.size, i.bytes)) = some (some (.int .i64 0), 1, 8) := by kernel_rfl

set_option maxRecDepth 100000 in
set_option maxHeartbeats 1000000 in
theorem runes_any (l : List UInt8) (hs : l.length ≤ 1000000) (w : World) :
    Calls Tryd.prog 114 #[.string (bs l)] w fun e w' => ∃ g cap, e = .returned (.slice (some ⟨g, 0, none⟩) (runesU l).length cap) ∧ w.heap.size ≤ g ∧ g < w'.heap.size ∧ (runesU l).length ≤ cap ∧
      (∀ j, j < (runesU l).length → w'.cell? ⟨g, j, none⟩ = some (.int .i64 (((runesU l).getD j 0 : Nat) : Int))) ∧ Below w.heap.size w w' := by
  obtain ⟨i0, hi, hz0, hz1, hz2⟩ := info_parts info_int
  go_enter Tryd.func114, Tryd.ntmps114
  go_wp2
  go_loopw [3, 4] (fun v i wr => ∃ p : Nat, ∃ done : List Nat, p ≤ l.length ∧ i = .int .i64 p ∧ wr.ownsRow w.heap.size 3 1 v done.length (ints done) ∧ Below w.heap.size w wr ∧ done.length ≤ p ∧ runesU l = done ++ runesU (l.drop p) ∧ v ≠ .slice none 0 0)
    (fun _ i _ => l.length - (intOf i).toNat)
  case atStart =>
    exact ⟨0, [], Nat.zero_le _, rfl, World.ownsRow_made w #[] 0 (Nat.le_refl _) (Nat.zero_le _) rfl, (Below.refl _ _).alloc (Nat.le_refl _) _, Nat.le_refl _, rfl, by simp⟩
  case round =>
    obtain ⟨p, done, hp, rfl, hown, hbw, hdp, hdone, hnn⟩ := hrel
    have HD := Lib.hid hdone
    have HN := Lib.hid hnn
    clear hdone hnn
    by_cases hlt : p < l.length
    · obtain ⟨s1, s2, s3⟩ := runes_step l p done hlt HD.out
      obtain ⟨D, hD⟩ : ∃ D, oneAt l p = D := ⟨_, rfl⟩
      have HC := Lib.hid (one_any l p hlt (by omega))
      rw [hD] at HC s1 s2 s3
      have HS := Lib.hid s1
      clear s1 hD
      go_wp2_with (first
        | (go_at_call 140; refine (HC.out _).mono ?_; rintro e w1 ⟨rfl, rfl⟩)
        | (at_builtin; refine wpList_append_own _ rfl _ _ 60 rfl w.heap.size 3 i0 (.int .i64 0) 1 8 Tryd.underlying60 hi hz0 hz1 hz2 rfl (by decide) _ _ _ rfl (hown.alloc _) ⟨wr.heap.size, 0, none⟩ 1 1 [.int .i64 (D.1 : Nat)] rfl rfl ?c1 ?c2 ?c3 ?c4 ?c5 ?_))
      case c1 =>
        intro j u hj
        match j, hj with
        | 0, hj => simp at hj; subst hj; simp [Addr.add]
      case c2 => intro u hu; simp at hu; subst hu; rfl
      case c3 => unfold maxLen; omega
      case c4 => omega
      case c5 => have := hbw.size; simp; omega
      · intro v' w1 hown' hgrow hnil
        have HV := Lib.hid hnil
        clear hnil
        have HO := Lib.hid hown'
        clear hown'
        have hb1 : Below w.heap.size w w1 := (hbw.alloc (by have := hbw.size; omega) _).grown hgrow (by have := hbw.size; simp; omega) (fun k hk => (hown.lt k hk).1)
        go_wp2
        go_roundw
        case rel =>
          refine ⟨p + D.2, done ++ [D.1], s3, by go_num, ?_, hb1, by simp; omega, HS.out, HV.out⟩
          have := HO.out
          rw [ints_snoc] at this
          simpa using this
        case measure => simp [intOf]; omega
    · have e : l.drop p = [] := List.drop_eq_nil_of_le (by omega)
      have h2 := HD.out
      rw [e, runesU_nil, List.append_nil] at h2
      have H2 := Lib.hid h2
      clear h2 e
      go_wp2
      go_ret
      rw [H2.out]
      obtain ⟨g, cap, rfl, h1, h2, h3, h4⟩ := own_row hown HN.out
      exact ⟨g, cap, rfl, h1, h2, h3, h4, hbw⟩

/-! ### is a text UTF-8? -/
theorem decN_width (n b0 b1 b2 b3 : Nat) : (decodeN n b0 b1 b2 b3).1 = 65533 → (decodeN n b0 b1 b2 b3).2 = 1 ∨ (decodeN n b0 b1 b2 b3).2 = 3 := by
  unfold decodeN
  repeat' split
  all_goals first | (intro _; exact .inl rfl) | (intro _; exact .inr rfl) | (intro h; exfalso; simp only at h; omega)
theorem dec_width (l : List UInt8) (h : (decodeL l).1 = 65533) : (decodeL l).2 = 1 ∨ (decodeL l).2 = 3 := by
  rw [decodeL_N] at h ⊢
  exact decN_width _ _ _ _ _ h
theorem valid_step (l : List UInt8) (p : Nat) (hp : p < l.length) :
    validD (l.drop p) = (if (oneAt l p).1 = 65533 ∧ (oneAt l p).2 ≠ 3 then false else validD (l.drop (p + (oneAt l p).2))) ∧ 1 ≤ (oneAt l p).2 ∧ p + (oneAt l p).2 ≤ l.length := by
  have hne : l.drop p ≠ [] := by
    intro e
    have := congrArg List.length e
    simp at this
    omega
  have hw := decodeL_le' (l.drop p) hne
  have h3 := dec_width (l.drop p)
  rw [List.length_drop] at hw
  refine ⟨?_, hw.1, by unfold oneAt; omega⟩
  rw [validD_step _ hne, List.drop_drop]
  unfold oneAt
  by_cases h : (decodeL (l.drop p)).1 = 65533
  · rcases h3 h with h4 | h4 <;> simp [h, h4]
  · simp [h]

set_option maxRecDepth 100000 in
set_option maxHeartbeats 1000000 in
theorem clean_any (l : List UInt8) (hs : l.length ≤ 1000000) (w : World) :
    Calls Tryd.prog 116 #[.string (bs l)] w fun e w' => e = .returned (.bool (validD l)) ∧ w = w' := by
  obtain ⟨R, hR⟩ : ∃ R, validD l = R := ⟨_, rfl⟩
  rw [hR]
  have HR := Lib.hid hR
  clear hR
  go_enter Tryd.func116, Tryd.ntmps116
  go_wp2
  go_loop [3] (fun i => ∃ p : Nat, p ≤ l.length ∧ i = .int .i64 p ∧ validD (l.drop p) = R) (fun i => l.length - (intOf i).toNat)
  case atStart => exact ⟨0, Nat.zero_le _, rfl, HR.out⟩
  case round =>
    obtain ⟨p, hp, rfl, hv⟩ := hrel
    have HV := Lib.hid hv
    clear hv
    by_cases hlt : p < l.length
    · obtain ⟨s1, s2, s3⟩ := valid_step l p hlt
      obtain ⟨D, hD⟩ : ∃ D, oneAt l p = D := ⟨_, rfl⟩
      have HC := Lib.hid (one_any l p hlt (by omega))
      rw [hD] at HC s1 s2 s3
      rw [HV.out] at s1
      have HS := Lib.hid s1
      clear s1 hD
      rcases (show (D.1 = 65533 ∧ D.2 ≠ 3) ∨ (D.1 = 65533 ∧ D.2 = 3) ∨ D.1 ≠ 65533 by omega) with ⟨d1, d2⟩ | ⟨d1, d2⟩ | d1
      · have H1 := HS.out
        rw [if_pos ⟨d1, d2⟩] at H1
        have H2 := Lib.hid H1
        have e1 : ((D.1 : Int) == 65533) = true := by simp [d1]
        have e2 : ((D.2 : Int) == 3) = false := by simp; omega
        clear H1 d1 d2
        go_wp2_with (go_at_call 140; refine (HC.out _).mono ?_; rintro e w1 ⟨rfl, rfl⟩)
        go_ret
        exact ⟨by rw [H2.out]; rfl, rfl⟩
      · have H1 := HS.out
        rw [if_neg (by omega)] at H1
        have H2 := Lib.hid H1
        have e1 : ((D.1 : Int) == 65533) = true := by simp [d1]
        have e2 : ((D.2 : Int) == 3) = true := by simp [d2]
        clear H1 d1 d2
        go_wp2_with (go_at_call 140; refine (HC.out _).mono ?_; rintro e w1 ⟨rfl, rfl⟩)
        go_round
        case rel => exact ⟨p + D.2, s3, by go_num, H2.out.symm⟩
        case measure => simp [intOf]; omega
      · have H1 := HS.out
        rw [if_neg (fun x => d1 x.1)] at H1
        have H2 := Lib.hid H1
        have e1 : ((D.1 : Int) == 65533) = false := by simp; omega
        clear H1 d1
        go_wp2_with (go_at_call 140; refine (HC.out _).mono ?_; rintro e w1 ⟨rfl, rfl⟩)
        go_round
        case rel => exact ⟨p + D.2, s3, by go_num, H2.out.symm⟩
        case measure => simp [intOf]; omega
    · have e : l.drop p = [] := List.drop_eq_nil_of_le (by omega)
      have h2 := HV.out
      rw [e, validD_nil] at h2
      have H2 := Lib.hid h2
      clear h2 e
      go_wp2
      go_ret
      exact ⟨by rw [H2.out]; rfl, rfl⟩
end Go.Proofs.YtphhgdgamnogpaaDoor

namespace Go.Proofs.YtphhgdgamnogpaaDoor
open Go.RowKit Go.Lib

set_option maxRecDepth 100000 in
set_option maxHeartbeats 1000000 in
theorem reserved_any (l : List UInt8) (w : World) :
    Calls Tryd.prog 109 #[.string (bs l)] w fun e w' => e = .returned (.bool (resL l)) ∧ w = w' := by
  go_enter Tryd.func109, Tryd.ntmps109
  go_wp2
  all_goals
    go_ret
    refine ⟨?_, rfl⟩
    simp_all [resL]

set_option maxRecDepth 100000 in
set_option maxHeartbeats 1000000 in
theorem digit_any (c : Nat) (hc : c ≤ 1114111) (w : World) :
    Calls Tryd.prog 112 #[.int .i32 c] w fun e w' => e = .returned (.bool (dig c)) ∧ w = w' := by
  rcases (show c < 48 ∨ (48 ≤ c ∧ c ≤ 57) ∨ (48 ≤ c ∧ 57 < c) by omega) with h | ⟨h, h'⟩ | ⟨h, h'⟩
  all_goals
    go_enter Tryd.func112, Tryd.ntmps112
    go_wp2
    go_ret
    refine ⟨?_, rfl⟩
    simp [dig, *]
    try omega

set_option maxRecDepth 100000 in
set_option maxHeartbeats 1000000 in
theorem rreserved_any (l : List UInt8) (w : World) :
    Calls Tryd.prog 115 #[.string (bs l)] w fun e w' => e = .returned (.bool (resL l)) ∧ w = w' := by
  go_enter Tryd.func115, Tryd.ntmps115
  go_wp2
  all_goals
    go_ret
    refine ⟨?_, rfl⟩
    simp_all [resL]
    try (rw [Bool.eq_iff_iff]; simp [*])

set_option maxRecDepth 100000 in
set_option maxHeartbeats 1000000 in
theorem part_any (c : Nat) (hc : c ≤ 1114111) (w : World) :
    Calls Tryd.prog 111 #[.int .i32 c] w fun e w' => e = .returned (.bool (part c)) ∧ w = w' := by
  obtain ⟨G, hG⟩ : ∃ G, dig c = G := ⟨_, rfl⟩
  have HC := Lib.hid (digit_any c hc)
  rw [hG] at HC
  have HG := Lib.hid hG
  clear hG hc
  go_enter Tryd.func111, Tryd.ntmps111
  go_wp2_with (go_at_call 112; refine (HC.out _).mono ?_; rintro e w1 ⟨rfl, rfl⟩)
  all_goals
    go_ret
    refine ⟨?_, rfl⟩
    refine congrArg (fun b => Ending.returned (Value.bool b)) ?_
    rw [Bool.eq_iff_iff]
    simp [part, HG.out]
    try first | omega | (cases G <;> simp_all <;> omega) | (cases G <;> simp_all)

set_option maxRecDepth 100000 in
set_option maxHeartbeats 1000000 in
theorem cmp_any (a b : Int) (w : World) :
    Calls Tryd.prog 180 #[.int .i32 a, .int .i32 b] w fun e w' => e = .returned (.int .i64 (if a < b then -1 else if b < a then 1 else 0)) ∧ w = w' := by
  rcases (show a < b ∨ (¬ a < b ∧ b < a) ∨ (¬ a < b ∧ ¬ b < a) by omega) with h | ⟨h, h'⟩ | ⟨h, h'⟩
  all_goals
    go_enter Tryd.func180, Tryd.ntmps180
    go_wp2
    go_ret
    refine ⟨?_, rfl⟩
    simp [*]

theorem lexCmp_drop (x y : List Nat) (k : Nat) (hx : k < x.length) (hy : k < y.length) :
    lexCmp (x.drop k) (y.drop k) = if x.getD k 0 = y.getD k 0 then lexCmp (x.drop (k + 1)) (y.drop (k + 1)) else if x.getD k 0 < y.getD k 0 then -1 else 1 := by
  rw [List.drop_eq_getElem_cons hx, List.drop_eq_getElem_cons hy]
  simp [lexCmp, hx, hy]
theorem lexCmp_short (x y : List Nat) (k : Nat) (hx : k < x.length) (hy : y.length ≤ k) : lexCmp (x.drop k) (y.drop k) = 1 := by
  rw [List.drop_eq_getElem_cons hx, List.drop_eq_nil_of_le hy]
  rfl
theorem lexCmp_end (x y : List Nat) (k : Nat) (hx : x.length ≤ k) : lexCmp (x.drop k) (y.drop k) = if k < y.length then -1 else 0 := by
  rw [List.drop_eq_nil_of_le hx]
  by_cases hy : k < y.length
  · rw [List.drop_eq_getElem_cons hy, if_pos hy]
    rfl
  · rw [List.drop_eq_nil_of_le (by omega), if_neg hy]
    rfl

set_option maxRecDepth 100000 in
set_option maxHeartbeats 2000000 in
theorem compare_any (x y : List Nat) (a b c d : Nat) (w : World) (hx : ∀ j, j < x.length → w.cell? ⟨a, j, none⟩ = some (.int .i32 ((x.getD j 0 : Nat) : Int))) (hy : ∀ j, j < y.length → w.cell? ⟨b, j, none⟩ = some (.int .i32 ((y.getD j 0 : Nat) : Int)))
    (hlx : x.length ≤ 1000000) :
    Calls Tryd.prog 160 #[.slice (some ⟨a, 0, none⟩) x.length c, .slice (some ⟨b, 0, none⟩) y.length d] w fun e w' => e = .returned (.int .i64 (lexCmp x y)) ∧ w = w' := by
  obtain ⟨R, hR⟩ : ∃ R, lexCmp x y = R := ⟨_, rfl⟩
  rw [hR]
  have HR := Lib.hid hR
  have HX := Lib.hid hx
  have HY := Lib.hid hy
  clear hR hx hy
  go_enter Tryd.func160, Tryd.ntmps160
  go_wp2
  go_loop [11] (fun i => ∃ k : Nat, k ≤ x.length ∧ i = .int .i64 k ∧ k ≤ y.length ∧ lexCmp (x.drop k) (y.drop k) = R) (fun i => x.length - (intOf i).toNat)
  case atStart => exact ⟨0, Nat.zero_le _, rfl, Nat.zero_le _, HR.out⟩
  case round =>
    obtain ⟨k, hk, rfl, hky, hv⟩ := hrel
    have HV := Lib.hid hv
    clear hv
    by_cases hlt : k < x.length
    · by_cases hlt2 : k < y.length
      · have h1 := lexCmp_drop x y k hlt hlt2
        rw [HV.out] at h1
        have c1 := HX.out k hlt
        have c2 := HY.out k hlt2
        obtain ⟨p, hp⟩ : ∃ p, x.getD k 0 = p := ⟨_, rfl⟩
        obtain ⟨q, hq⟩ : ∃ q, y.getD k 0 = q := ⟨_, rfl⟩
        rw [hp] at h1 c1
        rw [hq] at h1 c2
        clear hp hq
        have HC := Lib.hid (cmp_any (p : Int) (q : Int))
        rcases (show p < q ∨ q < p ∨ p = q by omega) with h | h | h
        · rw [if_neg (by omega), if_pos h] at h1
          rw [if_pos (by omega)] at HC
          have H1 := Lib.hid h1
          clear h1 h
          go_wp2_with (go_at_call 180; refine (HC.out _).mono ?_; rintro e w1 ⟨rfl, rfl⟩)
          go_ret
          exact ⟨by rw [H1.out]; rfl, rfl⟩
        · rw [if_neg (by omega), if_neg (by omega)] at h1
          rw [if_neg (by omega), if_pos (by omega)] at HC
          have H1 := Lib.hid h1
          clear h1 h
          go_wp2_with (go_at_call 180; refine (HC.out _).mono ?_; rintro e w1 ⟨rfl, rfl⟩)
          go_ret
          exact ⟨by rw [H1.out]; rfl, rfl⟩
        · rw [if_pos h] at h1
          rw [if_neg (by omega), if_neg (by omega)] at HC
          have H1 := Lib.hid h1
          clear h1 h
          go_wp2_with (go_at_call 180; refine (HC.out _).mono ?_; rintro e w1 ⟨rfl, rfl⟩)
          go_round
          case rel => exact ⟨k + 1, by omega, by go_num, by omega, H1.out.symm⟩
          case measure => simp [intOf]; omega
      · have h1 := lexCmp_short x y k hlt (by omega)
        rw [HV.out] at h1
        have H1 := Lib.hid h1
        have c1 := HX.out k hlt
        clear h1
        go_wp2_with fail
        go_ret
        exact ⟨by rw [H1.out]; rfl, rfl⟩
    · have h1 := lexCmp_end x y k (by omega)
      rw [HV.out] at h1
      by_cases hlt2 : k < y.length
      · rw [if_pos hlt2] at h1
        have H1 := Lib.hid h1
        clear h1
        go_wp2_with fail
        go_ret
        exact ⟨by rw [H1.out]; rfl, rfl⟩
      · rw [if_neg hlt2] at h1
        have H1 := Lib.hid h1
        clear h1
        go_wp2_with fail
        go_ret
        exact ⟨by rw [H1.out]; rfl, rfl⟩
end Go.Proofs.YtphhgdgamnogpaaDoor

namespace Go.Proofs.YtphhgdgamnogpaaDoor
open Go.RowKit Go.Lib

/-- The cells of a text's runes as a slice of rune, its spare ones too. -/
def rowR (w : World) (l : List UInt8) : Array Value :=
  ((runesU l).map fun (n : Nat) => Value.int .i32 (n : Int)).toArray ++ Array.replicate (grownCap w (runesU l).length 0 21 - (runesU l).length) (.int .i32 0)
theorem conv_runes (l : List UInt8) (hs : l.length ≤ 1000000) (w : World) :
    (convert 9 201 (.string (bs l))).run Tryd.prog w = .ok (.slice (some ⟨w.heap.size, 0, none⟩) (runesU l).length (grownCap w (runesU l).length 0 21)) (w.drew.alloc (.cells (rowR w l) 21)) := by
  have h := run_runes_of_string (P := Tryd.prog) w 9 201 21 (bs l) Tryd.underlying9 Tryd.underlying201 Tryd.underlying21
  have e := runesFrom_all l
  have hl := runesU_length l
  have hz : (Conv.runesFrom (bs l) (bs l).size 0 #[]).size = (runesU l).length := by rw [e]; simp
  rw [hz, e] at h
  exact h (by omega)
theorem rowR_cell (w w' : World) (l : List UInt8) (j : Nat) (hj : j < (runesU l).length) : (w'.alloc (.cells (rowR w l) 21)).cell? ⟨w'.heap.size, j, none⟩ = some (.int .i32 (((runesU l).getD j 0 : Nat) : Int)) := by
  rw [cell_of_row _ _ j _ _ (0, 0) (heap_alloc_new w' _)]
  unfold rowR
  rw [Array.getElem?_append_left (by simpa using hj)]
  simp [hj]

set_option maxRecDepth 100000 in
set_option maxHeartbeats 1000000 in
theorem ncompare_any (a b : List UInt8) (ha : a.length ≤ 1000000) (hb : b.length ≤ 1000000) (w : World) :
    Calls Tryd.prog 147 #[.string (bs a), .string (bs b)] w fun e w' => e = .returned (.int .i64 (lexCmp (runesU a) (runesU b))) ∧ Below w.heap.size w w' := by
  have hca := conv_runes a ha
  have hcb := conv_runes b hb
  go_enter Tryd.func147, Tryd.ntmps147
  go_wp2_with fail
  refine (compare_any (runesU a) (runesU b) _ _ _ _ _ ?_ ?_ (by have := runesU_length a; omega)).mono ?_
  · intro j hj
    exact cell_past _ (cell_drew (rowR_cell w w.drew a j hj))
  · intro j hj
    have h := rowR_cell (w.alloc (.cells (rowR w a) 21)).drew (w.alloc (.cells (rowR w a) 21)) b j hj
    rw [show (w.alloc (.cells (rowR w a) 21)).heap.size = w.heap.size + 1 by simp] at h
    exact cell_drew (cell_drew h)
  · rintro e w1 ⟨rfl, rfl⟩
    go_wp2_with fail
    go_ret
    exact ⟨rfl, by (repeat' (first | (with_reducible exact Below.refl _ _) | (with_reducible assumption) | (refine below_next ?_ (by with_reducible assumption)) | (with_reducible refine Below.alloc ?_ ?_ _) | (with_reducible refine Below.drew ?_) | (with_reducible refine below_drewN ?_ _) | omega | (simp; done) | (simp; omega)))⟩

set_option maxRecDepth 100000 in
set_option maxHeartbeats 1000000 in
theorem nless_any (a b : List UInt8) (ha : a.length ≤ 1000000) (hb : b.length ≤ 1000000) (w : World) :
    Calls Tryd.prog 144 #[.string (bs a), .string (bs b)] w fun e w' => e = .returned (.bool (lexLess (runesU a) (runesU b))) ∧ Below w.heap.size w w' := by
  have HC := Lib.hid (ncompare_any a b ha hb)
  have HL := Lib.hid (lexCmp_less (runesU a) (runesU b))
  generalize lexLess (runesU a) (runesU b) = L at *
  generalize lexCmp (runesU a) (runesU b) = C at *
  go_enter Tryd.func144, Tryd.ntmps144
  go_wp2_with (go_at_call 147; refine (HC.out _).mono ?_; rintro e w1 ⟨rfl, hw1⟩)
  go_ret
  exact ⟨by rw [HL.out]; rfl, hw1⟩

theorem lexLess_drop (x y : List Nat) (k : Nat) (hx : k < x.length) (hy : k < y.length) :
    lexLess (x.drop k) (y.drop k) = if x.getD k 0 = y.getD k 0 then lexLess (x.drop (k + 1)) (y.drop (k + 1)) else decide (x.getD k 0 < y.getD k 0) := by
  rw [List.drop_eq_getElem_cons hx, List.drop_eq_getElem_cons hy]
  simp [lexLess, hx, hy]
theorem lexLess_end (x y : List Nat) (k : Nat) (h : x.length ≤ k ∨ y.length ≤ k) (hx : k ≤ x.length) (hy : k ≤ y.length) : lexLess (x.drop k) (y.drop k) = decide (x.length < y.length) := by
  by_cases h1 : x.length ≤ k
  · rw [List.drop_eq_nil_of_le h1]
    by_cases h2 : k < y.length
    · rw [List.drop_eq_getElem_cons h2]
      simp [lexLess]; omega
    · rw [List.drop_eq_nil_of_le (by omega)]
      simp [lexLess]; omega
  · rw [List.drop_eq_nil_of_le (show y.length ≤ k by omega), List.drop_eq_getElem_cons (show k < x.length by omega)]
    simp [lexLess]; omega

set_option maxRecDepth 100000 in
set_option maxHeartbeats 2000000 in
theorem rless_any (a b : List UInt8) (ha : a.length ≤ 1000000) (hb : b.length ≤ 1000000) (w : World) :
    Calls Tryd.prog 125 #[.string (bs a), .string (bs b)] w fun e w' => e = .returned (.bool (lexLess (runesU a) (runesU b))) ∧ Below w.heap.size w w' := by
  have HA := Lib.hid (runes_any a ha)
  have HB := Lib.hid (runes_any b hb)
  have hla := runesU_length a
  have hlb := runesU_length b
  generalize runesU a = x at *
  generalize runesU b = y at *
  obtain ⟨R, hR⟩ : ∃ R, lexLess x y = R := ⟨_, rfl⟩
  rw [hR]
  have HR := Lib.hid hR
  have hlx : x.length ≤ 1000000 := by omega
  have hly : y.length ≤ 1000000 := by omega
  clear hR hla hlb
  go_enter Tryd.func125, Tryd.ntmps125
  go_wp2_with fail
  refine (HA.out _).mono ?_
  rintro e w1 ⟨g, c, rfl, hg, hgs, hgc, hx, hb1⟩
  go_wp2_with fail
  refine (HB.out _).mono ?_
  rintro e w2 ⟨g', c', rfl, hg', hgs', hgc', hy, hb2⟩
  have hx2 : ∀ j, j < x.length → w2.cell? ⟨g, j, none⟩ = some (.int .i64 ((x.getD j 0 : Nat) : Int)) := fun j hj => cell_later hb2 (hx j hj)
  have hbw := below_next hb1 hb2
  have HX := Lib.hid hx2
  have HY := Lib.hid hy
  clear hx hx2 hy hb1 hb2 hg hgs hg' hgs' HA HB
  go_wp2_with fail
  go_loopw [7] (fun i wr => ∃ k : Nat, k ≤ x.length ∧ i = .int .i64 k ∧ k ≤ y.length ∧ lexLess (x.drop k) (y.drop k) = R ∧ ∃ n, wr = w2.drewN n) (fun i _ => x.length - (intOf i).toNat)
  case atStart => exact ⟨0, Nat.zero_le _, rfl, Nat.zero_le _, HR.out, 0, rfl⟩
  case round =>
    obtain ⟨k, hk, rfl, hky, hv, n, rfl⟩ := hrel
    have HV := Lib.hid hv
    clear hv
    by_cases hlt : k < x.length ∧ k < y.length
    · have c1 := HX.out k hlt.1
      have c2 := HY.out k hlt.2
      have h1 := lexLess_drop x y k hlt.1 hlt.2
      rw [HV.out] at h1
      obtain ⟨hk1, hk2⟩ := hlt
      obtain ⟨p, hp⟩ : ∃ p, x.getD k 0 = p := ⟨_, rfl⟩
      obtain ⟨q, hq⟩ : ∃ q, y.getD k 0 = q := ⟨_, rfl⟩
      rw [hp] at h1 c1
      rw [hq] at h1 c2
      clear hp hq
      by_cases h : p = q
      · rw [if_pos h] at h1
        have H1 := Lib.hid h1
        have e1 : ((p : Int) != (q : Int)) = false := by simp [h]
        clear h1 h
        go_wp2_with fail
        go_region
        go_wp2_with fail
        go_roundw
        case rel => exact ⟨k + 1, by omega, by go_num, by omega, H1.out.symm, n + 1, rfl⟩
        case measure => simp [intOf]; omega
      · rw [if_neg h] at h1
        have H1 := Lib.hid h1
        have e1 : ((p : Int) != (q : Int)) = true := by simp; omega
        clear h1 h
        go_wp2_with fail
        go_region
        go_wp2_with fail
        go_region
        go_wp2_with fail
        go_ret
        exact ⟨by rw [H1.out]; first | rfl | simp, (Go.below_drewN hbw n).drew.drew⟩
    · have h1 := lexLess_end x y k (by omega) hk hky
      rw [HV.out] at h1
      have H1 := Lib.hid h1
      clear h1
      by_cases hx1 : k < x.length
      · have hy1 : ¬ k < y.length := fun h => hlt ⟨hx1, h⟩
        clear hlt
        go_wp2_with fail
        go_ret
        refine ⟨?_, Go.below_drewN hbw n⟩
        rw [H1.out]
        simp
      · clear hlt
        go_wp2_with fail
        go_ret
        refine ⟨?_, Go.below_drewN hbw n⟩
        rw [H1.out]
        simp
end Go.Proofs.YtphhgdgamnogpaaDoor

namespace Go.Proofs
open Go.Shelf
def Tryd.laysValid_ren : Go.Shelf.Ren := ⟨fun | 196 => 110 | 259 => 139 | n => n, fun | 9 => 9 | 4 => 4 | 3 => 3 | 5 => 5 | 12 => 12 | 119 => 183 | 0 => 0 | 46 => 187 | 139 => 186 | 138 => 185 | 53 => 197 | n => n, fun | 3 => 4 | 4 => 5 | n => n⟩
theorem Tryd.laysValid : Go.Proofs.Lays.n196 Tryd.prog Tryd.laysValid_ren := {
  mixed := by kernel_rfl
  f196 := Tryd.func110.trans (congrArg some (by kernel_rfl))
  f259 := Tryd.func139.trans (congrArg some (by kernel_rfl))
  t0 := Tryd.underlying0
  a0 := Tryd.isAgg0
  z0 := Tryd.sizeOf0
  v0 := Tryd.zeroValue0
  t3 := Tryd.underlying3
  a3 := Tryd.isAgg3
  z3 := Tryd.sizeOf3
  v3 := Tryd.zeroValue3
  t4 := Tryd.underlying4
  a4 := Tryd.isAgg4
  z4 := Tryd.sizeOf4
  v4 := Tryd.zeroValue4
  t5 := Tryd.underlying5
  a5 := Tryd.isAgg5
  z5 := Tryd.sizeOf5
  v5 := Tryd.zeroValue5
  t9 := Tryd.underlying9
  a9 := Tryd.isAgg9
  z9 := Tryd.sizeOf9
  v9 := Tryd.zeroValue9
  t12 := Tryd.underlying12
  a12 := Tryd.isAgg12
  z12 := Tryd.sizeOf12
  v12 := Tryd.zeroValue12
  t46 := Tryd.underlying187
  a46 := Tryd.isAgg187
  z46 := Tryd.sizeOf187
  v46 := Tryd.zeroValue187
  t53 := Tryd.underlying197
  a53 := Tryd.isAgg197
  z53 := Tryd.sizeOf197
  v53 := Tryd.zeroValue197
  t119 := Tryd.underlying183
  a119 := Tryd.isAgg183
  z119 := Tryd.sizeOf183
  t138 := Tryd.underlying185
  a138 := Tryd.isAgg185
  z138 := Tryd.sizeOf185
  v138 := Tryd.zeroValue185
  t139 := Tryd.underlying186
  a139 := Tryd.isAgg186
  z139 := Tryd.sizeOf186
  v139 := Tryd.zeroValue186
  g3 := by kernel_rfl
  g4 := by kernel_rfl }
end Go.Proofs

namespace Go.Proofs.YtphhgdgamnogpaaDoor
open Go.RowKit Go.Lib

theorem valid_any (l : List UInt8) (hs : l.length ≤ 1000000) (w : World) (hT : Lib.Utf8Tabs 4 5 w) :
    Calls Tryd.prog 110 #[.string (bs l)] w fun e w' => e = .returned (.bool (validD l)) ∧ Below w.heap.size w w' := by
  have h := Any.utf8_ValidString Tryd.laysValid (bs l) w (by rw [bs_size]; omega) hT
  have e : (bs l).data.toList = l := by simp [bs]
  rw [e] at h
  exact h

theorem next_at (l : List UInt8) (p : Nat) (hp : p < l.length) (w : World) (ty : TypeId) :
    (Instr.next (.pointer (some ⟨w.heap.size, 0, none⟩)) true ty).run Tryd.prog (w.iter (bs l) p) = .ok (.tuple #[.bool true, .int .i64 p, .int .i32 ((oneAt l p).1 : Nat)]) (w.iter (bs l) (p + (oneAt l p).2)) := by
  have h := run_next_any (P := Tryd.prog) w (bs l) p ty (by rw [bs_size]; exact hp)
  rw [← decodeL_drop] at h
  have e : (bs l).data.toList = l := by simp [bs]
  rw [e] at h
  exact h
theorem iter_below (w : World) (s : ByteArray) (p : Nat) : Below w.heap.size w (w.iter s p) := (Below.refl _ _).alloc (Nat.le_refl _) _

theorem word_bad (done rest : List Nat) (c : Nat) (h : part c = false) : word (done ++ c :: rest) = false := by
  simp [word, h]
theorem word_dig (rest : List Nat) (c : Nat) (h : dig c = true) : word (c :: rest) = false := by
  simp [word, h]
theorem word_end (done : List Nat) (h : done.all part = true) (h0 : done ≠ [] → dig (done.getD 0 0) = false) : word done = (decide (0 < done.length) && decide (done.length ≤ 20)) := by
  unfold word
  rw [h]
  cases done with
  | nil => rfl
  | cons a r => rw [h0 (by simp)]; simp

set_option maxRecDepth 100000 in
set_option maxHeartbeats 2000000 in
theorem nis_any (l : List UInt8) (hs : l.length ≤ 1000000) (w : World) (hT : Lib.Utf8Tabs 4 5 w) :
    Calls Tryd.prog 62 #[.string (bs l)] w fun e w' => e = .returned (.bool (nameL l)) ∧ Below w.heap.size w w' := by
  have HS := Lib.hid (reserved_any l)
  have HV := Lib.hid (valid_any l hs w hT)
  clear hT
  have hN : nameL l = (!resL l && validD l && word (runesU l)) := rfl
  rw [hN]
  clear hN
  generalize validD l = V at *
  generalize resL l = S at *
  cases S with
  | true =>
    go_enter Tryd.func62, Tryd.ntmps62
    go_wp2_with (go_at_call 109; refine (HS.out _).mono ?_; rintro e w2 ⟨rfl, rfl⟩)
    go_ret
    exact ⟨rfl, Below.refl _ _⟩
  | false =>
    cases V with
    | false =>
      go_enter Tryd.func62, Tryd.ntmps62
      go_wp2_with (first | (go_at_call 109; refine (HS.out _).mono ?_; rintro e w2 ⟨rfl, rfl⟩) | (go_at_call 110; refine HV.out.mono ?_; rintro e w2 ⟨rfl, hb2⟩))
      go_ret
      exact ⟨rfl, hb2⟩
    | true =>
      obtain ⟨R, hR⟩ : ∃ R, (!false && true && word (runesU l)) = R := ⟨_, rfl⟩
      have HR := Lib.hid hR
      rw [hR]
      clear hR
      go_enter Tryd.func62, Tryd.ntmps62
      go_wp2_with (first | (go_at_call 109; refine (HS.out _).mono ?_; rintro e w2 ⟨rfl, rfl⟩) | (go_at_call 110; refine HV.out.mono ?_; rintro e w2 ⟨rfl, hb2⟩))
      clear HS HV
      go_loopw [3] (fun i wr => ∃ p : Nat, ∃ done : List Nat, p ≤ l.length ∧ i = .int .i64 done.length ∧ wr = w2.iter (bs l) p ∧ done.length ≤ p ∧ runesU l = done ++ runesU (l.drop p) ∧ done.all part = true ∧ (done ≠ [] → dig (done.getD 0 0) = false))
        (fun _ wr => l.length - wr.iterPos w2.heap.size)
      case atStart => exact ⟨0, [], Nat.zero_le _, rfl, rfl, Nat.le_refl _, rfl, rfl, fun h => absurd rfl h⟩
      case round =>
        obtain ⟨p, done, hp, rfl, rfl, hdp, hd, hall, hdig⟩ := hrel
        have HD := Lib.hid hd
        have HL := Lib.hid hall
        have HG := Lib.hid hdig
        clear hd hall hdig
        by_cases hlt : p < l.length
        · obtain ⟨s1, s2, s3⟩ := runes_step l p done hlt HD.out
          have hnx := next_at l p hlt w2
          have hr : (oneAt l p).1 ≤ 1114111 := decodeL_rune _
          obtain ⟨D, hD⟩ : ∃ D, oneAt l p = D := ⟨_, rfl⟩
          rw [hD] at s1 s2 s3 hnx hr
          have HS1 := Lib.hid s1
          have HCP := Lib.hid (part_any D.1 hr)
          have HCD := Lib.hid (digit_any D.1 hr)
          clear s1 hD
          by_cases hpt : part D.1 = true
          · have HL2 : RowKit.Hid ((done ++ [D.1]).all part = true) := Lib.hid (by rw [List.all_append, HL.out]; simp [hpt])
            rw [hpt] at HCP
            by_cases hn : done.length = 0
            · have e0 : ((done.length : Int) == 0) = true := by simp [hn]
              have hnil : done = [] := List.eq_nil_of_length_eq_zero hn
              have HNil := Lib.hid hnil
              clear hnil hpt
              by_cases hdg : dig D.1 = true
              · have H1 : RowKit.Hid (R = false) := Lib.hid (by have h1 := HS1.out; rw [HNil.out] at h1; rw [← HR.out, h1]; simpa using word_dig _ _ hdg)
                rw [hdg] at HCD
                clear hdg hn
                go_wp2_with (first | (go_at_call 111; refine (HCP.out _).mono ?_; rintro e w4 ⟨rfl, rfl⟩) | (go_at_call 112; refine (HCD.out _).mono ?_; rintro e w4 ⟨rfl, rfl⟩))
                go_ret
                refine ⟨by rw [H1.out]; rfl, below_next hb2 (iter_below _ _ _)⟩
              · have hdf : dig D.1 = false := by simpa using hdg
                have HG2 : RowKit.Hid (done ++ [D.1] ≠ [] → dig ((done ++ [D.1]).getD 0 0) = false) := Lib.hid (by rw [HNil.out]; simpa using hdf)
                rw [hdf] at HCD
                clear hdg hdf hn
                go_wp2_with (first | (go_at_call 111; refine (HCP.out _).mono ?_; rintro e w4 ⟨rfl, rfl⟩) | (go_at_call 112; refine (HCD.out _).mono ?_; rintro e w4 ⟨rfl, rfl⟩))
                go_roundw
                case rel => exact ⟨p + D.2, done ++ [D.1], s3, by simp, rfl, by simp; omega, HS1.out, HL2.out, HG2.out⟩
                case measure => simp; omega
            · have e0 : ((done.length : Int) == 0) = false := beq_eq_false_iff_ne.2 (by omega)
              have HG2 : RowKit.Hid (done ++ [D.1] ≠ [] → dig ((done ++ [D.1]).getD 0 0) = false) := Lib.hid (by
                have h1 : done ≠ [] := fun e => hn (by rw [e]; rfl)
                intro _
                rw [← HG.out h1]
                cases done with
                | nil => exact absurd rfl h1
                | cons a t => rfl)
              have hlen : done.length ≤ 1000000 := by omega
              clear hn hpt
              go_wp2_with (first | (go_at_call 111; refine (HCP.out _).mono ?_; rintro e w4 ⟨rfl, rfl⟩) | (go_at_call 112; refine (HCD.out _).mono ?_; rintro e w4 ⟨rfl, rfl⟩))
              go_roundw
              case rel => exact ⟨p + D.2, done ++ [D.1], s3, by simp, rfl, by simp; omega, HS1.out, HL2.out, HG2.out⟩
              case measure => simp; omega
          · have hpf : part D.1 = false := by simpa using hpt
            have H1 : RowKit.Hid (R = false) := Lib.hid (by have h1 := HS1.out; rw [← HR.out, h1, List.append_assoc]; simpa using word_bad done _ _ hpf)
            rw [hpf] at HCP
            clear hpf hpt
            go_wp2_with (first | (go_at_call 111; refine (HCP.out _).mono ?_; rintro e w4 ⟨rfl, rfl⟩) | (go_at_call 112; refine (HCD.out _).mono ?_; rintro e w4 ⟨rfl, rfl⟩))
            go_ret
            exact ⟨by rw [H1.out]; rfl, below_next hb2 (iter_below _ _ _)⟩
        · have hnx := fun ty => run_next_end (P := Tryd.prog) w2 (bs l) p ty (by rw [bs_size]; exact hlt)
          have H1 : RowKit.Hid (R = (decide (0 < done.length) && decide (done.length ≤ 20))) := Lib.hid (by
            have h1 := HD.out
            rw [List.drop_eq_nil_of_le (by omega), runesU_nil, List.append_nil] at h1
            rw [← HR.out, h1]
            simpa using word_end done HL.out HG.out)
          go_wp2_with fail
          all_goals
            go_ret
            refine ⟨?_, below_next hb2 (iter_below _ _ _)⟩
            rw [H1.out]
            refine congrArg (fun b => Ending.returned (Value.bool b)) ?_
            rw [Bool.eq_iff_iff]
            simp
            try omega
end Go.Proofs.YtphhgdgamnogpaaDoor
