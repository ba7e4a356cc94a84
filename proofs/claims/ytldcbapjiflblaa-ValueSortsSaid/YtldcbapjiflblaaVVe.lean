/-
  Plain law of layer 3 (digit): a number's decimal text, the number of a text; they undo one another. No program in sight.
  The walks of layer 3 (digit): what each function of package digit, and of its reference, returns; memory that was there stands as it was. No conditions.
  The walks of Parse, of package digit and of its reference: a text's number, or the error. Texts of at most 2^62 bytes (every readable text is shorter).
  The walks of Print, of package digit and of its reference: any number's text. No conditions but that the number is an int64.
  Layer 3 (digit): what reading a text gives, at a known answer; how great it may be. Texts of at most 2^63 - 2 bytes.
  The walks of layer 5 (value): May, Print, Parse, Less, of the package and of its reference; each leaves all memory that was there as it was. Texts of at most 2^63 - 2 bytes.
  The laws of layer 4 (cell) walked: each returns true, whatever it is given. No conditions.
  Layer 10 (pair): what the program's maker holds, as memory of the call's own. No conditions.
  Layer 10 (pair): what the maker's steps leave in memory, the walks apart. No conditions.
  Layer 14's reference (erase): a history without its lost reads. No conditions.
  Layer 17 (whole): what stands while a history is made whole; the clone of operations. No conditions.
-/
import Derived.Test.YtldcbapjiflblaaVVa
import Derived.Lib.SplitLaws
import Derived.Shelf.GgClosure.StringsTrimFunc
import Derived.WalkSmall
import Derived.IntWalk
import Derived.Lib.Join
import Derived.Maps.OwnOps
import Derived.Deep.MidRow
namespace Go.Proofs.Ytldcbapjiflblaa
section
def isDig (c : UInt8) : Bool := 48 ≤ c.toNat && c.toNat ≤ 57
def decL (m : Nat) : List UInt8 := if m < 10 then [UInt8.ofNat (48 + m)] else decL (m / 10) ++ [UInt8.ofNat (48 + m % 10)]
termination_by m
def printL (n : Int) : List UInt8 := if n < 0 then 45 :: decL n.natAbs else decL n.natAbs
def valL (t : List UInt8) : Nat := t.foldl (fun a c => a * 10 + (c.toNat - 48)) 0
def digT (t : List UInt8) (neg : Bool) : Bool := !t.isEmpty && !(t.head? == some 48 && (neg || decide (1 < t.length))) && t.all isDig
def negL (s : List UInt8) : Bool := s.head? == some 45
def restL (s : List UInt8) : List UInt8 := if negL s then s.tail else s
def digL (s : List UInt8) : Bool := digT (restL s) (negL s)
def stepP (acc : Option Int) (c : UInt8) : Option Int := acc.bind fun n =>
 if n < -922337203685477580 ∨ (n = -922337203685477580 ∧ (8 : Int) < (c.toNat - 48 : Nat)) then none else some (n * 10 - (c.toNat - 48 : Nat))
def foldP (t : List UInt8) : Option Int := t.foldl stepP (some 0)
def parseL (s : List UInt8) : Int × Int :=
 if digL s then
  match foldP (restL s) with
  | none => (0, 8)
  | some n => if negL s then (n, 0) else if n = -9223372036854775808 then (0, 8) else (-n, 0)
 else (0, 5)
theorem foldP_snoc (t : List UInt8) (c : UInt8) : foldP (t ++ [c]) = stepP (foldP t) c := by simp [foldP]
theorem valL_snoc (t : List UInt8) (c : UInt8) : valL (t ++ [c]) = valL t * 10 + (c.toNat - 48) := by simp [valL]
theorem snoc_ind {P : List UInt8 → Prop} (h0 : P []) (h1 : ∀ t c, P t → P (t ++ [c])) (t : List UInt8) : P t := by
 have : ∀ l : List UInt8, P l.reverse := by
  intro l
  induction l with
  | nil => exact h0
  | cons c l ih => rw [List.reverse_cons]; exact h1 _ _ ih
 simpa using this t.reverse
theorem isDig_iff (c : UInt8) : isDig c = true ↔ 48 ≤ c.toNat ∧ c.toNat ≤ 57 := by simp [isDig]
theorem toNat_dig (m : Nat) (h : m < 10) : (UInt8.ofNat (48 + m)).toNat = 48 + m := by
 simp [UInt8.toNat_ofNat]; omega
theorem decL_val (m : Nat) : valL (decL m) = m := by
 induction m using Nat.strongRecOn with
 | _ m ih =>
  rw [decL]
  split
  ·rename_i h; simp only [valL, List.foldl_cons, List.foldl_nil, toNat_dig m h]; omega
  ·rename_i h
   rw [valL_snoc, ih (m / 10) (by omega), toNat_dig _ (by omega)]; omega
theorem decL_ne (m : Nat) : decL m ≠ [] := by
 rw [decL]; split <;> simp
end
section
open Go.RowKit
set_option maxHeartbeats 400000 in
theorem dcut_any (l : List UInt8) (hs : l.length ≤ 9223372036854775807) (w : World) :
  Calls Try.prog 39 #[.string (bs l), .string ⟨#[45]⟩] w fun e w' => e = .returned (.tuple #[.string (bs (restL l)), .bool (negL l)]) ∧ w = w' := by
 cases l with
 | nil =>
  go_enter Try.func39, Try.ntmps39
  go_wp2
  go_ret2
  exact ⟨rfl, rfl⟩
 | cons a l =>
  by_cases h : a = 45
  ·subst h
   simp only [List.length_cons] at hs
   go_enter Try.func39, Try.ntmps39
   go_wp2
   go_ret2
   exact ⟨by simp [restL, negL], rfl⟩
  ·have h' : (a == 45) = false := by simpa using h
   simp only [List.length_cons] at hs
   go_enter Try.func39, Try.ntmps39
   go_wp2
   go_ret2
   exact ⟨by simp [restL, negL, h'], rfl⟩
theorem cut_of (l t : List UInt8) (neg : Bool) (ht : restL l = t) (hn : negL l = neg) (hs : l.length ≤ 9223372036854775807) (w : World) :
  Calls Try.prog 39 #[.string (bs l), .string ⟨#[45]⟩] w fun e w' => e = .returned (.tuple #[.string (bs t), .bool neg]) ∧ w = w' := by
 subst ht; subst hn; exact dcut_any l hs w
theorem all_take_succ (t : List UInt8) (k : Nat) (hk : k < t.length) (h : (t.take k).all isDig = true) (hd : isDig t[k] = true) : (t.take (k + 1)).all isDig = true := by
 rw [List.take_succ_eq_append_getElem hk, List.all_append, h]; simp [hd]
theorem not_all (t : List UInt8) (k : Nat) (hk : k < t.length) (hd : isDig t[k] = false) : t.all isDig = false := by
 rw [List.all_eq_false]; exact ⟨t[k], List.getElem_mem hk, by simp [hd]⟩
theorem ret_bool {a b : Bool} (h : a = b) : Ending.returned (.bool a) = .returned (.bool b) := by rw [h]
theorem u8_eq (a b : UInt8) : ((a.toNat : Int) == (b.toNat : Int)) = (a == b) := by
 rw [Bool.eq_iff_iff]; simp only [beq_iff_eq, ← UInt8.toNat_inj]; omega
set_option maxHeartbeats 1000000 in
theorem digits_run (l : List UInt8) (a : UInt8) (r : List UInt8) (neg : Bool) (ht : restL l = a :: r) (hn : negL l = neg) (hs : l.length ≤ 9223372036854775807) (hr : r.length + 1 ≤ 9223372036854775807)
  (hc : (a == 48) = false) (res : Bool) (hres : (a :: r).all isDig = res) (w : World) :
  Calls Try.prog 38 #[.string (bs l)] w fun e w' => e = .returned (.bool res) ∧ w = w' := by
 have HR := Lib.hid hres
 clear hres
 have HC := Lib.hid (cut_of l (a :: r) neg ht hn hs)
 clear ht hn hs
 have ha : ((a.toNat : Int) == 48) = false := by rw [← hc]; exact u8_eq a 48
 go_enter Try.func38, Try.ntmps38
 go_wp2_with (go_at_call 39; refine (HC.out _).mono ?_; rintro e w1 ⟨rfl, rfl⟩)
 clear HC ha hc
 have e1 : ((r.length : Int) + 1) = ((a :: r).length : Int) := by simp
 have e2 : (a :: r).length ≤ 9223372036854775807 := by simpa using hr
 rw [e1]
 clear e1 hr
 generalize a :: r = t at *
 go_loop [5, 28] (fun _ i => ∃ k : Nat, k ≤ t.length ∧ i = .int .i64 k ∧ (t.take k).all isDig = true) (fun _ i => t.length - (RowKit.intOf i).toNat)
 case atStart => exact ⟨0, Nat.zero_le _, rfl, rfl⟩
 case round =>
  obtain ⟨k, hk, rfl, hall⟩ := hrel
  have HA := Lib.hid hall
  clear hall
  by_cases hlt : k < t.length
  ·by_cases hd : isDig t[k] = true
   ·have HS := Lib.hid (all_take_succ t k hlt HA.out hd)
    have hd1 := ((isDig_iff _).1 hd).1
    have hd2 := ((isDig_iff _).1 hd).2
    clear hd
    go_wp2
    go_round
    case rel => exact ⟨k + 1, by omega, by go_num, HS.out⟩
    case measure => simp [RowKit.intOf]; omega
   ·have hf : isDig t[k] = false := by simpa using hd
    have HF := Lib.hid (not_all t k hlt hf)
    have hor : t[k].toNat < 48 ∨ (48 ≤ t[k].toNat ∧ 57 < t[k].toNat) := by
     have : ¬ (48 ≤ t[k].toNat ∧ t[k].toNat ≤ 57) := fun h => hd ((isDig_iff _).2 h)
     omega
    clear hd hf
    rcases hor with h1 | ⟨h1, h2⟩
    all_goals
     go_wp2
     go_ret
     exact ⟨ret_bool (HF.out.symm.trans HR.out), rfl⟩
  ·have e : t.take k = t := List.take_of_length_le (by omega)
   have HA' := HA.out
   rw [e] at HA'
   have HB := Lib.hid HA'
   clear HA HA' e
   go_wp2
   go_ret
   exact ⟨ret_bool (HB.out.symm.trans HR.out), rfl⟩
set_option maxHeartbeats 1000000 in
theorem digits_zero (l : List UInt8) (ht : restL l = [48]) (hn : negL l = false) (hs : l.length ≤ 9223372036854775807) (w : World) :
  Calls Try.prog 38 #[.string (bs l)] w fun e w' => e = .returned (.bool true) ∧ w = w' := by
 have HC := Lib.hid (cut_of l [48] false ht hn hs)
 clear ht hn hs
 go_enter Try.func38, Try.ntmps38
 go_wp2_with (go_at_call 39; refine (HC.out _).mono ?_; rintro e w1 ⟨rfl, rfl⟩)
 go_rounds 2
 go_ret
 exact ⟨rfl, rfl⟩
set_option maxHeartbeats 1000000 in
theorem digits_nil (l : List UInt8) (neg : Bool) (ht : restL l = []) (hn : negL l = neg) (hs : l.length ≤ 9223372036854775807) (w : World) :
  Calls Try.prog 38 #[.string (bs l)] w fun e w' => e = .returned (.bool false) ∧ w = w' := by
 have HC := Lib.hid (cut_of l [] neg ht hn hs)
 clear ht hn hs
 go_enter Try.func38, Try.ntmps38
 go_wp2_with (go_at_call 39; refine (HC.out _).mono ?_; rintro e w1 ⟨rfl, rfl⟩)
 go_ret
 exact ⟨rfl, rfl⟩
set_option maxHeartbeats 1000000 in
theorem digits_lead (l r : List UInt8) (neg : Bool) (ht : restL l = 48 :: r) (hn : negL l = neg) (hs : l.length ≤ 9223372036854775807) (hr : r.length + 1 ≤ 9223372036854775807) (hc : neg = true ∨ (neg = false ∧ 0 < r.length)) (w : World) :
  Calls Try.prog 38 #[.string (bs l)] w fun e w' => e = .returned (.bool false) ∧ w = w' := by
 have HC := Lib.hid (cut_of l (48 :: r) neg ht hn hs)
 clear ht hn hs
 rcases hc with rfl | ⟨rfl, hc⟩
 all_goals
  go_enter Try.func38, Try.ntmps38
  go_wp2_with (go_at_call 39; refine (HC.out _).mono ?_; rintro e w1 ⟨rfl, rfl⟩)
  go_ret
  exact ⟨rfl, rfl⟩
theorem rest_len (l : List UInt8) : (restL l).length ≤ l.length := by unfold restL; split <;> simp
theorem digits_any (l : List UInt8) (hs : l.length ≤ 9223372036854775807) (w : World) :
  Calls Try.prog 38 #[.string (bs l)] w fun e w' => e = .returned (.bool (digL l)) ∧ w = w' := by
 have hl := rest_len l
 unfold digL
 cases ht : restL l with
 | nil => exact digits_nil l _ ht rfl hs w
 | cons a r =>
  rw [ht] at hl
  simp only [List.length_cons] at hl
  by_cases ha : a = 48
  ·subst ha
   by_cases hc : negL l = true ∨ 0 < r.length
   ·have e : digT (48 :: r) (negL l) = false := by
     rcases hc with h | h <;> simp [digT, h]
    rw [e]
    refine digits_lead l r _ ht rfl hs (by omega) ?_ w
    cases hn : negL l
    ·rw [hn] at hc; exact .inr ⟨rfl, by simpa using hc⟩
    ·exact .inl rfl
   ·have hn : negL l = false := by
     cases h : negL l
     ·rfl
     ·exact absurd (.inl h) hc
    have hr : r = [] := List.eq_nil_of_length_eq_zero (by have : ¬ 0 < r.length := fun h => hc (.inr h)
                                                          omega)
    subst hr
    rw [hn, show digT [48] false = true from rfl]
    exact digits_zero l ht hn hs w
  ·have ha' : (a == 48) = false := by simpa using ha
   have e : digT (a :: r) (negL l) = (a :: r).all isDig := by
    unfold digT
    rw [List.head?_cons, show ((some a : Option UInt8) == some 48) = false by simpa using ha]
    simp
   rw [e]
   exact digits_run l a r _ ht rfl hs (by omega) ha' _ rfl w
end
section
open Go.RowKit
theorem fold_none (t : List UInt8) (k : Nat) (h : foldP (t.take k) = none) : foldP t = none := by
 have e : foldP t = (t.drop k).foldl stepP (foldP (t.take k)) := by
  unfold foldP; rw [← List.foldl_append, List.take_append_drop]
 rw [e, h]
 generalize t.drop k = r
 induction r with
 | nil => rfl
 | cons a r ih => simpa [stepP] using ih
theorem fold_succ (t : List UInt8) (k : Nat) (hk : k < t.length) (n : Int) (h : foldP (t.take k) = some n) : foldP (t.take (k + 1)) = stepP (some n) t[k] := by
 rw [List.take_succ_eq_append_getElem hk, foldP_snoc, h]
theorem step_over (n : Int) (c : UInt8) (h : n < -922337203685477580 ∨ (n = -922337203685477580 ∧ 56 < c.toNat)) : stepP (some n) c = none := by
 simp only [stepP, Option.bind_some]
 rw [if_pos (by omega)]
theorem step_on (n : Int) (c : UInt8) (h1 : 48 ≤ c.toNat) (h : ¬ (n < -922337203685477580 ∨ (n = -922337203685477580 ∧ 56 < c.toNat))) : stepP (some n) c = some (n * 10 - ((c.toNat : Int) - 48)) := by
 simp only [stepP, Option.bind_some]
 rw [if_neg (by omega)]; congr 1; omega
theorem parse_over (l : List UInt8) (hd : digL l = true) (h : foldP (restL l) = none) : parseL l = (0, 8) := by
 unfold parseL; rw [if_pos hd, h]
theorem parse_neg (l : List UInt8) (n : Int) (hd : digL l = true) (h : foldP (restL l) = some n) (hn : negL l = true) : parseL l = (n, 0) := by
 unfold parseL; rw [if_pos hd, h]; simp [hn]
theorem parse_least (l : List UInt8) (n : Int) (hd : digL l = true) (h : foldP (restL l) = some n) (hn : negL l = false) (hl : n = -9223372036854775808) : parseL l = (0, 8) := by
 unfold parseL; rw [if_pos hd, h]; simp [hn, hl]
theorem parse_pos (l : List UInt8) (n : Int) (hd : digL l = true) (h : foldP (restL l) = some n) (hn : negL l = false) (hl : -9223372036854775808 < n) : parseL l = (-n, 0) := by
 unfold parseL; rw [if_pos hd, h]; simp only [hn, Bool.false_eq_true, if_false]; rw [if_neg (by omega)]
theorem parse_no (l : List UInt8) (hd : digL l = false) : parseL l = (0, 5) := by
 unfold parseL; rw [hd]; simp
theorem ret_pair {a b c d : Int} (h : (a, b) = (c, d)) : Ending.returned (.tuple #[.int .i64 a, .int .i64 b]) = .returned (.tuple #[.int .i64 c, .int .i64 d]) := by
 injection h with h1 h2; rw [h1, h2]
theorem digL_all (l : List UInt8) (h : digL l = true) : (restL l).all isDig = true := by
 unfold digL digT at h; simp only [Bool.and_eq_true] at h; exact h.2
theorem all_at (t : List UInt8) (h : t.all isDig = true) (k : Nat) (hk : k < t.length) : 48 ≤ t[k].toNat ∧ t[k].toNat ≤ 57 :=
 (isDig_iff _).1 (List.all_eq_true.1 h _ (List.getElem_mem hk))
set_option maxHeartbeats 2000000 in
theorem parse_run (l t : List UInt8) (neg : Bool) (ht : restL l = t) (hn : negL l = neg) (hd : digL l = true) (hs : l.length ≤ 9223372036854775806) (v c : Int) (hres : parseL l = (v, c)) (w : World) :
  Calls Try.prog 27 #[.string (bs l)] w fun e w' => e = .returned (.tuple #[.int .i64 v, .int .i64 c]) ∧ w = w' := by
 have HR := Lib.hid hres
 have HD := Lib.hid (fun W => by simpa only [hd] using digits_any l (by omega) W)
 have HC := Lib.hid (cut_of l t neg ht hn (by omega))
 have HT := Lib.hid ht
 have HN := Lib.hid hn
 have HG := Lib.hid hd
 have hta : t.all isDig = true := by rw [← ht]; exact digL_all l hd
 have HTA := Lib.hid hta
 have htl : t.length ≤ 9223372036854775806 := by have := rest_len l; rw [ht] at this; omega
 clear hres hn hd hta
 clear ht hs
 go_enter Try.func27, Try.ntmps27
 go_wp2_with (first
  | (go_at_call 38; refine (HD.out _).mono ?_; rintro e w1 ⟨rfl, rfl⟩)
  | (go_at_call 39; refine (HC.out _).mono ?_; rintro e w1 ⟨rfl, rfl⟩))
 clear HD HC
 go_loop [6, 7, 8, 19] (fun a _ _ i => ∃ (k : Nat) (n : Int), k ≤ t.length ∧ i = .int .i64 k ∧ a = .int .i64 n ∧ -9223372036854775808 ≤ n ∧ n ≤ 0 ∧ foldP (t.take k) = some n) (fun _ _ _ i => t.length - (RowKit.intOf i).toNat)
 case atStart => exact ⟨0, 0, Nat.zero_le _, rfl, rfl, by omega, by omega, rfl⟩
 case round =>
  obtain ⟨k, n, hk, rfl, rfl, hn0, hn1, hf⟩ := hrel
  have HF := Lib.hid hf
  clear hf
  by_cases hlt : k < t.length
  ·have hc1 := (all_at t HTA.out k hlt).1
   have hc2 := (all_at t HTA.out k hlt).2
   by_cases h1 : n < -922337203685477580
   ·have HX := Lib.hid (parse_over l HG.out (by rw [HT.out]; exact fold_none t (k + 1) (by rw [fold_succ t k hlt n HF.out]; exact step_over _ _ (.inl h1))))
    go_wp2
    go_ret2
    exact ⟨ret_pair (HX.out.symm.trans HR.out), rfl⟩
   ·by_cases h2 : n = -922337203685477580
    ·by_cases h3 : 56 < t[k].toNat
     ·have HX := Lib.hid (parse_over l HG.out (by rw [HT.out]; exact fold_none t (k + 1) (by rw [fold_succ t k hlt n HF.out]; exact step_over _ _ (.inr ⟨h2, h3⟩))))
      subst h2
      clear h1
      go_wp2
      go_ret2
      exact ⟨ret_pair (HX.out.symm.trans HR.out), rfl⟩
     ·have HX := Lib.hid (by rw [← step_on n t[k] hc1 (by omega)]; exact fold_succ t k hlt n HF.out : foldP (t.take (k + 1)) = some (n * 10 - ((t[k].toNat : Int) - 48)))
      subst h2
      clear h1
      have h4 : (t[k].toNat : Int) ≤ 56 := by omega
      clear h3
      go_wp2
      go_round
      case rel => exact ⟨k + 1, _, by omega, by go_num, rfl, by omega, by omega, HX.out⟩
      case measure => simp [RowKit.intOf]; omega
    ·have HX := Lib.hid (by rw [← step_on n t[k] hc1 (by omega)]; exact fold_succ t k hlt n HF.out : foldP (t.take (k + 1)) = some (n * 10 - ((t[k].toNat : Int) - 48)))
     have h3 : -922337203685477579 ≤ n := by omega
     clear h1 h2
     go_wp2
     go_round
     case rel => exact ⟨k + 1, _, by omega, by go_num, rfl, by omega, by omega, HX.out⟩
     case measure => simp [RowKit.intOf]; omega
  ·have e : t.take k = t := List.take_of_length_le (by omega)
   have hF := HF.out
   rw [e] at hF
   have HB := Lib.hid hF
   clear HF hF e
   cases neg with
   | true =>
    have HX := Lib.hid (parse_neg l n HG.out (by rw [HT.out]; exact HB.out) HN.out)
    go_wp2
    go_ret2
    exact ⟨ret_pair (HX.out.symm.trans HR.out), rfl⟩
   | false =>
    by_cases hl : n = -9223372036854775808
    ·have HX := Lib.hid (parse_least l n HG.out (by rw [HT.out]; exact HB.out) HN.out hl)
     subst hl
     clear hn0 hn1
     go_wp2
     go_ret2
     exact ⟨ret_pair (HX.out.symm.trans HR.out), rfl⟩
    ·have HX := Lib.hid (parse_pos l n HG.out (by rw [HT.out]; exact HB.out) HN.out (by omega))
     have hn2 : -9223372036854775808 < n := by omega
     clear hl hn0
     go_wp2
     go_ret2
     exact ⟨ret_pair (HX.out.symm.trans HR.out), rfl⟩
set_option maxHeartbeats 1000000 in
theorem parse_bad (l : List UInt8) (hd : digL l = false) (hs : l.length ≤ 9223372036854775806) (w : World) :
  Calls Try.prog 27 #[.string (bs l)] w fun e w' => e = .returned (.tuple #[.int .i64 0, .int .i64 5]) ∧ w = w' := by
 have HD := Lib.hid (fun W => by simpa only [hd] using digits_any l (by omega) W)
 clear hd hs
 go_enter Try.func27, Try.ntmps27
 go_wp2_with (go_at_call 38; refine (HD.out _).mono ?_; rintro e w1 ⟨rfl, rfl⟩)
 go_ret2
 exact ⟨rfl, rfl⟩
theorem parse_any (l : List UInt8) (hs : l.length ≤ 9223372036854775806) (w : World) :
  Calls Try.prog 27 #[.string (bs l)] w fun e w' => e = .returned (.tuple #[.int .i64 (parseL l).1, .int .i64 (parseL l).2]) ∧ w = w' := by
 cases hd : digL l
 ·rw [parse_no l hd]; exact parse_bad l hd hs w
 ·exact parse_run l _ _ rfl rfl hd hs _ _ rfl w
end
section
open Go.RowKit
theorem decL_len (k m : Nat) (hk : 0 < k) (h : m < 10 ^ k) : (decL m).length ≤ k := by
 induction k generalizing m with
 | zero => omega
 | succ k ih =>
  rw [decL]
  split
  ·simp
  ·rename_i h10
   rw [Nat.pow_succ] at h
   rcases Nat.eq_zero_or_pos k with h0 | h0
   ·subst h0; simp at h; omega
   ·have := ih (m / 10) h0 (by omega)
    simp; omega
def Left (m y : Nat) (suf : List UInt8) : Prop := decL m = if suf = [] ∨ 0 < y then decL y ++ suf else suf
theorem left_step (m y : Nat) (suf : List UInt8) (h : Left m y suf) (hc : suf = [] ∨ 0 < y) : Left m (y / 10) (UInt8.ofNat (48 + y % 10) :: suf) := by
 unfold Left at *
 rw [if_pos hc] at h
 rw [h]
 by_cases h1 : 0 < y / 10
 ·rw [if_pos (.inr h1), decL, if_neg (by omega)]; simp
 ·rw [if_neg (by simpa using h1), decL, if_pos (by omega)]
  have : y % 10 = y := by omega
  rw [this]; rfl
theorem left_len (m y : Nat) (suf : List UInt8) (hm : m ≤ 9223372036854775808) (h : Left m y suf) (hc : suf = [] ∨ 0 < y) : suf.length ≤ 18 ∧ y ≤ m := by
 unfold Left at h
 rw [if_pos hc] at h
 have h1 := decL_len 19 m (by omega) (by omega)
 rw [h] at h1
 have h2 := List.length_pos_iff.2 (decL_ne y)
 rw [List.length_append] at h1
 have h3 := congrArg valL h
 rw [decL_val] at h3
 refine ⟨by omega, ?_⟩
 rw [h3]
 have : ∀ s : List UInt8, y ≤ valL (decL y ++ s) := by
  intro s
  induction s using snoc_ind with
  | h0 => simp [decL_val]
  | h1 s c ih => rw [← List.append_assoc, valL_snoc]; omega
 exact this suf
theorem left_end (m : Nat) (suf : List UInt8) (h : Left m 0 suf) (hs : suf ≠ []) : decL m = suf := by
 unfold Left at h
 rwa [if_neg (by simp [hs])] at h
def rowOf (j : Nat) (suf : List UInt8) : Array Value := (List.replicate j (Value.int .u8 0) ++ suf.map fun b => Value.int .u8 (b.toNat : Int)).toArray
theorem row_free (j : Nat) (suf : List UInt8) (h : 1 ≤ j) : (rowOf j suf)[j - 1]? = some (.int .u8 0) := by
 unfold rowOf
 rw [List.getElem?_toArray, List.getElem?_append_left (by simp; omega)]
 rw [List.getElem?_replicate, if_pos (by omega)]
theorem row_at (j : Nat) (suf : List UInt8) (q : Nat) (h : q < suf.length) : (rowOf j suf)[j + q]? = some (.int .u8 (suf[q].toNat : Int)) := by
 unfold rowOf
 rw [List.getElem?_toArray, List.getElem?_append_right (by simp)]
 simp [h]
theorem row_set (j : Nat) (suf : List UInt8) (b : UInt8) (h : 1 ≤ j) : (rowOf j suf).setIfInBounds (j - 1) (.int .u8 (b.toNat : Int)) = rowOf (j - 1) (b :: suf) := by
 obtain ⟨i, rfl⟩ : ∃ i, j = i + 1 := ⟨j - 1, by omega⟩
 unfold rowOf
 rw [List.setIfInBounds_toArray, List.replicate_succ', List.append_assoc, List.set_append_right _ _ (by simp)]
 simp
theorem cell_row {w : World} {g : Nat} {t : TypeId} {C : Array Value} (h : w.heap[g]? = some (.cells C t (0, 0))) (i : Nat) : w.cell? ⟨g, i, none⟩ = C[i]? := cell_of_row w g i C t (0, 0) h
theorem free_row {w : World} {g : Nat} {t : TypeId} {C : Array Value} (h : w.heap[g]? = some (.cells C t (0, 0))) (i : Nat) : w.frozen? ⟨g, i, none⟩ = false := by simp [World.frozen?, h]
theorem set_row {w : World} {g : Nat} {t : TypeId} {C : Array Value} (h : w.heap[g]? = some (.cells C t (0, 0))) (i : Nat) (v : Value) : (w.setCell ⟨g, i, none⟩ v).heap[g]? = some (.cells (C.setIfInBounds i v) t (0, 0)) := by
 simp [World.setCell, Array.getElem?_modify, h]
set_option maxRecDepth 100000 in
theorem slice_arr (w : World) (g : Nat) (l : Int) (j : Nat) (h0 : 0 ≤ l) (h1 : l < 20) (hl : l.toNat = j) :
  (Instr.sliceAt 68 (.pointer (some ⟨g, 0, none⟩)) (some (.int .i64 l)) none none).run Try.prog w = .ok (.slice (some ⟨g, j, none⟩) (20 - j) (20 - j)) w := by
 have e20 : Try.prog.arrayLen 68 = 20 := by kernel_rfl
 have es : (sizeOf (Try.prog.elem 68)).run Try.prog w = .ok 1 w := by kernel_rfl
 rw [run_sliceAt_array_l (P := Try.prog) w 68 ⟨g, 0, none⟩ (by kernel_rfl) .i64 l h0 (by rw [e20]; omega), es, e20, hl]
 simp only [Result.andThen_ok, slicedAt]
 rw [if_neg (by omega)]
 congr 3
 unfold Addr.add
 split <;> simp_all
theorem text_of_row {w : World} {g j : Nat} {t : TypeId} {suf : List UInt8} (h : w.heap[g]? = some (.cells (rowOf j suf) t (0, 0))) (n cap : Nat) (hn : suf.length = n) :
  (convert 69 9 (.slice (some ⟨g, j, none⟩) n cap)).run Try.prog w = .ok (.string (bs suf)) w := by
 rw [← hn]
 refine run_convert_bytes_back w _ _ 5 _ cap suf Try.underlying69 Try.underlying5 Try.underlying9 (fun q hq => ?_)
 have := row_at j suf q hq
 rw [← cell_row h] at this
 have e : (⟨g, j, none⟩ : Addr).add q = ⟨g, j + q, none⟩ := by unfold Addr.add; split <;> simp_all
 rw [e]; exact this
def PrintRel (m : Nat) (w : World) (X : Nat → Int) (i x : Value) (wr : World) : Prop :=
 ∃ (j y : Nat) (suf : List UInt8), j + suf.length = 20 ∧ i = .int .i64 (j : Int) ∧ x = .int .i64 (X y) ∧ Left m y suf ∧
  wr.heap[w.heap.size]? = some (.cells (rowOf j suf) 68 (0, 0)) ∧ Below w.heap.size w wr ∧ suf.length ≤ 19
set_option maxRecDepth 20000 in
set_option maxHeartbeats 2000000 in
theorem print_pos (m : Nat) (hm : m ≤ 9223372036854775807) (w : World) :
  Calls Try.prog 26 #[.int .i64 (m : Int)] w fun e w' => e = .returned (.string (bs (decL m))) ∧ Below w.heap.size w w' := by
 obtain ⟨out, hout⟩ : ∃ out, out = decL m := ⟨_, rfl⟩
 rw [← hout]
 have HO := Lib.hid hout
 clear hout
 go_enter Try.func26, Try.ntmps26
 go_wp2_with fail
 go_loopw [4, 5, 6] (fun i x _ wr => PrintRel m w (fun y => (y : Int)) i x wr) (fun i _ _ _ => (RowKit.intOf i).toNat)
 case atStart => exact ⟨20, m, [], rfl, rfl, rfl, by simp [Left], heap_alloc_new w _, by go_grown, by simp⟩
 case round =>
  obtain ⟨j, y, suf, hj, rfl, rfl, hL, hC, hb, hs⟩ := hrel
  have HL := Lib.hid hL
  have HJ := Lib.hid hj
  have HC := Lib.hid hC
  clear hL hC
  by_cases hc : suf = [] ∨ 0 < y
  ·have hlen := left_len m y suf (by omega) HL.out hc
   have HS := Lib.hid (left_step m y suf HL.out hc)
   have h1 : wr.cell? ⟨w.heap.size, j - 1, none⟩ = some (.int .u8 0) := by rw [cell_row HC.out]; exact row_free j suf (by omega)
   have h2 : wr.frozen? ⟨w.heap.size, j - 1, none⟩ = false := free_row HC.out _
   have hj1 : (2 : Int) ≤ (j : Int) := by omega
   have hj2 : (j : Int) ≤ 20 := by omega
   have hy0 : y ≤ 9223372036854775808 := by omega
   have hy1 : y ≤ 9223372036854775807 := by omega
   have HR := Lib.hid (set_row HC.out (j - 1) (.int .u8 (48 + (y : Int) % 10)))
   have HR2 : Hid ((rowOf j suf).setIfInBounds (j - 1) (.int .u8 (48 + (y : Int) % 10)) = rowOf (j - 1) (UInt8.ofNat (48 + y % 10) :: suf)) := by
    have := row_set j suf (UInt8.ofNat (48 + y % 10)) (by omega)
    rw [toNat_dig _ (by omega)] at this
    rw [Hid, ← this]; congr 2
   have hl2 := hlen.1
   clear hlen hj
   have hor : (j : Int) = 20 ∨ ((j : Int) < 20 ∧ 0 < y) := by
    rcases hc with rfl | hc
    ·left; have := HJ.out; simp at this; omega
    ·by_cases hj3 : (j : Int) = 20
     ·exact .inl hj3
     ·exact .inr ⟨by omega, hc⟩
   clear hc
   have hmx : max ((y : Int) % 10) (-((y : Int) % 10)) = (y : Int) % 10 := by omega
   rcases hor with h20 | ⟨h20, hy⟩
   ·have h20' : ((j : Int) == 20) = true := by simpa using h20
    clear h20
    go_wp2
    go_roundw
    case rel => exact ⟨j - 1, y / 10, _, by have := HJ.out; simp; omega, by go_num, by go_num, HS.out, by rw [HR.out, HR2.out], hb.setCell (by simp) _, by simp; omega⟩
    case measure => simp [RowKit.intOf]; omega
   ·have h20' : ((j : Int) == 20) = false := by rw [beq_eq_false_iff_ne]; omega
    have hy' : (((y : Int)) != 0) = true := by rw [bne_iff_ne]; omega
    go_wp2
    go_roundw
    case rel => exact ⟨j - 1, y / 10, _, by have := HJ.out; simp; omega, by go_num, by go_num, HS.out, by rw [HR.out, HR2.out], hb.setCell (by simp) _, by simp; omega⟩
    case measure => simp [RowKit.intOf]; omega
  ·have hsuf : suf ≠ [] := fun h => hc (.inl h)
   have hy : y = 0 := by have : ¬ 0 < y := fun h => hc (.inr h)
                         omega
   subst hy
   have hj2 : 0 < suf.length := List.length_pos_iff.2 hsuf
   have HE := Lib.hid (left_end m suf HL.out hsuf)
   clear hc hsuf
   have h20 : ((j : Int) == 20) = false := by rw [beq_eq_false_iff_ne]; omega
   have hj3 : (1 : Int) ≤ (j : Int) := by omega
   have hj4 : (j : Int) ≤ 19 := by omega
   have hcv := text_of_row HC.out (20 - j) (20 - j) (by omega)
   have hsl := slice_arr wr w.heap.size (j : Int) j (by omega) (by omega) (by omega)
   clear hj hs hj2
   go_wp2
   go_ret
   exact ⟨by rw [HO.out, HE.out]; rfl, hb⟩
set_option maxRecDepth 20000 in
set_option maxHeartbeats 2000000 in
theorem print_neg (m : Nat) (hm : m ≤ 9223372036854775808) (hm0 : 0 < m) (w : World) :
  Calls Try.prog 26 #[.int .i64 (-(m : Int))] w fun e w' => e = .returned (.string (bs (45 :: decL m))) ∧ Below w.heap.size w w' := by
 obtain ⟨out, hout⟩ : ∃ out, out = decL m := ⟨_, rfl⟩
 rw [← hout]
 have HO := Lib.hid hout
 clear hout
 have hmz : (-(m : Int)) < 0 := by omega
 clear hm0
 go_enter Try.func26, Try.ntmps26
 go_wp2_with fail
 go_loopw [4, 5, 6] (fun i x _ wr => PrintRel m w (fun y => -(y : Int)) i x wr) (fun i _ _ _ => (RowKit.intOf i).toNat)
 case atStart => exact ⟨20, m, [], rfl, rfl, rfl, by simp [Left], heap_alloc_new w _, by go_grown, by simp⟩
 case round =>
  obtain ⟨j, y, suf, hj, rfl, rfl, hL, hC, hb, hs⟩ := hrel
  have HL := Lib.hid hL
  have HJ := Lib.hid hj
  have HC := Lib.hid hC
  clear hL hC
  by_cases hc : suf = [] ∨ 0 < y
  ·have hlen := left_len m y suf (by omega) HL.out hc
   have HS := Lib.hid (left_step m y suf HL.out hc)
   have h1 : wr.cell? ⟨w.heap.size, j - 1, none⟩ = some (.int .u8 0) := by rw [cell_row HC.out]; exact row_free j suf (by omega)
   have h2 : wr.frozen? ⟨w.heap.size, j - 1, none⟩ = false := free_row HC.out _
   have hj1 : (2 : Int) ≤ (j : Int) := by omega
   have hj2 : (j : Int) ≤ 20 := by omega
   have hy0 : y ≤ 9223372036854775808 := by omega
   have hrem : (-(y : Int)).tmod 10 = -((y : Int) % 10) := by rw [Int.neg_tmod, Int.tmod_eq_emod_of_nonneg (by omega)]
   have hmax : (if -((y : Int) % 10) < (y : Int) % 10 then (y : Int) % 10 else -((y : Int) % 10)) = (y : Int) % 10 := by split <;> omega
   have hquo : (-(y : Int)).tdiv 10 = -((y : Int) / 10) := by rw [Int.neg_tdiv, Int.tdiv_eq_ediv_of_nonneg (by omega)]
   have HR := Lib.hid (set_row HC.out (j - 1) (.int .u8 (48 + (y : Int) % 10)))
   have HR2 : Hid ((rowOf j suf).setIfInBounds (j - 1) (.int .u8 (48 + (y : Int) % 10)) = rowOf (j - 1) (UInt8.ofNat (48 + y % 10) :: suf)) := by
    have := row_set j suf (UInt8.ofNat (48 + y % 10)) (by omega)
    rw [toNat_dig _ (by omega)] at this
    rw [Hid, ← this]; congr 2
   have hl2 := hlen.1
   clear hlen hj
   have hor : (j : Int) = 20 ∨ ((j : Int) < 20 ∧ 0 < y) := by
    rcases hc with rfl | hc
    ·left; have := HJ.out; simp at this; omega
    ·by_cases hj3 : (j : Int) = 20
     ·exact .inl hj3
     ·exact .inr ⟨by omega, hc⟩
   clear hc
   have hmx : max (-((y : Int) % 10)) ((y : Int) % 10) = (y : Int) % 10 := by omega
   rcases hor with h20 | ⟨h20, hy⟩
   ·have h20' : ((j : Int) == 20) = true := by simpa using h20
    clear h20
    go_wp2
    go_roundw
    case rel => exact ⟨j - 1, y / 10, _, by have := HJ.out; simp; omega, by go_num, by go_num, HS.out, by rw [HR.out, HR2.out], hb.setCell (by simp) _, by simp; omega⟩
    case measure => simp [RowKit.intOf]; omega
   ·have h20' : ((j : Int) == 20) = false := by rw [beq_eq_false_iff_ne]; omega
    have hy' : ((-(y : Int)) != 0) = true := by rw [bne_iff_ne]; omega
    go_wp2
    go_roundw
    case rel => exact ⟨j - 1, y / 10, _, by have := HJ.out; simp; omega, by go_num, by go_num, HS.out, by rw [HR.out, HR2.out], hb.setCell (by simp) _, by simp; omega⟩
    case measure => simp [RowKit.intOf]; omega
  ·have hsuf : suf ≠ [] := fun h => hc (.inl h)
   have hy : y = 0 := by have : ¬ 0 < y := fun h => hc (.inr h)
                         omega
   subst hy
   have hj2 : 0 < suf.length := List.length_pos_iff.2 hsuf
   have HE := Lib.hid (left_end m suf HL.out hsuf)
   clear hc hsuf
   have h20 : ((j : Int) == 20) = false := by rw [beq_eq_false_iff_ne]; omega
   have hj3 : (1 : Int) ≤ (j : Int) := by omega
   have hj4 : (j : Int) ≤ 19 := by omega
   have h1 : wr.cell? ⟨w.heap.size, j - 1, none⟩ = some (.int .u8 0) := by rw [cell_row HC.out]; exact row_free j suf (by omega)
   have h2 : wr.frozen? ⟨w.heap.size, j - 1, none⟩ = false := free_row HC.out _
   have HR : (wr.setCell ⟨w.heap.size, j - 1, none⟩ (.int .u8 45)).heap[w.heap.size]? = some (.cells (rowOf (j - 1) (45 :: suf)) 68 (0, 0)) := by
    rw [set_row HC.out (j - 1) (.int .u8 45)]
    have := row_set j suf 45 (by omega)
    rw [← this]; rfl
   have hcv := text_of_row HR (20 - (j - 1)) (20 - (j - 1)) (by simp; omega)
   have hsl := slice_arr (wr.setCell ⟨w.heap.size, j - 1, none⟩ (.int .u8 45)) w.heap.size ((j : Int) - 1) (j - 1) (by omega) (by omega) (by omega)
   clear hj hs hj2 HR
   go_wp2
   go_ret
   exact ⟨by rw [HO.out, HE.out]; rfl, hb.setCell (by simp) _⟩
theorem print_any (n : Int) (h0 : -9223372036854775808 ≤ n) (h1 : n ≤ 9223372036854775807) (w : World) :
  Calls Try.prog 26 #[.int .i64 n] w fun e w' => e = .returned (.string (bs (printL n))) ∧ Below w.heap.size w w' := by
 by_cases h : n < 0
 ·obtain ⟨m, rfl⟩ : ∃ m : Nat, n = -(m : Int) := ⟨n.natAbs, by omega⟩
  have e : printL (-(m : Int)) = 45 :: decL m := by unfold printL; rw [if_pos h]; congr 2; omega
  rw [e]
  exact print_neg m (by omega) (by omega) w
 ·obtain ⟨m, rfl⟩ : ∃ m : Nat, n = (m : Int) := ⟨n.toNat, by omega⟩
  have e : printL (m : Int) = decL m := by unfold printL; rw [if_neg h]; congr 1
  rw [e]
  exact print_pos m (by omega) w
end
section
open Go.RowKit
theorem parse_at (l : List UInt8) (v c : Int) (hs : l.length ≤ 9223372036854775806) (h : parseL l = (v, c)) (w : World) :
  Calls Try.prog 27 #[.string (bs l)] w fun e w' => e = .returned (.tuple #[.int .i64 v, .int .i64 c]) ∧ w = w' := by
 have := parse_any l hs w
 rwa [h] at this
end
section
open Go.RowKit
attribute [local go_sem] as_nil as_nil_lost as_int64 as_int64_must as_int as_lost as_int64_no as_int_no as_lost_no
attribute [local go_sem] Later.cell Later.frozen
set_option maxHeartbeats 2000000 in
theorem may_any (k n : Int) (w : World) :
  Calls Try.prog 10 #[.agg #[.int .i64 k, .int .i64 n]] w fun e w' => e = .returned (.bool (mayV k n)) ∧ Below w.heap.size w w' := by
 rcases may_cases k n with ⟨rfl, h⟩ | ⟨rfl, rfl, h⟩ | ⟨rfl, rfl, h⟩ | ⟨rfl, h1, h2, h⟩ | ⟨rfl, h1, h2, h⟩ | ⟨h1, h2, h3, h4, h⟩ <;> rw [h] <;> clear h
 all_goals
  go_enter Try.func10, Try.ntmps10
  go_wp2
  go_ret
  exact ⟨rfl, by go_grown⟩
set_option maxHeartbeats 2000000 in
theorem refmay_any (k n : Int) (w : World) :
  Calls Try.prog 14 #[.agg #[.int .i64 k, .int .i64 n]] w fun e w' => e = .returned (.bool (mayV k n)) ∧ Below w.heap.size w w' := by
 rcases may_cases k n with ⟨rfl, h⟩ | ⟨rfl, rfl, h⟩ | ⟨rfl, rfl, h⟩ | ⟨rfl, h1, h2, h⟩ | ⟨rfl, h1, h2, h⟩ | ⟨h1, h2, h3, h4, h⟩ <;> rw [h] <;> clear h
 all_goals
  go_enter Try.func14, Try.ntmps14
  go_wp2
  go_ret
  exact ⟨rfl, by go_grown⟩
def vTxt (k n : Int) : List UInt8 := if mayV k n then (if k = 1 then printL n else if k = 0 then [110, 105, 108] else [63]) else []
def vErr (k n : Int) : Int := if mayV k n then 0 else 4
def vParse (l : List UInt8) : Int × Int × Int :=
 if l = [110, 105, 108] then (0, 0, 0) else if l = [63] then (2, 0, 0) else if (parseL l).2 = 0 then (1, (parseL l).1, 0) else (0, 0, (parseL l).2)
set_option maxHeartbeats 2000000 in
theorem vprint_any (k n : Int) (h0 : -9223372036854775808 ≤ n) (h1 : n ≤ 9223372036854775807) (w : World) :
  Calls Try.prog 18 #[.agg #[.int .i64 k, .int .i64 n]] w fun e w' => e = .returned (.tuple #[.string (bs (vTxt k n)), .int .i64 (vErr k n)]) ∧ Below w.heap.size w w' := by
 have HP := Lib.hid (print_any n h0 h1)
 have HM := Lib.hid (may_any k n)
 clear h0 h1
 rcases may_cases k n with ⟨rfl, h⟩ | ⟨rfl, rfl, h⟩ | ⟨rfl, rfl, h⟩ | h'
 ·have e1 : vTxt 1 n = printL n := by simp [vTxt, h]
  have e2 : vErr 1 n = 0 := by simp [vErr, h]
  rw [e1, e2]
  rw [h] at HM
  clear h e1 e2
  go_enter Try.func18, Try.ntmps18
  go_wp2_with (fail)
  refine (HM.out _).mono ?_
  rintro e w1 ⟨rfl, hb1⟩
  obtain ⟨hc1, hf1⟩ := bcell hb1
  have hz1 := hb1.size
  try simp at hz1
  have hl1_0 : w.heap.size < w1.heap.size := by omega
  have hl1_0_1 : w.heap.size < w1.heap.size + 1 := by omega
  have hl1_0_2 : w.heap.size < w1.heap.size + 1 + 1 := by omega
  have hl1_0_3 : w.heap.size < w1.heap.size + 1 + 1 + 1 := by omega
  have hl1_0_4 : w.heap.size < w1.heap.size + 1 + 1 + 1 + 1 := by omega
  have hl1_0_5 : w.heap.size < w1.heap.size + 1 + 1 + 1 + 1 + 1 := by omega
  go_wp2_with (first | (go_at_call 26; refine (HP.out _).mono ?_; rintro e w2 ⟨rfl, hb2⟩) | go_in)
  go_returns
  exact ⟨rfl, bel⟩
 ·have e1 : vTxt 0 0 = [110, 105, 108] := by simp [vTxt, h]
  have e2 : vErr 0 0 = 0 := by simp [vErr, h]
  rw [e1, e2]
  rw [h] at HM
  clear h e1 e2
  go_enter Try.func18, Try.ntmps18
  go_wp2_with (fail)
  refine (HM.out _).mono ?_
  rintro e w1 ⟨rfl, hb1⟩
  obtain ⟨hc1, hf1⟩ := bcell hb1
  have hz1 := hb1.size
  try simp at hz1
  have hl1_0 : w.heap.size < w1.heap.size := by omega
  have hl1_0_1 : w.heap.size < w1.heap.size + 1 := by omega
  have hl1_0_2 : w.heap.size < w1.heap.size + 1 + 1 := by omega
  have hl1_0_3 : w.heap.size < w1.heap.size + 1 + 1 + 1 := by omega
  have hl1_0_4 : w.heap.size < w1.heap.size + 1 + 1 + 1 + 1 := by omega
  have hl1_0_5 : w.heap.size < w1.heap.size + 1 + 1 + 1 + 1 + 1 := by omega
  go_wp2
  go_returns
  exact ⟨rfl, bel⟩
 ·have e1 : vTxt 2 0 = [63] := by simp [vTxt, h]
  have e2 : vErr 2 0 = 0 := by simp [vErr, h]
  rw [e1, e2]
  rw [h] at HM
  clear h e1 e2
  go_enter Try.func18, Try.ntmps18
  go_wp2_with (fail)
  refine (HM.out _).mono ?_
  rintro e w1 ⟨rfl, hb1⟩
  obtain ⟨hc1, hf1⟩ := bcell hb1
  have hz1 := hb1.size
  try simp at hz1
  have hl1_0 : w.heap.size < w1.heap.size := by omega
  have hl1_0_1 : w.heap.size < w1.heap.size + 1 := by omega
  have hl1_0_2 : w.heap.size < w1.heap.size + 1 + 1 := by omega
  have hl1_0_3 : w.heap.size < w1.heap.size + 1 + 1 + 1 := by omega
  have hl1_0_4 : w.heap.size < w1.heap.size + 1 + 1 + 1 + 1 := by omega
  have hl1_0_5 : w.heap.size < w1.heap.size + 1 + 1 + 1 + 1 + 1 := by omega
  go_wp2
  go_returns
  exact ⟨rfl, bel⟩
 ·have h : mayV k n = false := by
   rcases h' with ⟨-, -, -, h⟩ | ⟨-, -, -, h⟩ | ⟨-, -, -, -, h⟩ <;> exact h
  have e1 : vTxt k n = [] := by simp [vTxt, h]
  have e2 : vErr k n = 4 := by simp [vErr, h]
  rw [e1, e2]
  rw [h] at HM
  clear h h' e1 e2
  go_enter Try.func18, Try.ntmps18
  go_wp2_with (fail)
  refine (HM.out _).mono ?_
  rintro e w1 ⟨rfl, hb1⟩
  obtain ⟨hc1, hf1⟩ := bcell hb1
  have hz1 := hb1.size
  try simp at hz1
  have hl1_0 : w.heap.size < w1.heap.size := by omega
  have hl1_0_1 : w.heap.size < w1.heap.size + 1 := by omega
  have hl1_0_2 : w.heap.size < w1.heap.size + 1 + 1 := by omega
  have hl1_0_3 : w.heap.size < w1.heap.size + 1 + 1 + 1 := by omega
  have hl1_0_4 : w.heap.size < w1.heap.size + 1 + 1 + 1 + 1 := by omega
  have hl1_0_5 : w.heap.size < w1.heap.size + 1 + 1 + 1 + 1 + 1 := by omega
  go_wp2
  go_returns
  exact ⟨rfl, bel⟩
theorem vparse_cases (l : List UInt8) : (l = [110, 105, 108] ∧ vParse l = (0, 0, 0)) ∨ (l = [63] ∧ vParse l = (2, 0, 0)) ∨
  ((l == [110, 105, 108]) = false ∧ (l == [63]) = false ∧ ∃ v, parseL l = (v, 0) ∧ vParse l = (1, v, 0)) ∨
  ((l == [110, 105, 108]) = false ∧ (l == [63]) = false ∧ ∃ v c, parseL l = (v, c) ∧ (c != 0) = true ∧ vParse l = (0, 0, c)) := by
 by_cases h1 : l = [110, 105, 108]
 ·exact .inl ⟨h1, by simp [vParse, h1]⟩
 by_cases h2 : l = [63]
 ·exact .inr (.inl ⟨h2, by simp [vParse, h2]⟩)
 have e1 : (l == [110, 105, 108]) = false := by simpa using h1
 have e2 : (l == [63]) = false := by simpa using h2
 obtain ⟨v, c, hp⟩ : ∃ v c, parseL l = (v, c) := ⟨_, _, rfl⟩
 by_cases hc : c = 0
 ·subst hc
  exact .inr (.inr (.inl ⟨e1, e2, v, hp, by simp [vParse, h1, h2, hp]⟩))
 ·exact .inr (.inr (.inr ⟨e1, e2, v, c, hp, by simpa using hc, by simp [vParse, h1, h2, hp, hc]⟩))
set_option maxHeartbeats 2000000 in
theorem vparse_of (l : List UInt8) (a b c : Int) (hs : l.length ≤ 9223372036854775806) (h : vParse l = (a, b, c)) (w : World) :
  Calls Try.prog 19 #[.string (bs l)] w fun e w' => e = .returned (.tuple #[.agg #[.int .i64 a, .int .i64 b], .int .i64 c]) ∧ Below w.heap.size w w' := by
 rcases vparse_cases l with ⟨rfl, h'⟩ | ⟨rfl, h'⟩ | ⟨h1, h2, v, hp, h'⟩ | ⟨h1, h2, v, c', hp, hc, h'⟩
 all_goals
  rw [h'] at h
  simp only [Prod.mk.injEq] at h
  obtain ⟨rfl, rfl, rfl⟩ := h
  clear h'
 ·go_enter Try.func19, Try.ntmps19
  go_wp2
  go_returns
  exact ⟨rfl, by go_grown⟩
 ·go_enter Try.func19, Try.ntmps19
  go_wp2
  go_returns
  exact ⟨rfl, by go_grown⟩
 all_goals
  have HP := Lib.hid (parse_at l _ _ hs hp)
  clear hp hs
  go_enter Try.func19, Try.ntmps19
  go_wp2_with (go_at_call 27; refine (HP.out _).mono ?_; rintro e w1 ⟨rfl, rfl⟩)
  go_returns
  exact ⟨rfl, by go_grown⟩
end
section
open Go.RowKit
attribute [local go_sem] as_nil as_nil_lost as_int64 as_int64_must as_int as_lost as_int64_no as_int_no as_lost_no
attribute [local go_sem] Later.cell Later.frozen
attribute [local go_sem ↓] Go.wp_at_zero Go.wp_at_succ
def lessV (k n k' n' : Int) : Bool := if k = k' then k == 1 && decide (n < n') else decide (k < k')
set_option maxHeartbeats 1000000 in
theorem refless_any (k n k' n' : Int) (w : World) :
  Calls Try.prog 15 #[.agg #[.int .i64 k, .int .i64 n], .agg #[.int .i64 k', .int .i64 n']] w fun e w' => e = .returned (.bool (lessV k n k' n')) ∧ Below w.heap.size w w' := by
 by_cases h1 : k = k'
 ·subst h1
  have e1 : lessV k n k n' = (k == 1 && decide (n < n')) := by simp [lessV]
  rw [e1]; clear e1
  by_cases h2 : k = 1
  ·subst h2
   go_enter Try.func15, Try.ntmps15
   go_wp2
   go_ret
   exact ⟨by simp, by go_grown⟩
  ·have h2' : (k == 1) = false := by simpa using h2
   clear h2
   go_enter Try.func15, Try.ntmps15
   go_wp2
   go_ret
   exact ⟨by simp; intro hk; exact absurd hk (by simpa using h2'), by go_grown⟩
 ·have e1 : lessV k n k' n' = decide (k < k') := by simp [lessV, h1]
  have h1' : (k != k') = true := by simpa using h1
  rw [e1]; clear e1 h1
  go_enter Try.func15, Try.ntmps15
  go_wp2
  go_ret
  exact ⟨by simp, by go_grown⟩
end
section
open Go.RowKit Go.Lib Go.Maps
theorem Blk.at {w w' : World} {B : Nat} {t : TypeId} {cs : List Value} (h : Blk w B t cs) (e : w'.heap[B]? = w.heap[B]?) : Blk w' B t cs := e.trans h
def Ty (w : World) (g : Nat) (t : TypeId) : Prop := ∃ cs fz, w.heap[g]? = some (.cells cs t fz)
theorem Blk.ty {w : World} {B : Nat} {t : TypeId} {cs : List Value} (h : Blk w B t cs) : Ty w B t := ⟨_, _, h⟩
end
section
open Go.RowKit Go.Lib Go.Maps
theorem step_append_own_at {P : Program} {w : World} {ops : Array Oper} {o : Oper} {a : Act} {K : Act → World → Prop} {Q : Exit → Act → World → Prop} {F : Prop} (hgd : o.guard = none) (s x : Operand) (t : TypeId)
  (ho : o.op = .call { callee := .builtin .append, args := #[s, x], argTypes := #[t, t] })
  (base : Nat) (e : TypeId) (i : TypeInfo) (z : Value) (size bytes : Nat) (ht : P.underlying t = some (.slice e)) (hi : P.info? e = some i) (hz : i.zero = some z)
  (hsize : i.size = size) (hby : i.bytes = bytes) (hzs : z.cells.size = size) (hsz : 0 < size)
  (v : Value) (n : Nat) (xs : List Value) (hs : a.eval s = v) (hown : w.ownsRow base e size v n xs)
  (ad : Addr) (m c : Nat) (news : List Value) (hx : a.eval x = .slice (some ad) m c) (hl : news.length = m * size) (hnews : ∀ j u, news[j]? = some u → w.cell? (ad.add j) = some u) (h1 : ∀ u ∈ news, u.oneCell' = true)
  (h63 : n + m ≤ maxLen) (hbytes : (n + m) * bytes ≤ 140737488355328) (hbase : base ≤ w.heap.size)
  (h : ∀ v' w', w'.ownsRow base e size v' (n + m) (xs ++ news) → w.grownBy w' v.ownBlock → (v'.ownBlock = v.ownBlock ∨ v'.ownBlock = some w.heap.size) → K (a.put o.dst v') w') :
  if Region.wanted o (yielded ops a.tmps) = true then Oper.wp P o a w K Q else F := by
 have hw : Region.wanted o (yielded ops a.tmps) = true := by simp [Region.wanted, hgd]
 rw [if_pos hw]
 obtain ⟨v', w', hr, h2, h3, -, h5⟩ := run_append_own_at (P := P) w base t o.type e i z size bytes ht hi hz hsize hby hzs hsz v n xs hown ad m c news hl hnews h1 h63 hbytes hbase
 unfold Oper.wp execOp
 simp only [ho, resolve, invoke, builtin, Sem.run_bind, Sem.run_pure, Result.andThen_ok, List.map_toArray, List.map_cons, List.map_nil, hs, hx, hr]
 exact h v' w' h2 h3 h5
theorem Ty.lt {w : World} {k : Nat} {t : TypeId} (h : Ty w k t) : k < w.heap.size := by
 obtain ⟨cs, fz, h⟩ := h
 exact (Array.getElem?_eq_some_iff.1 h).1
theorem Ty.at {w w' : World} {k : Nat} {t : TypeId} (h : Ty w k t) (e : w'.heap[k]? = w.heap[k]?) : Ty w' k t := by
 obtain ⟨cs, fz, h⟩ := h
 exact ⟨cs, fz, e.trans h⟩
end
section
open Go.RowKit Go.Lib
theorem owns_beside {w w' : World} {base size n : Nat} {e : TypeId} {v : Value} {xs : List Value} {row : Option Nat} (h : w.ownsRow base e size v n xs) (hg : w.grownBy w' row) (hne : ∀ k, v.ownBlock = some k → row ≠ some k) : w'.ownsRow base e size v n xs := by
 refine h.kept hg ?_
 cases hv : v.ownBlock with
 | none =>
  rcases h.2 with ⟨rfl, -⟩ | ⟨g, cap, cur, rfl, -⟩
  ·exact .inl rfl
  ·cases hv
 | some k => exact .inr (fun e => hne k hv e.symm)
end
section
open Go.RowKit Go.Lib
def Parted (v u : Value) : Prop := ∀ k, v.ownBlock = some k → u.ownBlock = some k → False
theorem Parted.flip {v u : Value} (h : Parted v u) : Parted u v := fun k h1 h2 => h k h2 h1
theorem Parted.new {w : World} {base size n : Nat} {e : TypeId} {v : Value} {xs : List Value} (h : w.ownsRow base e size v n xs) (a b : Nat) : Parted v (.slice (some ⟨w.heap.size, 0, none⟩) a b) := fun k h1 h2 => by
 have h3 : w.heap.size = k := by simpa [Value.ownBlock] using h2
 have := (h.lt k h1).2
 omega
theorem Parted.grow {w : World} {base size n : Nat} {e : TypeId} {v v' u : Value} {xs : List Value} (h : Parted v u) (hat : v'.ownBlock = v.ownBlock ∨ v'.ownBlock = some w.heap.size) (hu : w.ownsRow base e size u n xs) : Parted v' u := fun k h1 h2 => by
 rcases hat with e | e
 ·exact h k (e ▸ h1) h2
 ·rw [e] at h1
  have h3 : w.heap.size = k := by simpa using h1
  have := (hu.lt k h2).2
  omega
end
end Go.Proofs.Ytldcbapjiflblaa
