/-
  The walks of layer 3 (digit): what each function of package digit, and of its reference, returns; memory that was there stands as it was. No conditions.
-/
import Derived.Test.YtphhgdgamnogpaaDoorBase
import Derived.Test.YtphhgdgamnogpaaDoorDigP
namespace Go.Proofs.YtphhgdgamnogpaaDoor
open Go.RowKit

set_option maxHeartbeats 400000 in
theorem dcut_any (l : List UInt8) (hs : l.length ≤ 9223372036854775807) (w : World) :
    Calls Tryd.prog 155 #[.string (bs l), .string ⟨#[45]⟩] w fun e w' => e = .returned (.tuple #[.string (bs (restL l)), .bool (negL l)]) ∧ w = w' := by
  cases l with
  | nil =>
    go_enter Tryd.func155, Tryd.ntmps155
    go_wp2
    go_ret2
    exact ⟨rfl, rfl⟩
  | cons a l =>
    by_cases h : a = 45
    · subst h
      simp only [List.length_cons] at hs
      go_enter Tryd.func155, Tryd.ntmps155
      go_wp2
      go_ret2
      exact ⟨by simp [restL, negL], rfl⟩
    · have h' : (a == 45) = false := by simpa using h
      simp only [List.length_cons] at hs
      go_enter Tryd.func155, Tryd.ntmps155
      go_wp2
      go_ret2
      exact ⟨by simp [restL, negL, h'], rfl⟩

theorem cut_of (l t : List UInt8) (neg : Bool) (ht : restL l = t) (hn : negL l = neg) (hs : l.length ≤ 9223372036854775807) (w : World) :
    Calls Tryd.prog 155 #[.string (bs l), .string ⟨#[45]⟩] w fun e w' => e = .returned (.tuple #[.string (bs t), .bool neg]) ∧ w = w' := by
  subst ht; subst hn; exact dcut_any l hs w

/-- A loop's end: what has been seen are digits. -/
theorem all_take_succ (t : List UInt8) (k : Nat) (hk : k < t.length) (h : (t.take k).all isDig = true) (hd : isDig t[k] = true) : (t.take (k + 1)).all isDig = true := by
  rw [List.take_succ_eq_append_getElem hk, List.all_append, h]; simp [hd]
theorem not_all (t : List UInt8) (k : Nat) (hk : k < t.length) (hd : isDig t[k] = false) : t.all isDig = false := by
  rw [List.all_eq_false]; exact ⟨t[k], List.getElem_mem hk, by simp [hd]⟩

theorem ret_bool {a b : Bool} (h : a = b) : Ending.returned (.bool a) = .returned (.bool b) := by rw [h]
theorem u8_eq (a b : UInt8) : ((a.toNat : Int) == (b.toNat : Int)) = (a == b) := by
  rw [Bool.eq_iff_iff]; simp only [beq_iff_eq, ← UInt8.toNat_inj]; omega

set_option maxHeartbeats 1000000 in
/-- Digits, where the loop is reached. -/
theorem digits_run (l : List UInt8) (a : UInt8) (r : List UInt8) (neg : Bool) (ht : restL l = a :: r) (hn : negL l = neg) (hs : l.length ≤ 9223372036854775807) (hr : r.length + 1 ≤ 9223372036854775807)
    (hc : (a == 48) = false) (res : Bool) (hres : (a :: r).all isDig = res) (w : World) :
    Calls Tryd.prog 154 #[.string (bs l)] w fun e w' => e = .returned (.bool res) ∧ w = w' := by
  have HR := Lib.hid hres
  clear hres
  have HC := Lib.hid (cut_of l (a :: r) neg ht hn hs)
  clear ht hn hs
  have ha : ((a.toNat : Int) == 48) = false := by rw [← hc]; exact u8_eq a 48
  go_enter Tryd.func154, Tryd.ntmps154
  go_wp2_with (go_at_call 155; refine (HC.out _).mono ?_; rintro e w1 ⟨rfl, rfl⟩)
  clear HC ha hc
  have e1 : ((r.length : Int) + 1) = ((a :: r).length : Int) := by simp
  have e2 : (a :: r).length ≤ 9223372036854775807 := by simpa using hr
  rw [e1]
  clear e1 hr
  generalize a :: r = t at *
  go_loop [5, 28] (fun _ i => ∃ k : Nat, k ≤ t.length ∧ i = .int .i64 k ∧ (t.take k).all isDig = true) (fun _ i => t.length - (intOf i).toNat)
  case atStart => exact ⟨0, Nat.zero_le _, rfl, rfl⟩
  case round =>
    obtain ⟨k, hk, rfl, hall⟩ := hrel
    have HA := Lib.hid hall
    clear hall
    by_cases hlt : k < t.length
    · by_cases hd : isDig t[k] = true
      · have HS := Lib.hid (all_take_succ t k hlt HA.out hd)
        have hd1 := ((isDig_iff _).1 hd).1
        have hd2 := ((isDig_iff _).1 hd).2
        clear hd
        go_wp2
        go_round
        case rel => exact ⟨k + 1, by omega, by go_num, HS.out⟩
        case measure => simp [intOf]; omega
      · have hf : isDig t[k] = false := by simpa using hd
        have HF := Lib.hid (not_all t k hlt hf)
        have hor : t[k].toNat < 48 ∨ (48 ≤ t[k].toNat ∧ 57 < t[k].toNat) := by
          have : ¬ (48 ≤ t[k].toNat ∧ t[k].toNat ≤ 57) := fun h => hd ((isDig_iff _).2 h)
          omega
        clear hd hf
        rcases hor with h1 | ⟨h1, h2⟩
        all_goals
          go_wp2
          go_ret
          exact ⟨ret_bool (HF.out.symm.trans HR.out), rfl⟩
    · have e : t.take k = t := List.take_of_length_le (by omega)
      have HA' := HA.out
      rw [e] at HA'
      have HB := Lib.hid HA'
      clear HA HA' e
      go_wp2
      go_ret
      exact ⟨ret_bool (HB.out.symm.trans HR.out), rfl⟩

set_option maxHeartbeats 1000000 in
theorem digits_zero (l : List UInt8) (ht : restL l = [48]) (hn : negL l = false) (hs : l.length ≤ 9223372036854775807) (w : World) :
    Calls Tryd.prog 154 #[.string (bs l)] w fun e w' => e = .returned (.bool true) ∧ w = w' := by
  have HC := Lib.hid (cut_of l [48] false ht hn hs)
  clear ht hn hs
  go_enter Tryd.func154, Tryd.ntmps154
  go_wp2_with (go_at_call 155; refine (HC.out _).mono ?_; rintro e w1 ⟨rfl, rfl⟩)
  go_rounds 2
  go_ret
  exact ⟨rfl, rfl⟩
set_option maxHeartbeats 1000000 in
theorem digits_nil (l : List UInt8) (neg : Bool) (ht : restL l = []) (hn : negL l = neg) (hs : l.length ≤ 9223372036854775807) (w : World) :
    Calls Tryd.prog 154 #[.string (bs l)] w fun e w' => e = .returned (.bool false) ∧ w = w' := by
  have HC := Lib.hid (cut_of l [] neg ht hn hs)
  clear ht hn hs
  go_enter Tryd.func154, Tryd.ntmps154
  go_wp2_with (go_at_call 155; refine (HC.out _).mono ?_; rintro e w1 ⟨rfl, rfl⟩)
  go_ret
  exact ⟨rfl, rfl⟩
set_option maxHeartbeats 1000000 in
theorem digits_lead (l r : List UInt8) (neg : Bool) (ht : restL l = 48 :: r) (hn : negL l = neg) (hs : l.length ≤ 9223372036854775807) (hr : r.length + 1 ≤ 9223372036854775807) (hc : neg = true ∨ (neg = false ∧ 0 < r.length)) (w : World) :
    Calls Tryd.prog 154 #[.string (bs l)] w fun e w' => e = .returned (.bool false) ∧ w = w' := by
  have HC := Lib.hid (cut_of l (48 :: r) neg ht hn hs)
  clear ht hn hs
  rcases hc with rfl | ⟨rfl, hc⟩
  all_goals
    go_enter Tryd.func154, Tryd.ntmps154
    go_wp2_with (go_at_call 155; refine (HC.out _).mono ?_; rintro e w1 ⟨rfl, rfl⟩)
    go_ret
    exact ⟨rfl, rfl⟩
theorem rest_len (l : List UInt8) : (restL l).length ≤ l.length := by unfold restL; split <;> simp
theorem digits_any (l : List UInt8) (hs : l.length ≤ 9223372036854775807) (w : World) :
    Calls Tryd.prog 154 #[.string (bs l)] w fun e w' => e = .returned (.bool (digL l)) ∧ w = w' := by
  have hl := rest_len l
  unfold digL
  cases ht : restL l with
  | nil => exact digits_nil l _ ht rfl hs w
  | cons a r =>
    rw [ht] at hl
    simp only [List.length_cons] at hl
    by_cases ha : a = 48
    · subst ha
      by_cases hc : negL l = true ∨ 0 < r.length
      · have e : digT (48 :: r) (negL l) = false := by
          rcases hc with h | h <;> simp [digT, h]
        rw [e]
        refine digits_lead l r _ ht rfl hs (by omega) ?_ w
        cases hn : negL l
        · rw [hn] at hc; exact .inr ⟨rfl, by simpa using hc⟩
        · exact .inl rfl
      · have hn : negL l = false := by
          cases h : negL l
          · rfl
          · exact absurd (.inl h) hc
        have hr : r = [] := List.eq_nil_of_length_eq_zero (by have : ¬ 0 < r.length := fun h => hc (.inr h)
                                                              omega)
        subst hr
        rw [hn, show digT [48] false = true from rfl]
        exact digits_zero l ht hn hs w
    · have ha' : (a == 48) = false := by simpa using ha
      have e : digT (a :: r) (negL l) = (a :: r).all isDig := by
        unfold digT
        rw [List.head?_cons, show ((some a : Option UInt8) == some 48) = false by simpa using ha]
        simp
      rw [e]
      exact digits_run l a r _ ht rfl hs (by omega) ha' _ rfl w

/-! ### The reference's Digits. -/
set_option maxHeartbeats 2000000 in
theorem refdigits_neg (a : UInt8) (r : List UInt8) (hr : r.length + 2 ≤ 9223372036854775807)
    (hc : (a == 48) = false) (res : Bool) (hres : (a :: r).all isDig = res) (w : World) :
    Calls Tryd.prog 156 #[.string (bs (45 :: a :: r))] w fun e w' => e = .returned (.bool res) ∧ w = w' := by
  have HR := Lib.hid hres
  clear hres
  have ha : ((a.toNat : Int) == 48) = false := by rw [← hc]; exact u8_eq a 48
  rcases (show ((r.length : Int) + 1 ≤ 1) ∨ (1 : Int) < (r.length : Int) + 1 by omega) with hcase | hcase
  all_goals
    go_enter Tryd.func156, Tryd.ntmps156
    go_wp2_with fail
    clear ha hc
    have e2 : (a :: r).length ≤ 9223372036854775807 := by simp; omega
    clear hr hcase
    generalize a :: r = t at *
    go_loop [4] (fun i => ∃ k : Nat, k ≤ t.length ∧ i = .int .i64 k ∧ (t.take k).all isDig = true) (fun i => t.length - (intOf i).toNat)
    case atStart => exact ⟨0, Nat.zero_le _, rfl, rfl⟩
    case round =>
      obtain ⟨k, hk, rfl, hall⟩ := hrel
      have HA := Lib.hid hall
      clear hall
      by_cases hlt : k < t.length
      · by_cases hd : isDig t[k] = true
        · have HS := Lib.hid (all_take_succ t k hlt HA.out hd)
          have hd1 := ((isDig_iff _).1 hd).1
          have hd2 := ((isDig_iff _).1 hd).2
          clear hd
          go_wp2
          go_round
          case rel => exact ⟨k + 1, by omega, by go_num, HS.out⟩
          case measure => simp [intOf]; omega
        · have hf : isDig t[k] = false := by simpa using hd
          have HF := Lib.hid (not_all t k hlt hf)
          have hor : t[k].toNat < 48 ∨ (48 ≤ t[k].toNat ∧ 57 < t[k].toNat) := by
            have : ¬ (48 ≤ t[k].toNat ∧ t[k].toNat ≤ 57) := fun h => hd ((isDig_iff _).2 h)
            omega
          clear hd hf
          rcases hor with h1 | ⟨h1, h2⟩
          all_goals
            go_wp2
            go_ret
            exact ⟨ret_bool (HF.out.symm.trans HR.out), rfl⟩
      · have e : t.take k = t := List.take_of_length_le (by omega)
        have HA' := HA.out
        rw [e] at HA'
        have HB := Lib.hid HA'
        clear HA HA' e
        go_wp2
        go_ret
        exact ⟨ret_bool (HB.out.symm.trans HR.out), rfl⟩
set_option maxHeartbeats 2000000 in
theorem refdigits_pos (a : UInt8) (r : List UInt8) (hr : r.length + 2 ≤ 9223372036854775807)
    (hc : (a == 48) = false) (hm : (a == 45) = false) (res : Bool) (hres : (a :: r).all isDig = res) (w : World) :
    Calls Tryd.prog 156 #[.string (bs (a :: r))] w fun e w' => e = .returned (.bool res) ∧ w = w' := by
  have HR := Lib.hid hres
  clear hres
  have ha : ((a.toNat : Int) == 48) = false := by rw [← hc]; exact u8_eq a 48
  have hm' : ((a.toNat : Int) == 45) = false := by rw [← hm]; exact u8_eq a 45
  rcases (show ((r.length : Int) + 1 ≤ 1) ∨ (1 : Int) < (r.length : Int) + 1 by omega) with hcase | hcase
  all_goals
    go_enter Tryd.func156, Tryd.ntmps156
    go_wp2_with fail
    clear hm hm'
    clear ha hc
    have e2 : (a :: r).length ≤ 9223372036854775807 := by simp; omega
    clear hr hcase
    generalize a :: r = t at *
    go_loop [4] (fun i => ∃ k : Nat, k ≤ t.length ∧ i = .int .i64 k ∧ (t.take k).all isDig = true) (fun i => t.length - (intOf i).toNat)
    case atStart => exact ⟨0, Nat.zero_le _, rfl, rfl⟩
    case round =>
      obtain ⟨k, hk, rfl, hall⟩ := hrel
      have HA := Lib.hid hall
      clear hall
      by_cases hlt : k < t.length
      · by_cases hd : isDig t[k] = true
        · have HS := Lib.hid (all_take_succ t k hlt HA.out hd)
          have hd1 := ((isDig_iff _).1 hd).1
          have hd2 := ((isDig_iff _).1 hd).2
          clear hd
          go_wp2
          go_round
          case rel => exact ⟨k + 1, by omega, by go_num, HS.out⟩
          case measure => simp [intOf]; omega
        · have hf : isDig t[k] = false := by simpa using hd
          have HF := Lib.hid (not_all t k hlt hf)
          have hor : t[k].toNat < 48 ∨ (48 ≤ t[k].toNat ∧ 57 < t[k].toNat) := by
            have : ¬ (48 ≤ t[k].toNat ∧ t[k].toNat ≤ 57) := fun h => hd ((isDig_iff _).2 h)
            omega
          clear hd hf
          rcases hor with h1 | ⟨h1, h2⟩
          all_goals
            go_wp2
            go_ret
            exact ⟨ret_bool (HF.out.symm.trans HR.out), rfl⟩
      · have e : t.take k = t := List.take_of_length_le (by omega)
        have HA' := HA.out
        rw [e] at HA'
        have HB := Lib.hid HA'
        clear HA HA' e
        go_wp2
        go_ret
        exact ⟨ret_bool (HB.out.symm.trans HR.out), rfl⟩
set_option maxHeartbeats 1000000 in
theorem refdigits_one (w : World) :
    Calls Tryd.prog 156 #[.string (bs [48])] w fun e w' => e = .returned (.bool true) ∧ w = w' := by
  go_enter Tryd.func156, Tryd.ntmps156
  go_wp2_with fail
  go_rounds 2
  go_ret
  exact ⟨rfl, rfl⟩
set_option maxHeartbeats 1000000 in
theorem refdigits_nil (w : World) :
    Calls Tryd.prog 156 #[.string (bs [])] w fun e w' => e = .returned (.bool false) ∧ w = w' := by
  go_enter Tryd.func156, Tryd.ntmps156
  go_wp2_with fail
  go_ret
  exact ⟨rfl, rfl⟩
set_option maxHeartbeats 1000000 in
theorem refdigits_minus (w : World) :
    Calls Tryd.prog 156 #[.string (bs [45])] w fun e w' => e = .returned (.bool false) ∧ w = w' := by
  go_enter Tryd.func156, Tryd.ntmps156
  go_wp2_with fail
  go_ret
  exact ⟨rfl, rfl⟩
set_option maxHeartbeats 1000000 in
theorem refdigits_minuszero (r : List UInt8) (hr : r.length + 2 ≤ 9223372036854775807) (w : World) :
    Calls Tryd.prog 156 #[.string (bs (45 :: 48 :: r))] w fun e w' => e = .returned (.bool false) ∧ w = w' := by
  cases r with
  | nil =>
    go_enter Tryd.func156, Tryd.ntmps156
    go_wp2_with fail
    go_ret
    exact ⟨rfl, rfl⟩
  | cons b r =>
    simp only [List.length_cons] at hr
    go_enter Tryd.func156, Tryd.ntmps156
    go_wp2_with fail
    go_ret
    exact ⟨rfl, rfl⟩
set_option maxHeartbeats 1000000 in
theorem refdigits_zero (b : UInt8) (r : List UInt8) (hr : r.length + 2 ≤ 9223372036854775807) (w : World) :
    Calls Tryd.prog 156 #[.string (bs (48 :: b :: r))] w fun e w' => e = .returned (.bool false) ∧ w = w' := by
  go_enter Tryd.func156, Tryd.ntmps156
  go_wp2_with fail
  go_ret
  exact ⟨rfl, rfl⟩

theorem refdigits_any (l : List UInt8) (hs : l.length ≤ 9223372036854775806) (w : World) :
    Calls Tryd.prog 156 #[.string (bs l)] w fun e w' => e = .returned (.bool (digL l)) ∧ w = w' := by
  have hne : ∀ (a : UInt8) (neg : Bool) (r : List UInt8), a ≠ 48 → digT (a :: r) neg = (a :: r).all isDig := fun a neg r ha => by
    unfold digT
    rw [List.head?_cons, show ((some a : Option UInt8) == some 48) = false by simpa using ha]
    simp
  cases l with
  | nil => exact refdigits_nil w
  | cons a l =>
    simp only [List.length_cons] at hs
    by_cases hm : a = 45
    · subst hm
      have e : digL (45 :: l) = digT l true := by simp [digL, restL, negL]
      rw [e]
      cases l with
      | nil => exact refdigits_minus w
      | cons b r =>
        simp only [List.length_cons] at hs
        by_cases hb : b = 48
        · subst hb
          rw [show digT (48 :: r) true = false by simp [digT]]
          exact refdigits_minuszero r (by omega) w
        · rw [hne b true r hb]
          exact refdigits_neg b r (by omega) (by simpa using hb) _ rfl w
    · have hm' : (a == 45) = false := by simpa using hm
      have hn : negL (a :: l) = false := by simp [negL, hm]
      have e : digL (a :: l) = digT (a :: l) false := by simp [digL, restL, hn]
      rw [e]
      by_cases ha : a = 48
      · subst ha
        cases l with
        | nil => exact refdigits_one w
        | cons b r =>
          simp only [List.length_cons] at hs
          rw [show digT (48 :: b :: r) false = false by simp [digT]]
          exact refdigits_zero b r (by omega) w
      · rw [hne a false l ha]
        exact refdigits_pos a l (by omega) (by simpa using ha) hm' _ rfl w
end Go.Proofs.YtphhgdgamnogpaaDoor
