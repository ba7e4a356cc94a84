/-
  The walks of layer 1 (line): how many runes a text has, in the program and in its reference; whether two lists of texts are the same. No conditions.
-/
import Derived.Test.YtphhgdgamnogpaaDoorLineP
import Derived.Test.YtphhgdgamnogpaaDoorLayL
import Derived.Laws.RangeAny
import Derived.WalkKit
namespace Go.Proofs.YtphhgdgamnogpaaDoor
open Go.RowKit Go.Lib

theorem lnext_at (l : List UInt8) (p : Nat) (hp : p < l.length) (w : World) (ty : TypeId) :
    (Instr.next (.pointer (some ⟨w.heap.size, 0, none⟩)) true ty).run Tryd.prog (w.iter (bs l) p) = .ok (.tuple #[.bool true, .int .i64 p, .int .i32 ((oneAt l p).1 : Nat)]) (w.iter (bs l) (p + (oneAt l p).2)) := by
  have h := run_next_any (P := Tryd.prog) w (bs l) p ty (by rw [bs_size]; exact hp)
  rw [← decodeL_drop] at h
  have e : (bs l).data.toList = l := by simp [bs]
  rw [e] at h
  exact h
theorem liter_below (w : World) (s : ByteArray) (p : Nat) : Below w.heap.size w (w.iter s p) := (Below.refl _ _).alloc (Nat.le_refl _) _

theorem hasprefix_any (l p : List UInt8) (w : World) :
    Calls Tryd.prog 131 #[.string (bs l), .string (bs p)] w fun e w' => e = .returned (.bool (hasPrefix l p)) ∧ w = w' := by
  have h := Any.strings_HasPrefix Tryd.laysHasPrefix (bs l) (bs p) w
  have e : ∀ l, (bs l).data.toList = l := fun l => by simp [bs]
  rw [e, e] at h
  exact h.mono fun _ _ ⟨a, b⟩ => ⟨a, b.symm⟩

set_option maxRecDepth 100000 in
set_option maxHeartbeats 1000000 in
theorem rrunes_any (l : List UInt8) (hs : l.length ≤ 1000000) (w : World) :
    Calls Tryd.prog 100 #[.string (bs l)] w fun e w' => e = .returned (.tuple #[.int .i64 ((runesN l).1 : Nat), .bool (runesN l).2]) ∧ w = w' := by
  obtain ⟨R, hR⟩ : ∃ R, runesN l = R := ⟨_, rfl⟩
  rw [hR]
  have HR := Lib.hid ((runesFrom_start l).trans hR)
  clear hR
  go_enter Tryd.func100, Tryd.ntmps100
  go_wp2
  go_loop [4, 5] (fun n i => ∃ p k : Nat, p ≤ l.length ∧ k ≤ p ∧ i = .int .i64 p ∧ n = .int .i64 k ∧ runesFrom l p k = R) (fun _ i => l.length - (RowKit.intOf i).toNat)
  case atStart => exact ⟨0, 0, Nat.zero_le _, Nat.le_refl _, rfl, rfl, HR.out⟩
  case round =>
    obtain ⟨p, k, hp, hk, rfl, rfl, hr⟩ := hrel
    by_cases hlt : p < l.length
    · have hb := one_bounds l p hlt
      rw [runesFrom_step l p k hlt] at hr
      have HC := Lib.hid (size_any l p hlt (by omega))
      have hg := sizeAt_good l p
      obtain ⟨D, hD⟩ : ∃ D, sizeAt l p = D := ⟨_, rfl⟩
      obtain ⟨e, he⟩ : ∃ e, (oneAt l p).2 = e := ⟨_, rfl⟩
      rw [hD] at HC hr hg
      rw [he] at hr hg hb
      clear hD he
      by_cases h0 : D = 0
      · rw [if_pos h0] at hr
        have HS := Lib.hid hr
        subst h0
        clear hr hg
        go_wp2_with fail
        refine (HC.out _).mono ?_
        rintro e w1 ⟨rfl, rfl⟩
        go_wp2_with fail
        go_ret2
        rw [← HS.out]
        exact ⟨rfl, rfl⟩
      · rw [if_neg h0] at hr
        have HS := Lib.hid hr
        have hde := hg h0
        subst hde
        have h1 : ((D : Int) == 0) = false := by simp; omega
        clear hr hg h0
        go_wp2_with fail
        refine (HC.out _).mono ?_
        rintro e w1 ⟨rfl, rfl⟩
        go_wp2_with fail
        go_round
        case rel => exact ⟨p + D, k + 1, hb.2, by omega, by go_num, by go_num, HS.out⟩
        case measure => simp [RowKit.intOf]; omega
    · rw [runesFrom_end l p k (by omega)] at hr
      have HS := Lib.hid hr
      clear hr
      go_wp2
      go_ret2
      rw [← HS.out]
      exact ⟨rfl, rfl⟩

set_option maxRecDepth 100000 in
set_option maxHeartbeats 2000000 in
theorem lrunes_any (l : List UInt8) (hs : l.length ≤ 1000000) (w : World) :
    Calls Tryd.prog 95 #[.string (bs l)] w fun e w' => e = .returned (.tuple #[.int .i64 ((runesN l).1 : Nat), .bool (runesN l).2]) ∧ Below w.heap.size w w' := by
  obtain ⟨R, hR⟩ : ∃ R, runesN l = R := ⟨_, rfl⟩
  rw [hR]
  have HR := Lib.hid ((runesFrom_start l).trans hR)
  clear hR
  go_enter Tryd.func95, Tryd.ntmps95
  go_wp2
  go_loopw [4] (fun i wr => ∃ p k : Nat, p ≤ l.length ∧ k ≤ p ∧ i = .int .i64 k ∧ wr = w.iter (bs l) p ∧ runesFrom l p k = R)
    (fun _ wr => l.length - wr.iterPos w.heap.size)
  case atStart => exact ⟨0, 0, Nat.zero_le _, Nat.le_refl _, rfl, rfl, HR.out⟩
  case round =>
    obtain ⟨p, k, hp, hk, rfl, rfl, hr⟩ := hrel
    by_cases hlt : p < l.length
    · have hb := one_bounds l p hlt
      rw [runesFrom_step l p k hlt] at hr
      have hnx := lnext_at l p hlt w
      have hm := mark_width l p hlt
      have hg := sizeAt_good l p
      have HP := Lib.hid (hasprefix_any ((l.drop p).take (l.length - p)) [239, 191, 189])
      rw [show hasPrefix ((l.drop p).take (l.length - p)) [239, 191, 189] = hasPrefix (l.drop p) [239, 191, 189] by rw [List.take_of_length_le (by rw [List.length_drop]; omega)]] at HP
      have hz : (oneAt l p).1 ≠ 65533 → sizeAt l p ≠ 0 := fun h => by
        unfold sizeAt szD
        rw [if_neg (fun x => h x.1)]
        omega
      have hle : (oneAt l p).1 ≤ 1114111 := decodeL_rune _
      obtain ⟨S, hS⟩ : ∃ S, sizeAt l p = S := ⟨_, rfl⟩
      obtain ⟨D, hD⟩ : ∃ D, oneAt l p = D := ⟨_, rfl⟩
      rw [hS] at hm hg hr hz
      rw [hD] at hm hg hr hb hnx hz hle
      clear hS hD
      have HR2 := Lib.hid hr
      clear hr
      by_cases h3 : D.1 = 65533
      · have hp3 := hm h3
        rw [hp3] at HP
        have e1 : ((D.1 : Int) == 65533) = true := by simp [h3]
        clear hp3 hm hz
        by_cases h0 : S = 0
        · have HS := HR2.out
          rw [if_pos h0] at HS
          have HS2 := Lib.hid HS
          subst h0
          clear HS h3
          simp only [decide_true, Bool.not_true] at HP
          go_wp2_with fail
          refine (HP.out _).mono ?_
          rintro e w1 ⟨rfl, rfl⟩
          go_wp2_with fail
          go_ret2
          rw [← HS2.out]
          exact ⟨rfl, liter_below _ _ _⟩
        · have HS := HR2.out
          rw [if_neg h0] at HS
          have HS2 := Lib.hid HS
          have hd : decide (S = 0) = false := decide_eq_false h0
          rw [hd] at HP
          clear HS h3 h0 hd
          simp only [Bool.not_false] at HP
          go_wp2_with fail
          refine (HP.out _).mono ?_
          rintro e w1 ⟨rfl, rfl⟩
          go_wp2_with fail
          go_roundw
          case rel => exact ⟨p + D.2, k + 1, hb.2, by omega, by go_num, rfl, HS2.out⟩
          case measure => simp; omega
      · have HS := HR2.out
        rw [if_neg (hz h3)] at HS
        have HS2 := Lib.hid HS
        have e1 : ((D.1 : Int) == 65533) = false := by simp; omega
        clear HS hm hz hg h3
        go_wp2_with fail
        go_roundw
        case rel => exact ⟨p + D.2, k + 1, hb.2, by omega, by go_num, rfl, HS2.out⟩
        case measure => simp; omega
    · have hnx := fun ty => run_next_end (P := Tryd.prog) w (bs l) p ty (by rw [bs_size]; exact hlt)
      rw [runesFrom_end l p k (by omega)] at hr
      have HS := Lib.hid hr
      clear hr
      go_wp2_with fail
      go_ret2
      rw [← HS.out]
      exact ⟨rfl, liter_below _ _ _⟩
end Go.Proofs.YtphhgdgamnogpaaDoor
