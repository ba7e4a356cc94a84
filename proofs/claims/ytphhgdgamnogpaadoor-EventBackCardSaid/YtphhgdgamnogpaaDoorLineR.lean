/-
  The walks of layer 1 (line): the runes ahead of a byte, and a text without blanks, in the program and in its reference; the statement LineRunes. No conditions but that unicode/utf8's two tables are as their initialisers lay them and that internal/bytealg.MaxLen holds a number.
-/
import Derived.Test.YtphhgdgamnogpaaDoorLineL
import Derived.Test.YtphhgdgamnogpaaDoorLineQ
import Derived.Test.YtphhgdgamnogpaaDoorLayT
namespace Go.Proofs.YtphhgdgamnogpaaDoor
open Go.RowKit Go.Lib

/-! ### the runes that begin ahead of a byte -/
def colGo : Nat → List UInt8 → Nat → Int → Nat
  | 0, _, _, _ => 0
  | f + 1, l, p, at' => if p < l.length ∧ (p : Int) < at' then 1 + colGo f l (p + (oneAt l p).2) at' else 0
def colN (l : List UInt8) (p : Nat) (at' : Int) : Nat := colGo (l.length - p) l p at'
theorem colGo_fuel (l : List UInt8) (at' : Int) : ∀ (f g p : Nat), l.length - p ≤ f → l.length - p ≤ g → colGo f l p at' = colGo g l p at'
  | 0, 0, _, _, _ => rfl
  | 0, g + 1, p, hf, _ => by
    unfold colGo
    rw [if_neg (by omega)]
  | f + 1, 0, p, _, hg => by
    unfold colGo
    rw [if_neg (by omega)]
  | f + 1, g + 1, p, hf, hg => by
    unfold colGo
    by_cases h : p < l.length ∧ (p : Int) < at'
    · have hb := one_bounds l p h.1
      rw [if_pos h, if_pos h, colGo_fuel l at' f g (p + (oneAt l p).2) (by omega) (by omega)]
    · rw [if_neg h, if_neg h]
theorem col_step (l : List UInt8) (p : Nat) (at' : Int) (hp : p < l.length) : colN l p at' = if (p : Int) < at' then 1 + colN l (p + (oneAt l p).2) at' else 0 := by
  have hb := one_bounds l p hp
  unfold colN
  obtain ⟨f, hf⟩ : ∃ f, l.length - p = f + 1 := ⟨l.length - p - 1, by omega⟩
  rw [hf]
  by_cases h : (p : Int) < at'
  · rw [if_pos h]
    show (if p < l.length ∧ (p : Int) < at' then _ else _) = _
    rw [if_pos ⟨hp, h⟩, colGo_fuel l at' f _ (p + (oneAt l p).2) (by omega) (Nat.le_refl _)]
  · rw [if_neg h]
    show (if p < l.length ∧ (p : Int) < at' then _ else _) = _
    rw [if_neg (fun x => h x.2)]
theorem col_end (l : List UInt8) (p : Nat) (at' : Int) (hp : l.length ≤ p) : colN l p at' = 0 := by
  unfold colN
  rw [show l.length - p = 0 by omega]
  rfl
theorem col_past (l : List UInt8) (p : Nat) (at' : Int) (h : at' ≤ (p : Int)) : colN l p at' = 0 := by
  by_cases hp : p < l.length
  · rw [col_step l p at' hp, if_neg (by omega)]
  · exact col_end l p at' (by omega)
/-- How many runes of a text begin ahead of a byte; 0 for a text that is no UTF-8. -/
def colT (l : List UInt8) (at' : Int) : Nat := if validD l then colN l 0 at' else 0
theorem valid_at (l : List UInt8) (p : Nat) (hp : p < l.length) (h : validD (l.drop p) = true) : sizeAt l p = (oneAt l p).2 ∧ validD (l.drop (p + (oneAt l p).2)) = true := by
  have hne : l.drop p ≠ [] := by
    intro e
    have := congrArg List.length e
    simp at this
    omega
  have hw := one_bounds l p hp
  rw [validD_step _ hne] at h
  split at h
  · simp at h
  · rename_i hc
    have hs : sizeAt l p = (oneAt l p).2 := by
      unfold sizeAt szD
      exact if_neg hc
    refine ⟨hs, ?_⟩
    rw [List.drop_drop] at h
    exact h

set_option maxRecDepth 100000 in
set_option maxHeartbeats 1000000 in
theorem rcolumn_any (l : List UInt8) (hs : l.length ≤ 1000000) (at' : Int) (w : World) :
    Calls Tryd.prog 102 #[.string (bs l), .int .i64 at'] w fun e w' => e = .returned (.int .i64 (colT l at' : Nat)) ∧ w = w' := by
  have HC := Lib.hid (rrunes_any l hs)
  have hv := runesN_snd l
  generalize runesN l = N at *
  obtain ⟨N1, N2⟩ := N
  simp only at HC hv
  subst hv
  by_cases hval : validD l = true
  · have e : colT l at' = colN l 0 at' := if_pos hval
    rw [e]
    obtain ⟨R, hR⟩ : ∃ R, colN l 0 at' = R := ⟨_, rfl⟩
    rw [hR]
    have HR := Lib.hid hR
    have HV := Lib.hid hval
    rw [hval] at HC
    clear e hval
    by_cases hneg : at' < 0
    · rw [col_past l 0 at' (by omega)] at hR
      have H2 := Lib.hid hR
      clear hR
      go_enter Tryd.func102, Tryd.ntmps102
      go_wp2_with fail
      refine (HC.out _).mono ?_
      rintro e w1 ⟨rfl, rfl⟩
      go_wp2_with fail
      go_ret
      rw [← H2.out]
      exact ⟨rfl, rfl⟩
    · have hneg' : 0 ≤ at' := by omega
      clear hR hneg
      go_enter Tryd.func102, Tryd.ntmps102
      go_wp2_with fail
      refine (HC.out _).mono ?_
      rintro e w1 ⟨rfl, rfl⟩
      go_wp2_with fail
      go_loop [7, 8] (fun n i => ∃ p k : Nat, p ≤ l.length ∧ k ≤ p ∧ i = .int .i64 p ∧ n = .int .i64 k ∧ validD (l.drop p) = true ∧ k + colN l p at' = R) (fun _ i => l.length - (RowKit.intOf i).toNat)
      case atStart => exact ⟨0, 0, Nat.zero_le _, Nat.le_refl _, rfl, rfl, HV.out, by rw [HR.out]; omega⟩
      case round =>
        obtain ⟨p, k, hp, hk, rfl, rfl, hv, hr⟩ := hrel
        by_cases hlt : p < l.length
        · have hb := one_bounds l p hlt
          obtain ⟨v1, v2⟩ := valid_at l p hlt hv
          have HZ := Lib.hid (size_any l p hlt (by omega))
          rw [col_step l p at' hlt] at hr
          rw [v1] at HZ
          obtain ⟨D, hD⟩ : ∃ D, (oneAt l p).2 = D := ⟨_, rfl⟩
          rw [hD] at hr hb HZ v2
          have HV2 := Lib.hid v2
          clear hD v1 v2 hv
          by_cases hat : (p : Int) < at'
          · rw [if_pos hat] at hr
            have H2 := Lib.hid hr
            clear hr
            go_wp2_with fail
            refine (HZ.out _).mono ?_
            rintro e w1 ⟨rfl, rfl⟩
            go_wp2_with fail
            go_round
            case rel => exact ⟨p + D, k + 1, hb.2, by omega, by go_num, by go_num, HV2.out, by have := H2.out; omega⟩
            case measure => simp [RowKit.intOf]; omega
          · rw [if_neg hat] at hr
            have H2 := Lib.hid hr
            have hat' : at' ≤ (p : Int) := by omega
            clear hr hat
            go_wp2_with fail
            go_ret
            rw [← H2.out]
            exact ⟨rfl, rfl⟩
        · rw [col_end l p at' (by omega)] at hr
          have HS := Lib.hid hr
          clear hr
          go_wp2_with fail
          go_ret
          rw [← HS.out]
          exact ⟨rfl, rfl⟩
  · have e : colT l at' = 0 := if_neg hval
    have hval' : validD l = false := by simpa using hval
    rw [e]
    rw [hval'] at HC
    clear e hval hval'
    go_enter Tryd.func102, Tryd.ntmps102
    go_wp2_with fail
    refine (HC.out _).mono ?_
    rintro e w1 ⟨rfl, rfl⟩
    go_wp2_with fail
    go_ret
    exact ⟨rfl, rfl⟩

/-! ### blanks -/
theorem strL_at (x : List UInt8) (h : 0 < x.length) : strL x = if blankB x[0] then strL (x.drop 1) else x := by
  cases x with
  | nil => simp at h
  | cons b t => exact strL_cons b t
theorem strR_at (x : List UInt8) (h : 0 < x.length) : strR x = if blankB x[x.length - 1] then strR (x.take (x.length - 1)) else x := by
  rcases snoc_cases x with h0 | ⟨t, b, rfl⟩
  · rw [h0] at h; simp at h
  · rw [strR_snoc]
    simp

end Go.Proofs.YtphhgdgamnogpaaDoor
