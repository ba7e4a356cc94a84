/-
  Layer 5 (value), in plain words: reading undoes printing. No conditions.
-/
import Derived.Test.YtphhgdgamnogpaaDoorValW
namespace Go.Proofs.YtphhgdgamnogpaaDoor
open Go.RowKit

theorem val_back (k n : Int) (h0 : -9223372036854775808 ≤ n) (h1 : n ≤ 9223372036854775807) (hm : mayV k n = true) : vParse (vTxt k n) = (k, n, 0) := by
  rcases may_cases k n with ⟨rfl, h⟩ | ⟨rfl, rfl, h⟩ | ⟨rfl, rfl, h⟩ | h'
  · have e1 : vTxt 1 n = printL n := by simp [vTxt, h]
    have hp := parse_print n h0 h1
    have hd := digL_print n
    have n1 : printL n ≠ [110, 105, 108] := fun e => by rw [e] at hd; exact absurd hd (by decide)
    have n2 : printL n ≠ [63] := fun e => by rw [e] at hd; exact absurd hd (by decide)
    rw [e1]; simp [vParse, n1, n2, hp]
  · rw [show vTxt 0 0 = [110, 105, 108] by simp [vTxt, h]]; simp [vParse]
  · rw [show vTxt 2 0 = [63] by simp [vTxt, h]]; simp [vParse]
  · have h : mayV k n = false := by
      rcases h' with ⟨-, -, -, h⟩ | ⟨-, -, -, h⟩ | ⟨-, -, -, -, h⟩ <;> exact h
    rw [h] at hm; exact absurd hm (by decide)
theorem val_inj (k n k' n' : Int) (h0 : -9223372036854775808 ≤ n) (h1 : n ≤ 9223372036854775807) (h0' : -9223372036854775808 ≤ n') (h1' : n' ≤ 9223372036854775807)
    (hm : mayV k n = true) (hm' : mayV k' n' = true) (h : vTxt k n = vTxt k' n') : k = k' ∧ n = n' := by
  have a := val_back k n h0 h1 hm
  have b := val_back k' n' h0' h1' hm'
  rw [h, b] at a
  simp only [Prod.mk.injEq] at a
  exact ⟨a.1.symm, a.2.1.symm⟩
theorem txt_len (k n : Int) (h0 : -9223372036854775808 ≤ n) (h1 : n ≤ 9223372036854775807) : (vTxt k n).length ≤ 20 := by
  unfold vTxt
  split
  · split
    · exact print_len n h0 h1
    · split <;> simp
  · simp

end Go.Proofs.YtphhgdgamnogpaaDoor
