/-
  Layer 7 (event), the reference's Parse: what its loop over the kinds finds. Plain.
-/
import Derived.Test.YtmgchjddpmmglaaGreatDoorQAd
namespace Go.Proofs.YtmgchjddpmmglaaGreatDoor
def seenK (l : List UInt8) (i : Nat) : Int := if kindL l < i then kindL l else 0
theorem kindL_eq (l : List UInt8) (i : Nat) (h1 : 1 ≤ i) (h7 : i < 7) : kindL l = i ↔ kindW i = l := by
 constructor
 ·intro h
  unfold kindL at h
  repeat' split at h
  all_goals
   first
    | (rename_i he; subst he; have : i = 1 ∨ i = 2 ∨ i = 3 ∨ i = 4 ∨ i = 5 ∨ i = 6 := by omega
       rcases this with rfl | rfl | rfl | rfl | rfl | rfl <;> first | rfl | (exfalso; revert h; decide))
    | (exfalso; omega)
 ·intro h
  have := (kind_word i (by omega) (by omega)).2
  rw [← h]
  exact this
theorem seenK_one (l : List UInt8) : seenK l 1 = 0 := by
 have := (kindL_range l).1
 unfold seenK
 split <;> omega
theorem seenK_hit (l : List UInt8) (i : Nat) (h1 : 1 ≤ i) (h7 : i < 7) (h : kindW i = l) : seenK l (i + 1) = i := by
 have := (kindL_eq l i h1 h7).2 h
 unfold seenK
 rw [this, if_pos (by omega)]
theorem seenK_miss (l : List UInt8) (i : Nat) (h1 : 1 ≤ i) (h7 : i < 7) (h : kindW i ≠ l) : seenK l (i + 1) = seenK l i := by
 have hn : kindL l ≠ i := fun h2 => h ((kindL_eq l i h1 h7).1 h2)
 unfold seenK
 by_cases h3 : kindL l < i
 ·rw [if_pos h3, if_pos (by omega)]
 ·rw [if_neg h3, if_neg (by omega)]
theorem seenK_end (l : List UInt8) : seenK l 7 = kindL l := by
 have := (kindL_range l).2
 unfold seenK
 rw [if_pos (by omega)]
end Go.Proofs.YtmgchjddpmmglaaGreatDoor
