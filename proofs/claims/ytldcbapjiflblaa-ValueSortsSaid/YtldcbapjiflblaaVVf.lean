/-
  The laws of layer 5 (value) walked, but for ValueSorts: each returns true, whatever it is given. Texts of at most 2^63 - 2 bytes.
-/
import Derived.Test.YtldcbapjiflblaaVVe
namespace Go.Proofs.Ytldcbapjiflblaa
open Go.RowKit
attribute [local go_sem] Later.cell Later.frozen
theorem vconst : vParse [45, 51] = (1, -3, 0) := by decide
set_option maxHeartbeats 2000000 in
theorem works5 (w : World) :
  Calls Try.prog 9 #[] w fun e w' => e = .returned (.bool true) ∧ Below w.heap.size w w' := by
 have HV := Lib.hid (vprint_any 2 0 (by decide) (by decide))
 rw [show vTxt 2 0 = [63] by decide, show vErr 2 0 = 0 by decide] at HV
 go_enter Try.func9, Try.ntmps9
 go_wp2_with (fail)
 refine (HV.out _).mono ?_
 rintro e w1 ⟨rfl, hb1⟩
 obtain ⟨hc1, hf1⟩ := bcell hb1
 have hz1 := hb1.size
 try simp at hz1
 go_wp2_with (fail)
 refine (vparse_of [45, 51] _ _ _ (by decide) vconst _).mono ?_
 rintro e w2 ⟨rfl, hb2⟩
 obtain ⟨hc2, hf2⟩ := bcell hb2
 have hz2 := hb2.size
 try simp at hz2
 go_wp2
 go_ret
 exact ⟨rfl, bel⟩
end Go.Proofs.Ytldcbapjiflblaa
