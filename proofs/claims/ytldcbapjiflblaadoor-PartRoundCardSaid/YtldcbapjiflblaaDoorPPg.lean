/-
  deemsterbase's HasInt, walked. No conditions.
-/
import Derived.Test.YtldcbapjiflblaaDoorPPd
namespace Go.Proofs.YtldcbapjiflblaaDoor
open Go.RowKit Go.Lib
theorem has_step (L : List Int) (i : Nat) (n : Int) (R : Bool) (hi : i < L.length) (h : (L.drop i).contains n = R) : (if L.getD i 0 = n then true else (L.drop (i + 1)).contains n) = R := by
 have e1 : L.drop i = L.getD i 0 :: L.drop (i + 1) := by
  rw [List.drop_eq_getElem_cons hi]
  simp [hi]
 rw [e1, List.contains_cons] at h
 rw [← h]
 by_cases hc : L.getD i 0 = n
 ·rw [if_pos hc, hc, beq_self_eq_true, Bool.true_or]
 ·rw [if_neg hc, beq_eq_false_iff_ne.2 (fun e => hc e.symm), Bool.false_or]
set_option maxRecDepth 100000 in
set_option maxHeartbeats 1000000 in
theorem hasint_any {w : World} {v : Value} {L : List Int} (n : Int) (hv : IntsS w v L) (hL : L.length ≤ 4611686018427387904) :
  Calls Tryd.prog 22 #[v, .int .i64 n] w fun e w' => e = .returned (.bool (L.contains n)) ∧ Below w.heap.size w w' := by
 obtain ⟨p, c, rfl, hp⟩ := hv
 have HP := Lib.hid hp
 clear hp
 obtain ⟨R, hR⟩ : ∃ R, L.contains n = R := ⟨_, rfl⟩
 rw [hR]
 have HR := Lib.hid hR
 clear hR
 go_enter Tryd.func22, Tryd.ntmps22
 go_wp2
 go_loopw [5] (fun i wr => ∃ k : Nat, k ≤ L.length ∧ i = .int .i64 k ∧ wr = w ∧ (L.drop k).contains n = R) (fun i _ => L.length - (RowKit.intOf i).toNat)
 case atStart => exact ⟨0, Nat.zero_le _, rfl, rfl, HR.out⟩
 case round =>
  obtain ⟨k, hk, rfl, rfl, hr⟩ := hrel
  by_cases hlt : k < L.length
  ·obtain ⟨g, rfl, h1⟩ := HP.out k hlt
   have HS := Lib.hid (has_step L k n R hlt hr)
   clear hr
   generalize L.getD k 0 = x at *
   by_cases hxy : x = n
   ·have H1 := HS.out
    rw [if_pos hxy] at H1
    have H2 := Lib.hid H1
    subst hxy
    clear H1 HS
    go_wp2_with fail
    go_ret
    exact ⟨by rw [← H2.out]; rfl, Below.refl _ _⟩
   ·have H1 := HS.out
    rw [if_neg hxy] at H1
    have H2 := Lib.hid H1
    clear H1 HS
    go_wp2_with fail
    go_roundw
    case rel => exact ⟨k + 1, by omega, by go_num, by trivial, H2.out⟩
    case measure => simp [RowKit.intOf]; omega
  ·have e1 : L.drop k = [] := List.drop_eq_nil_of_le (by omega)
   rw [e1] at hr
   have H2 := Lib.hid hr
   clear hr e1
   go_wp2_with fail
   go_ret
   exact ⟨by rw [← H2.out]; rfl, Below.refl _ _⟩
end Go.Proofs.YtldcbapjiflblaaDoor
