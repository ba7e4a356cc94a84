/-
  Layer 18 (bits) in plain words: a set of small numbers as words of 64 bits; no program in sight. No conditions.
-/
import Derived.Test.YtldcbapjiflblaaDoorPPa
import Derived.Test.YtldcbapjiflblaaDoorPxPtQ
import Derived.Lib.TrailingZeros
namespace Go.Proofs.YtldcbapjiflblaaDoor
open Go.Lib
def hasB (W : List Nat) (n : Nat) : Bool := (W.getD (n / 64) 0).testBit (n % 64)
def putB (W : List Nat) (n : Nat) : List Nat := W.set (n / 64) (W.getD (n / 64) 0 ||| 2 ^ (n % 64))
theorem putB_len (W : List Nat) (n : Nat) : (putB W n).length = W.length := by simp [putB]
theorem has_put (W : List Nat) (n m : Nat) (hn : n / 64 < W.length) : hasB (putB W n) m = (hasB W m || decide (m = n)) := by
 unfold hasB putB
 by_cases h : m / 64 = n / 64
 ·rw [h, show (W.set (n / 64) (W.getD (n / 64) 0 ||| 2 ^ (n % 64))).getD (n / 64) 0 = W.getD (n / 64) 0 ||| 2 ^ (n % 64) by simp [hn], Nat.testBit_or, Nat.testBit_two_pow]
  congr 1
  by_cases e : n % 64 = m % 64
  ·rw [decide_eq_true e, decide_eq_true (show m = n by omega)]
  ·rw [decide_eq_false e, decide_eq_false (fun e2 => e (by rw [e2]))]
 ·rw [decide_eq_false (fun e => h (by rw [e])), Bool.or_false]
  congr 1
  simp only [List.getD_eq_getElem?_getD]
  rw [List.getElem?_set_ne (fun e => h e.symm)]
theorem putB_small (W : List Nat) (n : Nat) (h : ∀ x ∈ W, x < 18446744073709551616) : ∀ x ∈ putB W n, x < 18446744073709551616 := by
 intro x hx
 unfold putB at hx
 rcases List.mem_or_eq_of_mem_set hx with e | e
 ·exact h x e
 ·rw [e]
  have h1 : W.getD (n / 64) 0 < 2 ^ 64 := by
   by_cases hl : n / 64 < W.length
   ·rw [show W.getD (n / 64) 0 = W[n / 64] by simp [hl]]
    exact h _ (List.getElem_mem hl)
   ·rw [show W.getD (n / 64) 0 = 0 by simp [List.getElem?_eq_none (Nat.le_of_not_lt hl)]]
    decide
  have h2 : 2 ^ (n % 64) < 2 ^ 64 := Nat.pow_lt_pow_right (by decide) (Nat.mod_lt _ (by decide))
  exact Nat.or_lt_two_pow h1 h2
def onesB (x : Nat) : List Nat := (List.range 64).filter fun j => x.testBit j
theorem ones_zero : onesB 0 = [] := by
 unfold onesB
 rw [List.filter_eq_nil_iff]
 intro a _
 simp
theorem ones_sorted (x : Nat) : (onesB x).Pairwise (· < ·) := List.pairwise_lt_range.sublist (List.filter_sublist ..)
theorem mem_ones (x j : Nat) : j ∈ onesB x ↔ j < 64 ∧ x.testBit j = true := by simp [onesB]
theorem ctz_bits (x : Nat) (h0 : x ≠ 0) (hx : x < 2 ^ 64) : ctz 64 x < 64 ∧ x.testBit (ctz 64 x) = true ∧ (∀ j, j < ctz 64 x → x.testBit j = false) ∧ ∀ j, (x &&& (x - 1)).testBit j = (x.testBit j && decide (j ≠ ctz 64 x)) := by
 have e : ctz 64 x = ctzFrom 64 x := by unfold ctz; rw [if_neg h0]
 rw [e]
 obtain ⟨m, hm, hk⟩ := ctzFrom_spec 64 x (Nat.pos_of_ne_zero h0) hx
 obtain ⟨k, hkk⟩ : ∃ k, ctzFrom 64 x = k := ⟨_, rfl⟩
 rw [hkk] at hm hk ⊢
 clear hkk e
 have hp : 0 < 2 ^ k := Nat.pow_pos (by decide)
 have b1 : ∀ j, x.testBit j = if j < k then false else (2 * m + 1).testBit (j - k) := fun j => by
  rw [hm, Nat.testBit_two_pow_mul]
  by_cases h : j < k
  ·rw [if_pos h, decide_eq_false (by omega), Bool.false_and]
  ·rw [if_neg h, decide_eq_true (by omega), Bool.true_and]
 have e1 : x - 1 = 2 ^ k * (2 * m) + (2 ^ k - 1) := by
  rw [hm, Nat.mul_add, Nat.mul_one]
  omega
 have b2 : ∀ j, (x - 1).testBit j = if j < k then (2 ^ k - 1).testBit j else (2 * m).testBit (j - k) := fun j => by
  rw [e1, Nat.testBit_two_pow_mul_add _ (by omega)]
 have b0 : (2 * m + 1).testBit 0 = true := by
  rw [Nat.testBit_zero]
  exact decide_eq_true (by omega)
 have c0 : (2 * m).testBit 0 = false := by
  rw [Nat.testBit_zero]
  exact decide_eq_false (by omega)
 have bs : ∀ t, (2 * m + 1).testBit (t + 1) = (2 * m).testBit (t + 1) := fun t => by
  rw [Nat.testBit_succ, Nat.testBit_succ, show (2 * m + 1) / 2 = m by omega, show 2 * m / 2 = m by omega]
 refine ⟨hk, by rw [b1, if_neg (Nat.lt_irrefl _), Nat.sub_self]; exact b0, fun j hj => by rw [b1, if_pos hj], fun j => ?_⟩
 rw [Nat.testBit_and, b1, b2]
 by_cases h : j < k
 ·rw [if_pos h, Bool.false_and, Bool.false_and]
 ·rw [if_neg h, if_neg h]
  by_cases h2 : j = k
  ·rw [h2, Nat.sub_self, c0, Bool.and_false, decide_eq_false (fun q => q rfl), Bool.and_false]
  ·obtain ⟨t, ht⟩ : ∃ t, j - k = t + 1 := ⟨j - k - 1, by omega⟩
   rw [ht, bs, Bool.and_self, decide_eq_true h2, Bool.and_true]
theorem ones_next (x : Nat) (h0 : x ≠ 0) (hx : x < 2 ^ 64) : onesB x = ctz 64 x :: onesB (x &&& (x - 1)) := by
 obtain ⟨h1, h2, h3, h4⟩ := ctz_bits x h0 hx
 refine pw_ext (fun _ _ h h' => Nat.lt_asymm h h') _ _ (ones_sorted x) ?_ fun y => ?_
 ·rw [List.pairwise_cons]
  refine ⟨fun y hy => ?_, ones_sorted _⟩
  rw [mem_ones, h4] at hy
  simp only [Bool.and_eq_true, decide_eq_true_eq] at hy
  rcases Nat.lt_or_ge y (ctz 64 x) with h | h
  ·rw [h3 y h] at hy
   exact absurd hy.2.1 (by decide)
  ·omega
 ·rw [List.mem_cons, mem_ones, mem_ones, h4]
  simp only [Bool.and_eq_true, decide_eq_true_eq]
  by_cases e : y = ctz 64 x
  ·subst e
   exact ⟨fun _ => .inl rfl, fun _ => ⟨h1, h2⟩⟩
  ·exact ⟨fun h => .inr ⟨h.1, h.2, e⟩, fun h => h.elim (fun q => absurd q e) fun q => ⟨q.1, q.2.1⟩⟩
theorem and_pred_lt (x : Nat) (h0 : x ≠ 0) : x &&& (x - 1) < x := Nat.lt_of_le_of_lt Nat.and_le_right (by omega)
def allB (W : List Nat) : List Nat := (List.range (W.length * 64)).filter (hasB W)
def upB (W : List Nat) (k : Nat) : List Nat := (List.range (k * 64)).filter (hasB W)
theorem up_next (W : List Nat) (k : Nat) : upB W (k + 1) = upB W k ++ (onesB (W.getD k 0)).map (k * 64 + ·) := by
 unfold upB onesB
 have e : List.range ((k + 1) * 64) = List.range (k * 64) ++ (List.range 64).map (k * 64 + ·) := by
  rw [show (k + 1) * 64 = k * 64 + 64 by omega, List.range_add]
 rw [e, List.filter_append, List.filter_map]
 congr 2
 refine List.filter_congr fun j hj => ?_
 have hj' : j < 64 := List.mem_range.1 hj
 show hasB W (k * 64 + j) = _
 unfold hasB
 rw [show (k * 64 + j) / 64 = k by omega, show (k * 64 + j) % 64 = j by omega]
theorem up_zero (W : List Nat) : upB W 0 = [] := rfl
theorem all_up (W : List Nat) : allB W = upB W W.length := rfl
theorem mem_all (W : List Nat) (n : Nat) : n ∈ allB W ↔ n < W.length * 64 ∧ hasB W n = true := by simp [allB]
theorem all_sorted (W : List Nat) : (allB W).Pairwise (· < ·) := List.pairwise_lt_range.sublist (List.filter_sublist ..)
theorem ones_len (x : Nat) : (onesB x).length ≤ 64 := by
 have := List.length_filter_le (fun j => x.testBit j) (List.range 64)
 rwa [List.length_range] at this
theorem all_len (W : List Nat) : (allB W).length ≤ W.length * 64 := by
 have := List.length_filter_le (hasB W) (List.range (W.length * 64))
 rwa [List.length_range] at this
def noB : List Nat := [0, 0, 0, 0, 0, 0, 0, 0]
theorem has_no (n : Nat) : hasB noB n = false := by
 unfold hasB
 have e : noB.getD (n / 64) 0 = 0 := by
  have : n / 64 = 0 ∨ n / 64 = 1 ∨ n / 64 = 2 ∨ n / 64 = 3 ∨ n / 64 = 4 ∨ n / 64 = 5 ∨ n / 64 = 6 ∨ n / 64 = 7 ∨ 8 ≤ n / 64 := by omega
  rcases this with h | h | h | h | h | h | h | h | h
  all_goals first
   | (rw [h]; rfl)
   | (rw [List.getD_eq_getElem?_getD, List.getElem?_eq_none (by show 8 ≤ _; exact h)]; rfl)
 rw [e]
 simp
end Go.Proofs.YtldcbapjiflblaaDoor
