/-
  The statements LineOf and LineJoins of layer 1 (line), walked. No conditions but that internal/bytealg.MaxLen holds a number.
-/
import Derived.Test.YtphhgdgamnogpaaDoorLineO
namespace Go.Proofs.YtphhgdgamnogpaaDoor
open Go.RowKit Go.Lib

theorem ex_of : ofL [97, 10, 10, 98] = ([[97], [], [98]], 0, 0) := by decide +kernel
theorem ex_runes : runesN [97, 195, 169] = (2, true) := by decide +kernel
theorem of_ok (x : List UInt8) (h : (ofL x).2.2 = 0) : (ofL x).1 = linesL x := by
  unfold ofL at h ⊢
  split at h
  · simp at h
  · rename_i hx
    rw [if_neg hx]
    exact (resGo_full _ _ _ h).1
theorem of_err (x : List UInt8) (h : (ofL x).2.2 ≠ 0) : (ofL x).1 = [] := by
  unfold ofL at h ⊢
  split at h
  · rename_i hx
    rw [if_pos hx]
  · rename_i hx
    rw [if_neg hx]
    exact (resGo_bad _ _ _ h).1
theorem resGo_le (full : List (List UInt8)) : ∀ (n : Nat) (r : List (List UInt8)), (resGo full n r).2.1 ≤ n + r.length ∧ (resGo full n r).2.2 ≤ 5 ∧ ((resGo full n r).1 = full ∨ (resGo full n r).1 = [])
  | n, [] => ⟨Nat.zero_le _, Nat.zero_le _, .inl rfl⟩
  | n, x :: r => by
    unfold resGo
    split
    · have := resGo_le full (n + 1) r
      exact ⟨by simp only [List.length_cons]; omega, this.2⟩
    · exact ⟨by simp only [List.length_cons]; omega, by simp, .inr rfl⟩
theorem of_le (x : List UInt8) (hx : x.length ≤ 65537) : (ofL x).2.1 ≤ 65539 ∧ (ofL x).2.2 ≤ 6 ∧ (ofL x).1.length ≤ 65538 := by
  unfold ofL
  split
  · exact ⟨by simp, by simp, by simp⟩
  · have h := resGo_le (linesL x) 0 (linesL x)
    have hl := lines_len x []
    have e : linesL x = linesAux [] x := rfl
    rw [e] at h ⊢
    refine ⟨by omega, by omega, ?_⟩
    rcases h.2.2 with h2 | h2
    · rw [h2]; omega
    · rw [h2]; simp
theorem feed_take (M : List (List UInt8)) (k : Nat) (hk : k < M.length) : feedL (M.take (k + 1)) = feedL (M.take k) ++ (M.getD k [] ++ [10]) := by
  have e : M.take (k + 1) = M.take k ++ [M.getD k []] := by
    rw [List.take_add_one]
    simp [hk]
  rw [e]
  unfold feedL
  rw [List.flatMap_append]
  simp
theorem feed_le : ∀ (M : List (List UInt8)) (k : Nat), (feedL (M.take k)).length ≤ (feedL M).length
  | [], k => by simp
  | x :: M, 0 => by simp [feedL]
  | x :: M, k + 1 => by
    have h := feed_le M k
    have e : ∀ x M, feedL (x :: M) = x ++ [10] ++ feedL M := fun x M => by simp [feedL]
    rw [List.take_succ_cons, e, e, List.length_append, List.length_append (bs := feedL M)]
    omega

end Go.Proofs.YtphhgdgamnogpaaDoor
