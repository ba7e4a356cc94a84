/-
  Which values may be, in plain words. No conditions.
-/
import Derived.Test.YtphhgdgamnogpaaDoorBase
namespace Go.Proofs.YtphhgdgamnogpaaDoor

/-- May a value be? -/
def mayV (k n : Int) : Bool := k == 1 || ((k == 0 || k == 2) && n == 0)
/-- The ways in which a value may be, or not. -/
theorem may_cases (k n : Int) : (k = 1 ∧ mayV k n = true) ∨ (k = 0 ∧ n = 0 ∧ mayV k n = true) ∨ (k = 2 ∧ n = 0 ∧ mayV k n = true) ∨
    (k = 0 ∧ (n == 0) = false ∧ (0 == n) = false ∧ mayV k n = false) ∨ (k = 2 ∧ (n == 0) = false ∧ (0 == n) = false ∧ mayV k n = false) ∨
    ((k == 0) = false ∧ (0 == k) = false ∧ (k == 1) = false ∧ (k == 2) = false ∧ mayV k n = false) := by
  by_cases h1 : k = 1
  · exact .inl ⟨h1, by simp [mayV, h1]⟩
  by_cases h0 : k = 0
  · by_cases hn : n = 0
    · exact .inr (.inl ⟨h0, hn, by simp [mayV, h0, hn]⟩)
    · exact .inr (.inr (.inr (.inl ⟨h0, by simpa using hn, by simpa using fun h => hn h.symm, by simp [mayV, h0, hn]⟩)))
  by_cases h2 : k = 2
  · by_cases hn : n = 0
    · exact .inr (.inr (.inl ⟨h2, hn, by simp [mayV, h2, hn]⟩))
    · exact .inr (.inr (.inr (.inr (.inl ⟨h2, by simpa using hn, by simpa using fun h => hn h.symm, by simp [mayV, h2, hn]⟩))))
  · exact .inr (.inr (.inr (.inr (.inr ⟨by simpa using h0, by simpa using fun h => h0 h.symm, by simpa using h1, by simpa using h2, by simp [mayV, h0, h1, h2]⟩))))

end Go.Proofs.YtphhgdgamnogpaaDoor
