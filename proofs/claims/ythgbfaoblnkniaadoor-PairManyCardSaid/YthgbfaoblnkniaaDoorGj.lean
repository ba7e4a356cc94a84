/-
  Layer 10 (pair) in plain words: the lists of PairMany. No conditions.
  Layer 10 (pair): the statement PairMany. Conditions: unicode/utf8's two tables hold what their initialisers lay.
-/
import Derived.Test.YthgbfaoblnkniaaDoorGb
import Derived.Test.YthgbfaoblnkniaaDoorGi
import Derived.Test.YthgbfaoblnkniaaDoorGf
namespace Go.Proofs.YthgbfaoblnkniaaDoor
open Go.RowKit Go.Lib
def nmN (i : Nat) : List UInt8 := [UInt8.ofNat (if i < 26 then 97 + i else 39 + i)]
def sN (t i : Nat) : List UInt8 := if t = 0 then nmN i else [115]
def kN (t i : Nat) : List UInt8 := if t = 3 then nmN i else [120]
def oneN (t i : Nat) : List EventM :=
 if t = 2 then (if i = 0 then [(1, sN t i, [], 0, 0, 0)] else []) ++ [(2, sN t i, kN t i, 0, 0, 0)]
 else [(1, sN t i, [], 0, 0, 0), (2, sN t i, kN t i, 0, 0, 0), (4, sN t i, [], 0, 0, 0)]
def goN (t : Nat) : Nat → List EventM
 | 0 => []
 | n + 1 => goN t n ++ oneN t n
def endN (t : Nat) : List EventM := if t = 2 then [(6, [115], [], 0, 0, 0)] else []
def maxN (t : Nat) : Nat := if t = 0 ∨ t = 2 then 20 else 40
def manyN (t m : Nat) : List EventM := goN t (maxN t - 1 + m) ++ endN t
set_option maxRecDepth 100000 in
theorem many_all : ∀ t, t < 4 → ∀ m, m < 3 → (histP (manyN t m)).2.2 = (if m = 2 then 7 else 0) ∧ ((histP (manyN t m)).1.2.2.length = 0 ↔ m = 2) := by decide +kernel
end Go.Proofs.YthgbfaoblnkniaaDoor

namespace Go.Proofs.YthgbfaoblnkniaaDoor
open Go.RowKit Go.Lib Go.Maps Go.WideMaps
theorem ones_evcs (L : List EventM) : ∀ u ∈ evcs L, u.oneCell' = true := by
 intro u hu
 unfold evcs at hu
 rw [List.mem_flatMap] at hu
 obtain ⟨x, -, hx⟩ := hu
 simp [evc] at hx
 rcases hx with h | h | h | h | h | h <;> subst h <;> rfl
theorem own_empty' {w : World} {b B s : Nat} {t : TypeId} (h : w.heap[b]? = some (.cells #[] t (0, 0))) (hb : B ≤ b) : w.ownsRow B t s (.slice (some ⟨b, 0, none⟩) 0 0) 0 [] :=
 ⟨by simp, .inr ⟨b, 0, #[], rfl, hb, h, Nat.le_refl _, Nat.zero_le _, by simp, by simp⟩⟩
theorem evcs_app (A B : List EventM) : evcs (A ++ B) = evcs A ++ evcs B := by simp [evcs]
set_option maxRecDepth 100000 in
theorem many_short : ∀ t, t < 4 → ∀ m, m < 3 → (manyN t m).length ≤ 1000 ∧ ∀ x ∈ manyN t m, x.2.1.length ≤ 1000000 ∧ x.2.2.1.length ≤ 1000000 := by decide +kernel
theorem names_lit : ∃ nl : List UInt8, ({ data := #[97, 98, 99, 100, 101, 102, 103, 104, 105, 106, 107, 108, 109, 110, 111, 112, 113, 114, 115, 116, 117, 118, 119, 120, 121, 122, 65, 66, 67, 68, 69, 70, 71, 72, 73, 74, 75, 76, 77, 78, 79, 80, 81, 82, 83, 84, 85, 86, 87, 88, 89, 90] } : ByteArray) = bs nl ∧ nl.length = 52 ∧ ∀ k, k < 52 → (nl.drop k).take 1 = nmN k := ⟨[97, 98, 99, 100, 101, 102, 103, 104, 105, 106, 107, 108, 109, 110, 111, 112, 113, 114, 115, 116, 117, 118, 119, 120, 121, 122, 65, 66, 67, 68, 69, 70, 71, 72, 73, 74, 75, 76, 77, 78, 79, 80, 81, 82, 83, 84, 85, 86, 87, 88, 89, 90], rfl, rfl, by decide +kernel⟩
theorem u8_range {n : Int} (h : (Lit.int .u8 n).wf = true) : 0 ≤ n ∧ n ≤ 255 := by
 simp [Lit.wf, IntKind.min, IntKind.max, IntKind.signed, IntKind.bits] at h
 omega
theorem goN_len (t : Nat) : ∀ n, (goN t n).length ≤ 3 * n
 | 0 => Nat.zero_le _
 | n + 1 => by
  have h1 := goN_len t n
  have h2 : (oneN t n).length ≤ 3 := by
   unfold oneN
   by_cases h : t = 2
   ·rw [if_pos h]
    by_cases h3 : n = 0
    ·rw [if_pos h3]; simp
    ·rw [if_neg h3]; simp
   ·rw [if_neg h]; simp
  show (goN t n ++ oneN t n).length ≤ _
  rw [List.length_append]
  omega
end Go.Proofs.YthgbfaoblnkniaaDoor
