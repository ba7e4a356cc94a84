/-
  A slice of texts as an argument: what its reading says of its cells. No conditions.
-/
import Derived.Test.YthalbcmlehpfaaaDoorRowKit
import Derived.Test.YthalbcmlehpfaaaDoorTexts
import Derived.SliceStrings
namespace Go.Proofs.YthalbcmlehpfaaaDoor
open Go.ChangeShapes Go.WideShapes Go.ChangeAt Go.RowKit

/-- A slice of texts as it came in: its cells, wherever they lie. -/
def ArgTx (w : World) (v : Value) (L : List (List UInt8)) : Prop := ∃ p cap, v = .slice p L.length cap ∧ ∀ i, i < L.length → ∃ a : Addr, p = some a ∧ w.cell? (a.add i) = some (.string (bs (L.getD i [])))
set_option maxRecDepth 100000 in
theorem open_argTx {H : Type} {enc : TypeId × Value → H} {W : World} {b0 : Nat} {v : Value} {d : DataW H} {ps : List MemPlace}
    (hval : Value.okWide Tryd.prog W .any b0 22 v) (hd : DataW.Trod enc Tryd.prog W 0 (fun _ => true) true 22 v d ps) :
    ∃ L : List (List UInt8), ArgTx W v L ∧ L.length ≤ 9223372036854775807 ∧ ∀ x ∈ L, x.length ≤ 9223372036854775807 := by
  obtain ⟨a0, len0, cap0, rfl⟩ := okWide_slice Tryd.underlying22 hval
  obtain ⟨fuel, hf⟩ := hd
  rcases open_strings Tryd.underlying22 Tryd.underlying9 (by kernel_rfl) hf with ⟨hcs, hx⟩ | ⟨a, len, cap, ss, hcs, -, hl, hm, hz, hx, hcell, hsz⟩
  · simp [Value.cells] at hcs
    obtain ⟨rfl, rfl, rfl⟩ := hcs
    exact ⟨[], ⟨none, 0, rfl, fun i hi => absurd hi (Nat.not_lt_zero i)⟩, Nat.zero_le _, by simp⟩
  · simp [Value.cells] at hcs
    obtain ⟨rfl, rfl, rfl⟩ := hcs
    simp only [if_true] at hz
    have hlen : ((ss.take len0).map (fun s => s.data.toList)).length = len0 := by
      rw [List.length_map, List.length_take]
      omega
    unfold maxLen at hm hsz
    refine ⟨(ss.take len0).map (fun s => s.data.toList), ⟨some a, cap0, by rw [hlen], fun i hi => ⟨a, rfl, ?_⟩⟩, by rw [hlen]; omega, ?_⟩
    · rw [hlen] at hi
      have his : i < ss.length := by omega
      rw [hcell i his]
      simp [List.getD, hi, his]
      exact bs_data _
    · intro x hx
      obtain ⟨s, hs, rfl⟩ := List.mem_map.1 hx
      have := hsz s (List.mem_of_mem_take hs)
      rw [Lib.size_eq] at this
      omega
end Go.Proofs.YthalbcmlehpfaaaDoor
