/-
  Layer 7 (event): events in plain words and in memory; the table of first words. No conditions.
-/
import Derived.Test.YtphhgdgamnogpaaDoorBase
namespace Go.Proofs.YtphhgdgamnogpaaDoor
open Go.RowKit

/-- An event: its kind, its session, its key, its value's kind and number, its line. -/
abbrev EventM := Int × List UInt8 × List UInt8 × Int × Int × Int
def noEv : EventM := (0, [], [], 0, 0, 0)
/-- A kind's first word. -/
def kindW (k : Int) : List UInt8 :=
  if k = 1 then [98, 101, 103, 105, 110] else if k = 2 then [114, 101, 97, 100] else if k = 3 then [119, 114, 105, 116, 101] else if k = 4 then [111, 107] else if k = 5 then [102, 97, 105, 108] else if k = 6 then [105, 110, 102, 111] else []
/-- The kind of a first word; 0: it is none. -/
def kindL (l : List UInt8) : Int :=
  if l = [98, 101, 103, 105, 110] then 1 else if l = [114, 101, 97, 100] then 2 else if l = [119, 114, 105, 116, 101] then 3 else if l = [111, 107] then 4 else if l = [102, 97, 105, 108] then 5 else if l = [105, 110, 102, 111] then 6 else 0
/-- Have events of a kind a key, and a value? -/
def longK (k : Int) : Bool := k == 2 || k == 3
/-- An event as a value. -/
def evV (x : EventM) : Value := .agg #[.int .i64 x.1, .string (bs x.2.1), .string (bs x.2.2.1), .int .i64 x.2.2.2.1, .int .i64 x.2.2.2.2.1, .int .i64 x.2.2.2.2.2]
theorem kindW_at (i : Nat) (h : i < 7) : kindW (i : Int) = [[], [98, 101, 103, 105, 110], [114, 101, 97, 100], [119, 114, 105, 116, 101], [111, 107], [102, 97, 105, 108], [105, 110, 102, 111]].getD i [] := by
  match i, h with
  | 0, _ => rfl
  | 1, _ => rfl
  | 2, _ => rfl
  | 3, _ => rfl
  | 4, _ => rfl
  | 5, _ => rfl
  | 6, _ => rfl
/-- The first words stand in event.words as its initialiser lays them. -/
def EvTab (w : World) : Prop := ∀ i : Nat, i < 7 → w.cell? ⟨1, i, none⟩ = some (.string (bs (kindW i)))
theorem EvTab.below {w w' : World} (h : EvTab w) (hb : Below w.heap.size w w') : EvTab w' := fun i hi => cell_later hb (h i hi)
theorem long_cases (k : Int) : (k = 2 ∧ longK k = true) ∨ (k = 3 ∧ longK k = true) ∨ ((k == 2) = false ∧ (k == 3) = false ∧ longK k = false) := by
  by_cases h2 : k = 2
  · exact .inl ⟨h2, by simp [longK, h2]⟩
  · by_cases h3 : k = 3
    · exact .inr (.inl ⟨h3, by simp [longK, h3]⟩)
    · exact .inr (.inr ⟨by simpa using h2, by simpa using h3, by simp [longK, h2, h3]⟩)
end Go.Proofs.YtphhgdgamnogpaaDoor
