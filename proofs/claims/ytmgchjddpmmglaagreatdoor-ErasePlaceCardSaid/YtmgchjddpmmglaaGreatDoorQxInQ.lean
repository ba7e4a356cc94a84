/-
  A place as an argument: its two numbers. No conditions.
-/
import Derived.Test.YtmgchjddpmmglaaGreatDoorQAa
import Derived.Lib.SlicesCompact
import Derived.Sort.Statements
namespace Go.Proofs.YtmgchjddpmmglaaGreatDoor
open Go.ChangeShapes Go.WideShapes Go.ChangeAt Go.RowKit Go.Joins
set_option maxRecDepth 100000 in
theorem open_place {H : Type} {enc : TypeId × Value → H} {w : World} {base : Nat} {spare : Nat → Bool} {held : Bool} {r : Reach} {b0 : Nat} {v : Value} {d : DataW H} {ps : List MemPlace} (hval : Value.okWide Tryz.prog w r b0 38 v) (hd : DataW.Trod enc Tryz.prog w base spare held 38 v d ps) : ∃ x y : Int, v = .agg #[.int .i64 x, .int .i64 y] := by
 obtain ⟨cs, rfl, -⟩ := okWide_struct Tryz.underlying38 hval
 obtain ⟨fuel, h⟩ := hd
 obtain ⟨l⟩ := cs
 have h : DataW.trod enc Tryz.prog w base spare held fuel 38 l = some (d, ps) := h
 have hl := trod_len Tryz.underlying38 h
 obtain ⟨n0, y0, h0⟩ := trod_at 0 0 3 1 Tryz.underlying38 h rfl rfl rfl (by kernel_rfl)
 obtain ⟨n1, y1, h1⟩ := trod_at 1 1 3 1 Tryz.underlying38 h rfl rfl rfl (by kernel_rfl)
 obtain ⟨k, hk, -, -⟩ := DataW.trod_int Tryz.underlying3 h0
 obtain ⟨m, hm, -, -⟩ := DataW.trod_int Tryz.underlying3 h1
 rw [show Tryz.prog.cellsOf 38 = 2 by kernel_rfl] at hl
 match l, hl with
 | [a, b], _ =>
  simp at hk hm
  exact ⟨k, m, by rw [hk, hm]⟩
end Go.Proofs.YtmgchjddpmmglaaGreatDoor
