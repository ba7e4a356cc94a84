/-
  A value, and values, as arguments. No conditions.
-/
import Derived.Test.YtldcbapjiflblaaVVa
namespace Go.Proofs.Ytldcbapjiflblaa
open Go.ChangeShapes Go.WideShapes Go.ChangeAt Go.RowKit Go.Joins
section
variable {H : Type} {enc : TypeId × Value → H} {w : World} {base : Nat} {spare : Nat → Bool} {held : Bool} {r : Reach} {b0 : Nat} {v : Value} {d : DataW H} {ps : List MemPlace}
set_option maxRecDepth 100000 in
theorem open_val1 (hval : Value.okWide Try.prog w r b0 24 v) (hd : DataW.Trod enc Try.prog w base spare held 24 v d ps) : ∃ x y : Int, v = .agg #[.int .i64 x, .int .i64 y] := by
 obtain ⟨cs, rfl, -⟩ := okWide_struct Try.underlying24 hval
 obtain ⟨fuel, h⟩ := hd
 obtain ⟨l⟩ := cs
 have h : DataW.trod enc Try.prog w base spare held fuel 24 l = some (d, ps) := h
 obtain ⟨k, m, e⟩ := open_value h
 exact ⟨k, m, by rw [e]⟩
set_option maxRecDepth 100000 in
theorem open_valsV (hval : Value.okWide Try.prog w r b0 22 v) (hd : DataW.Trod enc Try.prog w base spare held 22 v d ps) : ∃ L, ValsA w v L := by
 obtain ⟨a0, len0, cap0, rfl⟩ := okWide_slice Try.underlying22 hval
 obtain ⟨fuel, hf⟩ := hd
 obtain ⟨v, L, e, h⟩ : ∃ v L, _ = [v] ∧ SlR 2 ValR w v L := open_slR Try.underlying22 (by kernel_rfl) (fun _ _ _ h => open_val h) hf
 simp [Value.cells] at e
 subst e
 exact ⟨L, h⟩
end
end Go.Proofs.Ytldcbapjiflblaa
