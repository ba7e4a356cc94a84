/-
  A place in a box; a list parted in two. No conditions.
-/
import Derived.Test.YtmgchjddpmmglaaGreatDoorQAg
namespace Go.Proofs.YtmgchjddpmmglaaGreatDoor
open Go.RowKit Go.Lib
theorem load_pl {w : World} {b : Nat} {x y : Value} (h : Blk w b 38 [x, y]) : (loadVar 38 ⟨b, 0, none⟩).run Tryz.prog w = .ok (.agg #[x, y]) w := by
 have hr : w.rangeAt b 0 [x, y] := fun j v hj => by rw [Nat.zero_add]; exact h.cell j hj
 exact run_loadVar_mid (P := Tryz.prog) w b 0 38 [x, y] _ hr Tryz.underlying38 rfl (by kernel_rfl)
theorem filter_two (p : OpM → Bool) : ∀ l : List OpM, (l.filter p).length + (l.filter fun o => !p o).length = l.length
 | [] => rfl
 | o :: l => by
  have h := filter_two p l
  rw [List.filter_cons, List.filter_cons]
  cases p o <;> simp <;> omega
end Go.Proofs.YtmgchjddpmmglaaGreatDoor
