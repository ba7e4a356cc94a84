/-
  Results that lie in boxes: a value's two cells, a truth's one; what is stored into them. No conditions.
-/
import Derived.Test.YtmgchjddpmmglaaGreatDoorQAf
namespace Go.Proofs.YtmgchjddpmmglaaGreatDoor
open Go.RowKit Go.Lib
theorem results_ct {fn : Func} {a t : Nat} {u : Tmp} (h : fn.results = #[.cell a t, .tmp u]) (tmps : Array Value) (P : Program) (w : World) (A : Addr) (x : Value) (ha : tmps.getD a undef = .pointer (some A)) (hl : (loadVar t A).run P w = .ok x w) :
  (results fn tmps).run P w = .ok (.tuple #[x, tmps.getD u undef]) w := by
 have ha' : tmps[a]?.getD undef = .pointer (some A) := by simpa using ha
 simp [results, h, ha', hl, asAddr]
theorem results_cc {fn : Func} {a t b u : Nat} (h : fn.results = #[.cell a t, .cell b u]) (tmps : Array Value) (P : Program) (w : World) (A B : Addr) (x y : Value) (ha : tmps.getD a undef = .pointer (some A)) (hb : tmps.getD b undef = .pointer (some B)) (hl : (loadVar t A).run P w = .ok x w) (hm : (loadVar u B).run P w = .ok y w) :
  (results fn tmps).run P w = .ok (.tuple #[x, y]) w := by
 have ha' : tmps[a]?.getD undef = .pointer (some A) := by simpa using ha
 have hb' : tmps[b]?.getD undef = .pointer (some B) := by simpa using hb
 simp [results, h, ha', hb', hl, hm, asAddr]
theorem results_cell {fn : Func} {a t : Nat} (h : fn.results = #[.cell a t]) (tmps : Array Value) (P : Program) (w : World) (A : Addr) (x : Value) (ha : tmps.getD a undef = .pointer (some A)) (hl : (loadVar t A).run P w = .ok x w) :
  (results fn tmps).run P w = .ok x w := by
 have ha' : tmps[a]?.getD undef = .pointer (some A) := by simpa using ha
 simp [results, h, ha', hl, asAddr]
theorem load_val {w : World} {b : Nat} {x y : Value} (h : Blk w b 49 [x, y]) : (loadVar 49 ⟨b, 0, none⟩).run Tryz.prog w = .ok (.agg #[x, y]) w := by
 have hr : w.rangeAt b 0 [x, y] := fun j v hj => by rw [Nat.zero_add]; exact h.cell j hj
 exact run_loadVar_mid (P := Tryz.prog) w b 0 49 [x, y] _ hr Tryz.underlying49 rfl (by kernel_rfl)
theorem store2 {w : World} {b : Nat} {t : TypeId} {a0 a1 : Value} (h : Blk w b t [a0, a1]) (x y : Value) : Blk ((w.setCell ⟨b, 0, none⟩ x).setCell ⟨b, 1, none⟩ y) b t [x, y] := (h.set 0 x).set 1 y
theorem below_two_sets {n : Nat} {a w : World} (h : Below n a w) {b : Nat} (hb : n ≤ b) (x y : Value) : Below n a ((w.setCell ⟨b, 0, none⟩ x).setCell ⟨b, 1, none⟩ y) := (h.setCell hb x).setCell hb y
end Go.Proofs.YtmgchjddpmmglaaGreatDoor
