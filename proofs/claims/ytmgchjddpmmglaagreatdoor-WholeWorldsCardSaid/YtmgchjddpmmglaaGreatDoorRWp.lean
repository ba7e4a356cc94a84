/-
  Maps of the call's own from numbers to numbers, in plain words. No conditions.
  Results that lie in boxes: a value's two cells, a truth's one; what is stored into them. No conditions.
  Layer 14 (erase), the program: a history without its lost reads. No conditions but that unicode/utf8's two tables are as their initialisers lay them.
  Layer 14's reference (erase): a history without its lost reads. No conditions.
-/
import Derived.WalkArith
import Derived.Test.YtmgchjddpmmglaaGreatDoorRWj
import Derived.RangeFuncNested
import Derived.RangeFuncBound
import Derived.RangeFuncCalls
import Derived.RangeFuncLeaves
import Derived.Shelf.Abstract
import Derived.Shelf.RegionOpen
import Derived.OwnWalkIn
import Derived.TacticsInMore
import Derived.LoopNIn
import Derived.LoopIn
import Derived.Maps.OwnIn
import Derived.Maps.Views
import Derived.RangeFuncBox
import Derived.Outline
import Derived.Deep.CutBlock
namespace Go.Proofs.YtmgchjddpmmglaaGreatDoor
section
open Go.RowKit Go.Lib Go.Maps Go.WideMaps
theorem Blk.turn {w w' : World} {B b : Nat} {t : TypeId} {cs : List Value} (h : Blk w B t cs) (ht : w.mapTurned w' b) : Blk w' B t cs := h.kept ht.grown (by
 intro e
 obtain ⟨es, clock, es', clock', hb, -⟩ := ht
 have h' : w.heap[B]? = some (.cells cs.toArray t (0, 0)) := h
 have e1 : B = b := by simpa using e
 subst e1
 rw [h'] at hb
 cases hb)
end
section
open Go.RowKit Go.Lib
theorem results_ct {fn : Func} {a t : Nat} {u : Tmp} (h : fn.results = #[.cell a t, .tmp u]) (tmps : Array Value) (P : Program) (w : World) (A : Addr) (x : Value) (ha : tmps.getD a undef = .pointer (some A)) (hl : (loadVar t A).run P w = .ok x w) :
  (results fn tmps).run P w = .ok (.tuple #[x, tmps.getD u undef]) w := by
 have ha' : tmps[a]?.getD undef = .pointer (some A) := by simpa using ha
 simp [results, h, ha', hl, asAddr]
theorem results_cell {fn : Func} {a t : Nat} (h : fn.results = #[.cell a t]) (tmps : Array Value) (P : Program) (w : World) (A : Addr) (x : Value) (ha : tmps.getD a undef = .pointer (some A)) (hl : (loadVar t A).run P w = .ok x w) :
  (results fn tmps).run P w = .ok x w := by
 have ha' : tmps[a]?.getD undef = .pointer (some A) := by simpa using ha
 simp [results, h, ha', hl, asAddr]
end
section
open Go.RowKit Go.Lib
theorem load_hist {w : World} {b : Nat} {x y z : Value} (h : Blk w b 25 [x, y, z]) : (loadVar 25 ⟨b, 0, none⟩).run Tryz.prog w = .ok (.agg #[x, y, z]) w := by
 have hr : w.rangeAt b 0 [x, y, z] := fun j v hj => by rw [Nat.zero_add]; exact h.cell j hj
 exact run_loadVar_mid (P := Tryz.prog) w b 0 25 [x, y, z] _ hr Tryz.underlying25 rfl (by kernel_rfl)
theorem noH_v (w : World) : HistV w (.agg #[.slice none 0 0, .slice none 0 0, .slice none 0 0]) noH := ⟨_, _, _, rfl, ⟨none, 0, rfl, fun j hj => absurd hj (Nat.not_lt_zero j)⟩, ⟨none, 0, rfl, fun j hj => absurd hj (Nat.not_lt_zero j)⟩, ⟨none, 0, rfl, fun j hj => absurd hj (Nat.not_lt_zero j)⟩⟩
theorem of_news {w : World} {a : Addr} {L : List (List UInt8)} (h : HasTexts w (some a) L) : ∀ (j : Nat) (u : Value), (strs L)[j]? = some u → w.cell? (a.add j) = some u := fun j u hj => by
 have hjl : j < L.length := by
  have := (List.getElem?_eq_some_iff.1 hj).1
  simpa [strs] using this
 obtain ⟨g, e, hc⟩ := h j hjl
 injection e with e
 subst e
 have eu : u = .string (bs (L.getD j [])) := by
  simp [strs, hjl] at hj
  simp [hjl, ← hj]
 rw [eu, Addr.add_lit, Nat.zero_add]
 exact hc
end
section
open Go.RowKit Go.Lib
theorem owns_beside {w w' : World} {base size n : Nat} {e : TypeId} {v : Value} {xs : List Value} {row : Option Nat} (h : w.ownsRow base e size v n xs) (hg : w.grownBy w' row) (hne : ∀ k, v.ownBlock = some k → row ≠ some k) : w'.ownsRow base e size v n xs := by
 refine h.kept hg ?_
 cases hv : v.ownBlock with
 | none =>
  rcases h.2 with ⟨rfl, -⟩ | ⟨g, cap, cur, rfl, -⟩
  ·exact .inl rfl
  ·cases hv
 | some k => exact .inr (fun e => hne k hv e.symm)
end
end Go.Proofs.YtmgchjddpmmglaaGreatDoor
