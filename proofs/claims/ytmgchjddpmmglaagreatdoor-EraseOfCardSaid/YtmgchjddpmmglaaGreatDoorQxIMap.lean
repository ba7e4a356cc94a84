/-
  Maps of the call's own from numbers to numbers, in plain words. No conditions.
-/
import Derived.Test.YtmgchjddpmmglaaGreatDoorQAf
import Derived.Maps.OwnSet
import Derived.Maps.OwnOps
import Derived.WalkArith
namespace Go.Proofs.YtmgchjddpmmglaaGreatDoor
open Go.RowKit Go.Lib Go.Maps Go.WideMaps
def IMap (w : World) (b n : Nat) (f : Int → Int) : Prop :=
 ∃ D : DataW Unit, w.ownsMap Tryz.prog 3 (plainElem Tryz.prog 3) b n D ∧ ∀ k, (Lit.int .i64 k).wf = true → D.atKey (.int .i64 k) (.lit (.int .i64 0)) = .lit (.int .i64 (f k))
theorem zero_im (w : World) : (zeroValue 3).run Tryz.prog w = .ok (.int .i64 0) w := by kernel_rfl
theorem IMap.at {w w' : World} {b n : Nat} {f : Int → Int} (h : IMap w b n f) (e : w'.heap[b]? = w.heap[b]?) : IMap w' b n f := by
 obtain ⟨D, ⟨es, clock, hb, r⟩, h2⟩ := h
 exact ⟨D, ⟨es, clock, e.trans hb, r⟩, h2⟩
theorem IMap.lt {w : World} {b n : Nat} {f : Int → Int} (h : IMap w b n f) : b < w.heap.size := by
 obtain ⟨D, h1, -⟩ := h
 exact h1.lt
theorem IMap.later {w w' : World} {b n : Nat} {f : Int → Int} (h : IMap w b n f) (hb : Below w.heap.size w w') : IMap w' b n f := h.at (hb.block b h.lt)
theorem IMap.kept {w w' : World} {row : Option Nat} {b n : Nat} {f : Int → Int} (h : IMap w b n f) (hg : w.grownBy w' row) (hne : some b ≠ row) : IMap w' b n f := h.at (hg.block b h.lt hne)
theorem IMap.alloc {w : World} {b n : Nat} {f : Int → Int} (h : IMap w b n f) (o : Obj) : IMap (w.alloc o) b n f := h.kept (World.grownBy_alloc w o none) (by simp)
theorem imap_new (w : World) : IMap (w.alloc (.map #[] 0)) w.heap.size 0 (fun _ => 0) :=
 ⟨.map [], World.ownsMap_made w _ _ _, fun k _ => by simp [DataW.atKey]⟩
theorem IMap.row {w : World} {b n base size m : Nat} {f : Int → Int} {e : TypeId} {v : Value} {xs : List Value} (h : IMap w b n f) (ho : w.ownsRow base e size v m xs) : v.ownBlock ≠ some b := by
 intro he
 obtain ⟨D, ⟨es, clock, hb, r⟩, h2⟩ := h
 rcases ho.2 with ⟨rfl, -⟩ | ⟨g, cap, cur, rfl, -, hw, -⟩
 ·cases he
 ·have e1 : g = b := by simpa [Value.ownBlock] using he
  subst e1
  rw [hw] at hb
  cases hb
set_option maxRecDepth 10000 in
theorem imap_look {w : World} {b n : Nat} {f : Int → Int} (h : IMap w b n f) (k : Int) (h1k : -9223372036854775808 ≤ k) (h2k : k ≤ 9223372036854775807) : (Instr.lookup 90 (.map (some b)) (.int .i64 k) false).run Tryz.prog w = .ok (.int .i64 (f k)) w := by
 obtain ⟨D, h1, h2⟩ := h
 have hk : (Lit.int .i64 k).wf = true := WalkArith.wf_i64 (by omega)
 obtain ⟨c, hr, hat, -⟩ := h1.lookup_int (int_keyed Tryz.underlying3) Tryz.underlying90 Tryz.underlying3 (zero_im w) (keyOf_int_mk Tryz.underlying3 hk)
 have e : f k = c := by
  have := (h2 k hk).symm.trans hat
  injection this with this
  injection this
 rw [e]
 exact hr
set_option maxRecDepth 10000 in
theorem imap_put {w : World} {b n : Nat} {f : Int → Int} (h : IMap w b n f) (hn : n < maxLen) (k c : Int) (h1k : -9223372036854775808 ≤ k) (h2k : k ≤ 9223372036854775807) (h1c : -9223372036854775808 ≤ c) (h2c : c ≤ 9223372036854775807) :
  ∃ w', (Instr.mapUpdate 90 (.map (some b)) (.int .i64 k) (.int .i64 c)).run Tryz.prog w = .ok () w' ∧ IMap w' b (n + 1) (fun j => if j = k then c else f j) ∧ w.mapTurned w' b := by
 obtain ⟨D, h1, h2⟩ := h
 have hk : (Lit.int .i64 k).wf = true := WalkArith.wf_i64 (by omega)
 obtain ⟨w', r1, r2, r3⟩ := h1.store (int_keyed Tryz.underlying3) Tryz.underlying90 hn (keyOf_int_mk Tryz.underlying3 hk) (plainElem_int Tryz.underlying3 (WalkArith.wf_i64 (n := c) (by omega)))
 refine ⟨w', r1, ⟨_, r2, fun j hj => ?_⟩, r3⟩
 dsimp only
 by_cases e : j = k
 ·subst e
  rw [if_pos rfl]
  exact atKey_put_same h1.isMap (show WideAt.IsKeyLit (.int .i64 j) from trivial) _ _
 ·rw [if_neg e]
  rw [atKey_put_other (by intro h; cases h; exact e rfl)]
  exact h2 j hj
theorem IMap.turn {w w' : World} {b b' n : Nat} {f : Int → Int} (h : IMap w b n f) (ht : w.mapTurned w' b') (hne : b ≠ b') : IMap w' b n f := h.kept ht.grown (by simpa using hne)
theorem Blk.turn {w w' : World} {B b : Nat} {t : TypeId} {cs : List Value} (h : Blk w B t cs) (ht : w.mapTurned w' b) : Blk w' B t cs := h.kept ht.grown (by
 intro e
 obtain ⟨es, clock, es', clock', hb, -⟩ := ht
 have h' : w.heap[B]? = some (.cells cs.toArray t (0, 0)) := h
 have e1 : B = b := by simpa using e
 subst e1
 rw [h'] at hb
 cases hb)
theorem owns_turn {w w' : World} {b base size n : Nat} {e : TypeId} {v : Value} {xs : List Value} (h : w.ownsRow base e size v n xs) (ht : w.mapTurned w' b) : w'.ownsRow base e size v n xs := by
 obtain ⟨es, clock, es', clock', hb, -⟩ := id ht
 refine h.kept ht.grown ?_
 rcases h.2 with ⟨rfl, -⟩ | ⟨g, cap, cur, rfl, -, hw, -⟩
 ·exact .inl rfl
 ·refine .inr fun he => ?_
  have e1 : g = b := by simpa [Value.ownBlock] using he
  subst e1
  rw [hw] at hb
  cases hb
theorem below_turn {w w' a : World} {b B : Nat} (h : Below B a w) (ht : w.mapTurned w' b) (hB : B ≤ b) : Below B a w' := by
 have hg := ht.grown
 obtain ⟨es, clock, es', clock', hb, -⟩ := id ht
 have hlt : b < w.heap.size := (Array.getElem?_eq_some_iff.1 hb).1
 exact h.grown hg (by omega) (fun k hk => by
  have e : k = b := by simpa using hk.symm
  omega)
end Go.Proofs.YtmgchjddpmmglaaGreatDoor
