/-
  Layer 14's reference (erase): a history without its lost reads. No conditions.
-/
import Derived.Test.YtmgchjddpmmglaaGreatDoorQxErP
namespace Go.Proofs.YtmgchjddpmmglaaGreatDoor
open Go.RowKit Go.Lib
def anyK (k : Nat) (L : List OpM) : Bool := L.any fun o => !lostO o && o.2.1 == (k : Int)
theorem anyK_snoc (k : Nat) (L : List OpM) (o : OpM) : anyK k (L ++ [o]) = (anyK k L || (!lostO o && o.2.1 == (k : Int))) := by
 unfold anyK
 rw [List.any_append]
 simp
def toL (h : HistM) (k : Nat) : List Int := (List.range k).map fun j => ((stayK h j).length : Int)
theorem toL_next (h : HistM) (k : Nat) : toL h (k + 1) = toL h k ++ [((keptK h k).length : Int)] := by
 unfold toL
 rw [List.range_succ, List.map_append, kept_len]
 rfl
theorem toL_len (h : HistM) (k : Nat) : (toL h k).length = k := by simp [toL]
theorem toL_at (h : HistM) (k : Nat) (j : Nat) (hj : j < k) : (toL h k).getD j 0 = newK h (j : Int) := by
 unfold toL newK
 simp [hj]
theorem owns_beside {w w' : World} {base size n : Nat} {e : TypeId} {v : Value} {xs : List Value} {row : Option Nat} (h : w.ownsRow base e size v n xs) (hg : w.grownBy w' row) (hne : ∀ k, v.ownBlock = some k → row ≠ some k) : w'.ownsRow base e size v n xs := by
 refine h.kept hg ?_
 cases hv : v.ownBlock with
 | none =>
  rcases h.2 with ⟨rfl, -⟩ | ⟨g, cap, cur, rfl, -⟩
  ·exact .inl rfl
  ·cases hv
 | some k => exact .inr (fun e => hne k hv e.symm)
structure RawSt (w : World) (N G : Nat) (wr : World) (v0 v1 v2 vs vk vi : Value) (S K : List (List UInt8)) (I : List Int) : Prop where
 s : wr.ownsRow 0 9 1 vs S.length (strs S)
 sb : ∀ q, vs.ownBlock = some q → q < N
 k : wr.ownsRow N 9 1 vk K.length (strs K)
 i : wr.ownsRow N 3 1 vi I.length (vints I)
 h : Blk wr w.heap.size 25 [v0, v1, v2]
 r : Blk wr (w.heap.size + 1) 25 [.slice none 0 0, .slice none 0 0, .slice none 0 0]
 g : Blk wr G 25 [vs, vk, .slice none 0 0]
 b : Below w.heap.size w wr
 c : N ≤ wr.heap.size
 d : G < N
 e : w.heap.size + 1 < G
theorem RawSt.later {w wr w' : World} {N G : Nat} {v0 v1 v2 vs vk vi : Value} {S K : List (List UInt8)} {I : List Int} (h : RawSt w N G wr v0 v1 v2 vs vk vi S K I) (hb : Below wr.heap.size wr w') : RawSt w N G w' v0 v1 v2 vs vk vi S K I :=
 ⟨owns_later h.s hb, h.sb, owns_later h.k hb, owns_later h.i hb, h.h.later hb, h.r.later hb, h.g.later hb, below_next h.b hb, Nat.le_trans h.c hb.size, h.d, h.e⟩
theorem raw_int {w wr w4 : World} {N G : Nat} {v0 v1 v2 vs vk vi v4 : Value} {S K : List (List UInt8)} {I : List Int} {x : Int} {X : Obj} (h : RawSt w N G wr v0 v1 v2 vs vk vi S K I) (ho : w4.ownsRow N 3 1 v4 (I.length + 1) (vints I ++ [.int .i64 x])) (hg : (wr.alloc X).grownBy w4 vi.ownBlock) :
  RawSt w N G w4 v0 v1 v2 vs vk v4 S K (I ++ [x]) := by
 have hA : Below wr.heap.size wr (wr.alloc X) := (Below.refl _ _).alloc (Nat.le_refl _) X
 have h2 := h.later hA
 have hd := h.d
 have he := h.e
 refine ⟨owns_other h2.s h2.i (by decide) hg, h.sb, owns_other h2.k h2.i (by decide) hg, ?_, h2.h.grown h2.i (by omega) hg, h2.r.grown h2.i (by omega) hg, h2.g.grown h2.i hd hg, ?_, Nat.le_trans h2.c hg.size, hd, he⟩
 ·rw [← vints_snoc, List.length_append]
  exact ho
 ·exact h2.b.grown hg h2.b.size (fun k hk => by have := (h2.i.lt k hk).1; omega)
theorem raw_key {w wr wc w4 : World} {N G : Nat} {v0 v1 v2 vs vk vi v4 : Value} {S K : List (List UInt8)} {I : List Int} {s : List UInt8} (h : RawSt w N G wr v0 v1 v2 vs vk vi S K I) (hb : Below wr.heap.size wr wc) (ho : w4.ownsRow N 9 1 v4 (K.length + 1) (strs K ++ [.string (bs s)])) (hg : wc.grownBy w4 vk.ownBlock) :
  RawSt w N G (w4.setCell ⟨G, 1, none⟩ v4) v0 v1 v2 vs v4 vi S (K ++ [s]) I := by
 have h2 := h.later hb
 have hd := h.d
 have he := h.e
 have g4 := h2.g.grown h2.k hd hg
 refine ⟨?_, h.sb, ?_, ?_, ?_, ?_, g4.set 1 v4, ?_, ?_, hd, he⟩
 ·refine owns_store (owns_beside h2.s hg (fun q hq e => ?_)) g4 (by decide) _ _
  have h3 := h.sb q hq
  have h4 := (h2.k.lt q e).1
  omega
 ·rw [← strs_snoc, List.length_append]
  exact owns_far ho hd _
 ·exact owns_store (owns_other h2.i h2.k (by decide) hg) g4 (by decide) _ _
 ·exact (h2.h.grown h2.k (by omega) hg).far (by show w.heap.size ≠ G; omega) _
 ·exact (h2.r.grown h2.k (by omega) hg).far (by show w.heap.size + 1 ≠ G; omega) _
 ·exact (h2.b.grown hg h2.b.size (fun k hk => by have := (h2.k.lt k hk).1; omega)).setCell (by show w.heap.size ≤ G; omega) _
 ·have := hg.size
  have := h2.c
  simp only [World.setCell, Array.size_modify]
  omega
structure RawT (w : World) (N G : Nat) (wr : World) (v0 v1 v2 vs vk vt vi : Value) (S K : List (List UInt8)) (I : List Int) (LV : List TxnV) : Prop where
 t : wr.ownsRow N 47 3 vt LV.length (txnsCells LV)
 o : ∀ t ∈ LV, wr.ownsRow N 51 4 t.2 t.1.2.2.length (opsCells t.1.2.2)
 s : wr.ownsRow 0 9 1 vs S.length (strs S)
 k : wr.ownsRow 0 9 1 vk K.length (strs K)
 i : wr.ownsRow 0 3 1 vi I.length (vints I)
 h : Blk wr w.heap.size 25 [v0, v1, v2]
 r : Blk wr (w.heap.size + 1) 25 [.slice none 0 0, .slice none 0 0, .slice none 0 0]
 g : Blk wr G 25 [vs, vk, vt]
 b : Below w.heap.size w wr
 c : N ≤ wr.heap.size
 d : G < N
 e : w.heap.size + 1 < G
theorem rawT_next {w wr W3 w6 : World} {N G : Nat} {v0 v1 v2 vs vk vt vi v5 v6 : Value} {S K : List (List UInt8)} {I : List Int} {LV : List TxnV} {X : Obj} {ts tf : Int} {tl : List OpM} (h : RawT w N G wr v0 v1 v2 vs vk vt vi S K I LV) (hb : Below wr.heap.size wr W3)
  (h5 : W3.ownsRow N 51 4 v5 tl.length (opsCells tl)) {k : Nat} (hk : LV.length = k) (h6 : w6.ownsRow N 47 3 v6 (k + 1) (txnsCells LV ++ [.int .i64 ts, .int .i64 tf, v5])) (hg : (W3.alloc X).grownBy w6 vt.ownBlock) :
  RawT w N G (w6.setCell ⟨G, 2, none⟩ v6) v0 v1 v2 vs vk v6 vi S K I (LV ++ [((ts, tf, tl), v5)]) := by
 have hA : Below wr.heap.size wr (W3.alloc X) := hb.alloc hb.size X
 have tA := owns_later h.t hA
 have hd := h.d
 have he := h.e
 have gA := h.g.later hA
 have o6 : Blk w6 G 25 [vs, vk, vt] := gA.grown tA hd hg
 refine ⟨?_, ?_, ?_, ?_, ?_, ?_, ?_, o6.set 2 v6, ?_, ?_, hd, he⟩
 ·have e : txnsCells (LV ++ [((ts, tf, tl), v5)]) = txnsCells LV ++ [.int .i64 ts, .int .i64 tf, v5] := by simp [txnsCells, txnCells]
  rw [e, List.length_append, hk]
  exact owns_far h6 hd _
 ·intro t ht
  rcases List.mem_append.1 ht with ht | ht
  ·exact owns_far (owns_other (owns_later (h.o t ht) hA) tA (by decide) hg) hd _
  ·obtain rfl : t = ((ts, tf, tl), v5) := by simpa using ht
   exact owns_far (owns_other (h5.alloc X) tA (by decide) hg) hd _
 ·exact owns_store (owns_other (owns_later h.s hA) tA (by decide) hg) o6 (by decide) _ _
 ·exact owns_store (owns_other (owns_later h.k hA) tA (by decide) hg) o6 (by decide) _ _
 ·exact owns_store (owns_other (owns_later h.i hA) tA (by decide) hg) o6 (by decide) _ _
 ·exact ((h.h.later hA).grown tA (by omega) hg).far (by show w.heap.size ≠ G; omega) _
 ·exact ((h.r.later hA).grown tA (by omega) hg).far (by show w.heap.size + 1 ≠ G; omega) _
 ·have hs := (h.b.trans (hA.mono h.b.size)).size
  exact (((h.b.trans (hA.mono h.b.size)).grown hg hs (fun k hk => by have := (tA.lt k hk).1; omega)).setCell (by show w.heap.size ≤ G; omega) _)
 ·have := hg.size
  have := h.c
  have := hA.size
  simp only [World.setCell, Array.size_modify]
  omega
theorem rawT_end {w wr : World} {N G : Nat} {v0 v1 v2 vs vk vt vi : Value} {S K : List (List UInt8)} {I : List Int} {T : List TxnM} {LV : List TxnV} (h : RawT w N G wr v0 v1 v2 vs vk vt vi S K I LV) (hL : LV.map (·.1) = T) :
  Blk (((wr.setCell ⟨w.heap.size + 1, 0, none⟩ vs).setCell ⟨w.heap.size + 1, 1, none⟩ vk).setCell ⟨w.heap.size + 1, 2, none⟩ vt) (w.heap.size + 1) 25 [vs, vk, vt] ∧
  HistV (((wr.setCell ⟨w.heap.size + 1, 0, none⟩ vs).setCell ⟨w.heap.size + 1, 1, none⟩ vk).setCell ⟨w.heap.size + 1, 2, none⟩ vt) (.agg #[vs, vk, vt]) (S, K, T) ∧
   Below w.heap.size w (((wr.setCell ⟨w.heap.size + 1, 0, none⟩ vs).setCell ⟨w.heap.size + 1, 1, none⟩ vk).setCell ⟨w.heap.size + 1, 2, none⟩ vt) := by
 have r0 := h.r
 have r1 := r0.set 0 vs
 have r2 := r1.set 1 vk
 have ks : ∀ {base size n : Nat} {e : TypeId} {v : Value} {xs : List Value}, e ≠ 25 → wr.ownsRow base e size v n xs → (((wr.setCell ⟨w.heap.size + 1, 0, none⟩ vs).setCell ⟨w.heap.size + 1, 1, none⟩ vk).setCell ⟨w.heap.size + 1, 2, none⟩ vt).ownsRow base e size v n xs := fun he hr => owns_store (owns_store (owns_store hr r0 he 0 vs) r1 he 1 vk) r2 he 2 vt
 have hs := ks (by decide) h.s
 have hk := ks (by decide) h.k
 have ht := ks (by decide) h.t
 have ho := fun t m => ks (by decide) (h.o t m)
 refine ⟨r2.set 2 vt, ⟨vs, vk, vt, rfl, own_texts hs, own_texts hk, ?_⟩, ?_⟩
 ·have := own_txns ht (fun t m => own_ops (ho t m))
  rw [hL] at this
  exact this
 ·have e := h.e
  exact ((h.b.setCell (by show w.heap.size ≤ w.heap.size + 1; omega) _).setCell (by show w.heap.size ≤ w.heap.size + 1; omega) _).setCell (by show w.heap.size ≤ w.heap.size + 1; omega) _
end Go.Proofs.YtmgchjddpmmglaaGreatDoor
