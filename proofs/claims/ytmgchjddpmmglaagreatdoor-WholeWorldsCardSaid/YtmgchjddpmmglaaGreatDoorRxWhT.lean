/-
  Layer 17 (whole): what stands while the world by which a history is made another one is told. No conditions.
-/
import Derived.Test.YtmgchjddpmmglaaGreatDoorRxWhQ
import Derived.Test.YtmgchjddpmmglaaGreatDoorRxWoA
namespace Go.Proofs.YtmgchjddpmmglaaGreatDoor
open Go.RowKit Go.Lib
theorem cell_beside {w w' : World} {base size n : Nat} {e : TypeId} {v u : Value} {xs : List Value} {a : Addr} (h : w.cell? a = some u) (hr : w.ownsRow base e size v n xs) (hg : w.grownBy w' v.ownBlock) (hb : a.block < base) : w'.cell? a = some u := hg.cell h (fun e => by have := (hr.lt a.block e.symm).1; omega)
structure WldSt (w w8 : World) (N Nc Nl G : Nat) (wr : World) (vh vg : List Value) (vc vl : Value) (C : List Bool) (L : List ValM) : Prop where
 c : wr.ownsRow Nc 4 1 vc C.length (bools C)
 l : wr.ownsRow Nl 49 2 vl L.length (valsC L)
 g : Blk wr G 64 [vc, vl]
 h : Blk wr w.heap.size 25 vh
 q : Blk wr (w.heap.size + 1) 25 vg
 r : Blk wr (w.heap.size + 1 + 1) 64 [.slice none 0 0, .slice none 0 0]
 b : Below w.heap.size w wr
 k : ∀ a v, a.block < N → a.block ≠ G → w8.cell? a = some v → wr.cell? a = some v
 e : w.heap.size + 1 + 1 < G
theorem WldSt.later {w w8 wr w' : World} {N Nc Nl G : Nat} {vh vg : List Value} {vc vl : Value} {C : List Bool} {L : List ValM} (s : WldSt w w8 N Nc Nl G wr vh vg vc vl C L) (hb : Below wr.heap.size wr w') : WldSt w w8 N Nc Nl G w' vh vg vc vl C L :=
 ⟨owns_later s.c hb, owns_later s.l hb, s.g.later hb, s.h.later hb, s.q.later hb, s.r.later hb, below_next s.b hb, fun a v h1 h2 h3 => cell_later hb (s.k a v h1 h2 h3), s.e⟩
theorem bools_snoc (L : List Bool) (x : Bool) : bools (L ++ [x]) = bools L ++ [.bool x] := by simp [bools]
theorem valsC_snoc (L : List ValM) (x : ValM) : valsC (L ++ [x]) = valsC L ++ [.int .i64 x.1, .int .i64 x.2] := by simp [valsC, valCells]
theorem fate_next {w w8 wr wc w4 : World} {N Nc Nl G : Nat} {vh vg : List Value} {vc vl v4 : Value} {C : List Bool} {L : List ValM} {x : Bool} (s : WldSt w w8 N Nc Nl G wr vh vg vc vl C L) (hd : G < Nc) (hn : N ≤ Nc) (hb : Below wr.heap.size wr wc) (ho : w4.ownsRow Nc 4 1 v4 (C.length + 1) (bools C ++ [.bool x])) (hg : wc.grownBy w4 vc.ownBlock) :
  WldSt w w8 N Nc Nl G (w4.setCell ⟨G, 0, none⟩ v4) vh vg v4 vl (C ++ [x]) L := by
 have s2 := s.later hb
 have he := s.e
 have g4 := s2.g.grown s2.c hd hg
 refine ⟨by rw [bools_snoc, List.length_append]; exact owns_far ho hd _, owns_store (owns_other s2.l s2.c (by decide) hg) g4 (by decide) _ _, g4.set 0 v4, (s2.h.grown s2.c (by omega) hg).far (by show w.heap.size ≠ G; omega) _, (s2.q.grown s2.c (by omega) hg).far (by show w.heap.size + 1 ≠ G; omega) _, (s2.r.grown s2.c (by omega) hg).far (by show w.heap.size + 1 + 1 ≠ G; omega) _, ?_, fun a v h1 h2 h3 => cell_set_far (cell_beside (s2.k a v h1 h2 h3) s2.c hg (by omega)) h2, he⟩
 exact (s2.b.grown hg s2.b.size (fun k hk => by have := (s2.c.lt k hk).1; omega)).setCell (by show w.heap.size ≤ G; omega) _
theorem val_next {w w8 wr wc w4 : World} {N Nc Nl G : Nat} {vh vg : List Value} {vc vl v4 : Value} {C : List Bool} {L : List ValM} {x : ValM} (s : WldSt w w8 N Nc Nl G wr vh vg vc vl C L) (hd : G < Nl) (hn : N ≤ Nl) (hb : Below wr.heap.size wr wc) (ho : w4.ownsRow Nl 49 2 v4 (L.length + 1) (valsC L ++ [.int .i64 x.1, .int .i64 x.2])) (hg : wc.grownBy w4 vl.ownBlock) :
  WldSt w w8 N Nc Nl G (w4.setCell ⟨G, 1, none⟩ v4) vh vg vc v4 C (L ++ [x]) := by
 have s2 := s.later hb
 have he := s.e
 have g4 := s2.g.grown s2.l hd hg
 refine ⟨owns_store (owns_other s2.c s2.l (by decide) hg) g4 (by decide) _ _, by rw [valsC_snoc, List.length_append]; exact owns_far ho hd _, g4.set 1 v4, (s2.h.grown s2.l (by omega) hg).far (by show w.heap.size ≠ G; omega) _, (s2.q.grown s2.l (by omega) hg).far (by show w.heap.size + 1 ≠ G; omega) _, (s2.r.grown s2.l (by omega) hg).far (by show w.heap.size + 1 + 1 ≠ G; omega) _, ?_, fun a v h1 h2 h3 => cell_set_far (cell_beside (s2.k a v h1 h2 h3) s2.l hg (by omega)) h2, he⟩
 exact (s2.b.grown hg s2.b.size (fun k hk => by have := (s2.l.lt k hk).1; omega)).setCell (by show w.heap.size ≤ G; omega) _
theorem world_end {w w8 wr : World} {N Nc Nl G n1 n2 k1 k2 : Nat} {vh vg : List Value} {r0 r1 : Option Addr} {C : List Bool} {L : List ValM} (s : WldSt w w8 N Nc Nl G wr vh vg (.slice r0 n1 k1) (.slice r1 n2 k2) C L) :
  Blk ((wr.setCell ⟨w.heap.size + 1 + 1, 0, none⟩ (.slice r0 n1 k1)).setCell ⟨w.heap.size + 1 + 1, 1, none⟩ (.slice r1 n2 k2)) (w.heap.size + 1 + 1) 64 [.slice r0 n1 k1, .slice r1 n2 k2] ∧
  WorldV ((wr.setCell ⟨w.heap.size + 1 + 1, 0, none⟩ (.slice r0 n1 k1)).setCell ⟨w.heap.size + 1 + 1, 1, none⟩ (.slice r1 n2 k2)) (.agg #[.slice r0 n1 k1, .slice r1 n2 k2]) (C, L) ∧
   Below w.heap.size w ((wr.setCell ⟨w.heap.size + 1 + 1, 0, none⟩ (.slice r0 n1 k1)).setCell ⟨w.heap.size + 1 + 1, 1, none⟩ (.slice r1 n2 k2)) := by
 have r := s.r
 have k1' := owns_store (owns_store s.c r (by decide) 0 (.slice r0 n1 k1)) (r.set 0 _) (by decide) 1 (.slice r1 n2 k2)
 have k2' := owns_store (owns_store s.l r (by decide) 0 (.slice r0 n1 k1)) (r.set 0 _) (by decide) 1 (.slice r1 n2 k2)
 exact ⟨(r.set 0 _).set 1 _, ⟨_, _, rfl, own_bools k1' rfl, own_vals k2' rfl⟩, (s.b.setCell (by show w.heap.size ≤ w.heap.size + 1 + 1; omega) _).setCell (by show w.heap.size ≤ w.heap.size + 1 + 1; omega) _⟩
theorem worldA_no {h g : HistM} (hn : ¬ (mayH h ∧ wholeP g ∧ h.1 = g.1 ∧ h.2.1 = g.2.1 ∧ agreeG h.2.2 g.2.2)) : worldA h g = (([], []), false) := by
 unfold worldA
 rw [if_neg hn]
end Go.Proofs.YtmgchjddpmmglaaGreatDoor
