/-
  Layer 16 (world): a growing slice of worlds, in plain words; how many worlds there are. No conditions.
-/
import Derived.Test.YtdfegfagedeilaaGreatDoorXLl
import Derived.Test.YtdfegfagedeilaaGreatDoorXxWlS
namespace Go.Proofs.YtdfegfagedeilaaGreatDoor
open Go.RowKit Go.Lib
def bWb (w : World) (xs : List Value) (ms : List bK) : Prop := xs.length = ms.length * 2 ∧ ∀ i, i < ms.length → lI w (.agg #[xs.getD (i * 2) undef, xs.getD (i * 2 + 1) undef]) (ms.getD i ([], []))
theorem bWb.below {w w' : World} {xs : List Value} {ms : List bK} (h : bWb w xs ms) (hb : Below w.heap.size w w') : bWb w' xs ms := ⟨h.1, fun i hi => (h.2 i hi).below hb⟩
theorem bWb.nil (w : World) : bWb w [] [] := ⟨rfl, fun _ hi => absurd hi (Nat.not_lt_zero _)⟩
theorem bWb.snoc {w : World} {xs : List Value} {ms : List bK} {a b : Value} {m : bK} (h : bWb w xs ms) (hu : lI w (.agg #[a, b]) m) : bWb w (xs ++ [a, b]) (ms ++ [m]) := by
 refine ⟨by rw [List.length_append, List.length_append, h.1]; simp; omega, fun i hi => ?_⟩;rw [List.length_append] at hi;simp only [List.length_cons, List.length_nil] at hi;have hx := h.1;by_cases q : i < ms.length
 ·have e : ∀ j, j < xs.length → (xs ++ [a, b]).getD j undef = xs.getD j undef := fun j hj => by
   rw [List.getD_eq_getElem?_getD, List.getD_eq_getElem?_getD, List.getElem?_append_left hj]
  rw [e _ (by omega), e _ (by omega), show (ms ++ [m]).getD i ([], []) = ms.getD i ([], []) by rw [List.getD_eq_getElem?_getD, List.getD_eq_getElem?_getD, List.getElem?_append_left q]];exact h.2 i q
 ·obtain rfl : i = ms.length := by omega
  rw [← hx, show (xs ++ [a, b]).getD xs.length undef = a by rw [List.getD_eq_getElem?_getD, List.getElem?_append_right (Nat.le_refl _), Nat.sub_self]; rfl,
   show (xs ++ [a, b]).getD (xs.length + 1) undef = b by rw [List.getD_eq_getElem?_getD, List.getElem?_append_right (by omega), show xs.length + 1 - xs.length = 1 by omega]; rfl,
   show (ms ++ [m]).getD ms.length ([], []) = m by rw [List.getD_eq_getElem?_getD, List.getElem?_append_right (Nat.le_refl _), Nat.sub_self]; rfl]
  exact hu
def bWg (w : World) (v : Value) : Prop := ∀ g u, v.ownBlock = some g → w.cell? ⟨g, 0, none⟩ = some u → ∃ p k c, u = Value.slice p k c
theorem jA.grown {w w' : World} {p : Option Addr} {L : List Bool} {v : Value} (h : jA w p L) (hg : w.grownBy w' v.ownBlock) (hf : bWg w v) : jA w' p L := fun j hj => by
 obtain ⟨g, e, hc⟩ := h j hj;obtain ⟨g0, e0, hc0⟩ := h 0 (by omega);refine ⟨g, e, hg.cell hc fun q => ?_⟩;rw [e] at e0;injection e0 with e0;injection e0 with e0;subst e0;obtain ⟨p', k, c, eu⟩ := hf g _ q.symm hc0;cases eu
theorem lF.grown {w w' : World} {p : Option Addr} {L : List aR} {v : Value} (h : lF w p L) (hg : w.grownBy w' v.ownBlock) (hf : bWg w v) : lF w' p L := fun j hj => by
 obtain ⟨g, e, hc, hd⟩ := h j hj;obtain ⟨g0, e0, hc0, -⟩ := h 0 (by omega)
 have hne : some g ≠ v.ownBlock := fun q => by
  rw [e] at e0;injection e0 with e0;injection e0 with e0;subst e0;have hc1 : w.cell? ⟨g, 0, none⟩ = some (.int .i64 (L.getD 0 (0, 0)).1) := hc0;obtain ⟨p', k, c, eu⟩ := hf g _ q.symm hc1;cases eu
 exact ⟨g, e, hg.cell hc hne, hg.cell hd hne⟩
theorem lI.grown {w w' : World} {u : Value} {m : bK} {v : Value} (h : lI w u m) (hg : w.grownBy w' v.ownBlock) (hf : bWg w v) : lI w' u m := by
 obtain ⟨p0, c0, p1, c1, rfl, hb, hv, hc, hd⟩ := lY h;exact ⟨_, _, rfl, ⟨_, _, rfl, hc, hb.grown hg hf⟩, ⟨_, _, rfl, hd, hv.grown hg hf⟩⟩
theorem row_cells {w : World} {base size n : Nat} {e : TypeId} {v : Value} {xs : List Value} (h : w.ownsRow base e size v n xs) {j : Nat} (hj : j < xs.length) : ∃ g c, v = .slice (some ⟨g, 0, none⟩) n c ∧ w.cell? ⟨g, j, none⟩ = some (xs.getD j undef) := by
 rcases id h.2 with ⟨rfl, rfl⟩ | ⟨g, cap, cur, rfl, -⟩
 ·have := h.1;omega
 ·refine ⟨g, cap, rfl, ?_⟩;have h1 := h.cells (g := g) rfl j (xs.getD j undef) (by rw [List.getD_eq_getElem?_getD, List.getElem?_eq_getElem hj]; rfl);rw [Addr.add_lit, Nat.zero_add] at h1;exact h1
theorem bWk {w : World} {base n : Nat} {e : TypeId} {v : Value} {xs : List Value} {ms : List bK} (h : w.ownsRow base e 2 v n xs) (h0 : n = 0 → ∃ p, v = .slice p 0 0) (hl : bWb w xs ms) (hn : ms.length = n) : bWg w v := by
 intro g u hg hc;rcases Nat.eq_zero_or_pos n with q | q
 ·exfalso;rcases h.2 with ⟨rfl, -⟩ | ⟨g', cap, cur, rfl, -, hw, -, -, hsz, -⟩
  ·cases hg
  ·obtain ⟨p, e1⟩ := h0 q;injection e1 with _ _ e3;have hg' : g' = g := (by simpa [Value.ownBlock] using hg);subst hg';have hz : cur.size = 0 := (by rw [hsz, e3, Nat.zero_mul]);have : cur = #[] := Array.eq_empty_of_size_eq_zero hz;subst this;unfold World.cell? at hc;simp only [hw] at hc;simp at hc
 ·have hx := h.1;obtain ⟨g', c, rfl, hc'⟩ := row_cells h (j := 0) (by omega);have hg' : g' = g := (by simpa [Value.ownBlock] using hg);subst hg';rw [hc'] at hc;injection hc with hc;obtain ⟨p0, c0, p1, c1, e1, -⟩ := lY (hl.2 0 (by omega));injection e1 with e1
  have e2 : xs.getD (0 * 2) undef = .slice p0 (ms.getD 0 ([], [])).1.length c0 := by
   have := congrArg (fun a : Array Value => a[0]?) e1;simpa using this
  refine ⟨p0, (ms.getD 0 ([], [])).1.length, c0, ?_⟩;rw [← hc, ← e2]
theorem row_world {w : World} {base n : Nat} {e : TypeId} {v : Value} {xs : List Value} {ms : List bK} (h : w.ownsRow base e 2 v n xs) (hl : bWb w xs ms) (hn : ms.length = n) {i : Nat} (hi : i < n) :
  ∃ g c p k q d, v = .slice (some ⟨g, 0, none⟩) n c ∧ w.cell? ⟨g, i * 2, none⟩ = some (.slice p (ms.getD i ([], [])).1.length k) ∧ w.cell? ⟨g, i * 2 + 1, none⟩ = some (.slice q (ms.getD i ([], [])).2.length d) ∧ lI w (.agg #[.slice p (ms.getD i ([], [])).1.length k, .slice q (ms.getD i ([], [])).2.length d]) (ms.getD i ([], [])) := by
 have hx := hl.1;have hw := hl.2 i (by omega);obtain ⟨p0, c0, p1, c1, e1, -⟩ := lY hw;rw [e1] at hw;injection e1 with e1
 have e2 : xs.getD (i * 2) undef = .slice p0 (ms.getD i ([], [])).1.length c0 := by
  have := congrArg (fun a : Array Value => a[0]?) e1;simpa using this
 have e3 : xs.getD (i * 2 + 1) undef = .slice p1 (ms.getD i ([], [])).2.length c1 := by
  have := congrArg (fun a : Array Value => a[1]?) e1;simpa using this
 obtain ⟨g, c, rfl, h1⟩ := row_cells h (j := i * 2) (by omega);obtain ⟨g', c', eq, h2⟩ := row_cells h (j := i * 2 + 1) (by omega);injection eq with eq _ _;injection eq with eq;injection eq with eq;subst eq;rw [e2] at h1;rw [e3] at h2;exact ⟨g, c, p0, c0, p1, c1, rfl, h1, h2, hw⟩
theorem bWd : (Tryz.prog.info? 29).map (fun i => (i.zero, i.size, i.bytes)) = some (some (.agg #[.slice none 0 0, .slice none 0 0]), 2, 48) := by kernel_rfl
theorem bWo {w w' : World} {base n : Nat} {e : TypeId} {v a b : Value} {xs : List Value} {ms : List bK} {m : bK} (h : w.ownsRow base e 2 v n xs) (h0 : n = 0 → ∃ p, v = .slice p 0 0) (hl : bWb w xs ms) (hn : ms.length = n)
  (hu : lI w (.agg #[a, b]) m) (hg : w.grownBy w' v.ownBlock) (hb : base ≤ w.heap.size) : bWb w' (xs ++ [a, b]) (ms ++ [m]) ∧ lI w' (.agg #[a, b]) m ∧ Below base w w' := by
 have hf := bWk h h0 hl hn;have hu' := hu.grown hg hf;exact ⟨bWb.snoc ⟨hl.1, fun i hi => (hl.2 i hi).grown hg hf⟩ hu', hu', (Below.refl base w).grown hg hb fun k hk => (h.lt k hk).1⟩
theorem bWb.two_sets {w : World} {xs : List Value} {ms : List bK} {g n c n2 c2 : Nat} {q q2 : Option Addr} {a0 : Value} {t : TypeId} (h : bWb w xs ms) (hB : Blk w g t [.slice q2 n2 c2, a0]) (y : Value) : bWb ((w.setCell ⟨g, 0, none⟩ (.slice q n c)).setCell ⟨g, 1, none⟩ y) xs ms := ⟨h.1, fun i hi => (h.2 i hi).two_sets hB y⟩
theorem bWp {B C : Nat} {w w' : World} (h : Below C w w') (hBC : B ≤ C) : Below B w w' := ⟨h.os, h.tape, h.output, h.size, fun k hk => h.block k (Nat.lt_of_lt_of_le hk hBC)⟩
theorem bWq {α : Type} {P : α → Nat → Prop} {ms : List α} {m d : α} {n : Nat} (hn : ms.length = n) (h : ∀ i, i < n → P (ms.getD i d) i) (hm : P m n) : ∀ i, i < n + 1 → P ((ms ++ [m]).getD i d) i := by
 subst hn;intro i hi;rw [List.getD_eq_getElem?_getD];by_cases q : i < ms.length
 ·rw [List.getElem?_append_left q, ← List.getD_eq_getElem?_getD];exact h i q
 ·obtain rfl : i = ms.length := (by omega);rw [List.getElem?_append_right (Nat.le_refl _), Nat.sub_self];exact hm
def bWm : Value → Nat
 | .slice _ n _ => n
 | _ => 0
theorem bWc {h : aI} (hm : cZ h = true) (hc : bMy h ≤ 300) : bMy h = aQj (cA aP h).length (bD h) := by
 rw [bLl hm];unfold bMy at hc ⊢;rw [if_pos hm] at hc ⊢;unfold nN at hc ⊢;omega
theorem bWl {h : aI} (hc : bMy h ≤ 300) {m : bK} (ht : nX h m) : pV (bD h) m.1 m.2 < bMy h := by
 obtain ⟨hm, h1, -⟩ := pC ht;rw [bWc hm hc, ← h1];exact bMz _ _ _ ht.2
end Go.Proofs.YtdfegfagedeilaaGreatDoor
