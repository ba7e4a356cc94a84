/-
  A world of a history (fates, and lost values) as a value: an argument's, and one of the call's own. No conditions.
  The walk of layer 11's reference (hist): whether a transaction's operations may be; which keys they have. No conditions.
  The walk of layer 11's reference (hist): whether a history may be. No conditions.
  The walks of layer 11's reference (hist): which transactions are so, the reads that were lost, whether two lists of places are the same. No conditions.
  The walks of layer 11's statements (hist): the sample; the chapter's example. No conditions but that unicode/utf8's two tables are as their initialisers lay them.
-/
import Derived.Test.YtdfegfagedeilaaGreatDoorXLi
namespace Go.Proofs.YtdfegfagedeilaaGreatDoor
section
open Go.ChangeShapes Go.WideShapes Go.ChangeAt Go.RowKit Go.Joins
def aZ (x : aR) : List Value := [.int .i64 x.1, .int .i64 x.2]
def aUl (_ : World) (cs : List Value) (b : Bool) : Prop := cs = [.bool b]
def bBn (_ : World) (cs : List Value) (x : aR) : Prop := cs = aZ x
def vU (w : World) (v : Value) (L : List Bool) : Prop := SlR 1 aUl w v L
def aBm (w : World) (v : Value) (L : List aR) : Prop := SlR 2 bBn w v L
def vX (w : World) (v : Value) (m : bK) : Prop := ∃ v0 v1, v = .agg #[v0, v1] ∧ vU w v0 m.1 ∧ aBm w v1 m.2
theorem vU.below {w w' : World} {v : Value} {L : List Bool} (h : vU w v L) (hb : Below w.heap.size w w') : vU w' v L := SlR.below (fun _ _ _ _ _ h => h) h hb
theorem aBm.below {w w' : World} {v : Value} {L : List aR} (h : aBm w v L) (hb : Below w.heap.size w w') : aBm w' v L := SlR.below (fun _ _ _ _ _ h => h) h hb
theorem vX.below {w w' : World} {v : Value} {m : bK} (h : vX w v m) (hb : Below w.heap.size w w') : vX w' v m := by
 obtain ⟨v0, v1, e, h0, h1⟩ := h;exact ⟨v0, v1, e, h0.below hb, h1.below hb⟩
section
variable {H : Type} {enc : TypeId × Value → H} {w : World} {base : Nat} {spare : Nat → Bool} {held : Bool}
theorem aSq {n : Nat} {cs : List Value} {y : DataW H × List MemPlace} (h : DataW.trod enc Tryz.prog w base spare held n 4 cs = some y) : ∃ s, aUl w cs s := by
 obtain ⟨b, hb, -⟩ := DataW.trod_bool Tryz.underlying4 h;exact ⟨b, hb⟩
theorem bEd {n : Nat} {cs : List Value} {y : DataW H × List MemPlace} (h : DataW.trod enc Tryz.prog w base spare held n 57 cs = some y) : ∃ s, bBn w cs s := by
 obtain ⟨k, m, e⟩ := aEg h;exact ⟨(k, m), e⟩
set_option maxRecDepth 100000 in
theorem open_world {r : Reach} {b0 : Nat} {v : Value} {d : DataW H} {ps : List MemPlace} (hval : Value.okWide Tryz.prog w r b0 29 v) (hd : DataW.Trod enc Tryz.prog w base spare held 29 v d ps) : ∃ m, vX w v m := by
 obtain ⟨cs, rfl, -⟩ := okWide_struct Tryz.underlying29 hval;obtain ⟨fuel, h⟩ := hd;obtain ⟨l⟩ := cs;have h : DataW.trod enc Tryz.prog w base spare held fuel 29 l = some (d, ps) := h;have hl := qV Tryz.underlying29 h;obtain ⟨n0, y0, h0⟩ := jD 0 0 26 1 Tryz.underlying29 h rfl rfl rfl (by kernel_rfl);obtain ⟨n1, y1, h1⟩ := jD 1 1 27 1 Tryz.underlying29 h rfl rfl rfl (by kernel_rfl);obtain ⟨v0, L0, e0, a0⟩ : ∃ v L, _ = [v] ∧ SlR 1 aUl w v L := tY Tryz.underlying26 (by kernel_rfl) (fun _ _ _ h => aSq h) h0;obtain ⟨v1, L1, e1, a1⟩ : ∃ v L, _ = [v] ∧ SlR 2 bBn w v L := tY Tryz.underlying27 (by kernel_rfl) (fun _ _ _ h => bEd h) h1;rw [show Tryz.prog.cellsOf 29 = 2 by kernel_rfl] at hl
 match l, hl with
 | [a, b], _ =>
  simp at e0 e1;subst e0 e1;exact ⟨(L0, L1), a, b, rfl, a0, a1⟩
end
def jA (w : World) (p : Option Addr) (L : List Bool) : Prop := ∀ j, j < L.length → ∃ g, p = some ⟨g, 0, none⟩ ∧ w.cell? ⟨g, j, none⟩ = some (.bool (L.getD j false))
def lF (w : World) (p : Option Addr) (L : List aR) : Prop := ∀ j, j < L.length → ∃ g, p = some ⟨g, 0, none⟩ ∧ w.cell? ⟨g, j * 2, none⟩ = some (.int .i64 (L.getD j aN).1) ∧ w.cell? ⟨g, j * 2 + 1, none⟩ = some (.int .i64 (L.getD j aN).2)
theorem jA.below {w w' : World} {p : Option Addr} {L : List Bool} (h : jA w p L) (hb : Below w.heap.size w w') : jA w' p L := fun j hj => by
 obtain ⟨g, e, hc⟩ := h j hj;exact ⟨g, e, cell_later hb hc⟩
theorem lF.below {w w' : World} {p : Option Addr} {L : List aR} (h : lF w p L) (hb : Below w.heap.size w w') : lF w' p L := fun j hj => by
 obtain ⟨g, e, h1, h2⟩ := h j hj;exact ⟨g, e, cell_later hb h1, cell_later hb h2⟩
def qW (w : World) (v : Value) (L : List Bool) : Prop := ∃ p c, v = .slice p L.length c ∧ (L.length ≤ c ∧ c ≤ maxLen) ∧ jA w p L
def oS (w : World) (v : Value) (L : List aR) : Prop := ∃ p c, v = .slice p L.length c ∧ (L.length ≤ c ∧ c ≤ maxLen) ∧ lF w p L
theorem qW.below {w w' : World} {v : Value} {L : List Bool} (h : qW w v L) (hb : Below w.heap.size w w') : qW w' v L := by
 obtain ⟨p, c, e, hc, hh⟩ := h;exact ⟨p, c, e, hc, hh.below hb⟩
theorem oS.below {w w' : World} {v : Value} {L : List aR} (h : oS w v L) (hb : Below w.heap.size w w') : oS w' v L := by
 obtain ⟨p, c, e, hc, hh⟩ := h;exact ⟨p, c, e, hc, hh.below hb⟩
theorem aQn (w : World) : qW w (.slice none 0 0) [] := ⟨none, 0, rfl, ⟨Nat.le_refl _, Nat.zero_le _⟩, fun j hj => absurd hj (Nat.not_lt_zero j)⟩
theorem bBa (w : World) : oS w (.slice none 0 0) [] := ⟨none, 0, rfl, ⟨Nat.le_refl _, Nat.zero_le _⟩, fun j hj => absurd hj (Nat.not_lt_zero j)⟩
def lI (w : World) (v : Value) (m : bK) : Prop := ∃ v0 v1, v = .agg #[v0, v1] ∧ qW w v0 m.1 ∧ oS w v1 m.2
theorem lI.below {w w' : World} {v : Value} {m : bK} (h : lI w v m) (hb : Below w.heap.size w w') : lI w' v m := by
 obtain ⟨v0, v1, e, h0, h1⟩ := h;exact ⟨v0, v1, e, h0.below hb, h1.below hb⟩
theorem aVg (w : World) : lI w (.agg #[.slice none 0 0, .slice none 0 0]) ([], []) := ⟨_, _, rfl, aQn w, bBa w⟩
theorem lY {w : World} {v : Value} {m : bK} (h : lI w v m) : ∃ p0 c0 p1 c1, v = .agg #[.slice p0 m.1.length c0, .slice p1 m.2.length c1] ∧ jA w p0 m.1 ∧ lF w p1 m.2 ∧ (m.1.length ≤ c0 ∧ c0 ≤ maxLen) ∧ (m.2.length ≤ c1 ∧ c1 ≤ maxLen) := by
 obtain ⟨v0, v1, e, ⟨p0, c0, e0, hc0, h0⟩, ⟨p1, c1, e1, hc1, h1⟩⟩ := h;subst e0 e1;exact ⟨p0, c0, p1, c1, e, h0, h1, hc0, hc1⟩
def bG (L : List Bool) : List Value := L.map fun b => .bool b
def aJ (L : List aR) : List Value := L.flatMap aZ
theorem yC (L : List Bool) (k : Nat) (b : Bool) : bG (L.set k b) = (bG L).set k (.bool b) := by simp [bG, List.map_set]
theorem aBt (L : List Bool) (k : Nat) (hk : k < L.length) : (bG L)[k]? = some (.bool (L.getD k false)) := by simp [bG, hk]
theorem bC (L : List aR) : (aJ L).length = L.length * 2 := by
 unfold aJ
 induction L with
 | nil => rfl
 | cons x L ih => rw [List.flatMap_cons, List.length_append, ih, List.length_cons]; simp [aZ]; omega
theorem gD (L : List Bool) : (bG L).length = L.length := by simp [bG]
theorem lK (L : List Bool) : ∀ u ∈ bG L, u.oneCell' = true := by
 intro u hu;obtain ⟨b, -, rfl⟩ := List.mem_map.1 hu;rfl
theorem bJ (L : List aR) : ∀ u ∈ aJ L, u.oneCell' = true := by
 intro u hu;obtain ⟨o, -, ho⟩ := List.mem_flatMap.1 hu;simp [aZ] at ho;rcases ho with rfl | rfl <;> rfl
theorem qO {w : World} {base n : Nat} {e : TypeId} {v : Value} {L : List Bool} (h : w.ownsRow base e 1 v n (bG L)) (hn : n = L.length) : qW w v L := by
 subst hn;obtain ⟨p, cap, rfl, hl, hm, hc⟩ := qP h;refine ⟨p, cap, rfl, ⟨hl, hm⟩, fun j hj => ?_⟩;obtain ⟨g, rfl, h0⟩ := hc j (.bool (L.getD j false)) (by omega) (by simp [bG, hj]);exact ⟨g, rfl, h0⟩
theorem qR {w : World} {base n : Nat} {e : TypeId} {v : Value} {L : List aR} (h : w.ownsRow base e 2 v n (aJ L)) (hn : n = L.length) : oS w v L := by
 subst hn;obtain ⟨p, cap, rfl, hl, hm, hc⟩ := qP h;refine ⟨p, cap, rfl, ⟨hl, hm⟩, fun j hj => ?_⟩
 have hg : ∀ i u, i < 2 → (aZ (L.getD j aN))[i]? = some u → ∃ g, p = some ⟨g, 0, none⟩ ∧ w.cell? ⟨g, j * 2 + i, none⟩ = some u := fun i u hi hu =>
  hc _ u (by omega) (by rw [aJ, kB aZ 2 (fun _ => rfl) aN L j i hj hi]; exact hu)
 obtain ⟨g, rfl, h0⟩ := hg 0 _ (by omega) rfl;obtain ⟨g1, e1, h1⟩ := hg 1 _ (by omega) rfl;cases e1;exact ⟨g, rfl, h0, h1⟩
theorem oB : (Tryz.prog.info? 4).map (fun i => (i.zero, i.size, i.bytes)) = some (some (.bool false), 1, 1) := by kernel_rfl
theorem aCx : (Tryz.prog.info? 57).map (fun i => (i.zero, i.size, i.bytes)) = some (some (.agg #[.int .i64 0, .int .i64 0]), 2, 16) := by kernel_rfl
theorem bO {w : World} {b : Nat} {x y : Value} (h : Blk w b 29 [x, y]) : (loadVar 29 ⟨b, 0, none⟩).run Tryz.prog w = .ok (.agg #[x, y]) w := by
 have hr : w.rangeAt b 0 [x, y] := fun j v hj => (by rw [Nat.zero_add]; exact h.cell j hj);exact run_loadVar_mid (P := Tryz.prog) w b 0 29 [x, y] _ hr Tryz.underlying29 rfl (by kernel_rfl)
end
section
open Go.RowKit Go.Lib
def jY (U : List Bool) : List Value := U.map fun b => .bool b
theorem aFp (U : List Bool) (j : Nat) (b : Bool) : (jY U).set j (.bool b) = jY (U.set j b) := by simp [jY, List.map_set]
theorem sW (U : List Bool) (j : Nat) (h : j < U.length) : (jY U)[j]? = some (.bool (U.getD j false)) := by simp [jY, h]
theorem tE {w w' : World} (h : Below w.heap.size w w') (row : Option Nat) : w.grownBy w' row := ⟨h.os, h.tape, h.output, h.size, fun k hk _ => h.block k hk⟩
theorem cV {a b c : World} {row : Option Nat} (h : a.grownBy b row) (k : b.grownBy c row) : a.grownBy c row :=
 ⟨k.os.trans h.os, k.tape.trans h.tape, k.output.trans h.output, Nat.le_trans h.size k.size, fun i hi hne => (k.block i (Nat.lt_of_lt_of_le hi h.size) hne).trans (h.block i hi hne)⟩
theorem aHl (w : World) (b j : Nat) (v : Value) : w.grownBy (w.setCell ⟨b, j, none⟩ v) (some b) :=
 ⟨rfl, rfl, rfl, by simp [World.setCell], fun k _ hk => Below.heap_setCell w _ v k (fun e => hk (by rw [e]))⟩
theorem jG {w w' : World} {row : Nat} {a : Addr} {v : Value} (h : w.cell? a = some v) (hg : w.grownBy w' (some row)) (hne : a.block ≠ row) : w'.cell? a = some v := hg.cell h (fun e => hne (Option.some.inj e))
def bJt (w : World) (base gu cu : Nat) (U M : List Bool) (b : Bool) (w' : World) : Prop :=
 w.grownBy w' (some gu) ∧ ∃ U' : List Bool, w'.ownsRow base 4 1 (.slice (some ⟨gu, 0, none⟩) U.length cu) U.length (jY U') ∧ U'.length = U.length ∧ (b = true → U' = M)
theorem vM {w : World} {base gu cu : Nat} {U M : List Bool} {b : Bool} {w' : World} (h1 : w.grownBy w' (some gu)) (U' : List Bool) (h2 : w'.ownsRow base 4 1 (.slice (some ⟨gu, 0, none⟩) U.length cu) U.length (jY U')) (h3 : U'.length = U.length) (h4 : b = true → U' = M) : bJt w base gu cu U M b w' := ⟨h1, U', h2, h3, h4⟩
set_option maxRecDepth 100000 in
set_option maxHeartbeats 4000000 in
theorem bFc (v0 v1 v2 sv : Value) (S K : List (List UInt8)) (t : bB) (gu cu : Nat) (U : List Bool) (base : Nat) (w : World) (h0 : bF w v0 S) (h1 : bF w v1 K) (h2 : ∃ p c n, v2 = .slice p n c) (hs : qF w sv t.2.2) (hl : t.2.2.length ≤ 1000)
  (_ : K.length ≤ 1000000) (hU : U.length = K.length) (hu : w.ownsRow base 4 1 (.slice (some ⟨gu, 0, none⟩) U.length cu) U.length (jY U)) (hne : ∀ j, j < t.2.2.length → ∀ p n c, sv = .slice (some p) n c → p.block ≠ gu) :
  Calls Tryz.prog 41 #[.agg #[v0, v1, v2], .agg #[.int .i64 t.1, .int .i64 t.2.1, sv], .slice (some ⟨gu, 0, none⟩) U.length cu] w fun e w' => e = .returned (.bool (bQ S.length t && t.2.2.all (jS K.length))) ∧ bJt w base gu cu U (dC U (t.2.2.map (·.2.1))) (bQ S.length t && t.2.2.all (jS K.length)) w' := by
 obtain ⟨p0, c0, rfl, -⟩ := h0;obtain ⟨p1, c1, rfl, -⟩ := h1;obtain ⟨p2, c2, n2, rfl⟩ := h2;obtain ⟨ps, cs, rfl, -, ho⟩ := hs;obtain ⟨s, f, tl⟩ := t;simp only at ho hl hne;have HO := lhid ho;have HNE := lhid hne;have hU1 : U.length ≤ K.length := (by omega);have hU2 : K.length ≤ U.length := (by omega);clear hU;have gw : gu < w.heap.size := (hu.lt gu rfl).2;have hbx : w.grownBy ((w.alloc (.cells #[.slice p0 S.length c0, .slice p1 K.length c1, .slice p2 n2 c2] 25)).alloc (.cells #[.int .i64 s, .int .i64 f, .slice ps tl.length cs] 67)) (some gu) := cV (World.grownBy_alloc _ _ _) (World.grownBy_alloc _ _ _);have hux := (hu.alloc (.cells #[.slice p0 S.length c0, .slice p1 K.length c1, .slice p2 n2 c2] 25)).alloc (.cells #[.int .i64 s, .int .i64 f, .slice ps tl.length cs] 67);have b0 := (Blk.new w 25 [.slice p0 S.length c0, .slice p1 K.length c1, .slice p2 n2 c2]).alloc (.cells #[.int .i64 s, .int .i64 f, .slice ps tl.length cs] 67);have b1 := Blk.new (w.alloc (.cells #[.slice p0 S.length c0, .slice p1 K.length c1, .slice p2 n2 c2] 25)) 67 [.int .i64 s, .int .i64 f, .slice ps tl.length cs];simp only [World.size_alloc] at b1;have HBX := lhid hbx;have HUX := lhid hux;have B0 := lhid b0;have B1 := lhid b1;clear ho hne hbx hux b0 b1 hu
 -- the five tests ahead of the loop
 by_cases g1 : s < 0
 ·have hok : bQ S.length (s, f, tl) = false := by
   rw [Bool.eq_false_iff];simp only [bQ, dV, ne_eq, Bool.and_eq_true, decide_eq_true_eq];omega
  rw [hok, Bool.false_and];clear hok;go_enter Tryz.func41, Tryz.ntmps41;(go_wp2_with fail);go_ret;exact ⟨rfl, vM HBX.out U HUX.out rfl (fun h => by cases h)⟩
 by_cases g2 : (S.length : Int) ≤ s
 ·have hok : bQ S.length (s, f, tl) = false := by
   rw [Bool.eq_false_iff];simp only [bQ, dV, ne_eq, Bool.and_eq_true, decide_eq_true_eq];omega
  rw [hok, Bool.false_and];clear hok;go_enter Tryz.func41, Tryz.ntmps41;(go_wp2_with fail);go_ret;exact ⟨rfl, vM HBX.out U HUX.out rfl (fun h => by cases h)⟩
 by_cases g3 : f < 1
 ·have hok : bQ S.length (s, f, tl) = false := by
   rw [Bool.eq_false_iff];simp only [bQ, dV, ne_eq, Bool.and_eq_true, decide_eq_true_eq];omega
  rw [hok, Bool.false_and];clear hok;go_enter Tryz.func41, Tryz.ntmps41;(go_wp2_with fail);go_ret;exact ⟨rfl, vM HBX.out U HUX.out rfl (fun h => by cases h)⟩
 by_cases g4 : 3 < f
 ·have hok : bQ S.length (s, f, tl) = false := by
   rw [Bool.eq_false_iff];simp only [bQ, dV, ne_eq, Bool.and_eq_true, decide_eq_true_eq];omega
  rw [hok, Bool.false_and];clear hok;go_enter Tryz.func41, Tryz.ntmps41;(go_wp2_with fail);go_ret;exact ⟨rfl, vM HBX.out U HUX.out rfl (fun h => by cases h)⟩
 by_cases g5 : 20 < tl.length
 ·have hok : bQ S.length (s, f, tl) = false := by
   rw [Bool.eq_false_iff];simp only [bQ, dV, ne_eq, Bool.and_eq_true, decide_eq_true_eq];omega
  rw [hok, Bool.false_and];clear hok;go_enter Tryz.func41, Tryz.ntmps41;(go_wp2_with fail);go_ret;exact ⟨rfl, vM HBX.out U HUX.out rfl (fun h => by cases h)⟩
 have hok : bQ S.length (s, f, tl) = true := by
  simp only [bQ, dV, Bool.and_eq_true, decide_eq_true_eq];omega
 rw [hok, Bool.true_and];clear hok;go_enter Tryz.func41, Tryz.ntmps41;go_wp2_with fail
 go_loopw [7] (fun i wr => ∃ k : Nat, k ≤ tl.length ∧ i = .int .i64 k ∧ (∀ j, j < k → jS K.length (tl.getD j cG) = true) ∧ wr.ownsRow base 4 1 (.slice (some ⟨gu, 0, none⟩) U.length cu) U.length (jY (dC U (tP tl k))) ∧ ((w.alloc (.cells #[.slice p0 S.length c0, .slice p1 K.length c1, .slice p2 n2 c2] 25)).alloc (.cells #[.int .i64 s, .int .i64 f, .slice ps tl.length cs] 67)).grownBy wr (some gu)) (fun i _ => tl.length - (RowKit.intOf i).toNat)
 case atStart => exact ⟨0, Nat.zero_le _, rfl, fun j hj => absurd hj (Nat.not_lt_zero j), HUX.out, World.grownBy.refl _ _⟩
 case round =>
  obtain ⟨k, hk, rfl, hn, hown, hg⟩ := hrel;have y0 := B0.out.kept hg (fun e => by have := Option.some.inj e; omega);have y1 := B1.out.kept hg (fun e => by have := Option.some.inj e; omega);have x1 := y0.cell 1 rfl;have x2 := y1.cell 2 rfl;have hz0 : w.heap.size < wr.heap.size := y0.lt;have hz1 : w.heap.size + 1 < wr.heap.size := y1.lt;have HN := lhid hn;have hgw := cV HBX.out hg;clear y0 y1 hn;by_cases hk1 : k < tl.length
  ·obtain ⟨g, rfl, o0, o1, o2, o3⟩ := HO.out k hk1;have hgn : g ≠ gu := HNE.out k hk1 _ _ _ rfl;have a0 := jG o0 hgw hgn;have a1 := jG o1 hgw hgn;have a2 := jG o2 hgw hgn;have a3 := jG o3 hgw hgn;have hkn := aRu tl k hk1
   have HNo : Hid (jS K.length (tl.getD k cG) = false → tl.all (jS K.length) = false) := lhid (fun hf => by
    rw [List.all_eq_false];refine ⟨tl.getD k cG, ?_, by rw [hf]; exact Bool.false_ne_true⟩;have : tl.getD k cG = tl[k] := (by simp [hk1]);rw [this]
    exact List.getElem_mem hk1)
   have HYes : Hid (jS K.length (tl.getD k cG) = true → ∀ j, j < k + 1 → jS K.length (tl.getD j cG) = true) := lhid (fun h j hj => by
    by_cases hjk : j < k
    ·exact HN.out j hjk
    ·obtain rfl : j = k := by omega
     exact h)
   obtain ⟨o, hoo⟩ : ∃ o, tl.getD k cG = o := ⟨_, rfl⟩;rw [hoo] at a0 a1 a2 a3 hkn HNo HYes;obtain ⟨ow, ok, od, on⟩ := o;simp only at a0 a1 a2 a3 hkn;have HKN := lhid hkn;clear o0 o1 o2 o3 hoo hkn HO;by_cases q1 : ok < 0
   ·have hf : jS K.length (ow, ok, od, on) = false := by
     rw [Bool.eq_false_iff];simp only [jS, dV, ne_eq, Bool.and_eq_true, decide_eq_true_eq];omega
    have HF := lhid (HNo.out hf);clear hf;(go_wp2_with fail);go_ret;rw [HF.out];exact ⟨rfl, vM (cV hgw (World.grownBy_alloc _ _ _)) _ (hown.alloc _) (jO _ _) (fun h => by cases h)⟩
   by_cases q2 : (K.length : Int) ≤ ok
   ·have hf : jS K.length (ow, ok, od, on) = false := by
     rw [Bool.eq_false_iff];simp only [jS, dV, ne_eq, Bool.and_eq_true, decide_eq_true_eq];omega
    have HF := lhid (HNo.out hf);clear hf;(go_wp2_with fail);go_ret;rw [HF.out];exact ⟨rfl, vM (cV hgw (World.grownBy_alloc _ _ _)) _ (hown.alloc _) (jO _ _) (fun h => by cases h)⟩
   have hin : dV ok K.length = true := by
    simp only [dV, Bool.and_eq_true, decide_eq_true_eq];omega
   have HOK : Hid (jS K.length (ow, ok, od, on) = (kW od on && (!ow || od == 1))) := lhid (by simp only [jS]; rw [hin, Bool.true_and]);obtain ⟨nk, rfl⟩ := Int.eq_ofNat_of_zero_le (show (0 : Int) ≤ ok by omega);have hnk : nk < U.length := (by omega);have hml : (dC U (tP tl k)).length = U.length := jO _ _;have ox := Blk.new wr 82 [.bool ow, .int .i64 (nk : Int), .int .i64 od, .int .i64 on];have HX := lhid ox;have HMay := lhid (bAb od on (wr.alloc (.cells #[.bool ow, .int .i64 (nk : Int), .int .i64 od, .int .i64 on] 82)));have HG := lhid hgw;have HG1 := lhid hg;clear hin ox hgw hg
   cases hv : kW od on with
   | false =>
    rw [hv] at HMay HOK;have HF := lhid (HNo.out (by rw [HOK.out]; rfl));clear hv;(go_wp2_with fail);refine HMay.out.mono ?_;rintro e w3 ⟨rfl, hb3⟩;have hown3 := aS (hown.alloc _) hb3;have HG3 := lhid (cV (cV HG.out (World.grownBy_alloc _ _ _)) (tE hb3 _));clear hb3 hown;(go_wp2_with fail);go_ret;rw [HF.out];exact ⟨rfl, vM HG3.out _ hown3 (jO _ _) (fun h => by cases h)⟩
   | true =>
    rw [hv, Bool.true_and] at HOK;rw [hv] at HMay;clear hv;by_cases q3 : ow = true ∧ od ≠ 1
    ·obtain ⟨rfl, q4⟩ := q3;have q5 : (od == 1) = false := beq_eq_false_iff_ne.2 q4;have q6 : (od != 1) = true := bne_iff_ne.2 q4;have HF := lhid (HNo.out (by rw [HOK.out, q5]; rfl));clear q4;(go_wp2_with fail);refine HMay.out.mono ?_;rintro e w3 ⟨rfl, hb3⟩;have hown3 := aS (hown.alloc _) hb3;have xx := HX.out.later hb3;have z0 := xx.cell 0 rfl;have z1 := xx.cell 1 rfl;have z2 := xx.cell 2 rfl;have HG3 := lhid (cV (cV HG.out (World.grownBy_alloc _ _ _)) (tE hb3 _));clear hb3 hown xx;(go_wp2_with fail);go_ret;rw [HF.out];exact ⟨rfl, vM HG3.out _ hown3 (jO _ _) (fun h => by cases h)⟩
    ·have hyes : jS K.length (ow, (nk : Int), od, on) = true := by
      rw [HOK.out]
      cases ow with
      | false => rfl
      | true =>
       by_cases e : od = 1
       ·rw [e]; rfl
       ·exact absurd ⟨rfl, e⟩ q3
     have HY := lhid (HYes.out hyes)
     have q7 : ow = false ∨ (ow = true ∧ od = 1) := by
      cases ow with
      | false => exact .inl rfl
      | true =>
       by_cases e : od = 1
       ·exact .inr ⟨rfl, e⟩
       ·exact absurd ⟨rfl, e⟩ q3
     clear q3 hyes;rcases q7 with rfl | ⟨rfl, rfl⟩
     all_goals
      (go_wp2_with fail);refine HMay.out.mono ?_;rintro e w3 ⟨rfl, hb3⟩;have hown3 := aS (hown.alloc _) hb3;have xx := HX.out.later hb3;have z0 := xx.cell 0 rfl;have z1 := xx.cell 1 rfl;have z2 := xx.cell 2 rfl
      have r1 : w3.cell? ⟨gu, nk, none⟩ = some (.bool ((dC U (tP tl k)).getD nk false)) := by
       rw [hown3.cellAt nk (by omega)];exact sW _ _ (by omega)
      have r2 := hown3.frozenAt nk;generalize (dC U (tP tl k)).getD nk false = old at r1;have hst := hown3.stored nk (.bool true);rw [aFp, show (dC U (tP tl k)).set nk true = dC U (tP tl (k + 1)) by rw [HKN.out, aDs]; rfl] at hst;have HST := lhid hst.1;have HG3 := lhid (cV (cV (cV HG1.out (World.grownBy_alloc _ _ _)) (tE hb3 _)) (aHl w3 gu nk (.bool true)));have hu1 : (nk : Int) < (U.length : Int) := (by omega);clear hb3 hown xx hown3 hst;(go_wp2_with fail);go_roundw
      case rel => exact ⟨k + 1, by omega, by go_num, HY.out, HST.out, HG3.out⟩
      case measure => simp [RowKit.intOf]; omega
  ·have hke : k = tl.length := by omega
   have hall : tl.all (jS K.length) = true := by
    rw [List.all_eq_true];intro x hx;obtain ⟨j, hj, e⟩ := List.getElem_of_mem hx;have := HN.out j (by omega);simpa [hj, e] using this
   have hmk : dC U (tP tl k) = dC U (tl.map (·.2.1)) := (by rw [hke, tP, List.take_length]);have HA := lhid hall;have HMK := lhid hmk;clear hall hmk;(go_wp2_with fail);go_ret;rw [HA.out];exact ⟨rfl, vM hgw _ hown (jO _ _) (fun _ => HMK.out)⟩
end
section
open Go.RowKit Go.Lib
theorem aXp : (Tryz.prog.info? 4).map (fun i => (i.zero, i.size, i.bytes)) = some (some (.bool false), 1, 1) := by kernel_rfl
theorem sJ (n : Nat) : (madeCells (Value.cells (.bool false)) (n * 1)).toList = jY (List.replicate n false) := by
 rw [Nat.mul_one];show (madeCells #[.bool false] n).toList = _;rw [toList_madeCells_one];simp [jY]
theorem bMp {n : Nat} {a W : World} (hn : n ≤ a.heap.size) (h : Below n a W) (o : Obj) : Below n a (W.alloc o) := h.alloc (Nat.le_trans hn h.size) o
theorem xR (w W : World) (n m : Nat) (hw : w.heap.size + 1 ≤ W.heap.size) (hn : n ≤ 1000) (hm : m ≤ 1000) :
  ((W.alloc (.cells (madeCells #[.bool false] n) 4)).alloc (.cells (madeCells #[.bool false] m) 4)).drew.ownsRow (w.heap.size + 1) 4 1 (.slice (some ⟨W.heap.size, 0, none⟩) n n) n (jY (List.replicate n false)) ∧
  ((W.alloc (.cells (madeCells #[.bool false] n) 4)).alloc (.cells (madeCells #[.bool false] m) 4)).drew.ownsRow (w.heap.size + 1) 4 1 (.slice (some ⟨W.heap.size + 1, 0, none⟩) m m) m (jY (List.replicate m false)) := by
 have h1 := World.ownsRow_lit (base := w.heap.size + 1) (e := 4) (size := 1) W (madeCells #[.bool false] (n * 1)) n hw (by unfold maxLen; omega) (by rw [size_madeCells]);have h2 := World.ownsRow_lit (base := w.heap.size + 1) (e := 4) (size := 1) (W.alloc (.cells (madeCells #[.bool false] n) 4)) (madeCells #[.bool false] (m * 1)) m (by simp; omega) (by unfold maxLen; omega) (by rw [size_madeCells]);have e1 := sJ n;have e2 := sJ m;simp only [Nat.mul_one] at h1 h2 e1 e2;rw [show Value.cells (.bool false) = #[.bool false] from rfl] at e1 e2;rw [e1] at h1;rw [e2] at h2;simp only [World.size_alloc] at h2;exact ⟨(h1.alloc _).drew, h2.drew⟩
theorem bKy (v0 v1 v2 sv : Value) (S K : List (List UInt8)) (t : bB) (gu cu : Nat) (U : List Bool) (base : Nat) (w : World) (h0 : bF w v0 S) (h1 : bF w v1 K) (h2 : ∃ p c n, v2 = .slice p n c) (hs : qF w sv t.2.2) (hl : t.2.2.length ≤ 1000)
  (hK : K.length ≤ 1000000) (hU : U.length = K.length) (hu : w.ownsRow base 4 1 (.slice (some ⟨gu, 0, none⟩) K.length cu) K.length (jY U)) (hne : ∀ j, j < t.2.2.length → ∀ p n c, sv = .slice (some p) n c → p.block ≠ gu) :
  Calls Tryz.prog 41 #[.agg #[v0, v1, v2], .agg #[.int .i64 t.1, .int .i64 t.2.1, sv], .slice (some ⟨gu, 0, none⟩) K.length cu] w fun e w' => e = .returned (.bool (bQ S.length t && t.2.2.all (jS K.length))) ∧
   (w.grownBy w' (some gu) ∧ ∃ U' : List Bool, w'.ownsRow base 4 1 (.slice (some ⟨gu, 0, none⟩) K.length cu) K.length (jY U') ∧ U'.length = K.length ∧ ((bQ S.length t && t.2.2.all (jS K.length)) = true → U' = dC U (t.2.2.map (·.2.1)))) := by
 have h := bFc v0 v1 v2 sv S K t gu cu U base w h0 h1 h2 hs hl hK hU (by rw [hU]; exact hu) hne;rw [hU] at h;refine h.mono ?_;rintro e w' ⟨he, hg, U', a, b, c⟩;rw [hU] at a b;exact ⟨he, hg, U', a, b, c⟩
theorem sH (w : World) (row : Option Nat) : w.grownBy w.drew row := ⟨rfl, rfl, rfl, Nat.le_refl _, fun _ _ _ => rfl⟩
set_option maxRecDepth 100000 in
set_option maxHeartbeats 8000000 in
theorem bFb (v0 v1 v2 : Value) (h : aI) (w : World) (h0 : bF w v0 h.1) (h1 : bF w v1 h.2.1) (h2 : kM w v2 h.2.2) (hm : cU h) :
  Calls Tryz.prog 12 #[.agg #[v0, v1, v2]] w fun e w' => e = .returned (.int .i64 (tI h)) ∧ Below w.heap.size w w' := by
 obtain ⟨m1, m2, m3, m4, m5, m6⟩ := hm;have H1 := lhid (fun w' (hw : bF w' v0 h.1) => aOw w' v0 h.1 hw (by omega) m4);have H2 := lhid (fun w' (hw : bF w' v1 h.2.1) => aOw w' v1 h.2.1 hw (by omega) m5);have HM6 := lhid m6;have T0 := lhid h0;have T1 := lhid h1;obtain ⟨p2, c2, rfl, hp⟩ := h2;obtain ⟨p0, c0, rfl, -⟩ := h0;obtain ⟨p1, c1, rfl, -⟩ := h1;have HX := lhid hp;have HF : Hid (mV h = false → tI h = 4) := lhid (fun e => pH (by rw [aNq, e]; rfl));have HT : Hid (mV h = true → ∀ b, (h.2.2.all (lC h) && xU h) = b → tI h = if b then 0 else 4) := lhid (fun e b hb => by unfold tI; rw [aNq, e, Bool.true_and, hb]);have HH : Hid (mV h = (isT h.1 && (isT h.2.1 && (decide (h.1.length ≤ 20) && (decide (h.2.1.length ≤ 40) && decide (h.2.2.length ≤ 40)))))) := lhid rfl;generalize isT h.1 = I at H1 HH;generalize isT h.2.1 = J at H2 HH;have b0 := Blk.new w 25 [.slice p0 h.1.length c0, .slice p1 h.2.1.length c1, .slice p2 h.2.2.length c2];have hb0 : Below w.heap.size w (w.alloc (.cells #[.slice p0 h.1.length c0, .slice p1 h.2.1.length c1, .slice p2 h.2.2.length c2] 25)) := (Below.refl _ w).alloc (Nat.le_refl _) _;have HB0 := lhid hb0;have B0 := lhid b0;clear hp m4 m5 m6 b0 hb0
 cases I with
 | false =>
  have HE := lhid (HF.out (by rw [HH.out]; rfl));go_enter Tryz.func12, Tryz.ntmps12;(go_wp2_with fail);refine (H1.out _ (T0.out.below HB0.out)).mono ?_;rintro e w1 ⟨rfl, hb1⟩;have hbw1 := aB HB0.out hb1;have d1 := B0.out.later hb1;have x10 := d1.cell 0 rfl;have x11 := d1.cell 1 rfl;have x12 := d1.cell 2 rfl;have D1 := lhid d1;clear hb1 d1;(go_wp2_with fail);go_ret;rw [HE.out];exact ⟨rfl, hbw1⟩
 | true =>
  cases J with
  | false =>
   have HE := lhid (HF.out (by rw [HH.out]; rfl));go_enter Tryz.func12, Tryz.ntmps12;(go_wp2_with fail);refine (H1.out _ (T0.out.below HB0.out)).mono ?_;rintro e w1 ⟨rfl, hb1⟩;have hbw1 := aB HB0.out hb1;have d1 := B0.out.later hb1;have x10 := d1.cell 0 rfl;have x11 := d1.cell 1 rfl;have x12 := d1.cell 2 rfl;have D1 := lhid d1;clear hb1 d1;(go_wp2_with fail);refine (H2.out _ (T1.out.below hbw1)).mono ?_;rintro e w2 ⟨rfl, hb2⟩;have hbw2 := aB hbw1 hb2;have d2 := D1.out.later hb2;have x20 := d2.cell 0 rfl;have x21 := d2.cell 1 rfl;have x22 := d2.cell 2 rfl;have D2 := lhid d2;clear hb2 d2 x10 x11 x12;(go_wp2_with fail);go_ret;rw [HE.out];exact ⟨rfl, hbw2⟩
  | true =>
   by_cases g1 : 20 < h.1.length
   ·have HE := lhid (HF.out (by rw [HH.out, decide_eq_false (show ¬ h.1.length ≤ 20 by omega)]; rfl));go_enter Tryz.func12, Tryz.ntmps12;(go_wp2_with fail);refine (H1.out _ (T0.out.below HB0.out)).mono ?_;rintro e w1 ⟨rfl, hb1⟩;have hbw1 := aB HB0.out hb1;have d1 := B0.out.later hb1;have x10 := d1.cell 0 rfl;have x11 := d1.cell 1 rfl;have x12 := d1.cell 2 rfl;have D1 := lhid d1;clear hb1 d1;(go_wp2_with fail);refine (H2.out _ (T1.out.below hbw1)).mono ?_;rintro e w2 ⟨rfl, hb2⟩;have hbw2 := aB hbw1 hb2;have d2 := D1.out.later hb2;have x20 := d2.cell 0 rfl;have x21 := d2.cell 1 rfl;have x22 := d2.cell 2 rfl;have D2 := lhid d2;clear hb2 d2 x10 x11 x12;(go_wp2_with fail);go_ret;rw [HE.out];exact ⟨rfl, hbw2⟩
   by_cases g2 : 40 < h.2.1.length
   ·have HE := lhid (HF.out (by rw [HH.out, decide_eq_false (show ¬ h.2.1.length ≤ 40 by omega)]; simp));go_enter Tryz.func12, Tryz.ntmps12;(go_wp2_with fail);refine (H1.out _ (T0.out.below HB0.out)).mono ?_;rintro e w1 ⟨rfl, hb1⟩;have hbw1 := aB HB0.out hb1;have d1 := B0.out.later hb1;have x10 := d1.cell 0 rfl;have x11 := d1.cell 1 rfl;have x12 := d1.cell 2 rfl;have D1 := lhid d1;clear hb1 d1;(go_wp2_with fail);refine (H2.out _ (T1.out.below hbw1)).mono ?_;rintro e w2 ⟨rfl, hb2⟩;have hbw2 := aB hbw1 hb2;have d2 := D1.out.later hb2;have x20 := d2.cell 0 rfl;have x21 := d2.cell 1 rfl;have x22 := d2.cell 2 rfl;have D2 := lhid d2;clear hb2 d2 x10 x11 x12;(go_wp2_with fail);go_ret;rw [HE.out];exact ⟨rfl, hbw2⟩
   by_cases g3 : 40 < h.2.2.length
   ·have HE := lhid (HF.out (by rw [HH.out, decide_eq_false (show ¬ h.2.2.length ≤ 40 by omega)]; simp));go_enter Tryz.func12, Tryz.ntmps12;(go_wp2_with fail);refine (H1.out _ (T0.out.below HB0.out)).mono ?_;rintro e w1 ⟨rfl, hb1⟩;have hbw1 := aB HB0.out hb1;have d1 := B0.out.later hb1;have x10 := d1.cell 0 rfl;have x11 := d1.cell 1 rfl;have x12 := d1.cell 2 rfl;have D1 := lhid d1;clear hb1 d1;(go_wp2_with fail);refine (H2.out _ (T1.out.below hbw1)).mono ?_;rintro e w2 ⟨rfl, hb2⟩;have hbw2 := aB hbw1 hb2;have d2 := D1.out.later hb2;have x20 := d2.cell 0 rfl;have x21 := d2.cell 1 rfl;have x22 := d2.cell 2 rfl;have D2 := lhid d2;clear hb2 d2 x10 x11 x12;(go_wp2_with fail);go_ret;rw [HE.out];exact ⟨rfl, hbw2⟩
   have HT2 := lhid (HT.out (by rw [HH.out, decide_eq_true (show h.1.length ≤ 20 by omega), decide_eq_true (show h.2.1.length ≤ 40 by omega), decide_eq_true (show h.2.2.length ≤ 40 by omega)]; rfl));obtain ⟨i0, hi, hz0, hz1, hz2⟩ := info_parts aXp
   have mk : ∀ (n : Nat), n ≤ 1000 → ∀ W : World, (Instr.makeSlice 26 (.int .i64 (n : Int)) (.int .i64 (n : Int))).run Tryz.prog W = .ok (.slice (some ⟨W.heap.size, 0, none⟩) n n) (W.alloc (.cells (madeCells (Value.cells (.bool false)) (n * i0.size)) 4)) := fun n hn W => by
    have hr := run_make (P := Tryz.prog) W 26 4 i0 (.bool false) Tryz.underlying26 hi hz0 .i64 .i64 n n (by omega) (Int.le_refl _) (by rw [hz2]; omega) (by omega);simpa only [Int.toNat_natCast] using hr
   have mk1 := mk h.2.1.length m2;have mk2 := mk h.1.length m1;rw [hz1] at mk1 mk2;clear mk HF HT HH;go_enter Tryz.func12, Tryz.ntmps12;(go_upto_region 3 with fail);refine (H1.out _ (T0.out.below HB0.out)).mono ?_;rintro e w1 ⟨rfl, hb1⟩;have hbw1 := aB HB0.out hb1;have d1 := B0.out.later hb1;have x10 := d1.cell 0 rfl;have x11 := d1.cell 1 rfl;have x12 := d1.cell 2 rfl;have D1 := lhid d1;clear hb1 d1;(go_upto_region 3 with fail);refine (H2.out _ (T1.out.below hbw1)).mono ?_;rintro e w2 ⟨rfl, hb2⟩;have hbw2 := aB hbw1 hb2;have d2 := D1.out.later hb2;have x20 := d2.cell 0 rfl;have x21 := d2.cell 1 rfl;have x22 := d2.cell 2 rfl;have D2 := lhid d2;have hws : w.heap.size + 1 ≤ w2.heap.size := D2.out.lt;clear hb2 d2 x10 x11 x12;go_upto_region 3 with fail
   go_cut [3, 4] (fun s3 s4 wx => ∃ gk gs : Nat, s3 = .slice (some ⟨gk, 0, none⟩) h.2.1.length h.2.1.length ∧ s4 = .slice (some ⟨gs, 0, none⟩) h.1.length h.1.length ∧ gk ≠ gs ∧ wx.ownsRow (w.heap.size + 1) 4 1 (.slice (some ⟨gk, 0, none⟩) h.2.1.length h.2.1.length) h.2.1.length (jY (List.replicate h.2.1.length false)) ∧ wx.ownsRow (w.heap.size + 1) 4 1 (.slice (some ⟨gs, 0, none⟩) h.1.length h.1.length) h.1.length (jY (List.replicate h.1.length false)) ∧ Below (w.heap.size + 1) w2 wx)
   case first =>
    have HS : Hid (∀ w', Below (w.heap.size + 1) w2 w' → (w'.cell? ⟨w.heap.size, 0, none⟩ = some (.slice p0 h.1.length c0) ∧ w'.cell? ⟨w.heap.size, 1, none⟩ = some (.slice p1 h.2.1.length c1) ∧ Below (w.heap.size + 1) w2 w')) := lhid (fun w' hb => ⟨(hb.cell (p := ⟨w.heap.size, 0, none⟩) (by show w.heap.size < _; omega)).trans x20, (hb.cell (p := ⟨w.heap.size, 1, none⟩) (by show w.heap.size < _; omega)).trans x21, hb⟩)
    go_region_held3 (fun w' => w'.cell? ⟨w.heap.size, 0, none⟩ = some (.slice p0 h.1.length c0) ∧ w'.cell? ⟨w.heap.size, 1, none⟩ = some (.slice p1 h.2.1.length c1) ∧ Below (w.heap.size + 1) w2 w')
     ((go_split_ands; exact HS.out _ (by (repeat (first | assumption | exact Below.refl _ _ | refine Below.drew ?_ | refine bMp (by omega) ?_ _)))))
     (fail)
    all_goals
     go_split_ands
     (go_wp2_with fail);go_meet
     first
      | exact ⟨_, _, rfl, rfl, by omega, (xR _ _ _ _ hws (by omega) (by omega)).1, (xR _ _ _ _ hws (by omega) (by omega)).2, by assumption⟩
      | exact ⟨_, _, rfl, rfl, by omega, (xR _ _ _ _ hws (by omega) (by omega)).2, (xR _ _ _ _ hws (by omega) (by omega)).1, by assumption⟩
   case rest =>
    obtain ⟨gk, gs, rfl, rfl, hgne, hrk, hrs, hbc⟩ := hcut;have hgk : w.heap.size + 1 ≤ gk := (hrk.lt gk rfl).1;have hgs : w.heap.size + 1 ≤ gs := (hrs.lt gs rfl).1;clear mk1 mk2 x20 x21 x22;have HBW2 := lhid hbw2;go_wp2_with fail
    go_loopw [5] (fun i wr => ∃ k : Nat, k ≤ h.2.2.length ∧ i = .int .i64 k ∧ (∀ j, j < k → lC h (h.2.2.getD j aM) = true) ∧ wr.ownsRow (w.heap.size + 1) 4 1 (.slice (some ⟨gk, 0, none⟩) h.2.1.length h.2.1.length) h.2.1.length (jY (dC (List.replicate h.2.1.length false) (aDb h.2.2 k))) ∧ wr.ownsRow (w.heap.size + 1) 4 1 (.slice (some ⟨gs, 0, none⟩) h.1.length h.1.length) h.1.length (jY (dC (List.replicate h.1.length false) (pA h.2.2 k))) ∧ Below (w.heap.size + 1) w2 wr) (fun i _ => h.2.2.length - (RowKit.intOf i).toNat)
    case atStart => exact ⟨0, Nat.zero_le _, rfl, fun j hj => absurd hj (Nat.not_lt_zero j), hrk, hrs, hbc⟩
    case round =>
     obtain ⟨k, hk, rfl, hn, hrk, hrs, hbc⟩ := hrel;have HN := lhid hn;have dr := D2.out.below hbc (by omega);have x0 := dr.cell 0 rfl;have x1 := dr.cell 1 rfl;have x2 := dr.cell 2 rfl;have hbwx : Below w.heap.size w wr := HBW2.out.trans (hbc.mono (by omega));have hwr : w.heap.size < wr.heap.size := dr.lt;clear dr hn;by_cases hk1 : k < h.2.2.length
     ·obtain ⟨g, sv, rfl, a1, a2, a3, hops⟩ := HX.out k hk1;have a1' := cell_later hbwx a1;have a2' := cell_later hbwx a2;have a3' := cell_later hbwx a3;have hops' := hops.below hbwx;have hgl : g < w.heap.size := World.block_lt_of_cell? w ⟨g, k * 3, none⟩ a1
      have hmem : h.2.2.getD k aM ∈ h.2.2 := by
       have : h.2.2.getD k aM = h.2.2[k] := (by simp [hk1]);rw [this];exact List.getElem_mem hk1
      have hm6 := HM6.out _ hmem;have hkn := aRv h.2.2 k hk1;have hsn := aFc h.2.2 k hk1
      have HNo : Hid (lC h (h.2.2.getD k aM) = false → tI h = 4) := lhid (fun hf => HT2.out false (by
       rw [show h.2.2.all (lC h) = false by
        rw [List.all_eq_false]
        exact ⟨_, hmem, by rw [hf]; exact Bool.false_ne_true⟩]
       rfl))
      have HYes : Hid (lC h (h.2.2.getD k aM) = true → ∀ j, j < k + 1 → lC h (h.2.2.getD j aM) = true) := lhid (fun e j hj => by
       by_cases hjk : j < k
       ·exact HN.out j hjk
       ·obtain rfl : j = k := by omega
        exact e)
      have HIn : Hid (lC h (h.2.2.getD k aM) = true → 0 ≤ (h.2.2.getD k aM).1 ∧ (h.2.2.getD k aM).1 < h.1.length) := lhid (fun e => by
       simp only [lC, bQ, dV, Bool.and_eq_true, decide_eq_true_eq] at e
       exact e.1.1)
      obtain ⟨t, ht⟩ : ∃ t, h.2.2.getD k aM = t := ⟨_, rfl⟩;rw [ht] at a1' a2' hops' hm6 hkn hsn HNo HYes HIn;have hle : (dC (List.replicate h.2.1.length false) (aDb h.2.2 k)).length = h.2.1.length := (by rw [jO, List.length_replicate]);have hops2 := hops'.below (w' := wr.drew) (Below.drew (Below.refl _ _))
      have HOps := lhid (bKy (.slice p0 h.1.length c0) (.slice p1 h.2.1.length c1) (.slice (some ⟨g, 0, none⟩) h.2.2.length c2) sv h.1 h.2.1 t gk h.2.1.length _ (w.heap.size + 1) wr.drew ((T0.out.below hbwx).below (Below.drew (Below.refl _ _))) ((T1.out.below hbwx).below (Below.drew (Below.refl _ _))) ⟨_, _, _, rfl⟩ hops2 hm6 (by omega) hle hrk.drew (fun j hj p n c e => by
       obtain ⟨q, cq, e2, -, hq⟩ := hops';obtain ⟨g3, e3, hc3, -⟩ := hq j hj;rw [e2, e3] at e;injection e with e;injection e with e;subst e
       have hz : g3 < w.heap.size := by
        obtain ⟨q5, cq5, e5, -, hq5⟩ := hops;rw [ht] at hq5;obtain ⟨g6, e6, hc6, -⟩ := hq5 j hj;rw [e2, e3, e6] at e5;injection e5 with e5;injection e5 with e5;injection e5 with e5;rw [e5];exact World.block_lt_of_cell? w ⟨g6, _, none⟩ hc6
       show g3 ≠ gk
       omega))
      obtain ⟨p3, c3, rfl, -⟩ := hops';obtain ⟨t1, t2, t3⟩ := t;simp only at a1' a2' a3' HOps HNo HYes HIn hkn hsn hm6;have HKN := lhid hkn;have HSN := lhid hsn;have hne0 : w.heap.size ≠ gk := (by omega);have hne1 : g ≠ gk := (by omega);have HS : Hid (∀ w', wr.grownBy w' (some gk) → (w'.cell? ⟨w.heap.size, 0, none⟩ = some (.slice p0 h.1.length c0) ∧ w'.cell? ⟨w.heap.size, 1, none⟩ = some (.slice p1 h.2.1.length c1) ∧ w'.cell? ⟨w.heap.size, 2, none⟩ = some (.slice (some ⟨g, 0, none⟩) h.2.2.length c2) ∧ w'.cell? ⟨g, k * 3, none⟩ = some (.int .i64 t1) ∧ w'.cell? ⟨g, k * 3 + 1, none⟩ = some (.int .i64 t2) ∧ w'.cell? ⟨g, k * 3 + 2, none⟩ = some (.slice p3 t3.length c3))) := lhid (fun w' hg => ⟨jG x0 hg hne0, jG x1 hg hne0, jG x2 hg hne0, jG a1' hg hne1, jG a2' hg hne1, jG a3' hg hne1⟩);clear hops hops2 hmem hle a1 a2 a3 ht hkn hsn;obtain ⟨b, hb⟩ : ∃ b, lC h (t1, t2, t3) = b := ⟨_, rfl⟩;rw [show (bQ h.1.length (t1, t2, t3) && t3.all (jS h.2.1.length)) = lC h (t1, t2, t3) from rfl, hb] at HOps;rw [hb] at HNo HYes HIn;clear hb
      cases b with
      | false =>
       have HE := lhid (HNo.out (by trivial));go_wp2_with fail
       go_region_held3 (fun w' => w'.cell? ⟨w.heap.size, 0, none⟩ = some (.slice p0 h.1.length c0) ∧ w'.cell? ⟨w.heap.size, 1, none⟩ = some (.slice p1 h.2.1.length c1) ∧ w'.cell? ⟨w.heap.size, 2, none⟩ = some (.slice (some ⟨g, 0, none⟩) h.2.2.length c2) ∧ w'.cell? ⟨g, k * 3, none⟩ = some (.int .i64 t1) ∧ w'.cell? ⟨g, k * 3 + 1, none⟩ = some (.int .i64 t2) ∧ w'.cell? ⟨g, k * 3 + 2, none⟩ = some (.slice p3 t3.length c3))
        ((go_split_ands; exact HS.out _ (by first | exact sH _ _ | exact cV (sH _ _) (by assumption))))
        ((go_at_call 41; refine HOps.out.mono ?_; rintro e w3 ⟨rfl, hr3⟩; obtain ⟨hg3, U3, hu3, hl3, hm3⟩ := hr3))
       go_split_ands
       have hbf : Below w.heap.size w w3 := (hbwx.drew).grown hg3 (by show w.heap.size ≤ wr.heap.size; omega) (fun j e => by have := Option.some.inj e; omega);clear hg3 hu3 hl3 hm3;(go_wp2_with fail);go_ret;rw [HE.out];exact ⟨rfl, hbf⟩
      | true =>
       obtain ⟨hs0, hs1⟩ := HIn.out (by trivial);obtain ⟨ns, rfl⟩ := Int.eq_ofNat_of_zero_le hs0;have HY := lhid (HYes.out (by trivial));go_wp2_with fail
       go_region_held3 (fun w' => w'.cell? ⟨w.heap.size, 0, none⟩ = some (.slice p0 h.1.length c0) ∧ w'.cell? ⟨w.heap.size, 1, none⟩ = some (.slice p1 h.2.1.length c1) ∧ w'.cell? ⟨w.heap.size, 2, none⟩ = some (.slice (some ⟨g, 0, none⟩) h.2.2.length c2) ∧ w'.cell? ⟨g, k * 3, none⟩ = some (.int .i64 (ns : Int)) ∧ w'.cell? ⟨g, k * 3 + 1, none⟩ = some (.int .i64 t2) ∧ w'.cell? ⟨g, k * 3 + 2, none⟩ = some (.slice p3 t3.length c3))
        ((go_split_ands; exact HS.out _ (by first | exact sH _ _ | exact cV (sH _ _) (by assumption))))
        ((go_at_call 41; refine HOps.out.mono ?_; rintro e w3 ⟨rfl, hr3⟩; obtain ⟨hg3, U3, hu3, hl3, hm3⟩ := hr3))
       go_split_ands
       have hm3' := hm3 (by trivial);rw [← aYt, ← HKN.out] at hm3';subst hm3';have hrs3 := hrs.drew.kept hg3 (.inr (by simp [Value.ownBlock]; omega));have hml : (dC (List.replicate h.1.length false) (pA h.2.2 k)).length = h.1.length := by rw [jO, List.length_replicate]
       have r1 : w3.cell? ⟨gs, ns, none⟩ = some (.bool ((dC (List.replicate h.1.length false) (pA h.2.2 k)).getD ns false)) := by
        rw [hrs3.cellAt ns (by omega)];exact sW _ _ (by omega)
       have r2 := hrs3.frozenAt ns;generalize (dC (List.replicate h.1.length false) (pA h.2.2 k)).getD ns false = old at r1;have hst := hrs3.stored ns (.bool true);rw [aFp, show (dC (List.replicate h.1.length false) (pA h.2.2 k)).set ns true = dC (List.replicate h.1.length false) (pA h.2.2 (k + 1)) by rw [HSN.out, aDs]; rfl] at hst;have HST := lhid hst.1;have HKK := lhid (hu3.kept (aHl w3 gs ns (.bool true)) (.inr (by simp [Value.ownBlock]; omega)));have HBC := lhid (((hbc.drew).grown hg3 (by show w.heap.size + 1 ≤ wr.heap.size; omega) (fun j e => by have := Option.some.inj e; omega)).setCell (p := ⟨gs, ns, none⟩) (by show w.heap.size + 1 ≤ gs; omega) (.bool true));clear hg3 hu3 hl3 hm3 hrs3 hst hrk hrs hbc hbwx;(go_wp2_with fail);go_roundw
       case rel => exact ⟨k + 1, by omega, by go_num, HY.out, HKK.out, HST.out, HBC.out⟩
       case measure => simp [RowKit.intOf]; omega
     ·have hke : k = h.2.2.length := by omega
      have hallF : h.2.2.all (lC h) = true := by
       rw [List.all_eq_true];intro x hx;obtain ⟨j, hj, e⟩ := List.getElem_of_mem hx;have := HN.out j (by omega);simpa [hj, e] using this
      have hkeys : aDb h.2.2 k = (bU h).map (·.2.1) := (by rw [hke, aDb, List.take_length]; rfl);have hsess : pA h.2.2 k = h.2.2.map (·.1) := (by rw [hke, pA, List.take_length]);rw [hkeys] at hrk;rw [hsess] at hrs
      have eK := aHy h.2.1.length ((bU h).map (·.2.1)) (fun x hx => by
       obtain ⟨o, ho, rfl⟩ := List.mem_map.1 hx;obtain ⟨t, ht, hot⟩ := List.mem_flatMap.1 ho;have := List.all_eq_true.1 hallF t ht;simp only [lC, Bool.and_eq_true] at this;have := List.all_eq_true.1 this.2 o hot;simp only [jS, dV, Bool.and_eq_true, decide_eq_true_eq] at this
       exact this.1)
      have eS := aHy h.1.length (h.2.2.map (·.1)) (fun x hx => by
       obtain ⟨t, ht, rfl⟩ := List.mem_map.1 hx;have := List.all_eq_true.1 hallF t ht;simp only [lC, bQ, dV, Bool.and_eq_true, decide_eq_true_eq] at this
       exact this.1.1)
      have hlK : (dC (List.replicate h.2.1.length false) ((bU h).map (·.2.1))).length = h.2.1.length := (by rw [jO, List.length_replicate]);have hlS : (dC (List.replicate h.1.length false) (h.2.2.map (·.1))).length = h.1.length := by rw [jO, List.length_replicate]
      have hfin : ∀ b, (qY (dC (List.replicate h.2.1.length false) ((bU h).map (·.2.1))) h.2.1.length && qY (dC (List.replicate h.1.length false) (h.2.2.map (·.1))) h.1.length) = b → tI h = if b then 0 else 4 := fun b hb => HT2.out b (by
       rw [hallF, Bool.true_and, ← hb];have e1 := aLo (dC (List.replicate h.2.1.length false) ((bU h).map (·.2.1)));have e2 := aLo (dC (List.replicate h.1.length false) (h.2.2.map (·.1)));rw [hlK] at e1;rw [hlS] at e2;rw [e1, e2, eK, eS];unfold xU
       exact Bool.and_comm _ _)
      generalize dC (List.replicate h.2.1.length false) ((bU h).map (·.2.1)) = UK at *;generalize dC (List.replicate h.1.length false) (h.2.2.map (·.1)) = US at *;have HFin := lhid hfin;have RK := lhid hrk;have RS := lhid hrs;have LK := lhid hlK;have LS := lhid hlS;clear eK eS hfin hrk hrs hlK hlS hallF hkeys hsess;go_wp2_with fail
      go_loop [6, 7] (fun al i => ∃ q : Nat, q ≤ h.2.1.length ∧ i = .int .i64 q ∧ al = .bool (qY UK q)) (fun _ i => h.2.1.length - (RowKit.intOf i).toNat)
      case atStart => exact ⟨0, Nat.zero_le _, rfl, by simp [qY]⟩
      case round =>
       obtain ⟨q, hq, rfl, rfl⟩ := hrel;by_cases hq1 : q < h.2.1.length
       ·have r1 : wr.cell? ⟨gk, q, none⟩ = some (.bool (UK.getD q false)) := by
         rw [RK.out.cellAt q (by omega)];exact sW _ _ (by rw [LK.out]; exact hq1)
        have hnx := aGy UK q (by rw [LK.out]; exact hq1);generalize UK.getD q false = b2 at r1 hnx;generalize qY UK q = b1 at hnx ⊢;have HNX := lhid hnx;clear hnx;cases b1 <;> cases b2
        all_goals
         (go_wp2_with fail);go_round
         case rel => exact ⟨q + 1, by omega, by go_num, by rw [HNX.out]; rfl⟩
         case measure => simp [RowKit.intOf]; omega
       ·have hqe : q = h.2.1.length := (by omega);rw [hqe];have HF1 : Hid (∀ b, (qY UK h.2.1.length && qY US h.1.length) = b → tI h = if b then 0 else 4) := HFin;generalize qY UK h.2.1.length = B1 at HF1 ⊢;clear hqe;obtain rfl : q = h.2.1.length := (by omega);go_wp2_with fail
        go_loop [6, 8] (fun al i => ∃ q : Nat, q ≤ h.1.length ∧ i = .int .i64 q ∧ al = .bool (B1 && qY US q)) (fun _ i => h.1.length - (RowKit.intOf i).toNat)
        case atStart => exact ⟨0, Nat.zero_le _, rfl, by simp [qY]⟩
        case round =>
         obtain ⟨q, hq, rfl, rfl⟩ := hrel;by_cases hq1 : q < h.1.length
         ·have r1 : wr.cell? ⟨gs, q, none⟩ = some (.bool (US.getD q false)) := by
           rw [RS.out.cellAt q (by omega)];exact sW _ _ (by rw [LS.out]; exact hq1)
          have hnx := aGy US q (by rw [LS.out]; exact hq1);generalize US.getD q false = b2 at r1 hnx;have hnx2 : (B1 && qY US (q + 1)) = ((B1 && qY US q) && b2) := (by rw [hnx, Bool.and_assoc]);generalize (B1 && qY US q) = b1 at hnx2 ⊢;have HNX := lhid hnx2;clear hnx hnx2;cases b1 <;> cases b2
          all_goals
           (go_wp2_with fail);go_round
           case rel => exact ⟨q + 1, by omega, by go_num, by rw [HNX.out]; rfl⟩
           case measure => simp [RowKit.intOf]; omega
         ·have hqe : q = h.1.length := (by omega);rw [hqe];have HF2 := lhid (HF1.out _ rfl);generalize (B1 && qY US h.1.length) = B2 at HF2 ⊢;clear hqe;obtain rfl : q = h.1.length := by omega
          cases B2 with
          | false =>
           (go_wp2_with fail);go_ret;rw [HF2.out];exact ⟨rfl, hbwx⟩
          | true =>
           (go_wp2_with fail);go_ret;rw [HF2.out];exact ⟨rfl, hbwx⟩
end
section
open Go.RowKit Go.Lib
set_option maxRecDepth 100000 in
set_option maxHeartbeats 4000000 in
theorem aTg (v0 v1 v2 : Value) (h : aI) (w : World) (h0 : bF w v0 h.1) (h1 : bF w v1 h.2.1) (h2 : kM w v2 h.2.2) (hm : cU h) :
  Calls Tryz.prog 26 #[.agg #[v0, v1, v2]] w fun e w' => ∃ v', e = .returned v' ∧ qC w' v' (jH (aP) h.2.2 h.2.2.length) ∧ Below w.heap.size w w' := by
 obtain ⟨p2, c2, rfl, hp⟩ := h2;obtain ⟨p0, c0, rfl, -⟩ := h0;obtain ⟨p1, c1, rfl, -⟩ := h1;have HX := lhid hp;have m3 : h.2.2.length ≤ 1000 := hm.2.2.1;obtain ⟨i0, hi, hz0, hz1, hz2⟩ := info_parts xD;have b0 := Blk.new w 25 [.slice p0 h.1.length c0, .slice p1 h.2.1.length c1, .slice p2 h.2.2.length c2];have hb0 : Below w.heap.size w (w.alloc (.cells #[.slice p0 h.1.length c0, .slice p1 h.2.1.length c1, .slice p2 h.2.2.length c2] 25)) := (Below.refl _ w).alloc (Nat.le_refl _) _;have HB0 := lhid hb0;have B0 := lhid b0;have hown0 := World.ownsRow_made (base := w.heap.size + 1) (size := 1) (e := 3) (w.alloc (.cells #[.slice p0 h.1.length c0, .slice p1 h.2.1.length c1, .slice p2 h.2.2.length c2] 25)) #[] 0 (by simp) (Nat.zero_le _) rfl;have hbs0 : Below (w.heap.size + 1) (w.alloc (.cells #[.slice p0 h.1.length c0, .slice p1 h.2.1.length c1, .slice p2 h.2.2.length c2] 25)) ((w.alloc (.cells #[.slice p0 h.1.length c0, .slice p1 h.2.1.length c1, .slice p2 h.2.2.length c2] 25)).alloc (.cells #[] 3)) := (Below.refl _ _).alloc (by simp) _;simp only [World.size_alloc] at hown0;clear hp hm b0 hb0;go_enter Tryz.func26, Tryz.ntmps26;(go_wp2_with fail);have hS0 : (w.alloc (.cells #[.slice p0 h.1.length c0, .slice p1 h.2.1.length c1, .slice p2 h.2.2.length c2] 25)).heap.size = w.heap.size + 1 := World.size_alloc _ _;have HS0 := lhid hS0;clear hS0;generalize (w.alloc (.cells #[.slice p0 h.1.length c0, .slice p1 h.2.1.length c1, .slice p2 h.2.2.length c2] 25)) = W0 at *
 go_loopw [3, 4] (fun l i wr => ∃ k : Nat, k ≤ h.2.2.length ∧ i = .int .i64 k ∧ wr.ownsRow (w.heap.size + 1) 3 1 l (jH (aP) h.2.2 k).length (mG (jH (aP) h.2.2 k)) ∧ Below (w.heap.size + 1) W0 wr) (fun _ i _ => h.2.2.length - (RowKit.intOf i).toNat)
 case atStart => exact ⟨0, Nat.zero_le _, rfl, hown0, hbs0⟩
 case round =>
  obtain ⟨k, hk, rfl, hown, hbw⟩ := hrel;have hsz := hbw.size;rw [HS0.out] at hsz;have x2 := (B0.out.below hbw (by omega)).cell 2 rfl;by_cases hk1 : k < h.2.2.length
  ·obtain ⟨g, sv, rfl, a1, a2, a3, -⟩ := HX.out k hk1;have hbwx := HB0.out.trans (hbw.mono (by omega));have a1' := cell_later hbwx a1;have a2' := cell_later hbwx a2;have hnx := uQ (aP) h.2.2 k;have hil := xC (aP) h.2.2 k;obtain ⟨I, hI⟩ : ∃ I, jH (aP) h.2.2 k = I := ⟨_, rfl⟩;rw [hI] at hown hnx hil;obtain ⟨t, ht⟩ : ∃ t, h.2.2.getD k aM = t := ⟨_, rfl⟩;rw [ht] at a1' a2' hnx;obtain ⟨t1, t2, t3⟩ := t;simp only at a1' a2' hnx;have HN : Hid ((aP) (t1, t2, t3) = true → jH (aP) h.2.2 (k + 1) = I ++ [(k : Int)]) := lhid (fun e => by rw [hnx, if_pos e]);have HF : Hid ((aP) (t1, t2, t3) = false → jH (aP) h.2.2 (k + 1) = I) := lhid (fun e => by rw [hnx, if_neg (by rw [e]; exact Bool.false_ne_true)]);clear a1 a2 a3 ht hI hnx hbwx;by_cases hc : t2 = 3
   ·have hcb : ((aP) (t1, t2, t3)) = true := beq_iff_eq.2 hc;have HN2 := lhid (HN.out hcb);have hcc : (t2 == 3) = true := beq_iff_eq.2 hc;clear hcb hc HN HF;(go_wp2_with (at_builtin; refine wpList_append_own _ rfl _ _ 49 rfl (w.heap.size + 1) 3 i0 (.int .i64 0) 1 8 Tryz.underlying49 hi hz0 hz1 hz2 rfl (by decide) _ _ _ rfl (hown.alloc _) ⟨wr.heap.size, 0, none⟩ 1 1 [.int .i64 (k : Nat)] rfl rfl (aDx _ _ _) (aEa _) (by unfold maxLen; omega) (by omega) (by simp; omega) ?_));intro v4 w4 hown4 hgrow hnil;have hb4 : Below (w.heap.size + 1) W0 w4 := (hbw.alloc (by omega) _).grown hgrow (by simp; omega) (fun k hk => (hown.lt k hk).1);have HO : Hid (w4.ownsRow (w.heap.size + 1) 3 1 v4 (jH (aP) h.2.2 (k + 1)).length (mG (jH (aP) h.2.2 (k + 1)))) := lhid (by rw [HN2.out, ← wQ, List.length_append]; exact hown4);clear hown4 hgrow hnil hown hbw;(go_wp2_with fail);go_roundw
    case rel => exact ⟨k + 1, by omega, by go_num, HO.out, hb4⟩
    case measure => simp [RowKit.intOf]; omega
   ·have hcb : ((aP) (t1, t2, t3)) = false := beq_eq_false_iff_ne.2 hc;have HN2 := lhid (HF.out hcb);have hcc : (t2 == 3) = false := beq_eq_false_iff_ne.2 hc;clear hcb hc HN HF;(go_wp2_with fail);go_roundw
    case rel => exact ⟨k + 1, by omega, by go_num, by rw [HN2.out]; exact hown, hbw⟩
    case measure => simp [RowKit.intOf]; omega
  ·have hke : k = h.2.2.length := (by omega);subst hke;have HO := lhid (bUb hown);have hbwx := HB0.out.trans (hbw.mono (by omega));clear hown;(go_wp2_with fail);go_ret;exact ⟨_, rfl, HO.out, hbwx⟩
set_option maxRecDepth 100000 in
set_option maxHeartbeats 4000000 in
theorem aZz (v0 v1 v2 : Value) (h : aI) (w : World) (h0 : bF w v0 h.1) (h1 : bF w v1 h.2.1) (h2 : kM w v2 h.2.2) (hm : cU h) :
  Calls Tryz.prog 27 #[.agg #[v0, v1, v2]] w fun e w' => ∃ v', e = .returned v' ∧ nK w' v' (bY (itH h.2.2 h.2.2.length)) ∧ Below w.heap.size w w' := by
 obtain ⟨p2, c2, rfl, hp⟩ := h2;obtain ⟨p0, c0, rfl, -⟩ := h0;obtain ⟨p1, c1, rfl, -⟩ := h1;have HX := lhid hp;have HM := lhid hm;have m3 : h.2.2.length ≤ 1000 := hm.2.2.1;have HN0 := lhid (aBb h.2.2 hm.2.2.2.2.2 h.2.2.length (Nat.le_refl _));obtain ⟨i0, hi, hz0, hz1, hz2⟩ := info_parts aCw;have b0 := Blk.new w 25 [.slice p0 h.1.length c0, .slice p1 h.2.1.length c1, .slice p2 h.2.2.length c2];have hb0 : Below w.heap.size w (w.alloc (.cells #[.slice p0 h.1.length c0, .slice p1 h.2.1.length c1, .slice p2 h.2.2.length c2] 25)) := (Below.refl _ w).alloc (Nat.le_refl _) _;have HB0 := lhid hb0;have B0 := lhid b0;have hown0 := World.ownsRow_made (base := w.heap.size + 1) (size := 2) (e := 70) (w.alloc (.cells #[.slice p0 h.1.length c0, .slice p1 h.2.1.length c1, .slice p2 h.2.2.length c2] 25)) #[] 0 (by simp) (Nat.zero_le _) rfl;have hbs0 : Below (w.heap.size + 1) (w.alloc (.cells #[.slice p0 h.1.length c0, .slice p1 h.2.1.length c1, .slice p2 h.2.2.length c2] 25)) ((w.alloc (.cells #[.slice p0 h.1.length c0, .slice p1 h.2.1.length c1, .slice p2 h.2.2.length c2] 25)).alloc (.cells #[] 70)) := (Below.refl _ _).alloc (by simp) _;simp only [World.size_alloc] at hown0;clear hp hm b0 hb0;go_enter Tryz.func27, Tryz.ntmps27;(go_wp2_with fail);have hS0 : (w.alloc (.cells #[.slice p0 h.1.length c0, .slice p1 h.2.1.length c1, .slice p2 h.2.2.length c2] 25)).heap.size = w.heap.size + 1 := World.size_alloc _ _;have HS0 := lhid hS0;clear hS0;generalize (w.alloc (.cells #[.slice p0 h.1.length c0, .slice p1 h.2.1.length c1, .slice p2 h.2.2.length c2] 25)) = W0 at *
 go_loopw [3, 4] (fun l i wr => ∃ k : Nat, k ≤ h.2.2.length ∧ i = .int .i64 k ∧ wr.ownsRow (w.heap.size + 1) 70 2 l (bY (itH h.2.2 k)).length (gJ (bY (itH h.2.2 k))) ∧ Below (w.heap.size + 1) W0 wr) (fun _ i _ => h.2.2.length - (RowKit.intOf i).toNat)
 case atStart => exact ⟨0, Nat.zero_le _, rfl, hown0, hbs0⟩
 case round =>
  obtain ⟨k, hk, rfl, hown, hbw⟩ := hrel;have hsz := hbw.size;rw [HS0.out] at hsz;have x2 := (B0.out.below hbw (by omega)).cell 2 rfl;obtain ⟨wo, rfl⟩ : ∃ wo : World, wo = wr := ⟨_, rfl⟩;by_cases hk1 : k < h.2.2.length
  ·obtain ⟨g, sv, rfl, a1, a2, a3, ⟨p3, c3, rfl, -, ho⟩⟩ := HX.out k hk1;have HO := lhid ho;have HS := lhid (oD h.2.2 k);have HLT := lhid (fun j => bMo h.2.2 k j hk1)
   have hm4 : (h.2.2.getD k aM).2.2.length ≤ 1000 := HM.out.2.2.2.2.2 _ (by
    have : h.2.2.getD k aM = h.2.2[k] := (by simp [hk1]);rw [this]
    exact List.getElem_mem hk1)
   obtain ⟨tl, htl⟩ : ∃ tl, (h.2.2.getD k aM).2.2 = tl := ⟨_, rfl⟩;rw [htl] at a3 HO HS HLT hm4;obtain ⟨P0, hP0⟩ : ∃ P0, itH h.2.2 k = P0 := ⟨_, rfl⟩;rw [hP0] at hown HS HLT;have A3 := lhid a3;clear a1 a2 a3 ho htl hP0;go_wp2_with fail
   go_loopw [3, 5] (fun l j wr => ∃ m : Nat, m ≤ tl.length ∧ j = .int .i64 m ∧ wr.ownsRow (w.heap.size + 1) 70 2 l (bY (P0 ++ itT k tl m)).length (gJ (bY (P0 ++ itT k tl m))) ∧ Below (w.heap.size + 1) W0 wr) (fun _ j _ => tl.length - (RowKit.intOf j).toNat)
   case atStart => exact ⟨0, Nat.zero_le _, rfl, by simpa [itT] using hown, hbw⟩
   case round =>
    obtain ⟨m, hml, rfl, hown, hbw⟩ := hrel;have hsz := hbw.size;rw [HS0.out] at hsz;have x2 := (B0.out.below hbw (by omega)).cell 2 rfl;have hbwx := HB0.out.trans (hbw.mono (by omega));have a3' := cell_later hbwx A3.out;by_cases hm1 : m < tl.length
    ·obtain ⟨g2, rfl, q0, q1, q2, q3⟩ := HO.out m hm1;have q2' := cell_later hbwx q2;have hls := aDm (P0 ++ itT k tl m) ((k, m), tl.getD m cG);have hlt := HLT.out m hm1;have hll := yX (P0 ++ itT k tl m);have hn0 := HN0.out;rw [List.append_assoc, ← xF] at hls;obtain ⟨o, ho⟩ : ∃ o, tl.getD m cG = o := ⟨_, rfl⟩;rw [ho] at q2' hls;obtain ⟨ow, ok, od, on⟩ := o;simp only at q2' hls;obtain ⟨I, hI⟩ : ∃ I, bY (P0 ++ itT k tl m) = I := ⟨_, rfl⟩;rw [hI] at hown hls hll;have hIl : I.length ≤ 1000000 := (by omega);have HN : Hid (od = 2 → bY (P0 ++ itT k tl (m + 1)) = I ++ [(k, m)]) := lhid (fun e => by rw [hls, if_pos (beq_iff_eq.2 e)]);have HF : Hid (od ≠ 2 → bY (P0 ++ itT k tl (m + 1)) = I) := lhid (fun e => by rw [hls, if_neg (by rw [beq_eq_false_iff_ne.2 e]; exact Bool.false_ne_true)]);clear q0 q1 q2 q3 ho hI hls hll hlt hn0 hbwx;by_cases hc : od = 2
     ·have HN2 := lhid (HN.out hc);subst hc;clear HN HF;(go_wp2_with (at_builtin; refine wpList_append_own _ rfl _ _ 51 rfl (w.heap.size + 1) 70 i0 (.agg #[.int .i64 0, .int .i64 0]) 2 16 Tryz.underlying51 hi hz0 hz1 hz2 rfl (by decide) _ _ _ rfl (hown.alloc _) ⟨wr.heap.size, 0, none⟩ 1 1 [.int .i64 (k : Nat), .int .i64 (m : Nat)] rfl rfl (dB _ _ _ _ rfl) (by intro u hu; simp at hu; rcases hu with rfl | rfl <;> rfl) (by unfold maxLen; omega) (by omega) (by simp; omega) ?_));intro v4 w4 hown4 hgrow hnil;have hb4 : Below (w.heap.size + 1) W0 w4 := (hbw.alloc (by omega) _).grown hgrow (by simp; omega) (fun k hk => (hown.lt k hk).1);have HO4 : Hid (w4.ownsRow (w.heap.size + 1) 70 2 v4 (bY (P0 ++ itT k tl (m + 1))).length (gJ (bY (P0 ++ itT k tl (m + 1))))) := lhid (by rw [HN2.out, List.length_append, gJ, List.flatMap_append]; exact hown4);clear hown4 hgrow hnil hown hbw;(go_wp2_with fail);go_roundw
      case rel => exact ⟨m + 1, by omega, by go_num, HO4.out, hb4⟩
      case measure => simp [RowKit.intOf]; omega
     ·have HN2 := lhid (HF.out hc);have hcc : (od == 2) = false := beq_eq_false_iff_ne.2 hc;clear hc HN HF;(go_wp2_with fail);go_roundw
      case rel => exact ⟨m + 1, by omega, by go_num, by rw [HN2.out]; exact hown, hbw⟩
      case measure => simp [RowKit.intOf]; omega
    ·obtain rfl : m = tl.length := (by omega);have HOW := lhid hown;clear hown hbwx;(go_wp2_with fail);go_roundw
     case rel => exact ⟨k + 1, by omega, by go_num, by rw [HS.out]; exact HOW.out, hbw⟩
     case measure => simp [RowKit.intOf]; omega
  ·have hke : k = h.2.2.length := (by omega);subst hke;have HO := lhid (aEm hown);have hbwx := HB0.out.trans (hbw.mono (by omega));clear hown;(go_wp2_with fail);go_ret;exact ⟨_, rfl, HO.out, hbwx⟩
end
section
open Go.RowKit Go.Lib
theorem bUk {w : World} {v : Value} {h : aI} (hv : cJ w v h) (hm : cU h) : Calls Tryz.prog 12 #[v] w fun e w' => e = .returned (.int .i64 (tI h)) ∧ Below w.heap.size w w' := by
 obtain ⟨v0, v1, v2, rfl, h0, h1, h2⟩ := hv;exact bFb v0 v1 v2 h w h0 h1 h2 hm
theorem bVb {w : World} {v : Value} {h : aI} (hv : cJ w v h) (hm : cU h) (hT : Lib.Utf8Tabs 1 2 w) : Calls Tryz.prog 30 #[v] w fun e w' => ∃ v', e = .returned v' ∧ qC w' v' (cA aP h) ∧ Below w.heap.size w w' := by
 obtain ⟨v0, v1, v2, rfl, h0, h1, h2⟩ := hv;exact aXs v0 v1 v2 h w h0 h1 h2 hm hT
theorem bUz {w : World} {v : Value} {h : aI} (hv : cJ w v h) (hm : cU h) (hT : Lib.Utf8Tabs 1 2 w) : Calls Tryz.prog 42 #[v] w fun e w' => ∃ v', e = .returned v' ∧ nK w' v' (cY h) ∧ Below w.heap.size w w' := by
 obtain ⟨v0, v1, v2, rfl, h0, h1, h2⟩ := hv;exact bDl v0 v1 v2 h w h0 h1 h2 hm hT
theorem bUv {w : World} {v : Value} {h : aI} (hv : cJ w v h) (hm : cU h) : Calls Tryz.prog 26 #[v] w fun e w' => ∃ v', e = .returned v' ∧ qC w' v' (jH aP h.2.2 h.2.2.length) ∧ Below w.heap.size w w' := by
 obtain ⟨v0, v1, v2, rfl, h0, h1, h2⟩ := hv;exact aTg v0 v1 v2 h w h0 h1 h2 hm
theorem bUp {w : World} {v : Value} {h : aI} (hv : cJ w v h) (hm : cU h) : Calls Tryz.prog 27 #[v] w fun e w' => ∃ v', e = .returned v' ∧ nK w' v' (bY (itH h.2.2 h.2.2.length)) ∧ Below w.heap.size w w' := by
 obtain ⟨v0, v1, v2, rfl, h0, h1, h2⟩ := hv;exact aZz v0 v1 v2 h w h0 h1 h2 hm
end
end Go.Proofs.YtdfegfagedeilaaGreatDoor
