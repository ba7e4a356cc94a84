/-
  A world of a history (fates, and lost values) as a value: an argument's, and one of the call's own. No conditions.
  The walk of layer 11's reference (hist): whether a transaction's operations may be; which keys they have. No conditions.
  The walk of layer 11's reference (hist): whether a history may be. No conditions.
  Layers 16 and 17 (world, whole) in plain words: who committed, and what is made, one by one; no program in sight. No conditions.
  DERIVED: THE SHELF's CONTRACTS AT THIS DUMP, IN PLAIN WORDS (tools/lay-plain.mjs out of 'TrydShelfO4.lean', which tools/lay-shelf.mjs wrote): THE SAME DECLARATIONS UNDER THE SAME NAMES: 'import', 'namespace', 'open', 'def', 'theorem' AND NOTHING ELSE: no command of the shelf's: FOR A HAND-IN. Each laying: the table of numbers ('.._ren') and one theorem, a field a fact of the dump's own or the kernel's comparison; each contract: ONE APPLICATION.
  Layer 17 (whole): what stands while a history is made whole; the clone of operations. No conditions.
-/
import Derived.Test.YtdfegfagedeilaaGreatDoorVTi
namespace Go.Proofs.YtdfegfagedeilaaGreatDoor
open Go.ChangeShapes Go.WideShapes Go.ChangeAt Go.RowKit Go.Joins
def aZ (x : aR) : List Value := [.int .i64 x.1, .int .i64 x.2]
def aUl (_ : World) (cs : List Value) (b : Bool) : Prop := cs = [.bool b]
def bBn (_ : World) (cs : List Value) (x : aR) : Prop := cs = aZ x
def vU (w : World) (v : Value) (L : List Bool) : Prop := SlR 1 aUl w v L
def aBm (w : World) (v : Value) (L : List aR) : Prop := SlR 2 bBn w v L
def vX (w : World) (v : Value) (m : bK) : Prop := ∃ v0 v1, v = .agg #[v0, v1] ∧ vU w v0 m.1 ∧ aBm w v1 m.2
theorem vU.below {w w' : World} {v : Value} {L : List Bool} (h : vU w v L) (hb : Below w.heap.size w w') : vU w' v L := SlR.below (fun _ _ _ _ _ h => h) h hb
theorem aBm.below {w w' : World} {v : Value} {L : List aR} (h : aBm w v L) (hb : Below w.heap.size w w') : aBm w' v L := SlR.below (fun _ _ _ _ _ h => h) h hb
theorem vX.below {w w' : World} {v : Value} {m : bK} (h : vX w v m) (hb : Below w.heap.size w w') : vX w' v m := by
 obtain ⟨v0, v1, e, h0, h1⟩ := h;exact ⟨v0, v1, e, h0.below hb, h1.below hb⟩
section
variable {H : Type} {enc : TypeId × Value → H} {w : World} {base : Nat} {spare : Nat → Bool} {held : Bool}
theorem aSq {n : Nat} {cs : List Value} {y : DataW H × List MemPlace} (h : DataW.trod enc Tryz.prog w base spare held n 4 cs = some y) : ∃ s, aUl w cs s := by
 obtain ⟨b, hb, -⟩ := DataW.trod_bool Tryz.underlying4 h;exact ⟨b, hb⟩
theorem bEd {n : Nat} {cs : List Value} {y : DataW H × List MemPlace} (h : DataW.trod enc Tryz.prog w base spare held n 57 cs = some y) : ∃ s, bBn w cs s := by
 obtain ⟨k, m, e⟩ := aEg h;exact ⟨(k, m), e⟩
set_option maxRecDepth 100000 in
theorem open_world {r : Reach} {b0 : Nat} {v : Value} {d : DataW H} {ps : List MemPlace} (hval : Value.okWide Tryz.prog w r b0 29 v) (hd : DataW.Trod enc Tryz.prog w base spare held 29 v d ps) : ∃ m, vX w v m := by
 obtain ⟨cs, rfl, -⟩ := okWide_struct Tryz.underlying29 hval;obtain ⟨fuel, h⟩ := hd;obtain ⟨l⟩ := cs;have h : DataW.trod enc Tryz.prog w base spare held fuel 29 l = some (d, ps) := h;have hl := qV Tryz.underlying29 h;obtain ⟨n0, y0, h0⟩ := jD 0 0 26 1 Tryz.underlying29 h rfl rfl rfl (by kernel_rfl);obtain ⟨n1, y1, h1⟩ := jD 1 1 27 1 Tryz.underlying29 h rfl rfl rfl (by kernel_rfl);obtain ⟨v0, L0, e0, a0⟩ : ∃ v L, _ = [v] ∧ SlR 1 aUl w v L := tY Tryz.underlying26 (by kernel_rfl) (fun _ _ _ h => aSq h) h0;obtain ⟨v1, L1, e1, a1⟩ : ∃ v L, _ = [v] ∧ SlR 2 bBn w v L := tY Tryz.underlying27 (by kernel_rfl) (fun _ _ _ h => bEd h) h1;rw [show Tryz.prog.cellsOf 29 = 2 by kernel_rfl] at hl
 match l, hl with
 | [a, b], _ =>
  simp at e0 e1;subst e0 e1;exact ⟨(L0, L1), a, b, rfl, a0, a1⟩
end
def jA (w : World) (p : Option Addr) (L : List Bool) : Prop := ∀ j, j < L.length → ∃ g, p = some ⟨g, 0, none⟩ ∧ w.cell? ⟨g, j, none⟩ = some (.bool (L.getD j false))
def lF (w : World) (p : Option Addr) (L : List aR) : Prop := ∀ j, j < L.length → ∃ g, p = some ⟨g, 0, none⟩ ∧ w.cell? ⟨g, j * 2, none⟩ = some (.int .i64 (L.getD j aN).1) ∧ w.cell? ⟨g, j * 2 + 1, none⟩ = some (.int .i64 (L.getD j aN).2)
theorem jA.below {w w' : World} {p : Option Addr} {L : List Bool} (h : jA w p L) (hb : Below w.heap.size w w') : jA w' p L := fun j hj => by
 obtain ⟨g, e, hc⟩ := h j hj;exact ⟨g, e, cell_later hb hc⟩
theorem lF.below {w w' : World} {p : Option Addr} {L : List aR} (h : lF w p L) (hb : Below w.heap.size w w') : lF w' p L := fun j hj => by
 obtain ⟨g, e, h1, h2⟩ := h j hj;exact ⟨g, e, cell_later hb h1, cell_later hb h2⟩
def qW (w : World) (v : Value) (L : List Bool) : Prop := ∃ p c, v = .slice p L.length c ∧ (L.length ≤ c ∧ c ≤ maxLen) ∧ jA w p L
def oS (w : World) (v : Value) (L : List aR) : Prop := ∃ p c, v = .slice p L.length c ∧ (L.length ≤ c ∧ c ≤ maxLen) ∧ lF w p L
theorem qW.below {w w' : World} {v : Value} {L : List Bool} (h : qW w v L) (hb : Below w.heap.size w w') : qW w' v L := by
 obtain ⟨p, c, e, hc, hh⟩ := h;exact ⟨p, c, e, hc, hh.below hb⟩
theorem oS.below {w w' : World} {v : Value} {L : List aR} (h : oS w v L) (hb : Below w.heap.size w w') : oS w' v L := by
 obtain ⟨p, c, e, hc, hh⟩ := h;exact ⟨p, c, e, hc, hh.below hb⟩
theorem aQn (w : World) : qW w (.slice none 0 0) [] := ⟨none, 0, rfl, ⟨Nat.le_refl _, Nat.zero_le _⟩, fun j hj => absurd hj (Nat.not_lt_zero j)⟩
theorem bBa (w : World) : oS w (.slice none 0 0) [] := ⟨none, 0, rfl, ⟨Nat.le_refl _, Nat.zero_le _⟩, fun j hj => absurd hj (Nat.not_lt_zero j)⟩
def lI (w : World) (v : Value) (m : bK) : Prop := ∃ v0 v1, v = .agg #[v0, v1] ∧ qW w v0 m.1 ∧ oS w v1 m.2
theorem lI.below {w w' : World} {v : Value} {m : bK} (h : lI w v m) (hb : Below w.heap.size w w') : lI w' v m := by
 obtain ⟨v0, v1, e, h0, h1⟩ := h;exact ⟨v0, v1, e, h0.below hb, h1.below hb⟩
theorem aVg (w : World) : lI w (.agg #[.slice none 0 0, .slice none 0 0]) ([], []) := ⟨_, _, rfl, aQn w, bBa w⟩
theorem lY {w : World} {v : Value} {m : bK} (h : lI w v m) : ∃ p0 c0 p1 c1, v = .agg #[.slice p0 m.1.length c0, .slice p1 m.2.length c1] ∧ jA w p0 m.1 ∧ lF w p1 m.2 ∧ (m.1.length ≤ c0 ∧ c0 ≤ maxLen) ∧ (m.2.length ≤ c1 ∧ c1 ≤ maxLen) := by
 obtain ⟨v0, v1, e, ⟨p0, c0, e0, hc0, h0⟩, ⟨p1, c1, e1, hc1, h1⟩⟩ := h;subst e0 e1;exact ⟨p0, c0, p1, c1, e, h0, h1, hc0, hc1⟩
def bG (L : List Bool) : List Value := L.map fun b => .bool b
def aJ (L : List aR) : List Value := L.flatMap aZ
theorem yC (L : List Bool) (k : Nat) (b : Bool) : bG (L.set k b) = (bG L).set k (.bool b) := by simp [bG, List.map_set]
theorem aBt (L : List Bool) (k : Nat) (hk : k < L.length) : (bG L)[k]? = some (.bool (L.getD k false)) := by simp [bG, hk]
theorem bC (L : List aR) : (aJ L).length = L.length * 2 := by
 unfold aJ
 induction L with
 | nil => rfl
 | cons x L ih => rw [List.flatMap_cons, List.length_append, ih, List.length_cons]; simp [aZ]; omega
theorem gD (L : List Bool) : (bG L).length = L.length := by simp [bG]
theorem lK (L : List Bool) : ∀ u ∈ bG L, u.oneCell' = true := by
 intro u hu;obtain ⟨b, -, rfl⟩ := List.mem_map.1 hu;rfl
theorem bJ (L : List aR) : ∀ u ∈ aJ L, u.oneCell' = true := by
 intro u hu;obtain ⟨o, -, ho⟩ := List.mem_flatMap.1 hu;simp [aZ] at ho;rcases ho with rfl | rfl <;> rfl
theorem qO {w : World} {base n : Nat} {e : TypeId} {v : Value} {L : List Bool} (h : w.ownsRow base e 1 v n (bG L)) (hn : n = L.length) : qW w v L := by
 subst hn;obtain ⟨p, cap, rfl, hl, hm, hc⟩ := qP h;refine ⟨p, cap, rfl, ⟨hl, hm⟩, fun j hj => ?_⟩;obtain ⟨g, rfl, h0⟩ := hc j (.bool (L.getD j false)) (by omega) (by simp [bG, hj]);exact ⟨g, rfl, h0⟩
theorem qR {w : World} {base n : Nat} {e : TypeId} {v : Value} {L : List aR} (h : w.ownsRow base e 2 v n (aJ L)) (hn : n = L.length) : oS w v L := by
 subst hn;obtain ⟨p, cap, rfl, hl, hm, hc⟩ := qP h;refine ⟨p, cap, rfl, ⟨hl, hm⟩, fun j hj => ?_⟩
 have hg : ∀ i u, i < 2 → (aZ (L.getD j aN))[i]? = some u → ∃ g, p = some ⟨g, 0, none⟩ ∧ w.cell? ⟨g, j * 2 + i, none⟩ = some u := fun i u hi hu =>
  hc _ u (by omega) (by rw [aJ, kB aZ 2 (fun _ => rfl) aN L j i hj hi]; exact hu)
 obtain ⟨g, rfl, h0⟩ := hg 0 _ (by omega) rfl;obtain ⟨g1, e1, h1⟩ := hg 1 _ (by omega) rfl;cases e1;exact ⟨g, rfl, h0, h1⟩
theorem aSt {w : World} {base : Nat} {e : TypeId} {v : Value} {L : List Bool} (h : w.ownsRow base e 1 v L.length (bG L)) : vU w v L := by
 have h' : w.ownsRow base e 1 v L.length (L.flatMap fun s => [.bool s]) := by
  have : L.flatMap (fun s => [Value.bool s]) = bG L := by
   unfold bG;clear h
   induction L with
   | nil => rfl
   | cons x L ih => rw [List.flatMap_cons, ih]; rfl
  rw [this]; exact h
 have := xJ (R := aUl) (s := 1) (fun s => [.bool s]) (fun _ => rfl) (by omega) false id h' (fun x hx => rfl)
 rwa [List.map_id] at this
theorem aZl {w : World} {base : Nat} {e : TypeId} {v : Value} {L : List aR} (h : w.ownsRow base e 2 v L.length (aJ L)) : aBm w v L := by
 have := xJ (R := bBn) aZ (fun _ => rfl) (by omega) aN id h (fun x _ => rfl)
 rwa [List.map_id] at this
theorem aBu {w : World} {a : Addr} {c n : Nat} {L : List Bool} (h : vU w (.slice (some a) n c) L) (m : Nat) : ∀ (q : Nat) (u : Value), (bG (L.take m))[q]? = some u → w.cell? (a.add q) = some u := by
 obtain ⟨p', c', e, -, -, hc⟩ := h;injection e with e1 _ _;subst e1;intro q u hq
 have hql : q < (L.take m).length := by
  have := (List.getElem?_eq_some_iff.1 hq).1;simpa [bG] using this
 rw [List.length_take] at hql;obtain ⟨a', cs, e, -, h1, h2⟩ := hc q (by omega);cases e
 have eu : cs[0]? = some u := by
  rw [show cs = [.bool L[q]] from h2];rw [← hq];simp [bG, show q < m by omega, show q < L.length by omega]
 have := h1 0 u eu
 rwa [Nat.mul_one, Nat.add_zero] at this
theorem aJg {w : World} {a : Addr} {c n : Nat} {L : List aR} (h : aBm w (.slice (some a) n c) L) (m : Nat) : ∀ (q : Nat) (u : Value), (aJ (L.take m))[q]? = some u → w.cell? (a.add q) = some u := by
 obtain ⟨p', c', e, -, -, hc⟩ := h;injection e with e1 _ _;subst e1;intro q u hq;have hql : q < (L.take m).length * 2 := (by rw [← bC]; exact (List.getElem?_eq_some_iff.1 hq).1);rw [List.length_take] at hql;have hj : q / 2 < L.length := (by omega);obtain ⟨a', cs, e, -, h1, h2⟩ := hc (q / 2) hj;cases e;have hq' : q = q / 2 * 2 + q % 2 := (by omega);have hg := kB aZ 2 (fun _ => rfl) aN (L.take m) (q / 2) (q % 2) (by rw [List.length_take]; omega) (by omega);rw [← hq'] at hg;rw [hq'];refine h1 _ _ ?_;unfold bBn at h2;rw [h2];unfold aJ at hq;rw [hg] at hq;rw [← hq];congr 2;have hjm : q / 2 < m := (by omega);simp [List.getD, hjm, hj]
theorem aWj {w : World} {p : Option Addr} {n c : Nat} {L : List Bool} (h : vU w (.slice p n c) L) : n = L.length ∧ L.length ≤ c ∧ c ≤ maxLen ∧ (p = none → L = []) := by
 obtain ⟨p', c', e, h1, h2, hc⟩ := h;injection e with e1 e2 e3;subst e1 e3;refine ⟨e2, h1, h2, fun hp => ?_⟩
 cases L with
 | nil => rfl
 | cons x l =>
  obtain ⟨a, -, ea, -⟩ := hc 0 (by simp);rw [hp] at ea;cases ea
theorem bAz {w : World} {p : Option Addr} {n c : Nat} {L : List aR} (h : aBm w (.slice p n c) L) : n = L.length ∧ L.length ≤ c ∧ c ≤ maxLen ∧ (p = none → L = []) := by
 obtain ⟨p', c', e, h1, h2, hc⟩ := h;injection e with e1 e2 e3;subst e1 e3;refine ⟨e2, h1, h2, fun hp => ?_⟩
 cases L with
 | nil => rfl
 | cons x l =>
  obtain ⟨a, -, ea, -⟩ := hc 0 (by simp);rw [hp] at ea;cases ea
def aCm (m : bK) : bK := (m.1.take 50, m.2.take 50)
theorem bMg (m : bK) : aCm (aCm m) = aCm m := by simp [aCm, List.take_take]
theorem bMj (m : bK) : (aCm m).1.length ≤ 50 ∧ (aCm m).2.length ≤ 50 := by simp [aCm]; omega
theorem oB : (Tryz.prog.info? 4).map (fun i => (i.zero, i.size, i.bytes)) = some (some (.bool false), 1, 1) := by kernel_rfl
theorem aCx : (Tryz.prog.info? 57).map (fun i => (i.zero, i.size, i.bytes)) = some (some (.agg #[.int .i64 0, .int .i64 0]), 2, 16) := by kernel_rfl
theorem bO {w : World} {b : Nat} {x y : Value} (h : Blk w b 29 [x, y]) : (loadVar 29 ⟨b, 0, none⟩).run Tryz.prog w = .ok (.agg #[x, y]) w := by
 have hr : w.rangeAt b 0 [x, y] := fun j v hj => (by rw [Nat.zero_add]; exact h.cell j hj);exact run_loadVar_mid (P := Tryz.prog) w b 0 29 [x, y] _ hr Tryz.underlying29 rfl (by kernel_rfl)
end Go.Proofs.YtdfegfagedeilaaGreatDoor

namespace Go.Proofs.YtdfegfagedeilaaGreatDoor
open Go.RowKit Go.Lib
def jY (U : List Bool) : List Value := U.map fun b => .bool b
theorem aFp (U : List Bool) (j : Nat) (b : Bool) : (jY U).set j (.bool b) = jY (U.set j b) := by simp [jY, List.map_set]
theorem sW (U : List Bool) (j : Nat) (h : j < U.length) : (jY U)[j]? = some (.bool (U.getD j false)) := by simp [jY, h]
theorem tE {w w' : World} (h : Below w.heap.size w w') (row : Option Nat) : w.grownBy w' row := ⟨h.os, h.tape, h.output, h.size, fun k hk _ => h.block k hk⟩
theorem cV {a b c : World} {row : Option Nat} (h : a.grownBy b row) (k : b.grownBy c row) : a.grownBy c row :=
 ⟨k.os.trans h.os, k.tape.trans h.tape, k.output.trans h.output, Nat.le_trans h.size k.size, fun i hi hne => (k.block i (Nat.lt_of_lt_of_le hi h.size) hne).trans (h.block i hi hne)⟩
theorem aHl (w : World) (b j : Nat) (v : Value) : w.grownBy (w.setCell ⟨b, j, none⟩ v) (some b) :=
 ⟨rfl, rfl, rfl, by simp [World.setCell], fun k _ hk => Below.heap_setCell w _ v k (fun e => hk (by rw [e]))⟩
theorem jG {w w' : World} {row : Nat} {a : Addr} {v : Value} (h : w.cell? a = some v) (hg : w.grownBy w' (some row)) (hne : a.block ≠ row) : w'.cell? a = some v := hg.cell h (fun e => hne (Option.some.inj e))
def bJt (w : World) (base gu cu : Nat) (U M : List Bool) (b : Bool) (w' : World) : Prop :=
 w.grownBy w' (some gu) ∧ ∃ U' : List Bool, w'.ownsRow base 4 1 (.slice (some ⟨gu, 0, none⟩) U.length cu) U.length (jY U') ∧ U'.length = U.length ∧ (b = true → U' = M)
theorem vM {w : World} {base gu cu : Nat} {U M : List Bool} {b : Bool} {w' : World} (h1 : w.grownBy w' (some gu)) (U' : List Bool) (h2 : w'.ownsRow base 4 1 (.slice (some ⟨gu, 0, none⟩) U.length cu) U.length (jY U')) (h3 : U'.length = U.length) (h4 : b = true → U' = M) : bJt w base gu cu U M b w' := ⟨h1, U', h2, h3, h4⟩
set_option maxRecDepth 100000 in
set_option maxHeartbeats 4000000 in
theorem bFc (v0 v1 v2 sv : Value) (S K : List (List UInt8)) (t : bB) (gu cu : Nat) (U : List Bool) (base : Nat) (w : World) (h0 : bF w v0 S) (h1 : bF w v1 K) (h2 : ∃ p c n, v2 = .slice p n c) (hs : qF w sv t.2.2) (hl : t.2.2.length ≤ 1000)
  (_ : K.length ≤ 1000000) (hU : U.length = K.length) (hu : w.ownsRow base 4 1 (.slice (some ⟨gu, 0, none⟩) U.length cu) U.length (jY U)) (hne : ∀ j, j < t.2.2.length → ∀ p n c, sv = .slice (some p) n c → p.block ≠ gu) :
  Calls Tryz.prog 41 #[.agg #[v0, v1, v2], .agg #[.int .i64 t.1, .int .i64 t.2.1, sv], .slice (some ⟨gu, 0, none⟩) U.length cu] w fun e w' => e = .returned (.bool (bQ S.length t && t.2.2.all (jS K.length))) ∧ bJt w base gu cu U (dC U (t.2.2.map (·.2.1))) (bQ S.length t && t.2.2.all (jS K.length)) w' := by
 obtain ⟨p0, c0, rfl, -⟩ := h0;obtain ⟨p1, c1, rfl, -⟩ := h1;obtain ⟨p2, c2, n2, rfl⟩ := h2;obtain ⟨ps, cs, rfl, -, ho⟩ := hs;obtain ⟨s, f, tl⟩ := t;simp only at ho hl hne;have HO := lhid ho;have HNE := lhid hne;have hU1 : U.length ≤ K.length := (by omega);have hU2 : K.length ≤ U.length := (by omega);clear hU;have gw : gu < w.heap.size := (hu.lt gu rfl).2;have hbx : w.grownBy ((w.alloc (.cells #[.slice p0 S.length c0, .slice p1 K.length c1, .slice p2 n2 c2] 25)).alloc (.cells #[.int .i64 s, .int .i64 f, .slice ps tl.length cs] 67)) (some gu) := cV (World.grownBy_alloc _ _ _) (World.grownBy_alloc _ _ _);have hux := (hu.alloc (.cells #[.slice p0 S.length c0, .slice p1 K.length c1, .slice p2 n2 c2] 25)).alloc (.cells #[.int .i64 s, .int .i64 f, .slice ps tl.length cs] 67);have b0 := (Blk.new w 25 [.slice p0 S.length c0, .slice p1 K.length c1, .slice p2 n2 c2]).alloc (.cells #[.int .i64 s, .int .i64 f, .slice ps tl.length cs] 67);have b1 := Blk.new (w.alloc (.cells #[.slice p0 S.length c0, .slice p1 K.length c1, .slice p2 n2 c2] 25)) 67 [.int .i64 s, .int .i64 f, .slice ps tl.length cs];simp only [World.size_alloc] at b1;have HBX := lhid hbx;have HUX := lhid hux;have B0 := lhid b0;have B1 := lhid b1;clear ho hne hbx hux b0 b1 hu
 -- the five tests ahead of the loop
 by_cases g1 : s < 0
 ·have hok : bQ S.length (s, f, tl) = false := by
   rw [Bool.eq_false_iff];simp only [bQ, dV, ne_eq, Bool.and_eq_true, decide_eq_true_eq];omega
  rw [hok, Bool.false_and];clear hok;go_enter Tryz.func41, Tryz.ntmps41;(go_wp2_with fail);go_ret;exact ⟨rfl, vM HBX.out U HUX.out rfl (fun h => by cases h)⟩
 by_cases g2 : (S.length : Int) ≤ s
 ·have hok : bQ S.length (s, f, tl) = false := by
   rw [Bool.eq_false_iff];simp only [bQ, dV, ne_eq, Bool.and_eq_true, decide_eq_true_eq];omega
  rw [hok, Bool.false_and];clear hok;go_enter Tryz.func41, Tryz.ntmps41;(go_wp2_with fail);go_ret;exact ⟨rfl, vM HBX.out U HUX.out rfl (fun h => by cases h)⟩
 by_cases g3 : f < 1
 ·have hok : bQ S.length (s, f, tl) = false := by
   rw [Bool.eq_false_iff];simp only [bQ, dV, ne_eq, Bool.and_eq_true, decide_eq_true_eq];omega
  rw [hok, Bool.false_and];clear hok;go_enter Tryz.func41, Tryz.ntmps41;(go_wp2_with fail);go_ret;exact ⟨rfl, vM HBX.out U HUX.out rfl (fun h => by cases h)⟩
 by_cases g4 : 3 < f
 ·have hok : bQ S.length (s, f, tl) = false := by
   rw [Bool.eq_false_iff];simp only [bQ, dV, ne_eq, Bool.and_eq_true, decide_eq_true_eq];omega
  rw [hok, Bool.false_and];clear hok;go_enter Tryz.func41, Tryz.ntmps41;(go_wp2_with fail);go_ret;exact ⟨rfl, vM HBX.out U HUX.out rfl (fun h => by cases h)⟩
 by_cases g5 : 20 < tl.length
 ·have hok : bQ S.length (s, f, tl) = false := by
   rw [Bool.eq_false_iff];simp only [bQ, dV, ne_eq, Bool.and_eq_true, decide_eq_true_eq];omega
  rw [hok, Bool.false_and];clear hok;go_enter Tryz.func41, Tryz.ntmps41;(go_wp2_with fail);go_ret;exact ⟨rfl, vM HBX.out U HUX.out rfl (fun h => by cases h)⟩
 have hok : bQ S.length (s, f, tl) = true := by
  simp only [bQ, dV, Bool.and_eq_true, decide_eq_true_eq];omega
 rw [hok, Bool.true_and];clear hok;go_enter Tryz.func41, Tryz.ntmps41;go_wp2_with fail
 go_loopw [7] (fun i wr => ∃ k : Nat, k ≤ tl.length ∧ i = .int .i64 k ∧ (∀ j, j < k → jS K.length (tl.getD j cG) = true) ∧ wr.ownsRow base 4 1 (.slice (some ⟨gu, 0, none⟩) U.length cu) U.length (jY (dC U (tP tl k))) ∧ ((w.alloc (.cells #[.slice p0 S.length c0, .slice p1 K.length c1, .slice p2 n2 c2] 25)).alloc (.cells #[.int .i64 s, .int .i64 f, .slice ps tl.length cs] 67)).grownBy wr (some gu)) (fun i _ => tl.length - (RowKit.intOf i).toNat)
 case atStart => exact ⟨0, Nat.zero_le _, rfl, fun j hj => absurd hj (Nat.not_lt_zero j), HUX.out, World.grownBy.refl _ _⟩
 case round =>
  obtain ⟨k, hk, rfl, hn, hown, hg⟩ := hrel;have y0 := B0.out.kept hg (fun e => by have := Option.some.inj e; omega);have y1 := B1.out.kept hg (fun e => by have := Option.some.inj e; omega);have x1 := y0.cell 1 rfl;have x2 := y1.cell 2 rfl;have hz0 : w.heap.size < wr.heap.size := y0.lt;have hz1 : w.heap.size + 1 < wr.heap.size := y1.lt;have HN := lhid hn;have hgw := cV HBX.out hg;clear y0 y1 hn;by_cases hk1 : k < tl.length
  ·obtain ⟨g, rfl, o0, o1, o2, o3⟩ := HO.out k hk1;have hgn : g ≠ gu := HNE.out k hk1 _ _ _ rfl;have a0 := jG o0 hgw hgn;have a1 := jG o1 hgw hgn;have a2 := jG o2 hgw hgn;have a3 := jG o3 hgw hgn;have hkn := aRu tl k hk1
   have HNo : Hid (jS K.length (tl.getD k cG) = false → tl.all (jS K.length) = false) := lhid (fun hf => by
    rw [List.all_eq_false];refine ⟨tl.getD k cG, ?_, by rw [hf]; exact Bool.false_ne_true⟩;have : tl.getD k cG = tl[k] := (by simp [hk1]);rw [this]
    exact List.getElem_mem hk1)
   have HYes : Hid (jS K.length (tl.getD k cG) = true → ∀ j, j < k + 1 → jS K.length (tl.getD j cG) = true) := lhid (fun h j hj => by
    by_cases hjk : j < k
    ·exact HN.out j hjk
    ·obtain rfl : j = k := by omega
     exact h)
   obtain ⟨o, hoo⟩ : ∃ o, tl.getD k cG = o := ⟨_, rfl⟩;rw [hoo] at a0 a1 a2 a3 hkn HNo HYes;obtain ⟨ow, ok, od, on⟩ := o;simp only at a0 a1 a2 a3 hkn;have HKN := lhid hkn;clear o0 o1 o2 o3 hoo hkn HO;by_cases q1 : ok < 0
   ·have hf : jS K.length (ow, ok, od, on) = false := by
     rw [Bool.eq_false_iff];simp only [jS, dV, ne_eq, Bool.and_eq_true, decide_eq_true_eq];omega
    have HF := lhid (HNo.out hf);clear hf;(go_wp2_with fail);go_ret;rw [HF.out];exact ⟨rfl, vM (cV hgw (World.grownBy_alloc _ _ _)) _ (hown.alloc _) (jO _ _) (fun h => by cases h)⟩
   by_cases q2 : (K.length : Int) ≤ ok
   ·have hf : jS K.length (ow, ok, od, on) = false := by
     rw [Bool.eq_false_iff];simp only [jS, dV, ne_eq, Bool.and_eq_true, decide_eq_true_eq];omega
    have HF := lhid (HNo.out hf);clear hf;(go_wp2_with fail);go_ret;rw [HF.out];exact ⟨rfl, vM (cV hgw (World.grownBy_alloc _ _ _)) _ (hown.alloc _) (jO _ _) (fun h => by cases h)⟩
   have hin : dV ok K.length = true := by
    simp only [dV, Bool.and_eq_true, decide_eq_true_eq];omega
   have HOK : Hid (jS K.length (ow, ok, od, on) = (kW od on && (!ow || od == 1))) := lhid (by simp only [jS]; rw [hin, Bool.true_and]);obtain ⟨nk, rfl⟩ := Int.eq_ofNat_of_zero_le (show (0 : Int) ≤ ok by omega);have hnk : nk < U.length := (by omega);have hml : (dC U (tP tl k)).length = U.length := jO _ _;have ox := Blk.new wr 82 [.bool ow, .int .i64 (nk : Int), .int .i64 od, .int .i64 on];have HX := lhid ox;have HMay := lhid (bAb od on (wr.alloc (.cells #[.bool ow, .int .i64 (nk : Int), .int .i64 od, .int .i64 on] 82)));have HG := lhid hgw;have HG1 := lhid hg;clear hin ox hgw hg
   cases hv : kW od on with
   | false =>
    rw [hv] at HMay HOK;have HF := lhid (HNo.out (by rw [HOK.out]; rfl));clear hv;(go_wp2_with fail);refine HMay.out.mono ?_;rintro e w3 ⟨rfl, hb3⟩;have hown3 := aS (hown.alloc _) hb3;have HG3 := lhid (cV (cV HG.out (World.grownBy_alloc _ _ _)) (tE hb3 _));clear hb3 hown;(go_wp2_with fail);go_ret;rw [HF.out];exact ⟨rfl, vM HG3.out _ hown3 (jO _ _) (fun h => by cases h)⟩
   | true =>
    rw [hv, Bool.true_and] at HOK;rw [hv] at HMay;clear hv;by_cases q3 : ow = true ∧ od ≠ 1
    ·obtain ⟨rfl, q4⟩ := q3;have q5 : (od == 1) = false := beq_eq_false_iff_ne.2 q4;have q6 : (od != 1) = true := bne_iff_ne.2 q4;have HF := lhid (HNo.out (by rw [HOK.out, q5]; rfl));clear q4;(go_wp2_with fail);refine HMay.out.mono ?_;rintro e w3 ⟨rfl, hb3⟩;have hown3 := aS (hown.alloc _) hb3;have xx := HX.out.later hb3;have z0 := xx.cell 0 rfl;have z1 := xx.cell 1 rfl;have z2 := xx.cell 2 rfl;have HG3 := lhid (cV (cV HG.out (World.grownBy_alloc _ _ _)) (tE hb3 _));clear hb3 hown xx;(go_wp2_with fail);go_ret;rw [HF.out];exact ⟨rfl, vM HG3.out _ hown3 (jO _ _) (fun h => by cases h)⟩
    ·have hyes : jS K.length (ow, (nk : Int), od, on) = true := by
      rw [HOK.out]
      cases ow with
      | false => rfl
      | true =>
       by_cases e : od = 1
       ·rw [e]; rfl
       ·exact absurd ⟨rfl, e⟩ q3
     have HY := lhid (HYes.out hyes)
     have q7 : ow = false ∨ (ow = true ∧ od = 1) := by
      cases ow with
      | false => exact .inl rfl
      | true =>
       by_cases e : od = 1
       ·exact .inr ⟨rfl, e⟩
       ·exact absurd ⟨rfl, e⟩ q3
     clear q3 hyes;rcases q7 with rfl | ⟨rfl, rfl⟩
     all_goals
      (go_wp2_with fail);refine HMay.out.mono ?_;rintro e w3 ⟨rfl, hb3⟩;have hown3 := aS (hown.alloc _) hb3;have xx := HX.out.later hb3;have z0 := xx.cell 0 rfl;have z1 := xx.cell 1 rfl;have z2 := xx.cell 2 rfl
      have r1 : w3.cell? ⟨gu, nk, none⟩ = some (.bool ((dC U (tP tl k)).getD nk false)) := by
       rw [hown3.cellAt nk (by omega)];exact sW _ _ (by omega)
      have r2 := hown3.frozenAt nk;generalize (dC U (tP tl k)).getD nk false = old at r1;have hst := hown3.stored nk (.bool true);rw [aFp, show (dC U (tP tl k)).set nk true = dC U (tP tl (k + 1)) by rw [HKN.out, aDs]; rfl] at hst;have HST := lhid hst.1;have HG3 := lhid (cV (cV (cV HG1.out (World.grownBy_alloc _ _ _)) (tE hb3 _)) (aHl w3 gu nk (.bool true)));have hu1 : (nk : Int) < (U.length : Int) := (by omega);clear hb3 hown xx hown3 hst;(go_wp2_with fail);go_roundw
      case rel => exact ⟨k + 1, by omega, by go_num, HY.out, HST.out, HG3.out⟩
      case measure => simp [RowKit.intOf]; omega
  ·have hke : k = tl.length := by omega
   have hall : tl.all (jS K.length) = true := by
    rw [List.all_eq_true];intro x hx;obtain ⟨j, hj, e⟩ := List.getElem_of_mem hx;have := HN.out j (by omega);simpa [hj, e] using this
   have hmk : dC U (tP tl k) = dC U (tl.map (·.2.1)) := (by rw [hke, tP, List.take_length]);have HA := lhid hall;have HMK := lhid hmk;clear hall hmk;(go_wp2_with fail);go_ret;rw [HA.out];exact ⟨rfl, vM hgw _ hown (jO _ _) (fun _ => HMK.out)⟩
end Go.Proofs.YtdfegfagedeilaaGreatDoor

namespace Go.Proofs.YtdfegfagedeilaaGreatDoor
open Go.RowKit Go.Lib
theorem aXp : (Tryz.prog.info? 4).map (fun i => (i.zero, i.size, i.bytes)) = some (some (.bool false), 1, 1) := by kernel_rfl
theorem sJ (n : Nat) : (madeCells (Value.cells (.bool false)) (n * 1)).toList = jY (List.replicate n false) := by
 rw [Nat.mul_one];show (madeCells #[.bool false] n).toList = _;rw [toList_madeCells_one];simp [jY]
theorem bMp {n : Nat} {a W : World} (hn : n ≤ a.heap.size) (h : Below n a W) (o : Obj) : Below n a (W.alloc o) := h.alloc (Nat.le_trans hn h.size) o
theorem xR (w W : World) (n m : Nat) (hw : w.heap.size + 1 ≤ W.heap.size) (hn : n ≤ 1000) (hm : m ≤ 1000) :
  ((W.alloc (.cells (madeCells #[.bool false] n) 4)).alloc (.cells (madeCells #[.bool false] m) 4)).drew.ownsRow (w.heap.size + 1) 4 1 (.slice (some ⟨W.heap.size, 0, none⟩) n n) n (jY (List.replicate n false)) ∧
  ((W.alloc (.cells (madeCells #[.bool false] n) 4)).alloc (.cells (madeCells #[.bool false] m) 4)).drew.ownsRow (w.heap.size + 1) 4 1 (.slice (some ⟨W.heap.size + 1, 0, none⟩) m m) m (jY (List.replicate m false)) := by
 have h1 := World.ownsRow_lit (base := w.heap.size + 1) (e := 4) (size := 1) W (madeCells #[.bool false] (n * 1)) n hw (by unfold maxLen; omega) (by rw [size_madeCells]);have h2 := World.ownsRow_lit (base := w.heap.size + 1) (e := 4) (size := 1) (W.alloc (.cells (madeCells #[.bool false] n) 4)) (madeCells #[.bool false] (m * 1)) m (by simp; omega) (by unfold maxLen; omega) (by rw [size_madeCells]);have e1 := sJ n;have e2 := sJ m;simp only [Nat.mul_one] at h1 h2 e1 e2;rw [show Value.cells (.bool false) = #[.bool false] from rfl] at e1 e2;rw [e1] at h1;rw [e2] at h2;simp only [World.size_alloc] at h2;exact ⟨(h1.alloc _).drew, h2.drew⟩
theorem bKy (v0 v1 v2 sv : Value) (S K : List (List UInt8)) (t : bB) (gu cu : Nat) (U : List Bool) (base : Nat) (w : World) (h0 : bF w v0 S) (h1 : bF w v1 K) (h2 : ∃ p c n, v2 = .slice p n c) (hs : qF w sv t.2.2) (hl : t.2.2.length ≤ 1000)
  (hK : K.length ≤ 1000000) (hU : U.length = K.length) (hu : w.ownsRow base 4 1 (.slice (some ⟨gu, 0, none⟩) K.length cu) K.length (jY U)) (hne : ∀ j, j < t.2.2.length → ∀ p n c, sv = .slice (some p) n c → p.block ≠ gu) :
  Calls Tryz.prog 41 #[.agg #[v0, v1, v2], .agg #[.int .i64 t.1, .int .i64 t.2.1, sv], .slice (some ⟨gu, 0, none⟩) K.length cu] w fun e w' => e = .returned (.bool (bQ S.length t && t.2.2.all (jS K.length))) ∧
   (w.grownBy w' (some gu) ∧ ∃ U' : List Bool, w'.ownsRow base 4 1 (.slice (some ⟨gu, 0, none⟩) K.length cu) K.length (jY U') ∧ U'.length = K.length ∧ ((bQ S.length t && t.2.2.all (jS K.length)) = true → U' = dC U (t.2.2.map (·.2.1)))) := by
 have h := bFc v0 v1 v2 sv S K t gu cu U base w h0 h1 h2 hs hl hK hU (by rw [hU]; exact hu) hne;rw [hU] at h;refine h.mono ?_;rintro e w' ⟨he, hg, U', a, b, c⟩;rw [hU] at a b;exact ⟨he, hg, U', a, b, c⟩
theorem sH (w : World) (row : Option Nat) : w.grownBy w.drew row := ⟨rfl, rfl, rfl, Nat.le_refl _, fun _ _ _ => rfl⟩
set_option maxRecDepth 100000 in
set_option maxHeartbeats 8000000 in
theorem bFb (v0 v1 v2 : Value) (h : aI) (w : World) (h0 : bF w v0 h.1) (h1 : bF w v1 h.2.1) (h2 : kM w v2 h.2.2) (hm : cU h) :
  Calls Tryz.prog 12 #[.agg #[v0, v1, v2]] w fun e w' => e = .returned (.int .i64 (tI h)) ∧ Below w.heap.size w w' := by
 obtain ⟨m1, m2, m3, m4, m5, m6⟩ := hm;have H1 := lhid (fun w' (hw : bF w' v0 h.1) => aOw w' v0 h.1 hw (by omega) m4);have H2 := lhid (fun w' (hw : bF w' v1 h.2.1) => aOw w' v1 h.2.1 hw (by omega) m5);have HM6 := lhid m6;have T0 := lhid h0;have T1 := lhid h1;obtain ⟨p2, c2, rfl, hp⟩ := h2;obtain ⟨p0, c0, rfl, -⟩ := h0;obtain ⟨p1, c1, rfl, -⟩ := h1;have HX := lhid hp;have HF : Hid (mV h = false → tI h = 4) := lhid (fun e => pH (by rw [aNq, e]; rfl));have HT : Hid (mV h = true → ∀ b, (h.2.2.all (lC h) && xU h) = b → tI h = if b then 0 else 4) := lhid (fun e b hb => by unfold tI; rw [aNq, e, Bool.true_and, hb]);have HH : Hid (mV h = (isT h.1 && (isT h.2.1 && (decide (h.1.length ≤ 20) && (decide (h.2.1.length ≤ 40) && decide (h.2.2.length ≤ 40)))))) := lhid rfl;generalize isT h.1 = I at H1 HH;generalize isT h.2.1 = J at H2 HH;have b0 := Blk.new w 25 [.slice p0 h.1.length c0, .slice p1 h.2.1.length c1, .slice p2 h.2.2.length c2];have hb0 : Below w.heap.size w (w.alloc (.cells #[.slice p0 h.1.length c0, .slice p1 h.2.1.length c1, .slice p2 h.2.2.length c2] 25)) := (Below.refl _ w).alloc (Nat.le_refl _) _;have HB0 := lhid hb0;have B0 := lhid b0;clear hp m4 m5 m6 b0 hb0
 cases I with
 | false =>
  have HE := lhid (HF.out (by rw [HH.out]; rfl));go_enter Tryz.func12, Tryz.ntmps12;(go_wp2_with fail);refine (H1.out _ (T0.out.below HB0.out)).mono ?_;rintro e w1 ⟨rfl, hb1⟩;have hbw1 := aB HB0.out hb1;have d1 := B0.out.later hb1;have x10 := d1.cell 0 rfl;have x11 := d1.cell 1 rfl;have x12 := d1.cell 2 rfl;have D1 := lhid d1;clear hb1 d1;(go_wp2_with fail);go_ret;rw [HE.out];exact ⟨rfl, hbw1⟩
 | true =>
  cases J with
  | false =>
   have HE := lhid (HF.out (by rw [HH.out]; rfl));go_enter Tryz.func12, Tryz.ntmps12;(go_wp2_with fail);refine (H1.out _ (T0.out.below HB0.out)).mono ?_;rintro e w1 ⟨rfl, hb1⟩;have hbw1 := aB HB0.out hb1;have d1 := B0.out.later hb1;have x10 := d1.cell 0 rfl;have x11 := d1.cell 1 rfl;have x12 := d1.cell 2 rfl;have D1 := lhid d1;clear hb1 d1;(go_wp2_with fail);refine (H2.out _ (T1.out.below hbw1)).mono ?_;rintro e w2 ⟨rfl, hb2⟩;have hbw2 := aB hbw1 hb2;have d2 := D1.out.later hb2;have x20 := d2.cell 0 rfl;have x21 := d2.cell 1 rfl;have x22 := d2.cell 2 rfl;have D2 := lhid d2;clear hb2 d2 x10 x11 x12;(go_wp2_with fail);go_ret;rw [HE.out];exact ⟨rfl, hbw2⟩
  | true =>
   by_cases g1 : 20 < h.1.length
   ·have HE := lhid (HF.out (by rw [HH.out, decide_eq_false (show ¬ h.1.length ≤ 20 by omega)]; rfl));go_enter Tryz.func12, Tryz.ntmps12;(go_wp2_with fail);refine (H1.out _ (T0.out.below HB0.out)).mono ?_;rintro e w1 ⟨rfl, hb1⟩;have hbw1 := aB HB0.out hb1;have d1 := B0.out.later hb1;have x10 := d1.cell 0 rfl;have x11 := d1.cell 1 rfl;have x12 := d1.cell 2 rfl;have D1 := lhid d1;clear hb1 d1;(go_wp2_with fail);refine (H2.out _ (T1.out.below hbw1)).mono ?_;rintro e w2 ⟨rfl, hb2⟩;have hbw2 := aB hbw1 hb2;have d2 := D1.out.later hb2;have x20 := d2.cell 0 rfl;have x21 := d2.cell 1 rfl;have x22 := d2.cell 2 rfl;have D2 := lhid d2;clear hb2 d2 x10 x11 x12;(go_wp2_with fail);go_ret;rw [HE.out];exact ⟨rfl, hbw2⟩
   by_cases g2 : 40 < h.2.1.length
   ·have HE := lhid (HF.out (by rw [HH.out, decide_eq_false (show ¬ h.2.1.length ≤ 40 by omega)]; simp));go_enter Tryz.func12, Tryz.ntmps12;(go_wp2_with fail);refine (H1.out _ (T0.out.below HB0.out)).mono ?_;rintro e w1 ⟨rfl, hb1⟩;have hbw1 := aB HB0.out hb1;have d1 := B0.out.later hb1;have x10 := d1.cell 0 rfl;have x11 := d1.cell 1 rfl;have x12 := d1.cell 2 rfl;have D1 := lhid d1;clear hb1 d1;(go_wp2_with fail);refine (H2.out _ (T1.out.below hbw1)).mono ?_;rintro e w2 ⟨rfl, hb2⟩;have hbw2 := aB hbw1 hb2;have d2 := D1.out.later hb2;have x20 := d2.cell 0 rfl;have x21 := d2.cell 1 rfl;have x22 := d2.cell 2 rfl;have D2 := lhid d2;clear hb2 d2 x10 x11 x12;(go_wp2_with fail);go_ret;rw [HE.out];exact ⟨rfl, hbw2⟩
   by_cases g3 : 40 < h.2.2.length
   ·have HE := lhid (HF.out (by rw [HH.out, decide_eq_false (show ¬ h.2.2.length ≤ 40 by omega)]; simp));go_enter Tryz.func12, Tryz.ntmps12;(go_wp2_with fail);refine (H1.out _ (T0.out.below HB0.out)).mono ?_;rintro e w1 ⟨rfl, hb1⟩;have hbw1 := aB HB0.out hb1;have d1 := B0.out.later hb1;have x10 := d1.cell 0 rfl;have x11 := d1.cell 1 rfl;have x12 := d1.cell 2 rfl;have D1 := lhid d1;clear hb1 d1;(go_wp2_with fail);refine (H2.out _ (T1.out.below hbw1)).mono ?_;rintro e w2 ⟨rfl, hb2⟩;have hbw2 := aB hbw1 hb2;have d2 := D1.out.later hb2;have x20 := d2.cell 0 rfl;have x21 := d2.cell 1 rfl;have x22 := d2.cell 2 rfl;have D2 := lhid d2;clear hb2 d2 x10 x11 x12;(go_wp2_with fail);go_ret;rw [HE.out];exact ⟨rfl, hbw2⟩
   have HT2 := lhid (HT.out (by rw [HH.out, decide_eq_true (show h.1.length ≤ 20 by omega), decide_eq_true (show h.2.1.length ≤ 40 by omega), decide_eq_true (show h.2.2.length ≤ 40 by omega)]; rfl));obtain ⟨i0, hi, hz0, hz1, hz2⟩ := info_parts aXp
   have mk : ∀ (n : Nat), n ≤ 1000 → ∀ W : World, (Instr.makeSlice 26 (.int .i64 (n : Int)) (.int .i64 (n : Int))).run Tryz.prog W = .ok (.slice (some ⟨W.heap.size, 0, none⟩) n n) (W.alloc (.cells (madeCells (Value.cells (.bool false)) (n * i0.size)) 4)) := fun n hn W => by
    have hr := run_make (P := Tryz.prog) W 26 4 i0 (.bool false) Tryz.underlying26 hi hz0 .i64 .i64 n n (by omega) (Int.le_refl _) (by rw [hz2]; omega) (by omega);simpa only [Int.toNat_natCast] using hr
   have mk1 := mk h.2.1.length m2;have mk2 := mk h.1.length m1;rw [hz1] at mk1 mk2;clear mk HF HT HH;go_enter Tryz.func12, Tryz.ntmps12;(go_upto_region 3 with fail);refine (H1.out _ (T0.out.below HB0.out)).mono ?_;rintro e w1 ⟨rfl, hb1⟩;have hbw1 := aB HB0.out hb1;have d1 := B0.out.later hb1;have x10 := d1.cell 0 rfl;have x11 := d1.cell 1 rfl;have x12 := d1.cell 2 rfl;have D1 := lhid d1;clear hb1 d1;(go_upto_region 3 with fail);refine (H2.out _ (T1.out.below hbw1)).mono ?_;rintro e w2 ⟨rfl, hb2⟩;have hbw2 := aB hbw1 hb2;have d2 := D1.out.later hb2;have x20 := d2.cell 0 rfl;have x21 := d2.cell 1 rfl;have x22 := d2.cell 2 rfl;have D2 := lhid d2;have hws : w.heap.size + 1 ≤ w2.heap.size := D2.out.lt;clear hb2 d2 x10 x11 x12;go_upto_region 3 with fail
   go_cut [3, 4] (fun s3 s4 wx => ∃ gk gs : Nat, s3 = .slice (some ⟨gk, 0, none⟩) h.2.1.length h.2.1.length ∧ s4 = .slice (some ⟨gs, 0, none⟩) h.1.length h.1.length ∧ gk ≠ gs ∧ wx.ownsRow (w.heap.size + 1) 4 1 (.slice (some ⟨gk, 0, none⟩) h.2.1.length h.2.1.length) h.2.1.length (jY (List.replicate h.2.1.length false)) ∧ wx.ownsRow (w.heap.size + 1) 4 1 (.slice (some ⟨gs, 0, none⟩) h.1.length h.1.length) h.1.length (jY (List.replicate h.1.length false)) ∧ Below (w.heap.size + 1) w2 wx)
   case first =>
    have HS : Hid (∀ w', Below (w.heap.size + 1) w2 w' → (w'.cell? ⟨w.heap.size, 0, none⟩ = some (.slice p0 h.1.length c0) ∧ w'.cell? ⟨w.heap.size, 1, none⟩ = some (.slice p1 h.2.1.length c1) ∧ Below (w.heap.size + 1) w2 w')) := lhid (fun w' hb => ⟨(hb.cell (p := ⟨w.heap.size, 0, none⟩) (by show w.heap.size < _; omega)).trans x20, (hb.cell (p := ⟨w.heap.size, 1, none⟩) (by show w.heap.size < _; omega)).trans x21, hb⟩)
    go_region_held3 (fun w' => w'.cell? ⟨w.heap.size, 0, none⟩ = some (.slice p0 h.1.length c0) ∧ w'.cell? ⟨w.heap.size, 1, none⟩ = some (.slice p1 h.2.1.length c1) ∧ Below (w.heap.size + 1) w2 w')
     ((go_split_ands; exact HS.out _ (by (repeat (first | assumption | exact Below.refl _ _ | refine Below.drew ?_ | refine bMp (by omega) ?_ _)))))
     (fail)
    all_goals
     go_split_ands
     (go_wp2_with fail);go_meet
     first
      | exact ⟨_, _, rfl, rfl, by omega, (xR _ _ _ _ hws (by omega) (by omega)).1, (xR _ _ _ _ hws (by omega) (by omega)).2, by assumption⟩
      | exact ⟨_, _, rfl, rfl, by omega, (xR _ _ _ _ hws (by omega) (by omega)).2, (xR _ _ _ _ hws (by omega) (by omega)).1, by assumption⟩
   case rest =>
    obtain ⟨gk, gs, rfl, rfl, hgne, hrk, hrs, hbc⟩ := hcut;have hgk : w.heap.size + 1 ≤ gk := (hrk.lt gk rfl).1;have hgs : w.heap.size + 1 ≤ gs := (hrs.lt gs rfl).1;clear mk1 mk2 x20 x21 x22;have HBW2 := lhid hbw2;go_wp2_with fail
    go_loopw [5] (fun i wr => ∃ k : Nat, k ≤ h.2.2.length ∧ i = .int .i64 k ∧ (∀ j, j < k → lC h (h.2.2.getD j aM) = true) ∧ wr.ownsRow (w.heap.size + 1) 4 1 (.slice (some ⟨gk, 0, none⟩) h.2.1.length h.2.1.length) h.2.1.length (jY (dC (List.replicate h.2.1.length false) (aDb h.2.2 k))) ∧ wr.ownsRow (w.heap.size + 1) 4 1 (.slice (some ⟨gs, 0, none⟩) h.1.length h.1.length) h.1.length (jY (dC (List.replicate h.1.length false) (pA h.2.2 k))) ∧ Below (w.heap.size + 1) w2 wr) (fun i _ => h.2.2.length - (RowKit.intOf i).toNat)
    case atStart => exact ⟨0, Nat.zero_le _, rfl, fun j hj => absurd hj (Nat.not_lt_zero j), hrk, hrs, hbc⟩
    case round =>
     obtain ⟨k, hk, rfl, hn, hrk, hrs, hbc⟩ := hrel;have HN := lhid hn;have dr := D2.out.below hbc (by omega);have x0 := dr.cell 0 rfl;have x1 := dr.cell 1 rfl;have x2 := dr.cell 2 rfl;have hbwx : Below w.heap.size w wr := HBW2.out.trans (hbc.mono (by omega));have hwr : w.heap.size < wr.heap.size := dr.lt;clear dr hn;by_cases hk1 : k < h.2.2.length
     ·obtain ⟨g, sv, rfl, a1, a2, a3, hops⟩ := HX.out k hk1;have a1' := cell_later hbwx a1;have a2' := cell_later hbwx a2;have a3' := cell_later hbwx a3;have hops' := hops.below hbwx;have hgl : g < w.heap.size := World.block_lt_of_cell? w ⟨g, k * 3, none⟩ a1
      have hmem : h.2.2.getD k aM ∈ h.2.2 := by
       have : h.2.2.getD k aM = h.2.2[k] := (by simp [hk1]);rw [this];exact List.getElem_mem hk1
      have hm6 := HM6.out _ hmem;have hkn := aRv h.2.2 k hk1;have hsn := aFc h.2.2 k hk1
      have HNo : Hid (lC h (h.2.2.getD k aM) = false → tI h = 4) := lhid (fun hf => HT2.out false (by
       rw [show h.2.2.all (lC h) = false by
        rw [List.all_eq_false]
        exact ⟨_, hmem, by rw [hf]; exact Bool.false_ne_true⟩]
       rfl))
      have HYes : Hid (lC h (h.2.2.getD k aM) = true → ∀ j, j < k + 1 → lC h (h.2.2.getD j aM) = true) := lhid (fun e j hj => by
       by_cases hjk : j < k
       ·exact HN.out j hjk
       ·obtain rfl : j = k := by omega
        exact e)
      have HIn : Hid (lC h (h.2.2.getD k aM) = true → 0 ≤ (h.2.2.getD k aM).1 ∧ (h.2.2.getD k aM).1 < h.1.length) := lhid (fun e => by
       simp only [lC, bQ, dV, Bool.and_eq_true, decide_eq_true_eq] at e
       exact e.1.1)
      obtain ⟨t, ht⟩ : ∃ t, h.2.2.getD k aM = t := ⟨_, rfl⟩;rw [ht] at a1' a2' hops' hm6 hkn hsn HNo HYes HIn;have hle : (dC (List.replicate h.2.1.length false) (aDb h.2.2 k)).length = h.2.1.length := (by rw [jO, List.length_replicate]);have hops2 := hops'.below (w' := wr.drew) (Below.drew (Below.refl _ _))
      have HOps := lhid (bKy (.slice p0 h.1.length c0) (.slice p1 h.2.1.length c1) (.slice (some ⟨g, 0, none⟩) h.2.2.length c2) sv h.1 h.2.1 t gk h.2.1.length _ (w.heap.size + 1) wr.drew ((T0.out.below hbwx).below (Below.drew (Below.refl _ _))) ((T1.out.below hbwx).below (Below.drew (Below.refl _ _))) ⟨_, _, _, rfl⟩ hops2 hm6 (by omega) hle hrk.drew (fun j hj p n c e => by
       obtain ⟨q, cq, e2, -, hq⟩ := hops';obtain ⟨g3, e3, hc3, -⟩ := hq j hj;rw [e2, e3] at e;injection e with e;injection e with e;subst e
       have hz : g3 < w.heap.size := by
        obtain ⟨q5, cq5, e5, -, hq5⟩ := hops;rw [ht] at hq5;obtain ⟨g6, e6, hc6, -⟩ := hq5 j hj;rw [e2, e3, e6] at e5;injection e5 with e5;injection e5 with e5;injection e5 with e5;rw [e5];exact World.block_lt_of_cell? w ⟨g6, _, none⟩ hc6
       show g3 ≠ gk
       omega))
      obtain ⟨p3, c3, rfl, -⟩ := hops';obtain ⟨t1, t2, t3⟩ := t;simp only at a1' a2' a3' HOps HNo HYes HIn hkn hsn hm6;have HKN := lhid hkn;have HSN := lhid hsn;have hne0 : w.heap.size ≠ gk := (by omega);have hne1 : g ≠ gk := (by omega);have HS : Hid (∀ w', wr.grownBy w' (some gk) → (w'.cell? ⟨w.heap.size, 0, none⟩ = some (.slice p0 h.1.length c0) ∧ w'.cell? ⟨w.heap.size, 1, none⟩ = some (.slice p1 h.2.1.length c1) ∧ w'.cell? ⟨w.heap.size, 2, none⟩ = some (.slice (some ⟨g, 0, none⟩) h.2.2.length c2) ∧ w'.cell? ⟨g, k * 3, none⟩ = some (.int .i64 t1) ∧ w'.cell? ⟨g, k * 3 + 1, none⟩ = some (.int .i64 t2) ∧ w'.cell? ⟨g, k * 3 + 2, none⟩ = some (.slice p3 t3.length c3))) := lhid (fun w' hg => ⟨jG x0 hg hne0, jG x1 hg hne0, jG x2 hg hne0, jG a1' hg hne1, jG a2' hg hne1, jG a3' hg hne1⟩);clear hops hops2 hmem hle a1 a2 a3 ht hkn hsn;obtain ⟨b, hb⟩ : ∃ b, lC h (t1, t2, t3) = b := ⟨_, rfl⟩;rw [show (bQ h.1.length (t1, t2, t3) && t3.all (jS h.2.1.length)) = lC h (t1, t2, t3) from rfl, hb] at HOps;rw [hb] at HNo HYes HIn;clear hb
      cases b with
      | false =>
       have HE := lhid (HNo.out (by trivial));go_wp2_with fail
       go_region_held3 (fun w' => w'.cell? ⟨w.heap.size, 0, none⟩ = some (.slice p0 h.1.length c0) ∧ w'.cell? ⟨w.heap.size, 1, none⟩ = some (.slice p1 h.2.1.length c1) ∧ w'.cell? ⟨w.heap.size, 2, none⟩ = some (.slice (some ⟨g, 0, none⟩) h.2.2.length c2) ∧ w'.cell? ⟨g, k * 3, none⟩ = some (.int .i64 t1) ∧ w'.cell? ⟨g, k * 3 + 1, none⟩ = some (.int .i64 t2) ∧ w'.cell? ⟨g, k * 3 + 2, none⟩ = some (.slice p3 t3.length c3))
        ((go_split_ands; exact HS.out _ (by first | exact sH _ _ | exact cV (sH _ _) (by assumption))))
        ((go_at_call 41; refine HOps.out.mono ?_; rintro e w3 ⟨rfl, hr3⟩; obtain ⟨hg3, U3, hu3, hl3, hm3⟩ := hr3))
       go_split_ands
       have hbf : Below w.heap.size w w3 := (hbwx.drew).grown hg3 (by show w.heap.size ≤ wr.heap.size; omega) (fun j e => by have := Option.some.inj e; omega);clear hg3 hu3 hl3 hm3;(go_wp2_with fail);go_ret;rw [HE.out];exact ⟨rfl, hbf⟩
      | true =>
       obtain ⟨hs0, hs1⟩ := HIn.out (by trivial);obtain ⟨ns, rfl⟩ := Int.eq_ofNat_of_zero_le hs0;have HY := lhid (HYes.out (by trivial));go_wp2_with fail
       go_region_held3 (fun w' => w'.cell? ⟨w.heap.size, 0, none⟩ = some (.slice p0 h.1.length c0) ∧ w'.cell? ⟨w.heap.size, 1, none⟩ = some (.slice p1 h.2.1.length c1) ∧ w'.cell? ⟨w.heap.size, 2, none⟩ = some (.slice (some ⟨g, 0, none⟩) h.2.2.length c2) ∧ w'.cell? ⟨g, k * 3, none⟩ = some (.int .i64 (ns : Int)) ∧ w'.cell? ⟨g, k * 3 + 1, none⟩ = some (.int .i64 t2) ∧ w'.cell? ⟨g, k * 3 + 2, none⟩ = some (.slice p3 t3.length c3))
        ((go_split_ands; exact HS.out _ (by first | exact sH _ _ | exact cV (sH _ _) (by assumption))))
        ((go_at_call 41; refine HOps.out.mono ?_; rintro e w3 ⟨rfl, hr3⟩; obtain ⟨hg3, U3, hu3, hl3, hm3⟩ := hr3))
       go_split_ands
       have hm3' := hm3 (by trivial);rw [← aYt, ← HKN.out] at hm3';subst hm3';have hrs3 := hrs.drew.kept hg3 (.inr (by simp [Value.ownBlock]; omega));have hml : (dC (List.replicate h.1.length false) (pA h.2.2 k)).length = h.1.length := by rw [jO, List.length_replicate]
       have r1 : w3.cell? ⟨gs, ns, none⟩ = some (.bool ((dC (List.replicate h.1.length false) (pA h.2.2 k)).getD ns false)) := by
        rw [hrs3.cellAt ns (by omega)];exact sW _ _ (by omega)
       have r2 := hrs3.frozenAt ns;generalize (dC (List.replicate h.1.length false) (pA h.2.2 k)).getD ns false = old at r1;have hst := hrs3.stored ns (.bool true);rw [aFp, show (dC (List.replicate h.1.length false) (pA h.2.2 k)).set ns true = dC (List.replicate h.1.length false) (pA h.2.2 (k + 1)) by rw [HSN.out, aDs]; rfl] at hst;have HST := lhid hst.1;have HKK := lhid (hu3.kept (aHl w3 gs ns (.bool true)) (.inr (by simp [Value.ownBlock]; omega)));have HBC := lhid (((hbc.drew).grown hg3 (by show w.heap.size + 1 ≤ wr.heap.size; omega) (fun j e => by have := Option.some.inj e; omega)).setCell (p := ⟨gs, ns, none⟩) (by show w.heap.size + 1 ≤ gs; omega) (.bool true));clear hg3 hu3 hl3 hm3 hrs3 hst hrk hrs hbc hbwx;(go_wp2_with fail);go_roundw
       case rel => exact ⟨k + 1, by omega, by go_num, HY.out, HKK.out, HST.out, HBC.out⟩
       case measure => simp [RowKit.intOf]; omega
     ·have hke : k = h.2.2.length := by omega
      have hallF : h.2.2.all (lC h) = true := by
       rw [List.all_eq_true];intro x hx;obtain ⟨j, hj, e⟩ := List.getElem_of_mem hx;have := HN.out j (by omega);simpa [hj, e] using this
      have hkeys : aDb h.2.2 k = (bU h).map (·.2.1) := (by rw [hke, aDb, List.take_length]; rfl);have hsess : pA h.2.2 k = h.2.2.map (·.1) := (by rw [hke, pA, List.take_length]);rw [hkeys] at hrk;rw [hsess] at hrs
      have eK := aHy h.2.1.length ((bU h).map (·.2.1)) (fun x hx => by
       obtain ⟨o, ho, rfl⟩ := List.mem_map.1 hx;obtain ⟨t, ht, hot⟩ := List.mem_flatMap.1 ho;have := List.all_eq_true.1 hallF t ht;simp only [lC, Bool.and_eq_true] at this;have := List.all_eq_true.1 this.2 o hot;simp only [jS, dV, Bool.and_eq_true, decide_eq_true_eq] at this
       exact this.1)
      have eS := aHy h.1.length (h.2.2.map (·.1)) (fun x hx => by
       obtain ⟨t, ht, rfl⟩ := List.mem_map.1 hx;have := List.all_eq_true.1 hallF t ht;simp only [lC, bQ, dV, Bool.and_eq_true, decide_eq_true_eq] at this
       exact this.1.1)
      have hlK : (dC (List.replicate h.2.1.length false) ((bU h).map (·.2.1))).length = h.2.1.length := (by rw [jO, List.length_replicate]);have hlS : (dC (List.replicate h.1.length false) (h.2.2.map (·.1))).length = h.1.length := by rw [jO, List.length_replicate]
      have hfin : ∀ b, (qY (dC (List.replicate h.2.1.length false) ((bU h).map (·.2.1))) h.2.1.length && qY (dC (List.replicate h.1.length false) (h.2.2.map (·.1))) h.1.length) = b → tI h = if b then 0 else 4 := fun b hb => HT2.out b (by
       rw [hallF, Bool.true_and, ← hb];have e1 := aLo (dC (List.replicate h.2.1.length false) ((bU h).map (·.2.1)));have e2 := aLo (dC (List.replicate h.1.length false) (h.2.2.map (·.1)));rw [hlK] at e1;rw [hlS] at e2;rw [e1, e2, eK, eS];unfold xU
       exact Bool.and_comm _ _)
      generalize dC (List.replicate h.2.1.length false) ((bU h).map (·.2.1)) = UK at *;generalize dC (List.replicate h.1.length false) (h.2.2.map (·.1)) = US at *;have HFin := lhid hfin;have RK := lhid hrk;have RS := lhid hrs;have LK := lhid hlK;have LS := lhid hlS;clear eK eS hfin hrk hrs hlK hlS hallF hkeys hsess;go_wp2_with fail
      go_loop [6, 7] (fun al i => ∃ q : Nat, q ≤ h.2.1.length ∧ i = .int .i64 q ∧ al = .bool (qY UK q)) (fun _ i => h.2.1.length - (RowKit.intOf i).toNat)
      case atStart => exact ⟨0, Nat.zero_le _, rfl, by simp [qY]⟩
      case round =>
       obtain ⟨q, hq, rfl, rfl⟩ := hrel;by_cases hq1 : q < h.2.1.length
       ·have r1 : wr.cell? ⟨gk, q, none⟩ = some (.bool (UK.getD q false)) := by
         rw [RK.out.cellAt q (by omega)];exact sW _ _ (by rw [LK.out]; exact hq1)
        have hnx := aGy UK q (by rw [LK.out]; exact hq1);generalize UK.getD q false = b2 at r1 hnx;generalize qY UK q = b1 at hnx ⊢;have HNX := lhid hnx;clear hnx;cases b1 <;> cases b2
        all_goals
         (go_wp2_with fail);go_round
         case rel => exact ⟨q + 1, by omega, by go_num, by rw [HNX.out]; rfl⟩
         case measure => simp [RowKit.intOf]; omega
       ·have hqe : q = h.2.1.length := (by omega);rw [hqe];have HF1 : Hid (∀ b, (qY UK h.2.1.length && qY US h.1.length) = b → tI h = if b then 0 else 4) := HFin;generalize qY UK h.2.1.length = B1 at HF1 ⊢;clear hqe;obtain rfl : q = h.2.1.length := (by omega);go_wp2_with fail
        go_loop [6, 8] (fun al i => ∃ q : Nat, q ≤ h.1.length ∧ i = .int .i64 q ∧ al = .bool (B1 && qY US q)) (fun _ i => h.1.length - (RowKit.intOf i).toNat)
        case atStart => exact ⟨0, Nat.zero_le _, rfl, by simp [qY]⟩
        case round =>
         obtain ⟨q, hq, rfl, rfl⟩ := hrel;by_cases hq1 : q < h.1.length
         ·have r1 : wr.cell? ⟨gs, q, none⟩ = some (.bool (US.getD q false)) := by
           rw [RS.out.cellAt q (by omega)];exact sW _ _ (by rw [LS.out]; exact hq1)
          have hnx := aGy US q (by rw [LS.out]; exact hq1);generalize US.getD q false = b2 at r1 hnx;have hnx2 : (B1 && qY US (q + 1)) = ((B1 && qY US q) && b2) := (by rw [hnx, Bool.and_assoc]);generalize (B1 && qY US q) = b1 at hnx2 ⊢;have HNX := lhid hnx2;clear hnx hnx2;cases b1 <;> cases b2
          all_goals
           (go_wp2_with fail);go_round
           case rel => exact ⟨q + 1, by omega, by go_num, by rw [HNX.out]; rfl⟩
           case measure => simp [RowKit.intOf]; omega
         ·have hqe : q = h.1.length := (by omega);rw [hqe];have HF2 := lhid (HF1.out _ rfl);generalize (B1 && qY US h.1.length) = B2 at HF2 ⊢;clear hqe;obtain rfl : q = h.1.length := by omega
          cases B2 with
          | false =>
           (go_wp2_with fail);go_ret;rw [HF2.out];exact ⟨rfl, hbwx⟩
          | true =>
           (go_wp2_with fail);go_ret;rw [HF2.out];exact ⟨rfl, hbwx⟩
end Go.Proofs.YtdfegfagedeilaaGreatDoor

namespace Go.Proofs.YtdfegfagedeilaaGreatDoor
open Go.RowKit Go.Lib
def nI (T : List bB) (k : Nat) : Nat := ((T.take k).filter aP).length
theorem aTv (T : List bB) (k : Nat) (hk : k < T.length) : T.take (k + 1) = T.take k ++ [T.getD k aM] := by
 rw [List.take_succ_eq_append_getElem hk];simp [hk]
theorem aKc (T : List bB) (k : Nat) (hk : k < T.length) : nI T (k + 1) = if aP (T.getD k aM) then nI T k + 1 else nI T k := by
 unfold nI;rw [aTv T k hk, List.filter_append, List.length_append, List.filter_cons];split <;> simp
theorem bJy (T : List bB) (k : Nat) : nI T k ≤ (T.filter aP).length := by
 unfold nI;exact ((List.take_sublist k T).filter aP).length_le
theorem bJz (T : List bB) (k : Nat) (hk : k < T.length) (hp : aP (T.getD k aM) = true) : nI T k < (T.filter aP).length := by
 have h1 := aKc T k hk;rw [if_pos hp] at h1;have := bJy T (k + 1);omega
theorem aXb {α : Type} (c : List α) (k : Nat) (d : α) : c.tail.getD k d = c.getD (k + 1) d := by cases c <;> simp
theorem aRd {α : Type} (c : List α) (d : α) : c.headD d = c.getD 0 d := by cases c <;> simp
def yE (T : List bB) (c : List Bool) (k : Nat) : Bool := if (T.getD k aM).2.1 = 1 then true else if (T.getD k aM).2.1 = 3 then c.getD (nI T k) false else false
theorem aBz : ∀ (T : List bB) (c : List Bool) (k : Nat), k < T.length → (aL T c)[k]? = some (yE T c k)
 | [], _, _, h => absurd h (Nat.not_lt_zero _)
 | t :: r, c, 0, _ => by
  unfold aL yE nI;simp only [List.getD_cons_zero, List.take_zero, List.filter_nil, List.length_nil];split
  ·rfl
  ·split
   ·rw [aRd]; rfl
   ·rfl
 | t :: r, c, k + 1, h => by
  have hk : k < r.length := (by simpa using h);have e : ∀ c', (aL (t :: r) c)[k + 1]? = (aL r c')[k]? → yE r c' k = yE (t :: r) c (k + 1) → (aL (t :: r) c)[k + 1]? = some (yE (t :: r) c (k + 1)) := fun c' e1 e2 => (by rw [e1, aBz r c' k hk, e2]);by_cases h1 : t.2.1 = 1
  ·refine e c (by rw [aL, if_pos h1]; rfl) ?_;unfold yE nI;have hi : aP t = false := (by unfold aP; simp [h1]);simp [hi]
  ·by_cases h3 : t.2.1 = 3
   ·refine e c.tail (by rw [aL, if_neg h1, if_pos h3]; rfl) ?_;unfold yE nI;have hi : aP t = true := (by unfold aP; simp [h3]);simp only [List.getD_cons_succ, List.take_succ_cons, List.filter_cons, hi, if_true, List.length_cons, aXb]
   ·refine e c (by rw [aL, if_neg h1, if_neg h3]; rfl) ?_;unfold yE nI;have hi : aP t = false := (by unfold aP; simp [h3]);simp [hi]
theorem sC (T : List bB) (c : List Bool) (k : Nat) (hk : k < T.length) : (aL T c).take (k + 1) = (aL T c).take k ++ [yE T c k] := by
 rw [List.take_add_one, aBz T c k hk];rfl
theorem zQ (T : List bB) (c : List Bool) : (aL T c).take T.length = aL T c := by
 conv => lhs; rw [← lR T c]
 exact List.take_length
def oQ (T : List bB) (c : List Bool) (k : Nat) : List Bool := (aL T c).take k ++ List.replicate (T.length - k) false
theorem bCb (T : List bB) (c : List Bool) (k : Nat) (hk : k ≤ T.length) : (oQ T c k).length = T.length := by
 unfold oQ;rw [List.length_append, List.length_take, lR, List.length_replicate];omega
theorem aWt (T : List bB) (c : List Bool) : oQ T c 0 = List.replicate T.length false := by simp [oQ]
theorem bCa (T : List bB) (c : List Bool) : oQ T c T.length = aL T c := by
 unfold oQ;rw [zQ, Nat.sub_self];simp
theorem aWq (T : List bB) (c : List Bool) (k : Nat) (hk : k < T.length) : oQ T c (k + 1) = (oQ T c k).set k (yE T c k) := by
 unfold oQ;have hl : ((aL T c).take k).length = k := (by rw [List.length_take, lR]; omega);obtain ⟨m, hm⟩ : ∃ m, T.length - k = m + 1 := ⟨T.length - k - 1, by omega⟩;rw [sC T c k hk, hm, show T.length - (k + 1) = m by omega, List.replicate_succ, List.set_append_right _ _ (by omega), hl, Nat.sub_self, List.set_cons_zero, List.append_assoc];rfl
theorem aWs (T : List bB) (c : List Bool) (k : Nat) (hk : k < T.length) (h : yE T c k = false) : oQ T c (k + 1) = oQ T c k := by
 unfold oQ;obtain ⟨m, hm⟩ : ∃ m, T.length - k = m + 1 := ⟨T.length - k - 1, by omega⟩;rw [sC T c k hk, hm, show T.length - (k + 1) = m by omega, List.replicate_succ, h, List.append_assoc];rfl
end Go.Proofs.YtdfegfagedeilaaGreatDoor

namespace Go.Proofs
open Go.Shelf
def Tryz.laysSortV_ren : Go.Shelf.Ren := ⟨fun | 6 => 101 | 15 => 125 | 14 => 124 | 28 => 150 | 29 => 151 | 20 => 142 | 21 => 143 | 22 => 144 | 23 => 145 | 24 => 146 | 25 => 147 | 26 => 148 | 27 => 149 | 46 => 164 | 47 => 165 | 48 => 166 | 49 => 167 | 50 => 168 | 57 => 177 | n => n, fun | 22 => 27 | 24 => 57 | 25 => 145 | 3 => 3 | 39 => 171 | 0 => 0 | 53 => 197 | 55 => 199 | 4 => 4 | 46 => 191 | 45 => 190 | 50 => 131 | 5 => 5 | 9 => 9 | 66 => 208 | 70 => 212 | 76 => 220 | 77 => 140 | n => n, fun | n => n⟩
theorem Tryz.laysSortV : Go.Proofs.SlLaysF0.n6 Tryz.prog Tryz.laysSortV_ren := {
 mixed := by kernel_rfl
 f6 := ⟨Tryz.f101.name, by decide, Tryz.func101.trans (congrArg some (by kernel_rfl))⟩
 f14 := ⟨Tryz.f124.name, by decide, Tryz.func124.trans (congrArg some (by kernel_rfl))⟩
 f15 := Tryz.func125.trans (congrArg some (by kernel_rfl))
 f20 := ⟨Tryz.f142.name, by decide, Tryz.func142.trans (congrArg some (by kernel_rfl))⟩
 f21 := ⟨Tryz.f143.name, by decide, Tryz.func143.trans (congrArg some (by kernel_rfl))⟩
 f22 := ⟨Tryz.f144.name, by decide, Tryz.func144.trans (congrArg some (by kernel_rfl))⟩
 f23 := ⟨Tryz.f145.name, by decide, Tryz.func145.trans (congrArg some (by kernel_rfl))⟩
 f24 := ⟨Tryz.f146.name, by decide, Tryz.func146.trans (congrArg some (by kernel_rfl))⟩
 f25 := ⟨Tryz.f147.name, by decide, Tryz.func147.trans (congrArg some (by kernel_rfl))⟩
 f26 := ⟨Tryz.f148.name, by decide, Tryz.func148.trans (congrArg some (by kernel_rfl))⟩
 f27 := ⟨Tryz.f149.name, by decide, Tryz.func149.trans (congrArg some (by kernel_rfl))⟩
 f28 := Tryz.func150.trans (congrArg some (by kernel_rfl))
 f29 := Tryz.func151.trans (congrArg some (by kernel_rfl))
 f46 := ⟨Tryz.f164.name, by decide, Tryz.func164.trans (congrArg some (by kernel_rfl))⟩
 f47 := Tryz.func165.trans (congrArg some (by kernel_rfl))
 f48 := Tryz.func166.trans (congrArg some (by kernel_rfl))
 f49 := ⟨Tryz.f167.name, by decide, Tryz.func167.trans (congrArg some (by kernel_rfl))⟩
 f50 := ⟨Tryz.f168.name, by decide, Tryz.func168.trans (congrArg some (by kernel_rfl))⟩
 f57 := ⟨Tryz.f177.name, by decide, Tryz.func177.trans (congrArg some (by kernel_rfl))⟩
 t0 := Tryz.underlying0
 a0 := Tryz.isAgg0
 z0 := Tryz.sizeOf0
 v0 := Tryz.zeroValue0
 t3 := Tryz.underlying3
 a3 := Tryz.isAgg3
 z3 := Tryz.sizeOf3
 v3 := Tryz.zeroValue3
 t4 := Tryz.underlying4
 a4 := Tryz.isAgg4
 z4 := Tryz.sizeOf4
 v4 := Tryz.zeroValue4
 t5 := Tryz.underlying5
 a5 := Tryz.isAgg5
 z5 := Tryz.sizeOf5
 v5 := Tryz.zeroValue5
 t9 := Tryz.underlying9
 a9 := Tryz.isAgg9
 z9 := Tryz.sizeOf9
 v9 := Tryz.zeroValue9
 t22 := Tryz.underlying27
 a22 := Tryz.isAgg27
 z22 := Tryz.sizeOf27
 v22 := Tryz.zeroValue27
 t25 := Tryz.underlying145
 a25 := Tryz.isAgg145
 z25 := Tryz.sizeOf145
 v25 := Tryz.zeroValue145
 t39 := Tryz.underlying171
 a39 := Tryz.isAgg171
 z39 := Tryz.sizeOf171
 v39 := Tryz.zeroValue171
 t45 := Tryz.underlying190
 a45 := Tryz.isAgg190
 z45 := Tryz.sizeOf190
 v45 := Tryz.zeroValue190
 t46 := Tryz.underlying191
 a46 := Tryz.isAgg191
 z46 := Tryz.sizeOf191
 v46 := Tryz.zeroValue191
 t50 := Tryz.underlying131
 a50 := Tryz.isAgg131
 z50 := Tryz.sizeOf131
 v50 := Tryz.zeroValue131
 t53 := Tryz.underlying197
 a53 := Tryz.isAgg197
 z53 := Tryz.sizeOf197
 v53 := Tryz.zeroValue197
 t55 := Tryz.underlying199
 a55 := Tryz.isAgg199
 z55 := Tryz.sizeOf199
 v55 := Tryz.zeroValue199
 t66 := Tryz.underlying208
 a66 := Tryz.isAgg208
 z66 := Tryz.sizeOf208
 v66 := Tryz.zeroValue208
 t70 := Tryz.underlying212
 a70 := Tryz.isAgg212
 z70 := Tryz.sizeOf212
 v70 := Tryz.zeroValue212
 t76 := Tryz.underlying220
 a76 := Tryz.isAgg220
 z76 := Tryz.sizeOf220
 v76 := Tryz.zeroValue220
 t77 := Tryz.underlying140
 a77 := Tryz.isAgg140
 z77 := Tryz.sizeOf140
 v77 := Tryz.zeroValue140 }
end Go.Proofs

namespace Go.Proofs.YtdfegfagedeilaaGreatDoor
open Go.RowKit Go.Lib
def dH (v u : Value) : Prop := ∀ k, v.ownBlock = some k → u.ownBlock = some k → False
theorem dH.flip {v u : Value} (h : dH v u) : dH u v := fun k h1 h2 => h k h2 h1
theorem dH.new {w : World} {base size n : Nat} {e : TypeId} {v : Value} {xs : List Value} (h : w.ownsRow base e size v n xs) (a b : Nat) : dH v (.slice (some ⟨w.heap.size, 0, none⟩) a b) := fun k h1 h2 => by
 have h3 : w.heap.size = k := (by simpa [Value.ownBlock] using h2);have := (h.lt k h1).2;omega
theorem dH.grow {w : World} {base size n : Nat} {e : TypeId} {v v' u : Value} {xs : List Value} (h : dH v u) (hat : v'.ownBlock = v.ownBlock ∨ v'.ownBlock = some w.heap.size) (hu : w.ownsRow base e size u n xs) : dH v' u := fun k h1 h2 => by
 rcases hat with e | e
 ·exact h k (e ▸ h1) h2
 ·rw [e] at h1;have h3 : w.heap.size = k := (by simpa using h1);have := (hu.lt k h2).2;omega
end Go.Proofs.YtdfegfagedeilaaGreatDoor
