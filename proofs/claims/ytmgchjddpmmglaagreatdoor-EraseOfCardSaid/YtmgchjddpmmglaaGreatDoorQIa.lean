/-
  Layer 11's reference in plain words: numbers marked as used. No conditions.
  The walk of layer 11's reference (hist): whether a transaction's operations may be; which keys they have. No conditions.
  The walk of layer 11's reference (hist): whether a history may be. No conditions.
  A history as an argument: what its reading says of its cells; rows of a call's own as histories' parts. No conditions.
-/
import Derived.Test.YtmgchjddpmmglaaGreatDoorQAi
import Derived.Test.YtmgchjddpmmglaaGreatDoorQAm
import Derived.Deep.CutBlock
namespace Go.Proofs.YtmgchjddpmmglaaGreatDoor
section
def marks (U : List Bool) (ks : List Int) : List Bool := ks.foldl (fun U k => U.set k.toNat true) U
theorem marks_snoc (U : List Bool) (ks : List Int) (k : Int) : marks U (ks ++ [k]) = (marks U ks).set k.toNat true := by simp [marks]
theorem marks_app (U : List Bool) (ks ls : List Int) : marks U (ks ++ ls) = marks (marks U ks) ls := by simp [marks]
theorem marks_len (ks : List Int) : ∀ U : List Bool, (marks U ks).length = U.length := by
 induction ks with
 | nil => intro U; rfl
 | cons k ks ih => intro U; show (marks (U.set k.toNat true) ks).length = _; rw [ih, List.length_set]
theorem marks_get (ks : List Int) : ∀ (U : List Bool) (i : Nat), i < U.length → (marks U ks).getD i false = (U.getD i false || (ks.map Int.toNat).contains i) := by
 induction ks with
 | nil => intro U i _; simp [marks]
 | cons k ks ih =>
  intro U i hi
  show (marks (U.set k.toNat true) ks).getD i false = _
  rw [ih _ _ (by rw [List.length_set]; exact hi)]
  rw [List.map_cons, List.contains_cons]
  by_cases e : i = k.toNat
  ·subst e
   simp [hi]
  ·have e' : (i == k.toNat) = false := by simpa using e
   rw [e', Bool.false_or]
   congr 1
   simp [List.getD, Ne.symm e]
theorem all_getD (U : List Bool) : U.all id = (List.range U.length).all fun i => U.getD i false := by
 rw [Bool.eq_iff_iff, List.all_eq_true, List.all_eq_true]
 constructor
 ·intro h i hi
  have hi' := List.mem_range.1 hi
  have : U.getD i false = U[i] := by simp [hi']
  rw [this]
  exact h _ (List.getElem_mem hi')
 ·intro h x hx
  obtain ⟨i, hi, rfl⟩ := List.getElem_of_mem hx
  have := h i (List.mem_range.2 hi)
  simpa [hi] using this
theorem marks_all (m : Nat) (ks : List Int) (hk : ∀ x ∈ ks, 0 ≤ x ∧ x < (m : Int)) : (marks (List.replicate m false) ks).all id = allUsed m ks := by
 rw [all_getD, marks_len, List.length_replicate]
 unfold allUsed
 rw [Bool.eq_iff_iff, List.all_eq_true, List.all_eq_true]
 have key : ∀ i, i < m → ((marks (List.replicate m false) ks).getD i false = true ↔ ks.contains (i : Int) = true) := by
  intro i hi
  rw [marks_get _ _ _ (by simpa using hi)]
  have : (List.replicate m false).getD i false = false := by simp [List.getD, hi]
  rw [this, Bool.false_or, List.contains_iff_mem, List.contains_iff_mem, List.mem_map]
  constructor
  ·rintro ⟨x, hx, e⟩
   have := hk x hx
   have e2 : x = (i : Int) := by omega
   rw [← e2]; exact hx
  ·intro hx
   exact ⟨_, hx, by simp⟩
 exact ⟨fun h i hi => (key i (List.mem_range.1 hi)).1 (h i hi), fun h i hi => (key i (List.mem_range.1 hi)).2 (h i hi)⟩
def allK (U : List Bool) (k : Nat) : Bool := (U.take k).all id
theorem allK_next (U : List Bool) (k : Nat) (h : k < U.length) : allK U (k + 1) = (allK U k && U.getD k false) := by
 unfold allK
 rw [List.take_add_one, List.all_append]
 congr 1
 simp [h]
theorem allK_all (U : List Bool) : allK U U.length = U.all id := by unfold allK; rw [List.take_length]
def keysO (l : List OpM) (k : Nat) : List Int := (l.take k).map (·.2.1)
theorem keysO_next (l : List OpM) (k : Nat) (h : k < l.length) : keysO l (k + 1) = keysO l k ++ [(l.getD k noOp).2.1] := by
 unfold keysO
 rw [List.take_add_one, List.map_append]
 congr 1
 simp [h]
def keysT (L : List TxnM) (k : Nat) : List Int := ((L.take k).flatMap (·.2.2)).map (·.2.1)
theorem keysT_next (L : List TxnM) (k : Nat) (h : k < L.length) : keysT L (k + 1) = keysT L k ++ (L.getD k noTxn).2.2.map (·.2.1) := by
 unfold keysT
 rw [List.take_add_one, List.flatMap_append, List.map_append]
 congr 1
 simp [h]
def okFull (h : HistM) (t : TxnM) : Bool := okTxn h.1.length t && t.2.2.all (okOp h.2.1.length)
theorem may_full (h : HistM) : mayH h = (okHeads h && (h.2.2.all (okFull h) && usedH h)) := by
 have e : (h.2.2.all (okTxn h.1.length) && ((allOps h).all (okOp h.2.1.length))) = h.2.2.all (okFull h) := by
  unfold allOps okFull
  generalize h.2.2 = L
  induction L with
  | nil => rfl
  | cons t L ih =>
   rw [List.flatMap_cons, List.all_cons, List.all_cons, List.all_append, ← ih]
   cases okTxn h.1.length t <;> cases t.2.2.all (okOp h.2.1.length) <;> simp
 unfold mayH
 rw [← Bool.and_assoc (h.2.2.all (okTxn h.1.length)), e]
end
section
open Go.RowKit Go.Lib
def vbools (U : List Bool) : List Value := U.map fun b => .bool b
theorem vbools_set (U : List Bool) (j : Nat) (b : Bool) : (vbools U).set j (.bool b) = vbools (U.set j b) := by simp [vbools, List.map_set]
theorem vbools_get (U : List Bool) (j : Nat) (h : j < U.length) : (vbools U)[j]? = some (.bool (U.getD j false)) := by simp [vbools, h]
theorem below_grown {w w' : World} (h : Below w.heap.size w w') (row : Option Nat) : w.grownBy w' row := ⟨h.os, h.tape, h.output, h.size, fun k hk _ => h.block k hk⟩
theorem grown_trans {a b c : World} {row : Option Nat} (h : a.grownBy b row) (k : b.grownBy c row) : a.grownBy c row :=
 ⟨k.os.trans h.os, k.tape.trans h.tape, k.output.trans h.output, Nat.le_trans h.size k.size, fun i hi hne => (k.block i (Nat.lt_of_lt_of_le hi h.size) hne).trans (h.block i hi hne)⟩
theorem grown_set (w : World) (b j : Nat) (v : Value) : w.grownBy (w.setCell ⟨b, j, none⟩ v) (some b) :=
 ⟨rfl, rfl, rfl, by simp [World.setCell], fun k _ hk => Below.heap_setCell w _ v k (fun e => hk (by rw [e]))⟩
theorem cell_grown {w w' : World} {row : Nat} {a : Addr} {v : Value} (h : w.cell? a = some v) (hg : w.grownBy w' (some row)) (hne : a.block ≠ row) : w'.cell? a = some v := hg.cell h (fun e => hne (Option.some.inj e))
def RPost (w : World) (base gu cu : Nat) (U M : List Bool) (b : Bool) (w' : World) : Prop :=
 w.grownBy w' (some gu) ∧ ∃ U' : List Bool, w'.ownsRow base 4 1 (.slice (some ⟨gu, 0, none⟩) U.length cu) U.length (vbools U') ∧ U'.length = U.length ∧ (b = true → U' = M)
theorem rpost {w : World} {base gu cu : Nat} {U M : List Bool} {b : Bool} {w' : World} (h1 : w.grownBy w' (some gu)) (U' : List Bool) (h2 : w'.ownsRow base 4 1 (.slice (some ⟨gu, 0, none⟩) U.length cu) U.length (vbools U')) (h3 : U'.length = U.length) (h4 : b = true → U' = M) : RPost w base gu cu U M b w' := ⟨h1, U', h2, h3, h4⟩
set_option maxRecDepth 100000 in
set_option maxHeartbeats 4000000 in
theorem rops_any (v0 v1 v2 sv : Value) (S K : List (List UInt8)) (t : TxnM) (gu cu : Nat) (U : List Bool) (base : Nat) (w : World) (h0 : Texts w v0 S) (h1 : Texts w v1 K) (h2 : ∃ p c n, v2 = .slice p n c) (hs : OpsS w sv t.2.2) (hl : t.2.2.length ≤ 1000)
  (_ : K.length ≤ 1000000) (hU : U.length = K.length) (hu : w.ownsRow base 4 1 (.slice (some ⟨gu, 0, none⟩) U.length cu) U.length (vbools U)) (hne : ∀ j, j < t.2.2.length → ∀ p n c, sv = .slice (some p) n c → p.block ≠ gu) :
  Calls Tryz.prog 81 #[.agg #[v0, v1, v2], .agg #[.int .i64 t.1, .int .i64 t.2.1, sv], .slice (some ⟨gu, 0, none⟩) U.length cu] w fun e w' => e = .returned (.bool (okTxn S.length t && t.2.2.all (okOp K.length))) ∧ RPost w base gu cu U (marks U (t.2.2.map (·.2.1))) (okTxn S.length t && t.2.2.all (okOp K.length)) w' := by
 obtain ⟨p0, c0, rfl, -⟩ := h0
 obtain ⟨p1, c1, rfl, -⟩ := h1
 obtain ⟨p2, c2, n2, rfl⟩ := h2
 obtain ⟨ps, cs, rfl, -, ho⟩ := hs
 obtain ⟨s, f, tl⟩ := t
 simp only at ho hl hne
 have HO := Lib.hid ho
 have HNE := Lib.hid hne
 have hU1 : U.length ≤ K.length := by omega
 have hU2 : K.length ≤ U.length := by omega
 clear hU
 have gw : gu < w.heap.size := (hu.lt gu rfl).2
 have hbx : w.grownBy ((w.alloc (.cells #[.slice p0 S.length c0, .slice p1 K.length c1, .slice p2 n2 c2] 25)).alloc (.cells #[.int .i64 s, .int .i64 f, .slice ps tl.length cs] 47)) (some gu) := grown_trans (World.grownBy_alloc _ _ _) (World.grownBy_alloc _ _ _)
 have hux := (hu.alloc (.cells #[.slice p0 S.length c0, .slice p1 K.length c1, .slice p2 n2 c2] 25)).alloc (.cells #[.int .i64 s, .int .i64 f, .slice ps tl.length cs] 47)
 have b0 := (Blk.new w 25 [.slice p0 S.length c0, .slice p1 K.length c1, .slice p2 n2 c2]).alloc (.cells #[.int .i64 s, .int .i64 f, .slice ps tl.length cs] 47)
 have b1 := Blk.new (w.alloc (.cells #[.slice p0 S.length c0, .slice p1 K.length c1, .slice p2 n2 c2] 25)) 47 [.int .i64 s, .int .i64 f, .slice ps tl.length cs]
 simp only [World.size_alloc] at b1
 have HBX := Lib.hid hbx
 have HUX := Lib.hid hux
 have B0 := Lib.hid b0
 have B1 := Lib.hid b1
 clear ho hne hbx hux b0 b1 hu
 -- the five tests ahead of the loop
 by_cases g1 : s < 0
 ·have hok : okTxn S.length (s, f, tl) = false := by
   rw [Bool.eq_false_iff]
   simp only [okTxn, inside, ne_eq, Bool.and_eq_true, decide_eq_true_eq]
   omega
  rw [hok, Bool.false_and]
  clear hok
  go_enter Tryz.func81, Tryz.ntmps81
  go_wp2_with fail
  go_ret
  exact ⟨rfl, rpost HBX.out U HUX.out rfl (fun h => by cases h)⟩
 by_cases g2 : (S.length : Int) ≤ s
 ·have hok : okTxn S.length (s, f, tl) = false := by
   rw [Bool.eq_false_iff]
   simp only [okTxn, inside, ne_eq, Bool.and_eq_true, decide_eq_true_eq]
   omega
  rw [hok, Bool.false_and]
  clear hok
  go_enter Tryz.func81, Tryz.ntmps81
  go_wp2_with fail
  go_ret
  exact ⟨rfl, rpost HBX.out U HUX.out rfl (fun h => by cases h)⟩
 by_cases g3 : f < 1
 ·have hok : okTxn S.length (s, f, tl) = false := by
   rw [Bool.eq_false_iff]
   simp only [okTxn, inside, ne_eq, Bool.and_eq_true, decide_eq_true_eq]
   omega
  rw [hok, Bool.false_and]
  clear hok
  go_enter Tryz.func81, Tryz.ntmps81
  go_wp2_with fail
  go_ret
  exact ⟨rfl, rpost HBX.out U HUX.out rfl (fun h => by cases h)⟩
 by_cases g4 : 3 < f
 ·have hok : okTxn S.length (s, f, tl) = false := by
   rw [Bool.eq_false_iff]
   simp only [okTxn, inside, ne_eq, Bool.and_eq_true, decide_eq_true_eq]
   omega
  rw [hok, Bool.false_and]
  clear hok
  go_enter Tryz.func81, Tryz.ntmps81
  go_wp2_with fail
  go_ret
  exact ⟨rfl, rpost HBX.out U HUX.out rfl (fun h => by cases h)⟩
 by_cases g5 : 20 < tl.length
 ·have hok : okTxn S.length (s, f, tl) = false := by
   rw [Bool.eq_false_iff]
   simp only [okTxn, inside, ne_eq, Bool.and_eq_true, decide_eq_true_eq]
   omega
  rw [hok, Bool.false_and]
  clear hok
  go_enter Tryz.func81, Tryz.ntmps81
  go_wp2_with fail
  go_ret
  exact ⟨rfl, rpost HBX.out U HUX.out rfl (fun h => by cases h)⟩
 have hok : okTxn S.length (s, f, tl) = true := by
  simp only [okTxn, inside, Bool.and_eq_true, decide_eq_true_eq]
  omega
 rw [hok, Bool.true_and]
 clear hok
 go_enter Tryz.func81, Tryz.ntmps81
 go_wp2_with fail
 go_loopw [7] (fun i wr => ∃ k : Nat, k ≤ tl.length ∧ i = .int .i64 k ∧ (∀ j, j < k → okOp K.length (tl.getD j noOp) = true) ∧ wr.ownsRow base 4 1 (.slice (some ⟨gu, 0, none⟩) U.length cu) U.length (vbools (marks U (keysO tl k))) ∧ ((w.alloc (.cells #[.slice p0 S.length c0, .slice p1 K.length c1, .slice p2 n2 c2] 25)).alloc (.cells #[.int .i64 s, .int .i64 f, .slice ps tl.length cs] 47)).grownBy wr (some gu)) (fun i _ => tl.length - (RowKit.intOf i).toNat)
 case atStart => exact ⟨0, Nat.zero_le _, rfl, fun j hj => absurd hj (Nat.not_lt_zero j), HUX.out, World.grownBy.refl _ _⟩
 case round =>
  obtain ⟨k, hk, rfl, hn, hown, hg⟩ := hrel
  have y0 := B0.out.kept hg (fun e => by have := Option.some.inj e; omega)
  have y1 := B1.out.kept hg (fun e => by have := Option.some.inj e; omega)
  have x1 := y0.cell 1 rfl
  have x2 := y1.cell 2 rfl
  have hz0 : w.heap.size < wr.heap.size := y0.lt
  have hz1 : w.heap.size + 1 < wr.heap.size := y1.lt
  have HN := Lib.hid hn
  have hgw := grown_trans HBX.out hg
  clear y0 y1 hn
  by_cases hk1 : k < tl.length
  ·obtain ⟨g, rfl, o0, o1, o2, o3⟩ := HO.out k hk1
   have hgn : g ≠ gu := HNE.out k hk1 _ _ _ rfl
   have a0 := cell_grown o0 hgw hgn
   have a1 := cell_grown o1 hgw hgn
   have a2 := cell_grown o2 hgw hgn
   have a3 := cell_grown o3 hgw hgn
   have hkn := keysO_next tl k hk1
   have HNo : RowKit.Hid (okOp K.length (tl.getD k noOp) = false → tl.all (okOp K.length) = false) := Lib.hid (fun hf => by
    rw [List.all_eq_false]
    refine ⟨tl.getD k noOp, ?_, by rw [hf]; exact Bool.false_ne_true⟩
    have : tl.getD k noOp = tl[k] := by simp [hk1]
    rw [this]
    exact List.getElem_mem hk1)
   have HYes : RowKit.Hid (okOp K.length (tl.getD k noOp) = true → ∀ j, j < k + 1 → okOp K.length (tl.getD j noOp) = true) := Lib.hid (fun h j hj => by
    by_cases hjk : j < k
    ·exact HN.out j hjk
    ·obtain rfl : j = k := by omega
     exact h)
   obtain ⟨o, hoo⟩ : ∃ o, tl.getD k noOp = o := ⟨_, rfl⟩
   rw [hoo] at a0 a1 a2 a3 hkn HNo HYes
   obtain ⟨ow, ok, od, on⟩ := o
   simp only at a0 a1 a2 a3 hkn
   have HKN := Lib.hid hkn
   clear o0 o1 o2 o3 hoo hkn HO
   by_cases q1 : ok < 0
   ·have hf : okOp K.length (ow, ok, od, on) = false := by
     rw [Bool.eq_false_iff]
     simp only [okOp, inside, ne_eq, Bool.and_eq_true, decide_eq_true_eq]
     omega
    have HF := Lib.hid (HNo.out hf)
    clear hf
    go_wp2_with fail
    go_ret
    rw [HF.out]
    exact ⟨rfl, rpost (grown_trans hgw (World.grownBy_alloc _ _ _)) _ (hown.alloc _) (marks_len _ _) (fun h => by cases h)⟩
   by_cases q2 : (K.length : Int) ≤ ok
   ·have hf : okOp K.length (ow, ok, od, on) = false := by
     rw [Bool.eq_false_iff]
     simp only [okOp, inside, ne_eq, Bool.and_eq_true, decide_eq_true_eq]
     omega
    have HF := Lib.hid (HNo.out hf)
    clear hf
    go_wp2_with fail
    go_ret
    rw [HF.out]
    exact ⟨rfl, rpost (grown_trans hgw (World.grownBy_alloc _ _ _)) _ (hown.alloc _) (marks_len _ _) (fun h => by cases h)⟩
   have hin : inside ok K.length = true := by
    simp only [inside, Bool.and_eq_true, decide_eq_true_eq]
    omega
   have HOK : RowKit.Hid (okOp K.length (ow, ok, od, on) = (mayV od on && (!ow || od == 1))) := Lib.hid (by simp only [okOp]; rw [hin, Bool.true_and])
   obtain ⟨nk, rfl⟩ := Int.eq_ofNat_of_zero_le (show (0 : Int) ≤ ok by omega)
   have hnk : nk < U.length := by omega
   have hml : (marks U (keysO tl k)).length = U.length := marks_len _ _
   have ox := Blk.new wr 51 [.bool ow, .int .i64 (nk : Int), .int .i64 od, .int .i64 on]
   have HX := Lib.hid ox
   have HMay := Lib.hid (rvmay_any od on (wr.alloc (.cells #[.bool ow, .int .i64 (nk : Int), .int .i64 od, .int .i64 on] 51)))
   have HG := Lib.hid hgw
   have HG1 := Lib.hid hg
   clear hin ox hgw hg
   cases hv : mayV od on with
   | false =>
    rw [hv] at HMay HOK
    have HF := Lib.hid (HNo.out (by rw [HOK.out]; rfl))
    clear hv
    go_wp2_with fail
    refine HMay.out.mono ?_
    rintro e w3 ⟨rfl, hb3⟩
    have hown3 := owns_later (hown.alloc _) hb3
    have HG3 := Lib.hid (grown_trans (grown_trans HG.out (World.grownBy_alloc _ _ _)) (below_grown hb3 _))
    clear hb3 hown
    go_wp2_with fail
    go_ret
    rw [HF.out]
    exact ⟨rfl, rpost HG3.out _ hown3 (marks_len _ _) (fun h => by cases h)⟩
   | true =>
    rw [hv, Bool.true_and] at HOK
    rw [hv] at HMay
    clear hv
    by_cases q3 : ow = true ∧ od ≠ 1
    ·obtain ⟨rfl, q4⟩ := q3
     have q5 : (od == 1) = false := beq_eq_false_iff_ne.2 q4
     have q6 : (od != 1) = true := bne_iff_ne.2 q4
     have HF := Lib.hid (HNo.out (by rw [HOK.out, q5]; rfl))
     clear q4
     go_wp2_with fail
     refine HMay.out.mono ?_
     rintro e w3 ⟨rfl, hb3⟩
     have hown3 := owns_later (hown.alloc _) hb3
     have xx := HX.out.later hb3
     have z0 := xx.cell 0 rfl
     have z1 := xx.cell 1 rfl
     have z2 := xx.cell 2 rfl
     have HG3 := Lib.hid (grown_trans (grown_trans HG.out (World.grownBy_alloc _ _ _)) (below_grown hb3 _))
     clear hb3 hown xx
     go_wp2_with fail
     go_ret
     rw [HF.out]
     exact ⟨rfl, rpost HG3.out _ hown3 (marks_len _ _) (fun h => by cases h)⟩
    ·have hyes : okOp K.length (ow, (nk : Int), od, on) = true := by
      rw [HOK.out]
      cases ow with
      | false => rfl
      | true =>
       by_cases e : od = 1
       ·rw [e]; rfl
       ·exact absurd ⟨rfl, e⟩ q3
     have HY := Lib.hid (HYes.out hyes)
     have q7 : ow = false ∨ (ow = true ∧ od = 1) := by
      cases ow with
      | false => exact .inl rfl
      | true =>
       by_cases e : od = 1
       ·exact .inr ⟨rfl, e⟩
       ·exact absurd ⟨rfl, e⟩ q3
     clear q3 hyes
     rcases q7 with rfl | ⟨rfl, rfl⟩
     all_goals
      go_wp2_with fail
      refine HMay.out.mono ?_
      rintro e w3 ⟨rfl, hb3⟩
      have hown3 := owns_later (hown.alloc _) hb3
      have xx := HX.out.later hb3
      have z0 := xx.cell 0 rfl
      have z1 := xx.cell 1 rfl
      have z2 := xx.cell 2 rfl
      have r1 : w3.cell? ⟨gu, nk, none⟩ = some (.bool ((marks U (keysO tl k)).getD nk false)) := by
       rw [hown3.cellAt nk (by omega)]
       exact vbools_get _ _ (by omega)
      have r2 := hown3.frozenAt nk
      generalize (marks U (keysO tl k)).getD nk false = old at r1
      have hst := hown3.stored nk (.bool true)
      rw [vbools_set, show (marks U (keysO tl k)).set nk true = marks U (keysO tl (k + 1)) by rw [HKN.out, marks_snoc]; rfl] at hst
      have HST := Lib.hid hst.1
      have HG3 := Lib.hid (grown_trans (grown_trans (grown_trans HG1.out (World.grownBy_alloc _ _ _)) (below_grown hb3 _)) (grown_set w3 gu nk (.bool true)))
      have hu1 : (nk : Int) < (U.length : Int) := by omega
      clear hb3 hown xx hown3 hst
      go_wp2_with fail
      go_roundw
      case rel => exact ⟨k + 1, by omega, by go_num, HY.out, HST.out, HG3.out⟩
      case measure => simp [RowKit.intOf]; omega
  ·have hke : k = tl.length := by omega
   have hall : tl.all (okOp K.length) = true := by
    rw [List.all_eq_true]
    intro x hx
    obtain ⟨j, hj, e⟩ := List.getElem_of_mem hx
    have := HN.out j (by omega)
    simpa [hj, e] using this
   have hmk : marks U (keysO tl k) = marks U (tl.map (·.2.1)) := by rw [hke, keysO, List.take_length]
   have HA := Lib.hid hall
   have HMK := Lib.hid hmk
   clear hall hmk
   go_wp2_with fail
   go_ret
   rw [HA.out]
   exact ⟨rfl, rpost hgw _ hown (marks_len _ _) (fun _ => HMK.out)⟩
end
section
open Go.RowKit Go.Lib
theorem info_bool : (Tryz.prog.info? 4).map (fun i => (i.zero, i.size, i.bytes)) = some (some (.bool false), 1, 1) := by kernel_rfl
theorem made_bools (n : Nat) : (madeCells (Value.cells (.bool false)) (n * 1)).toList = vbools (List.replicate n false) := by
 rw [Nat.mul_one]
 show (madeCells #[.bool false] n).toList = _
 rw [toList_madeCells_one]
 simp [vbools]
theorem keepJ {n : Nat} {a W : World} (hn : n ≤ a.heap.size) (h : Below n a W) (o : Obj) : Below n a (W.alloc o) := h.alloc (Nat.le_trans hn h.size) o
theorem two_made (w W : World) (n m : Nat) (hw : w.heap.size + 1 ≤ W.heap.size) (hn : n ≤ 1000) (hm : m ≤ 1000) :
  ((W.alloc (.cells (madeCells #[.bool false] n) 4)).alloc (.cells (madeCells #[.bool false] m) 4)).drew.ownsRow (w.heap.size + 1) 4 1 (.slice (some ⟨W.heap.size, 0, none⟩) n n) n (vbools (List.replicate n false)) ∧
  ((W.alloc (.cells (madeCells #[.bool false] n) 4)).alloc (.cells (madeCells #[.bool false] m) 4)).drew.ownsRow (w.heap.size + 1) 4 1 (.slice (some ⟨W.heap.size + 1, 0, none⟩) m m) m (vbools (List.replicate m false)) := by
 have h1 := World.ownsRow_lit (base := w.heap.size + 1) (e := 4) (size := 1) W (madeCells #[.bool false] (n * 1)) n hw (by unfold maxLen; omega) (by rw [size_madeCells])
 have h2 := World.ownsRow_lit (base := w.heap.size + 1) (e := 4) (size := 1) (W.alloc (.cells (madeCells #[.bool false] n) 4)) (madeCells #[.bool false] (m * 1)) m (by simp; omega) (by unfold maxLen; omega) (by rw [size_madeCells])
 have e1 := made_bools n
 have e2 := made_bools m
 simp only [Nat.mul_one] at h1 h2 e1 e2
 rw [show Value.cells (.bool false) = #[.bool false] from rfl] at e1 e2
 rw [e1] at h1
 rw [e2] at h2
 simp only [World.size_alloc] at h2
 exact ⟨(h1.alloc _).drew, h2.drew⟩
theorem rops_k (v0 v1 v2 sv : Value) (S K : List (List UInt8)) (t : TxnM) (gu cu : Nat) (U : List Bool) (base : Nat) (w : World) (h0 : Texts w v0 S) (h1 : Texts w v1 K) (h2 : ∃ p c n, v2 = .slice p n c) (hs : OpsS w sv t.2.2) (hl : t.2.2.length ≤ 1000)
  (hK : K.length ≤ 1000000) (hU : U.length = K.length) (hu : w.ownsRow base 4 1 (.slice (some ⟨gu, 0, none⟩) K.length cu) K.length (vbools U)) (hne : ∀ j, j < t.2.2.length → ∀ p n c, sv = .slice (some p) n c → p.block ≠ gu) :
  Calls Tryz.prog 81 #[.agg #[v0, v1, v2], .agg #[.int .i64 t.1, .int .i64 t.2.1, sv], .slice (some ⟨gu, 0, none⟩) K.length cu] w fun e w' => e = .returned (.bool (okTxn S.length t && t.2.2.all (okOp K.length))) ∧
   (w.grownBy w' (some gu) ∧ ∃ U' : List Bool, w'.ownsRow base 4 1 (.slice (some ⟨gu, 0, none⟩) K.length cu) K.length (vbools U') ∧ U'.length = K.length ∧ ((okTxn S.length t && t.2.2.all (okOp K.length)) = true → U' = marks U (t.2.2.map (·.2.1)))) := by
 have h := rops_any v0 v1 v2 sv S K t gu cu U base w h0 h1 h2 hs hl hK hU (by rw [hU]; exact hu) hne
 rw [hU] at h
 refine h.mono ?_
 rintro e w' ⟨he, hg, U', a, b, c⟩
 rw [hU] at a b
 exact ⟨he, hg, U', a, b, c⟩
theorem grown_drew (w : World) (row : Option Nat) : w.grownBy w.drew row := ⟨rfl, rfl, rfl, Nat.le_refl _, fun _ _ _ => rfl⟩
set_option maxRecDepth 100000 in
set_option maxHeartbeats 8000000 in
theorem rmay_any (v0 v1 v2 : Value) (h : HistM) (w : World) (h0 : Texts w v0 h.1) (h1 : Texts w v1 h.2.1) (h2 : TxnsS w v2 h.2.2) (hm : Modst h) :
  Calls Tryz.prog 27 #[.agg #[v0, v1, v2]] w fun e w' => e = .returned (.int .i64 (errH h)) ∧ Below w.heap.size w w' := by
 obtain ⟨m1, m2, m3, m4, m5, m6⟩ := hm
 have H1 := Lib.hid (fun w' (hw : Texts w' v0 h.1) => rtis_any w' v0 h.1 hw (by omega) m4)
 have H2 := Lib.hid (fun w' (hw : Texts w' v1 h.2.1) => rtis_any w' v1 h.2.1 hw (by omega) m5)
 have HM6 := Lib.hid m6
 have T0 := Lib.hid h0
 have T1 := Lib.hid h1
 obtain ⟨p2, c2, rfl, hp⟩ := h2
 obtain ⟨p0, c0, rfl, -⟩ := h0
 obtain ⟨p1, c1, rfl, -⟩ := h1
 have HX := Lib.hid hp
 have HF : RowKit.Hid (okHeads h = false → errH h = 4) := Lib.hid (fun e => err_no (by rw [may_full, e]; rfl))
 have HT : RowKit.Hid (okHeads h = true → ∀ b, (h.2.2.all (okFull h) && usedH h) = b → errH h = if b then 0 else 4) := Lib.hid (fun e b hb => by unfold errH; rw [may_full, e, Bool.true_and, hb])
 have HH : RowKit.Hid (okHeads h = (isT h.1 && (isT h.2.1 && (decide (h.1.length ≤ 20) && (decide (h.2.1.length ≤ 40) && decide (h.2.2.length ≤ 40)))))) := Lib.hid rfl
 generalize isT h.1 = I at H1 HH
 generalize isT h.2.1 = J at H2 HH
 have b0 := Blk.new w 25 [.slice p0 h.1.length c0, .slice p1 h.2.1.length c1, .slice p2 h.2.2.length c2]
 have hb0 : Below w.heap.size w (w.alloc (.cells #[.slice p0 h.1.length c0, .slice p1 h.2.1.length c1, .slice p2 h.2.2.length c2] 25)) := (Below.refl _ w).alloc (Nat.le_refl _) _
 have HB0 := Lib.hid hb0
 have B0 := Lib.hid b0
 clear hp m4 m5 m6 b0 hb0
 cases I with
 | false =>
  have HE := Lib.hid (HF.out (by rw [HH.out]; rfl))
  go_enter Tryz.func27, Tryz.ntmps27
  go_wp2_with fail
  refine (H1.out _ (T0.out.below HB0.out)).mono ?_
  rintro e w1 ⟨rfl, hb1⟩
  have hbw1 := below_next HB0.out hb1
  have d1 := B0.out.later hb1
  have x10 := d1.cell 0 rfl
  have x11 := d1.cell 1 rfl
  have x12 := d1.cell 2 rfl
  have D1 := Lib.hid d1
  clear hb1 d1
  go_wp2_with fail
  go_ret
  rw [HE.out]
  exact ⟨rfl, hbw1⟩
 | true =>
  cases J with
  | false =>
   have HE := Lib.hid (HF.out (by rw [HH.out]; rfl))
   go_enter Tryz.func27, Tryz.ntmps27
   go_wp2_with fail
   refine (H1.out _ (T0.out.below HB0.out)).mono ?_
   rintro e w1 ⟨rfl, hb1⟩
   have hbw1 := below_next HB0.out hb1
   have d1 := B0.out.later hb1
   have x10 := d1.cell 0 rfl
   have x11 := d1.cell 1 rfl
   have x12 := d1.cell 2 rfl
   have D1 := Lib.hid d1
   clear hb1 d1
   go_wp2_with fail
   refine (H2.out _ (T1.out.below hbw1)).mono ?_
   rintro e w2 ⟨rfl, hb2⟩
   have hbw2 := below_next hbw1 hb2
   have d2 := D1.out.later hb2
   have x20 := d2.cell 0 rfl
   have x21 := d2.cell 1 rfl
   have x22 := d2.cell 2 rfl
   have D2 := Lib.hid d2
   clear hb2 d2 x10 x11 x12
   go_wp2_with fail
   go_ret
   rw [HE.out]
   exact ⟨rfl, hbw2⟩
  | true =>
   by_cases g1 : 20 < h.1.length
   ·have HE := Lib.hid (HF.out (by rw [HH.out, decide_eq_false (show ¬ h.1.length ≤ 20 by omega)]; rfl))
    go_enter Tryz.func27, Tryz.ntmps27
    go_wp2_with fail
    refine (H1.out _ (T0.out.below HB0.out)).mono ?_
    rintro e w1 ⟨rfl, hb1⟩
    have hbw1 := below_next HB0.out hb1
    have d1 := B0.out.later hb1
    have x10 := d1.cell 0 rfl
    have x11 := d1.cell 1 rfl
    have x12 := d1.cell 2 rfl
    have D1 := Lib.hid d1
    clear hb1 d1
    go_wp2_with fail
    refine (H2.out _ (T1.out.below hbw1)).mono ?_
    rintro e w2 ⟨rfl, hb2⟩
    have hbw2 := below_next hbw1 hb2
    have d2 := D1.out.later hb2
    have x20 := d2.cell 0 rfl
    have x21 := d2.cell 1 rfl
    have x22 := d2.cell 2 rfl
    have D2 := Lib.hid d2
    clear hb2 d2 x10 x11 x12
    go_wp2_with fail
    go_ret
    rw [HE.out]
    exact ⟨rfl, hbw2⟩
   by_cases g2 : 40 < h.2.1.length
   ·have HE := Lib.hid (HF.out (by rw [HH.out, decide_eq_false (show ¬ h.2.1.length ≤ 40 by omega)]; simp))
    go_enter Tryz.func27, Tryz.ntmps27
    go_wp2_with fail
    refine (H1.out _ (T0.out.below HB0.out)).mono ?_
    rintro e w1 ⟨rfl, hb1⟩
    have hbw1 := below_next HB0.out hb1
    have d1 := B0.out.later hb1
    have x10 := d1.cell 0 rfl
    have x11 := d1.cell 1 rfl
    have x12 := d1.cell 2 rfl
    have D1 := Lib.hid d1
    clear hb1 d1
    go_wp2_with fail
    refine (H2.out _ (T1.out.below hbw1)).mono ?_
    rintro e w2 ⟨rfl, hb2⟩
    have hbw2 := below_next hbw1 hb2
    have d2 := D1.out.later hb2
    have x20 := d2.cell 0 rfl
    have x21 := d2.cell 1 rfl
    have x22 := d2.cell 2 rfl
    have D2 := Lib.hid d2
    clear hb2 d2 x10 x11 x12
    go_wp2_with fail
    go_ret
    rw [HE.out]
    exact ⟨rfl, hbw2⟩
   by_cases g3 : 40 < h.2.2.length
   ·have HE := Lib.hid (HF.out (by rw [HH.out, decide_eq_false (show ¬ h.2.2.length ≤ 40 by omega)]; simp))
    go_enter Tryz.func27, Tryz.ntmps27
    go_wp2_with fail
    refine (H1.out _ (T0.out.below HB0.out)).mono ?_
    rintro e w1 ⟨rfl, hb1⟩
    have hbw1 := below_next HB0.out hb1
    have d1 := B0.out.later hb1
    have x10 := d1.cell 0 rfl
    have x11 := d1.cell 1 rfl
    have x12 := d1.cell 2 rfl
    have D1 := Lib.hid d1
    clear hb1 d1
    go_wp2_with fail
    refine (H2.out _ (T1.out.below hbw1)).mono ?_
    rintro e w2 ⟨rfl, hb2⟩
    have hbw2 := below_next hbw1 hb2
    have d2 := D1.out.later hb2
    have x20 := d2.cell 0 rfl
    have x21 := d2.cell 1 rfl
    have x22 := d2.cell 2 rfl
    have D2 := Lib.hid d2
    clear hb2 d2 x10 x11 x12
    go_wp2_with fail
    go_ret
    rw [HE.out]
    exact ⟨rfl, hbw2⟩
   have HT2 := Lib.hid (HT.out (by rw [HH.out, decide_eq_true (show h.1.length ≤ 20 by omega), decide_eq_true (show h.2.1.length ≤ 40 by omega), decide_eq_true (show h.2.2.length ≤ 40 by omega)]; rfl))
   obtain ⟨i0, hi, hz0, hz1, hz2⟩ := info_parts info_bool
   have mk : ∀ (n : Nat), n ≤ 1000 → ∀ W : World, (Instr.makeSlice 61 (.int .i64 (n : Int)) (.int .i64 (n : Int))).run Tryz.prog W = .ok (.slice (some ⟨W.heap.size, 0, none⟩) n n) (W.alloc (.cells (madeCells (Value.cells (.bool false)) (n * i0.size)) 4)) := fun n hn W => by
    have hr := run_make (P := Tryz.prog) W 61 4 i0 (.bool false) Tryz.underlying61 hi hz0 .i64 .i64 n n (by omega) (Int.le_refl _) (by rw [hz2]; omega) (by omega)
    simpa only [Int.toNat_natCast] using hr
   have mk1 := mk h.2.1.length m2
   have mk2 := mk h.1.length m1
   rw [hz1] at mk1 mk2
   clear mk HF HT HH
   go_enter Tryz.func27, Tryz.ntmps27
   go_upto_region 3 with fail
   refine (H1.out _ (T0.out.below HB0.out)).mono ?_
   rintro e w1 ⟨rfl, hb1⟩
   have hbw1 := below_next HB0.out hb1
   have d1 := B0.out.later hb1
   have x10 := d1.cell 0 rfl
   have x11 := d1.cell 1 rfl
   have x12 := d1.cell 2 rfl
   have D1 := Lib.hid d1
   clear hb1 d1
   go_upto_region 3 with fail
   refine (H2.out _ (T1.out.below hbw1)).mono ?_
   rintro e w2 ⟨rfl, hb2⟩
   have hbw2 := below_next hbw1 hb2
   have d2 := D1.out.later hb2
   have x20 := d2.cell 0 rfl
   have x21 := d2.cell 1 rfl
   have x22 := d2.cell 2 rfl
   have D2 := Lib.hid d2
   have hws : w.heap.size + 1 ≤ w2.heap.size := D2.out.lt
   clear hb2 d2 x10 x11 x12
   go_upto_region 3 with fail
   go_cut [3, 4] (fun s3 s4 wx => ∃ gk gs : Nat, s3 = .slice (some ⟨gk, 0, none⟩) h.2.1.length h.2.1.length ∧ s4 = .slice (some ⟨gs, 0, none⟩) h.1.length h.1.length ∧ gk ≠ gs ∧ wx.ownsRow (w.heap.size + 1) 4 1 (.slice (some ⟨gk, 0, none⟩) h.2.1.length h.2.1.length) h.2.1.length (vbools (List.replicate h.2.1.length false)) ∧ wx.ownsRow (w.heap.size + 1) 4 1 (.slice (some ⟨gs, 0, none⟩) h.1.length h.1.length) h.1.length (vbools (List.replicate h.1.length false)) ∧ Below (w.heap.size + 1) w2 wx)
   case first =>
    have HS : RowKit.Hid (∀ w', Below (w.heap.size + 1) w2 w' → (w'.cell? ⟨w.heap.size, 0, none⟩ = some (.slice p0 h.1.length c0) ∧ w'.cell? ⟨w.heap.size, 1, none⟩ = some (.slice p1 h.2.1.length c1) ∧ Below (w.heap.size + 1) w2 w')) := Lib.hid (fun w' hb => ⟨(hb.cell (p := ⟨w.heap.size, 0, none⟩) (by show w.heap.size < _; omega)).trans x20, (hb.cell (p := ⟨w.heap.size, 1, none⟩) (by show w.heap.size < _; omega)).trans x21, hb⟩)
    go_region_held3 (fun w' => w'.cell? ⟨w.heap.size, 0, none⟩ = some (.slice p0 h.1.length c0) ∧ w'.cell? ⟨w.heap.size, 1, none⟩ = some (.slice p1 h.2.1.length c1) ∧ Below (w.heap.size + 1) w2 w')
     ((go_split_ands; exact HS.out _ (by (repeat (first | assumption | exact Below.refl _ _ | refine Below.drew ?_ | refine keepJ (by omega) ?_ _)))))
     (fail)
    all_goals
     go_split_ands
     go_wp2_with fail
     go_meet
     first
      | exact ⟨_, _, rfl, rfl, by omega, (two_made _ _ _ _ hws (by omega) (by omega)).1, (two_made _ _ _ _ hws (by omega) (by omega)).2, by assumption⟩
      | exact ⟨_, _, rfl, rfl, by omega, (two_made _ _ _ _ hws (by omega) (by omega)).2, (two_made _ _ _ _ hws (by omega) (by omega)).1, by assumption⟩
   case rest =>
    obtain ⟨gk, gs, rfl, rfl, hgne, hrk, hrs, hbc⟩ := hcut
    have hgk : w.heap.size + 1 ≤ gk := (hrk.lt gk rfl).1
    have hgs : w.heap.size + 1 ≤ gs := (hrs.lt gs rfl).1
    clear mk1 mk2 x20 x21 x22
    have HBW2 := Lib.hid hbw2
    go_wp2_with fail
    go_loopw [5] (fun i wr => ∃ k : Nat, k ≤ h.2.2.length ∧ i = .int .i64 k ∧ (∀ j, j < k → okFull h (h.2.2.getD j noTxn) = true) ∧ wr.ownsRow (w.heap.size + 1) 4 1 (.slice (some ⟨gk, 0, none⟩) h.2.1.length h.2.1.length) h.2.1.length (vbools (marks (List.replicate h.2.1.length false) (keysT h.2.2 k))) ∧ wr.ownsRow (w.heap.size + 1) 4 1 (.slice (some ⟨gs, 0, none⟩) h.1.length h.1.length) h.1.length (vbools (marks (List.replicate h.1.length false) (sessK h.2.2 k))) ∧ Below (w.heap.size + 1) w2 wr) (fun i _ => h.2.2.length - (RowKit.intOf i).toNat)
    case atStart => exact ⟨0, Nat.zero_le _, rfl, fun j hj => absurd hj (Nat.not_lt_zero j), hrk, hrs, hbc⟩
    case round =>
     obtain ⟨k, hk, rfl, hn, hrk, hrs, hbc⟩ := hrel
     have HN := Lib.hid hn
     have dr := D2.out.below hbc (by omega)
     have x0 := dr.cell 0 rfl
     have x1 := dr.cell 1 rfl
     have x2 := dr.cell 2 rfl
     have hbwx : Below w.heap.size w wr := HBW2.out.trans (hbc.mono (by omega))
     have hwr : w.heap.size < wr.heap.size := dr.lt
     clear dr hn
     by_cases hk1 : k < h.2.2.length
     ·obtain ⟨g, sv, rfl, a1, a2, a3, hops⟩ := HX.out k hk1
      have a1' := cell_later hbwx a1
      have a2' := cell_later hbwx a2
      have a3' := cell_later hbwx a3
      have hops' := hops.below hbwx
      have hgl : g < w.heap.size := World.block_lt_of_cell? w ⟨g, k * 3, none⟩ a1
      have hmem : h.2.2.getD k noTxn ∈ h.2.2 := by
       have : h.2.2.getD k noTxn = h.2.2[k] := by simp [hk1]
       rw [this]
       exact List.getElem_mem hk1
      have hm6 := HM6.out _ hmem
      have hkn := keysT_next h.2.2 k hk1
      have hsn := sessK_next h.2.2 k hk1
      have HNo : RowKit.Hid (okFull h (h.2.2.getD k noTxn) = false → errH h = 4) := Lib.hid (fun hf => HT2.out false (by
       rw [show h.2.2.all (okFull h) = false by
        rw [List.all_eq_false]
        exact ⟨_, hmem, by rw [hf]; exact Bool.false_ne_true⟩]
       rfl))
      have HYes : RowKit.Hid (okFull h (h.2.2.getD k noTxn) = true → ∀ j, j < k + 1 → okFull h (h.2.2.getD j noTxn) = true) := Lib.hid (fun e j hj => by
       by_cases hjk : j < k
       ·exact HN.out j hjk
       ·obtain rfl : j = k := by omega
        exact e)
      have HIn : RowKit.Hid (okFull h (h.2.2.getD k noTxn) = true → 0 ≤ (h.2.2.getD k noTxn).1 ∧ (h.2.2.getD k noTxn).1 < h.1.length) := Lib.hid (fun e => by
       simp only [okFull, okTxn, inside, Bool.and_eq_true, decide_eq_true_eq] at e
       exact e.1.1)
      obtain ⟨t, ht⟩ : ∃ t, h.2.2.getD k noTxn = t := ⟨_, rfl⟩
      rw [ht] at a1' a2' hops' hm6 hkn hsn HNo HYes HIn
      have hle : (marks (List.replicate h.2.1.length false) (keysT h.2.2 k)).length = h.2.1.length := by rw [marks_len, List.length_replicate]
      have hops2 := hops'.below (w' := wr.drew) (Below.drew (Below.refl _ _))
      have HOps := Lib.hid (rops_k (.slice p0 h.1.length c0) (.slice p1 h.2.1.length c1) (.slice (some ⟨g, 0, none⟩) h.2.2.length c2) sv h.1 h.2.1 t gk h.2.1.length _ (w.heap.size + 1) wr.drew ((T0.out.below hbwx).below (Below.drew (Below.refl _ _))) ((T1.out.below hbwx).below (Below.drew (Below.refl _ _))) ⟨_, _, _, rfl⟩ hops2 hm6 (by omega) hle hrk.drew (fun j hj p n c e => by
       obtain ⟨q, cq, e2, -, hq⟩ := hops'
       obtain ⟨g3, e3, hc3, -⟩ := hq j hj
       rw [e2, e3] at e
       injection e with e
       injection e with e
       subst e
       have hz : g3 < w.heap.size := by
        obtain ⟨q5, cq5, e5, -, hq5⟩ := hops
        rw [ht] at hq5
        obtain ⟨g6, e6, hc6, -⟩ := hq5 j hj
        rw [e2, e3, e6] at e5
        injection e5 with e5
        injection e5 with e5
        injection e5 with e5
        rw [e5]
        exact World.block_lt_of_cell? w ⟨g6, _, none⟩ hc6
       show g3 ≠ gk
       omega))
      obtain ⟨p3, c3, rfl, -⟩ := hops'
      obtain ⟨t1, t2, t3⟩ := t
      simp only at a1' a2' a3' HOps HNo HYes HIn hkn hsn hm6
      have HKN := Lib.hid hkn
      have HSN := Lib.hid hsn
      have hne0 : w.heap.size ≠ gk := by omega
      have hne1 : g ≠ gk := by omega
      have HS : RowKit.Hid (∀ w', wr.grownBy w' (some gk) → (w'.cell? ⟨w.heap.size, 0, none⟩ = some (.slice p0 h.1.length c0) ∧ w'.cell? ⟨w.heap.size, 1, none⟩ = some (.slice p1 h.2.1.length c1) ∧ w'.cell? ⟨w.heap.size, 2, none⟩ = some (.slice (some ⟨g, 0, none⟩) h.2.2.length c2) ∧ w'.cell? ⟨g, k * 3, none⟩ = some (.int .i64 t1) ∧ w'.cell? ⟨g, k * 3 + 1, none⟩ = some (.int .i64 t2) ∧ w'.cell? ⟨g, k * 3 + 2, none⟩ = some (.slice p3 t3.length c3))) := Lib.hid (fun w' hg => ⟨cell_grown x0 hg hne0, cell_grown x1 hg hne0, cell_grown x2 hg hne0, cell_grown a1' hg hne1, cell_grown a2' hg hne1, cell_grown a3' hg hne1⟩)
      clear hops hops2 hmem hle a1 a2 a3 ht hkn hsn
      obtain ⟨b, hb⟩ : ∃ b, okFull h (t1, t2, t3) = b := ⟨_, rfl⟩
      rw [show (okTxn h.1.length (t1, t2, t3) && t3.all (okOp h.2.1.length)) = okFull h (t1, t2, t3) from rfl, hb] at HOps
      rw [hb] at HNo HYes HIn
      clear hb
      cases b with
      | false =>
       have HE := Lib.hid (HNo.out (by trivial))
       go_wp2_with fail
       go_region_held3 (fun w' => w'.cell? ⟨w.heap.size, 0, none⟩ = some (.slice p0 h.1.length c0) ∧ w'.cell? ⟨w.heap.size, 1, none⟩ = some (.slice p1 h.2.1.length c1) ∧ w'.cell? ⟨w.heap.size, 2, none⟩ = some (.slice (some ⟨g, 0, none⟩) h.2.2.length c2) ∧ w'.cell? ⟨g, k * 3, none⟩ = some (.int .i64 t1) ∧ w'.cell? ⟨g, k * 3 + 1, none⟩ = some (.int .i64 t2) ∧ w'.cell? ⟨g, k * 3 + 2, none⟩ = some (.slice p3 t3.length c3))
        ((go_split_ands; exact HS.out _ (by first | exact grown_drew _ _ | exact grown_trans (grown_drew _ _) (by assumption))))
        ((go_at_call 81; refine HOps.out.mono ?_; rintro e w3 ⟨rfl, hr3⟩; obtain ⟨hg3, U3, hu3, hl3, hm3⟩ := hr3))
       go_split_ands
       have hbf : Below w.heap.size w w3 := (hbwx.drew).grown hg3 (by show w.heap.size ≤ wr.heap.size; omega) (fun j e => by have := Option.some.inj e; omega)
       clear hg3 hu3 hl3 hm3
       go_wp2_with fail
       go_ret
       rw [HE.out]
       exact ⟨rfl, hbf⟩
      | true =>
       obtain ⟨hs0, hs1⟩ := HIn.out (by trivial)
       obtain ⟨ns, rfl⟩ := Int.eq_ofNat_of_zero_le hs0
       have HY := Lib.hid (HYes.out (by trivial))
       go_wp2_with fail
       go_region_held3 (fun w' => w'.cell? ⟨w.heap.size, 0, none⟩ = some (.slice p0 h.1.length c0) ∧ w'.cell? ⟨w.heap.size, 1, none⟩ = some (.slice p1 h.2.1.length c1) ∧ w'.cell? ⟨w.heap.size, 2, none⟩ = some (.slice (some ⟨g, 0, none⟩) h.2.2.length c2) ∧ w'.cell? ⟨g, k * 3, none⟩ = some (.int .i64 (ns : Int)) ∧ w'.cell? ⟨g, k * 3 + 1, none⟩ = some (.int .i64 t2) ∧ w'.cell? ⟨g, k * 3 + 2, none⟩ = some (.slice p3 t3.length c3))
        ((go_split_ands; exact HS.out _ (by first | exact grown_drew _ _ | exact grown_trans (grown_drew _ _) (by assumption))))
        ((go_at_call 81; refine HOps.out.mono ?_; rintro e w3 ⟨rfl, hr3⟩; obtain ⟨hg3, U3, hu3, hl3, hm3⟩ := hr3))
       go_split_ands
       have hm3' := hm3 (by trivial)
       rw [← marks_app, ← HKN.out] at hm3'
       subst hm3'
       have hrs3 := hrs.drew.kept hg3 (.inr (by simp [Value.ownBlock]; omega))
       have hml : (marks (List.replicate h.1.length false) (sessK h.2.2 k)).length = h.1.length := by rw [marks_len, List.length_replicate]
       have r1 : w3.cell? ⟨gs, ns, none⟩ = some (.bool ((marks (List.replicate h.1.length false) (sessK h.2.2 k)).getD ns false)) := by
        rw [hrs3.cellAt ns (by omega)]
        exact vbools_get _ _ (by omega)
       have r2 := hrs3.frozenAt ns
       generalize (marks (List.replicate h.1.length false) (sessK h.2.2 k)).getD ns false = old at r1
       have hst := hrs3.stored ns (.bool true)
       rw [vbools_set, show (marks (List.replicate h.1.length false) (sessK h.2.2 k)).set ns true = marks (List.replicate h.1.length false) (sessK h.2.2 (k + 1)) by rw [HSN.out, marks_snoc]; rfl] at hst
       have HST := Lib.hid hst.1
       have HKK := Lib.hid (hu3.kept (grown_set w3 gs ns (.bool true)) (.inr (by simp [Value.ownBlock]; omega)))
       have HBC := Lib.hid (((hbc.drew).grown hg3 (by show w.heap.size + 1 ≤ wr.heap.size; omega) (fun j e => by have := Option.some.inj e; omega)).setCell (p := ⟨gs, ns, none⟩) (by show w.heap.size + 1 ≤ gs; omega) (.bool true))
       clear hg3 hu3 hl3 hm3 hrs3 hst hrk hrs hbc hbwx
       go_wp2_with fail
       go_roundw
       case rel => exact ⟨k + 1, by omega, by go_num, HY.out, HKK.out, HST.out, HBC.out⟩
       case measure => simp [RowKit.intOf]; omega
     ·have hke : k = h.2.2.length := by omega
      have hallF : h.2.2.all (okFull h) = true := by
       rw [List.all_eq_true]
       intro x hx
       obtain ⟨j, hj, e⟩ := List.getElem_of_mem hx
       have := HN.out j (by omega)
       simpa [hj, e] using this
      have hkeys : keysT h.2.2 k = (allOps h).map (·.2.1) := by rw [hke, keysT, List.take_length]; rfl
      have hsess : sessK h.2.2 k = h.2.2.map (·.1) := by rw [hke, sessK, List.take_length]
      rw [hkeys] at hrk
      rw [hsess] at hrs
      have eK := marks_all h.2.1.length ((allOps h).map (·.2.1)) (fun x hx => by
       obtain ⟨o, ho, rfl⟩ := List.mem_map.1 hx
       obtain ⟨t, ht, hot⟩ := List.mem_flatMap.1 ho
       have := List.all_eq_true.1 hallF t ht
       simp only [okFull, Bool.and_eq_true] at this
       have := List.all_eq_true.1 this.2 o hot
       simp only [okOp, inside, Bool.and_eq_true, decide_eq_true_eq] at this
       exact this.1)
      have eS := marks_all h.1.length (h.2.2.map (·.1)) (fun x hx => by
       obtain ⟨t, ht, rfl⟩ := List.mem_map.1 hx
       have := List.all_eq_true.1 hallF t ht
       simp only [okFull, okTxn, inside, Bool.and_eq_true, decide_eq_true_eq] at this
       exact this.1.1)
      have hlK : (marks (List.replicate h.2.1.length false) ((allOps h).map (·.2.1))).length = h.2.1.length := by rw [marks_len, List.length_replicate]
      have hlS : (marks (List.replicate h.1.length false) (h.2.2.map (·.1))).length = h.1.length := by rw [marks_len, List.length_replicate]
      have hfin : ∀ b, (allK (marks (List.replicate h.2.1.length false) ((allOps h).map (·.2.1))) h.2.1.length && allK (marks (List.replicate h.1.length false) (h.2.2.map (·.1))) h.1.length) = b → errH h = if b then 0 else 4 := fun b hb => HT2.out b (by
       rw [hallF, Bool.true_and, ← hb]
       have e1 := allK_all (marks (List.replicate h.2.1.length false) ((allOps h).map (·.2.1)))
       have e2 := allK_all (marks (List.replicate h.1.length false) (h.2.2.map (·.1)))
       rw [hlK] at e1
       rw [hlS] at e2
       rw [e1, e2, eK, eS]
       unfold usedH
       exact Bool.and_comm _ _)
      generalize marks (List.replicate h.2.1.length false) ((allOps h).map (·.2.1)) = UK at *
      generalize marks (List.replicate h.1.length false) (h.2.2.map (·.1)) = US at *
      have HFin := Lib.hid hfin
      have RK := Lib.hid hrk
      have RS := Lib.hid hrs
      have LK := Lib.hid hlK
      have LS := Lib.hid hlS
      clear eK eS hfin hrk hrs hlK hlS hallF hkeys hsess
      go_wp2_with fail
      go_loop [6, 7] (fun al i => ∃ q : Nat, q ≤ h.2.1.length ∧ i = .int .i64 q ∧ al = .bool (allK UK q)) (fun _ i => h.2.1.length - (RowKit.intOf i).toNat)
      case atStart => exact ⟨0, Nat.zero_le _, rfl, by simp [allK]⟩
      case round =>
       obtain ⟨q, hq, rfl, rfl⟩ := hrel
       by_cases hq1 : q < h.2.1.length
       ·have r1 : wr.cell? ⟨gk, q, none⟩ = some (.bool (UK.getD q false)) := by
         rw [RK.out.cellAt q (by omega)]
         exact vbools_get _ _ (by rw [LK.out]; exact hq1)
        have hnx := allK_next UK q (by rw [LK.out]; exact hq1)
        generalize UK.getD q false = b2 at r1 hnx
        generalize allK UK q = b1 at hnx ⊢
        have HNX := Lib.hid hnx
        clear hnx
        cases b1 <;> cases b2
        all_goals
         go_wp2_with fail
         go_round
         case rel => exact ⟨q + 1, by omega, by go_num, by rw [HNX.out]; rfl⟩
         case measure => simp [RowKit.intOf]; omega
       ·have hqe : q = h.2.1.length := by omega
        rw [hqe]
        have HF1 : RowKit.Hid (∀ b, (allK UK h.2.1.length && allK US h.1.length) = b → errH h = if b then 0 else 4) := HFin
        generalize allK UK h.2.1.length = B1 at HF1 ⊢
        clear hqe
        obtain rfl : q = h.2.1.length := by omega
        go_wp2_with fail
        go_loop [6, 8] (fun al i => ∃ q : Nat, q ≤ h.1.length ∧ i = .int .i64 q ∧ al = .bool (B1 && allK US q)) (fun _ i => h.1.length - (RowKit.intOf i).toNat)
        case atStart => exact ⟨0, Nat.zero_le _, rfl, by simp [allK]⟩
        case round =>
         obtain ⟨q, hq, rfl, rfl⟩ := hrel
         by_cases hq1 : q < h.1.length
         ·have r1 : wr.cell? ⟨gs, q, none⟩ = some (.bool (US.getD q false)) := by
           rw [RS.out.cellAt q (by omega)]
           exact vbools_get _ _ (by rw [LS.out]; exact hq1)
          have hnx := allK_next US q (by rw [LS.out]; exact hq1)
          generalize US.getD q false = b2 at r1 hnx
          have hnx2 : (B1 && allK US (q + 1)) = ((B1 && allK US q) && b2) := by rw [hnx, Bool.and_assoc]
          generalize (B1 && allK US q) = b1 at hnx2 ⊢
          have HNX := Lib.hid hnx2
          clear hnx hnx2
          cases b1 <;> cases b2
          all_goals
           go_wp2_with fail
           go_round
           case rel => exact ⟨q + 1, by omega, by go_num, by rw [HNX.out]; rfl⟩
           case measure => simp [RowKit.intOf]; omega
         ·have hqe : q = h.1.length := by omega
          rw [hqe]
          have HF2 := Lib.hid (HF1.out _ rfl)
          generalize (B1 && allK US h.1.length) = B2 at HF2 ⊢
          clear hqe
          obtain rfl : q = h.1.length := by omega
          cases B2 with
          | false =>
           go_wp2_with fail
           go_ret
           rw [HF2.out]
           exact ⟨rfl, hbwx⟩
          | true =>
           go_wp2_with fail
           go_ret
           rw [HF2.out]
           exact ⟨rfl, hbwx⟩
end
section
open Go.ChangeShapes Go.WideShapes Go.ChangeAt Go.RowKit Go.Joins
def opCells (o : OpM) : List Value := [.bool o.1, .int .i64 o.2.1, .int .i64 o.2.2.1, .int .i64 o.2.2.2]
def OpR (_ : World) (cs : List Value) (o : OpM) : Prop := cs = opCells o
def OpsA (w : World) (v : Value) (L : List OpM) : Prop := SlR 4 OpR w v L
def TxnR (w : World) (cs : List Value) (t : TxnM) : Prop := ∃ sv, cs = [.int .i64 t.1, .int .i64 t.2.1, sv] ∧ OpsA w sv t.2.2
def TxnsA (w : World) (v : Value) (L : List TxnM) : Prop := SlR 3 TxnR w v L
def StrR (_ : World) (cs : List Value) (s : List UInt8) : Prop := cs = [.string (bs s)] ∧ s.length ≤ 9223372036854775807
def StrsA (w : World) (v : Value) (L : List (List UInt8)) : Prop := SlR 1 StrR w v L
def HistA (w : World) (v : Value) (h : HistM) : Prop := ∃ v0 v1 v2, v = .agg #[v0, v1, v2] ∧ StrsA w v0 h.1 ∧ StrsA w v1 h.2.1 ∧ TxnsA w v2 h.2.2
theorem OpsA.below {w w' : World} {v : Value} {L : List OpM} (h : OpsA w v L) (hb : Below w.heap.size w w') : OpsA w' v L := SlR.below (fun _ _ _ _ _ h => h) h hb
theorem TxnsA.below {w w' : World} {v : Value} {L : List TxnM} (h : TxnsA w v L) (hb : Below w.heap.size w w') : TxnsA w' v L :=
 SlR.below (fun _ _ _ _ hb ⟨sv, e, h⟩ => ⟨sv, e, h.below hb⟩) h hb
theorem StrsA.below {w w' : World} {v : Value} {L : List (List UInt8)} (h : StrsA w v L) (hb : Below w.heap.size w w') : StrsA w' v L := SlR.below (fun _ _ _ _ _ h => h) h hb
theorem HistA.below {w w' : World} {v : Value} {h : HistM} (hh : HistA w v h) (hb : Below w.heap.size w w') : HistA w' v h := by
 obtain ⟨v0, v1, v2, e, h0, h1, h2⟩ := hh
 exact ⟨v0, v1, v2, e, h0.below hb, h1.below hb, h2.below hb⟩
section
variable {H : Type} {enc : TypeId × Value → H} {w : World} {base : Nat} {spare : Nat → Bool} {held : Bool}
theorem open_str {n : Nat} {cs : List Value} {y : DataW H × List MemPlace} (h : DataW.trod enc Tryz.prog w base spare held n 9 cs = some y) : ∃ s, StrR w cs s := by
 obtain ⟨s, rfl, -, hs⟩ := DataW.trod_string Tryz.underlying9 h
 unfold maxLen at hs
 refine ⟨s.data.toList, by rw [← bs_data], ?_⟩
 rw [Lib.size_eq] at hs
 exact hs
theorem open_value {n : Nat} {cs : List Value} {y : DataW H × List MemPlace} (h : DataW.trod enc Tryz.prog w base spare held n 49 cs = some y) : ∃ k m : Int, cs = [.int .i64 k, .int .i64 m] := by
 have hl := trod_len Tryz.underlying49 h
 obtain ⟨n0, y0, h0⟩ := trod_at 0 0 3 1 Tryz.underlying49 h rfl rfl rfl (by kernel_rfl)
 obtain ⟨n1, y1, h1⟩ := trod_at 1 1 2 1 Tryz.underlying49 h rfl rfl rfl (by kernel_rfl)
 obtain ⟨k, hk, -, -⟩ := DataW.trod_int Tryz.underlying3 h0
 obtain ⟨m, hm, -, -⟩ := DataW.trod_int Tryz.underlying2 h1
 rw [show Tryz.prog.cellsOf 49 = 2 by kernel_rfl] at hl
 match cs, hl with
 | [a, b], _ =>
  simp at hk hm
  exact ⟨k, m, by rw [hk, hm]⟩
theorem open_op {n : Nat} {cs : List Value} {y : DataW H × List MemPlace} (h : DataW.trod enc Tryz.prog w base spare held n 51 cs = some y) : ∃ o, OpR w cs o := by
 have hl := trod_len Tryz.underlying51 h
 obtain ⟨n0, y0, h0⟩ := trod_at 0 0 4 1 Tryz.underlying51 h rfl rfl rfl (by kernel_rfl)
 obtain ⟨n1, y1, h1⟩ := trod_at 1 1 3 1 Tryz.underlying51 h rfl rfl rfl (by kernel_rfl)
 obtain ⟨n2, y2, h2⟩ := trod_at 2 2 49 2 Tryz.underlying51 h rfl rfl rfl (by kernel_rfl)
 obtain ⟨b, hb, -⟩ := DataW.trod_bool Tryz.underlying4 h0
 obtain ⟨k, hk, -, -⟩ := DataW.trod_int Tryz.underlying3 h1
 obtain ⟨kd, m, hv⟩ := open_value h2
 rw [show Tryz.prog.cellsOf 51 = 4 by kernel_rfl] at hl
 match cs, hl with
 | [c0, c1, c2, c3], _ =>
  simp at hb hk hv
  exact ⟨(b, k, kd, m), by simp [OpR, opCells, hb, hk, hv]⟩
theorem open_ops {n : Nat} {cs : List Value} {y : DataW H × List MemPlace} (h : DataW.trod enc Tryz.prog w base spare held n 45 cs = some y) : ∃ v L, cs = [v] ∧ OpsA w v L :=
 open_slR Tryz.underlying45 (by kernel_rfl) (fun _ _ _ h => open_op h) h
theorem open_txn {n : Nat} {cs : List Value} {y : DataW H × List MemPlace} (h : DataW.trod enc Tryz.prog w base spare held n 47 cs = some y) : ∃ t, TxnR w cs t := by
 have hl := trod_len Tryz.underlying47 h
 obtain ⟨n0, y0, h0⟩ := trod_at 0 0 3 1 Tryz.underlying47 h rfl rfl rfl (by kernel_rfl)
 obtain ⟨n1, y1, h1⟩ := trod_at 1 1 3 1 Tryz.underlying47 h rfl rfl rfl (by kernel_rfl)
 obtain ⟨n2, y2, h2⟩ := trod_at 2 2 45 1 Tryz.underlying47 h rfl rfl rfl (by kernel_rfl)
 obtain ⟨s, hs, -, -⟩ := DataW.trod_int Tryz.underlying3 h0
 obtain ⟨f, hf', -, -⟩ := DataW.trod_int Tryz.underlying3 h1
 obtain ⟨v, L, hv, hL⟩ := open_ops h2
 rw [show Tryz.prog.cellsOf 47 = 3 by kernel_rfl] at hl
 match cs, hl with
 | [c0, c1, c2], _ =>
  simp at hs hf' hv
  exact ⟨(s, f, L), v, by simp [hs, hf', hv], hL⟩
theorem open_txns {n : Nat} {cs : List Value} {y : DataW H × List MemPlace} (h : DataW.trod enc Tryz.prog w base spare held n 23 cs = some y) : ∃ v L, cs = [v] ∧ TxnsA w v L :=
 open_slR Tryz.underlying23 (by kernel_rfl) (fun _ _ _ h => open_txn h) h
theorem open_strsA {n : Nat} {cs : List Value} {y : DataW H × List MemPlace} (h : DataW.trod enc Tryz.prog w base spare held n 22 cs = some y) : ∃ v L, cs = [v] ∧ StrsA w v L :=
 open_slR Tryz.underlying22 (by kernel_rfl) (fun _ _ _ h => open_str h) h
set_option maxRecDepth 100000 in
theorem open_hist {r : Reach} {b0 : Nat} {v : Value} {d : DataW H} {ps : List MemPlace} (hval : Value.okWide Tryz.prog w r b0 25 v) (hd : DataW.Trod enc Tryz.prog w base spare held 25 v d ps) : ∃ h, HistA w v h := by
 obtain ⟨c0, c1, c2, y0, y1, y2, m, rfl, -, -, h0, h1, h2⟩ := open_agg3 Tryz.underlying25 (by kernel_rfl) (show Tryz.prog.cellsOf 25 = 3 by kernel_rfl) hval hd
 obtain ⟨v0, L0, e0, a0⟩ := open_strsA h0
 obtain ⟨v1, L1, e1, a1⟩ := open_strsA h1
 obtain ⟨v2, L2, e2, a2⟩ := open_txns h2
 simp at e0 e1 e2
 subst e0 e1 e2
 exact ⟨(L0, L1, L2), c0, c1, c2, rfl, a0, a1, a2⟩
end
theorem flat_get {α : Type} (f : α → List Value) (s : Nat) (hf : ∀ x, (f x).length = s) (d : α) : ∀ (L : List α) (j i : Nat), j < L.length → i < s → (L.flatMap f)[j * s + i]? = (f (L.getD j d))[i]?
 | [], j, _, hj, _ => absurd hj (Nat.not_lt_zero j)
 | x :: L, 0, i, _, hi => by
  rw [List.flatMap_cons, Nat.zero_mul, Nat.zero_add, List.getElem?_append_left (by rw [hf]; exact hi)]
  rfl
 | x :: L, j + 1, i, hj, hi => by
  rw [List.flatMap_cons, List.getElem?_append_right (by rw [hf, Nat.add_mul]; omega), hf, show (j + 1) * s + i - s = j * s + i by rw [Nat.add_mul]; omega]
  rw [flat_get f s hf d L j i (by simpa using hj) hi]
  rfl
theorem own_rowK {w : World} {base size n : Nat} {e : TypeId} {v : Value} {xs : List Value} (h : w.ownsRow base e size v n xs) : ∃ p cap, v = .slice p n cap ∧ n ≤ cap ∧ cap ≤ maxLen ∧ ∀ q u, q < n * size → xs[q]? = some u → ∃ g, p = some ⟨g, 0, none⟩ ∧ w.cell? ⟨g, q, none⟩ = some u := by
 obtain ⟨h1, ⟨rfl, rfl⟩ | ⟨g, cap, cur, rfl, -, hw, hc, hm, hs, ht⟩⟩ := h
 ·exact ⟨none, 0, rfl, Nat.le_refl _, Nat.zero_le _, fun q u hq => by omega⟩
 ·refine ⟨_, cap, rfl, hc, hm, fun q u hq hu => ⟨g, rfl, ?_⟩⟩
  have h2 := congrArg (fun x : List Value => x[q]?) ht
  simp only [List.getElem?_take, hq, if_true, Array.getElem?_toList] at h2
  rw [cell_of_row w g q _ _ (0, 0) hw, h2, hu]
theorem own_slR {α β : Type} {w : World} {base s : Nat} {e : TypeId} {v : Value} {L : List β} (f : β → List Value) (hf : ∀ x, (f x).length = s) (hs : 0 < s) (d : β) (g : β → α) {R : World → List Value → α → Prop} (h : w.ownsRow base e s v L.length (L.flatMap f)) (hR : ∀ x ∈ L, R w (f x) (g x)) : SlR s R w v (L.map g) := by
 obtain ⟨p, cap, rfl, h1, h2, hc⟩ := own_rowK h
 refine ⟨p, cap, by rw [List.length_map], by rw [List.length_map]; exact h1, h2, fun j hj => ?_⟩
 rw [List.length_map] at hj
 have hD : L.getD j d = L[j] := by simp [hj]
 have hg : ∀ i u, i < s → (f L[j])[i]? = some u → ∃ g, p = some ⟨g, 0, none⟩ ∧ w.cell? ⟨g, j * s + i, none⟩ = some u := fun i u hi hu =>
  hc _ u (by
   have : (j + 1) * s ≤ L.length * s := Nat.mul_le_mul_right s hj
   rw [Nat.add_mul] at this
   omega) (by rw [flat_get f s hf d L j i hj hi, hD]; exact hu)
 obtain ⟨g0, rfl, -⟩ := hg 0 ((f L[j])[0]'(by rw [hf]; exact hs)) hs (by simp)
 refine ⟨_, f L[j], rfl, hf _, fun i u hu => ?_, by rw [List.getElem_map]; exact hR _ (List.getElem_mem hj)⟩
 obtain ⟨g1, e1, h3⟩ := hg i u (by have := (List.getElem?_eq_some_iff.1 hu).1; rw [hf] at this; exact this) hu
 cases e1
 rw [Addr.add_lit, Nat.zero_add]
 exact h3
def opsCells (L : List OpM) : List Value := L.flatMap opCells
theorem own_ops {w : World} {base : Nat} {e : TypeId} {v : Value} {L : List OpM} (h : w.ownsRow base e 4 v L.length (opsCells L)) : OpsS w v L := by
 obtain ⟨p, cap, rfl, hcap, -, hc⟩ := own_rowK h
 refine ⟨p, cap, rfl, hcap, fun j hj => ?_⟩
 have hg : ∀ i u, i < 4 → (opCells (L.getD j noOp))[i]? = some u → ∃ g, p = some ⟨g, 0, none⟩ ∧ w.cell? ⟨g, j * 4 + i, none⟩ = some u := fun i u hi hu =>
  hc _ u (by omega) (by rw [opsCells, flat_get opCells 4 (fun _ => rfl) noOp L j i hj hi]; exact hu)
 obtain ⟨g, rfl, h0⟩ := hg 0 _ (by omega) rfl
 obtain ⟨g1, e1, h1⟩ := hg 1 _ (by omega) rfl
 obtain ⟨g2, e2, h2⟩ := hg 2 _ (by omega) rfl
 obtain ⟨g3, e3, h3⟩ := hg 3 _ (by omega) rfl
 cases e1; cases e2; cases e3
 exact ⟨g, rfl, h0, h1, h2, h3⟩
abbrev TxnV := TxnM × Value
def txnCells (t : TxnV) : List Value := [.int .i64 t.1.1, .int .i64 t.1.2.1, t.2]
def txnsCells (L : List TxnV) : List Value := L.flatMap txnCells
theorem own_txns {w : World} {base : Nat} {e : TypeId} {v : Value} {L : List TxnV} (h : w.ownsRow base e 3 v L.length (txnsCells L)) (ho : ∀ t ∈ L, OpsS w t.2 t.1.2.2) : TxnsS w v (L.map (·.1)) := by
 obtain ⟨p, cap, rfl, -, -, hc⟩ := own_rowK h
 refine ⟨p, cap, by rw [List.length_map], fun j hj => ?_⟩
 rw [List.length_map] at hj
 have hg : ∀ i u, i < 3 → (txnCells (L.getD j (noTxn, .nilIface)))[i]? = some u → ∃ g, p = some ⟨g, 0, none⟩ ∧ w.cell? ⟨g, j * 3 + i, none⟩ = some u := fun i u hi hu =>
  hc _ u (by omega) (by rw [txnsCells, flat_get txnCells 3 (fun _ => rfl) (noTxn, .nilIface) L j i hj hi]; exact hu)
 obtain ⟨g, rfl, h0⟩ := hg 0 _ (by omega) rfl
 obtain ⟨g1, e1, h1⟩ := hg 1 _ (by omega) rfl
 obtain ⟨g2, e2, h2⟩ := hg 2 _ (by omega) rfl
 cases e1; cases e2
 have hD : (L.map (·.1)).getD j noTxn = (L.getD j (noTxn, .nilIface)).1 := by simp [hj]
 have hM : L.getD j (noTxn, .nilIface) ∈ L := by
  have : L.getD j (noTxn, .nilIface) = L[j] := by simp [hj]
  rw [this]
  exact List.getElem_mem hj
 exact ⟨g, _, rfl, by rw [hD]; exact h0, by rw [hD]; exact h1, h2, by rw [hD]; exact ho _ hM⟩
theorem own_opsA {w : World} {base : Nat} {e : TypeId} {v : Value} {L : List OpM} (h : w.ownsRow base e 4 v L.length (opsCells L)) : OpsA w v L := by
 have := own_slR (R := OpR) opCells (fun _ => rfl) (by omega) noOp id h (fun x _ => rfl)
 rwa [List.map_id] at this
theorem own_txnsA {w : World} {base : Nat} {e : TypeId} {v : Value} {L : List TxnV} (h : w.ownsRow base e 3 v L.length (txnsCells L)) (ho : ∀ t ∈ L, OpsA w t.2 t.1.2.2) : TxnsA w v (L.map (·.1)) :=
 own_slR (R := TxnR) txnCells (fun _ => rfl) (by omega) (noTxn, .nilIface) (·.1) h (fun x hx => ⟨_, rfl, ho x hx⟩)
theorem own_strsA {w : World} {base : Nat} {e : TypeId} {v : Value} {L : List (List UInt8)} (h : w.ownsRow base e 1 v L.length (strs L)) (hl : ∀ s ∈ L, s.length ≤ 9223372036854775807) : StrsA w v L := by
 have h' : w.ownsRow base e 1 v L.length (L.flatMap fun s => [.string (bs s)]) := by
  have : L.flatMap (fun s => [Value.string (bs s)]) = strs L := by
   unfold strs
   clear h hl
   induction L with
   | nil => rfl
   | cons x L ih => rw [List.flatMap_cons, ih]; rfl
  rw [this]; exact h
 have := own_slR (R := StrR) (s := 1) (fun s => [.string (bs s)]) (fun _ => rfl) (by omega) [] id h' (fun x hx => ⟨rfl, hl x hx⟩)
 rwa [List.map_id] at this
end
end Go.Proofs.YtmgchjddpmmglaaGreatDoor
