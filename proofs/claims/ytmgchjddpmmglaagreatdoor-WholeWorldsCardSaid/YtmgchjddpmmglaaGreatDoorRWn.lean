/-
  Layer 11 (hist): whether a history may be, the contract over a history's value. No conditions but that unicode/utf8's two tables are as their initialisers lay them.
  Layer 11's reference in plain words: numbers marked as used. No conditions.
  The walk of layer 11's reference (hist): whether a transaction's operations may be; which keys they have. No conditions.
  The walks of layer 9's reference (table): a table or not, a name found, a name put in. No conditions.
  The walk of layer 11's reference (hist): whether a history may be. No conditions.
-/
import Derived.Test.YtmgchjddpmmglaaGreatDoorRWl
import Derived.Test.YtmgchjddpmmglaaGreatDoorRxNameU
import Derived.Deep.CutBlock
namespace Go.Proofs.YtmgchjddpmmglaaGreatDoor
section
open Go.RowKit Go.Lib
theorem hmay_v {w : World} {v : Value} {h : HistM} (hv : HistV w v h) (hm : Modst h) (hT : Lib.Utf8Tabs 1 2 w) : Calls Tryz.prog 76 #[v] w fun e w' => e = .returned (.int .i64 (errH h)) ∧ Below w.heap.size w w' := by
 obtain ⟨v0, v1, v2, rfl, h0, h1, h2⟩ := hv
 exact hmay_any v0 v1 v2 h w h0 h1 h2 hm hT
end
section
def marks (U : List Bool) (ks : List Int) : List Bool := ks.foldl (fun U k => U.set k.toNat true) U
theorem marks_snoc (U : List Bool) (ks : List Int) (k : Int) : marks U (ks ++ [k]) = (marks U ks).set k.toNat true := by simp [marks]
theorem marks_app (U : List Bool) (ks ls : List Int) : marks U (ks ++ ls) = marks (marks U ks) ls := by simp [marks]
theorem marks_len (ks : List Int) : ∀ U : List Bool, (marks U ks).length = U.length := by
 induction ks with
 | nil => intro U; rfl
 | cons k ks ih => intro U; show (marks (U.set k.toNat true) ks).length = _; rw [ih, List.length_set]
theorem marks_get (ks : List Int) : ∀ (U : List Bool) (i : Nat), i < U.length → (marks U ks).getD i false = (U.getD i false || (ks.map Int.toNat).contains i) := by
 induction ks with
 | nil => intro U i _; simp [marks]
 | cons k ks ih =>
  intro U i hi
  show (marks (U.set k.toNat true) ks).getD i false = _
  rw [ih _ _ (by rw [List.length_set]; exact hi)]
  rw [List.map_cons, List.contains_cons]
  by_cases e : i = k.toNat
  ·subst e
   simp [hi]
  ·have e' : (i == k.toNat) = false := by simpa using e
   rw [e', Bool.false_or]
   congr 1
   simp [List.getD, Ne.symm e]
theorem all_getD (U : List Bool) : U.all id = (List.range U.length).all fun i => U.getD i false := by
 rw [Bool.eq_iff_iff, List.all_eq_true, List.all_eq_true]
 constructor
 ·intro h i hi
  have hi' := List.mem_range.1 hi
  have : U.getD i false = U[i] := by simp [hi']
  rw [this]
  exact h _ (List.getElem_mem hi')
 ·intro h x hx
  obtain ⟨i, hi, rfl⟩ := List.getElem_of_mem hx
  have := h i (List.mem_range.2 hi)
  simpa [hi] using this
theorem marks_all (m : Nat) (ks : List Int) (hk : ∀ x ∈ ks, 0 ≤ x ∧ x < (m : Int)) : (marks (List.replicate m false) ks).all id = allUsed m ks := by
 rw [all_getD, marks_len, List.length_replicate]
 unfold allUsed
 rw [Bool.eq_iff_iff, List.all_eq_true, List.all_eq_true]
 have key : ∀ i, i < m → ((marks (List.replicate m false) ks).getD i false = true ↔ ks.contains (i : Int) = true) := by
  intro i hi
  rw [marks_get _ _ _ (by simpa using hi)]
  have : (List.replicate m false).getD i false = false := by simp [List.getD, hi]
  rw [this, Bool.false_or, List.contains_iff_mem, List.contains_iff_mem, List.mem_map]
  constructor
  ·rintro ⟨x, hx, e⟩
   have := hk x hx
   have e2 : x = (i : Int) := by omega
   rw [← e2]; exact hx
  ·intro hx
   exact ⟨_, hx, by simp⟩
 exact ⟨fun h i hi => (key i (List.mem_range.1 hi)).1 (h i hi), fun h i hi => (key i (List.mem_range.1 hi)).2 (h i hi)⟩
def allK (U : List Bool) (k : Nat) : Bool := (U.take k).all id
theorem allK_next (U : List Bool) (k : Nat) (h : k < U.length) : allK U (k + 1) = (allK U k && U.getD k false) := by
 unfold allK
 rw [List.take_add_one, List.all_append]
 congr 1
 simp [h]
theorem allK_all (U : List Bool) : allK U U.length = U.all id := by unfold allK; rw [List.take_length]
def keysO (l : List OpM) (k : Nat) : List Int := (l.take k).map (·.2.1)
theorem keysO_next (l : List OpM) (k : Nat) (h : k < l.length) : keysO l (k + 1) = keysO l k ++ [(l.getD k noOp).2.1] := by
 unfold keysO
 rw [List.take_add_one, List.map_append]
 congr 1
 simp [h]
def keysT (L : List TxnM) (k : Nat) : List Int := ((L.take k).flatMap (·.2.2)).map (·.2.1)
theorem keysT_next (L : List TxnM) (k : Nat) (h : k < L.length) : keysT L (k + 1) = keysT L k ++ (L.getD k noTxn).2.2.map (·.2.1) := by
 unfold keysT
 rw [List.take_add_one, List.flatMap_append, List.map_append]
 congr 1
 simp [h]
def okFull (h : HistM) (t : TxnM) : Bool := okTxn h.1.length t && t.2.2.all (okOp h.2.1.length)
theorem may_full (h : HistM) : mayH h = (okHeads h && (h.2.2.all (okFull h) && usedH h)) := by
 have e : (h.2.2.all (okTxn h.1.length) && ((allOps h).all (okOp h.2.1.length))) = h.2.2.all (okFull h) := by
  unfold allOps okFull
  generalize h.2.2 = L
  induction L with
  | nil => rfl
  | cons t L ih =>
   rw [List.flatMap_cons, List.all_cons, List.all_cons, List.all_append, ← ih]
   cases okTxn h.1.length t <;> cases t.2.2.all (okOp h.2.1.length) <;> simp
 unfold mayH
 rw [← Bool.and_assoc (h.2.2.all (okTxn h.1.length)), e]
end
section
open Go.RowKit Go.Lib
def vbools (U : List Bool) : List Value := U.map fun b => .bool b
theorem vbools_set (U : List Bool) (j : Nat) (b : Bool) : (vbools U).set j (.bool b) = vbools (U.set j b) := by simp [vbools, List.map_set]
theorem vbools_get (U : List Bool) (j : Nat) (h : j < U.length) : (vbools U)[j]? = some (.bool (U.getD j false)) := by simp [vbools, h]
theorem below_grown {w w' : World} (h : Below w.heap.size w w') (row : Option Nat) : w.grownBy w' row := ⟨h.os, h.tape, h.output, h.size, fun k hk _ => h.block k hk⟩
theorem grown_trans {a b c : World} {row : Option Nat} (h : a.grownBy b row) (k : b.grownBy c row) : a.grownBy c row :=
 ⟨k.os.trans h.os, k.tape.trans h.tape, k.output.trans h.output, Nat.le_trans h.size k.size, fun i hi hne => (k.block i (Nat.lt_of_lt_of_le hi h.size) hne).trans (h.block i hi hne)⟩
theorem grown_set (w : World) (b j : Nat) (v : Value) : w.grownBy (w.setCell ⟨b, j, none⟩ v) (some b) :=
 ⟨rfl, rfl, rfl, by simp [World.setCell], fun k _ hk => Below.heap_setCell w _ v k (fun e => hk (by rw [e]))⟩
theorem cell_grown {w w' : World} {row : Nat} {a : Addr} {v : Value} (h : w.cell? a = some v) (hg : w.grownBy w' (some row)) (hne : a.block ≠ row) : w'.cell? a = some v := hg.cell h (fun e => hne (Option.some.inj e))
def RPost (w : World) (base gu cu : Nat) (U M : List Bool) (b : Bool) (w' : World) : Prop :=
 w.grownBy w' (some gu) ∧ ∃ U' : List Bool, w'.ownsRow base 4 1 (.slice (some ⟨gu, 0, none⟩) U.length cu) U.length (vbools U') ∧ U'.length = U.length ∧ (b = true → U' = M)
theorem rpost {w : World} {base gu cu : Nat} {U M : List Bool} {b : Bool} {w' : World} (h1 : w.grownBy w' (some gu)) (U' : List Bool) (h2 : w'.ownsRow base 4 1 (.slice (some ⟨gu, 0, none⟩) U.length cu) U.length (vbools U')) (h3 : U'.length = U.length) (h4 : b = true → U' = M) : RPost w base gu cu U M b w' := ⟨h1, U', h2, h3, h4⟩
set_option maxRecDepth 100000 in
set_option maxHeartbeats 4000000 in
theorem rops_any (v0 v1 v2 sv : Value) (S K : List (List UInt8)) (t : TxnM) (gu cu : Nat) (U : List Bool) (base : Nat) (w : World) (h0 : Texts w v0 S) (h1 : Texts w v1 K) (h2 : ∃ p c n, v2 = .slice p n c) (hs : OpsS w sv t.2.2) (hl : t.2.2.length ≤ 1000)
  (_ : K.length ≤ 1000000) (hU : U.length = K.length) (hu : w.ownsRow base 4 1 (.slice (some ⟨gu, 0, none⟩) U.length cu) U.length (vbools U)) (hne : ∀ j, j < t.2.2.length → ∀ p n c, sv = .slice (some p) n c → p.block ≠ gu) :
  Calls Tryz.prog 81 #[.agg #[v0, v1, v2], .agg #[.int .i64 t.1, .int .i64 t.2.1, sv], .slice (some ⟨gu, 0, none⟩) U.length cu] w fun e w' => e = .returned (.bool (okTxn S.length t && t.2.2.all (okOp K.length))) ∧ RPost w base gu cu U (marks U (t.2.2.map (·.2.1))) (okTxn S.length t && t.2.2.all (okOp K.length)) w' := by
 obtain ⟨p0, c0, rfl, -⟩ := h0
 obtain ⟨p1, c1, rfl, -⟩ := h1
 obtain ⟨p2, c2, n2, rfl⟩ := h2
 obtain ⟨ps, cs, rfl, -, ho⟩ := hs
 obtain ⟨s, f, tl⟩ := t
 simp only at ho hl hne
 have HO := Lib.hid ho
 have HNE := Lib.hid hne
 have hU1 : U.length ≤ K.length := by omega
 have hU2 : K.length ≤ U.length := by omega
 clear hU
 have gw : gu < w.heap.size := (hu.lt gu rfl).2
 have hbx : w.grownBy ((w.alloc (.cells #[.slice p0 S.length c0, .slice p1 K.length c1, .slice p2 n2 c2] 25)).alloc (.cells #[.int .i64 s, .int .i64 f, .slice ps tl.length cs] 47)) (some gu) := grown_trans (World.grownBy_alloc _ _ _) (World.grownBy_alloc _ _ _)
 have hux := (hu.alloc (.cells #[.slice p0 S.length c0, .slice p1 K.length c1, .slice p2 n2 c2] 25)).alloc (.cells #[.int .i64 s, .int .i64 f, .slice ps tl.length cs] 47)
 have b0 := (Blk.new w 25 [.slice p0 S.length c0, .slice p1 K.length c1, .slice p2 n2 c2]).alloc (.cells #[.int .i64 s, .int .i64 f, .slice ps tl.length cs] 47)
 have b1 := Blk.new (w.alloc (.cells #[.slice p0 S.length c0, .slice p1 K.length c1, .slice p2 n2 c2] 25)) 47 [.int .i64 s, .int .i64 f, .slice ps tl.length cs]
 simp only [World.size_alloc] at b1
 have HBX := Lib.hid hbx
 have HUX := Lib.hid hux
 have B0 := Lib.hid b0
 have B1 := Lib.hid b1
 clear ho hne hbx hux b0 b1 hu
 -- the five tests ahead of the loop
 by_cases g1 : s < 0
 ·have hok : okTxn S.length (s, f, tl) = false := by
   rw [Bool.eq_false_iff]
   simp only [okTxn, inside, ne_eq, Bool.and_eq_true, decide_eq_true_eq]
   omega
  rw [hok, Bool.false_and]
  clear hok
  go_enter Tryz.func81, Tryz.ntmps81
  go_wp2_with fail
  go_ret
  exact ⟨rfl, rpost HBX.out U HUX.out rfl (fun h => by cases h)⟩
 by_cases g2 : (S.length : Int) ≤ s
 ·have hok : okTxn S.length (s, f, tl) = false := by
   rw [Bool.eq_false_iff]
   simp only [okTxn, inside, ne_eq, Bool.and_eq_true, decide_eq_true_eq]
   omega
  rw [hok, Bool.false_and]
  clear hok
  go_enter Tryz.func81, Tryz.ntmps81
  go_wp2_with fail
  go_ret
  exact ⟨rfl, rpost HBX.out U HUX.out rfl (fun h => by cases h)⟩
 by_cases g3 : f < 1
 ·have hok : okTxn S.length (s, f, tl) = false := by
   rw [Bool.eq_false_iff]
   simp only [okTxn, inside, ne_eq, Bool.and_eq_true, decide_eq_true_eq]
   omega
  rw [hok, Bool.false_and]
  clear hok
  go_enter Tryz.func81, Tryz.ntmps81
  go_wp2_with fail
  go_ret
  exact ⟨rfl, rpost HBX.out U HUX.out rfl (fun h => by cases h)⟩
 by_cases g4 : 3 < f
 ·have hok : okTxn S.length (s, f, tl) = false := by
   rw [Bool.eq_false_iff]
   simp only [okTxn, inside, ne_eq, Bool.and_eq_true, decide_eq_true_eq]
   omega
  rw [hok, Bool.false_and]
  clear hok
  go_enter Tryz.func81, Tryz.ntmps81
  go_wp2_with fail
  go_ret
  exact ⟨rfl, rpost HBX.out U HUX.out rfl (fun h => by cases h)⟩
 by_cases g5 : 20 < tl.length
 ·have hok : okTxn S.length (s, f, tl) = false := by
   rw [Bool.eq_false_iff]
   simp only [okTxn, inside, ne_eq, Bool.and_eq_true, decide_eq_true_eq]
   omega
  rw [hok, Bool.false_and]
  clear hok
  go_enter Tryz.func81, Tryz.ntmps81
  go_wp2_with fail
  go_ret
  exact ⟨rfl, rpost HBX.out U HUX.out rfl (fun h => by cases h)⟩
 have hok : okTxn S.length (s, f, tl) = true := by
  simp only [okTxn, inside, Bool.and_eq_true, decide_eq_true_eq]
  omega
 rw [hok, Bool.true_and]
 clear hok
 go_enter Tryz.func81, Tryz.ntmps81
 go_wp2_with fail
 go_loopw [7] (fun i wr => ∃ k : Nat, k ≤ tl.length ∧ i = .int .i64 k ∧ (∀ j, j < k → okOp K.length (tl.getD j noOp) = true) ∧ wr.ownsRow base 4 1 (.slice (some ⟨gu, 0, none⟩) U.length cu) U.length (vbools (marks U (keysO tl k))) ∧ ((w.alloc (.cells #[.slice p0 S.length c0, .slice p1 K.length c1, .slice p2 n2 c2] 25)).alloc (.cells #[.int .i64 s, .int .i64 f, .slice ps tl.length cs] 47)).grownBy wr (some gu)) (fun i _ => tl.length - (RowKit.intOf i).toNat)
 case atStart => exact ⟨0, Nat.zero_le _, rfl, fun j hj => absurd hj (Nat.not_lt_zero j), HUX.out, World.grownBy.refl _ _⟩
 case round =>
  obtain ⟨k, hk, rfl, hn, hown, hg⟩ := hrel
  have y0 := B0.out.kept hg (fun e => by have := Option.some.inj e; omega)
  have y1 := B1.out.kept hg (fun e => by have := Option.some.inj e; omega)
  have x1 := y0.cell 1 rfl
  have x2 := y1.cell 2 rfl
  have hz0 : w.heap.size < wr.heap.size := y0.lt
  have hz1 : w.heap.size + 1 < wr.heap.size := y1.lt
  have HN := Lib.hid hn
  have hgw := grown_trans HBX.out hg
  clear y0 y1 hn
  by_cases hk1 : k < tl.length
  ·obtain ⟨g, rfl, o0, o1, o2, o3⟩ := HO.out k hk1
   have hgn : g ≠ gu := HNE.out k hk1 _ _ _ rfl
   have a0 := cell_grown o0 hgw hgn
   have a1 := cell_grown o1 hgw hgn
   have a2 := cell_grown o2 hgw hgn
   have a3 := cell_grown o3 hgw hgn
   have hkn := keysO_next tl k hk1
   have HNo : RowKit.Hid (okOp K.length (tl.getD k noOp) = false → tl.all (okOp K.length) = false) := Lib.hid (fun hf => by
    rw [List.all_eq_false]
    refine ⟨tl.getD k noOp, ?_, by rw [hf]; exact Bool.false_ne_true⟩
    have : tl.getD k noOp = tl[k] := by simp [hk1]
    rw [this]
    exact List.getElem_mem hk1)
   have HYes : RowKit.Hid (okOp K.length (tl.getD k noOp) = true → ∀ j, j < k + 1 → okOp K.length (tl.getD j noOp) = true) := Lib.hid (fun h j hj => by
    by_cases hjk : j < k
    ·exact HN.out j hjk
    ·obtain rfl : j = k := by omega
     exact h)
   obtain ⟨o, hoo⟩ : ∃ o, tl.getD k noOp = o := ⟨_, rfl⟩
   rw [hoo] at a0 a1 a2 a3 hkn HNo HYes
   obtain ⟨ow, ok, od, on⟩ := o
   simp only at a0 a1 a2 a3 hkn
   have HKN := Lib.hid hkn
   clear o0 o1 o2 o3 hoo hkn HO
   by_cases q1 : ok < 0
   ·have hf : okOp K.length (ow, ok, od, on) = false := by
     rw [Bool.eq_false_iff]
     simp only [okOp, inside, ne_eq, Bool.and_eq_true, decide_eq_true_eq]
     omega
    have HF := Lib.hid (HNo.out hf)
    clear hf
    go_wp2_with fail
    go_ret
    rw [HF.out]
    exact ⟨rfl, rpost (grown_trans hgw (World.grownBy_alloc _ _ _)) _ (hown.alloc _) (marks_len _ _) (fun h => by cases h)⟩
   by_cases q2 : (K.length : Int) ≤ ok
   ·have hf : okOp K.length (ow, ok, od, on) = false := by
     rw [Bool.eq_false_iff]
     simp only [okOp, inside, ne_eq, Bool.and_eq_true, decide_eq_true_eq]
     omega
    have HF := Lib.hid (HNo.out hf)
    clear hf
    go_wp2_with fail
    go_ret
    rw [HF.out]
    exact ⟨rfl, rpost (grown_trans hgw (World.grownBy_alloc _ _ _)) _ (hown.alloc _) (marks_len _ _) (fun h => by cases h)⟩
   have hin : inside ok K.length = true := by
    simp only [inside, Bool.and_eq_true, decide_eq_true_eq]
    omega
   have HOK : RowKit.Hid (okOp K.length (ow, ok, od, on) = (mayV od on && (!ow || od == 1))) := Lib.hid (by simp only [okOp]; rw [hin, Bool.true_and])
   obtain ⟨nk, rfl⟩ := Int.eq_ofNat_of_zero_le (show (0 : Int) ≤ ok by omega)
   have hnk : nk < U.length := by omega
   have hml : (marks U (keysO tl k)).length = U.length := marks_len _ _
   have ox := Blk.new wr 51 [.bool ow, .int .i64 (nk : Int), .int .i64 od, .int .i64 on]
   have HX := Lib.hid ox
   have HMay := Lib.hid (rvmay_any od on (wr.alloc (.cells #[.bool ow, .int .i64 (nk : Int), .int .i64 od, .int .i64 on] 51)))
   have HG := Lib.hid hgw
   have HG1 := Lib.hid hg
   clear hin ox hgw hg
   cases hv : mayV od on with
   | false =>
    rw [hv] at HMay HOK
    have HF := Lib.hid (HNo.out (by rw [HOK.out]; rfl))
    clear hv
    go_wp2_with fail
    refine HMay.out.mono ?_
    rintro e w3 ⟨rfl, hb3⟩
    have hown3 := owns_later (hown.alloc _) hb3
    have HG3 := Lib.hid (grown_trans (grown_trans HG.out (World.grownBy_alloc _ _ _)) (below_grown hb3 _))
    clear hb3 hown
    go_wp2_with fail
    go_ret
    rw [HF.out]
    exact ⟨rfl, rpost HG3.out _ hown3 (marks_len _ _) (fun h => by cases h)⟩
   | true =>
    rw [hv, Bool.true_and] at HOK
    rw [hv] at HMay
    clear hv
    by_cases q3 : ow = true ∧ od ≠ 1
    ·obtain ⟨rfl, q4⟩ := q3
     have q5 : (od == 1) = false := beq_eq_false_iff_ne.2 q4
     have q6 : (od != 1) = true := bne_iff_ne.2 q4
     have HF := Lib.hid (HNo.out (by rw [HOK.out, q5]; rfl))
     clear q4
     go_wp2_with fail
     refine HMay.out.mono ?_
     rintro e w3 ⟨rfl, hb3⟩
     have hown3 := owns_later (hown.alloc _) hb3
     have xx := HX.out.later hb3
     have z0 := xx.cell 0 rfl
     have z1 := xx.cell 1 rfl
     have z2 := xx.cell 2 rfl
     have HG3 := Lib.hid (grown_trans (grown_trans HG.out (World.grownBy_alloc _ _ _)) (below_grown hb3 _))
     clear hb3 hown xx
     go_wp2_with fail
     go_ret
     rw [HF.out]
     exact ⟨rfl, rpost HG3.out _ hown3 (marks_len _ _) (fun h => by cases h)⟩
    ·have hyes : okOp K.length (ow, (nk : Int), od, on) = true := by
      rw [HOK.out]
      cases ow with
      | false => rfl
      | true =>
       by_cases e : od = 1
       ·rw [e]; rfl
       ·exact absurd ⟨rfl, e⟩ q3
     have HY := Lib.hid (HYes.out hyes)
     have q7 : ow = false ∨ (ow = true ∧ od = 1) := by
      cases ow with
      | false => exact .inl rfl
      | true =>
       by_cases e : od = 1
       ·exact .inr ⟨rfl, e⟩
       ·exact absurd ⟨rfl, e⟩ q3
     clear q3 hyes
     rcases q7 with rfl | ⟨rfl, rfl⟩
     all_goals
      go_wp2_with fail
      refine HMay.out.mono ?_
      rintro e w3 ⟨rfl, hb3⟩
      have hown3 := owns_later (hown.alloc _) hb3
      have xx := HX.out.later hb3
      have z0 := xx.cell 0 rfl
      have z1 := xx.cell 1 rfl
      have z2 := xx.cell 2 rfl
      have r1 : w3.cell? ⟨gu, nk, none⟩ = some (.bool ((marks U (keysO tl k)).getD nk false)) := by
       rw [hown3.cellAt nk (by omega)]
       exact vbools_get _ _ (by omega)
      have r2 := hown3.frozenAt nk
      generalize (marks U (keysO tl k)).getD nk false = old at r1
      have hst := hown3.stored nk (.bool true)
      rw [vbools_set, show (marks U (keysO tl k)).set nk true = marks U (keysO tl (k + 1)) by rw [HKN.out, marks_snoc]; rfl] at hst
      have HST := Lib.hid hst.1
      have HG3 := Lib.hid (grown_trans (grown_trans (grown_trans HG1.out (World.grownBy_alloc _ _ _)) (below_grown hb3 _)) (grown_set w3 gu nk (.bool true)))
      have hu1 : (nk : Int) < (U.length : Int) := by omega
      clear hb3 hown xx hown3 hst
      go_wp2_with fail
      go_roundw
      case rel => exact ⟨k + 1, by omega, by go_num, HY.out, HST.out, HG3.out⟩
      case measure => simp [RowKit.intOf]; omega
  ·have hke : k = tl.length := by omega
   have hall : tl.all (okOp K.length) = true := by
    rw [List.all_eq_true]
    intro x hx
    obtain ⟨j, hj, e⟩ := List.getElem_of_mem hx
    have := HN.out j (by omega)
    simpa [hj, e] using this
   have hmk : marks U (keysO tl k) = marks U (tl.map (·.2.1)) := by rw [hke, keysO, List.take_length]
   have HA := Lib.hid hall
   have HMK := Lib.hid hmk
   clear hall hmk
   go_wp2_with fail
   go_ret
   rw [HA.out]
   exact ⟨rfl, rpost hgw _ hown (marks_len _ _) (fun _ => HMK.out)⟩
end
section
open Go.RowKit Go.Lib
theorem good_len' (L : List (List UInt8)) (k : Nat) (hs : ∀ x ∈ L, x.length ≤ 1000000) : (L.getD k []).length ≤ 1000000 := by
 by_cases h : k < L.length
 ·exact hs _ (getD_mem L k h)
 ·rw [List.getD_eq_getElem?_getD, List.getElem?_eq_none (by omega)]
  simp
set_option maxRecDepth 100000 in
set_option maxHeartbeats 2000000 in
theorem rtis_any (w : World) (v : Value) (L : List (List UInt8)) (hv : Texts w v L) (hL : L.length ≤ 1000000) (hs : ∀ x ∈ L, x.length ≤ 1000000) :
  Calls Tryz.prog 80 #[v] w fun e w' => e = .returned (.bool (isT L)) ∧ Below w.heap.size w w' := by
 obtain ⟨p, c, rfl, hp⟩ := hv
 have HX := Lib.hid hp
 have HS := Lib.hid hs
 have HA := Lib.hid (isT_no L)
 have HZ := Lib.hid (isT_yes L)
 obtain ⟨R, hR⟩ : ∃ R, isT L = R := ⟨_, rfl⟩
 rw [hR] at HA HZ ⊢
 clear hp hs hR
 go_enter Tryz.func80, Tryz.ntmps80
 go_wp2_with fail
 go_loopw [3] (fun i wr => ∃ k : Nat, k ≤ L.length ∧ i = .int .i64 k ∧ (∀ j, j < k → goodT L j = true) ∧ Below w.heap.size w wr) (fun i _ => L.length - (RowKit.intOf i).toNat)
 case atStart => exact ⟨0, Nat.zero_le _, rfl, fun j hj => absurd hj (Nat.not_lt_zero j), Below.refl _ _⟩
 case round =>
  obtain ⟨k, hk, rfl, hn, hbw⟩ := hrel
  have HN := Lib.hid hn
  clear hn
  by_cases hlt : k < L.length
  ·have hstep : goodT L k = true → ∀ j, j < k + 1 → goodT L j = true := fun hg j hj => by
    by_cases hjk : j < k
    ·exact HN.out j hjk
    ·obtain rfl : j = k := by omega
     exact hg
   have HStep := Lib.hid hstep
   have HNo := Lib.hid (HA.out k hlt)
   clear hstep
   cases k with
   | zero =>
    obtain ⟨g, rfl, hc⟩ := HX.out 0 hlt
    have HI := Lib.hid (ris_any (L.getD 0 []) (good_len' L 0 HS.out))
    have hg0 := good_first L
    obtain ⟨x, hx⟩ : ∃ x, L.getD 0 [] = x := ⟨_, rfl⟩
    rw [hx] at hc HI hg0
    have c3 : decide ((0 : Int) < 0) = false := by decide
    clear hx
    cases hnx : nameL x with
    | false =>
     rw [hnx] at HI hg0
     have H1 := Lib.hid (HNo.out hg0)
     clear hnx hg0
     go_wp2_with fail
     have hq0 : ∀ m : Later wr, m.w.cell? ⟨g, 0, none⟩ = some (.string (bs x)) := fun m => cell_later m.h (cell_later hbw hc)
     refine wp_region_later (by kernel_rfl) (by kernel_rfl) ?_
     repeat (go_big_quiet_step (first | (go_at_call 136; exact Later.call (HI.out _))))
     refine wpQuiet_nil ?_
     intro _ hw'
     obtain ⟨⟨w3, hb3⟩, hw''⟩ := hw'
     have hw3 : w3 = _ := hw''.symm
     subst hw3
     try dsimp only at hb3
     go_wp2_with fail
     go_ret
     exact ⟨by rw [H1.out]; rfl, below_next hbw hb3⟩
    | true =>
     rw [hnx] at HI hg0
     have H1 := Lib.hid (HStep.out hg0)
     have hwr : IntKind.i64.wrap 1 = 1 := by decide
     clear hnx hg0
     go_wp2_with fail
     have hq0 : ∀ m : Later wr, m.w.cell? ⟨g, 0, none⟩ = some (.string (bs x)) := fun m => cell_later m.h (cell_later hbw hc)
     refine wp_region_later (by kernel_rfl) (by kernel_rfl) ?_
     repeat (go_big_quiet_step (first | (go_at_call 136; exact Later.call (HI.out _))))
     refine wpQuiet_nil ?_
     intro _ hw'
     obtain ⟨⟨w3, hb3⟩, hw''⟩ := hw'
     have hw3 : w3 = _ := hw''.symm
     subst hw3
     try dsimp only at hb3
     go_wp2_with fail
     go_roundw
     case rel => exact ⟨1, by omega, rfl, H1.out, below_next hbw hb3⟩
     case measure => simp [RowKit.intOf]; omega
   | succ q =>
    obtain ⟨g, rfl, hc⟩ := HX.out (q + 1) hlt
    obtain ⟨g', hg', hd⟩ := HX.out q (by omega)
    obtain rfl : g = g' := by simpa using hg'
    have HI := Lib.hid (ris_any (L.getD (q + 1) []) (good_len' L (q + 1) HS.out))
    have HL := Lib.hid (rless_any (L.getD q []) (L.getD (q + 1) []) (good_len' L q HS.out) (good_len' L (q + 1) HS.out))
    have hg0 := good_next L q
    have hlt0 : ltN (L.getD q []) (L.getD (q + 1) []) = lexLess (runesU (L.getD q [])) (runesU (L.getD (q + 1) [])) := rfl
    obtain ⟨x, hx⟩ : ∃ x, L.getD (q + 1) [] = x := ⟨_, rfl⟩
    obtain ⟨y, hy⟩ : ∃ y, L.getD q [] = y := ⟨_, rfl⟩
    rw [hx] at hc HI HL hg0 hlt0
    rw [hy] at hd HL hg0 hlt0
    rw [← hlt0] at HL
    have c3 : decide ((0 : Int) < (q : Int) + 1) = true := decide_eq_true (by omega)
    clear hx hy hlt0 hg'
    cases hnx : nameL x with
    | false =>
     rw [hnx] at HI hg0
     have H1 := Lib.hid (HNo.out hg0)
     clear hnx hg0
     go_wp2_with fail
     have hq0 : ∀ m : Later wr, m.w.cell? ⟨g, q + 1, none⟩ = some (.string (bs x)) := fun m => cell_later m.h (cell_later hbw hc)
     have hq1 : ∀ m : Later wr, m.w.cell? ⟨g, q, none⟩ = some (.string (bs y)) := fun m => cell_later m.h (cell_later hbw hd)
     refine wp_region_later (by kernel_rfl) (by kernel_rfl) ?_
     repeat (go_big_quiet_step (first | (go_at_call 136; exact Later.call (HI.out _))))
     refine wpQuiet_nil ?_
     intro _ hw'
     obtain ⟨⟨w3, hb3⟩, hw''⟩ := hw'
     have hw3 : w3 = _ := hw''.symm
     subst hw3
     try dsimp only at hb3
     go_wp2_with fail
     go_ret
     exact ⟨by rw [H1.out]; rfl, below_next hbw hb3⟩
    | true =>
     rw [hnx, Bool.true_and] at hg0
     rw [hnx] at HI
     cases hl : ltN y x with
     | false =>
      rw [hl] at HL hg0
      have H1 := Lib.hid (HNo.out hg0)
      clear hnx hg0 hl
      go_wp2_with fail
      have hq0 : ∀ m : Later wr, m.w.cell? ⟨g, q + 1, none⟩ = some (.string (bs x)) := fun m => cell_later m.h (cell_later hbw hc)
      have hq1 : ∀ m : Later wr, m.w.cell? ⟨g, q, none⟩ = some (.string (bs y)) := fun m => cell_later m.h (cell_later hbw hd)
      refine wp_region_later (by kernel_rfl) (by kernel_rfl) ?_
      repeat (go_big_quiet_step (first | (go_at_call 136; exact Later.call (HI.out _)) | (go_at_call 137; exact Later.call (HL.out _))))
      refine wpQuiet_nil ?_
      intro _ hw'
      obtain ⟨⟨w3, hb3⟩, hw''⟩ := hw'
      have hw3 : w3 = _ := hw''.symm
      subst hw3
      try dsimp only at hb3
      go_wp2_with fail
      go_ret
      exact ⟨by rw [H1.out]; rfl, below_next hbw hb3⟩
     | true =>
      rw [hl] at HL hg0
      have H1 := Lib.hid (HStep.out hg0)
      have hwr : IntKind.i64.wrap ((q : Int) + 1 + 1) = (q : Int) + 1 + 1 := IntWalk.i64_in _ (by omega)
      clear hnx hg0 hl
      go_wp2_with fail
      have hq0 : ∀ m : Later wr, m.w.cell? ⟨g, q + 1, none⟩ = some (.string (bs x)) := fun m => cell_later m.h (cell_later hbw hc)
      have hq1 : ∀ m : Later wr, m.w.cell? ⟨g, q, none⟩ = some (.string (bs y)) := fun m => cell_later m.h (cell_later hbw hd)
      refine wp_region_later (by kernel_rfl) (by kernel_rfl) ?_
      repeat (go_big_quiet_step (first | (go_at_call 136; exact Later.call (HI.out _)) | (go_at_call 137; exact Later.call (HL.out _))))
      refine wpQuiet_nil ?_
      intro _ hw'
      obtain ⟨⟨w3, hb3⟩, hw''⟩ := hw'
      have hw3 : w3 = _ := hw''.symm
      subst hw3
      try dsimp only at hb3
      go_wp2_with fail
      go_roundw
      case rel => exact ⟨q + 1 + 1, by omega, by go_num, H1.out, below_next hbw hb3⟩
      case measure => simp [RowKit.intOf]; omega
  ·have hke : k = L.length := by omega
   subst hke
   have H1 := Lib.hid (HZ.out HN.out)
   go_wp2_with fail
   go_ret
   exact ⟨by rw [H1.out]; rfl, hbw⟩
end
section
open Go.RowKit Go.Lib
theorem info_bool : (Tryz.prog.info? 4).map (fun i => (i.zero, i.size, i.bytes)) = some (some (.bool false), 1, 1) := by kernel_rfl
theorem made_bools (n : Nat) : (madeCells (Value.cells (.bool false)) (n * 1)).toList = vbools (List.replicate n false) := by
 rw [Nat.mul_one]
 show (madeCells #[.bool false] n).toList = _
 rw [toList_madeCells_one]
 simp [vbools]
theorem keepJ {n : Nat} {a W : World} (hn : n ≤ a.heap.size) (h : Below n a W) (o : Obj) : Below n a (W.alloc o) := h.alloc (Nat.le_trans hn h.size) o
theorem two_made (w W : World) (n m : Nat) (hw : w.heap.size + 1 ≤ W.heap.size) (hn : n ≤ 1000) (hm : m ≤ 1000) :
  ((W.alloc (.cells (madeCells #[.bool false] n) 4)).alloc (.cells (madeCells #[.bool false] m) 4)).drew.ownsRow (w.heap.size + 1) 4 1 (.slice (some ⟨W.heap.size, 0, none⟩) n n) n (vbools (List.replicate n false)) ∧
  ((W.alloc (.cells (madeCells #[.bool false] n) 4)).alloc (.cells (madeCells #[.bool false] m) 4)).drew.ownsRow (w.heap.size + 1) 4 1 (.slice (some ⟨W.heap.size + 1, 0, none⟩) m m) m (vbools (List.replicate m false)) := by
 have h1 := World.ownsRow_lit (base := w.heap.size + 1) (e := 4) (size := 1) W (madeCells #[.bool false] (n * 1)) n hw (by unfold maxLen; omega) (by rw [size_madeCells])
 have h2 := World.ownsRow_lit (base := w.heap.size + 1) (e := 4) (size := 1) (W.alloc (.cells (madeCells #[.bool false] n) 4)) (madeCells #[.bool false] (m * 1)) m (by simp; omega) (by unfold maxLen; omega) (by rw [size_madeCells])
 have e1 := made_bools n
 have e2 := made_bools m
 simp only [Nat.mul_one] at h1 h2 e1 e2
 rw [show Value.cells (.bool false) = #[.bool false] from rfl] at e1 e2
 rw [e1] at h1
 rw [e2] at h2
 simp only [World.size_alloc] at h2
 exact ⟨(h1.alloc _).drew, h2.drew⟩
theorem rops_k (v0 v1 v2 sv : Value) (S K : List (List UInt8)) (t : TxnM) (gu cu : Nat) (U : List Bool) (base : Nat) (w : World) (h0 : Texts w v0 S) (h1 : Texts w v1 K) (h2 : ∃ p c n, v2 = .slice p n c) (hs : OpsS w sv t.2.2) (hl : t.2.2.length ≤ 1000)
  (hK : K.length ≤ 1000000) (hU : U.length = K.length) (hu : w.ownsRow base 4 1 (.slice (some ⟨gu, 0, none⟩) K.length cu) K.length (vbools U)) (hne : ∀ j, j < t.2.2.length → ∀ p n c, sv = .slice (some p) n c → p.block ≠ gu) :
  Calls Tryz.prog 81 #[.agg #[v0, v1, v2], .agg #[.int .i64 t.1, .int .i64 t.2.1, sv], .slice (some ⟨gu, 0, none⟩) K.length cu] w fun e w' => e = .returned (.bool (okTxn S.length t && t.2.2.all (okOp K.length))) ∧
   (w.grownBy w' (some gu) ∧ ∃ U' : List Bool, w'.ownsRow base 4 1 (.slice (some ⟨gu, 0, none⟩) K.length cu) K.length (vbools U') ∧ U'.length = K.length ∧ ((okTxn S.length t && t.2.2.all (okOp K.length)) = true → U' = marks U (t.2.2.map (·.2.1)))) := by
 have h := rops_any v0 v1 v2 sv S K t gu cu U base w h0 h1 h2 hs hl hK hU (by rw [hU]; exact hu) hne
 rw [hU] at h
 refine h.mono ?_
 rintro e w' ⟨he, hg, U', a, b, c⟩
 rw [hU] at a b
 exact ⟨he, hg, U', a, b, c⟩
theorem grown_drew (w : World) (row : Option Nat) : w.grownBy w.drew row := ⟨rfl, rfl, rfl, Nat.le_refl _, fun _ _ _ => rfl⟩
set_option maxRecDepth 100000 in
set_option maxHeartbeats 8000000 in
theorem rmay_any (v0 v1 v2 : Value) (h : HistM) (w : World) (h0 : Texts w v0 h.1) (h1 : Texts w v1 h.2.1) (h2 : TxnsS w v2 h.2.2) (hm : Modst h) :
  Calls Tryz.prog 27 #[.agg #[v0, v1, v2]] w fun e w' => e = .returned (.int .i64 (errH h)) ∧ Below w.heap.size w w' := by
 obtain ⟨m1, m2, m3, m4, m5, m6⟩ := hm
 have H1 := Lib.hid (fun w' (hw : Texts w' v0 h.1) => rtis_any w' v0 h.1 hw (by omega) m4)
 have H2 := Lib.hid (fun w' (hw : Texts w' v1 h.2.1) => rtis_any w' v1 h.2.1 hw (by omega) m5)
 have HM6 := Lib.hid m6
 have T0 := Lib.hid h0
 have T1 := Lib.hid h1
 obtain ⟨p2, c2, rfl, hp⟩ := h2
 obtain ⟨p0, c0, rfl, -⟩ := h0
 obtain ⟨p1, c1, rfl, -⟩ := h1
 have HX := Lib.hid hp
 have HF : RowKit.Hid (okHeads h = false → errH h = 4) := Lib.hid (fun e => err_no (by rw [may_full, e]; rfl))
 have HT : RowKit.Hid (okHeads h = true → ∀ b, (h.2.2.all (okFull h) && usedH h) = b → errH h = if b then 0 else 4) := Lib.hid (fun e b hb => by unfold errH; rw [may_full, e, Bool.true_and, hb])
 have HH : RowKit.Hid (okHeads h = (isT h.1 && (isT h.2.1 && (decide (h.1.length ≤ 20) && (decide (h.2.1.length ≤ 40) && decide (h.2.2.length ≤ 40)))))) := Lib.hid rfl
 generalize isT h.1 = I at H1 HH
 generalize isT h.2.1 = J at H2 HH
 have b0 := Blk.new w 25 [.slice p0 h.1.length c0, .slice p1 h.2.1.length c1, .slice p2 h.2.2.length c2]
 have hb0 : Below w.heap.size w (w.alloc (.cells #[.slice p0 h.1.length c0, .slice p1 h.2.1.length c1, .slice p2 h.2.2.length c2] 25)) := (Below.refl _ w).alloc (Nat.le_refl _) _
 have HB0 := Lib.hid hb0
 have B0 := Lib.hid b0
 clear hp m4 m5 m6 b0 hb0
 cases I with
 | false =>
  have HE := Lib.hid (HF.out (by rw [HH.out]; rfl))
  go_enter Tryz.func27, Tryz.ntmps27
  go_wp2_with fail
  refine (H1.out _ (T0.out.below HB0.out)).mono ?_
  rintro e w1 ⟨rfl, hb1⟩
  have hbw1 := below_next HB0.out hb1
  have d1 := B0.out.later hb1
  have x10 := d1.cell 0 rfl
  have x11 := d1.cell 1 rfl
  have x12 := d1.cell 2 rfl
  have D1 := Lib.hid d1
  clear hb1 d1
  go_wp2_with fail
  go_ret
  rw [HE.out]
  exact ⟨rfl, hbw1⟩
 | true =>
  cases J with
  | false =>
   have HE := Lib.hid (HF.out (by rw [HH.out]; rfl))
   go_enter Tryz.func27, Tryz.ntmps27
   go_wp2_with fail
   refine (H1.out _ (T0.out.below HB0.out)).mono ?_
   rintro e w1 ⟨rfl, hb1⟩
   have hbw1 := below_next HB0.out hb1
   have d1 := B0.out.later hb1
   have x10 := d1.cell 0 rfl
   have x11 := d1.cell 1 rfl
   have x12 := d1.cell 2 rfl
   have D1 := Lib.hid d1
   clear hb1 d1
   go_wp2_with fail
   refine (H2.out _ (T1.out.below hbw1)).mono ?_
   rintro e w2 ⟨rfl, hb2⟩
   have hbw2 := below_next hbw1 hb2
   have d2 := D1.out.later hb2
   have x20 := d2.cell 0 rfl
   have x21 := d2.cell 1 rfl
   have x22 := d2.cell 2 rfl
   have D2 := Lib.hid d2
   clear hb2 d2 x10 x11 x12
   go_wp2_with fail
   go_ret
   rw [HE.out]
   exact ⟨rfl, hbw2⟩
  | true =>
   by_cases g1 : 20 < h.1.length
   ·have HE := Lib.hid (HF.out (by rw [HH.out, decide_eq_false (show ¬ h.1.length ≤ 20 by omega)]; rfl))
    go_enter Tryz.func27, Tryz.ntmps27
    go_wp2_with fail
    refine (H1.out _ (T0.out.below HB0.out)).mono ?_
    rintro e w1 ⟨rfl, hb1⟩
    have hbw1 := below_next HB0.out hb1
    have d1 := B0.out.later hb1
    have x10 := d1.cell 0 rfl
    have x11 := d1.cell 1 rfl
    have x12 := d1.cell 2 rfl
    have D1 := Lib.hid d1
    clear hb1 d1
    go_wp2_with fail
    refine (H2.out _ (T1.out.below hbw1)).mono ?_
    rintro e w2 ⟨rfl, hb2⟩
    have hbw2 := below_next hbw1 hb2
    have d2 := D1.out.later hb2
    have x20 := d2.cell 0 rfl
    have x21 := d2.cell 1 rfl
    have x22 := d2.cell 2 rfl
    have D2 := Lib.hid d2
    clear hb2 d2 x10 x11 x12
    go_wp2_with fail
    go_ret
    rw [HE.out]
    exact ⟨rfl, hbw2⟩
   by_cases g2 : 40 < h.2.1.length
   ·have HE := Lib.hid (HF.out (by rw [HH.out, decide_eq_false (show ¬ h.2.1.length ≤ 40 by omega)]; simp))
    go_enter Tryz.func27, Tryz.ntmps27
    go_wp2_with fail
    refine (H1.out _ (T0.out.below HB0.out)).mono ?_
    rintro e w1 ⟨rfl, hb1⟩
    have hbw1 := below_next HB0.out hb1
    have d1 := B0.out.later hb1
    have x10 := d1.cell 0 rfl
    have x11 := d1.cell 1 rfl
    have x12 := d1.cell 2 rfl
    have D1 := Lib.hid d1
    clear hb1 d1
    go_wp2_with fail
    refine (H2.out _ (T1.out.below hbw1)).mono ?_
    rintro e w2 ⟨rfl, hb2⟩
    have hbw2 := below_next hbw1 hb2
    have d2 := D1.out.later hb2
    have x20 := d2.cell 0 rfl
    have x21 := d2.cell 1 rfl
    have x22 := d2.cell 2 rfl
    have D2 := Lib.hid d2
    clear hb2 d2 x10 x11 x12
    go_wp2_with fail
    go_ret
    rw [HE.out]
    exact ⟨rfl, hbw2⟩
   by_cases g3 : 40 < h.2.2.length
   ·have HE := Lib.hid (HF.out (by rw [HH.out, decide_eq_false (show ¬ h.2.2.length ≤ 40 by omega)]; simp))
    go_enter Tryz.func27, Tryz.ntmps27
    go_wp2_with fail
    refine (H1.out _ (T0.out.below HB0.out)).mono ?_
    rintro e w1 ⟨rfl, hb1⟩
    have hbw1 := below_next HB0.out hb1
    have d1 := B0.out.later hb1
    have x10 := d1.cell 0 rfl
    have x11 := d1.cell 1 rfl
    have x12 := d1.cell 2 rfl
    have D1 := Lib.hid d1
    clear hb1 d1
    go_wp2_with fail
    refine (H2.out _ (T1.out.below hbw1)).mono ?_
    rintro e w2 ⟨rfl, hb2⟩
    have hbw2 := below_next hbw1 hb2
    have d2 := D1.out.later hb2
    have x20 := d2.cell 0 rfl
    have x21 := d2.cell 1 rfl
    have x22 := d2.cell 2 rfl
    have D2 := Lib.hid d2
    clear hb2 d2 x10 x11 x12
    go_wp2_with fail
    go_ret
    rw [HE.out]
    exact ⟨rfl, hbw2⟩
   have HT2 := Lib.hid (HT.out (by rw [HH.out, decide_eq_true (show h.1.length ≤ 20 by omega), decide_eq_true (show h.2.1.length ≤ 40 by omega), decide_eq_true (show h.2.2.length ≤ 40 by omega)]; rfl))
   obtain ⟨i0, hi, hz0, hz1, hz2⟩ := info_parts info_bool
   have mk : ∀ (n : Nat), n ≤ 1000 → ∀ W : World, (Instr.makeSlice 61 (.int .i64 (n : Int)) (.int .i64 (n : Int))).run Tryz.prog W = .ok (.slice (some ⟨W.heap.size, 0, none⟩) n n) (W.alloc (.cells (madeCells (Value.cells (.bool false)) (n * i0.size)) 4)) := fun n hn W => by
    have hr := run_make (P := Tryz.prog) W 61 4 i0 (.bool false) Tryz.underlying61 hi hz0 .i64 .i64 n n (by omega) (Int.le_refl _) (by rw [hz2]; omega) (by omega)
    simpa only [Int.toNat_natCast] using hr
   have mk1 := mk h.2.1.length m2
   have mk2 := mk h.1.length m1
   rw [hz1] at mk1 mk2
   clear mk HF HT HH
   go_enter Tryz.func27, Tryz.ntmps27
   go_upto_region 3 with fail
   refine (H1.out _ (T0.out.below HB0.out)).mono ?_
   rintro e w1 ⟨rfl, hb1⟩
   have hbw1 := below_next HB0.out hb1
   have d1 := B0.out.later hb1
   have x10 := d1.cell 0 rfl
   have x11 := d1.cell 1 rfl
   have x12 := d1.cell 2 rfl
   have D1 := Lib.hid d1
   clear hb1 d1
   go_upto_region 3 with fail
   refine (H2.out _ (T1.out.below hbw1)).mono ?_
   rintro e w2 ⟨rfl, hb2⟩
   have hbw2 := below_next hbw1 hb2
   have d2 := D1.out.later hb2
   have x20 := d2.cell 0 rfl
   have x21 := d2.cell 1 rfl
   have x22 := d2.cell 2 rfl
   have D2 := Lib.hid d2
   have hws : w.heap.size + 1 ≤ w2.heap.size := D2.out.lt
   clear hb2 d2 x10 x11 x12
   go_upto_region 3 with fail
   go_cut [3, 4] (fun s3 s4 wx => ∃ gk gs : Nat, s3 = .slice (some ⟨gk, 0, none⟩) h.2.1.length h.2.1.length ∧ s4 = .slice (some ⟨gs, 0, none⟩) h.1.length h.1.length ∧ gk ≠ gs ∧ wx.ownsRow (w.heap.size + 1) 4 1 (.slice (some ⟨gk, 0, none⟩) h.2.1.length h.2.1.length) h.2.1.length (vbools (List.replicate h.2.1.length false)) ∧ wx.ownsRow (w.heap.size + 1) 4 1 (.slice (some ⟨gs, 0, none⟩) h.1.length h.1.length) h.1.length (vbools (List.replicate h.1.length false)) ∧ Below (w.heap.size + 1) w2 wx)
   case first =>
    have HS : RowKit.Hid (∀ w', Below (w.heap.size + 1) w2 w' → (w'.cell? ⟨w.heap.size, 0, none⟩ = some (.slice p0 h.1.length c0) ∧ w'.cell? ⟨w.heap.size, 1, none⟩ = some (.slice p1 h.2.1.length c1) ∧ Below (w.heap.size + 1) w2 w')) := Lib.hid (fun w' hb => ⟨(hb.cell (p := ⟨w.heap.size, 0, none⟩) (by show w.heap.size < _; omega)).trans x20, (hb.cell (p := ⟨w.heap.size, 1, none⟩) (by show w.heap.size < _; omega)).trans x21, hb⟩)
    go_region_held3 (fun w' => w'.cell? ⟨w.heap.size, 0, none⟩ = some (.slice p0 h.1.length c0) ∧ w'.cell? ⟨w.heap.size, 1, none⟩ = some (.slice p1 h.2.1.length c1) ∧ Below (w.heap.size + 1) w2 w')
     ((go_split_ands; exact HS.out _ (by (repeat (first | assumption | exact Below.refl _ _ | refine Below.drew ?_ | refine keepJ (by omega) ?_ _)))))
     (fail)
    all_goals
     go_split_ands
     go_wp2_with fail
     go_meet
     first
      | exact ⟨_, _, rfl, rfl, by omega, (two_made _ _ _ _ hws (by omega) (by omega)).1, (two_made _ _ _ _ hws (by omega) (by omega)).2, by assumption⟩
      | exact ⟨_, _, rfl, rfl, by omega, (two_made _ _ _ _ hws (by omega) (by omega)).2, (two_made _ _ _ _ hws (by omega) (by omega)).1, by assumption⟩
   case rest =>
    obtain ⟨gk, gs, rfl, rfl, hgne, hrk, hrs, hbc⟩ := hcut
    have hgk : w.heap.size + 1 ≤ gk := (hrk.lt gk rfl).1
    have hgs : w.heap.size + 1 ≤ gs := (hrs.lt gs rfl).1
    clear mk1 mk2 x20 x21 x22
    have HBW2 := Lib.hid hbw2
    go_wp2_with fail
    go_loopw [5] (fun i wr => ∃ k : Nat, k ≤ h.2.2.length ∧ i = .int .i64 k ∧ (∀ j, j < k → okFull h (h.2.2.getD j noTxn) = true) ∧ wr.ownsRow (w.heap.size + 1) 4 1 (.slice (some ⟨gk, 0, none⟩) h.2.1.length h.2.1.length) h.2.1.length (vbools (marks (List.replicate h.2.1.length false) (keysT h.2.2 k))) ∧ wr.ownsRow (w.heap.size + 1) 4 1 (.slice (some ⟨gs, 0, none⟩) h.1.length h.1.length) h.1.length (vbools (marks (List.replicate h.1.length false) (sessK h.2.2 k))) ∧ Below (w.heap.size + 1) w2 wr) (fun i _ => h.2.2.length - (RowKit.intOf i).toNat)
    case atStart => exact ⟨0, Nat.zero_le _, rfl, fun j hj => absurd hj (Nat.not_lt_zero j), hrk, hrs, hbc⟩
    case round =>
     obtain ⟨k, hk, rfl, hn, hrk, hrs, hbc⟩ := hrel
     have HN := Lib.hid hn
     have dr := D2.out.below hbc (by omega)
     have x0 := dr.cell 0 rfl
     have x1 := dr.cell 1 rfl
     have x2 := dr.cell 2 rfl
     have hbwx : Below w.heap.size w wr := HBW2.out.trans (hbc.mono (by omega))
     have hwr : w.heap.size < wr.heap.size := dr.lt
     clear dr hn
     by_cases hk1 : k < h.2.2.length
     ·obtain ⟨g, sv, rfl, a1, a2, a3, hops⟩ := HX.out k hk1
      have a1' := cell_later hbwx a1
      have a2' := cell_later hbwx a2
      have a3' := cell_later hbwx a3
      have hops' := hops.below hbwx
      have hgl : g < w.heap.size := World.block_lt_of_cell? w ⟨g, k * 3, none⟩ a1
      have hmem : h.2.2.getD k noTxn ∈ h.2.2 := by
       have : h.2.2.getD k noTxn = h.2.2[k] := by simp [hk1]
       rw [this]
       exact List.getElem_mem hk1
      have hm6 := HM6.out _ hmem
      have hkn := keysT_next h.2.2 k hk1
      have hsn := sessK_next h.2.2 k hk1
      have HNo : RowKit.Hid (okFull h (h.2.2.getD k noTxn) = false → errH h = 4) := Lib.hid (fun hf => HT2.out false (by
       rw [show h.2.2.all (okFull h) = false by
        rw [List.all_eq_false]
        exact ⟨_, hmem, by rw [hf]; exact Bool.false_ne_true⟩]
       rfl))
      have HYes : RowKit.Hid (okFull h (h.2.2.getD k noTxn) = true → ∀ j, j < k + 1 → okFull h (h.2.2.getD j noTxn) = true) := Lib.hid (fun e j hj => by
       by_cases hjk : j < k
       ·exact HN.out j hjk
       ·obtain rfl : j = k := by omega
        exact e)
      have HIn : RowKit.Hid (okFull h (h.2.2.getD k noTxn) = true → 0 ≤ (h.2.2.getD k noTxn).1 ∧ (h.2.2.getD k noTxn).1 < h.1.length) := Lib.hid (fun e => by
       simp only [okFull, okTxn, inside, Bool.and_eq_true, decide_eq_true_eq] at e
       exact e.1.1)
      obtain ⟨t, ht⟩ : ∃ t, h.2.2.getD k noTxn = t := ⟨_, rfl⟩
      rw [ht] at a1' a2' hops' hm6 hkn hsn HNo HYes HIn
      have hle : (marks (List.replicate h.2.1.length false) (keysT h.2.2 k)).length = h.2.1.length := by rw [marks_len, List.length_replicate]
      have hops2 := hops'.below (w' := wr.drew) (Below.drew (Below.refl _ _))
      have HOps := Lib.hid (rops_k (.slice p0 h.1.length c0) (.slice p1 h.2.1.length c1) (.slice (some ⟨g, 0, none⟩) h.2.2.length c2) sv h.1 h.2.1 t gk h.2.1.length _ (w.heap.size + 1) wr.drew ((T0.out.below hbwx).below (Below.drew (Below.refl _ _))) ((T1.out.below hbwx).below (Below.drew (Below.refl _ _))) ⟨_, _, _, rfl⟩ hops2 hm6 (by omega) hle hrk.drew (fun j hj p n c e => by
       obtain ⟨q, cq, e2, -, hq⟩ := hops'
       obtain ⟨g3, e3, hc3, -⟩ := hq j hj
       rw [e2, e3] at e
       injection e with e
       injection e with e
       subst e
       have hz : g3 < w.heap.size := by
        obtain ⟨q5, cq5, e5, -, hq5⟩ := hops
        rw [ht] at hq5
        obtain ⟨g6, e6, hc6, -⟩ := hq5 j hj
        rw [e2, e3, e6] at e5
        injection e5 with e5
        injection e5 with e5
        injection e5 with e5
        rw [e5]
        exact World.block_lt_of_cell? w ⟨g6, _, none⟩ hc6
       show g3 ≠ gk
       omega))
      obtain ⟨p3, c3, rfl, -⟩ := hops'
      obtain ⟨t1, t2, t3⟩ := t
      simp only at a1' a2' a3' HOps HNo HYes HIn hkn hsn hm6
      have HKN := Lib.hid hkn
      have HSN := Lib.hid hsn
      have hne0 : w.heap.size ≠ gk := by omega
      have hne1 : g ≠ gk := by omega
      have HS : RowKit.Hid (∀ w', wr.grownBy w' (some gk) → (w'.cell? ⟨w.heap.size, 0, none⟩ = some (.slice p0 h.1.length c0) ∧ w'.cell? ⟨w.heap.size, 1, none⟩ = some (.slice p1 h.2.1.length c1) ∧ w'.cell? ⟨w.heap.size, 2, none⟩ = some (.slice (some ⟨g, 0, none⟩) h.2.2.length c2) ∧ w'.cell? ⟨g, k * 3, none⟩ = some (.int .i64 t1) ∧ w'.cell? ⟨g, k * 3 + 1, none⟩ = some (.int .i64 t2) ∧ w'.cell? ⟨g, k * 3 + 2, none⟩ = some (.slice p3 t3.length c3))) := Lib.hid (fun w' hg => ⟨cell_grown x0 hg hne0, cell_grown x1 hg hne0, cell_grown x2 hg hne0, cell_grown a1' hg hne1, cell_grown a2' hg hne1, cell_grown a3' hg hne1⟩)
      clear hops hops2 hmem hle a1 a2 a3 ht hkn hsn
      obtain ⟨b, hb⟩ : ∃ b, okFull h (t1, t2, t3) = b := ⟨_, rfl⟩
      rw [show (okTxn h.1.length (t1, t2, t3) && t3.all (okOp h.2.1.length)) = okFull h (t1, t2, t3) from rfl, hb] at HOps
      rw [hb] at HNo HYes HIn
      clear hb
      cases b with
      | false =>
       have HE := Lib.hid (HNo.out (by trivial))
       go_wp2_with fail
       go_region_held3 (fun w' => w'.cell? ⟨w.heap.size, 0, none⟩ = some (.slice p0 h.1.length c0) ∧ w'.cell? ⟨w.heap.size, 1, none⟩ = some (.slice p1 h.2.1.length c1) ∧ w'.cell? ⟨w.heap.size, 2, none⟩ = some (.slice (some ⟨g, 0, none⟩) h.2.2.length c2) ∧ w'.cell? ⟨g, k * 3, none⟩ = some (.int .i64 t1) ∧ w'.cell? ⟨g, k * 3 + 1, none⟩ = some (.int .i64 t2) ∧ w'.cell? ⟨g, k * 3 + 2, none⟩ = some (.slice p3 t3.length c3))
        ((go_split_ands; exact HS.out _ (by first | exact grown_drew _ _ | exact grown_trans (grown_drew _ _) (by assumption))))
        ((go_at_call 81; refine HOps.out.mono ?_; rintro e w3 ⟨rfl, hr3⟩; obtain ⟨hg3, U3, hu3, hl3, hm3⟩ := hr3))
       go_split_ands
       have hbf : Below w.heap.size w w3 := (hbwx.drew).grown hg3 (by show w.heap.size ≤ wr.heap.size; omega) (fun j e => by have := Option.some.inj e; omega)
       clear hg3 hu3 hl3 hm3
       go_wp2_with fail
       go_ret
       rw [HE.out]
       exact ⟨rfl, hbf⟩
      | true =>
       obtain ⟨hs0, hs1⟩ := HIn.out (by trivial)
       obtain ⟨ns, rfl⟩ := Int.eq_ofNat_of_zero_le hs0
       have HY := Lib.hid (HYes.out (by trivial))
       go_wp2_with fail
       go_region_held3 (fun w' => w'.cell? ⟨w.heap.size, 0, none⟩ = some (.slice p0 h.1.length c0) ∧ w'.cell? ⟨w.heap.size, 1, none⟩ = some (.slice p1 h.2.1.length c1) ∧ w'.cell? ⟨w.heap.size, 2, none⟩ = some (.slice (some ⟨g, 0, none⟩) h.2.2.length c2) ∧ w'.cell? ⟨g, k * 3, none⟩ = some (.int .i64 (ns : Int)) ∧ w'.cell? ⟨g, k * 3 + 1, none⟩ = some (.int .i64 t2) ∧ w'.cell? ⟨g, k * 3 + 2, none⟩ = some (.slice p3 t3.length c3))
        ((go_split_ands; exact HS.out _ (by first | exact grown_drew _ _ | exact grown_trans (grown_drew _ _) (by assumption))))
        ((go_at_call 81; refine HOps.out.mono ?_; rintro e w3 ⟨rfl, hr3⟩; obtain ⟨hg3, U3, hu3, hl3, hm3⟩ := hr3))
       go_split_ands
       have hm3' := hm3 (by trivial)
       rw [← marks_app, ← HKN.out] at hm3'
       subst hm3'
       have hrs3 := hrs.drew.kept hg3 (.inr (by simp [Value.ownBlock]; omega))
       have hml : (marks (List.replicate h.1.length false) (sessK h.2.2 k)).length = h.1.length := by rw [marks_len, List.length_replicate]
       have r1 : w3.cell? ⟨gs, ns, none⟩ = some (.bool ((marks (List.replicate h.1.length false) (sessK h.2.2 k)).getD ns false)) := by
        rw [hrs3.cellAt ns (by omega)]
        exact vbools_get _ _ (by omega)
       have r2 := hrs3.frozenAt ns
       generalize (marks (List.replicate h.1.length false) (sessK h.2.2 k)).getD ns false = old at r1
       have hst := hrs3.stored ns (.bool true)
       rw [vbools_set, show (marks (List.replicate h.1.length false) (sessK h.2.2 k)).set ns true = marks (List.replicate h.1.length false) (sessK h.2.2 (k + 1)) by rw [HSN.out, marks_snoc]; rfl] at hst
       have HST := Lib.hid hst.1
       have HKK := Lib.hid (hu3.kept (grown_set w3 gs ns (.bool true)) (.inr (by simp [Value.ownBlock]; omega)))
       have HBC := Lib.hid (((hbc.drew).grown hg3 (by show w.heap.size + 1 ≤ wr.heap.size; omega) (fun j e => by have := Option.some.inj e; omega)).setCell (p := ⟨gs, ns, none⟩) (by show w.heap.size + 1 ≤ gs; omega) (.bool true))
       clear hg3 hu3 hl3 hm3 hrs3 hst hrk hrs hbc hbwx
       go_wp2_with fail
       go_roundw
       case rel => exact ⟨k + 1, by omega, by go_num, HY.out, HKK.out, HST.out, HBC.out⟩
       case measure => simp [RowKit.intOf]; omega
     ·have hke : k = h.2.2.length := by omega
      have hallF : h.2.2.all (okFull h) = true := by
       rw [List.all_eq_true]
       intro x hx
       obtain ⟨j, hj, e⟩ := List.getElem_of_mem hx
       have := HN.out j (by omega)
       simpa [hj, e] using this
      have hkeys : keysT h.2.2 k = (allOps h).map (·.2.1) := by rw [hke, keysT, List.take_length]; rfl
      have hsess : sessK h.2.2 k = h.2.2.map (·.1) := by rw [hke, sessK, List.take_length]
      rw [hkeys] at hrk
      rw [hsess] at hrs
      have eK := marks_all h.2.1.length ((allOps h).map (·.2.1)) (fun x hx => by
       obtain ⟨o, ho, rfl⟩ := List.mem_map.1 hx
       obtain ⟨t, ht, hot⟩ := List.mem_flatMap.1 ho
       have := List.all_eq_true.1 hallF t ht
       simp only [okFull, Bool.and_eq_true] at this
       have := List.all_eq_true.1 this.2 o hot
       simp only [okOp, inside, Bool.and_eq_true, decide_eq_true_eq] at this
       exact this.1)
      have eS := marks_all h.1.length (h.2.2.map (·.1)) (fun x hx => by
       obtain ⟨t, ht, rfl⟩ := List.mem_map.1 hx
       have := List.all_eq_true.1 hallF t ht
       simp only [okFull, okTxn, inside, Bool.and_eq_true, decide_eq_true_eq] at this
       exact this.1.1)
      have hlK : (marks (List.replicate h.2.1.length false) ((allOps h).map (·.2.1))).length = h.2.1.length := by rw [marks_len, List.length_replicate]
      have hlS : (marks (List.replicate h.1.length false) (h.2.2.map (·.1))).length = h.1.length := by rw [marks_len, List.length_replicate]
      have hfin : ∀ b, (allK (marks (List.replicate h.2.1.length false) ((allOps h).map (·.2.1))) h.2.1.length && allK (marks (List.replicate h.1.length false) (h.2.2.map (·.1))) h.1.length) = b → errH h = if b then 0 else 4 := fun b hb => HT2.out b (by
       rw [hallF, Bool.true_and, ← hb]
       have e1 := allK_all (marks (List.replicate h.2.1.length false) ((allOps h).map (·.2.1)))
       have e2 := allK_all (marks (List.replicate h.1.length false) (h.2.2.map (·.1)))
       rw [hlK] at e1
       rw [hlS] at e2
       rw [e1, e2, eK, eS]
       unfold usedH
       exact Bool.and_comm _ _)
      generalize marks (List.replicate h.2.1.length false) ((allOps h).map (·.2.1)) = UK at *
      generalize marks (List.replicate h.1.length false) (h.2.2.map (·.1)) = US at *
      have HFin := Lib.hid hfin
      have RK := Lib.hid hrk
      have RS := Lib.hid hrs
      have LK := Lib.hid hlK
      have LS := Lib.hid hlS
      clear eK eS hfin hrk hrs hlK hlS hallF hkeys hsess
      go_wp2_with fail
      go_loop [6, 7] (fun al i => ∃ q : Nat, q ≤ h.2.1.length ∧ i = .int .i64 q ∧ al = .bool (allK UK q)) (fun _ i => h.2.1.length - (RowKit.intOf i).toNat)
      case atStart => exact ⟨0, Nat.zero_le _, rfl, by simp [allK]⟩
      case round =>
       obtain ⟨q, hq, rfl, rfl⟩ := hrel
       by_cases hq1 : q < h.2.1.length
       ·have r1 : wr.cell? ⟨gk, q, none⟩ = some (.bool (UK.getD q false)) := by
         rw [RK.out.cellAt q (by omega)]
         exact vbools_get _ _ (by rw [LK.out]; exact hq1)
        have hnx := allK_next UK q (by rw [LK.out]; exact hq1)
        generalize UK.getD q false = b2 at r1 hnx
        generalize allK UK q = b1 at hnx ⊢
        have HNX := Lib.hid hnx
        clear hnx
        cases b1 <;> cases b2
        all_goals
         go_wp2_with fail
         go_round
         case rel => exact ⟨q + 1, by omega, by go_num, by rw [HNX.out]; rfl⟩
         case measure => simp [RowKit.intOf]; omega
       ·have hqe : q = h.2.1.length := by omega
        rw [hqe]
        have HF1 : RowKit.Hid (∀ b, (allK UK h.2.1.length && allK US h.1.length) = b → errH h = if b then 0 else 4) := HFin
        generalize allK UK h.2.1.length = B1 at HF1 ⊢
        clear hqe
        obtain rfl : q = h.2.1.length := by omega
        go_wp2_with fail
        go_loop [6, 8] (fun al i => ∃ q : Nat, q ≤ h.1.length ∧ i = .int .i64 q ∧ al = .bool (B1 && allK US q)) (fun _ i => h.1.length - (RowKit.intOf i).toNat)
        case atStart => exact ⟨0, Nat.zero_le _, rfl, by simp [allK]⟩
        case round =>
         obtain ⟨q, hq, rfl, rfl⟩ := hrel
         by_cases hq1 : q < h.1.length
         ·have r1 : wr.cell? ⟨gs, q, none⟩ = some (.bool (US.getD q false)) := by
           rw [RS.out.cellAt q (by omega)]
           exact vbools_get _ _ (by rw [LS.out]; exact hq1)
          have hnx := allK_next US q (by rw [LS.out]; exact hq1)
          generalize US.getD q false = b2 at r1 hnx
          have hnx2 : (B1 && allK US (q + 1)) = ((B1 && allK US q) && b2) := by rw [hnx, Bool.and_assoc]
          generalize (B1 && allK US q) = b1 at hnx2 ⊢
          have HNX := Lib.hid hnx2
          clear hnx hnx2
          cases b1 <;> cases b2
          all_goals
           go_wp2_with fail
           go_round
           case rel => exact ⟨q + 1, by omega, by go_num, by rw [HNX.out]; rfl⟩
           case measure => simp [RowKit.intOf]; omega
         ·have hqe : q = h.1.length := by omega
          rw [hqe]
          have HF2 := Lib.hid (HF1.out _ rfl)
          generalize (B1 && allK US h.1.length) = B2 at HF2 ⊢
          clear hqe
          obtain rfl : q = h.1.length := by omega
          cases B2 with
          | false =>
           go_wp2_with fail
           go_ret
           rw [HF2.out]
           exact ⟨rfl, hbwx⟩
          | true =>
           go_wp2_with fail
           go_ret
           rw [HF2.out]
           exact ⟨rfl, hbwx⟩
end
end Go.Proofs.YtmgchjddpmmglaaGreatDoor
