/-
  The walk of layer 11's reference (hist): whether a transaction's operations may be; which keys they have. No conditions.
-/
import Derived.Test.YthalbcmlehpfaaaDoorHistA
import Derived.Test.YthalbcmlehpfaaaDoorHistQ
import Derived.Test.YthalbcmlehpfaaaDoorBlk
namespace Go.Proofs.YthalbcmlehpfaaaDoor
open Go.RowKit Go.Lib

def vbools (U : List Bool) : List Value := U.map fun b => .bool b
theorem vbools_set (U : List Bool) (j : Nat) (b : Bool) : (vbools U).set j (.bool b) = vbools (U.set j b) := by simp [vbools, List.map_set]
theorem vbools_len (U : List Bool) : (vbools U).length = U.length := by simp [vbools]
theorem vbools_get (U : List Bool) (j : Nat) (h : j < U.length) : (vbools U)[j]? = some (.bool (U.getD j false)) := by simp [vbools, h]
theorem below_grown {w w' : World} (h : Below w.heap.size w w') (row : Option Nat) : w.grownBy w' row := ⟨h.os, h.tape, h.output, h.size, fun k hk _ => h.block k hk⟩
theorem grown_trans {a b c : World} {row : Option Nat} (h : a.grownBy b row) (k : b.grownBy c row) : a.grownBy c row :=
  ⟨k.os.trans h.os, k.tape.trans h.tape, k.output.trans h.output, Nat.le_trans h.size k.size, fun i hi hne => (k.block i (Nat.lt_of_lt_of_le hi h.size) hne).trans (h.block i hi hne)⟩
theorem grown_set (w : World) (b j : Nat) (v : Value) : w.grownBy (w.setCell ⟨b, j, none⟩ v) (some b) :=
  ⟨rfl, rfl, rfl, by simp [World.setCell], fun k _ hk => Below.heap_setCell w _ v k (fun e => hk (by rw [e]))⟩
theorem cell_grown {w w' : World} {row : Nat} {a : Addr} {v : Value} (h : w.cell? a = some v) (hg : w.grownBy w' (some row)) (hne : a.block ≠ row) : w'.cell? a = some v := hg.cell h (fun e => hne (Option.some.inj e))
/-- What the reference leaves of the marks, whether the operations may be (b) or not. -/
def RPost (w : World) (base gu cu : Nat) (U M : List Bool) (b : Bool) (w' : World) : Prop :=
  w.grownBy w' (some gu) ∧ ∃ U' : List Bool, w'.ownsRow base 4 1 (.slice (some ⟨gu, 0, none⟩) U.length cu) U.length (vbools U') ∧ U'.length = U.length ∧ (b = true → U' = M)
theorem rpost {w : World} {base gu cu : Nat} {U M : List Bool} {b : Bool} {w' : World} (h1 : w.grownBy w' (some gu)) (U' : List Bool) (h2 : w'.ownsRow base 4 1 (.slice (some ⟨gu, 0, none⟩) U.length cu) U.length (vbools U')) (h3 : U'.length = U.length) (h4 : b = true → U' = M) : RPost w base gu cu U M b w' := ⟨h1, U', h2, h3, h4⟩

set_option maxRecDepth 100000 in
set_option maxHeartbeats 4000000 in
theorem rops_any (v0 v1 v2 sv : Value) (S K : List (List UInt8)) (t : TxnM) (gu cu : Nat) (U : List Bool) (base : Nat) (w : World) (h0 : Texts w v0 S) (h1 : Texts w v1 K) (h2 : ∃ p c n, v2 = .slice p n c) (hs : OpsS w sv t.2.2) (hl : t.2.2.length ≤ 1000)
    (_ : K.length ≤ 1000000) (hU : U.length = K.length) (hu : w.ownsRow base 4 1 (.slice (some ⟨gu, 0, none⟩) U.length cu) U.length (vbools U)) (hne : ∀ j, j < t.2.2.length → ∀ p n c, sv = .slice (some p) n c → p.block ≠ gu) :
    Calls Tryd.prog 40 #[.agg #[v0, v1, v2], .agg #[.int .i64 t.1, .int .i64 t.2.1, sv], .slice (some ⟨gu, 0, none⟩) U.length cu] w fun e w' => e = .returned (.bool (okTxn S.length t && t.2.2.all (okOp K.length))) ∧ RPost w base gu cu U (marks U (t.2.2.map (·.2.1))) (okTxn S.length t && t.2.2.all (okOp K.length)) w' := by
  obtain ⟨p0, c0, rfl, -⟩ := h0
  obtain ⟨p1, c1, rfl, -⟩ := h1
  obtain ⟨p2, c2, n2, rfl⟩ := h2
  obtain ⟨ps, cs, rfl, ho⟩ := hs
  obtain ⟨s, f, tl⟩ := t
  simp only at ho hl hne
  have HO := Lib.hid ho
  have HNE := Lib.hid hne
  have hU1 : U.length ≤ K.length := by omega
  have hU2 : K.length ≤ U.length := by omega
  clear hU
  have gw : gu < w.heap.size := (hu.lt gu rfl).2
  have hbx : w.grownBy ((w.alloc (.cells #[.slice p0 S.length c0, .slice p1 K.length c1, .slice p2 n2 c2] 25)).alloc (.cells #[.int .i64 s, .int .i64 f, .slice ps tl.length cs] 56)) (some gu) := grown_trans (World.grownBy_alloc _ _ _) (World.grownBy_alloc _ _ _)
  have hux := (hu.alloc (.cells #[.slice p0 S.length c0, .slice p1 K.length c1, .slice p2 n2 c2] 25)).alloc (.cells #[.int .i64 s, .int .i64 f, .slice ps tl.length cs] 56)
  have b0 := (Blk.new w 25 [.slice p0 S.length c0, .slice p1 K.length c1, .slice p2 n2 c2]).alloc (.cells #[.int .i64 s, .int .i64 f, .slice ps tl.length cs] 56)
  have b1 := Blk.new (w.alloc (.cells #[.slice p0 S.length c0, .slice p1 K.length c1, .slice p2 n2 c2] 25)) 56 [.int .i64 s, .int .i64 f, .slice ps tl.length cs]
  simp only [World.size_alloc] at b1
  have HBX := Lib.hid hbx
  have HUX := Lib.hid hux
  have B0 := Lib.hid b0
  have B1 := Lib.hid b1
  clear ho hne hbx hux b0 b1 hu
  -- the five tests ahead of the loop
  by_cases g1 : s < 0
  · have hok : okTxn S.length (s, f, tl) = false := by
      rw [Bool.eq_false_iff]
      simp only [okTxn, inside, ne_eq, Bool.and_eq_true, decide_eq_true_eq]
      omega
    rw [hok, Bool.false_and]
    clear hok
    go_enter Tryd.func40, Tryd.ntmps40
    go_wp2_with fail
    go_ret
    exact ⟨rfl, rpost HBX.out U HUX.out rfl (fun h => by cases h)⟩
  by_cases g2 : (S.length : Int) ≤ s
  · have hok : okTxn S.length (s, f, tl) = false := by
      rw [Bool.eq_false_iff]
      simp only [okTxn, inside, ne_eq, Bool.and_eq_true, decide_eq_true_eq]
      omega
    rw [hok, Bool.false_and]
    clear hok
    go_enter Tryd.func40, Tryd.ntmps40
    go_wp2_with fail
    go_ret
    exact ⟨rfl, rpost HBX.out U HUX.out rfl (fun h => by cases h)⟩
  by_cases g3 : f < 1
  · have hok : okTxn S.length (s, f, tl) = false := by
      rw [Bool.eq_false_iff]
      simp only [okTxn, inside, ne_eq, Bool.and_eq_true, decide_eq_true_eq]
      omega
    rw [hok, Bool.false_and]
    clear hok
    go_enter Tryd.func40, Tryd.ntmps40
    go_wp2_with fail
    go_ret
    exact ⟨rfl, rpost HBX.out U HUX.out rfl (fun h => by cases h)⟩
  by_cases g4 : 3 < f
  · have hok : okTxn S.length (s, f, tl) = false := by
      rw [Bool.eq_false_iff]
      simp only [okTxn, inside, ne_eq, Bool.and_eq_true, decide_eq_true_eq]
      omega
    rw [hok, Bool.false_and]
    clear hok
    go_enter Tryd.func40, Tryd.ntmps40
    go_wp2_with fail
    go_ret
    exact ⟨rfl, rpost HBX.out U HUX.out rfl (fun h => by cases h)⟩
  by_cases g5 : 20 < tl.length
  · have hok : okTxn S.length (s, f, tl) = false := by
      rw [Bool.eq_false_iff]
      simp only [okTxn, inside, ne_eq, Bool.and_eq_true, decide_eq_true_eq]
      omega
    rw [hok, Bool.false_and]
    clear hok
    go_enter Tryd.func40, Tryd.ntmps40
    go_wp2_with fail
    go_ret
    exact ⟨rfl, rpost HBX.out U HUX.out rfl (fun h => by cases h)⟩
  have hok : okTxn S.length (s, f, tl) = true := by
    simp only [okTxn, inside, Bool.and_eq_true, decide_eq_true_eq]
    omega
  rw [hok, Bool.true_and]
  clear hok
  go_enter Tryd.func40, Tryd.ntmps40
  go_wp2_with fail
  go_loopw [7] (fun i wr => ∃ k : Nat, k ≤ tl.length ∧ i = .int .i64 k ∧ (∀ j, j < k → okOp K.length (tl.getD j noOp) = true) ∧ wr.ownsRow base 4 1 (.slice (some ⟨gu, 0, none⟩) U.length cu) U.length (vbools (marks U (keysO tl k))) ∧ ((w.alloc (.cells #[.slice p0 S.length c0, .slice p1 K.length c1, .slice p2 n2 c2] 25)).alloc (.cells #[.int .i64 s, .int .i64 f, .slice ps tl.length cs] 56)).grownBy wr (some gu)) (fun i _ => tl.length - (RowKit.intOf i).toNat)
  case atStart => exact ⟨0, Nat.zero_le _, rfl, fun j hj => absurd hj (Nat.not_lt_zero j), HUX.out, World.grownBy.refl _ _⟩
  case round =>
    obtain ⟨k, hk, rfl, hn, hown, hg⟩ := hrel
    have y0 := B0.out.kept hg (fun e => by have := Option.some.inj e; omega)
    have y1 := B1.out.kept hg (fun e => by have := Option.some.inj e; omega)
    have x1 := y0.cell 1 rfl
    have x2 := y1.cell 2 rfl
    have hz0 : w.heap.size < wr.heap.size := y0.lt
    have hz1 : w.heap.size + 1 < wr.heap.size := y1.lt
    have HN := Lib.hid hn
    have hgw := grown_trans HBX.out hg
    clear y0 y1 hn
    by_cases hk1 : k < tl.length
    · obtain ⟨g, rfl, o0, o1, o2, o3⟩ := HO.out k hk1
      have hgn : g ≠ gu := HNE.out k hk1 _ _ _ rfl
      have a0 := cell_grown o0 hgw hgn
      have a1 := cell_grown o1 hgw hgn
      have a2 := cell_grown o2 hgw hgn
      have a3 := cell_grown o3 hgw hgn
      have hkn := keysO_next tl k hk1
      have HNo : RowKit.Hid (okOp K.length (tl.getD k noOp) = false → tl.all (okOp K.length) = false) := Lib.hid (fun hf => by
        rw [List.all_eq_false]
        refine ⟨tl.getD k noOp, ?_, by rw [hf]; exact Bool.false_ne_true⟩
        have : tl.getD k noOp = tl[k] := by simp [hk1]
        rw [this]
        exact List.getElem_mem hk1)
      have HYes : RowKit.Hid (okOp K.length (tl.getD k noOp) = true → ∀ j, j < k + 1 → okOp K.length (tl.getD j noOp) = true) := Lib.hid (fun h j hj => by
        by_cases hjk : j < k
        · exact HN.out j hjk
        · obtain rfl : j = k := by omega
          exact h)
      obtain ⟨o, hoo⟩ : ∃ o, tl.getD k noOp = o := ⟨_, rfl⟩
      rw [hoo] at a0 a1 a2 a3 hkn HNo HYes
      obtain ⟨ow, ok, od, on⟩ := o
      simp only at a0 a1 a2 a3 hkn
      have HKN := Lib.hid hkn
      clear o0 o1 o2 o3 hoo hkn HO
      by_cases q1 : ok < 0
      · have hf : okOp K.length (ow, ok, od, on) = false := by
          rw [Bool.eq_false_iff]
          simp only [okOp, inside, ne_eq, Bool.and_eq_true, decide_eq_true_eq]
          omega
        have HF := Lib.hid (HNo.out hf)
        clear hf
        go_wp2_with fail
        go_ret
        rw [HF.out]
        exact ⟨rfl, rpost (grown_trans hgw (World.grownBy_alloc _ _ _)) _ (hown.alloc _) (marks_len _ _) (fun h => by cases h)⟩
      by_cases q2 : (K.length : Int) ≤ ok
      · have hf : okOp K.length (ow, ok, od, on) = false := by
          rw [Bool.eq_false_iff]
          simp only [okOp, inside, ne_eq, Bool.and_eq_true, decide_eq_true_eq]
          omega
        have HF := Lib.hid (HNo.out hf)
        clear hf
        go_wp2_with fail
        go_ret
        rw [HF.out]
        exact ⟨rfl, rpost (grown_trans hgw (World.grownBy_alloc _ _ _)) _ (hown.alloc _) (marks_len _ _) (fun h => by cases h)⟩
      have hin : inside ok K.length = true := by
        simp only [inside, Bool.and_eq_true, decide_eq_true_eq]
        omega
      have HOK : RowKit.Hid (okOp K.length (ow, ok, od, on) = (mayV od on && (!ow || od == 1))) := Lib.hid (by simp only [okOp]; rw [hin, Bool.true_and])
      obtain ⟨nk, rfl⟩ := Int.eq_ofNat_of_zero_le (show (0 : Int) ≤ ok by omega)
      have hnk : nk < U.length := by omega
      have hml : (marks U (keysO tl k)).length = U.length := marks_len _ _
      have ox := Blk.new wr 62 [.bool ow, .int .i64 (nk : Int), .int .i64 od, .int .i64 on]
      have HX := Lib.hid ox
      have HMay := Lib.hid (rvmay_any od on (wr.alloc (.cells #[.bool ow, .int .i64 (nk : Int), .int .i64 od, .int .i64 on] 62)))
      have HG := Lib.hid hgw
      have HG1 := Lib.hid hg
      clear hin ox hgw hg
      cases hv : mayV od on with
      | false =>
        rw [hv] at HMay HOK
        have HF := Lib.hid (HNo.out (by rw [HOK.out]; rfl))
        clear hv
        go_wp2_with fail
        refine HMay.out.mono ?_
        rintro e w3 ⟨rfl, hb3⟩
        have hown3 := owns_later (hown.alloc _) hb3
        have HG3 := Lib.hid (grown_trans (grown_trans HG.out (World.grownBy_alloc _ _ _)) (below_grown hb3 _))
        clear hb3 hown
        go_wp2_with fail
        go_ret
        rw [HF.out]
        exact ⟨rfl, rpost HG3.out _ hown3 (marks_len _ _) (fun h => by cases h)⟩
      | true =>
        rw [hv, Bool.true_and] at HOK
        rw [hv] at HMay
        clear hv
        by_cases q3 : ow = true ∧ od ≠ 1
        · obtain ⟨rfl, q4⟩ := q3
          have q5 : (od == 1) = false := beq_eq_false_iff_ne.2 q4
          have q6 : (od != 1) = true := bne_iff_ne.2 q4
          have HF := Lib.hid (HNo.out (by rw [HOK.out, q5]; rfl))
          clear q4
          go_wp2_with fail
          refine HMay.out.mono ?_
          rintro e w3 ⟨rfl, hb3⟩
          have hown3 := owns_later (hown.alloc _) hb3
          have xx := HX.out.later hb3
          have z0 := xx.cell 0 rfl
          have z1 := xx.cell 1 rfl
          have z2 := xx.cell 2 rfl
          have HG3 := Lib.hid (grown_trans (grown_trans HG.out (World.grownBy_alloc _ _ _)) (below_grown hb3 _))
          clear hb3 hown xx
          go_wp2_with fail
          go_ret
          rw [HF.out]
          exact ⟨rfl, rpost HG3.out _ hown3 (marks_len _ _) (fun h => by cases h)⟩
        · have hyes : okOp K.length (ow, (nk : Int), od, on) = true := by
            rw [HOK.out]
            cases ow with
            | false => rfl
            | true =>
              by_cases e : od = 1
              · rw [e]; rfl
              · exact absurd ⟨rfl, e⟩ q3
          have HY := Lib.hid (HYes.out hyes)
          have q7 : ow = false ∨ (ow = true ∧ od = 1) := by
            cases ow with
            | false => exact .inl rfl
            | true =>
              by_cases e : od = 1
              · exact .inr ⟨rfl, e⟩
              · exact absurd ⟨rfl, e⟩ q3
          clear q3 hyes
          rcases q7 with rfl | ⟨rfl, rfl⟩
          all_goals
            go_wp2_with fail
            refine HMay.out.mono ?_
            rintro e w3 ⟨rfl, hb3⟩
            have hown3 := owns_later (hown.alloc _) hb3
            have xx := HX.out.later hb3
            have z0 := xx.cell 0 rfl
            have z1 := xx.cell 1 rfl
            have z2 := xx.cell 2 rfl
            have r1 : w3.cell? ⟨gu, nk, none⟩ = some (.bool ((marks U (keysO tl k)).getD nk false)) := by
              rw [hown3.cellAt nk (by omega)]
              exact vbools_get _ _ (by omega)
            have r2 := hown3.frozenAt nk
            generalize (marks U (keysO tl k)).getD nk false = old at r1
            have hst := hown3.stored nk (.bool true)
            rw [vbools_set, show (marks U (keysO tl k)).set nk true = marks U (keysO tl (k + 1)) by rw [HKN.out, marks_snoc]; rfl] at hst
            have HST := Lib.hid hst.1
            have HG3 := Lib.hid (grown_trans (grown_trans (grown_trans HG1.out (World.grownBy_alloc _ _ _)) (below_grown hb3 _)) (grown_set w3 gu nk (.bool true)))
            have hu1 : (nk : Int) < (U.length : Int) := by omega
            clear hb3 hown xx hown3 hst
            go_wp2_with fail
            go_roundw
            case rel => exact ⟨k + 1, by omega, by go_num, HY.out, HST.out, HG3.out⟩
            case measure => simp [RowKit.intOf]; omega
    · have hke : k = tl.length := by omega
      have hall : tl.all (okOp K.length) = true := by
        rw [List.all_eq_true]
        intro x hx
        obtain ⟨j, hj, e⟩ := List.getElem_of_mem hx
        have := HN.out j (by omega)
        simpa [hj, e] using this
      have hmk : marks U (keysO tl k) = marks U (tl.map (·.2.1)) := by rw [hke, keysO, List.take_length]
      have HA := Lib.hid hall
      have HMK := Lib.hid hmk
      clear hall hmk
      go_wp2_with fail
      go_ret
      rw [HA.out]
      exact ⟨rfl, rpost hgw _ hown (marks_len _ _) (fun _ => HMK.out)⟩
end Go.Proofs.YthalbcmlehpfaaaDoor
