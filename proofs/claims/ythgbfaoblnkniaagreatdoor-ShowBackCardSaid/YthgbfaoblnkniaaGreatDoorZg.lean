/-
  The walk of layer 11's reference (hist): whether a history may be. No conditions.
  The walks of layer 11 (hist): whether a transaction is ahead of another one of its session, in the program and in the reference. No conditions but that unicode/utf8's two tables are as their initialisers lay them.
  A history as an argument: what its reading says of its cells; rows of a call's own as histories' parts. No conditions.
  The walk of layer 11 (hist), the program: the reads that were lost. No conditions but that unicode/utf8's two tables are as their initialisers lay them.
  The walks of layer 11's reference (hist): which transactions are so, the reads that were lost, whether two lists of places are the same. No conditions.
  The walks of layer 11's statements (hist): the sample; the chapter's example. No conditions but that unicode/utf8's two tables are as their initialisers lay them.
  A region that draws its order, whose last operation waits for all others: one condition on the world serves till that last one. No conditions.
-/
import Derived.Test.YthgbfaoblnkniaaGreatDoorZf
import Derived.Deep.RegionHeld3
import Derived.Outline
import Derived.Deep.DeepCutAuto
import Derived.Deep.CutBlock
import Derived.Test.YthgbfaoblnkniaaGreatDoorZa
import Derived.Test.YthgbfaoblnkniaaGreatDoorZe
import Derived.Test.YthgbfaoblnkniaaGreatDoorZb
import Derived.OrdersHeld
namespace Go.Proofs.YthgbfaoblnkniaaGreatDoor
open Go.RowKit Go.Lib
theorem info_bool : (Tryz.prog.info? 4).map (fun i => (i.zero, i.size, i.bytes)) = some (some (.bool false), 1, 1) := by kernel_rfl
theorem made_bools (n : Nat) : (madeCells (Value.cells (.bool false)) (n * 1)).toList = vbools (List.replicate n false) := by
 rw [Nat.mul_one]
 show (madeCells #[.bool false] n).toList = _
 rw [toList_madeCells_one]
 simp [vbools]
theorem keepJ {n : Nat} {a W : World} (hn : n ≤ a.heap.size) (h : Below n a W) (o : Obj) : Below n a (W.alloc o) := h.alloc (Nat.le_trans hn h.size) o
theorem two_made (w W : World) (n m : Nat) (hw : w.heap.size + 1 ≤ W.heap.size) (hn : n ≤ 1000) (hm : m ≤ 1000) :
  ((W.alloc (.cells (madeCells #[.bool false] n) 4)).alloc (.cells (madeCells #[.bool false] m) 4)).drew.ownsRow (w.heap.size + 1) 4 1 (.slice (some ⟨W.heap.size, 0, none⟩) n n) n (vbools (List.replicate n false)) ∧
  ((W.alloc (.cells (madeCells #[.bool false] n) 4)).alloc (.cells (madeCells #[.bool false] m) 4)).drew.ownsRow (w.heap.size + 1) 4 1 (.slice (some ⟨W.heap.size + 1, 0, none⟩) m m) m (vbools (List.replicate m false)) := by
 have h1 := World.ownsRow_lit (base := w.heap.size + 1) (e := 4) (size := 1) W (madeCells #[.bool false] (n * 1)) n hw (by unfold maxLen; omega) (by rw [size_madeCells])
 have h2 := World.ownsRow_lit (base := w.heap.size + 1) (e := 4) (size := 1) (W.alloc (.cells (madeCells #[.bool false] n) 4)) (madeCells #[.bool false] (m * 1)) m (by simp; omega) (by unfold maxLen; omega) (by rw [size_madeCells])
 have e1 := made_bools n
 have e2 := made_bools m
 simp only [Nat.mul_one] at h1 h2 e1 e2
 rw [show Value.cells (.bool false) = #[.bool false] from rfl] at e1 e2
 rw [e1] at h1
 rw [e2] at h2
 simp only [World.size_alloc] at h2
 exact ⟨(h1.alloc _).drew, h2.drew⟩
theorem rops_k (v0 v1 v2 sv : Value) (S K : List (List UInt8)) (t : TxnM) (gu cu : Nat) (U : List Bool) (base : Nat) (w : World) (h0 : Texts w v0 S) (h1 : Texts w v1 K) (h2 : ∃ p c n, v2 = .slice p n c) (hs : OpsS w sv t.2.2) (hl : t.2.2.length ≤ 1000)
  (hK : K.length ≤ 1000000) (hU : U.length = K.length) (hu : w.ownsRow base 4 1 (.slice (some ⟨gu, 0, none⟩) K.length cu) K.length (vbools U)) (hne : ∀ j, j < t.2.2.length → ∀ p n c, sv = .slice (some p) n c → p.block ≠ gu) :
  Calls Tryz.prog 30 #[.agg #[v0, v1, v2], .agg #[.int .i64 t.1, .int .i64 t.2.1, sv], .slice (some ⟨gu, 0, none⟩) K.length cu] w fun e w' => e = .returned (.bool (okTxn S.length t && t.2.2.all (okOp K.length))) ∧
   (w.grownBy w' (some gu) ∧ ∃ U' : List Bool, w'.ownsRow base 4 1 (.slice (some ⟨gu, 0, none⟩) K.length cu) K.length (vbools U') ∧ U'.length = K.length ∧ ((okTxn S.length t && t.2.2.all (okOp K.length)) = true → U' = marks U (t.2.2.map (·.2.1)))) := by
 have h := rops_any v0 v1 v2 sv S K t gu cu U base w h0 h1 h2 hs hl hK hU (by rw [hU]; exact hu) hne
 rw [hU] at h
 refine h.mono ?_
 rintro e w' ⟨he, hg, U', a, b, c⟩
 rw [hU] at a b
 exact ⟨he, hg, U', a, b, c⟩
theorem grown_drew (w : World) (row : Option Nat) : w.grownBy w.drew row := ⟨rfl, rfl, rfl, Nat.le_refl _, fun _ _ _ => rfl⟩
set_option maxRecDepth 100000 in
set_option maxHeartbeats 8000000 in
theorem rmay_any (v0 v1 v2 : Value) (h : HistM) (w : World) (h0 : Texts w v0 h.1) (h1 : Texts w v1 h.2.1) (h2 : TxnsS w v2 h.2.2) (hm : Modst h) :
  Calls Tryz.prog 16 #[.agg #[v0, v1, v2]] w fun e w' => e = .returned (.int .i64 (errH h)) ∧ Below w.heap.size w w' := by
 obtain ⟨m1, m2, m3, m4, m5, m6⟩ := hm
 have H1 := Lib.hid (fun w' (hw : Texts w' v0 h.1) => rtis_any w' v0 h.1 hw (by omega) m4)
 have H2 := Lib.hid (fun w' (hw : Texts w' v1 h.2.1) => rtis_any w' v1 h.2.1 hw (by omega) m5)
 have HM6 := Lib.hid m6
 have T0 := Lib.hid h0
 have T1 := Lib.hid h1
 obtain ⟨p2, c2, rfl, hp⟩ := h2
 obtain ⟨p0, c0, rfl, -⟩ := h0
 obtain ⟨p1, c1, rfl, -⟩ := h1
 have HX := Lib.hid hp
 have HF : RowKit.Hid (okHeads h = false → errH h = 4) := Lib.hid (fun e => err_no (by rw [may_full, e]; rfl))
 have HT : RowKit.Hid (okHeads h = true → ∀ b, (h.2.2.all (okFull h) && usedH h) = b → errH h = if b then 0 else 4) := Lib.hid (fun e b hb => by unfold errH; rw [may_full, e, Bool.true_and, hb])
 have HH : RowKit.Hid (okHeads h = (isT h.1 && (isT h.2.1 && (decide (h.1.length ≤ 20) && (decide (h.2.1.length ≤ 40) && decide (h.2.2.length ≤ 40)))))) := Lib.hid rfl
 generalize isT h.1 = I at H1 HH
 generalize isT h.2.1 = J at H2 HH
 have b0 := Blk.new w 25 [.slice p0 h.1.length c0, .slice p1 h.2.1.length c1, .slice p2 h.2.2.length c2]
 have hb0 : Below w.heap.size w (w.alloc (.cells #[.slice p0 h.1.length c0, .slice p1 h.2.1.length c1, .slice p2 h.2.2.length c2] 25)) := (Below.refl _ w).alloc (Nat.le_refl _) _
 have HB0 := Lib.hid hb0
 have B0 := Lib.hid b0
 clear hp m4 m5 m6 b0 hb0
 cases I with
 | false =>
  have HE := Lib.hid (HF.out (by rw [HH.out]; rfl))
  go_enter Tryz.func16, Tryz.ntmps16
  go_wp2_with fail
  refine (H1.out _ (T0.out.below HB0.out)).mono ?_
  rintro e w1 ⟨rfl, hb1⟩
  have hbw1 := below_next HB0.out hb1
  have d1 := B0.out.later hb1
  have x10 := d1.cell 0 rfl
  have x11 := d1.cell 1 rfl
  have x12 := d1.cell 2 rfl
  have D1 := Lib.hid d1
  clear hb1 d1
  go_wp2_with fail
  go_ret
  rw [HE.out]
  exact ⟨rfl, hbw1⟩
 | true =>
  cases J with
  | false =>
   have HE := Lib.hid (HF.out (by rw [HH.out]; rfl))
   go_enter Tryz.func16, Tryz.ntmps16
   go_wp2_with fail
   refine (H1.out _ (T0.out.below HB0.out)).mono ?_
   rintro e w1 ⟨rfl, hb1⟩
   have hbw1 := below_next HB0.out hb1
   have d1 := B0.out.later hb1
   have x10 := d1.cell 0 rfl
   have x11 := d1.cell 1 rfl
   have x12 := d1.cell 2 rfl
   have D1 := Lib.hid d1
   clear hb1 d1
   go_wp2_with fail
   refine (H2.out _ (T1.out.below hbw1)).mono ?_
   rintro e w2 ⟨rfl, hb2⟩
   have hbw2 := below_next hbw1 hb2
   have d2 := D1.out.later hb2
   have x20 := d2.cell 0 rfl
   have x21 := d2.cell 1 rfl
   have x22 := d2.cell 2 rfl
   have D2 := Lib.hid d2
   clear hb2 d2 x10 x11 x12
   go_wp2_with fail
   go_ret
   rw [HE.out]
   exact ⟨rfl, hbw2⟩
  | true =>
   by_cases g1 : 20 < h.1.length
   ·have HE := Lib.hid (HF.out (by rw [HH.out, decide_eq_false (show ¬ h.1.length ≤ 20 by omega)]; rfl))
    go_enter Tryz.func16, Tryz.ntmps16
    go_wp2_with fail
    refine (H1.out _ (T0.out.below HB0.out)).mono ?_
    rintro e w1 ⟨rfl, hb1⟩
    have hbw1 := below_next HB0.out hb1
    have d1 := B0.out.later hb1
    have x10 := d1.cell 0 rfl
    have x11 := d1.cell 1 rfl
    have x12 := d1.cell 2 rfl
    have D1 := Lib.hid d1
    clear hb1 d1
    go_wp2_with fail
    refine (H2.out _ (T1.out.below hbw1)).mono ?_
    rintro e w2 ⟨rfl, hb2⟩
    have hbw2 := below_next hbw1 hb2
    have d2 := D1.out.later hb2
    have x20 := d2.cell 0 rfl
    have x21 := d2.cell 1 rfl
    have x22 := d2.cell 2 rfl
    have D2 := Lib.hid d2
    clear hb2 d2 x10 x11 x12
    go_wp2_with fail
    go_ret
    rw [HE.out]
    exact ⟨rfl, hbw2⟩
   by_cases g2 : 40 < h.2.1.length
   ·have HE := Lib.hid (HF.out (by rw [HH.out, decide_eq_false (show ¬ h.2.1.length ≤ 40 by omega)]; simp))
    go_enter Tryz.func16, Tryz.ntmps16
    go_wp2_with fail
    refine (H1.out _ (T0.out.below HB0.out)).mono ?_
    rintro e w1 ⟨rfl, hb1⟩
    have hbw1 := below_next HB0.out hb1
    have d1 := B0.out.later hb1
    have x10 := d1.cell 0 rfl
    have x11 := d1.cell 1 rfl
    have x12 := d1.cell 2 rfl
    have D1 := Lib.hid d1
    clear hb1 d1
    go_wp2_with fail
    refine (H2.out _ (T1.out.below hbw1)).mono ?_
    rintro e w2 ⟨rfl, hb2⟩
    have hbw2 := below_next hbw1 hb2
    have d2 := D1.out.later hb2
    have x20 := d2.cell 0 rfl
    have x21 := d2.cell 1 rfl
    have x22 := d2.cell 2 rfl
    have D2 := Lib.hid d2
    clear hb2 d2 x10 x11 x12
    go_wp2_with fail
    go_ret
    rw [HE.out]
    exact ⟨rfl, hbw2⟩
   by_cases g3 : 40 < h.2.2.length
   ·have HE := Lib.hid (HF.out (by rw [HH.out, decide_eq_false (show ¬ h.2.2.length ≤ 40 by omega)]; simp))
    go_enter Tryz.func16, Tryz.ntmps16
    go_wp2_with fail
    refine (H1.out _ (T0.out.below HB0.out)).mono ?_
    rintro e w1 ⟨rfl, hb1⟩
    have hbw1 := below_next HB0.out hb1
    have d1 := B0.out.later hb1
    have x10 := d1.cell 0 rfl
    have x11 := d1.cell 1 rfl
    have x12 := d1.cell 2 rfl
    have D1 := Lib.hid d1
    clear hb1 d1
    go_wp2_with fail
    refine (H2.out _ (T1.out.below hbw1)).mono ?_
    rintro e w2 ⟨rfl, hb2⟩
    have hbw2 := below_next hbw1 hb2
    have d2 := D1.out.later hb2
    have x20 := d2.cell 0 rfl
    have x21 := d2.cell 1 rfl
    have x22 := d2.cell 2 rfl
    have D2 := Lib.hid d2
    clear hb2 d2 x10 x11 x12
    go_wp2_with fail
    go_ret
    rw [HE.out]
    exact ⟨rfl, hbw2⟩
   have HT2 := Lib.hid (HT.out (by rw [HH.out, decide_eq_true (show h.1.length ≤ 20 by omega), decide_eq_true (show h.2.1.length ≤ 40 by omega), decide_eq_true (show h.2.2.length ≤ 40 by omega)]; rfl))
   obtain ⟨i0, hi, hz0, hz1, hz2⟩ := info_parts info_bool
   have mk : ∀ (n : Nat), n ≤ 1000 → ∀ W : World, (Instr.makeSlice 60 (.int .i64 (n : Int)) (.int .i64 (n : Int))).run Tryz.prog W = .ok (.slice (some ⟨W.heap.size, 0, none⟩) n n) (W.alloc (.cells (madeCells (Value.cells (.bool false)) (n * i0.size)) 4)) := fun n hn W => by
    have hr := run_make (P := Tryz.prog) W 60 4 i0 (.bool false) Tryz.underlying60 hi hz0 .i64 .i64 n n (by omega) (Int.le_refl _) (by rw [hz2]; omega) (by omega)
    simpa only [Int.toNat_natCast] using hr
   have mk1 := mk h.2.1.length m2
   have mk2 := mk h.1.length m1
   rw [hz1] at mk1 mk2
   clear mk HF HT HH
   go_enter Tryz.func16, Tryz.ntmps16
   go_upto_region 3 with fail
   refine (H1.out _ (T0.out.below HB0.out)).mono ?_
   rintro e w1 ⟨rfl, hb1⟩
   have hbw1 := below_next HB0.out hb1
   have d1 := B0.out.later hb1
   have x10 := d1.cell 0 rfl
   have x11 := d1.cell 1 rfl
   have x12 := d1.cell 2 rfl
   have D1 := Lib.hid d1
   clear hb1 d1
   go_upto_region 3 with fail
   refine (H2.out _ (T1.out.below hbw1)).mono ?_
   rintro e w2 ⟨rfl, hb2⟩
   have hbw2 := below_next hbw1 hb2
   have d2 := D1.out.later hb2
   have x20 := d2.cell 0 rfl
   have x21 := d2.cell 1 rfl
   have x22 := d2.cell 2 rfl
   have D2 := Lib.hid d2
   have hws : w.heap.size + 1 ≤ w2.heap.size := D2.out.lt
   clear hb2 d2 x10 x11 x12
   go_upto_region 3 with fail
   go_cut [3, 4] (fun s3 s4 wx => ∃ gk gs : Nat, s3 = .slice (some ⟨gk, 0, none⟩) h.2.1.length h.2.1.length ∧ s4 = .slice (some ⟨gs, 0, none⟩) h.1.length h.1.length ∧ gk ≠ gs ∧ wx.ownsRow (w.heap.size + 1) 4 1 (.slice (some ⟨gk, 0, none⟩) h.2.1.length h.2.1.length) h.2.1.length (vbools (List.replicate h.2.1.length false)) ∧ wx.ownsRow (w.heap.size + 1) 4 1 (.slice (some ⟨gs, 0, none⟩) h.1.length h.1.length) h.1.length (vbools (List.replicate h.1.length false)) ∧ Below (w.heap.size + 1) w2 wx)
   case first =>
    have HS : RowKit.Hid (∀ w', Below (w.heap.size + 1) w2 w' → (w'.cell? ⟨w.heap.size, 0, none⟩ = some (.slice p0 h.1.length c0) ∧ w'.cell? ⟨w.heap.size, 1, none⟩ = some (.slice p1 h.2.1.length c1) ∧ Below (w.heap.size + 1) w2 w')) := Lib.hid (fun w' hb => ⟨(hb.cell (p := ⟨w.heap.size, 0, none⟩) (by show w.heap.size < _; omega)).trans x20, (hb.cell (p := ⟨w.heap.size, 1, none⟩) (by show w.heap.size < _; omega)).trans x21, hb⟩)
    go_region_held3 (fun w' => w'.cell? ⟨w.heap.size, 0, none⟩ = some (.slice p0 h.1.length c0) ∧ w'.cell? ⟨w.heap.size, 1, none⟩ = some (.slice p1 h.2.1.length c1) ∧ Below (w.heap.size + 1) w2 w')
     ((go_split_ands; exact HS.out _ (by (repeat (first | assumption | exact Below.refl _ _ | refine Below.drew ?_ | refine keepJ (by omega) ?_ _)))))
     (fail)
    all_goals
     go_split_ands
     go_wp2_with fail
     go_meet
     first
      | exact ⟨_, _, rfl, rfl, by omega, (two_made _ _ _ _ hws (by omega) (by omega)).1, (two_made _ _ _ _ hws (by omega) (by omega)).2, by assumption⟩
      | exact ⟨_, _, rfl, rfl, by omega, (two_made _ _ _ _ hws (by omega) (by omega)).2, (two_made _ _ _ _ hws (by omega) (by omega)).1, by assumption⟩
   case rest =>
    obtain ⟨gk, gs, rfl, rfl, hgne, hrk, hrs, hbc⟩ := hcut
    have hgk : w.heap.size + 1 ≤ gk := (hrk.lt gk rfl).1
    have hgs : w.heap.size + 1 ≤ gs := (hrs.lt gs rfl).1
    clear mk1 mk2 x20 x21 x22
    have HBW2 := Lib.hid hbw2
    go_wp2_with fail
    go_loopw [5] (fun i wr => ∃ k : Nat, k ≤ h.2.2.length ∧ i = .int .i64 k ∧ (∀ j, j < k → okFull h (h.2.2.getD j noTxn) = true) ∧ wr.ownsRow (w.heap.size + 1) 4 1 (.slice (some ⟨gk, 0, none⟩) h.2.1.length h.2.1.length) h.2.1.length (vbools (marks (List.replicate h.2.1.length false) (keysT h.2.2 k))) ∧ wr.ownsRow (w.heap.size + 1) 4 1 (.slice (some ⟨gs, 0, none⟩) h.1.length h.1.length) h.1.length (vbools (marks (List.replicate h.1.length false) (sessK h.2.2 k))) ∧ Below (w.heap.size + 1) w2 wr) (fun i _ => h.2.2.length - (RowKit.intOf i).toNat)
    case atStart => exact ⟨0, Nat.zero_le _, rfl, fun j hj => absurd hj (Nat.not_lt_zero j), hrk, hrs, hbc⟩
    case round =>
     obtain ⟨k, hk, rfl, hn, hrk, hrs, hbc⟩ := hrel
     have HN := Lib.hid hn
     have dr := D2.out.below hbc (by omega)
     have x0 := dr.cell 0 rfl
     have x1 := dr.cell 1 rfl
     have x2 := dr.cell 2 rfl
     have hbwx : Below w.heap.size w wr := HBW2.out.trans (hbc.mono (by omega))
     have hwr : w.heap.size < wr.heap.size := dr.lt
     clear dr hn
     by_cases hk1 : k < h.2.2.length
     ·obtain ⟨g, sv, rfl, a1, a2, a3, hops⟩ := HX.out k hk1
      have a1' := cell_later hbwx a1
      have a2' := cell_later hbwx a2
      have a3' := cell_later hbwx a3
      have hops' := hops.below hbwx
      have hgl : g < w.heap.size := World.block_lt_of_cell? w ⟨g, k * 3, none⟩ a1
      have hmem : h.2.2.getD k noTxn ∈ h.2.2 := by
       have : h.2.2.getD k noTxn = h.2.2[k] := by simp [hk1]
       rw [this]
       exact List.getElem_mem hk1
      have hm6 := HM6.out _ hmem
      have hkn := keysT_next h.2.2 k hk1
      have hsn := sessK_next h.2.2 k hk1
      have HNo : RowKit.Hid (okFull h (h.2.2.getD k noTxn) = false → errH h = 4) := Lib.hid (fun hf => HT2.out false (by
       rw [show h.2.2.all (okFull h) = false by
        rw [List.all_eq_false]
        exact ⟨_, hmem, by rw [hf]; exact Bool.false_ne_true⟩]
       rfl))
      have HYes : RowKit.Hid (okFull h (h.2.2.getD k noTxn) = true → ∀ j, j < k + 1 → okFull h (h.2.2.getD j noTxn) = true) := Lib.hid (fun e j hj => by
       by_cases hjk : j < k
       ·exact HN.out j hjk
       ·obtain rfl : j = k := by omega
        exact e)
      have HIn : RowKit.Hid (okFull h (h.2.2.getD k noTxn) = true → 0 ≤ (h.2.2.getD k noTxn).1 ∧ (h.2.2.getD k noTxn).1 < h.1.length) := Lib.hid (fun e => by
       simp only [okFull, okTxn, inside, Bool.and_eq_true, decide_eq_true_eq] at e
       exact e.1.1)
      obtain ⟨t, ht⟩ : ∃ t, h.2.2.getD k noTxn = t := ⟨_, rfl⟩
      rw [ht] at a1' a2' hops' hm6 hkn hsn HNo HYes HIn
      have hle : (marks (List.replicate h.2.1.length false) (keysT h.2.2 k)).length = h.2.1.length := by rw [marks_len, List.length_replicate]
      have hops2 := hops'.below (w' := wr.drew) (Below.drew (Below.refl _ _))
      have HOps := Lib.hid (rops_k (.slice p0 h.1.length c0) (.slice p1 h.2.1.length c1) (.slice (some ⟨g, 0, none⟩) h.2.2.length c2) sv h.1 h.2.1 t gk h.2.1.length _ (w.heap.size + 1) wr.drew ((T0.out.below hbwx).below (Below.drew (Below.refl _ _))) ((T1.out.below hbwx).below (Below.drew (Below.refl _ _))) ⟨_, _, _, rfl⟩ hops2 hm6 (by omega) hle hrk.drew (fun j hj p n c e => by
       obtain ⟨q, cq, e2, hq⟩ := hops'
       obtain ⟨g3, e3, hc3, -⟩ := hq j hj
       rw [e2, e3] at e
       injection e with e
       injection e with e
       subst e
       have hz : g3 < w.heap.size := by
        obtain ⟨q5, cq5, e5, hq5⟩ := hops
        rw [ht] at hq5
        obtain ⟨g6, e6, hc6, -⟩ := hq5 j hj
        rw [e2, e3, e6] at e5
        injection e5 with e5
        injection e5 with e5
        injection e5 with e5
        rw [e5]
        exact World.block_lt_of_cell? w ⟨g6, _, none⟩ hc6
       show g3 ≠ gk
       omega))
      obtain ⟨p3, c3, rfl, -⟩ := hops'
      obtain ⟨t1, t2, t3⟩ := t
      simp only at a1' a2' a3' HOps HNo HYes HIn hkn hsn hm6
      have HKN := Lib.hid hkn
      have HSN := Lib.hid hsn
      have hne0 : w.heap.size ≠ gk := by omega
      have hne1 : g ≠ gk := by omega
      have HS : RowKit.Hid (∀ w', wr.grownBy w' (some gk) → (w'.cell? ⟨w.heap.size, 0, none⟩ = some (.slice p0 h.1.length c0) ∧ w'.cell? ⟨w.heap.size, 1, none⟩ = some (.slice p1 h.2.1.length c1) ∧ w'.cell? ⟨w.heap.size, 2, none⟩ = some (.slice (some ⟨g, 0, none⟩) h.2.2.length c2) ∧ w'.cell? ⟨g, k * 3, none⟩ = some (.int .i64 t1) ∧ w'.cell? ⟨g, k * 3 + 1, none⟩ = some (.int .i64 t2) ∧ w'.cell? ⟨g, k * 3 + 2, none⟩ = some (.slice p3 t3.length c3))) := Lib.hid (fun w' hg => ⟨cell_grown x0 hg hne0, cell_grown x1 hg hne0, cell_grown x2 hg hne0, cell_grown a1' hg hne1, cell_grown a2' hg hne1, cell_grown a3' hg hne1⟩)
      clear hops hops2 hmem hle a1 a2 a3 ht hkn hsn
      obtain ⟨b, hb⟩ : ∃ b, okFull h (t1, t2, t3) = b := ⟨_, rfl⟩
      rw [show (okTxn h.1.length (t1, t2, t3) && t3.all (okOp h.2.1.length)) = okFull h (t1, t2, t3) from rfl, hb] at HOps
      rw [hb] at HNo HYes HIn
      clear hb
      cases b with
      | false =>
       have HE := Lib.hid (HNo.out (by trivial))
       go_wp2_with fail
       go_region_held3 (fun w' => w'.cell? ⟨w.heap.size, 0, none⟩ = some (.slice p0 h.1.length c0) ∧ w'.cell? ⟨w.heap.size, 1, none⟩ = some (.slice p1 h.2.1.length c1) ∧ w'.cell? ⟨w.heap.size, 2, none⟩ = some (.slice (some ⟨g, 0, none⟩) h.2.2.length c2) ∧ w'.cell? ⟨g, k * 3, none⟩ = some (.int .i64 t1) ∧ w'.cell? ⟨g, k * 3 + 1, none⟩ = some (.int .i64 t2) ∧ w'.cell? ⟨g, k * 3 + 2, none⟩ = some (.slice p3 t3.length c3))
        ((go_split_ands; exact HS.out _ (by first | exact grown_drew _ _ | exact grown_trans (grown_drew _ _) (by assumption))))
        ((go_at_call 30; refine HOps.out.mono ?_; rintro e w3 ⟨rfl, hr3⟩; obtain ⟨hg3, U3, hu3, hl3, hm3⟩ := hr3))
       go_split_ands
       have hbf : Below w.heap.size w w3 := (hbwx.drew).grown hg3 (by show w.heap.size ≤ wr.heap.size; omega) (fun j e => by have := Option.some.inj e; omega)
       clear hg3 hu3 hl3 hm3
       go_wp2_with fail
       go_ret
       rw [HE.out]
       exact ⟨rfl, hbf⟩
      | true =>
       obtain ⟨hs0, hs1⟩ := HIn.out (by trivial)
       obtain ⟨ns, rfl⟩ := Int.eq_ofNat_of_zero_le hs0
       have HY := Lib.hid (HYes.out (by trivial))
       go_wp2_with fail
       go_region_held3 (fun w' => w'.cell? ⟨w.heap.size, 0, none⟩ = some (.slice p0 h.1.length c0) ∧ w'.cell? ⟨w.heap.size, 1, none⟩ = some (.slice p1 h.2.1.length c1) ∧ w'.cell? ⟨w.heap.size, 2, none⟩ = some (.slice (some ⟨g, 0, none⟩) h.2.2.length c2) ∧ w'.cell? ⟨g, k * 3, none⟩ = some (.int .i64 (ns : Int)) ∧ w'.cell? ⟨g, k * 3 + 1, none⟩ = some (.int .i64 t2) ∧ w'.cell? ⟨g, k * 3 + 2, none⟩ = some (.slice p3 t3.length c3))
        ((go_split_ands; exact HS.out _ (by first | exact grown_drew _ _ | exact grown_trans (grown_drew _ _) (by assumption))))
        ((go_at_call 30; refine HOps.out.mono ?_; rintro e w3 ⟨rfl, hr3⟩; obtain ⟨hg3, U3, hu3, hl3, hm3⟩ := hr3))
       go_split_ands
       have hm3' := hm3 (by trivial)
       rw [← marks_app, ← HKN.out] at hm3'
       subst hm3'
       have hrs3 := hrs.drew.kept hg3 (.inr (by simp [Value.ownBlock]; omega))
       have hml : (marks (List.replicate h.1.length false) (sessK h.2.2 k)).length = h.1.length := by rw [marks_len, List.length_replicate]
       have r1 : w3.cell? ⟨gs, ns, none⟩ = some (.bool ((marks (List.replicate h.1.length false) (sessK h.2.2 k)).getD ns false)) := by
        rw [hrs3.cellAt ns (by omega)]
        exact vbools_get _ _ (by omega)
       have r2 := hrs3.frozenAt ns
       generalize (marks (List.replicate h.1.length false) (sessK h.2.2 k)).getD ns false = old at r1
       have hst := hrs3.stored ns (.bool true)
       rw [vbools_set, show (marks (List.replicate h.1.length false) (sessK h.2.2 k)).set ns true = marks (List.replicate h.1.length false) (sessK h.2.2 (k + 1)) by rw [HSN.out, marks_snoc]; rfl] at hst
       have HST := Lib.hid hst.1
       have HKK := Lib.hid (hu3.kept (grown_set w3 gs ns (.bool true)) (.inr (by simp [Value.ownBlock]; omega)))
       have HBC := Lib.hid (((hbc.drew).grown hg3 (by show w.heap.size + 1 ≤ wr.heap.size; omega) (fun j e => by have := Option.some.inj e; omega)).setCell (p := ⟨gs, ns, none⟩) (by show w.heap.size + 1 ≤ gs; omega) (.bool true))
       clear hg3 hu3 hl3 hm3 hrs3 hst hrk hrs hbc hbwx
       go_wp2_with fail
       go_roundw
       case rel => exact ⟨k + 1, by omega, by go_num, HY.out, HKK.out, HST.out, HBC.out⟩
       case measure => simp [RowKit.intOf]; omega
     ·have hke : k = h.2.2.length := by omega
      have hallF : h.2.2.all (okFull h) = true := by
       rw [List.all_eq_true]
       intro x hx
       obtain ⟨j, hj, e⟩ := List.getElem_of_mem hx
       have := HN.out j (by omega)
       simpa [hj, e] using this
      have hkeys : keysT h.2.2 k = (allOps h).map (·.2.1) := by rw [hke, keysT, List.take_length]; rfl
      have hsess : sessK h.2.2 k = h.2.2.map (·.1) := by rw [hke, sessK, List.take_length]
      rw [hkeys] at hrk
      rw [hsess] at hrs
      have eK := marks_all h.2.1.length ((allOps h).map (·.2.1)) (fun x hx => by
       obtain ⟨o, ho, rfl⟩ := List.mem_map.1 hx
       obtain ⟨t, ht, hot⟩ := List.mem_flatMap.1 ho
       have := List.all_eq_true.1 hallF t ht
       simp only [okFull, Bool.and_eq_true] at this
       have := List.all_eq_true.1 this.2 o hot
       simp only [okOp, inside, Bool.and_eq_true, decide_eq_true_eq] at this
       exact this.1)
      have eS := marks_all h.1.length (h.2.2.map (·.1)) (fun x hx => by
       obtain ⟨t, ht, rfl⟩ := List.mem_map.1 hx
       have := List.all_eq_true.1 hallF t ht
       simp only [okFull, okTxn, inside, Bool.and_eq_true, decide_eq_true_eq] at this
       exact this.1.1)
      have hlK : (marks (List.replicate h.2.1.length false) ((allOps h).map (·.2.1))).length = h.2.1.length := by rw [marks_len, List.length_replicate]
      have hlS : (marks (List.replicate h.1.length false) (h.2.2.map (·.1))).length = h.1.length := by rw [marks_len, List.length_replicate]
      have hfin : ∀ b, (allK (marks (List.replicate h.2.1.length false) ((allOps h).map (·.2.1))) h.2.1.length && allK (marks (List.replicate h.1.length false) (h.2.2.map (·.1))) h.1.length) = b → errH h = if b then 0 else 4 := fun b hb => HT2.out b (by
       rw [hallF, Bool.true_and, ← hb]
       have e1 := allK_all (marks (List.replicate h.2.1.length false) ((allOps h).map (·.2.1)))
       have e2 := allK_all (marks (List.replicate h.1.length false) (h.2.2.map (·.1)))
       rw [hlK] at e1
       rw [hlS] at e2
       rw [e1, e2, eK, eS]
       unfold usedH
       exact Bool.and_comm _ _)
      generalize marks (List.replicate h.2.1.length false) ((allOps h).map (·.2.1)) = UK at *
      generalize marks (List.replicate h.1.length false) (h.2.2.map (·.1)) = US at *
      have HFin := Lib.hid hfin
      have RK := Lib.hid hrk
      have RS := Lib.hid hrs
      have LK := Lib.hid hlK
      have LS := Lib.hid hlS
      clear eK eS hfin hrk hrs hlK hlS hallF hkeys hsess
      go_wp2_with fail
      go_loop [6, 7] (fun al i => ∃ q : Nat, q ≤ h.2.1.length ∧ i = .int .i64 q ∧ al = .bool (allK UK q)) (fun _ i => h.2.1.length - (RowKit.intOf i).toNat)
      case atStart => exact ⟨0, Nat.zero_le _, rfl, by simp [allK]⟩
      case round =>
       obtain ⟨q, hq, rfl, rfl⟩ := hrel
       by_cases hq1 : q < h.2.1.length
       ·have r1 : wr.cell? ⟨gk, q, none⟩ = some (.bool (UK.getD q false)) := by
         rw [RK.out.cellAt q (by omega)]
         exact vbools_get _ _ (by rw [LK.out]; exact hq1)
        have hnx := allK_next UK q (by rw [LK.out]; exact hq1)
        generalize UK.getD q false = b2 at r1 hnx
        generalize allK UK q = b1 at hnx ⊢
        have HNX := Lib.hid hnx
        clear hnx
        cases b1 <;> cases b2
        all_goals
         go_wp2_with fail
         go_round
         case rel => exact ⟨q + 1, by omega, by go_num, by rw [HNX.out]; rfl⟩
         case measure => simp [RowKit.intOf]; omega
       ·have hqe : q = h.2.1.length := by omega
        rw [hqe]
        have HF1 : RowKit.Hid (∀ b, (allK UK h.2.1.length && allK US h.1.length) = b → errH h = if b then 0 else 4) := HFin
        generalize allK UK h.2.1.length = B1 at HF1 ⊢
        clear hqe
        obtain rfl : q = h.2.1.length := by omega
        go_wp2_with fail
        go_loop [6, 8] (fun al i => ∃ q : Nat, q ≤ h.1.length ∧ i = .int .i64 q ∧ al = .bool (B1 && allK US q)) (fun _ i => h.1.length - (RowKit.intOf i).toNat)
        case atStart => exact ⟨0, Nat.zero_le _, rfl, by simp [allK]⟩
        case round =>
         obtain ⟨q, hq, rfl, rfl⟩ := hrel
         by_cases hq1 : q < h.1.length
         ·have r1 : wr.cell? ⟨gs, q, none⟩ = some (.bool (US.getD q false)) := by
           rw [RS.out.cellAt q (by omega)]
           exact vbools_get _ _ (by rw [LS.out]; exact hq1)
          have hnx := allK_next US q (by rw [LS.out]; exact hq1)
          generalize US.getD q false = b2 at r1 hnx
          have hnx2 : (B1 && allK US (q + 1)) = ((B1 && allK US q) && b2) := by rw [hnx, Bool.and_assoc]
          generalize (B1 && allK US q) = b1 at hnx2 ⊢
          have HNX := Lib.hid hnx2
          clear hnx hnx2
          cases b1 <;> cases b2
          all_goals
           go_wp2_with fail
           go_round
           case rel => exact ⟨q + 1, by omega, by go_num, by rw [HNX.out]; rfl⟩
           case measure => simp [RowKit.intOf]; omega
         ·have hqe : q = h.1.length := by omega
          rw [hqe]
          have HF2 := Lib.hid (HF1.out _ rfl)
          generalize (B1 && allK US h.1.length) = B2 at HF2 ⊢
          clear hqe
          obtain rfl : q = h.1.length := by omega
          cases B2 with
          | false =>
           go_wp2_with fail
           go_ret
           rw [HF2.out]
           exact ⟨rfl, hbwx⟩
          | true =>
           go_wp2_with fail
           go_ret
           rw [HF2.out]
           exact ⟨rfl, hbwx⟩
end Go.Proofs.YthgbfaoblnkniaaGreatDoor

namespace Go.Proofs.YthgbfaoblnkniaaGreatDoor
open Go.RowKit Go.Lib
attribute [local go_sem] Later.cell Later.frozen
end Go.Proofs.YthgbfaoblnkniaaGreatDoor

namespace Go.Proofs.YthgbfaoblnkniaaGreatDoor
open Go.ChangeShapes Go.WideShapes Go.ChangeAt Go.RowKit Go.Joins
def opCells (o : OpM) : List Value := [.bool o.1, .int .i64 o.2.1, .int .i64 o.2.2.1, .int .i64 o.2.2.2]
def OpR (_ : World) (cs : List Value) (o : OpM) : Prop := cs = opCells o
def OpsA (w : World) (v : Value) (L : List OpM) : Prop := SlR 4 OpR w v L
def TxnR (w : World) (cs : List Value) (t : TxnM) : Prop := ∃ sv, cs = [.int .i64 t.1, .int .i64 t.2.1, sv] ∧ OpsA w sv t.2.2
def TxnsA (w : World) (v : Value) (L : List TxnM) : Prop := SlR 3 TxnR w v L
def StrR (_ : World) (cs : List Value) (s : List UInt8) : Prop := cs = [.string (bs s)] ∧ s.length ≤ 9223372036854775807
def StrsA (w : World) (v : Value) (L : List (List UInt8)) : Prop := SlR 1 StrR w v L
def HistA (w : World) (v : Value) (h : HistM) : Prop := ∃ v0 v1 v2, v = .agg #[v0, v1, v2] ∧ StrsA w v0 h.1 ∧ StrsA w v1 h.2.1 ∧ TxnsA w v2 h.2.2
theorem OpsA.below {w w' : World} {v : Value} {L : List OpM} (h : OpsA w v L) (hb : Below w.heap.size w w') : OpsA w' v L := SlR.below (fun _ _ _ _ _ h => h) h hb
theorem TxnsA.below {w w' : World} {v : Value} {L : List TxnM} (h : TxnsA w v L) (hb : Below w.heap.size w w') : TxnsA w' v L :=
 SlR.below (fun _ _ _ _ hb ⟨sv, e, h⟩ => ⟨sv, e, h.below hb⟩) h hb
theorem StrsA.below {w w' : World} {v : Value} {L : List (List UInt8)} (h : StrsA w v L) (hb : Below w.heap.size w w') : StrsA w' v L := SlR.below (fun _ _ _ _ _ h => h) h hb
theorem HistA.below {w w' : World} {v : Value} {h : HistM} (hh : HistA w v h) (hb : Below w.heap.size w w') : HistA w' v h := by
 obtain ⟨v0, v1, v2, e, h0, h1, h2⟩ := hh
 exact ⟨v0, v1, v2, e, h0.below hb, h1.below hb, h2.below hb⟩
section
variable {H : Type} {enc : TypeId × Value → H} {w : World} {base : Nat} {spare : Nat → Bool} {held : Bool}
theorem open_str {n : Nat} {cs : List Value} {y : DataW H × List MemPlace} (h : DataW.trod enc Tryz.prog w base spare held n 9 cs = some y) : ∃ s, StrR w cs s := by
 obtain ⟨s, rfl, -, hs⟩ := DataW.trod_string Tryz.underlying9 h
 unfold maxLen at hs
 refine ⟨s.data.toList, by rw [← bs_data], ?_⟩
 rw [Lib.size_eq] at hs
 exact hs
theorem open_value {n : Nat} {cs : List Value} {y : DataW H × List MemPlace} (h : DataW.trod enc Tryz.prog w base spare held n 45 cs = some y) : ∃ k m : Int, cs = [.int .i64 k, .int .i64 m] := by
 have hl := trod_len Tryz.underlying45 h
 obtain ⟨n0, y0, h0⟩ := trod_at 0 0 3 1 Tryz.underlying45 h rfl rfl rfl (by kernel_rfl)
 obtain ⟨n1, y1, h1⟩ := trod_at 1 1 2 1 Tryz.underlying45 h rfl rfl rfl (by kernel_rfl)
 obtain ⟨k, hk, -, -⟩ := DataW.trod_int Tryz.underlying3 h0
 obtain ⟨m, hm, -, -⟩ := DataW.trod_int Tryz.underlying2 h1
 rw [show Tryz.prog.cellsOf 45 = 2 by kernel_rfl] at hl
 match cs, hl with
 | [a, b], _ =>
  simp at hk hm
  exact ⟨k, m, by rw [hk, hm]⟩
theorem open_op {n : Nat} {cs : List Value} {y : DataW H × List MemPlace} (h : DataW.trod enc Tryz.prog w base spare held n 50 cs = some y) : ∃ o, OpR w cs o := by
 have hl := trod_len Tryz.underlying50 h
 obtain ⟨n0, y0, h0⟩ := trod_at 0 0 4 1 Tryz.underlying50 h rfl rfl rfl (by kernel_rfl)
 obtain ⟨n1, y1, h1⟩ := trod_at 1 1 3 1 Tryz.underlying50 h rfl rfl rfl (by kernel_rfl)
 obtain ⟨n2, y2, h2⟩ := trod_at 2 2 45 2 Tryz.underlying50 h rfl rfl rfl (by kernel_rfl)
 obtain ⟨b, hb, -⟩ := DataW.trod_bool Tryz.underlying4 h0
 obtain ⟨k, hk, -, -⟩ := DataW.trod_int Tryz.underlying3 h1
 obtain ⟨kd, m, hv⟩ := open_value h2
 rw [show Tryz.prog.cellsOf 50 = 4 by kernel_rfl] at hl
 match cs, hl with
 | [c0, c1, c2, c3], _ =>
  simp at hb hk hv
  exact ⟨(b, k, kd, m), by simp [OpR, opCells, hb, hk, hv]⟩
theorem open_ops {n : Nat} {cs : List Value} {y : DataW H × List MemPlace} (h : DataW.trod enc Tryz.prog w base spare held n 41 cs = some y) : ∃ v L, cs = [v] ∧ OpsA w v L :=
 open_slR Tryz.underlying41 (by kernel_rfl) (fun _ _ _ h => open_op h) h
theorem open_txn {n : Nat} {cs : List Value} {y : DataW H × List MemPlace} (h : DataW.trod enc Tryz.prog w base spare held n 43 cs = some y) : ∃ t, TxnR w cs t := by
 have hl := trod_len Tryz.underlying43 h
 obtain ⟨n0, y0, h0⟩ := trod_at 0 0 3 1 Tryz.underlying43 h rfl rfl rfl (by kernel_rfl)
 obtain ⟨n1, y1, h1⟩ := trod_at 1 1 3 1 Tryz.underlying43 h rfl rfl rfl (by kernel_rfl)
 obtain ⟨n2, y2, h2⟩ := trod_at 2 2 41 1 Tryz.underlying43 h rfl rfl rfl (by kernel_rfl)
 obtain ⟨s, hs, -, -⟩ := DataW.trod_int Tryz.underlying3 h0
 obtain ⟨f, hf', -, -⟩ := DataW.trod_int Tryz.underlying3 h1
 obtain ⟨v, L, hv, hL⟩ := open_ops h2
 rw [show Tryz.prog.cellsOf 43 = 3 by kernel_rfl] at hl
 match cs, hl with
 | [c0, c1, c2], _ =>
  simp at hs hf' hv
  exact ⟨(s, f, L), v, by simp [hs, hf', hv], hL⟩
theorem open_txns {n : Nat} {cs : List Value} {y : DataW H × List MemPlace} (h : DataW.trod enc Tryz.prog w base spare held n 23 cs = some y) : ∃ v L, cs = [v] ∧ TxnsA w v L :=
 open_slR Tryz.underlying23 (by kernel_rfl) (fun _ _ _ h => open_txn h) h
theorem open_strsA {n : Nat} {cs : List Value} {y : DataW H × List MemPlace} (h : DataW.trod enc Tryz.prog w base spare held n 22 cs = some y) : ∃ v L, cs = [v] ∧ StrsA w v L :=
 open_slR Tryz.underlying22 (by kernel_rfl) (fun _ _ _ h => open_str h) h
set_option maxRecDepth 100000 in
theorem open_hist {r : Reach} {b0 : Nat} {v : Value} {d : DataW H} {ps : List MemPlace} (hval : Value.okWide Tryz.prog w r b0 25 v) (hd : DataW.Trod enc Tryz.prog w base spare held 25 v d ps) : ∃ h, HistA w v h := by
 obtain ⟨c0, c1, c2, y0, y1, y2, m, rfl, -, -, h0, h1, h2⟩ := open_agg3 Tryz.underlying25 (by kernel_rfl) (show Tryz.prog.cellsOf 25 = 3 by kernel_rfl) hval hd
 obtain ⟨v0, L0, e0, a0⟩ := open_strsA h0
 obtain ⟨v1, L1, e1, a1⟩ := open_strsA h1
 obtain ⟨v2, L2, e2, a2⟩ := open_txns h2
 simp at e0 e1 e2
 subst e0 e1 e2
 exact ⟨(L0, L1, L2), c0, c1, c2, rfl, a0, a1, a2⟩
end
theorem flat_get {α : Type} (f : α → List Value) (s : Nat) (hf : ∀ x, (f x).length = s) (d : α) : ∀ (L : List α) (j i : Nat), j < L.length → i < s → (L.flatMap f)[j * s + i]? = (f (L.getD j d))[i]?
 | [], j, _, hj, _ => absurd hj (Nat.not_lt_zero j)
 | x :: L, 0, i, _, hi => by
  rw [List.flatMap_cons, Nat.zero_mul, Nat.zero_add, List.getElem?_append_left (by rw [hf]; exact hi)]
  rfl
 | x :: L, j + 1, i, hj, hi => by
  rw [List.flatMap_cons, List.getElem?_append_right (by rw [hf, Nat.add_mul]; omega), hf, show (j + 1) * s + i - s = j * s + i by rw [Nat.add_mul]; omega]
  rw [flat_get f s hf d L j i (by simpa using hj) hi]
  rfl
theorem own_rowK {w : World} {base size n : Nat} {e : TypeId} {v : Value} {xs : List Value} (h : w.ownsRow base e size v n xs) : ∃ p cap, v = .slice p n cap ∧ n ≤ cap ∧ cap ≤ maxLen ∧ ∀ q u, q < n * size → xs[q]? = some u → ∃ g, p = some ⟨g, 0, none⟩ ∧ w.cell? ⟨g, q, none⟩ = some u := by
 obtain ⟨h1, ⟨rfl, rfl⟩ | ⟨g, cap, cur, rfl, -, hw, hc, hm, hs, ht⟩⟩ := h
 ·exact ⟨none, 0, rfl, Nat.le_refl _, Nat.zero_le _, fun q u hq => by omega⟩
 ·refine ⟨_, cap, rfl, hc, hm, fun q u hq hu => ⟨g, rfl, ?_⟩⟩
  have h2 := congrArg (fun x : List Value => x[q]?) ht
  simp only [List.getElem?_take, hq, if_true, Array.getElem?_toList] at h2
  rw [cell_of_row w g q _ _ (0, 0) hw, h2, hu]
theorem own_slR {α β : Type} {w : World} {base s : Nat} {e : TypeId} {v : Value} {L : List β} (f : β → List Value) (hf : ∀ x, (f x).length = s) (hs : 0 < s) (d : β) (g : β → α) {R : World → List Value → α → Prop} (h : w.ownsRow base e s v L.length (L.flatMap f)) (hR : ∀ x ∈ L, R w (f x) (g x)) : SlR s R w v (L.map g) := by
 obtain ⟨p, cap, rfl, h1, h2, hc⟩ := own_rowK h
 refine ⟨p, cap, by rw [List.length_map], by rw [List.length_map]; exact h1, h2, fun j hj => ?_⟩
 rw [List.length_map] at hj
 have hD : L.getD j d = L[j] := by simp [hj]
 have hg : ∀ i u, i < s → (f L[j])[i]? = some u → ∃ g, p = some ⟨g, 0, none⟩ ∧ w.cell? ⟨g, j * s + i, none⟩ = some u := fun i u hi hu =>
  hc _ u (by
   have : (j + 1) * s ≤ L.length * s := Nat.mul_le_mul_right s hj
   rw [Nat.add_mul] at this
   omega) (by rw [flat_get f s hf d L j i hj hi, hD]; exact hu)
 obtain ⟨g0, rfl, -⟩ := hg 0 ((f L[j])[0]'(by rw [hf]; exact hs)) hs (by simp)
 refine ⟨_, f L[j], rfl, hf _, fun i u hu => ?_, by rw [List.getElem_map]; exact hR _ (List.getElem_mem hj)⟩
 obtain ⟨g1, e1, h3⟩ := hg i u (by have := (List.getElem?_eq_some_iff.1 hu).1; rw [hf] at this; exact this) hu
 cases e1
 rw [Addr.add_lit, Nat.zero_add]
 exact h3
def opsCells (L : List OpM) : List Value := L.flatMap opCells
theorem own_ops {w : World} {base : Nat} {e : TypeId} {v : Value} {L : List OpM} (h : w.ownsRow base e 4 v L.length (opsCells L)) : OpsS w v L := by
 obtain ⟨p, cap, rfl, -, -, hc⟩ := own_rowK h
 refine ⟨p, cap, rfl, fun j hj => ?_⟩
 have hg : ∀ i u, i < 4 → (opCells (L.getD j noOp))[i]? = some u → ∃ g, p = some ⟨g, 0, none⟩ ∧ w.cell? ⟨g, j * 4 + i, none⟩ = some u := fun i u hi hu =>
  hc _ u (by omega) (by rw [opsCells, flat_get opCells 4 (fun _ => rfl) noOp L j i hj hi]; exact hu)
 obtain ⟨g, rfl, h0⟩ := hg 0 _ (by omega) rfl
 obtain ⟨g1, e1, h1⟩ := hg 1 _ (by omega) rfl
 obtain ⟨g2, e2, h2⟩ := hg 2 _ (by omega) rfl
 obtain ⟨g3, e3, h3⟩ := hg 3 _ (by omega) rfl
 cases e1; cases e2; cases e3
 exact ⟨g, rfl, h0, h1, h2, h3⟩
abbrev TxnV := TxnM × Value
def txnCells (t : TxnV) : List Value := [.int .i64 t.1.1, .int .i64 t.1.2.1, t.2]
def txnsCells (L : List TxnV) : List Value := L.flatMap txnCells
theorem own_txns {w : World} {base : Nat} {e : TypeId} {v : Value} {L : List TxnV} (h : w.ownsRow base e 3 v L.length (txnsCells L)) (ho : ∀ t ∈ L, OpsS w t.2 t.1.2.2) : TxnsS w v (L.map (·.1)) := by
 obtain ⟨p, cap, rfl, -, -, hc⟩ := own_rowK h
 refine ⟨p, cap, by rw [List.length_map], fun j hj => ?_⟩
 rw [List.length_map] at hj
 have hg : ∀ i u, i < 3 → (txnCells (L.getD j (noTxn, .nilIface)))[i]? = some u → ∃ g, p = some ⟨g, 0, none⟩ ∧ w.cell? ⟨g, j * 3 + i, none⟩ = some u := fun i u hi hu =>
  hc _ u (by omega) (by rw [txnsCells, flat_get txnCells 3 (fun _ => rfl) (noTxn, .nilIface) L j i hj hi]; exact hu)
 obtain ⟨g, rfl, h0⟩ := hg 0 _ (by omega) rfl
 obtain ⟨g1, e1, h1⟩ := hg 1 _ (by omega) rfl
 obtain ⟨g2, e2, h2⟩ := hg 2 _ (by omega) rfl
 cases e1; cases e2
 have hD : (L.map (·.1)).getD j noTxn = (L.getD j (noTxn, .nilIface)).1 := by simp [hj]
 have hM : L.getD j (noTxn, .nilIface) ∈ L := by
  have : L.getD j (noTxn, .nilIface) = L[j] := by simp [hj]
  rw [this]
  exact List.getElem_mem hj
 exact ⟨g, _, rfl, by rw [hD]; exact h0, by rw [hD]; exact h1, h2, by rw [hD]; exact ho _ hM⟩
theorem own_opsA {w : World} {base : Nat} {e : TypeId} {v : Value} {L : List OpM} (h : w.ownsRow base e 4 v L.length (opsCells L)) : OpsA w v L := by
 have := own_slR (R := OpR) opCells (fun _ => rfl) (by omega) noOp id h (fun x _ => rfl)
 rwa [List.map_id] at this
theorem own_txnsA {w : World} {base : Nat} {e : TypeId} {v : Value} {L : List TxnV} (h : w.ownsRow base e 3 v L.length (txnsCells L)) (ho : ∀ t ∈ L, OpsA w t.2 t.1.2.2) : TxnsA w v (L.map (·.1)) :=
 own_slR (R := TxnR) txnCells (fun _ => rfl) (by omega) (noTxn, .nilIface) (·.1) h (fun x hx => ⟨_, rfl, ho x hx⟩)
theorem own_strsA {w : World} {base : Nat} {e : TypeId} {v : Value} {L : List (List UInt8)} (h : w.ownsRow base e 1 v L.length (strs L)) (hl : ∀ s ∈ L, s.length ≤ 9223372036854775807) : StrsA w v L := by
 have h' : w.ownsRow base e 1 v L.length (L.flatMap fun s => [.string (bs s)]) := by
  have : L.flatMap (fun s => [Value.string (bs s)]) = strs L := by
   unfold strs
   clear h hl
   induction L with
   | nil => rfl
   | cons x L ih => rw [List.flatMap_cons, ih]; rfl
  rw [this]; exact h
 have := own_slR (R := StrR) (s := 1) (fun s => [.string (bs s)]) (fun _ => rfl) (by omega) [] id h' (fun x hx => ⟨rfl, hl x hx⟩)
 rwa [List.map_id] at this
end Go.Proofs.YthgbfaoblnkniaaGreatDoor

namespace Go.Proofs.YthgbfaoblnkniaaGreatDoor
open Go.RowKit Go.Shelf Go.Lib
attribute [local go_sem] Oper.semAt_some
abbrev PlaceM := Nat × Nat
def PlacesS (w : World) (v : Value) (L : List PlaceM) : Prop := ∃ p cap, v = .slice p L.length cap ∧ ∀ j, j < L.length → ∃ g, p = some ⟨g, 0, none⟩ ∧ w.cell? ⟨g, j * 2, none⟩ = some (.int .i64 ((L.getD j (0, 0)).1 : Nat)) ∧ w.cell? ⟨g, j * 2 + 1, none⟩ = some (.int .i64 ((L.getD j (0, 0)).2 : Nat))
theorem PlacesS.below {w w' : World} {v : Value} {L : List PlaceM} (h : PlacesS w v L) (hb : Below w.heap.size w w') : PlacesS w' v L := by
 obtain ⟨p, cap, hv, ht⟩ := h
 refine ⟨p, cap, hv, fun j hj => ?_⟩
 obtain ⟨g, hp, h1, h2⟩ := ht j hj
 exact ⟨g, hp, cell_later hb h1, cell_later hb h2⟩
end Go.Proofs.YthgbfaoblnkniaaGreatDoor

namespace Go.Proofs.YthgbfaoblnkniaaGreatDoor
open Go.RowKit Go.Lib
end Go.Proofs.YthgbfaoblnkniaaGreatDoor

namespace Go.Proofs.YthgbfaoblnkniaaGreatDoor
open Go.RowKit Go.Lib
theorem hmay_v {w : World} {v : Value} {h : HistM} (hv : HistV w v h) (hm : Modst h) (hT : Lib.Utf8Tabs 1 2 w) : Calls Tryz.prog 17 #[v] w fun e w' => e = .returned (.int .i64 (errH h)) ∧ Below w.heap.size w w' := by
 obtain ⟨v0, v1, v2, rfl, h0, h1, h2⟩ := hv
 exact hmay_any v0 v1 v2 h w h0 h1 h2 hm hT
theorem rmay_v {w : World} {v : Value} {h : HistM} (hv : HistV w v h) (hm : Modst h) : Calls Tryz.prog 16 #[v] w fun e w' => e = .returned (.int .i64 (errH h)) ∧ Below w.heap.size w w' := by
 obtain ⟨v0, v1, v2, rfl, h0, h1, h2⟩ := hv
 exact rmay_any v0 v1 v2 h w h0 h1 h2 hm
end Go.Proofs.YthgbfaoblnkniaaGreatDoor

namespace Go.Proofs.YthgbfaoblnkniaaGreatDoor
open Go.RowKit
section
variable {P : Program} {ops : Array Oper} {Q : Exit → Act → World → Prop} {md : Region.Mode} {S : World → Prop} {last : Nat}
def wpAnyT (P : Program) (md : Region.Mode) (ops : Array Oper) (Q : Exit → Act → World → Prop) (S : World → Prop) (last : Nat) : Nat → Array Bool → Act → World → Prop
 | 0, listed, a, w => Region.ready md ops listed = [] ∧ Q .normal a w
 | fuel + 1, listed, a, w =>
  (Region.ready md ops listed = [] → Q .normal a w) ∧
  ∀ i ∈ Region.ready md ops listed, wpOp P ops Q i (fun a' w' => (i ≠ last → S w') ∧ wpAnyT P md ops Q S last fuel (listed.setIfInBounds i true) a' w') a w
theorem wpAny_of_tail : ∀ (fuel : Nat) (listed : Array Bool) (a : Act) (w : World), wpAnyT P md ops Q S last fuel listed a w → wpAny P md ops Q fuel listed a w
 | 0, _, _, _, h => h
 | fuel + 1, _, _, _, h => ⟨h.1, fun i hi => wpOp_mono (fun a' w' h' => wpAny_of_tail fuel _ a' w' h'.2) (h.2 i hi)⟩
def waitsB (md : Region.Mode) (ops : Array Oper) (last i : Nat) : Bool := match ops[last]? with
 | some o => o.after.any fun e => Region.binds md e && e.on == i
 | none => false
theorem not_last {i : Nat} {listed : Array Bool} (hw : waitsB md ops last i = true) (hi : listed.getD i true = false) : last ∉ Region.ready md ops listed := by
 intro h
 obtain ⟨-, o, ho, hall⟩ := mem_ready.1 h
 unfold waitsB at hw
 rw [ho] at hw
 obtain ⟨e, he, hb⟩ := Array.any_eq_true'.1 hw
 simp only [Bool.and_eq_true, beq_iff_eq] at hb
 have h1 := hall e he hb.1
 rw [hb.2] at h1
 rcases Nat.lt_or_ge i listed.size with h' | h'
 ·simp [h'] at hi h1; rw [hi] at h1; cases h1
 ·simp [Array.getElem?_eq_none h'] at h1
theorem wpAnyT_first {i : Nat} {oi : Oper} {v : Value} (hi : ops[i]? = some oi) (hsel : ∀ (j : Nat) (o : Oper) cs b, ops[j]? = some o → o.op ≠ .select cs b)
  (hQ : ∀ c a w, Q (.panic c) (a.put oi.dst v) w → Q (.panic c) a w) (hw : waitsB md ops last i = true) (hil : i ≠ last) :
  ∀ (fuel : Nat) (listed : Array Bool) (a : Act) (w : World),
   (∀ j oj, ops[j]? = some oj → j ≠ i → listed.getD j true = false → (∀ e ∈ oj.after, Region.binds md e = true → e.on ≠ i) → oi.apart ops oj = true) →
   i ∈ Region.ready md ops listed → YieldsIf P ops S oi v a → S w →
   wpAnyT P md ops Q S last fuel (listed.setIfInBounds i true) (a.put oi.dst v) w → wpAnyT P md ops Q S last (fuel + 1) listed a w := by
 intro fuel
 induction fuel with
 | zero =>
  intro listed a w _ hr hy hS H
  refine ⟨fun h => (by rw [h] at hr; cases hr), fun j hj => ?_⟩
  by_cases hji : j = i
  ·subst hji; exact hy.wpOp hi hS ⟨fun _ => hS, H⟩
  ·have := ready_mono hj hji
   rw [H.1] at this
   cases this
 | succ fuel ih =>
  intro listed a w hfree hr hy hS H
  refine ⟨fun h => (by rw [h] at hr; cases hr), fun j hj => ?_⟩
  by_cases hji : j = i
  ·subst hji; exact hy.wpOp hi hS ⟨fun _ => hS, H⟩
  ·have hjl : j ≠ last := fun e => not_last hw (mem_ready.1 hr).1 (e ▸ hj)
   have h1 := H.2 j (ready_mono hj hji)
   obtain ⟨hjun, oj, hoj, hall⟩ := mem_ready.1 hj
   have hnot : ∀ e ∈ oj.after, Region.binds md e = true → e.on ≠ i := fun e he hb heq => by
    have h1 := hall e he hb
    have h0 := (mem_ready.1 hr).1
    rw [heq] at h1
    rcases Nat.lt_or_ge i listed.size with h' | h'
    ·simp [h'] at h0 h1; rw [h0] at h1; cases h1
    ·simp [Array.getElem?_eq_none h'] at h1
   have h2 := wpOp_putIf hoj (hfree j oj hoj hji hjun hnot) (fun cs b => hsel i oi cs b hi) (fun cs b => hsel j oj cs b hoj) hQ hy h1
   have hfree' : ∀ k ok, ops[k]? = some ok → k ≠ i → (listed.setIfInBounds j true).getD k true = false →
     (∀ e ∈ ok.after, Region.binds md e = true → e.on ≠ i) → oi.apart ops ok = true := fun k ok hk hki hun hno => by
    refine hfree k ok hk hki ?_ hno
    by_cases hjk : j = k
    ·subst hjk; exact hjun
    ·rw [getD_set_ne true hjk] at hun; exact hun
   refine wpOp_mono (fun a' w' h3 => ⟨fun _ => h3.2.1 hjl, ih (listed.setIfInBounds j true) a' w' hfree' (ready_mono hr (Ne.symm hji)) h3.1 (h3.2.1 hjl) ?_⟩) h2
   rw [Array.setIfInBounds_comm _ _ hji]
   exact h3.2.2
theorem wpAnyT_take (i : Nat) {d : Tmp} {op : Op} {ty : TypeId} {pos : String} {aft : Array Edge} {gd : Option (Nat × Bool)} {v : Value} {fuel : Nat} {listed : Array Bool} {a : Act} {w : World} (hi : ops[i]? = some ⟨some d, op, ty, pos, aft, gd⟩)
  (hs : Region.noSelect ops = true) (hf : Region.free md ops listed i = true) (hr : (Region.ready md ops listed).contains i = true) (hw : waitsB md ops last i = true) (hil : decide (i ≠ last) = true)
  (hQ : ∀ c a w, Q (.panic c) (a.put (some d) v) w → Q (.panic c) a w) (hy : YieldsIf P ops S ⟨some d, op, ty, pos, aft, gd⟩ v a) (hS : S w)
  (h : wpAnyT P md ops Q S last fuel (listed.setIfInBounds i true) (a.put (some d) v) w) : wpAnyT P md ops Q S last (fuel + 1) listed a w :=
 wpAnyT_first hi (Region.noSelect_spec hs) hQ hw (of_decide_eq_true hil) fuel listed a w (Region.free_spec hi hf) (by simpa using hr) hy hS h
theorem wpAnyT_one (i : Nat) {d : Option Tmp} {op : Op} {ty : TypeId} {pos : String} {aft : Array Edge} {gd : Option (Nat × Bool)} {fuel : Nat} {listed : Array Bool} {a : Act} {w : World} (ho : ops[i]? = some ⟨d, op, ty, pos, aft, gd⟩) (hr : Region.ready md ops listed = [i])
  (h : ∀ K : Act → World → Prop, RowKit.Hid (∀ a' w', (i ≠ last → S w') → wpAnyT P md ops Q S last fuel (listed.setIfInBounds i true) a' w' → K a' w') → if Region.wanted ⟨d, op, ty, pos, aft, gd⟩ (yielded ops a.tmps) = true then Oper.wp P ⟨d, op, ty, pos, aft, gd⟩ a w K Q else K (a.put d undef) w) : wpAnyT P md ops Q S last (fuel + 1) listed a w := by
 refine ⟨fun h0 => (by rw [hr] at h0; cases h0), fun j hj => ?_⟩
 rw [hr] at hj
 obtain rfl : j = i := by simpa using hj
 exact wpOp_step ho (fun K hK => h K (Lib.hid (fun a' w' h1 h2 => hK a' w' ⟨h1, h2⟩)))
theorem wpAnyT_done {listed : Array Bool} {a : Act} {w : World} (hr : Region.ready md ops listed = []) (h : Q .normal a w) : ∀ fuel, wpAnyT P md ops Q S last fuel listed a w
 | 0 => ⟨hr, h⟩
 | _ + 1 => ⟨fun _ => h, by rw [hr]; simp⟩
theorem wp_region_tail (S : World → Prop) (last : Nat) {id : Nat} {a : Act} {w : World} (hm : P.follows .mixedOrders = true)
  (h : wpAnyT P .any ops Q S last ops.size (Array.replicate ops.size false) a w.drew) : (Code.region id ops true).wp P Q a w :=
 wp_region_any hm (wpAny_of_tail _ _ _ _ h)
end
end Go.Proofs.YthgbfaoblnkniaaGreatDoor
