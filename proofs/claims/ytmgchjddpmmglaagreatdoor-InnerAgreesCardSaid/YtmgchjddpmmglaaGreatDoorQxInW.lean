/-
  Layer 13 (inner): the statement InnerAgrees, walked. Conditions: unicode/utf8's two tables and event.words hold what their initialisers lay, internal/bytealg.MaxLen holds a number.
-/
import Derived.Test.YtmgchjddpmmglaaGreatDoorQIc
import Derived.Test.YtmgchjddpmmglaaGreatDoorQxInT
import Derived.Test.YtmgchjddpmmglaaGreatDoorQxInH
namespace Go.Proofs.YtmgchjddpmmglaaGreatDoor
open Go.RowKit Go.Lib
theorem badl_len {h : HistM} (hm : Modst h) (t : Int) : (badL h t).length ≤ 1000 := Nat.le_trans (bad_len _ _) (opsI_len hm t)
theorem bads_has {h : HistM} (hmm : mayH h = true) (i m : Nat) (hi : i < h.2.2.length) (hk : m < (h.2.2.getD i noTxn).2.2.length) : (badL h i).contains (m : Int) = isBad (h.2.2.getD i noTxn).2.2 m := by
 unfold badL
 rw [opsI_yes hmm i hi]
 exact bad_mem _ _ m hk
theorem own_at {h : HistM} (hmm : mayH h = true) (i m : Nat) (hi : i < h.2.2.length) (hk : m < (h.2.2.getD i noTxn).2.2.length) : ownP h i m = rawO ((h.2.2.getD i noTxn).2.2.getD m noOp).2.1 ((h.2.2.getD i noTxn).2.2.take m) := by
 unfold ownP
 rw [opsI_yes hmm i hi, if_pos ⟨by omega, by omega⟩, Int.toNat_natCast]
theorem outer_at {h : HistM} (hmm : mayH h = true) (i m : Nat) (hi : i < h.2.2.length) (hk : m < (h.2.2.getD i noTxn).2.2.length) : outerP h i m = (!((h.2.2.getD i noTxn).2.2.getD m noOp).1 && !(rawO ((h.2.2.getD i noTxn).2.2.getD m noOp).2.1 ((h.2.2.getD i noTxn).2.2.take m)).2) := by
 unfold outerP
 rw [opsI_yes hmm i hi, if_pos ⟨by omega, by omega⟩, Int.toNat_natCast]
theorem writers_has {h : HistM} (hmm : mayH h = true) (i : Nat) (key : Int) (hi : i < h.2.2.length) : (writersL h key).contains (i : Int) = ((h.2.2.getD i noTxn).2.1 != 2 && (rawO key (h.2.2.getD i noTxn).2.2).2) := by
 unfold writersL
 rw [whereL_yes _ hmm, idxs_mem _ _ _ i hi, raw_any]
 rfl
set_option maxRecDepth 100000 in
set_option maxHeartbeats 4000000 in
theorem inneragrees_any (v : Value) (hM : HistM) (w : World) (hv : HistA w v hM) (hT : Lib.Utf8Tabs 1 2 w) (hm : HasMax w) (hE : EvTab w) :
  Calls Tryz.prog 9 #[v] w fun e w' => e = .returned (.bool true) ∧ Below w.heap.size w w' := by
 have HA0 := Lib.hid hv
 obtain ⟨v0, v1, v2, rfl, ⟨p0, c0, rfl, -⟩, ⟨p1, c1, rfl, -⟩, ⟨p2, c2, rfl, -⟩⟩ := hv
 have hal := (Below.refl w.heap.size w).alloc (Nat.le_refl _) (.cells #[.slice p0 hM.1.length c0, .slice p1 hM.2.1.length c1, .slice p2 hM.2.2.length c2] 25)
 have HAL := Lib.hid hal
 have HW0 := Lib.hid (works13_any _ (Utf8Tabs_below hT hal) (hm.below hal) (hE.below hal))
 have HBx := Lib.hid (Blk.new w 25 [.slice p0 hM.1.length c0, .slice p1 hM.2.1.length c1, .slice p2 hM.2.2.length c2])
 have HT := Lib.hid hT
 have HMo := Lib.hid (few_modst hM)
 clear hm hE hT hal
 go_enter Tryz.func9, Tryz.ntmps9
 go_wp2_with fail
 refine HW0.out.mono ?_
 rintro e w0 ⟨rfl, hb0⟩
 have HB0 := Lib.hid (below_next HAL.out hb0)
 have B0 := Lib.hid (HBx.out.later hb0)
 have y0 := B0.out.cell 0 rfl
 have y1 := B0.out.cell 1 rfl
 have y2 := B0.out.cell 2 rfl
 have HF0 := Lib.hid (few11_any _ _ hM (HA0.out.below HB0.out))
 clear hb0 HW0 HBx HAL
 go_wp2_with fail
 refine HF0.out.mono ?_
 rintro e w1 ⟨v', rfl, hv', ha', hb1⟩
 have HV1 := Lib.hid hv'
 have HA1 := Lib.hid ha'
 obtain ⟨u0, u1, u2, rfl, ⟨q0, d0, rfl, -⟩, ⟨q1, d1, rfl, -⟩, ⟨q2, d2, rfl, -⟩⟩ := hv'
 have z := B0.out.later hb1
 have z0 := z.cell 0 rfl
 have z1 := z.cell 1 rfl
 have z2 := z.cell 2 rfl
 have z3 := z.frozen 0
 have z4 := z.frozen 1
 have z5 := z.frozen 2
 have ST := Lib.hid (few_stored (HB0.out) B0.out (by intro x hx; simp at hx; rcases hx with rfl | rfl | rfl <;> exact ⟨_, _, _, rfl⟩) hb1 HV1.out HA1.out)
 clear ha' hb1 z y0 y1 y2 HF0 HV1 HA1
 go_upto_region 4 with fail
 generalize (((w1.setCell ⟨w.heap.size, 0, none⟩ (.slice q0 (fewH hM).1.length d0)).setCell ⟨w.heap.size, 1, none⟩ (.slice q1 (fewH hM).2.1.length d1)).setCell ⟨w.heap.size, 2, none⟩ (.slice q2 (fewH hM).2.2.length d2)) = W2 at *
 obtain ⟨k0, HVx, HAx, hbW⟩ := ST.out
 have KB := Lib.hid k0
 have HV2 := Lib.hid HVx
 have HA2 := Lib.hid HAx
 have HBW := Lib.hid hbW
 have o0 := k0.cell 0 rfl
 have o1 := k0.cell 1 rfl
 have o2 := k0.cell 2 rfl
 have hl0 : w.heap.size < W2.heap.size := k0.lt
 clear ST k0 HVx HAx hbW z0 z1 z2 z3 z4 z5
 have HFF := Lib.hid (fun w' v (ha : HistA w' v (fewH hM)) => few_v ha)
 generalize fewH hM = hF at *
 have HS0 : RowKit.Hid (∀ w', Below W2.heap.size W2 w' → (w'.cell? ⟨w.heap.size, 0, none⟩ = some (.slice q0 hF.1.length d0) ∧ w'.cell? ⟨w.heap.size, 1, none⟩ = some (.slice q1 hF.2.1.length d1) ∧ w'.cell? ⟨w.heap.size, 2, none⟩ = some (.slice q2 hF.2.2.length d2) ∧ Below W2.heap.size W2 w')) := Lib.hid (fun w' hb => ⟨(KB.out.later hb).cell 0 rfl, (KB.out.later hb).cell 1 rfl, (KB.out.later hb).cell 2 rfl, hb⟩)
 have HAb := Lib.hid (fun w' (hb : Below W2.heap.size W2 w') => HA2.out.below hb)
 have HVb := Lib.hid (fun w' (hb : Below W2.heap.size W2 w') => HV2.out.below hb)
 have HTb := Lib.hid (fun w' (hb : Below W2.heap.size W2 w') => Utf8Tabs_below HT.out (HBW.out.trans (hb.mono HBW.out.size)))
 have HFin := Lib.hid (fun w' (hb : Below W2.heap.size W2 w') => HBW.out.trans (hb.mono HBW.out.size))
 have HKb := Lib.hid (fun w' (hb : Below W2.heap.size W2 w') => KB.out.later hb)
 clear HS0
 go_wp2_with fail
 refine (rmay_v HV2.out HMo.out).mono ?_
 rintro e w3 ⟨rfl, hb3⟩
 cases hmm : mayH hF with
 | false =>
  rw [err_no hmm]
  have HNo : RowKit.Hid (badL hF 0 = []) := Lib.hid (by unfold badL; rw [opsI_no hmm]; rfl)
  have HB3 := Lib.hid hb3
  have z0 := (HKb.out _ hb3).cell 0 rfl
  have z1 := (HKb.out _ hb3).cell 1 rfl
  have z2 := (HKb.out _ hb3).cell 2 rfl
  clear o0 o1 o2 hb3 hmm
  go_wp2_with fail
  refine (bad13_any 0 (HVb.out _ HB3.out) HMo.out (HTb.out _ HB3.out)).mono ?_
  rintro e w4 ⟨v4, rfl, hi4, hb4⟩
  rw [HNo.out] at hi4
  obtain ⟨p4, c4, rfl, -⟩ := hi4
  dsimp only [List.length_nil]
  go_wp2_with fail
  go_ret
  exact ⟨rfl, HFin.out _ (below_next HB3.out hb4)⟩
 | true =>
  rw [err_yes hmm]
  have HMM := Lib.hid hmm
  have HB3w := Lib.hid hb3
  clear o0 o1 o2 hb3 hmm
  obtain ⟨v0', v1', v2', hve, -, -, ⟨pt, ct, hvt, k2⟩⟩ := HV2.out
  have HX0 := Lib.hid k2
  have HQ : q2 = pt := by
   simp at hve
   rw [hvt] at hve
   have := hve.2.2
   simp at this
   exact this.1
  subst HQ
  clear hve hvt k2
  go_wp2_with fail
  go_loopw [3] (fun i wr => ∃ k : Nat, k ≤ hF.2.2.length ∧ i = .int .i64 k ∧ Below W2.heap.size W2 wr) (fun i _ => hF.2.2.length - (RowKit.intOf i).toNat)
  case atStart => exact ⟨0, Nat.zero_le _, rfl, HB3w.out⟩
  case round =>
   obtain ⟨i, hi, rfl, hbw⟩ := hrel
   have x0 := (HKb.out _ hbw).cell 0 rfl
   have x1 := (HKb.out _ hbw).cell 1 rfl
   have x2 := (HKb.out _ hbw).cell 2 rfl
   have m3 : hF.2.2.length ≤ 1000 := HMo.out.2.2.1
   by_cases hi1 : i < hF.2.2.length
   ·have HBW2 := Lib.hid hbw
    obtain ⟨g, sv, rfl, a1, a2, a3, a4⟩ := HX0.out i hi1
    have htl : (hF.2.2.getD i noTxn).2.2.length ≤ 1000 := by rw [← opsI_yes HMM.out i hi1]; exact opsI_len HMo.out _
    have HBM := Lib.hid (fun m (hk : m < (hF.2.2.getD i noTxn).2.2.length) => bads_has HMM.out i m hi1 hk)
    have HOM := Lib.hid (fun m (hk : m < (hF.2.2.getD i noTxn).2.2.length) => own_at HMM.out i m hi1 hk)
    have HUM := Lib.hid (fun m (hk : m < (hF.2.2.getD i noTxn).2.2.length) => outer_at HMM.out i m hi1 hk)
    have HWM := Lib.hid (fun key => writers_has HMM.out i key hi1)
    have HLM := Lib.hid (opsI_yes HMM.out i hi1)
    have HLb := Lib.hid (badl_len HMo.out (i : Int))
    obtain ⟨⟨ts, tf, tl⟩, htt⟩ : ∃ q, hF.2.2.getD i noTxn = q := ⟨_, rfl⟩
    rw [htt] at a1 a2 a4 htl HBM HOM HUM HWM HLM
    dsimp only at a1 a2 a4 htl HBM HOM HUM HWM HLM
    obtain ⟨p3, c3, rfl, -, hops⟩ := a4
    have HO := Lib.hid hops
    have HA2x := Lib.hid (fun w' (hb : Below W2.heap.size W2 w') => cell_later hb a2)
    have HA3x := Lib.hid (fun w' (hb : Below W2.heap.size W2 w') => cell_later hb a3)
    clear hbw hops htt a1 a2 a3
    go_wp2_with fail
    refine (bad13_any (i : Int) (HVb.out _ HBW2.out) HMo.out (HTb.out _ HBW2.out)).mono ?_
    rintro e w4 ⟨v4, rfl, hi4, hb4⟩
    have HB3 := Lib.hid (below_next HBW2.out hb4)
    have HI4 := Lib.hid hi4
    clear hb4 hi4 x0 x1 x2
    go_wp2_with fail
    go_loopw [5] (fun k wr => ∃ m : Nat, m ≤ tl.length ∧ k = .int .i64 m ∧ Below w4.heap.size w4 wr) (fun k _ => tl.length - (RowKit.intOf k).toNat)
    case atStart => exact ⟨0, Nat.zero_le _, rfl, Below.refl _ _⟩
    case round =>
     obtain ⟨m, hk, rfl, hbr⟩ := hrel
     have HBR := Lib.hid hbr
     have HBR2 := Lib.hid (below_next HB3.out hbr)
     have x0 := (HKb.out _ HBR2.out).cell 0 rfl
     have x1 := (HKb.out _ HBR2.out).cell 1 rfl
     have x2 := (HKb.out _ HBR2.out).cell 2 rfl
     have xl := (HKb.out _ HBR2.out).lt
     have a3 := HA3x.out _ HBR2.out
     clear hbr
     by_cases hk1 : m < tl.length
     ·obtain ⟨go, rfl, k1, k2, k3, k4⟩ := HO.out m hk1
      have k1 := cell_later HBR2.out k1
      have k2 := cell_later HBR2.out k2
      have k3 := cell_later HBR2.out k3
      have k4 := cell_later HBR2.out k4
      have HBE := Lib.hid (HBM.out m hk1)
      have HOE0 := Lib.hid (HOM.out m hk1)
      have HOE1 := Lib.hid (HUM.out m hk1)
      have HWE0 := Lib.hid (HWM.out (tl.getD m noOp).2.1)
      have hbd : isBad tl m = (!(tl.getD m noOp).1 && ((tl.getD m noOp).2.2.1 != 2 && ((rawO (tl.getD m noOp).2.1 (tl.take m)).2 && (rawO (tl.getD m noOp).2.1 (tl.take m)).1 != (tl.getD m noOp).2.2))) := rfl
      obtain ⟨⟨ow, ok, od, on⟩, hoo⟩ : ∃ q, tl.getD m noOp = q := ⟨_, rfl⟩
      rw [hoo] at k1 k2 k3 k4 hbd HOE0 HOE1 HWE0
      dsimp only at k1 k2 k3 k4 hbd HOE0 HOE1 HWE0
      obtain ⟨⟨⟨gk, gn⟩, gb⟩, hg⟩ : ∃ r, rawO ok (tl.take m) = r := ⟨_, rfl⟩
      rw [hg] at hbd HOE0 HOE1
      dsimp only at hbd HOE0 HOE1
      obtain ⟨⟨⟨lk, ln⟩, gl⟩, hl⟩ : ∃ r, rawO ok tl = r := ⟨_, rfl⟩
      rw [hl] at HWE0
      dsimp only at HWE0
      have HLE : RowKit.Hid (rawO ok (opsI hF i) = ((lk, ln), gl)) := Lib.hid (by rw [HLM.out]; exact hl)
      have HBd := Lib.hid hbd
      have hal := HBR.out.alloc HBR.out.size (.cells #[.bool ow, .int .i64 ok, .int .i64 od, .int .i64 on] 51)
      have HOB := Lib.hid (Blk.new wr 51 [.bool ow, .int .i64 ok, .int .i64 od, .int .i64 on])
      have HAl := Lib.hid hal
      clear hg hoo hl hbd hal
      go_wp2_with fail
      refine (own13_any (i : Int) (m : Int) (HVb.out _ (below_next HB3.out HAl.out)) HMo.out (HTb.out _ (below_next HB3.out HAl.out))).mono ?_
      rintro e w5 ⟨he, hb5⟩
      rw [HOE0.out] at he
      dsimp only at he
      subst he
      have HB5 := Lib.hid (below_next HAl.out hb5)
      have HOB5 := Lib.hid (HOB.out.later hb5)
      clear hb5 x0 x1 x2 a3 k1 k2 k3 k4 xl HAl HOB
      go_upto_region 15 with fail
      have HBq := Lib.hid (HB5.out.alloc HB5.out.size (.cells #[.int .i64 gk, .int .i64 gn] 49))
      have HOBq := Lib.hid (HOB5.out.alloc (.cells #[.int .i64 gk, .int .i64 gn] 49))
      have HVq := Lib.hid (Blk.new w5 49 [.int .i64 gk, .int .i64 gn])
      obtain ⟨wq, hwq⟩ : ∃ q, w5.alloc (.cells #[.int .i64 gk, .int .i64 gn] 49) = q := ⟨_, rfl⟩
      rw [hwq] at HBq HOBq HVq ⊢
      clear hwq HB5 HOB5
      have t0 := HOBq.out.cell 0 rfl
      have t2 := HOBq.out.cell 2 rfl
      have t3 := HOBq.out.cell 3 rfl
      have s0 := HVq.out.cell 0 rfl
      have s1 := HVq.out.cell 1 rfl
      go_cut [9] (fun s9 wx => s9 = .bool (isBad tl m) ∧ wx = wq)
      case first =>
       cases ow with
       | true =>
        go_wp2_with fail
        go_meet
        exact ⟨by rw [HBd.out] <;> rfl, rfl⟩
       | false =>
        cases gb with
        | false =>
         go_wp2_with fail
         go_meet
         exact ⟨by rw [HBd.out] <;> simp, rfl⟩
        | true =>
         by_cases hod : od = 2
         ·subst hod
          go_wp2_with fail
          go_meet
          exact ⟨by rw [HBd.out] <;> simp, rfl⟩
         ·have hod3 : (od != 2) = true := by simpa using hod
          by_cases hv1 : gk = od
          ·subst hv1
           by_cases hv2 : gn = on
           ·subst hv2
            go_wp2_with fail
            go_meet
            exact ⟨by rw [HBd.out] <;> simp, rfl⟩
           ·have hne : ((gk, gn) != (gk, on)) = true := by rw [bne_iff_ne]; intro e; injection e with e1 e2; exact hv2 e2
            have HN2 := Lib.hid (show isBad tl m = true by rw [HBd.out, hne, hod3]; rfl)
            clear hne
            go_wp2_with fail
            go_meet
            exact ⟨by rw [HN2.out] <;> simp, rfl⟩
          ·have hne : ((gk, gn) != (od, on)) = true := by rw [bne_iff_ne]; intro e; injection e with e1 e2; exact hv1 e1
           have HN2 := Lib.hid (show isBad tl m = true by rw [HBd.out, hne, hod3]; rfl)
           clear hne
           go_wp2_with fail
           go_meet
           exact ⟨by rw [HN2.out] <;> simp, rfl⟩
      case rest =>
       obtain ⟨rfl, rfl⟩ := hcut
       clear t0 t2 t3 s0 s1
       have HBQ2 := Lib.hid (below_next HB3.out HBq.out)
       have HHas := Lib.hid (fun w' (hb : Below wc.heap.size wc w') => hasint_any (m : Int) (HI4.out.below (below_next HBq.out hb)) (by have := HLb.out; omega))
       rw [HBE.out] at HHas
       have HOut := Lib.hid (fun w' (hb : Below wc.heap.size wc w') => outer13_any (i : Int) (m : Int) (HVb.out _ (below_next HBQ2.out hb)) HMo.out (HTb.out _ (below_next HBQ2.out hb)))
       obtain ⟨wq, hwq⟩ : ∃ q, wc = q := ⟨_, rfl⟩
       rw [hwq] at HBq HOBq HVq HBQ2 HHas HOut ⊢
       clear hwq
       have HS : RowKit.Hid (∀ w', Below wq.heap.size wq w' → w'.cell? ⟨w.heap.size, 0, none⟩ = some (.slice q0 hF.1.length d0) ∧ w'.cell? ⟨w.heap.size, 1, none⟩ = some (.slice q1 hF.2.1.length d1) ∧ w'.cell? ⟨w.heap.size, 2, none⟩ = some (.slice (some ⟨g, 0, none⟩) hF.2.2.length d2) ∧ w'.cell? ⟨wr.heap.size, 0, none⟩ = some (.bool ow) ∧ Below wq.heap.size wq w') := Lib.hid (fun w' hb => ⟨(HKb.out _ (below_next HBQ2.out hb)).cell 0 rfl, (HKb.out _ (below_next HBQ2.out hb)).cell 1 rfl, (HKb.out _ (below_next HBQ2.out hb)).cell 2 rfl, (HOBq.out.later hb).cell 0 rfl, hb⟩)
       generalize isBad tl m = B at *
       go_upto_region 16 with fail
       go_cut [98] (fun s98 wx => s98 = .bool false ∧ Below wq.heap.size wq wx)
       case first =>
        cases ow with
        | true =>
         have HOE : RowKit.Hid (outerP hF i m = false) := Lib.hid (by rw [HOE1.out]; rfl)
         refine wp_region_keep (fun w' => w'.cell? ⟨w.heap.size, 0, none⟩ = some (.slice q0 hF.1.length d0) ∧ w'.cell? ⟨w.heap.size, 1, none⟩ = some (.slice q1 hF.2.1.length d1) ∧ w'.cell? ⟨w.heap.size, 2, none⟩ = some (.slice (some ⟨g, 0, none⟩) hF.2.2.length d2) ∧ w'.cell? ⟨wr.heap.size, 0, none⟩ = some (.bool true) ∧ Below wq.heap.size wq w') [] (by kernel_rfl) ?_
         have hB0 : Below (wq).heap.size (wq) (wq).drew := Below.drew (Below.refl _ _)
         have hS0 := HS.out _ hB0
         refine wfr 0 (v := ?_) rfl ?_ ?_
         rotate_left
         ·intro w' hw';go_simp;try with_reducible rfl
         try simp only [Act.put, sq]
         refine wfr 1 (v := ?_) rfl ?_ ?_
         rotate_left
         ·intro w' hw';go_simp;try with_reducible rfl
         try simp only [Act.put, sq]
         refine wfr 3 (v := ?_) rfl ?_ ?_
         rotate_left
         ·intro w' hw';go_simp;try with_reducible rfl
         try simp only [Act.put, sq]
         refine won 2 rfl fun K hK => ?_
         go_simp
         refine (HHas.out _ hB0).mono ?_
         rintro e w1 ⟨rfl, hb1⟩
         have hB1 := below_next hB0 hb1
         have hS1 := HS.out _ hB1
         refine hK.out _ _ (fun _ _ => hS1) ?_
         clear hK K hS0
         try simp only [Act.put, sq]
         refine won 4 rfl fun K hK => ?_
         go_simp
         refine hK.out _ _ (fun _ h => h) ?_
         clear hK K
         try simp only [Act.put, sq]
         refine won 5 rfl fun K hK => ?_
         go_simp
         refine hK.out _ _ (fun _ h => h) ?_
         clear hK K
         try simp only [Act.put, sq]
         refine wtk 6 20 (v := ?_) rfl ?_ hS1 ?_
         rotate_left
         ·intro w' hw';(try dsimp only at hw');go_simp;try with_reducible rfl
         try simp only [Act.put, sq]
         refine wfr 7 (v := ?_) rfl ?_ ?_
         rotate_left
         ·intro w' hw';go_simp;try with_reducible rfl
         try simp only [Act.put, sq]
         refine wfr 8 (v := ?_) rfl ?_ ?_
         rotate_left
         ·intro w' hw';go_simp;try with_reducible rfl
         try simp only [Act.put, sq]
         refine wfr 9 (v := ?_) rfl ?_ ?_
         rotate_left
         ·intro w' hw';go_simp;try with_reducible rfl
         try simp only [Act.put, sq]
         refine wfr 11 (v := ?_) rfl ?_ ?_
         rotate_left
         ·intro w' hw';go_simp;try with_reducible rfl
         try simp only [Act.put, sq]
         refine wtk 12 20 (v := ?_) rfl ?_ hS1 ?_
         rotate_left
         ·intro w' hw';(try dsimp only at hw');go_simp;try with_reducible rfl
         try simp only [Act.put, sq]
         refine wfr 13 (v := ?_) rfl ?_ ?_
         rotate_left
         ·intro w' hw';go_simp;try with_reducible rfl
         try simp only [Act.put, sq]
         refine won 10 rfl fun K hK => ?_
         go_simp
         refine (HOut.out _ hB1).mono ?_
         rintro e w2 ⟨he, hb2⟩
         have hB2 := below_next hB1 hb2
         have hS2 := HS.out _ hB2
         rw [HOE.out] at he
         subst he
         refine hK.out _ _ (fun _ _ => hS2) ?_
         clear hK K hS1
         try simp only [Act.put, sq]
         refine won 14 rfl fun K hK => ?_
         go_simp
         refine hK.out _ _ (fun _ h => h) ?_
         clear hK K
         try simp only [Act.put, sq]
         refine won 15 rfl fun K hK => ?_
         go_simp
         refine hK.out _ _ (fun _ h => h) ?_
         clear hK K
         try simp only [Act.put, sq]
         refine won 16 rfl fun K hK => ?_
         go_simp
         refine hK.out _ _ (fun _ h => h) ?_
         clear hK K
         try simp only [Act.put, sq]
         refine won 17 rfl fun K hK => ?_
         go_simp
         refine hK.out _ _ (fun _ h => h) ?_
         clear hK K
         try simp only [Act.put, sq]
         refine won 18 rfl fun K hK => ?_
         go_simp
         refine hK.out _ _ (fun _ h => h) ?_
         clear hK K
         try simp only [Act.put, sq]
         refine won 19 rfl fun K hK => ?_
         go_simp
         refine hK.out _ _ (fun _ h => h) ?_
         clear hK K
         try simp only [Act.put, sq]
         refine wpAnyM_done (by kernel_rfl) ?_ _
         try simp only [Act.put, sq]
         go_wp2_with fail
         go_meet
         exact ⟨by simp, hB2⟩
        | false =>
         have HOE : RowKit.Hid (outerP hF i m = !gb) := Lib.hid (by rw [HOE1.out]; rfl)
         refine wp_region_keep (fun w' => w'.cell? ⟨w.heap.size, 0, none⟩ = some (.slice q0 hF.1.length d0) ∧ w'.cell? ⟨w.heap.size, 1, none⟩ = some (.slice q1 hF.2.1.length d1) ∧ w'.cell? ⟨w.heap.size, 2, none⟩ = some (.slice (some ⟨g, 0, none⟩) hF.2.2.length d2) ∧ w'.cell? ⟨wr.heap.size, 0, none⟩ = some (.bool false) ∧ Below wq.heap.size wq w') [] (by kernel_rfl) ?_
         have hB0 : Below (wq).heap.size (wq) (wq).drew := Below.drew (Below.refl _ _)
         have hS0 := HS.out _ hB0
         refine wfr 0 (v := ?_) rfl ?_ ?_
         rotate_left
         ·intro w' hw';go_simp;try with_reducible rfl
         try simp only [Act.put, sq]
         refine wfr 1 (v := ?_) rfl ?_ ?_
         rotate_left
         ·intro w' hw';go_simp;try with_reducible rfl
         try simp only [Act.put, sq]
         refine wfr 3 (v := ?_) rfl ?_ ?_
         rotate_left
         ·intro w' hw';go_simp;try with_reducible rfl
         try simp only [Act.put, sq]
         refine won 2 rfl fun K hK => ?_
         go_simp
         refine (HHas.out _ hB0).mono ?_
         rintro e w1 ⟨rfl, hb1⟩
         have hB1 := below_next hB0 hb1
         have hS1 := HS.out _ hB1
         refine hK.out _ _ (fun _ _ => hS1) ?_
         clear hK K hS0
         try simp only [Act.put, sq]
         refine won 4 rfl fun K hK => ?_
         go_simp
         refine hK.out _ _ (fun _ h => h) ?_
         clear hK K
         try simp only [Act.put, sq]
         refine won 5 rfl fun K hK => ?_
         go_simp
         refine hK.out _ _ (fun _ h => h) ?_
         clear hK K
         try simp only [Act.put, sq]
         refine wtk 6 20 (v := ?_) rfl ?_ hS1 ?_
         rotate_left
         ·intro w' hw';(try dsimp only at hw');go_simp;try with_reducible rfl
         try simp only [Act.put, sq]
         refine wfr 7 (v := ?_) rfl ?_ ?_
         rotate_left
         ·intro w' hw';go_simp;try with_reducible rfl
         try simp only [Act.put, sq]
         refine wfr 8 (v := ?_) rfl ?_ ?_
         rotate_left
         ·intro w' hw';go_simp;try with_reducible rfl
         try simp only [Act.put, sq]
         refine wfr 9 (v := ?_) rfl ?_ ?_
         rotate_left
         ·intro w' hw';go_simp;try with_reducible rfl
         try simp only [Act.put, sq]
         refine wfr 11 (v := ?_) rfl ?_ ?_
         rotate_left
         ·intro w' hw';go_simp;try with_reducible rfl
         try simp only [Act.put, sq]
         refine wtk 12 20 (v := ?_) rfl ?_ hS1 ?_
         rotate_left
         ·intro w' hw';(try dsimp only at hw');go_simp;try with_reducible rfl
         try simp only [Act.put, sq]
         refine wfr 13 (v := ?_) rfl ?_ ?_
         rotate_left
         ·intro w' hw';go_simp;try with_reducible rfl
         try simp only [Act.put, sq]
         refine won 10 rfl fun K hK => ?_
         go_simp
         refine (HOut.out _ hB1).mono ?_
         rintro e w2 ⟨he, hb2⟩
         have hB2 := below_next hB1 hb2
         have hS2 := HS.out _ hB2
         rw [HOE.out] at he
         subst he
         refine hK.out _ _ (fun _ _ => hS2) ?_
         clear hK K hS1
         try simp only [Act.put, sq]
         refine won 14 rfl fun K hK => ?_
         go_simp
         refine hK.out _ _ (fun _ h => h) ?_
         clear hK K
         try simp only [Act.put, sq]
         refine won 15 rfl fun K hK => ?_
         go_simp
         refine hK.out _ _ (fun _ h => h) ?_
         clear hK K
         try simp only [Act.put, sq]
         refine won 16 rfl fun K hK => ?_
         go_simp
         refine hK.out _ _ (fun _ h => h) ?_
         clear hK K
         try simp only [Act.put, sq]
         refine won 17 rfl fun K hK => ?_
         go_simp
         refine hK.out _ _ (fun _ h => h) ?_
         clear hK K
         try simp only [Act.put, sq]
         refine won 18 rfl fun K hK => ?_
         go_simp
         refine hK.out _ _ (fun _ h => h) ?_
         clear hK K
         try simp only [Act.put, sq]
         refine won 19 rfl fun K hK => ?_
         go_simp
         refine hK.out _ _ (fun _ h => h) ?_
         clear hK K
         try simp only [Act.put, sq]
         refine wpAnyM_done (by kernel_rfl) ?_ _
         try simp only [Act.put, sq]
         go_wp2_with fail
         go_meet
         exact ⟨by simp, hB2⟩
       case rest =>
        obtain ⟨rfl, hbx⟩ := hcut
        have HBX := Lib.hid (below_next HBq.out hbx)
        have t1 := (HOBq.out.later hbx).cell 1 rfl
        have x0 := (HS.out _ hbx).1
        have x1 := (HS.out _ hbx).2.1
        have x2 := (HS.out _ hbx).2.2.1
        have HBX2 := Lib.hid (below_next HB3.out HBX.out)
        have HOBx := Lib.hid (HOBq.out.later hbx)
        clear hbx HHas HOut HS
        go_wp2_with fail
        refine (leaves13_any (i : Int) ok (HVb.out _ HBX2.out) HMo.out (HTb.out _ HBX2.out)).mono ?_
        rintro e w6 ⟨he, hb6⟩
        rw [HLE.out] at he
        dsimp only at he
        subst he
        have HB6 := Lib.hid (below_next HBX.out hb6)
        have HOB6 := Lib.hid (HOBx.out.later hb6)
        clear hb6 t1 x0 x1 x2 HBX HBX2 HOBx
        go_upto_region 19 with fail
        have HBI := Lib.hid (HB6.out.alloc HB6.out.size (.cells #[.int .i64 lk, .int .i64 ln] 49))
        have HOBi := Lib.hid (HOB6.out.alloc (.cells #[.int .i64 lk, .int .i64 ln] 49))
        obtain ⟨wi, hwi⟩ : ∃ q, w6.alloc (.cells #[.int .i64 lk, .int .i64 ln] 49) = q := ⟨_, rfl⟩
        rw [hwi] at HBI HOBi ⊢
        clear hwi HB6 HOB6
        have HBI2 := Lib.hid (below_next HB3.out HBI.out)
        have t1 := HOBi.out.cell 1 rfl
        have x0 := (HKb.out _ HBI2.out).cell 0 rfl
        have x1 := (HKb.out _ HBI2.out).cell 1 rfl
        have x2 := (HKb.out _ HBI2.out).cell 2 rfl
        have HWr := Lib.hid (fun w' (hb : Below wi.heap.size wi w') => writers13_any ok (HVb.out _ (below_next HBI2.out hb)) HMo.out (HTb.out _ (below_next HBI2.out hb)))
        have HLw : RowKit.Hid ((writersL hF ok).length ≤ 1000) := Lib.hid (whereL_len (writesP ok) hF HMo.out)
        cases gl with
        | false =>
         have HWE : RowKit.Hid ((writersL hF ok).contains (i : Int) = false) := Lib.hid (by rw [HWE0.out]; simp)
         go_wp2_with fail
         refine (HWr.out _ (Below.refl _ _)).mono ?_
         rintro e w7 ⟨vw, rfl, hiw, hb7⟩
         have HB7 := Lib.hid (below_next HBI.out hb7)
         have HIw := Lib.hid hiw
         clear hb7 hiw
         clear t1 x0 x1 x2
         go_wp2_with fail
         refine (hasint_any (i : Int) HIw.out (by have := HLw.out; omega)).mono ?_
         rintro e w8 ⟨he, hb8⟩
         rw [HWE.out] at he
         subst he
         have HB8 := Lib.hid (below_next HB7.out hb8)
         have x2 := (HKb.out _ (below_next HB3.out HB8.out)).cell 2 rfl
         have a2 := HA2x.out _ (below_next HB3.out HB8.out)
         clear hb8
         go_wp2_with fail
         go_roundw
         case rel => exact ⟨m + 1, by omega, by go_num, HB8.out⟩
         case measure => simp [RowKit.intOf]; omega
        | true =>
         by_cases hf : tf = 2
         ·subst hf
          have HWE : RowKit.Hid ((writersL hF ok).contains (i : Int) = false) := Lib.hid (by rw [HWE0.out]; rfl)
          go_wp2_with fail
          refine (HWr.out _ (Below.refl _ _)).mono ?_
          rintro e w7 ⟨vw, rfl, hiw, hb7⟩
          have HB7 := Lib.hid (below_next HBI.out hb7)
          have HIw := Lib.hid hiw
          clear hb7 hiw
          clear t1 x0 x1 x2
          go_wp2_with fail
          refine (hasint_any (i : Int) HIw.out (by have := HLw.out; omega)).mono ?_
          rintro e w8 ⟨he, hb8⟩
          rw [HWE.out] at he
          subst he
          have HB8 := Lib.hid (below_next HB7.out hb8)
          have x2 := (HKb.out _ (below_next HB3.out HB8.out)).cell 2 rfl
          have a2 := HA2x.out _ (below_next HB3.out HB8.out)
          clear hb8
          go_wp2_with fail
          go_roundw
          case rel => exact ⟨m + 1, by omega, by go_num, HB8.out⟩
          case measure => simp [RowKit.intOf]; omega
         ·have HWE : RowKit.Hid ((writersL hF ok).contains (i : Int) = true) := Lib.hid (by rw [HWE0.out]; simpa using hf)
          have hf2 : (tf != 2) = true := by simpa using hf
          go_wp2_with fail
          refine (HWr.out _ (Below.refl _ _)).mono ?_
          rintro e w7 ⟨vw, rfl, hiw, hb7⟩
          have HB7 := Lib.hid (below_next HBI.out hb7)
          have HIw := Lib.hid hiw
          clear hb7 hiw
          clear t1 x0 x1 x2
          go_wp2_with fail
          refine (hasint_any (i : Int) HIw.out (by have := HLw.out; omega)).mono ?_
          rintro e w8 ⟨he, hb8⟩
          rw [HWE.out] at he
          subst he
          have HB8 := Lib.hid (below_next HB7.out hb8)
          have x2 := (HKb.out _ (below_next HB3.out HB8.out)).cell 2 rfl
          have a2 := HA2x.out _ (below_next HB3.out HB8.out)
          clear hb8
          go_wp2_with fail
          go_roundw
          case rel => exact ⟨m + 1, by omega, by go_num, HB8.out⟩
          case measure => simp [RowKit.intOf]; omega
     ·have hke : m = tl.length := by omega
      subst hke
      go_wp2_with fail
      go_roundw
      case rel => exact ⟨i + 1, by omega, by go_num, HBR2.out⟩
      case measure => simp [RowKit.intOf]; omega
   ·have hke : i = hF.2.2.length := by omega
    subst hke
    have HBn := Lib.hid hbw
    go_wp2_with fail
    go_ret
    exact ⟨rfl, HFin.out _ HBn.out⟩
end Go.Proofs.YtmgchjddpmmglaaGreatDoor
