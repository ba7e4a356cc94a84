/-
  Layer 13's reference (inner): bad reads, writers, walked. No conditions.
-/
import Derived.Test.YtmgchjddpmmglaaGreatDoorQxInE
import Derived.Test.YtmgchjddpmmglaaGreatDoorQxInR
namespace Go.Proofs.YtmgchjddpmmglaaGreatDoor
open Go.RowKit Go.Lib
attribute [local go_sem] Later.cell Later.frozen
set_option maxRecDepth 100000 in
set_option maxHeartbeats 4000000 in
theorem rbad13_any {w : World} {v : Value} {h : HistM} (t : Int) (hv : HistV w v h) (hm : Modst h) :
  Calls Tryz.prog 33 #[v, .int .i64 t] w fun e w' => ∃ v', e = .returned v' ∧ IntsS w' v' (badL h t) ∧ Below w.heap.size w w' := by
 have H0 := Lib.hid hv
 obtain ⟨v0, v1, v2, rfl, ⟨p0, c0, rfl, -⟩, ⟨p1, c1, rfl, -⟩, ⟨p2, c2, rfl, k2⟩⟩ := hv
 have hal := ((Below.refl w.heap.size w).alloc (Nat.le_refl _) (.cells #[.slice p0 h.1.length c0, .slice p1 h.2.1.length c1, .slice p2 h.2.2.length c2] 25)).alloc (by simp) (.cells #[] 3)
 have HMay := Lib.hid (rmay_v (H0.out.below hal) hm)
 have hbx := (Blk.new w 25 [.slice p0 h.1.length c0, .slice p1 h.2.1.length c1, .slice p2 h.2.2.length c2]).alloc (.cells #[] 3)
 have hown0 := World.ownsRow_made (base := w.heap.size + 1) (size := 1) (e := 3) (w.alloc (.cells #[.slice p0 h.1.length c0, .slice p1 h.2.1.length c1, .slice p2 h.2.2.length c2] 25)) #[] 0 (by simp) (Nat.zero_le _) rfl
 simp only [World.size_alloc] at hown0
 have HBX := Lib.hid hbx
 have HOw0 := Lib.hid hown0
 have HX := Lib.hid k2
 have HAL := Lib.hid hal
 have HMod := Lib.hid hm
 obtain ⟨i0, hi, hz0, hz1, hz2⟩ := info_parts info_i64
 clear hal hm H0 hbx hown0 k2
 go_enter Tryz.func33, Tryz.ntmps33
 go_wp2_with fail
 refine HMay.out.mono ?_
 rintro e w1 ⟨rfl, hb1⟩
 have HB1 := Lib.hid (below_next HAL.out hb1)
 have HX1 := Lib.hid (HBX.out.later hb1)
 have HOw1 := Lib.hid (owns_later HOw0.out hb1)
 have x2 := HX1.out.cell 2 rfl
 have xl := HX1.out.lt
 clear hb1 HMay HBX HOw0 HAL
 have hBL : badL h t = badK (opsI h t) (opsI h t).length := rfl
 have HNone := Lib.hid (own_intsI (L := []) HOw1.out)
 have HNo : RowKit.Hid (opsI h t = [] → badL h t = []) := Lib.hid (fun e => by rw [hBL, e]; rfl)
 cases hmm : mayH h with
 | false =>
  have HE := Lib.hid (HNo.out (opsI_no hmm t))
  rw [err_no hmm]
  clear hmm HNo
  go_wp2_with fail
  go_ret
  exact ⟨_, rfl, by rw [HE.out]; exact HNone.out, HB1.out⟩
 | true =>
  rw [err_yes hmm]
  by_cases g1 : t < 0
  ·have HE := Lib.hid (HNo.out (opsI_low t g1))
   clear hmm HNo
   go_wp2_with fail
   go_ret
   exact ⟨_, rfl, by rw [HE.out]; exact HNone.out, HB1.out⟩
  ·by_cases g2 : (h.2.2.length : Int) ≤ t
   ·have HE := Lib.hid (HNo.out (opsI_high t g2))
    clear hmm HNo
    go_wp2_with fail
    go_ret
    exact ⟨_, rfl, by rw [HE.out]; exact HNone.out, HB1.out⟩
   ·obtain ⟨a, rfl⟩ := Int.eq_ofNat_of_zero_le (show (0 : Int) ≤ t by omega)
    have ha : a < h.2.2.length := by omega
    have hop := opsI_yes hmm a ha
    obtain ⟨g, sv, rfl, a1, a2, a3, a4⟩ := HX.out a ha
    have htl : (h.2.2.getD a noTxn).2.2.length ≤ 1000 := by rw [← hop]; exact opsI_len HMod.out _
    have a1 := cell_later HB1.out a1
    have a2 := cell_later HB1.out a2
    have a3 := cell_later HB1.out a3
    obtain ⟨⟨ts, tf, tl⟩, htt⟩ : ∃ q, h.2.2.getD a noTxn = q := ⟨_, rfl⟩
    rw [htt] at a1 a2 a4 hop htl
    dsimp only at a1 a2 a4 hop htl
    rw [hop] at hBL
    have HBL := Lib.hid hBL
    have HOps1 := Lib.hid a4
    obtain ⟨p3, c3, rfl, hcap, hops⟩ := a4
    have HO := Lib.hid hops
    clear hops hcap htt hop hmm HNo HNone hBL
    have hbt := Blk.new w1 47 [.int .i64 ts, .int .i64 tf, .slice p3 tl.length c3]
    have hal2 := (Below.refl w1.heap.size w1).alloc (Nat.le_refl _) (.cells #[.int .i64 ts, .int .i64 tf, .slice p3 tl.length c3] 47)
    have HBt := Lib.hid hbt
    have HOw2 := Lib.hid (HOw1.out.alloc (.cells #[.int .i64 ts, .int .i64 tf, .slice p3 tl.length c3] 47))
    have HW0 : RowKit.Hid (w.heap.size + 1 ≤ (w1.alloc (.cells #[.int .i64 ts, .int .i64 tf, .slice p3 tl.length c3] 47)).heap.size) := Lib.hid (by have := HB1.out.size; simp; omega)
    have HAl2 := Lib.hid hal2
    clear hbt hal2 HOw1
    go_wp2_with fail
    obtain ⟨W0, hW0⟩ : ∃ W0, w1.alloc (.cells #[.int .i64 ts, .int .i64 tf, .slice p3 tl.length c3] 47) = W0 := ⟨_, rfl⟩
    rw [hW0] at HBt HOw2 HW0 HAl2
    try rw [hW0]
    clear hW0
    have HBo : RowKit.Hid (∀ wr, Below (w.heap.size + 1) W0 wr → Below w.heap.size w wr) := Lib.hid (fun wr hb => (below_next HB1.out HAl2.out).trans (hb.mono (by omega)))
    have e1 : decide ((a : Int) < 0) = false := by simp
    have e2 : decide (h.2.2.length ≤ a) = false := by simpa using ha
    simp only [e1, e2, Bool.or_self]
    clear e1 e2 ha g1 g2
    go_loopw [5, 7] (fun l i wr => ∃ k : Nat, k ≤ tl.length ∧ i = .int .i64 k ∧ wr.ownsRow (w.heap.size + 1) 3 1 l (badK tl k).length (vints (badK tl k)) ∧ Below (w.heap.size + 1) W0 wr ∧ Blk wr w1.heap.size 47 [.int .i64 ts, .int .i64 tf, .slice p3 tl.length c3]) (fun _ i _ => tl.length - (RowKit.intOf i).toNat)
    case atStart => exact ⟨0, Nat.zero_le _, rfl, HOw2.out, Below.refl _ _, HBt.out⟩
    case round =>
     obtain ⟨k, hk, rfl, hown, hbw, hbt⟩ := hrel
     have b0 := hbt.cell 0 rfl
     have b1 := hbt.cell 1 rfl
     have b2 := hbt.cell 2 rfl
     have blt := hbt.lt
     by_cases hk1 : k < tl.length
     ·have hb0 := HBo.out _ hbw
      obtain ⟨go, rfl, q1, q2, q3, q4⟩ := HO.out k hk1
      have q1 := cell_later hb0 q1
      have q2 := cell_later hb0 q2
      have q3 := cell_later hb0 q3
      have q4 := cell_later hb0 q4
      have HOps := Lib.hid (fun w' (hb : Below wr.heap.size wr w') => HOps1.out.below (below_next hb0 hb))
      have hnx := bad_next tl k
      have hil := bad_len tl k
      have hbd : isBad tl k = (!(tl.getD k noOp).1 && ((tl.getD k noOp).2.2.1 != 2 && ((rawO (tl.getD k noOp).2.1 (tl.take k)).2 && (rawO (tl.getD k noOp).2.1 (tl.take k)).1 != (tl.getD k noOp).2.2))) := rfl
      obtain ⟨I, hI⟩ : ∃ I, badK tl k = I := ⟨_, rfl⟩
      rw [hI] at hown hnx hil
      obtain ⟨⟨ow, ok, od, on⟩, hoo⟩ : ∃ q, tl.getD k noOp = q := ⟨_, rfl⟩
      rw [hoo] at q1 q2 q3 q4 hbd
      dsimp only at q1 q2 q3 q4 hbd
      obtain ⟨⟨⟨gk, gn⟩, gb⟩, hg⟩ : ∃ r, rawO ok (tl.take k) = r := ⟨_, rfl⟩
      rw [hg] at hbd
      dsimp only at hbd
      have HG := Lib.hid hg
      have HN : RowKit.Hid (isBad tl k = true → badK tl (k + 1) = I ++ [(k : Int)]) := Lib.hid (fun e => by rw [hnx, if_pos e])
      have HF : RowKit.Hid (isBad tl k = false → badK tl (k + 1) = I) := Lib.hid (fun e => by rw [hnx, if_neg (by rw [e]; exact Bool.false_ne_true)])
      have HBd := Lib.hid hbd
      have HBT := Lib.hid hbt
      have HOW := Lib.hid hown
      have HBW := Lib.hid hbw
      have HS : RowKit.Hid (∀ w', Below wr.heap.size wr w' → w'.cell? ⟨w1.heap.size, 0, none⟩ = some (.int .i64 ts) ∧ w'.cell? ⟨w1.heap.size, 1, none⟩ = some (.int .i64 tf) ∧ w'.cell? ⟨w1.heap.size, 2, none⟩ = some (.slice (some ⟨go, 0, none⟩) tl.length c3) ∧ w'.cell? ⟨go, k * 4 + 1, none⟩ = some (.int .i64 ok) ∧ Below wr.heap.size wr w') := Lib.hid (fun w' hb => ⟨cell_later hb b0, cell_later hb b1, cell_later hb b2, cell_later hb q2, hb⟩)
      clear hg hoo hI hnx hbd hbt hown hbw hb0
      go_upto_region 8 with fail
      go_cut [8, 9] (fun s8 s9 wx => ∃ b, s8 = .pointer (some ⟨b, 0, none⟩) ∧ s9 = .bool gb ∧ Blk wx b 49 [.int .i64 gk, .int .i64 gn] ∧ wr.heap.size ≤ b ∧ Below wr.heap.size wr wx)
      case first =>
       refine wp_region_keep (fun w' => w'.cell? ⟨w1.heap.size, 0, none⟩ = some (.int .i64 ts) ∧ w'.cell? ⟨w1.heap.size, 1, none⟩ = some (.int .i64 tf) ∧ w'.cell? ⟨w1.heap.size, 2, none⟩ = some (.slice (some ⟨go, 0, none⟩) tl.length c3) ∧ w'.cell? ⟨go, k * 4 + 1, none⟩ = some (.int .i64 ok) ∧ Below wr.heap.size wr w') [13] (by kernel_rfl) ?_
       have hB0 : Below (wr).heap.size (wr) (wr).drew := Below.drew (Below.refl _ _)
       obtain ⟨wd, hwd⟩ : ∃ q, (wr).drew = q := ⟨_, rfl⟩
       rw [hwd] at hB0 ⊢
       have HZ0 : RowKit.Hid (wd.heap.size = (wr).heap.size) := Lib.hid (by rw [← hwd]; rfl)
       clear hwd
       refine wtk 0 15 (v := ?_) rfl ?_ (HS.out _ hB0) ?_
       rotate_left
       ·intro w' hw';(try dsimp only at hw');go_simp;try with_reducible rfl
       try simp only [Act.put, sq]
       refine wfr 1 (v := ?_) rfl ?_ ?_
       rotate_left
       ·intro w' hw';go_simp;try with_reducible rfl
       try simp only [Act.put, sq]
       refine wfr 2 (v := ?_) rfl ?_ ?_
       rotate_left
       ·intro w' hw';go_simp;try with_reducible rfl
       try simp only [Act.put, sq]
       refine wtk 3 15 (v := ?_) rfl ?_ (HS.out _ hB0) ?_
       rotate_left
       ·intro w' hw';(try dsimp only at hw');go_simp;try with_reducible rfl
       try simp only [Act.put, sq]
       refine wfr 4 (v := ?_) rfl ?_ ?_
       rotate_left
       ·intro w' hw';go_simp;try with_reducible rfl
       try simp only [Act.put, sq]
       refine wfr 5 (v := ?_) rfl ?_ ?_
       rotate_left
       ·intro w' hw';go_simp;try with_reducible rfl
       try simp only [Act.put, sq]
       refine wfr 6 (v := ?_) rfl ?_ ?_
       rotate_left
       ·intro w' hw';go_simp;try with_reducible rfl
       try simp only [Act.put, sq]
       refine wtk 7 15 (v := ?_) rfl ?_ (HS.out _ hB0) ?_
       rotate_left
       ·intro w' hw';(try dsimp only at hw');go_simp;try with_reducible rfl
       try simp only [Act.put, sq]
       refine wpAnyM_two 8 12 rfl rfl (by kernel_rfl) (fun K hK => ?_) (fun K hK => ?_)
       ·go_simp
        refine (rraw_at (ts, tf, tl) (.slice (some ⟨go, 0, none⟩) tl.length c3) k ok _ (HOps.out _ hB0) htl).mono ?_
        rintro e w8 ⟨he, hb8⟩
        rw [HG.out] at he
        dsimp only at he
        subst he
        have hB8 := below_next hB0 hb8
        refine hK.out _ _ (fun _ _ => HS.out _ hB8) ?_
        clear hK K
        try simp only [Act.put, sq]
        refine wfr 9 (v := ?_) rfl ?_ ?_
        rotate_left
        ·intro w' hw';go_simp;try with_reducible rfl
        try simp only [Act.put, sq]
        refine wfr 10 (v := ?_) rfl ?_ ?_
        rotate_left
        ·intro w' hw';go_simp;try with_reducible rfl
        try simp only [Act.put, sq]
        refine wfr 11 (v := ?_) rfl ?_ ?_
        rotate_left
        ·intro w' hw';go_simp;try with_reducible rfl
        try simp only [Act.put, sq]
        refine won 12 rfl fun K hK => ?_
        go_simp
        have hB12 := hB8.alloc hB8.size (.cells #[.int .i64 0, .int .i64 0] 49)
        have hBl := Blk.new (w8) 49 [.int .i64 0, .int .i64 0]
        have hb12 := (Below.refl (w8).heap.size (w8)).alloc (Nat.le_refl _) (.cells #[.int .i64 0, .int .i64 0] 49)
        have hgB : (w8).heap.size < ((w8).alloc (.cells #[.int .i64 0, .int .i64 0] 49)).heap.size := by simp
        have hge : (wr).heap.size ≤ (w8).heap.size := hB8.size
        have hgo : ∀ k, k < (w8).heap.size → ((w8).alloc (.cells #[.int .i64 0, .int .i64 0] 49)).heap[k]? = (w8).heap[k]? := fun k hk => heap_kept _ _ hk
        refine hK.out _ _ (fun _ _ => HS.out _ hB12) ?_
        clear hK K
        try simp only [Act.put, sq]
        obtain ⟨w12, hw12⟩ : ∃ q, (w8).alloc (.cells #[.int .i64 0, .int .i64 0] 49) = q := ⟨_, rfl⟩
        rw [hw12] at hB12 hb12 hBl hgB hgo
        try simp only [hw12]
        obtain ⟨gh, hgh⟩ : ∃ q, (w8).heap.size = q := ⟨_, rfl⟩
        rw [hgh] at hBl hgB hgo hge
        try simp only [hgh]
        have HBl := Lib.hid hBl
        clear hBl hw12
        refine won 13 rfl fun K hK => ?_
        have r0 := HBl.out.cell 0 rfl
        have r1 := HBl.out.cell 1 rfl
        have f0 := HBl.out.frozen 0
        have f1 := HBl.out.frozen 1
        go_simp
        refine hK.out _ _ (fun h => absurd h (by decide)) ?_
        clear hK K
        try simp only [Act.put, sq]
        clear r0 r1 f0 f1
        refine won 14 rfl fun K hK => ?_
        go_simp
        refine hK.out _ _ (fun _ h => h) ?_
        clear hK K
        try simp only [Act.put, sq]
        refine wpAnyM_done (by kernel_rfl) ?_ _
        try simp only [Act.put, sq]
        go_wp2_with fail
        go_meet
        exact ⟨gh, rfl, rfl, store2 HBl.out _ _, hge, below_two_sets hB12 hge _ _⟩
       ·go_simp
        have hB12 := hB0.alloc hB0.size (.cells #[.int .i64 0, .int .i64 0] 49)
        have hBl := Blk.new (wd) 49 [.int .i64 0, .int .i64 0]
        have hb12 := (Below.refl (wd).heap.size (wd)).alloc (Nat.le_refl _) (.cells #[.int .i64 0, .int .i64 0] 49)
        have hgB : (wd).heap.size < ((wd).alloc (.cells #[.int .i64 0, .int .i64 0] 49)).heap.size := by simp
        have hge : (wr).heap.size ≤ (wd).heap.size := hB0.size
        have hgo : ∀ k, k < (wd).heap.size → ((wd).alloc (.cells #[.int .i64 0, .int .i64 0] 49)).heap[k]? = (wd).heap[k]? := fun k hk => heap_kept _ _ hk
        refine hK.out _ _ (fun _ _ => HS.out _ hB12) ?_
        clear hK K
        try simp only [Act.put, sq]
        obtain ⟨w12, hw12⟩ : ∃ q, (wd).alloc (.cells #[.int .i64 0, .int .i64 0] 49) = q := ⟨_, rfl⟩
        rw [hw12] at hB12 hb12 hBl hgB hgo
        try simp only [hw12]
        obtain ⟨gh, hgh⟩ : ∃ q, (wd).heap.size = q := ⟨_, rfl⟩
        rw [hgh] at hBl hgB hgo hge
        try simp only [hgh]
        have HBl := Lib.hid hBl
        clear hBl hw12
        refine won 8 rfl fun K hK => ?_
        go_simp
        refine (rraw_at (ts, tf, tl) (.slice (some ⟨go, 0, none⟩) tl.length c3) k ok _ (HOps.out _ hB12) htl).mono ?_
        rintro e w8 ⟨he, hb8⟩
        rw [HG.out] at he
        dsimp only at he
        subst he
        have hB8 := below_next hB12 hb8
        replace HBl := Lib.hid (HBl.out.later hb8)
        refine hK.out _ _ (fun _ _ => HS.out _ hB8) ?_
        clear hK K
        try simp only [Act.put, sq]
        refine won 9 rfl fun K hK => ?_
        go_simp
        refine hK.out _ _ (fun _ h => h) ?_
        clear hK K
        try simp only [Act.put, sq]
        refine wfr 10 (v := ?_) rfl ?_ ?_
        rotate_left
        ·intro w' hw';go_simp;try with_reducible rfl
        try simp only [Act.put, sq]
        refine wfr 11 (v := ?_) rfl ?_ ?_
        rotate_left
        ·intro w' hw';go_simp;try with_reducible rfl
        try simp only [Act.put, sq]
        refine won 13 rfl fun K hK => ?_
        have r0 := HBl.out.cell 0 rfl
        have r1 := HBl.out.cell 1 rfl
        have f0 := HBl.out.frozen 0
        have f1 := HBl.out.frozen 1
        go_simp
        refine hK.out _ _ (fun h => absurd h (by decide)) ?_
        clear hK K
        try simp only [Act.put, sq]
        clear r0 r1 f0 f1
        refine won 14 rfl fun K hK => ?_
        go_simp
        refine hK.out _ _ (fun _ h => h) ?_
        clear hK K
        try simp only [Act.put, sq]
        refine wpAnyM_done (by kernel_rfl) ?_ _
        try simp only [Act.put, sq]
        go_wp2_with fail
        go_meet
        exact ⟨gh, rfl, rfl, store2 HBl.out _ _, hge, below_two_sets hB8 hge _ _⟩
      case rest =>
       obtain ⟨b, rfl, rfl, hbv, hbge, hbx⟩ := hcut
       have q1 := cell_later hbx q1
       have q2 := cell_later hbx q2
       have q3 := cell_later hbx q3
       have q4 := cell_later hbx q4
       have hbt := HBT.out.later hbx
       have b0 := hbt.cell 0 rfl
       have b1 := hbt.cell 1 rfl
       have b2 := hbt.cell 2 rfl
       have y0 := hbv.cell 0 rfl
       have y1 := hbv.cell 1 rfl
       have HBTc := Lib.hid hbt
       have HOC := Lib.hid (owns_later HOW.out hbx)
       have HBC : RowKit.Hid (Below (w.heap.size + 1) W0 wc) := Lib.hid (HBW.out.trans (hbx.mono (by have := HBW.out.size; have := HW0.out; omega)))
       clear hbt hbv hbx HBT HOW HBW
       cases ow with
       | true =>
        have HN2 := Lib.hid (HF.out (by rw [HBd.out]; simp))
        clear HN HF HBd
        go_wp2_with fail
        go_quiet (fail)
        obtain ⟨wx, hwx⟩ : ∃ q, wc.drewN nq = q := ⟨_, rfl⟩
        have HOX : RowKit.Hid (wx.ownsRow (w.heap.size + 1) 3 1 u5 I.length (vints I)) := Lib.hid (by rw [← hwx]; exact owns_later HOC.out (Go.below_drewN (Below.refl _ _) _))
        have HBX : RowKit.Hid (Below (w.heap.size + 1) W0 wx) := Lib.hid (by rw [← hwx]; exact Go.below_drewN HBC.out _)
        have HBTx : RowKit.Hid (Blk wx w1.heap.size 47 [.int .i64 ts, .int .i64 tf, .slice (some ⟨go, 0, none⟩) tl.length c3]) := Lib.hid (by rw [← hwx]; exact HBTc.out.drewN _)
        rw [hwx]
        clear hwx
        go_wp2_with fail
        go_roundw
        case rel => exact ⟨k + 1, by omega, by go_num, by rw [HN2.out]; exact HOX.out, HBX.out, HBTx.out⟩
        case measure => simp [RowKit.intOf]; omega
       | false =>
        cases gb with
        | false =>
         have HN2 := Lib.hid (HF.out (by rw [HBd.out]; simp))
         clear HN HF HBd
         go_wp2_with fail
         go_quiet (fail)
         obtain ⟨wx, hwx⟩ : ∃ q, wc.drewN nq = q := ⟨_, rfl⟩
         have HOX : RowKit.Hid (wx.ownsRow (w.heap.size + 1) 3 1 u5 I.length (vints I)) := Lib.hid (by rw [← hwx]; exact owns_later HOC.out (Go.below_drewN (Below.refl _ _) _))
         have HBX : RowKit.Hid (Below (w.heap.size + 1) W0 wx) := Lib.hid (by rw [← hwx]; exact Go.below_drewN HBC.out _)
         have HBTx : RowKit.Hid (Blk wx w1.heap.size 47 [.int .i64 ts, .int .i64 tf, .slice (some ⟨go, 0, none⟩) tl.length c3]) := Lib.hid (by rw [← hwx]; exact HBTc.out.drewN _)
         rw [hwx]
         clear hwx
         go_wp2_with fail
         go_roundw
         case rel => exact ⟨k + 1, by omega, by go_num, by rw [HN2.out]; exact HOX.out, HBX.out, HBTx.out⟩
         case measure => simp [RowKit.intOf]; omega
        | true =>
         by_cases hod : od = 2
         ·subst hod
          have HN2 := Lib.hid (HF.out (by rw [HBd.out]; simp))
          clear HN HF HBd
          go_wp2_with fail
          go_quiet (fail)
          obtain ⟨wx, hwx⟩ : ∃ q, wc.drewN nq = q := ⟨_, rfl⟩
          have HOX : RowKit.Hid (wx.ownsRow (w.heap.size + 1) 3 1 u5 I.length (vints I)) := Lib.hid (by rw [← hwx]; exact owns_later HOC.out (Go.below_drewN (Below.refl _ _) _))
          have HBX : RowKit.Hid (Below (w.heap.size + 1) W0 wx) := Lib.hid (by rw [← hwx]; exact Go.below_drewN HBC.out _)
          have HBTx : RowKit.Hid (Blk wx w1.heap.size 47 [.int .i64 ts, .int .i64 tf, .slice (some ⟨go, 0, none⟩) tl.length c3]) := Lib.hid (by rw [← hwx]; exact HBTc.out.drewN _)
          rw [hwx]
          clear hwx
          go_wp2_with fail
          go_roundw
          case rel => exact ⟨k + 1, by omega, by go_num, by rw [HN2.out]; exact HOX.out, HBX.out, HBTx.out⟩
          case measure => simp [RowKit.intOf]; omega
         ·have hod3 : (od != 2) = true := by simpa using hod
          by_cases hv1 : od = gk
          ·subst hv1
           by_cases hv2 : on = gn
           ·subst hv2
            have HN2 := Lib.hid (HF.out (by rw [HBd.out]; simp))
            clear HN HF HBd
            go_wp2_with fail
            go_quiet (fail)
            obtain ⟨wx, hwx⟩ : ∃ q, wc.drewN nq = q := ⟨_, rfl⟩
            have HOX : RowKit.Hid (wx.ownsRow (w.heap.size + 1) 3 1 u5 I.length (vints I)) := Lib.hid (by rw [← hwx]; exact owns_later HOC.out (Go.below_drewN (Below.refl _ _) _))
            have HBX : RowKit.Hid (Below (w.heap.size + 1) W0 wx) := Lib.hid (by rw [← hwx]; exact Go.below_drewN HBC.out _)
            have HBTx : RowKit.Hid (Blk wx w1.heap.size 47 [.int .i64 ts, .int .i64 tf, .slice (some ⟨go, 0, none⟩) tl.length c3]) := Lib.hid (by rw [← hwx]; exact HBTc.out.drewN _)
            rw [hwx]
            clear hwx
            go_wp2_with fail
            go_roundw
            case rel => exact ⟨k + 1, by omega, by go_num, by rw [HN2.out]; exact HOX.out, HBX.out, HBTx.out⟩
            case measure => simp [RowKit.intOf]; omega
           ·have hne : ((od, gn) != (od, on)) = true := by rw [bne_iff_ne]; intro e; injection e with e1 e2; exact hv2 e2.symm
            have HN2 := Lib.hid (HN.out (by rw [HBd.out, hne]; simp [hod3]))
            clear HN HF HBd hne
            go_wp2_with fail
            go_quiet (fail)
            obtain ⟨wx, hwx⟩ : ∃ q, wc.drewN nq = q := ⟨_, rfl⟩
            have HOX : RowKit.Hid (wx.ownsRow (w.heap.size + 1) 3 1 u5 I.length (vints I)) := Lib.hid (by rw [← hwx]; exact owns_later HOC.out (Go.below_drewN (Below.refl _ _) _))
            have HBX : RowKit.Hid (Below (w.heap.size + 1) W0 wx) := Lib.hid (by rw [← hwx]; exact Go.below_drewN HBC.out _)
            have HBTx : RowKit.Hid (Blk wx w1.heap.size 47 [.int .i64 ts, .int .i64 tf, .slice (some ⟨go, 0, none⟩) tl.length c3]) := Lib.hid (by rw [← hwx]; exact HBTc.out.drewN _)
            rw [hwx]
            clear hwx
            go_wp2_with (at_builtin; refine wpList_append_own _ rfl _ _ 56 rfl (w.heap.size + 1) 3 i0 (.int .i64 0) 1 8 Tryz.underlying56 hi hz0 hz1 hz2 rfl (by decide) _ _ _ rfl (HOX.out.alloc _) ⟨wx.heap.size, 0, none⟩ 1 1 [.int .i64 (k : Nat)] rfl rfl (news_int _ _ _) (ones_int _) (by unfold maxLen; omega) (by omega) (by have := HBX.out.size; have := HW0.out; simp; omega) ?_)
            intro v4 w4 hown4 hgrow hnil
            have hb4 : Below (w.heap.size + 1) W0 w4 := (HBX.out.alloc (by have := HBX.out.size; have := HW0.out; omega) _).grown hgrow (by have := HBX.out.size; have := HW0.out; simp; omega) (fun k hk => (HOX.out.lt k hk).1)
            have HO4 : RowKit.Hid (w4.ownsRow (w.heap.size + 1) 3 1 v4 (badK tl (k + 1)).length (vints (badK tl (k + 1)))) := Lib.hid (by rw [HN2.out, ← vints_snoc, List.length_append]; exact hown4)
            have hbt4 := (HBTx.out.alloc (.cells #[.int .i64 (k : Nat)] 3)).kept hgrow (fun e => (HBTx.out.alloc (.cells #[.int .i64 (k : Nat)] 3)).ty.ne (owns_ty (HOX.out.alloc (.cells #[.int .i64 (k : Nat)] 3)) e.symm) (by decide) rfl)
            clear hown4 hgrow hnil
            go_wp2_with fail
            go_roundw
            case rel => exact ⟨k + 1, by omega, by go_num, HO4.out, hb4, hbt4⟩
            case measure => simp [RowKit.intOf]; omega
          ·have hne : ((gk, gn) != (od, on)) = true := by rw [bne_iff_ne]; intro e; injection e with e1 e2; exact hv1 e1.symm
           have HN2 := Lib.hid (HN.out (by rw [HBd.out, hne]; simp [hod3]))
           clear HN HF HBd hne
           go_wp2_with fail
           go_quiet (fail)
           obtain ⟨wx, hwx⟩ : ∃ q, wc.drewN nq = q := ⟨_, rfl⟩
           have HOX : RowKit.Hid (wx.ownsRow (w.heap.size + 1) 3 1 u5 I.length (vints I)) := Lib.hid (by rw [← hwx]; exact owns_later HOC.out (Go.below_drewN (Below.refl _ _) _))
           have HBX : RowKit.Hid (Below (w.heap.size + 1) W0 wx) := Lib.hid (by rw [← hwx]; exact Go.below_drewN HBC.out _)
           have HBTx : RowKit.Hid (Blk wx w1.heap.size 47 [.int .i64 ts, .int .i64 tf, .slice (some ⟨go, 0, none⟩) tl.length c3]) := Lib.hid (by rw [← hwx]; exact HBTc.out.drewN _)
           rw [hwx]
           clear hwx
           go_wp2_with (at_builtin; refine wpList_append_own _ rfl _ _ 56 rfl (w.heap.size + 1) 3 i0 (.int .i64 0) 1 8 Tryz.underlying56 hi hz0 hz1 hz2 rfl (by decide) _ _ _ rfl (HOX.out.alloc _) ⟨wx.heap.size, 0, none⟩ 1 1 [.int .i64 (k : Nat)] rfl rfl (news_int _ _ _) (ones_int _) (by unfold maxLen; omega) (by omega) (by have := HBX.out.size; have := HW0.out; simp; omega) ?_)
           intro v4 w4 hown4 hgrow hnil
           have hb4 : Below (w.heap.size + 1) W0 w4 := (HBX.out.alloc (by have := HBX.out.size; have := HW0.out; omega) _).grown hgrow (by have := HBX.out.size; have := HW0.out; simp; omega) (fun k hk => (HOX.out.lt k hk).1)
           have HO4 : RowKit.Hid (w4.ownsRow (w.heap.size + 1) 3 1 v4 (badK tl (k + 1)).length (vints (badK tl (k + 1)))) := Lib.hid (by rw [HN2.out, ← vints_snoc, List.length_append]; exact hown4)
           have hbt4 := (HBTx.out.alloc (.cells #[.int .i64 (k : Nat)] 3)).kept hgrow (fun e => (HBTx.out.alloc (.cells #[.int .i64 (k : Nat)] 3)).ty.ne (owns_ty (HOX.out.alloc (.cells #[.int .i64 (k : Nat)] 3)) e.symm) (by decide) rfl)
           clear hown4 hgrow hnil
           go_wp2_with fail
           go_roundw
           case rel => exact ⟨k + 1, by omega, by go_num, HO4.out, hb4, hbt4⟩
           case measure => simp [RowKit.intOf]; omega
     ·have hke : k = tl.length := by omega
      subst hke
      have HOn := Lib.hid (own_intsI hown)
      have HBn := Lib.hid (HBo.out _ hbw)
      clear hown
      go_wp2_with fail
      go_ret
      exact ⟨_, rfl, by rw [HBL.out]; exact HOn.out, HBn.out⟩
set_option maxRecDepth 100000 in
set_option maxHeartbeats 4000000 in
theorem rwriters13_any {w : World} {v : Value} {h : HistM} (key : Int) (hv : HistV w v h) (hm : Modst h) :
  Calls Tryz.prog 35 #[v, .int .i64 key] w fun e w' => ∃ v', e = .returned v' ∧ IntsS w' v' (writersL h key) ∧ Below w.heap.size w w' := by
 have H0 := Lib.hid hv
 obtain ⟨v0, v1, v2, rfl, ⟨p0, c0, rfl, -⟩, ⟨p1, c1, rfl, -⟩, ⟨p2, c2, rfl, k2⟩⟩ := hv
 have hal := ((Below.refl w.heap.size w).alloc (Nat.le_refl _) (.cells #[.slice p0 h.1.length c0, .slice p1 h.2.1.length c1, .slice p2 h.2.2.length c2] 25)).alloc (by simp) (.cells #[] 3)
 have HMay := Lib.hid (rmay_v (H0.out.below hal) hm)
 have hbx := (Blk.new w 25 [.slice p0 h.1.length c0, .slice p1 h.2.1.length c1, .slice p2 h.2.2.length c2]).alloc (.cells #[] 3)
 have hown0 := World.ownsRow_made (base := w.heap.size + 1) (size := 1) (e := 3) (w.alloc (.cells #[.slice p0 h.1.length c0, .slice p1 h.2.1.length c1, .slice p2 h.2.2.length c2] 25)) #[] 0 (by simp) (Nat.zero_le _) rfl
 simp only [World.size_alloc] at hown0
 have HBX := Lib.hid hbx
 have HOw0 := Lib.hid hown0
 have HX := Lib.hid k2
 have HAL := Lib.hid hal
 have HMod := Lib.hid hm
 obtain ⟨i0, hi, hz0, hz1, hz2⟩ := info_parts info_i64
 clear hal hm H0 hbx hown0 k2
 go_enter Tryz.func35, Tryz.ntmps35
 go_wp2_with fail
 refine HMay.out.mono ?_
 rintro e w1 ⟨rfl, hb1⟩
 have HB1 := Lib.hid (below_next HAL.out hb1)
 have HX1 := Lib.hid (HBX.out.later hb1)
 have HOw1 := Lib.hid (owns_later HOw0.out hb1)
 have x2 := HX1.out.cell 2 rfl
 have xl := HX1.out.lt
 clear hb1 HMay HBX HOw0 HAL
 have HNone := Lib.hid (own_intsI (L := []) HOw1.out)
 have m3 : h.2.2.length ≤ 1000 := HMod.out.2.2.1
 cases hmm : mayH h with
 | false =>
  have HE : RowKit.Hid (writersL h key = []) := Lib.hid (whereL_no _ hmm)
  rw [err_no hmm]
  clear hmm
  go_wp2_with fail
  go_ret
  exact ⟨_, rfl, by rw [HE.out]; exact HNone.out, HB1.out⟩
 | true =>
  have HE : RowKit.Hid (writersL h key = idxs (writesP key) h.2.2 h.2.2.length) := Lib.hid (whereL_yes _ hmm)
  have HW0 : RowKit.Hid (w.heap.size + 1 ≤ w1.heap.size) := Lib.hid xl
  rw [err_yes hmm]
  clear hmm HNone
  go_wp2_with fail
  have HBo : RowKit.Hid (∀ wr, Below (w.heap.size + 1) w1 wr → Below w.heap.size w wr) := Lib.hid (fun wr hb => HB1.out.trans (hb.mono (by omega)))
  go_loopw [5, 6] (fun l i wr => ∃ k : Nat, k ≤ h.2.2.length ∧ i = .int .i64 k ∧ wr.ownsRow (w.heap.size + 1) 3 1 l (idxs (writesP key) h.2.2 k).length (vints (idxs (writesP key) h.2.2 k)) ∧ Below (w.heap.size + 1) w1 wr) (fun _ i _ => h.2.2.length - (RowKit.intOf i).toNat)
  case atStart => exact ⟨0, Nat.zero_le _, rfl, HOw1.out, Below.refl _ _⟩
  case round =>
   obtain ⟨k, hk, rfl, hown, hbw⟩ := hrel
   have hx := HX1.out.below hbw (by omega)
   have x2 := hx.cell 2 rfl
   have xl2 := hx.lt
   clear hx
   by_cases hk1 : k < h.2.2.length
   ·have hb0 := HBo.out _ hbw
    obtain ⟨g, sv, rfl, a1, a2, a3, a4⟩ := HX.out k hk1
    have htl : (h.2.2.getD k noTxn).2.2.length ≤ 1000 := HMod.out.2.2.2.2.2 _ (by rw [show h.2.2.getD k noTxn = h.2.2[k] by simp [hk1]]; exact List.getElem_mem hk1)
    have a1 := cell_later hb0 a1
    have a2 := cell_later hb0 a2
    have a3 := cell_later hb0 a3
    have hnx := idxs_next (writesP key) h.2.2 k
    have hil := idxs_len (writesP key) h.2.2 k
    obtain ⟨I, hI⟩ : ∃ I, idxs (writesP key) h.2.2 k = I := ⟨_, rfl⟩
    rw [hI] at hown hnx hil
    have hbd : writesP key (h.2.2.getD k noTxn) = ((h.2.2.getD k noTxn).2.1 != 2 && (rawO key ((h.2.2.getD k noTxn).2.2.take (h.2.2.getD k noTxn).2.2.length)).2) := by rw [List.take_length, raw_any]; rfl
    obtain ⟨⟨ts, tf, tl⟩, htt⟩ : ∃ q, h.2.2.getD k noTxn = q := ⟨_, rfl⟩
    rw [htt] at a1 a2 a4 htl hnx hbd
    dsimp only at a1 a2 a4 htl hbd
    have HOps := Lib.hid (fun w' (hb : Below wr.heap.size wr w') => a4.below (below_next hb0 hb))
    obtain ⟨p3, c3, rfl, -⟩ := a4
    obtain ⟨⟨⟨gk, gn⟩, gb⟩, hg⟩ : ∃ r, rawO key (tl.take tl.length) = r := ⟨_, rfl⟩
    rw [hg] at hbd
    dsimp only at hbd
    have HG := Lib.hid hg
    have HN : RowKit.Hid (writesP key (ts, tf, tl) = true → idxs (writesP key) h.2.2 (k + 1) = I ++ [(k : Int)]) := Lib.hid (fun e => by rw [hnx, if_pos e])
    have HF : RowKit.Hid (writesP key (ts, tf, tl) = false → idxs (writesP key) h.2.2 (k + 1) = I) := Lib.hid (fun e => by rw [hnx, if_neg (by rw [e]; exact Bool.false_ne_true)])
    have HBd := Lib.hid hbd
    have HOW := Lib.hid hown
    have HBW := Lib.hid hbw
    have HS : RowKit.Hid (∀ w', Below wr.heap.size wr w' → w'.cell? ⟨w.heap.size, 2, none⟩ = some (.slice (some ⟨g, 0, none⟩) h.2.2.length c2) ∧ w'.cell? ⟨g, k * 3, none⟩ = some (.int .i64 ts) ∧ w'.cell? ⟨g, k * 3 + 1, none⟩ = some (.int .i64 tf) ∧ w'.cell? ⟨g, k * 3 + 2, none⟩ = some (.slice p3 tl.length c3) ∧ Below wr.heap.size wr w') := Lib.hid (fun w' hb => ⟨cell_later hb x2, cell_later hb a1, cell_later hb a2, cell_later hb a3, hb⟩)
    clear hg htt hI hnx hbd hown hbw hb0
    go_upto_region 7 with fail
    go_cut [7, 8] (fun s7 s8 wx => ∃ b, s7 = .pointer (some ⟨b, 0, none⟩) ∧ s8 = .bool gb ∧ wr.heap.size ≤ b ∧ Below wr.heap.size wr wx)
    case first =>
     refine wp_region_keep (fun w' => w'.cell? ⟨w.heap.size, 2, none⟩ = some (.slice (some ⟨g, 0, none⟩) h.2.2.length c2) ∧ w'.cell? ⟨g, k * 3, none⟩ = some (.int .i64 ts) ∧ w'.cell? ⟨g, k * 3 + 1, none⟩ = some (.int .i64 tf) ∧ w'.cell? ⟨g, k * 3 + 2, none⟩ = some (.slice p3 tl.length c3) ∧ Below wr.heap.size wr w') [18] (by kernel_rfl) ?_
     have hB0 : Below (wr).heap.size (wr) (wr).drew := Below.drew (Below.refl _ _)
     obtain ⟨wd, hwd⟩ : ∃ q, (wr).drew = q := ⟨_, rfl⟩
     rw [hwd] at hB0 ⊢
     have HZ0 : RowKit.Hid (wd.heap.size = (wr).heap.size) := Lib.hid (by rw [← hwd]; rfl)
     clear hwd
     refine wfr 0 (v := ?_) rfl ?_ ?_
     rotate_left
     ·intro w' hw';go_simp;try with_reducible rfl
     try simp only [Act.put, sq]
     refine wtk 1 20 (v := ?_) rfl ?_ (HS.out _ hB0) ?_
     rotate_left
     ·intro w' hw';(try dsimp only at hw');go_simp;try with_reducible rfl
     try simp only [Act.put, sq]
     refine wfr 2 (v := ?_) rfl ?_ ?_
     rotate_left
     ·intro w' hw';go_simp;try with_reducible rfl
     try simp only [Act.put, sq]
     refine wfr 3 (v := ?_) rfl ?_ ?_
     rotate_left
     ·intro w' hw';go_simp;try with_reducible rfl
     try simp only [Act.put, sq]
     refine wtk 4 20 (v := ?_) rfl ?_ (HS.out _ hB0) ?_
     rotate_left
     ·intro w' hw';(try dsimp only at hw');go_simp;try with_reducible rfl
     try simp only [Act.put, sq]
     refine wfr 5 (v := ?_) rfl ?_ ?_
     rotate_left
     ·intro w' hw';go_simp;try with_reducible rfl
     try simp only [Act.put, sq]
     refine wtk 6 20 (v := ?_) rfl ?_ (HS.out _ hB0) ?_
     rotate_left
     ·intro w' hw';(try dsimp only at hw');go_simp;try with_reducible rfl
     try simp only [Act.put, sq]
     refine wfr 7 (v := ?_) rfl ?_ ?_
     rotate_left
     ·intro w' hw';go_simp;try with_reducible rfl
     try simp only [Act.put, sq]
     refine wfr 8 (v := ?_) rfl ?_ ?_
     rotate_left
     ·intro w' hw';go_simp;try with_reducible rfl
     try simp only [Act.put, sq]
     refine wfr 9 (v := ?_) rfl ?_ ?_
     rotate_left
     ·intro w' hw';go_simp;try with_reducible rfl
     try simp only [Act.put, sq]
     refine wtk 10 20 (v := ?_) rfl ?_ (HS.out _ hB0) ?_
     rotate_left
     ·intro w' hw';(try dsimp only at hw');go_simp;try with_reducible rfl
     try simp only [Act.put, sq]
     refine wfr 11 (v := ?_) rfl ?_ ?_
     rotate_left
     ·intro w' hw';go_simp;try with_reducible rfl
     try simp only [Act.put, sq]
     refine wfr 12 (v := ?_) rfl ?_ ?_
     rotate_left
     ·intro w' hw';go_simp;try with_reducible rfl
     try simp only [Act.put, sq]
     refine wpAnyM_two 13 17 rfl rfl (by kernel_rfl) (fun K hK => ?_) (fun K hK => ?_)
     ·go_simp
      refine (rraw_at (ts, tf, tl) (.slice p3 tl.length c3) tl.length key _ (HOps.out _ hB0) htl).mono ?_
      rintro e w13 ⟨he, hb13⟩
      rw [HG.out] at he
      dsimp only at he
      subst he
      have hB13 := below_next hB0 hb13
      refine hK.out _ _ (fun _ _ => HS.out _ hB13) ?_
      clear hK K
      try simp only [Act.put, sq]
      refine wfr 14 (v := ?_) rfl ?_ ?_
      rotate_left
      ·intro w' hw';go_simp;try with_reducible rfl
      try simp only [Act.put, sq]
      refine wfr 15 (v := ?_) rfl ?_ ?_
      rotate_left
      ·intro w' hw';go_simp;try with_reducible rfl
      try simp only [Act.put, sq]
      refine wfr 16 (v := ?_) rfl ?_ ?_
      rotate_left
      ·intro w' hw';go_simp;try with_reducible rfl
      try simp only [Act.put, sq]
      refine won 17 rfl fun K hK => ?_
      go_simp
      have hB17 := hB13.alloc hB13.size (.cells #[.int .i64 0, .int .i64 0] 49)
      have hBl := Blk.new (w13) 49 [.int .i64 0, .int .i64 0]
      have hb17 := (Below.refl (w13).heap.size (w13)).alloc (Nat.le_refl _) (.cells #[.int .i64 0, .int .i64 0] 49)
      have hgB : (w13).heap.size < ((w13).alloc (.cells #[.int .i64 0, .int .i64 0] 49)).heap.size := by simp
      have hge : (wr).heap.size ≤ (w13).heap.size := hB13.size
      have hgo : ∀ k, k < (w13).heap.size → ((w13).alloc (.cells #[.int .i64 0, .int .i64 0] 49)).heap[k]? = (w13).heap[k]? := fun k hk => heap_kept _ _ hk
      refine hK.out _ _ (fun _ _ => HS.out _ hB17) ?_
      clear hK K
      try simp only [Act.put, sq]
      obtain ⟨w17, hw17⟩ : ∃ q, (w13).alloc (.cells #[.int .i64 0, .int .i64 0] 49) = q := ⟨_, rfl⟩
      rw [hw17] at hB17 hb17 hBl hgB hgo
      try simp only [hw17]
      obtain ⟨gh, hgh⟩ : ∃ q, (w13).heap.size = q := ⟨_, rfl⟩
      rw [hgh] at hBl hgB hgo hge
      try simp only [hgh]
      have HBl := Lib.hid hBl
      clear hBl hw17
      refine won 18 rfl fun K hK => ?_
      have r0 := HBl.out.cell 0 rfl
      have r1 := HBl.out.cell 1 rfl
      have f0 := HBl.out.frozen 0
      have f1 := HBl.out.frozen 1
      go_simp
      refine hK.out _ _ (fun h => absurd h (by decide)) ?_
      clear hK K
      try simp only [Act.put, sq]
      clear r0 r1 f0 f1
      refine won 19 rfl fun K hK => ?_
      go_simp
      refine hK.out _ _ (fun _ h => h) ?_
      clear hK K
      try simp only [Act.put, sq]
      refine wpAnyM_done (by kernel_rfl) ?_ _
      try simp only [Act.put, sq]
      go_wp2_with fail
      go_meet
      exact ⟨gh, rfl, rfl, hge, below_two_sets hB17 hge _ _⟩
     ·go_simp
      have hB17 := hB0.alloc hB0.size (.cells #[.int .i64 0, .int .i64 0] 49)
      have hBl := Blk.new (wd) 49 [.int .i64 0, .int .i64 0]
      have hb17 := (Below.refl (wd).heap.size (wd)).alloc (Nat.le_refl _) (.cells #[.int .i64 0, .int .i64 0] 49)
      have hgB : (wd).heap.size < ((wd).alloc (.cells #[.int .i64 0, .int .i64 0] 49)).heap.size := by simp
      have hge : (wr).heap.size ≤ (wd).heap.size := hB0.size
      have hgo : ∀ k, k < (wd).heap.size → ((wd).alloc (.cells #[.int .i64 0, .int .i64 0] 49)).heap[k]? = (wd).heap[k]? := fun k hk => heap_kept _ _ hk
      refine hK.out _ _ (fun _ _ => HS.out _ hB17) ?_
      clear hK K
      try simp only [Act.put, sq]
      obtain ⟨w17, hw17⟩ : ∃ q, (wd).alloc (.cells #[.int .i64 0, .int .i64 0] 49) = q := ⟨_, rfl⟩
      rw [hw17] at hB17 hb17 hBl hgB hgo
      try simp only [hw17]
      obtain ⟨gh, hgh⟩ : ∃ q, (wd).heap.size = q := ⟨_, rfl⟩
      rw [hgh] at hBl hgB hgo hge
      try simp only [hgh]
      have HBl := Lib.hid hBl
      clear hBl hw17
      refine won 13 rfl fun K hK => ?_
      go_simp
      refine (rraw_at (ts, tf, tl) (.slice p3 tl.length c3) tl.length key _ (HOps.out _ hB17) htl).mono ?_
      rintro e w13 ⟨he, hb13⟩
      rw [HG.out] at he
      dsimp only at he
      subst he
      have hB13 := below_next hB17 hb13
      replace HBl := Lib.hid (HBl.out.later hb13)
      refine hK.out _ _ (fun _ _ => HS.out _ hB13) ?_
      clear hK K
      try simp only [Act.put, sq]
      refine won 14 rfl fun K hK => ?_
      go_simp
      refine hK.out _ _ (fun _ h => h) ?_
      clear hK K
      try simp only [Act.put, sq]
      refine wfr 15 (v := ?_) rfl ?_ ?_
      rotate_left
      ·intro w' hw';go_simp;try with_reducible rfl
      try simp only [Act.put, sq]
      refine wfr 16 (v := ?_) rfl ?_ ?_
      rotate_left
      ·intro w' hw';go_simp;try with_reducible rfl
      try simp only [Act.put, sq]
      refine won 18 rfl fun K hK => ?_
      have r0 := HBl.out.cell 0 rfl
      have r1 := HBl.out.cell 1 rfl
      have f0 := HBl.out.frozen 0
      have f1 := HBl.out.frozen 1
      go_simp
      refine hK.out _ _ (fun h => absurd h (by decide)) ?_
      clear hK K
      try simp only [Act.put, sq]
      clear r0 r1 f0 f1
      refine won 19 rfl fun K hK => ?_
      go_simp
      refine hK.out _ _ (fun _ h => h) ?_
      clear hK K
      try simp only [Act.put, sq]
      refine wpAnyM_done (by kernel_rfl) ?_ _
      try simp only [Act.put, sq]
      go_wp2_with fail
      go_meet
      exact ⟨gh, rfl, rfl, hge, below_two_sets hB13 hge _ _⟩
    case rest =>
     obtain ⟨b, rfl, rfl, hbge, hbx⟩ := hcut
     have a1 := cell_later hbx a1
     have a2 := cell_later hbx a2
     have a3 := cell_later hbx a3
     have x2 := cell_later hbx x2
     obtain ⟨wx, hwx⟩ : ∃ q, wc = q := ⟨_, rfl⟩
     have HOX : RowKit.Hid (wx.ownsRow (w.heap.size + 1) 3 1 u5 I.length (vints I)) := Lib.hid (by rw [← hwx]; exact owns_later HOW.out hbx)
     have HBX : RowKit.Hid (Below (w.heap.size + 1) w1 wx) := Lib.hid (by rw [← hwx]; exact HBW.out.trans (hbx.mono (by have := HBW.out.size; have := HW0.out; omega)))
     rw [hwx] at a1 a2 a3 x2 ⊢
     clear hwx hbx HOW HBW
     cases gb with
     | false =>
      have HN2 := Lib.hid (HF.out (by rw [HBd.out]; simp))
      clear HN HF HBd
      go_wp2_with fail
      go_roundw
      case rel => exact ⟨k + 1, by omega, by go_num, by rw [HN2.out]; exact HOX.out, HBX.out⟩
      case measure => simp [RowKit.intOf]; omega
     | true =>
      by_cases hf : tf = 2
      ·subst hf
       have HN2 := Lib.hid (HF.out (by rw [HBd.out]; simp))
       clear HN HF HBd
       go_wp2_with fail
       go_roundw
       case rel => exact ⟨k + 1, by omega, by go_num, by rw [HN2.out]; exact HOX.out, HBX.out⟩
       case measure => simp [RowKit.intOf]; omega
      ·have HN2 := Lib.hid (HN.out (by rw [HBd.out]; simpa using hf))
       clear HN HF HBd
       go_wp2_with (at_builtin; refine wpList_append_own _ rfl _ _ 56 rfl (w.heap.size + 1) 3 i0 (.int .i64 0) 1 8 Tryz.underlying56 hi hz0 hz1 hz2 rfl (by decide) _ _ _ rfl (HOX.out.alloc _) ⟨wx.heap.size, 0, none⟩ 1 1 [.int .i64 (k : Nat)] rfl rfl (news_int _ _ _) (ones_int _) (by unfold maxLen; omega) (by omega) (by have := HBX.out.size; have := HW0.out; simp; omega) ?_)
       intro v4 w4 hown4 hgrow hnil
       have hb4 : Below (w.heap.size + 1) w1 w4 := (HBX.out.alloc (by have := HBX.out.size; have := HW0.out; omega) _).grown hgrow (by have := HBX.out.size; have := HW0.out; simp; omega) (fun k hk => (HOX.out.lt k hk).1)
       have HO4 : RowKit.Hid (w4.ownsRow (w.heap.size + 1) 3 1 v4 (idxs (writesP key) h.2.2 (k + 1)).length (vints (idxs (writesP key) h.2.2 (k + 1)))) := Lib.hid (by rw [HN2.out, ← vints_snoc, List.length_append]; exact hown4)
       clear hown4 hgrow hnil
       go_wp2_with fail
       go_roundw
       case rel => exact ⟨k + 1, by omega, by go_num, HO4.out, hb4⟩
       case measure => simp [RowKit.intOf]; omega
   ·have hke : k = h.2.2.length := by omega
    subst hke
    have HOn := Lib.hid (own_intsI hown)
    have HBn := Lib.hid (HBo.out _ hbw)
    clear hown
    go_wp2_with fail
    go_ret
    exact ⟨_, rfl, by rw [HE.out]; exact HOn.out, HBn.out⟩
end Go.Proofs.YtmgchjddpmmglaaGreatDoor
