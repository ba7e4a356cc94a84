/-
  Layer 17 (whole): a history made whole by a world, the program. No conditions but that unicode/utf8's two tables are as their initialisers lay them.
-/
import Derived.Test.YtmgchjddpmmglaaGreatDoorRxWoF
import Derived.Test.YtmgchjddpmmglaaGreatDoorRxWhA
namespace Go.Proofs.YtmgchjddpmmglaaGreatDoor
open Go.RowKit Go.Lib
set_option maxRecDepth 100000 in
set_option maxHeartbeats 1000000 in
theorem lost17_any (o : OpM) (w : World) :
  Calls Tryz.prog 91 #[.agg #[.bool o.1, .int .i64 o.2.1, .int .i64 o.2.2.1, .int .i64 o.2.2.2]] w fun e w' => e = .returned (.bool (lostO o)) ∧ Below w.heap.size w w' := by
 obtain ⟨ow, ok, od, on⟩ := o
 by_cases hd : od = 2
 ·subst hd
  have hE : lostO (ow, ok, 2, on) = true := rfl
  rw [hE]
  clear hE
  go_enter Tryz.func91, Tryz.ntmps91
  go_wp2
  go_ret
  exact ⟨rfl, by go_grown⟩
 ·have hE : lostO (ow, ok, od, on) = false := by unfold lostO; simpa using hd
  rw [hE]
  have hd2 : (od == 2) = false := by simpa using hd
  clear hE
  go_enter Tryz.func91, Tryz.ntmps91
  go_wp2
  go_ret
  exact ⟨by first | rfl | simp [hd], by go_grown⟩
set_option maxRecDepth 100000 in
set_option maxHeartbeats 8000000 in
theorem make17_any {w : World} {v u : Value} {h : HistM} {m : WorldM} (hv : HistV w v h) (hu : WorldV w u m) (hm : Modst h) (h50 : m.1.length ≤ 1000000 ∧ m.2.length ≤ 1000000) (hT : Lib.Utf8Tabs 1 2 w) :
  Calls Tryz.prog 43 #[v, u] w fun e w' => ∃ v', e = .returned (.tuple #[v', .int .i64 (makeP h m).2]) ∧ HistV w' v' (makeP h m).1 ∧ Below w.heap.size w w' := by
 have H0 := Lib.hid hv
 have U0 := Lib.hid hu
 obtain ⟨v0, v1, v2, rfl, ⟨p0, c0, rfl, k0⟩, ⟨p1, c1, rfl, k1⟩, ⟨p2, c2, rfl, k2⟩⟩ := hv
 obtain ⟨pb, cb, pv, cv, rfl, hb, hvv, hcb, hcv⟩ := worldV_form hu
 obtain ⟨hcv1, hcv2⟩ := hcv
 unfold maxLen at hcv2
 have m1 : h.1.length ≤ 1000 := hm.1
 have m2 : h.2.1.length ≤ 1000 := hm.2.1
 have m3 : h.2.2.length ≤ 1000 := hm.2.2.1
 have hal := (((Below.refl w.heap.size w).alloc (Nat.le_refl _) (.cells #[.slice p0 h.1.length c0, .slice p1 h.2.1.length c1, .slice p2 h.2.2.length c2] 25)).alloc (by simp) (.cells #[.slice pb m.1.length cb, .slice pv m.2.length cv] 64)).alloc (by simp; omega) (.cells #[.slice none 0 0, .slice none 0 0, .slice none 0 0] 25)
 have hbx := ((Blk.new w 25 [.slice p0 h.1.length c0, .slice p1 h.2.1.length c1, .slice p2 h.2.2.length c2]).alloc (.cells #[.slice pb m.1.length cb, .slice pv m.2.length cv] 64)).alloc (.cells #[.slice none 0 0, .slice none 0 0, .slice none 0 0] 25)
 have hbw := (Blk.new (w.alloc (.cells #[.slice p0 h.1.length c0, .slice p1 h.2.1.length c1, .slice p2 h.2.2.length c2] 25)) 64 [.slice pb m.1.length cb, .slice pv m.2.length cv]).alloc (.cells #[.slice none 0 0, .slice none 0 0, .slice none 0 0] 25)
 have hbr := Blk.new ((w.alloc (.cells #[.slice p0 h.1.length c0, .slice p1 h.2.1.length c1, .slice p2 h.2.2.length c2] 25)).alloc (.cells #[.slice pb m.1.length cb, .slice pv m.2.length cv] 64)) 25 [.slice none 0 0, .slice none 0 0, .slice none 0 0]
 simp only [World.size_alloc] at hbw hbr
 have HK0 := Lib.hid k0
 have HK1 := Lib.hid k1
 have HX := Lib.hid k2
 have HVa := Lib.hid hvv
 have HMod := Lib.hid hm
 have H50 := Lib.hid h50
 have HAL := Lib.hid hal
 have HBX := Lib.hid hbx
 have HBW := Lib.hid hbw
 have HBR := Lib.hid hbr
 have HT := Lib.hid hT
 obtain ⟨i3, hi3, hy0, hy1, hy2⟩ := info_parts info_op
 obtain ⟨i4, hi4, hw0, hw1', hw2'⟩ := info_parts info_txn
 clear k0 k1 k2 hvv hm h50 hal hbx hbw hbr hb hcb hu hT
 go_enter Tryz.func43, Tryz.ntmps43
 go_upto_region 1 with fail
 obtain ⟨W1, hW1⟩ : ∃ q, (((w.alloc (.cells #[.slice p0 h.1.length c0, .slice p1 h.2.1.length c1, .slice p2 h.2.2.length c2] 25)).alloc (.cells #[.slice pb m.1.length cb, .slice pv m.2.length cv] 64)).alloc (.cells #[.slice none 0 0, .slice none 0 0, .slice none 0 0] 25)) = q := ⟨_, rfl⟩
 rw [hW1] at HAL HBX HBW HBR ⊢
 clear hW1
 have HPx := Lib.hid HBX.out
 have HPw := Lib.hid HBW.out
 have HR := Lib.hid HBR.out
 have HB := Lib.hid HAL.out
 clear HBX HBW HBR HAL
 have x0 := HPx.out.cell 0 rfl
 have x1 := HPx.out.cell 1 rfl
 have x2 := HPx.out.cell 2 rfl
 have u0 := HPw.out.cell 0 rfl
 have u1 := HPw.out.cell 1 rfl
 have y0 := HR.out.cell 0 rfl
 have y1 := HR.out.cell 1 rfl
 have y2 := HR.out.cell 2 rfl
 have g0 := HR.out.frozen 0
 have g1 := HR.out.frozen 1
 have g2 := HR.out.frozen 2
 go_wp2_with fail
 refine (hmay_v (H0.out.below HB.out) HMod.out (Utf8Tabs_below HT.out HB.out)).mono ?_
 rintro e W2 ⟨rfl, hb2⟩
 clear x0 x1 x2 u0 u1 y0 y1 y2 g0 g1 g2
 replace HPx := Lib.hid (HPx.out.later hb2)
 replace HPw := Lib.hid (HPw.out.later hb2)
 replace HR := Lib.hid (HR.out.later hb2)
 replace HB := Lib.hid (below_next HB.out hb2)
 clear hb2
 have x0 := HPx.out.cell 0 rfl
 have x1 := HPx.out.cell 1 rfl
 have x2 := HPx.out.cell 2 rfl
 have u0 := HPw.out.cell 0 rfl
 have u1 := HPw.out.cell 1 rfl
 have y0 := HR.out.cell 0 rfl
 have y1 := HR.out.cell 1 rfl
 have y2 := HR.out.cell 2 rfl
 have g0 := HR.out.frozen 0
 have g1 := HR.out.frozen 1
 have g2 := HR.out.frozen 2
 cases hmm : mayH h with
 | false =>
  have HE : RowKit.Hid (makeP h m = (noH, 4)) := Lib.hid (by unfold makeP; rw [hmm]; rfl)
  have HEr := Lib.hid (err_no hmm)
  rw [HEr.out]
  clear hmm
  go_wp2_with fail
  refine bodyPost_ret (results_ct Tryz.results43 _ _ _ _ _ rfl (load_hist (((HR.out.set 0 (.slice none 0 0)).set 1 (.slice none 0 0)).set 2 (.slice none 0 0)))) rfl ?_
  exact ⟨_, by rw [HE.out] <;> rfl, by rw [HE.out]; exact noH_v _, ((HB.out.setCell (by show w.heap.size ≤ w.heap.size + 1 + 1; omega) _).setCell (by show w.heap.size ≤ w.heap.size + 1 + 1; omega) _).setCell (by show w.heap.size ≤ w.heap.size + 1 + 1; omega) _⟩
 | true =>
  have HEr := Lib.hid (err_yes hmm)
  rw [HEr.out]
  have HMM := Lib.hid hmm
  clear hmm
  go_wp2_with fail
  refine (mayw16_any (H0.out.below HB.out) (U0.out.below HB.out) HMod.out H50.out (Utf8Tabs_below HT.out HB.out)).mono ?_
  rintro e WB ⟨rfl, hb2⟩
  clear x0 x1 x2 u0 u1 y0 y1 y2 g0 g1 g2
  replace HPx := Lib.hid (HPx.out.later hb2)
  replace HPw := Lib.hid (HPw.out.later hb2)
  replace HR := Lib.hid (HR.out.later hb2)
  replace HB := Lib.hid (below_next HB.out hb2)
  clear hb2
  have x0 := HPx.out.cell 0 rfl
  have x1 := HPx.out.cell 1 rfl
  have x2 := HPx.out.cell 2 rfl
  have u0 := HPw.out.cell 0 rfl
  have u1 := HPw.out.cell 1 rfl
  have y0 := HR.out.cell 0 rfl
  have y1 := HR.out.cell 1 rfl
  have y2 := HR.out.cell 2 rfl
  have g0 := HR.out.frozen 0
  have g1 := HR.out.frozen 1
  have g2 := HR.out.frozen 2
  cases hmw : mayW h m with
  | false =>
   have HE : RowKit.Hid (makeP h m = (noH, 2)) := Lib.hid (by unfold makeP; rw [HMM.out, hmw]; rfl)
   clear hmw
   go_wp2_with fail
   refine bodyPost_ret (results_ct Tryz.results43 _ _ _ _ _ rfl (load_hist (((HR.out.set 0 (.slice none 0 0)).set 1 (.slice none 0 0)).set 2 (.slice none 0 0)))) rfl ?_
   exact ⟨_, by rw [HE.out] <;> rfl, by rw [HE.out]; exact noH_v _, ((HB.out.setCell (by show w.heap.size ≤ w.heap.size + 1 + 1; omega) _).setCell (by show w.heap.size ≤ w.heap.size + 1 + 1; omega) _).setCell (by show w.heap.size ≤ w.heap.size + 1 + 1; omega) _⟩
  | true =>
   have HE : RowKit.Hid (makeP h m = (makeH h m, 0)) := Lib.hid (by unfold makeP; rw [HMM.out, hmw]; rfl)
   have HMW := Lib.hid ((mayW_iff h m).1 hmw)
   have HMw := Lib.hid hmw
   have HTx0 := Lib.hid (fun w' (hb : Below WB.heap.size WB w') => (⟨p0, c0, rfl, HK0.out.below (below_next HB.out hb)⟩ : Texts w' (.slice p0 h.1.length c0) h.1))
   have HTx1 := Lib.hid (fun w' (hb : Below WB.heap.size WB w') => (⟨p1, c1, rfl, HK1.out.below (below_next HB.out hb)⟩ : Texts w' (.slice p1 h.2.1.length c1) h.2.1))
   clear hmw
   clear x0 x1 x2 u0 u1 y0 y1 y2 g0 g1 g2
   go_upto_region 6 with fail
   have HS : RowKit.Hid (∀ w', Below WB.heap.size WB w' → w'.cell? ⟨w.heap.size, 0, none⟩ = some (.slice p0 h.1.length c0) ∧ w'.cell? ⟨w.heap.size, 1, none⟩ = some (.slice p1 h.2.1.length c1) ∧ Below WB.heap.size WB w') := Lib.hid (fun w' hb => ⟨(HPx.out.later hb).cell 0 rfl, (HPx.out.later hb).cell 1 rfl, hb⟩)
   go_cut [7] (fun s7 wx => ∃ vs vk G, s7 = .pointer (some ⟨G, 0, none⟩) ∧ wx.ownsRow 0 9 1 vs h.1.length (strs h.1) ∧ wx.ownsRow 0 9 1 vk h.2.1.length (strs h.2.1) ∧ Blk wx G 25 [vs, vk, .slice none 0 0] ∧ Below WB.heap.size WB wx ∧ WB.heap.size ≤ G)
   case first =>
    refine wp_region_keep (fun w' => w'.cell? ⟨w.heap.size, 0, none⟩ = some (.slice p0 h.1.length c0) ∧ w'.cell? ⟨w.heap.size, 1, none⟩ = some (.slice p1 h.2.1.length c1) ∧ Below WB.heap.size WB w') [8] (by kernel_rfl) ?_
    have hB0 : Below (WB).heap.size (WB) (WB).drew := Below.drew (Below.refl _ _)
    obtain ⟨wd, hwd⟩ : ∃ q, (WB).drew = q := ⟨_, rfl⟩
    rw [hwd] at hB0 ⊢
    clear hwd
    refine wfr 0 (v := ?_) rfl ?_ ?_
    rotate_left
    ·intro w' hw';go_simp;try with_reducible rfl
    try simp only [Act.put, sq]
    refine wtk 1 9 (v := ?_) rfl ?_ (HS.out _ hB0) ?_
    rotate_left
    ·intro w' hw';(try dsimp only at hw');go_simp;try with_reducible rfl
    try simp only [Act.put, sq]
    refine wfr 3 (v := ?_) rfl ?_ ?_
    rotate_left
    ·intro w' hw';go_simp;try with_reducible rfl
    try simp only [Act.put, sq]
    refine wtk 4 9 (v := ?_) rfl ?_ (HS.out _ hB0) ?_
    rotate_left
    ·intro w' hw';(try dsimp only at hw');go_simp;try with_reducible rfl
    try simp only [Act.put, sq]
    refine wpAnyM_two 2 7 rfl rfl (by kernel_rfl) (fun K hK => ?_) (fun K hK => ?_)
    ·go_simp
     refine (cloneT_any _ _ h.1 (HTx0.out _ hB0) (by omega)).mono ?_
     rintro e wb1 ⟨va1, rfl, hr1, hc1⟩
     obtain ⟨pa1, ca1, rfl⟩ := owns_form hr1
     have RS := Lib.hid (owns_base hr1 (Nat.zero_le _))
     clear hr1
     have hB1 := below_next hB0 hc1
     refine hK.out _ _ (fun _ _ => HS.out _ hB1) ?_
     clear hK K hc1
     try simp only [Act.put, sq]
     refine wpAnyM_two 5 7 rfl rfl (by kernel_rfl) (fun K hK => ?_) (fun K hK => ?_)
     ·go_simp
      refine (cloneT_any _ _ h.2.1 (HTx1.out _ hB1) (by omega)).mono ?_
      rintro e wb2 ⟨va2, rfl, hr2, hc2⟩
      obtain ⟨pa2, ca2, rfl⟩ := owns_form hr2
      have RK := Lib.hid (owns_base hr2 (Nat.zero_le _))
      clear hr2
      have hB2 := below_next hB1 hc2
      replace RS := Lib.hid (owns_later RS.out hc2)
      refine hK.out _ _ (fun _ _ => HS.out _ hB2) ?_
      clear hK K hc2
      try simp only [Act.put, sq]
      refine wfr 6 (v := ?_) rfl ?_ ?_
      rotate_left
      ·intro w' hw';go_simp;try with_reducible rfl
      try simp only [Act.put, sq]
      refine won 7 rfl fun K hK => ?_
      go_simp
      have hA3 := hB2.alloc hB2.size (.cells #[.slice none 0 0, .slice none 0 0, .slice none 0 0] 25)
      have HG := Lib.hid (Blk.new wb2 25 [.slice none 0 0, .slice none 0 0, .slice none 0 0])
      replace RS := Lib.hid (RS.out.alloc (.cells #[.slice none 0 0, .slice none 0 0, .slice none 0 0] 25))
      replace RK := Lib.hid (RK.out.alloc (.cells #[.slice none 0 0, .slice none 0 0, .slice none 0 0] 25))
      refine hK.out _ _ (fun _ _ => HS.out _ hA3) ?_
      clear hK K
      try simp only [Act.put, sq]
      obtain ⟨wa3, hwa3⟩ : ∃ q, wb2.alloc (.cells #[.slice none 0 0, .slice none 0 0, .slice none 0 0] 25) = q := ⟨_, rfl⟩
      obtain ⟨gb3, hgb3⟩ : ∃ q, wb2.heap.size = q := ⟨_, rfl⟩
      have hlt3 : WB.heap.size ≤ gb3 := by rw [← hgb3]; exact hB2.size
      simp only [hwa3, hgb3] at hA3 RS RK HG ⊢
      clear hwa3 hgb3
      refine won 8 rfl fun K hK => ?_
      obtain ⟨r0, r1, r2, f0, f1, f2, fl⟩ := box3 HG.out
      go_simp
      refine hK.out _ _ (fun h => absurd h (by decide)) ?_
      clear hK K r0 r1 r2 f0 f1 f2 fl
      try simp only [Act.put, sq]
      refine wpAnyM_done (by kernel_rfl) ?_ _
      try simp only [Act.put, sq]
      go_wp2_with fail
      go_meet
      exact ⟨_, _, _, rfl, out_done RS.out RK.out HG.out hA3 hlt3⟩
     ·go_simp
      have hA2 := hB1.alloc hB1.size (.cells #[.slice none 0 0, .slice none 0 0, .slice none 0 0] 25)
      have HG := Lib.hid (Blk.new wb1 25 [.slice none 0 0, .slice none 0 0, .slice none 0 0])
      replace RS := Lib.hid (RS.out.alloc (.cells #[.slice none 0 0, .slice none 0 0, .slice none 0 0] 25))
      refine hK.out _ _ (fun _ _ => HS.out _ hA2) ?_
      clear hK K
      try simp only [Act.put, sq]
      obtain ⟨wa2, hwa2⟩ : ∃ q, wb1.alloc (.cells #[.slice none 0 0, .slice none 0 0, .slice none 0 0] 25) = q := ⟨_, rfl⟩
      obtain ⟨gb2, hgb2⟩ : ∃ q, wb1.heap.size = q := ⟨_, rfl⟩
      have hlt2 : WB.heap.size ≤ gb2 := by rw [← hgb2]; exact hB1.size
      simp only [hwa2, hgb2] at hA2 RS HG ⊢
      clear hwa2 hgb2
      refine won 5 rfl fun K hK => ?_
      go_simp
      refine (cloneT_any _ _ h.2.1 (HTx1.out _ hA2) (by omega)).mono ?_
      rintro e wb3 ⟨va3, rfl, hr3, hc3⟩
      obtain ⟨pa3, ca3, rfl⟩ := owns_form hr3
      have RK := Lib.hid (owns_base hr3 (Nat.zero_le _))
      clear hr3
      have hB3 := below_next hA2 hc3
      replace RS := Lib.hid (owns_later RS.out hc3)
      replace HG := Lib.hid (HG.out.later hc3)
      refine hK.out _ _ (fun _ _ => HS.out _ hB3) ?_
      clear hK K hc3
      try simp only [Act.put, sq]
      refine won 6 rfl fun K hK => ?_
      go_simp
      refine hK.out _ _ (fun _ h => h) ?_
      clear hK K
      try simp only [Act.put, sq]
      refine won 8 rfl fun K hK => ?_
      obtain ⟨r0, r1, r2, f0, f1, f2, fl⟩ := box3 HG.out
      go_simp
      refine hK.out _ _ (fun h => absurd h (by decide)) ?_
      clear hK K r0 r1 r2 f0 f1 f2 fl
      try simp only [Act.put, sq]
      refine wpAnyM_done (by kernel_rfl) ?_ _
      try simp only [Act.put, sq]
      go_wp2_with fail
      go_meet
      exact ⟨_, _, _, rfl, out_done RS.out RK.out HG.out hB3 hlt2⟩
    ·go_simp
     have hA1 := hB0.alloc hB0.size (.cells #[.slice none 0 0, .slice none 0 0, .slice none 0 0] 25)
     have HG := Lib.hid (Blk.new wd 25 [.slice none 0 0, .slice none 0 0, .slice none 0 0])
     refine hK.out _ _ (fun _ _ => HS.out _ hA1) ?_
     clear hK K
     try simp only [Act.put, sq]
     obtain ⟨wa1, hwa1⟩ : ∃ q, wd.alloc (.cells #[.slice none 0 0, .slice none 0 0, .slice none 0 0] 25) = q := ⟨_, rfl⟩
     obtain ⟨gb1, hgb1⟩ : ∃ q, wd.heap.size = q := ⟨_, rfl⟩
     have hlt1 : WB.heap.size ≤ gb1 := by rw [← hgb1]; exact hB0.size
     simp only [hwa1, hgb1] at hA1 HG ⊢
     clear hwa1 hgb1
     refine won 2 rfl fun K hK => ?_
     go_simp
     refine (cloneT_any _ _ h.1 (HTx0.out _ hA1) (by omega)).mono ?_
     rintro e wb2 ⟨va2, rfl, hr2, hc2⟩
     obtain ⟨pa2, ca2, rfl⟩ := owns_form hr2
     have RS := Lib.hid (owns_base hr2 (Nat.zero_le _))
     clear hr2
     have hB2 := below_next hA1 hc2
     replace HG := Lib.hid (HG.out.later hc2)
     refine hK.out _ _ (fun _ _ => HS.out _ hB2) ?_
     clear hK K hc2
     try simp only [Act.put, sq]
     refine won 5 rfl fun K hK => ?_
     go_simp
     refine (cloneT_any _ _ h.2.1 (HTx1.out _ hB2) (by omega)).mono ?_
     rintro e wb3 ⟨va3, rfl, hr3, hc3⟩
     obtain ⟨pa3, ca3, rfl⟩ := owns_form hr3
     have RK := Lib.hid (owns_base hr3 (Nat.zero_le _))
     clear hr3
     have hB3 := below_next hB2 hc3
     replace HG := Lib.hid (HG.out.later hc3)
     replace RS := Lib.hid (owns_later RS.out hc3)
     refine hK.out _ _ (fun _ _ => HS.out _ hB3) ?_
     clear hK K hc3
     try simp only [Act.put, sq]
     refine won 6 rfl fun K hK => ?_
     go_simp
     refine hK.out _ _ (fun _ h => h) ?_
     clear hK K
     try simp only [Act.put, sq]
     refine won 8 rfl fun K hK => ?_
     obtain ⟨r0, r1, r2, f0, f1, f2, fl⟩ := box3 HG.out
     go_simp
     refine hK.out _ _ (fun h => absurd h (by decide)) ?_
     clear hK K r0 r1 r2 f0 f1 f2 fl
     try simp only [Act.put, sq]
     refine wpAnyM_done (by kernel_rfl) ?_ _
     try simp only [Act.put, sq]
     go_wp2_with fail
     go_meet
     exact ⟨_, _, _, rfl, out_done RS.out RK.out HG.out hB3 hlt1⟩
   case rest =>
    obtain ⟨vs, vk, G, rfl, hs, hk, hg, hbx, hG⟩ := hcut
    obtain ⟨WC, rfl⟩ : ∃ q, q = wc := ⟨_, rfl⟩
    have hRl : w.heap.size + 1 + 1 < WB.heap.size := HR.out.lt
    have hGl := hg.lt
    replace HPx := Lib.hid (HPx.out.later hbx)
    replace HPw := Lib.hid (HPw.out.later hbx)
    replace HR := Lib.hid (HR.out.later hbx)
    replace HB := Lib.hid (below_next HB.out hbx)
    have HSs := Lib.hid hs
    have HSk := Lib.hid hk
    have HGg := Lib.hid hg
    have HCo := Lib.hid (fun w' (hb : Below WC.heap.size WC w') => Commits16_any (H0.out.below (below_next HB.out hb)) (U0.out.below (below_next HB.out hb)) HMod.out H50.out HMw.out (Utf8Tabs_below HT.out (below_next HB.out hb)))
    clear HS hs hk hg hbx HTx0 HTx1
    have HS : RowKit.Hid (∀ w', Below WC.heap.size WC w' → w'.cell? ⟨w.heap.size, 0, none⟩ = some (.slice p0 h.1.length c0) ∧ w'.cell? ⟨w.heap.size, 1, none⟩ = some (.slice p1 h.2.1.length c1) ∧ w'.cell? ⟨w.heap.size, 2, none⟩ = some (.slice p2 h.2.2.length c2) ∧ w'.cell? ⟨w.heap.size + 1, 0, none⟩ = some (.slice pb m.1.length cb) ∧ w'.cell? ⟨w.heap.size + 1, 1, none⟩ = some (.slice pv m.2.length cv) ∧ Below WC.heap.size WC w') := Lib.hid (fun w' hb => ⟨(HPx.out.later hb).cell 0 rfl, (HPx.out.later hb).cell 1 rfl, (HPx.out.later hb).cell 2 rfl, (HPw.out.later hb).cell 0 rfl, (HPw.out.later hb).cell 1 rfl, hb⟩)
    go_upto_region 7 with fail
    refine wp_region_keep (fun w' => w'.cell? ⟨w.heap.size, 0, none⟩ = some (.slice p0 h.1.length c0) ∧ w'.cell? ⟨w.heap.size, 1, none⟩ = some (.slice p1 h.2.1.length c1) ∧ w'.cell? ⟨w.heap.size, 2, none⟩ = some (.slice p2 h.2.2.length c2) ∧ w'.cell? ⟨w.heap.size + 1, 0, none⟩ = some (.slice pb m.1.length cb) ∧ w'.cell? ⟨w.heap.size + 1, 1, none⟩ = some (.slice pv m.2.length cv) ∧ Below WC.heap.size WC w') [] (by kernel_rfl) ?_
    have hB0 : Below (WC).heap.size (WC) (WC).drew := Below.drew (Below.refl _ _)
    have hS0 := HS.out _ hB0
    refine wtk 0 7 (v := ?_) rfl ?_ hS0 ?_
    rotate_left
    ·intro w' hw';(try dsimp only at hw');go_simp;try with_reducible rfl
    try simp only [Act.put, sq]
    refine wtk 1 7 (v := ?_) rfl ?_ hS0 ?_
    rotate_left
    ·intro w' hw';(try dsimp only at hw');go_simp;try with_reducible rfl
    try simp only [Act.put, sq]
    refine wfr 3 (v := ?_) rfl ?_ ?_
    rotate_left
    ·intro w' hw';go_simp;try with_reducible rfl
    try simp only [Act.put, sq]
    refine wtk 4 7 (v := ?_) rfl ?_ hS0 ?_
    rotate_left
    ·intro w' hw';(try dsimp only at hw');go_simp;try with_reducible rfl
    try simp only [Act.put, sq]
    refine won 2 rfl fun K hK => ?_
    go_simp
    refine (HCo.out _ hB0).mono ?_
    rintro e w1 ⟨vc, rfl, hrc, hb1⟩
    have hB1 := below_next hB0 hb1
    have hS1 := HS.out _ hB1
    obtain ⟨pc, cc, rfl⟩ := owns_form hrc
    have HRc := Lib.hid (owns_base hrc (Nat.zero_le _))
    clear hrc
    refine hK.out _ _ (fun _ _ => hS1) ?_
    clear hK K hS0
    try simp only [Act.put, sq]
    refine won 5 rfl fun K hK => ?_
    go_simp
    refine hK.out _ _ (fun _ h => h) ?_
    clear hK K
    try simp only [Act.put, sq]
    refine won 6 rfl fun K hK => ?_
    go_simp
    refine hK.out _ _ (fun _ h => h) ?_
    clear hK K
    try simp only [Act.put, sq]
    refine wpAnyM_done (by kernel_rfl) ?_ _
    try simp only [Act.put, sq]
    obtain ⟨C, hC⟩ : ∃ C, commitsG h.2.2 m.1 = C := ⟨_, rfl⟩
    have HCl : RowKit.Hid (C.length = h.2.2.length) := Lib.hid (by rw [← hC, commits_len])
    rw [hC] at HRc
    have HE2 : RowKit.Hid (makeH h m = (h.1, h.2.1, makeG h.2.2 C m.2)) := Lib.hid (by rw [← hC]; rfl)
    rw [HE2.out] at HE
    obtain ⟨N, hN⟩ : ∃ N, w1.heap.size = N := ⟨_, rfl⟩
    have hst : MkT w N G w1 (.slice p0 h.1.length c0) (.slice p1 h.2.1.length c1) (.slice p2 h.2.2.length c2) vs vk (.slice none 0 0) (.slice pc h.2.2.length cc) (.slice pb m.1.length cb) (.slice pv m.2.length cv) h.1 h.2.1 C [] := ⟨World.ownsRow_nil _ _ _ _, (fun t ht => by cases ht), owns_later HSs.out hB1, owns_later HSk.out hB1, by rw [HCl.out]; exact HRc.out, HPx.out.later hB1, HPw.out.later hB1, HR.out.later hB1, HGg.out.later hB1, below_next HB.out hB1, Nat.le_of_eq hN.symm, by have := hB1.size; omega, by omega⟩
    have HST0 := Lib.hid hst
    have x2 := hst.h.cell 2 rfl
    clear hst hC hN HS hS1
    go_wp2_with fail
    clear x2
    go_loopw [9, 39] (fun l i wr => ∃ (k : Nat) (vt : Value) (LV : List TxnV), k ≤ h.2.2.length ∧ i = .int .i64 k ∧ LeftIs pv m.2.length cv (nLL h.2.2 k) l ∧ LV.map (·.1) = (makeG h.2.2 C m.2).take k ∧ MkT w N G wr (.slice p0 h.1.length c0) (.slice p1 h.2.1.length c1) (.slice p2 h.2.2.length c2) vs vk vt (.slice pc h.2.2.length cc) (.slice pb m.1.length cb) (.slice pv m.2.length cv) h.1 h.2.1 C LV) (fun _ i _ => h.2.2.length - (RowKit.intOf i).toNat)
    case atStart => exact ⟨0, _, [], Nat.zero_le _, rfl, ⟨_, rfl, fun hh => by obtain ⟨g, e, -⟩ := HVa.out 0 hh; exact ⟨g, e, e⟩⟩, rfl, HST0.out⟩
    case round =>
     obtain ⟨wo, rfl⟩ : ∃ q, q = wr := ⟨_, rfl⟩
     obtain ⟨k, vt, LV, hk, rfl, hleft, hLV, st⟩ := hrel
     have hll : LV.length = k := by
      have h9 := congrArg List.length hLV
      rw [List.length_map, List.length_take, make_len] at h9
      omega
     have HLl := Lib.hid hll
     skip
     clear hll
     by_cases hk1 : k < h.2.2.length
     ·obtain ⟨g, sv, rfl, a1, a2, a3, a4⟩ := HX.out k hk1
      have htl : (h.2.2.getD k noTxn).2.2.length ≤ 1000 := by
       have e : h.2.2.getD k noTxn = h.2.2[k] := by simp [hk1]
       rw [e]
       exact HMod.out.2.2.2.2.2 _ (List.getElem_mem hk1)
      have a1 := cell_later st.b a1
      have a2 := cell_later st.b a2
      have a3 := cell_later st.b a3
      have hnx := make_next h.2.2 C m.2 k hk1
      have hmt : makeT h.2.2 C m.2 k = ((h.2.2.getD k noTxn).1, (if C.getD k false then 1 else 2), (fillG (h.2.2.getD k noTxn).2.2 (m.2.drop (nLL h.2.2 k))).1) := rfl
      have hl1 := nLL_next h.2.2 k hk1
      have hl2 := nLL_le h.2.2 k hk1
      rw [hmt] at hnx
      clear hmt
      have hil := st.i
      rw [HCl.out] at hil
      obtain ⟨gc, rfl⟩ := owns_posp hil (by omega)
      have HCc := Lib.hid (fun w' (hb : Below wo.heap.size wo w') => ((owns_later hil hb).cellAt k (by omega)).trans (bools_at C k (by rw [HCl.out]; exact hk1)))
      have hgcl : gc < wo.heap.size := (hil.lt gc rfl).2
      clear hil
      obtain ⟨b, hb⟩ : ∃ b, C.getD k false = b := ⟨_, rfl⟩
      rw [hb] at hnx HCc
      obtain ⟨⟨ts, tf, tl⟩, htt⟩ : ∃ q, h.2.2.getD k noTxn = q := ⟨_, rfl⟩
      rw [htt] at a1 a2 a4 htl hnx hl1 hl2
      dsimp only at a1 a2 a4 htl hl1 hl2
      obtain ⟨p3, c3, rfl, hcap3, hops⟩ := a4
      have HO : RowKit.Hid (OpsS w (.slice p3 tl.length c3) tl) := Lib.hid ⟨p3, c3, rfl, hcap3, hops⟩
      have HNx := Lib.hid hnx
      have HLV := Lib.hid hLV
      have HL1 := Lib.hid hl1
      have HL2 : RowKit.Hid (nLL h.2.2 k + (tl.filter lostO).length ≤ m.2.length) := Lib.hid (by rw [HMW.out.l]; exact hl2)
      have HLe := Lib.hid hleft
      have SD := Lib.hid st
      have HWS : RowKit.Hid (w.heap.size + 1 + 1 < G ∧ G < N ∧ N ≤ wo.heap.size) := Lib.hid ⟨st.e, st.d, st.c⟩
      have HTb := Lib.hid (Blk.new wo 47 [.int .i64 ts, .int .i64 tf, .slice p3 tl.length c3])
      have HAt := Lib.hid ((Below.refl wo.heap.size wo).alloc (Nat.le_refl _) (.cells #[.int .i64 ts, .int .i64 tf, .slice p3 tl.length c3] 47))
      clear hops hnx hb htt hLV hl1 hl2 hleft st hcap3
      go_wp2_with fail
      refine (cloneops_any _ _ tl (HO.out.below (below_next SD.out.b HAt.out)) htl).mono ?_
      rintro e w5 ⟨v5, rfl, hr5, hb5⟩
      obtain ⟨p5, c5, rfl⟩ := owns_form hr5
      simp only [World.size_alloc] at hr5
      have hT5 := HTb.out.later hb5
      have HB5 := Lib.hid (below_next HAt.out hb5)
      have HT5 := Lib.hid hT5
      have HR5 := Lib.hid hr5
      have z0 := hT5.cell 0 rfl
      have z1 := hT5.cell 1 rfl
      have z2 := hT5.cell 2 rfl
      have f1 := hT5.frozen 1
      have f2 := hT5.frozen 2
      have zl := hT5.lt
      have cC := HCc.out _ HB5.out
      clear hb5 hr5 hT5 a1 a2 a3 HTb HAt
      go_upto_if 52 with fail
      have HT6 : RowKit.Hid (Blk ((w5.setCell ⟨wo.heap.size, 2, none⟩ (.slice p5 tl.length c5)).setCell ⟨wo.heap.size, 1, none⟩ (.int .i64 2)) wo.heap.size 47 [.int .i64 ts, .int .i64 2, (.slice p5 tl.length c5)]) := Lib.hid ((HT5.out.set 2 (.slice p5 tl.length c5)).set 1 (.int .i64 2))
      have HR6 : RowKit.Hid (((w5.setCell ⟨wo.heap.size, 2, none⟩ (.slice p5 tl.length c5)).setCell ⟨wo.heap.size, 1, none⟩ (.int .i64 2)).ownsRow (wo.heap.size + 1) 51 4 (.slice p5 tl.length c5) tl.length (opsCells tl)) := Lib.hid (owns_far (owns_far HR5.out (by show wo.heap.size < wo.heap.size + 1; omega) _) (by show wo.heap.size < wo.heap.size + 1; omega) _)
      have HB6 : RowKit.Hid (Below wo.heap.size wo ((w5.setCell ⟨wo.heap.size, 2, none⟩ (.slice p5 tl.length c5)).setCell ⟨wo.heap.size, 1, none⟩ (.int .i64 2))) := Lib.hid ((HB5.out.setCell (Nat.le_refl _) _).setCell (Nat.le_refl _) _)
      obtain ⟨w6, hw6⟩ : ∃ q, (w5.setCell ⟨wo.heap.size, 2, none⟩ (.slice p5 tl.length c5)).setCell ⟨wo.heap.size, 1, none⟩ (.int .i64 2) = q := ⟨_, rfl⟩
      rw [hw6] at HT6 HR6 HB6 ⊢
      clear hw6 z0 z1 z2 f1 f2 zl
      clear HT5 HR5 HB5 cC
      go_cut [11] (fun s9 wx => s9 = .pointer (some ⟨wo.heap.size, 0, none⟩) ∧ Blk wx wo.heap.size 47 [.int .i64 ts, .int .i64 (if b then 1 else 2), (.slice p5 tl.length c5)] ∧ wx.ownsRow (wo.heap.size + 1) 51 4 (.slice p5 tl.length c5) tl.length (opsCells tl) ∧ Below wo.heap.size wo wx)
      case first =>
       have z1 := HT6.out.cell 1 rfl
       have f1 := HT6.out.frozen 1
       have zl := HT6.out.lt
       cases b with
       | true =>
        go_wp2_with fail
        go_meet
        exact ⟨rfl, HT6.out.set 1 (.int .i64 1), owns_far HR6.out (by show wo.heap.size < wo.heap.size + 1; omega) _, HB6.out.setCell (Nat.le_refl _) _⟩
       | false =>
        go_wp2_with fail
        go_meet
        exact ⟨rfl, HT6.out, HR6.out, HB6.out⟩
      case rest =>
       obtain ⟨rfl, ht7, hr7, hb7⟩ := hcut
       obtain ⟨w7, rfl⟩ : ∃ q, q = wc := ⟨_, rfl⟩
       obtain ⟨fa, hfa⟩ : ∃ q : Int, (if b then 1 else 2) = q := ⟨_, rfl⟩
       rw [hfa] at ht7 HNx
       obtain ⟨LF, hLF⟩ : ∃ q, m.2.drop (nLL h.2.2 k) = q := ⟨_, rfl⟩
       rw [hLF] at HNx
       have HLF := Lib.hid hLF
       have z2 := ht7.cell 2 rfl
       have HT7 := Lib.hid ht7
       have HR7 := Lib.hid hr7
       have HB7 := Lib.hid hb7
       clear hfa hLF ht7 hr7 hb7 HT6 HR6 HB6
       go_wp2_with fail
       clear z2
       skip
       go_loopw [9, 57] (fun l i wr => ∃ mm : Nat, mm ≤ tl.length ∧ i = .int .i64 mm ∧ LeftIs pv m.2.length cv (nLL h.2.2 k + nL tl mm) l ∧ Blk wr wo.heap.size 47 [.int .i64 ts, .int .i64 fa, (.slice p5 tl.length c5)] ∧ wr.ownsRow (wo.heap.size + 1) 51 4 (.slice p5 tl.length c5) tl.length (opsCells (fillK tl LF mm)) ∧ Below wo.heap.size wo wr) (fun _ i _ => tl.length - (RowKit.intOf i).toNat)
       case atStart => exact ⟨0, Nat.zero_le _, rfl, HLe.out, HT7.out, by rw [fillK_zero]; exact HR7.out, HB7.out⟩
       case round =>
        obtain ⟨mm, hm, rfl, hleft, hq, hrow, hbw⟩ := hrel
        have z2 := hq.cell 2 rfl
        have zl := hq.lt
        by_cases hm1 : mm < tl.length
        ·obtain ⟨g5, rfl⟩ := owns_posp hrow (by omega)
         have hfl : mm < (fillK tl LF mm).length := by rw [fillK_len _ _ _ hm]; exact hm1
         have HCe := Lib.hid (fun w' (hb : Below wr.heap.size wr w') (i : Nat) (hi : i < 4) => ((owns_later hrow hb).cellAt (mm * 4 + i) (by omega)).trans (ops_cell hfl hi))
         have HCf := Lib.hid (fun w' (hb : Below wr.heap.size wr w') (i : Nat) => (owns_later hrow hb).frozenAt (mm * 4 + i))
         rw [fillK_at tl LF mm hm1] at HCe
         have hgq : wo.heap.size + 1 ≤ g5 := (hrow.lt g5 rfl).1
         have hgl : g5 < wr.heap.size := (hrow.lt g5 rfl).2
         have hnl := nL_next tl mm hm1
         have hn2 := nL_lt tl mm hm1
         have hfn := fillK_next tl LF mm hm1
         have hfs := fillK_same tl LF mm hm1
         have hfo : fillO tl LF mm = if lostO (tl.getD mm noOp) then ((tl.getD mm noOp).1, (tl.getD mm noOp).2.1, LF.getD (nL tl mm) noVal) else tl.getD mm noOp := rfl
         have hos := opsCells_set (LF.getD (nL tl mm) noVal).1 (LF.getD (nL tl mm) noVal).2 (fillK tl LF mm) mm hfl
         rw [fillK_at tl LF mm hm1] at hos
         obtain ⟨⟨ow, ok, od, on⟩, hoo⟩ : ∃ q, tl.getD mm noOp = q := ⟨_, rfl⟩
         rw [hoo] at HCe hnl hn2 hfs hfo hos
         dsimp only at hos
         have e0 := HCe.out wr (Below.refl _ _) 0 (by omega)
         have e1 := HCe.out wr (Below.refl _ _) 1 (by omega)
         have e2 := HCe.out wr (Below.refl _ _) 2 (by omega)
         have e3 := HCe.out wr (Below.refl _ _) 3 (by omega)
         simp only [opCells, List.getElem?_cons_zero, List.getElem?_cons_succ, Nat.add_zero] at e0 e1 e2 e3
         have HQ := Lib.hid hq
         have HRo := Lib.hid hrow
         have HBw := Lib.hid hbw
         have HNl := Lib.hid hnl
         have HN2 := Lib.hid hn2
         have HFn := Lib.hid hfn
         have HFs := Lib.hid hfs
         have HFo := Lib.hid hfo
         have HOs := Lib.hid hos
         have HLf := Lib.hid hleft
         clear hq hrow hbw hnl hn2 hfn hfs hfo hos hleft hoo hfl
         go_wp2_with fail
         refine (lost17_any (ow, ok, od, on) _).mono ?_
         rintro e w8 ⟨rfl, hb8⟩
         clear z2 zl e0 e1 e2 e3
         cases hlo : lostO (ow, ok, od, on) with
         | false =>
          have HN3 : RowKit.Hid (nL tl (mm + 1) = nL tl mm) := Lib.hid (by rw [HNl.out, hlo]; rfl)
          have HF3 := Lib.hid (HFs.out hlo)
          have HB8 := Lib.hid hb8
          clear hlo HNl HFs HFn HFo HOs HN2 hb8
          go_wp2_with fail
          go_roundw
          case rel => exact ⟨mm + 1, by omega, by go_num, by rw [HN3.out]; exact HLf.out, HQ.out.later HB8.out, by rw [HF3.out]; exact owns_later HRo.out HB8.out, below_next HBw.out HB8.out⟩
          case measure => simp [RowKit.intOf]; omega
         | true =>
          have hn3 : nL tl mm < (tl.filter lostO).length := HN2.out hlo
          have hn4 : nLL h.2.2 k + nL tl mm < m.2.length := by have := HL2.out; omega
          obtain ⟨gv, rfl, q0, q1⟩ := HVa.out _ hn4
          have HN3 : RowKit.Hid (nL tl (mm + 1) = nL tl mm + 1) := Lib.hid (by rw [HNl.out, hlo]; rfl)
          have hge : LF.getD (nL tl mm) noVal = m.2.getD (nLL h.2.2 k + nL tl mm) noVal := by rw [← HLF.out]; simp [List.getD_eq_getElem?_getD, List.getElem?_drop]
          have HF3 : RowKit.Hid (fillK tl LF (mm + 1) = (fillK tl LF mm).set mm (ow, ok, LF.getD (nL tl mm) noVal)) := Lib.hid (by rw [HFn.out, HFo.out, hlo]; rfl)
          obtain ⟨n, hn⟩ : ∃ n, nLL h.2.2 k + nL tl mm = n := ⟨_, rfl⟩
          rw [hn] at q0 q1 hge hn4 HLf
          rw [hge] at HOs HF3
          obtain ⟨⟨kd, nn⟩, hkn⟩ : ∃ q, m.2.getD n noVal = q := ⟨_, rfl⟩
          rw [hkn] at q0 q1 HOs HF3
          dsimp only at q0 q1 HOs
          have HNn := Lib.hid hn
          obtain ⟨ql, hfe, hql⟩ := HLf.out
          obtain ⟨gv', e8, rfl⟩ := hql hn4
          cases e8
          have HFe := Lib.hid hfe
          clear hfe hql
          have HS : RowKit.Hid (∀ w', Below w8.heap.size w8 w' → w'.cell? ⟨wo.heap.size, 2, none⟩ = some (.slice (some ⟨g5, 0, none⟩) tl.length c5) ∧ w'.cell? ⟨gv, n * 2, none⟩ = some (.int .i64 kd) ∧ w'.cell? ⟨gv, n * 2 + 1, none⟩ = some (.int .i64 nn) ∧ Below w8.heap.size w8 w') := Lib.hid (fun w' hb => ⟨(HQ.out.later (below_next hb8 hb)).cell 2 rfl, cell_later (below_next SD.out.b (below_next HBw.out (below_next hb8 hb))) q0, cell_later (below_next SD.out.b (below_next HBw.out (below_next hb8 hb))) q1, hb⟩)
          obtain ⟨md, hmd⟩ : ∃ md, m.2.length = n + md + 1 := ⟨m.2.length - n - 1, by omega⟩
          obtain ⟨dd, hdd⟩ : ∃ dd, cv = n + dd + 1 := ⟨cv - n - 1, by omega⟩
          rw [HFe.out, show m.2.length - n = md + 1 by omega, show cv - n = dd + 1 by omega]
          have HMd := Lib.hid (show m.2.length - (n + 1) = md by omega)
          have HDd := Lib.hid (show cv - (n + 1) = dd by omega)
          have hmd2 : md ≤ dd := by omega
          have hdd2 : dd ≤ 9223372036854775807 := by omega
          clear hmd hdd hkn hge hn
          go_upto_region 19 with fail
          refine wp_region_keep (fun w' => w'.cell? ⟨wo.heap.size, 2, none⟩ = some (.slice (some ⟨g5, 0, none⟩) tl.length c5) ∧ w'.cell? ⟨gv, n * 2, none⟩ = some (.int .i64 kd) ∧ w'.cell? ⟨gv, n * 2 + 1, none⟩ = some (.int .i64 nn) ∧ Below w8.heap.size w8 w') [8] (by kernel_rfl) ?_
          have hB0 : Below (w8).heap.size (w8) (w8).drew := Below.drew (Below.refl _ _)
          have hS0 := HS.out _ hB0
          refine wfr 0 (v := ?_) rfl ?_ ?_
          rotate_left
          ·intro w' hw';go_simp;try with_reducible rfl
          try simp only [Act.put, sq]
          refine wtk 1 9 (v := ?_) rfl ?_ hS0 ?_
          rotate_left
          ·intro w' hw';(try dsimp only at hw');go_simp;try with_reducible rfl
          try simp only [Act.put, sq]
          refine wfr 2 (v := ?_) rfl ?_ ?_
          rotate_left
          ·intro w' hw';go_simp;try with_reducible rfl
          try simp only [Act.put, sq]
          refine won 3 rfl fun K hK => ?_
          go_simp
          refine hK.out _ _ (fun _ h => h) ?_
          clear hK K
          try simp only [Act.put, sq]
          refine won 4 rfl fun K hK => ?_
          go_simp
          refine hK.out _ _ (fun _ h => h) ?_
          clear hK K
          try simp only [Act.put, sq]
          refine won 5 rfl fun K hK => ?_
          go_simp
          refine hK.out _ _ (fun _ h => h) ?_
          clear hK K
          try simp only [Act.put, sq]
          refine won 6 rfl fun K hK => ?_
          go_simp
          refine hK.out _ _ (fun _ h => h) ?_
          clear hK K
          try simp only [Act.put, sq]
          refine won 7 rfl fun K hK => ?_
          go_simp
          refine hK.out _ _ (fun _ h => h) ?_
          clear hK K
          try simp only [Act.put, sq]
          have r2 := (HCe.out _ hb8 2 (by omega))
          have r3' := (HCe.out _ hb8 3 (by omega))
          simp only [opCells, List.getElem?_cons_zero, List.getElem?_cons_succ] at r2 r3'
          have r3 : w8.cell? ⟨g5, mm * 4 + 2 + 1, none⟩ = some (.int .i64 on) := r3'
          have t2 := HCf.out _ hb8 2
          have t3 : w8.frozen? ⟨g5, mm * 4 + 2 + 1, none⟩ = false := HCf.out _ hb8 3
          have tl9 : g5 < w8.heap.size := Nat.lt_of_lt_of_le hgl (hb8).size
          clear r3'
          refine won 8 rfl fun K hK => ?_
          go_simp
          refine hK.out _ _ (fun h => absurd h (by decide)) ?_
          clear hK K
          try simp only [Act.put, sq]
          clear r2 r3 t2 t3 tl9
          refine wpAnyM_done (by kernel_rfl) ?_ _
          try simp only [Act.put, sq]
          have HQ9 := Lib.hid (((HQ.out.later hb8).far (a := ⟨g5, mm * 4 + 2, none⟩) (by show wo.heap.size ≠ g5; omega) (.int .i64 kd)).far (a := ⟨g5, mm * 4 + 2 + 1, none⟩) (by show wo.heap.size ≠ g5; omega) (.int .i64 nn)).drew
          have h9 := ((((owns_later HRo.out hb8).stored (mm * 4 + 2) (.int .i64 kd)).1).stored (mm * 4 + 2 + 1) (.int .i64 nn)).1.drew
          rw [HOs.out, ← HF3.out] at h9
          have HR9 := Lib.hid h9
          have HB9 := Lib.hid (Below.drew (((below_next HBw.out hb8).setCell (p := ⟨g5, mm * 4 + 2, none⟩) (by show wo.heap.size ≤ g5; omega) (.int .i64 kd)).setCell (p := ⟨g5, mm * 4 + 2 + 1, none⟩) (by show wo.heap.size ≤ g5; omega) (.int .i64 nn)))
          clear h9
          clear hB0 hS0
          go_wp2_with fail
          go_roundw
          case rel => exact ⟨mm + 1, by omega, by go_num, ⟨_, by rw [HN3.out, ← Nat.add_assoc, HNn.out, HMd.out, HDd.out], fun hh => ⟨gv, rfl, by
            rw [HN3.out, ← Nat.add_assoc, HNn.out] at hh ⊢
            have hz : ¬ dd = 0 := by have := HMd.out; have := HDd.out; omega
            first | rfl | (rw [if_neg hz]; first | rfl | simp [Nat.add_mul]) | simp [hz, Nat.add_mul]⟩⟩, HQ9.out, HR9.out, HB9.out⟩
          case measure => simp [RowKit.intOf]; omega
        ·have hke : mm = tl.length := by omega
         subst hke
         rw [fillK_all] at hrow
         have hwx := HWS.out
         obtain ⟨tq, htq⟩ : ∃ q, (fillG tl LF).1 = q := ⟨_, rfl⟩
         have htql : tq.length = tl.length := by rw [← htq]; exact fill_len tl LF
         rw [htq] at hrow HNx
         clear htq
         have HO8 : RowKit.Hid (wr.ownsRow N 51 4 (.slice p5 tl.length c5) tq.length (opsCells tq)) := Lib.hid (by rw [htql]; exact owns_base hrow (by omega))
         have n0 := hq.cell 0 rfl
         have n1 := hq.cell 1 rfl
         have o2 := (SD.out.g.later hbw).cell 2 rfl
         have hg3 : G < wr.heap.size := by have := hbw.size; omega
         have hsz3 := hbw.size
         have HBw := Lib.hid hbw
         have HLf := Lib.hid hleft
         have HL3 : RowKit.Hid (nLL h.2.2 (k + 1) = nLL h.2.2 k + nL tl tl.length) := Lib.hid (by rw [HL1.out, nL_all])
         clear hrow hbw hleft
         go_wp2_with (at_builtin; refine wpList_append_own _ rfl _ _ 23 rfl N 47 i4 (.agg #[.int .i64 0, .int .i64 0, .slice none 0 0]) 3 40 Tryz.underlying23 hi4 hw0 hw1' hw2' rfl (by decide) vt LV.length (txnsCells LV) rfl ((owns_later SD.out.t HBw.out).alloc _) ⟨wr.heap.size, 0, none⟩ 1 1 [.int .i64 ts, .int .i64 fa, (.slice p5 tl.length c5)] rfl rfl (news_lit _ _ _ _ (by simp)) (by intro u hu; simp at hu; rcases hu with rfl | rfl | rfl <;> rfl) (by have := HLl.out; unfold maxLen; omega) (by have := HLl.out; omega) (by simp; omega) ?_)
         intro v9 w9 hown6 hgrow6 hnil6
         rw [HLl.out] at hown6
         obtain ⟨g6, c6, rfl⟩ := owns_some hown6
         have st6 := mkT_next SD.out HBw.out HO8.out HLl.out hown6 hgrow6
         have o6 := (SD.out.g.later (HBw.out.alloc HBw.out.size (.cells #[.int .i64 ts, .int .i64 fa, (.slice p5 tl.length c5)] 47))).grown ((owns_later SD.out.t HBw.out).alloc _) hwx.2.1 hgrow6
         have q7 := o6.cell 2 rfl
         have q8 := o6.frozen 2
         have S6 := Lib.hid st6
         clear hown6 hgrow6 hnil6 st6 o6 o2 n0 n1 z2 hq
         go_wp2_with fail
         go_roundw
         case rel => exact ⟨k + 1, _, _, by omega, by go_num, by rw [HL3.out]; exact HLf.out, by rw [HNx.out, List.map_append, HLV.out]; rfl, S6.out⟩
         case measure => simp [RowKit.intOf]; omega
     ·have hke : k = h.2.2.length := by omega
      subst hke
      rw [make_all] at hLV
      have hen := mkT_end st hLV
      obtain ⟨ps, cs, rfl⟩ := owns_form st.s
      obtain ⟨pk, ck, rfl⟩ := owns_form st.k
      obtain ⟨pt, ct, rfl⟩ := owns_form st.t
      have e0 := st.g.cell 0 rfl
      have e1 := st.g.cell 1 rfl
      have e2 := st.g.cell 2 rfl
      have y0 := st.r.cell 0 rfl
      have y1 := st.r.cell 1 rfl
      have y2 := st.r.cell 2 rfl
      have g0 := st.r.frozen 0
      have g1 := st.r.frozen 1
      have g2 := st.r.frozen 2
      have gl := st.r.lt
      have HEn := Lib.hid hen
      clear hen st hLV hleft
      go_wp2_with fail
      refine bodyPost_ret (results_ct Tryz.results43 _ _ _ _ _ rfl (load_hist HEn.out.1)) rfl ?_
      exact ⟨_, by rw [HE.out] <;> rfl, by rw [HE.out]; exact HEn.out.2.1, HEn.out.2.2⟩
end Go.Proofs.YtmgchjddpmmglaaGreatDoor
