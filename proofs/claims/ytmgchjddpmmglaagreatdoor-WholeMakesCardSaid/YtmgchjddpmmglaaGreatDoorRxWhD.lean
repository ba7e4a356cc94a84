/-
  Layer 17 (whole): a history made whole by a world, or refused, the document. No conditions.
-/
import Derived.Test.YtmgchjddpmmglaaGreatDoorRxWoC
import Derived.Test.YtmgchjddpmmglaaGreatDoorRxWhC
import Derived.Test.YtmgchjddpmmglaaGreatDoorRWr
namespace Go.Proofs.YtmgchjddpmmglaaGreatDoor
open Go.RowKit Go.Lib
set_option maxRecDepth 100000 in
set_option maxHeartbeats 8000000 in
theorem rmake17_any {w : World} {v u : Value} {h : HistM} {m : WorldM} (hv : HistV w v h) (hu : WorldV w u m) (hm : Modst h) (h50 : m.1.length ≤ 50 ∧ m.2.length ≤ 50) :
  Calls Tryz.prog 44 #[v, u] w fun e w' => ∃ v', e = .returned (.tuple #[v', .int .i64 (makeP h m).2]) ∧ HistV w' v' (makeP h m).1 ∧ Below w.heap.size w w' := by
 have H0 := Lib.hid hv
 have U0 := Lib.hid hu
 obtain ⟨v0, v1, v2, rfl, ⟨p0, c0, rfl, k0⟩, ⟨p1, c1, rfl, k1⟩, ⟨p2, c2, rfl, k2⟩⟩ := hv
 obtain ⟨pb, cb, pv, cv, rfl, hb, hvv, hcb, hcv⟩ := worldV_form hu
 obtain ⟨hcv1, hcv2⟩ := hcv
 unfold maxLen at hcv2
 have m1 : h.1.length ≤ 1000 := hm.1
 have m2 : h.2.1.length ≤ 1000 := hm.2.1
 have m3 : h.2.2.length ≤ 1000 := hm.2.2.1
 have hal := (((Below.refl w.heap.size w).alloc (Nat.le_refl _) (.cells #[.slice p0 h.1.length c0, .slice p1 h.2.1.length c1, .slice p2 h.2.2.length c2] 25)).alloc (by simp) (.cells #[.slice pb m.1.length cb, .slice pv m.2.length cv] 64)).alloc (by simp; omega) (.cells #[.slice none 0 0, .slice none 0 0, .slice none 0 0] 25)
 have hbx := ((Blk.new w 25 [.slice p0 h.1.length c0, .slice p1 h.2.1.length c1, .slice p2 h.2.2.length c2]).alloc (.cells #[.slice pb m.1.length cb, .slice pv m.2.length cv] 64)).alloc (.cells #[.slice none 0 0, .slice none 0 0, .slice none 0 0] 25)
 have hbw := (Blk.new (w.alloc (.cells #[.slice p0 h.1.length c0, .slice p1 h.2.1.length c1, .slice p2 h.2.2.length c2] 25)) 64 [.slice pb m.1.length cb, .slice pv m.2.length cv]).alloc (.cells #[.slice none 0 0, .slice none 0 0, .slice none 0 0] 25)
 have hbr := Blk.new ((w.alloc (.cells #[.slice p0 h.1.length c0, .slice p1 h.2.1.length c1, .slice p2 h.2.2.length c2] 25)).alloc (.cells #[.slice pb m.1.length cb, .slice pv m.2.length cv] 64)) 25 [.slice none 0 0, .slice none 0 0, .slice none 0 0]
 simp only [World.size_alloc] at hbw hbr
 have HK0 := Lib.hid k0
 have HK1 := Lib.hid k1
 have HX := Lib.hid k2
 have HVa := Lib.hid hvv
 have HMod := Lib.hid hm
 have H50 := Lib.hid h50
 have HAL := Lib.hid hal
 have HBX := Lib.hid hbx
 have HBW := Lib.hid hbw
 have HBR := Lib.hid hbr
 obtain ⟨i3, hi3, hy0, hy1, hy2⟩ := info_parts info_op
 obtain ⟨i4, hi4, hw0, hw1', hw2'⟩ := info_parts info_txn
 clear k0 k1 k2 hvv hm h50 hal hbx hbw hbr hb hcb hu
 go_enter Tryz.func44, Tryz.ntmps44
 go_upto_region 1 with fail
 obtain ⟨W1, hW1⟩ : ∃ q, (((w.alloc (.cells #[.slice p0 h.1.length c0, .slice p1 h.2.1.length c1, .slice p2 h.2.2.length c2] 25)).alloc (.cells #[.slice pb m.1.length cb, .slice pv m.2.length cv] 64)).alloc (.cells #[.slice none 0 0, .slice none 0 0, .slice none 0 0] 25)) = q := ⟨_, rfl⟩
 rw [hW1] at HAL HBX HBW HBR ⊢
 clear hW1
 have HPx := Lib.hid HBX.out
 have HPw := Lib.hid HBW.out
 have HR := Lib.hid HBR.out
 have HB := Lib.hid HAL.out
 clear HBX HBW HBR HAL
 have x0 := HPx.out.cell 0 rfl
 have x1 := HPx.out.cell 1 rfl
 have x2 := HPx.out.cell 2 rfl
 have u0 := HPw.out.cell 0 rfl
 have u1 := HPw.out.cell 1 rfl
 have y0 := HR.out.cell 0 rfl
 have y1 := HR.out.cell 1 rfl
 have y2 := HR.out.cell 2 rfl
 have g0 := HR.out.frozen 0
 have g1 := HR.out.frozen 1
 have g2 := HR.out.frozen 2
 go_wp2_with fail
 refine (rmay_v (H0.out.below HB.out) HMod.out).mono ?_
 rintro e W2 ⟨rfl, hb2⟩
 clear x0 x1 x2 u0 u1 y0 y1 y2 g0 g1 g2
 replace HPx := Lib.hid (HPx.out.later hb2)
 replace HPw := Lib.hid (HPw.out.later hb2)
 replace HR := Lib.hid (HR.out.later hb2)
 replace HB := Lib.hid (below_next HB.out hb2)
 clear hb2
 have x0 := HPx.out.cell 0 rfl
 have x1 := HPx.out.cell 1 rfl
 have x2 := HPx.out.cell 2 rfl
 have u0 := HPw.out.cell 0 rfl
 have u1 := HPw.out.cell 1 rfl
 have y0 := HR.out.cell 0 rfl
 have y1 := HR.out.cell 1 rfl
 have y2 := HR.out.cell 2 rfl
 have g0 := HR.out.frozen 0
 have g1 := HR.out.frozen 1
 have g2 := HR.out.frozen 2
 cases hmm : mayH h with
 | false =>
  have HE : RowKit.Hid (makeP h m = (noH, 4)) := Lib.hid (by unfold makeP; rw [hmm]; rfl)
  have HEr := Lib.hid (err_no hmm)
  rw [HEr.out]
  clear hmm
  go_wp2_with fail
  refine bodyPost_ret (results_ct Tryz.results44 _ _ _ _ _ rfl (load_hist (((HR.out.set 0 (.slice none 0 0)).set 1 (.slice none 0 0)).set 2 (.slice none 0 0)))) rfl ?_
  exact ⟨_, by rw [HE.out] <;> rfl, by rw [HE.out]; exact noH_v _, ((HB.out.setCell (by show w.heap.size ≤ w.heap.size + 1 + 1; omega) _).setCell (by show w.heap.size ≤ w.heap.size + 1 + 1; omega) _).setCell (by show w.heap.size ≤ w.heap.size + 1 + 1; omega) _⟩
 | true =>
  have HEr := Lib.hid (err_yes hmm)
  rw [HEr.out]
  have HMM := Lib.hid hmm
  clear hmm
  go_wp2_with fail
  refine (rmayw16_any (H0.out.below HB.out) (U0.out.below HB.out) HMod.out H50.out).mono ?_
  rintro e WB ⟨rfl, hb2⟩
  clear x0 x1 x2 u0 u1 y0 y1 y2 g0 g1 g2
  replace HPx := Lib.hid (HPx.out.later hb2)
  replace HPw := Lib.hid (HPw.out.later hb2)
  replace HR := Lib.hid (HR.out.later hb2)
  replace HB := Lib.hid (below_next HB.out hb2)
  clear hb2
  have x0 := HPx.out.cell 0 rfl
  have x1 := HPx.out.cell 1 rfl
  have x2 := HPx.out.cell 2 rfl
  have u0 := HPw.out.cell 0 rfl
  have u1 := HPw.out.cell 1 rfl
  have y0 := HR.out.cell 0 rfl
  have y1 := HR.out.cell 1 rfl
  have y2 := HR.out.cell 2 rfl
  have g0 := HR.out.frozen 0
  have g1 := HR.out.frozen 1
  have g2 := HR.out.frozen 2
  cases hmw : mayW h m with
  | false =>
   have HE : RowKit.Hid (makeP h m = (noH, 2)) := Lib.hid (by unfold makeP; rw [HMM.out, hmw]; rfl)
   clear hmw
   go_wp2_with fail
   refine bodyPost_ret (results_ct Tryz.results44 _ _ _ _ _ rfl (load_hist (((HR.out.set 0 (.slice none 0 0)).set 1 (.slice none 0 0)).set 2 (.slice none 0 0)))) rfl ?_
   exact ⟨_, by rw [HE.out] <;> rfl, by rw [HE.out]; exact noH_v _, ((HB.out.setCell (by show w.heap.size ≤ w.heap.size + 1 + 1; omega) _).setCell (by show w.heap.size ≤ w.heap.size + 1 + 1; omega) _).setCell (by show w.heap.size ≤ w.heap.size + 1 + 1; omega) _⟩
  | true =>
   have HE : RowKit.Hid (makeP h m = (makeH h m, 0)) := Lib.hid (by unfold makeP; rw [HMM.out, hmw]; rfl)
   have HMW := Lib.hid ((mayW_iff h m).1 hmw)
   clear hmw
   go_wp2_with fail
   refine (raw17_any (H0.out.below HB.out) (U0.out.below HB.out) HMod.out H50.out HMW.out).mono ?_
   rintro e WC ⟨v2, rfl, hv2, hb2⟩
   obtain ⟨e0, n0, e1, n1, e2, n2, rfl⟩ := histV_form hv2
   have HV2 := Lib.hid hv2
   clear x0 x1 x2 u0 u1 y0 y1 y2 g0 g1 g2
   replace HR := Lib.hid (HR.out.later hb2)
   replace HB := Lib.hid (below_next HB.out hb2)
   clear hb2 hv2
   have y0 := HR.out.cell 0 rfl
   have y1 := HR.out.cell 1 rfl
   have y2 := HR.out.cell 2 rfl
   have g0 := HR.out.frozen 0
   have g1 := HR.out.frozen 1
   have g2 := HR.out.frozen 2
   go_wp2_with fail
   obtain ⟨q1, q2⟩ := hist_stored HR.out (by intro x hx; simp at hx; subst hx; exact ⟨_, _, _, rfl⟩) HV2.out
   refine bodyPost_ret (results_ct Tryz.results44 _ _ _ _ _ rfl (load_hist q1)) rfl ?_
   exact ⟨_, by rw [HE.out] <;> rfl, by rw [HE.out]; exact q2, (((HB.out.setCell (by show w.heap.size ≤ w.heap.size + 1 + 1; omega) _).setCell (by show w.heap.size ≤ w.heap.size + 1 + 1; omega) _).setCell (by show w.heap.size ≤ w.heap.size + 1 + 1; omega) _)⟩
end Go.Proofs.YtmgchjddpmmglaaGreatDoor
