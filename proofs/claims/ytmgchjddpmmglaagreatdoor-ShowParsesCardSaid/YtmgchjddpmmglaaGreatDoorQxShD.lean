/-
  Layer 12 (show), the document's answer: Parse, walked. Conditions: texts of at most 1,000,000 bytes.
-/
import Derived.Test.YtmgchjddpmmglaaGreatDoorQxPbH
namespace Go.Proofs.YtmgchjddpmmglaaGreatDoor
open Go.RowKit Go.Lib
theorem ret_hr12 {w : World} {b : Nat} {v0 v1 v2 : Value} (tmps : Array Value) (v3 v4 : Value) (h : Blk w b 25 [v0, v1, v2]) (h2 : tmps.getD 2 undef = .pointer (some ⟨b, 0, none⟩)) (h3 : tmps.getD 3 undef = v3) (h4 : tmps.getD 4 undef = v4) :
  (results Tryz.f17 tmps).run Tryz.prog w = .ok (.tuple #[.agg #[v0, v1, v2], v3, v4]) w := by
 have hr : w.rangeAt b 0 [v0, v1, v2] := fun j v hj => by rw [Nat.zero_add]; exact h.cell j hj
 have hl := run_loadVar_mid (P := Tryz.prog) w b 0 25 [v0, v1, v2] _ hr Tryz.underlying25 rfl (by kernel_rfl)
 rw [← h3, ← h4]
 exact results_cell3' Tryz.results17 tmps _ w _ _ h2 hl
set_option maxRecDepth 100000 in
set_option maxHeartbeats 2000000 in
theorem rparse12_any (l : List UInt8) (hl : l.length ≤ 1000000) (w : World) :
  Calls Tryz.prog 17 #[.string (bs l)] w fun e w' => ∃ hv, e = .returned (.tuple #[hv, .int .i64 (parseP l).2.1, .int .i64 (parseP l).2.2]) ∧ HistV w' hv (parseP l).1 ∧ Below w.heap.size w w' := by
 have hal := (Below.refl w.heap.size w).alloc (Nat.le_refl _) (.cells #[.slice none 0 0, .slice none 0 0, .slice none 0 0] 25)
 have HLg := Lib.hid (rlog_any l hl (w.alloc (.cells #[.slice none 0 0, .slice none 0 0, .slice none 0 0] 25)))
 have HG := Lib.hid (read_good l)
 have HSh := Lib.hid (read_short l)
 have HErr := Lib.hid (fun (L : List EventM) n e (h : readL l = (L, n, e)) (he : e ≠ 0) => parse12_err h he)
 have HOk := Lib.hid (fun (L : List EventM) n (h : readL l = (L, n, 0)) => parse12_ok h)
 have HAL := Lib.hid hal
 have HR1 := Lib.hid (Blk.new w 25 [.slice none 0 0, .slice none 0 0, .slice none 0 0])
 obtain ⟨⟨L, n, er⟩, hr⟩ : ∃ r, readL l = r := ⟨_, rfl⟩
 rw [hr] at HLg HG HSh HErr HOk
 clear hr hal
 go_enter Tryz.func17, Tryz.ntmps17
 go_wp2_with fail
 refine HLg.out.mono ?_
 rintro e w1 ⟨v, rfl, hev, hb1⟩
 have hbw1 := below_next HAL.out hb1
 have HR2 := Lib.hid (HR1.out.later hb1)
 have HB1 := Lib.hid hbw1
 clear hb1 HLg HR1 HAL
 dsimp only at hev HG HSh ⊢
 obtain ⟨gr, hgr⟩ : ∃ g, w.heap.size = g := ⟨_, rfl⟩
 rw [hgr] at HR2 HB1
 try simp only [hgr]
 by_cases her : er = 0
 ·subst her
  have hP := HOk.out _ _ rfl
  have HH := Lib.hid (rhist10_any v L hev HG.out.1 HSh.out)
  obtain ⟨⟨h, n', e'⟩, hh⟩ : ∃ r, histP L = r := ⟨_, rfl⟩
  rw [hh] at HH hP
  have HP := Lib.hid hP
  clear hh hev HErr HOk hP
  go_wp2_with fail
  refine HH.out.mono ?_
  rintro e w2 ⟨hv, rfl, hhv, hb2⟩
  try dsimp only at hhv
  have HR3 := Lib.hid (HR2.out.later hb2)
  have hb3 : Below gr w w2 := HB1.out.trans (hb2.mono (by have := HB1.out.size; omega))
  obtain ⟨p0, c0, p1, c1, p2, c2, rfl⟩ := histV_form hhv
  have HS := Lib.hid (box_hist (gr := gr) ⟨HR3.out, by intro x hx; simp at hx; exact ⟨none, 0, 0, hx⟩⟩ hhv)
  have r0 := HR3.out.cell 0 rfl
  have r1 := HR3.out.cell 1 rfl
  have r2 := HR3.out.cell 2 rfl
  have f0 := HR3.out.frozen 0
  have f1 := HR3.out.frozen 1
  have f2 := HR3.out.frozen 2
  have HRS := Lib.hid (((HR3.out.set 0 (.slice p0 h.1.length c0)).set 1 (.slice p1 h.2.1.length c1)).set 2 (.slice p2 h.2.2.length c2))
  have HB3 := Lib.hid (((hb3.setCell (p := ⟨gr, 0, none⟩) (Nat.le_refl _) (.slice p0 h.1.length c0)).setCell (p := ⟨gr, 1, none⟩) (Nat.le_refl _) (.slice p1 h.2.1.length c1)).setCell (p := ⟨gr, 2, none⟩) (Nat.le_refl _) (.slice p2 h.2.2.length c2))
  clear hhv hb2 hb3 HH
  go_wp21
  rw [HP.out]
  refine bodyPost_ret (ret_hr12 _ _ _ HRS.out rfl rfl rfl) rfl ⟨_, rfl, HS.out, ?_⟩
  rw [hgr]
  exact HB3.out
 ·have hfb : (er != 0) = true := by simpa using her
  have HE := Lib.hid (HErr.out _ _ _ rfl her)
  have r0 := HR2.out.cell 0 rfl
  have r1 := HR2.out.cell 1 rfl
  have r2 := HR2.out.cell 2 rfl
  have f0 := HR2.out.frozen 0
  have f1 := HR2.out.frozen 1
  have f2 := HR2.out.frozen 2
  have HRS := Lib.hid (((HR2.out.set 0 (.slice none 0 0)).set 1 (.slice none 0 0)).set 2 (.slice none 0 0))
  have hb3 := HB1.out
  clear her hev HErr HOk
  go_wp21
  rw [HE.out]
  refine bodyPost_ret (ret_hr12 _ _ _ HRS.out rfl rfl rfl) rfl ⟨_, rfl, histV_no _, ?_⟩
  rw [hgr]
  exact ((hb3.setCell (Nat.le_refl _) _).setCell (Nat.le_refl _) _).setCell (Nat.le_refl _) _
end Go.Proofs.YtmgchjddpmmglaaGreatDoor
