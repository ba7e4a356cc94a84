/-
  Layer 14's reference (erase): a history by a policy. No conditions.
-/
import Derived.Test.YtmgchjddpmmglaaGreatDoorQxErB
import Derived.Test.YtmgchjddpmmglaaGreatDoorQxErE
namespace Go.Proofs.YtmgchjddpmmglaaGreatDoor
open Go.RowKit Go.Lib
set_option maxRecDepth 100000 in
set_option maxHeartbeats 4000000 in
theorem rby14_any {w : World} {v : Value} {h : HistM} (p : Int) (hv : HistV w v h) (hm : Modst h) :
  Calls Tryz.prog 22 #[v, .int .i64 p] w fun e w' => ∃ v', e = .returned (.tuple #[v', .int .i64 (byP h p).2]) ∧ HistV w' v' (byP h p).1 ∧ Below w.heap.size w w' := by
 have H0 := Lib.hid hv
 obtain ⟨v0, v1, v2, rfl, ⟨p0, c0, rfl, -⟩, ⟨p1, c1, rfl, -⟩, ⟨p2, c2, rfl, -⟩⟩ := hv
 have hal := ((Below.refl w.heap.size w).alloc (Nat.le_refl _) (.cells #[.slice p0 h.1.length c0, .slice p1 h.2.1.length c1, .slice p2 h.2.2.length c2] 25)).alloc (by simp) (.cells #[.slice none 0 0, .slice none 0 0, .slice none 0 0] 25)
 have hbx := (Blk.new w 25 [.slice p0 h.1.length c0, .slice p1 h.2.1.length c1, .slice p2 h.2.2.length c2]).alloc (.cells #[.slice none 0 0, .slice none 0 0, .slice none 0 0] 25)
 have hbr := Blk.new (w.alloc (.cells #[.slice p0 h.1.length c0, .slice p1 h.2.1.length c1, .slice p2 h.2.2.length c2] 25)) 25 [.slice none 0 0, .slice none 0 0, .slice none 0 0]
 simp only [World.size_alloc] at hbr
 have HMy := Lib.hid (rmay_v (H0.out.below hal) hm)
 have HOf := Lib.hid (fun w' (hb : Below w.heap.size w w') (hmm : mayH h = true) => raw14_any (H0.out.below hb) hm hmm)
 have HAL := Lib.hid hal
 have HBX := Lib.hid hbx
 have HBR := Lib.hid hbr
 clear hm hal hbx hbr
 go_enter Tryz.func22, Tryz.ntmps22
 go_wp2_with fail
 refine HMy.out.mono ?_
 rintro e w1 ⟨rfl, hb1⟩
 have HB1 := Lib.hid (below_next HAL.out hb1)
 have HX1 := Lib.hid (HBX.out.later hb1)
 have HR1 := Lib.hid (HBR.out.later hb1)
 have HV1 := Lib.hid (H0.out.below HB1.out)
 have x0 := HX1.out.cell 0 rfl
 have x1 := HX1.out.cell 1 rfl
 have x2 := HX1.out.cell 2 rfl
 have y0 := HR1.out.cell 0 rfl
 have y1 := HR1.out.cell 1 rfl
 have y2 := HR1.out.cell 2 rfl
 have g0 := HR1.out.frozen 0
 have g1 := HR1.out.frozen 1
 have g2 := HR1.out.frozen 2
 have HB3 : RowKit.Hid (∀ a b c, Below w.heap.size w (((w1.setCell ⟨w.heap.size + 1, 0, none⟩ a).setCell ⟨w.heap.size + 1, 1, none⟩ b).setCell ⟨w.heap.size + 1, 2, none⟩ c)) := Lib.hid (fun a b c => ((HB1.out.setCell (by show w.heap.size ≤ w.heap.size + 1; omega) _).setCell (by show w.heap.size ≤ w.heap.size + 1; omega) _).setCell (by show w.heap.size ≤ w.heap.size + 1; omega) _)
 clear hb1 HMy HAL HBX HBR
 cases hmm : mayH h with
 | false =>
  have HE : RowKit.Hid (byP h p = (noH, 4)) := Lib.hid (by unfold byP; rw [hmm]; rfl)
  have HEr := Lib.hid (err_no hmm)
  rw [HEr.out]
  clear hmm
  go_wp2_with fail
  refine bodyPost_ret (results_ct Tryz.results22 _ _ _ _ _ rfl (load_hist (((HR1.out.set 0 (.slice none 0 0)).set 1 (.slice none 0 0)).set 2 (.slice none 0 0)))) rfl ?_
  exact ⟨_, by rw [HE.out] <;> rfl, by rw [HE.out]; exact noH_v _, HB3.out _ _ _⟩
 | true =>
  have HEr := Lib.hid (err_yes hmm)
  rw [HEr.out]
  by_cases g1' : p = 1
  ·subst g1'
   have HE : RowKit.Hid (byP h 1 = (h, 0)) := Lib.hid (by unfold byP; rw [hmm]; rfl)
   clear hmm
   go_wp2_with fail
   obtain ⟨q1, q2⟩ := hist_stored HR1.out (by intro x hx; simp at hx; subst hx; exact ⟨_, _, _, rfl⟩) HV1.out
   refine bodyPost_ret (results_ct Tryz.results22 _ _ _ _ _ rfl (load_hist q1)) rfl ?_
   exact ⟨_, by rw [HE.out] <;> rfl, by rw [HE.out]; exact q2, HB3.out _ _ _⟩
  ·by_cases g2' : p = 2
   ·subst g2'
    have HE : RowKit.Hid (byP h 2 = (eraseH h, 0)) := Lib.hid (by unfold byP; rw [hmm]; rfl)
    have HO := Lib.hid (HOf.out _ HB1.out hmm)
    have HOP : RowKit.Hid (ofP h = eraseH h) := Lib.hid (by unfold ofP; rw [hmm]; rfl)
    clear hmm y0 y1 y2 g0 g1 g2 g1'
    go_wp2_with fail
    refine HO.out.mono ?_
    rintro e w2 ⟨v2, rfl, hv2, hb2⟩
    skip
    obtain ⟨e0, n0, e1, n1, e2, n2, rfl⟩ := histV_form hv2
    have HV2 := Lib.hid hv2
    have HR2 := Lib.hid (HR1.out.later hb2)
    have HB2 := Lib.hid (below_next HB1.out hb2)
    have y0 := HR2.out.cell 0 rfl
    have y1 := HR2.out.cell 1 rfl
    have y2 := HR2.out.cell 2 rfl
    have g0 := HR2.out.frozen 0
    have g1 := HR2.out.frozen 1
    have g2 := HR2.out.frozen 2
    clear hb2 hv2 x0 x1 x2
    go_wp2_with fail
    obtain ⟨q1, q2⟩ := hist_stored HR2.out (by intro x hx; simp at hx; subst hx; exact ⟨_, _, _, rfl⟩) HV2.out
    refine bodyPost_ret (results_ct Tryz.results22 _ _ _ _ _ rfl (load_hist q1)) rfl ?_
    exact ⟨_, by rw [HE.out] <;> rfl, by rw [HE.out]; exact q2, (((HB2.out.setCell (by show w.heap.size ≤ w.heap.size + 1; omega) _).setCell (by show w.heap.size ≤ w.heap.size + 1; omega) _).setCell (by show w.heap.size ≤ w.heap.size + 1; omega) _)⟩
   ·have HE : RowKit.Hid (byP h p = (noH, 2)) := Lib.hid (by unfold byP; rw [hmm, if_neg g1', if_neg g2']; rfl)
    clear hmm
    go_wp2_with fail
    refine bodyPost_ret (results_ct Tryz.results22 _ _ _ _ _ rfl (load_hist (((HR1.out.set 0 (.slice none 0 0)).set 1 (.slice none 0 0)).set 2 (.slice none 0 0)))) rfl ?_
    exact ⟨_, by rw [HE.out] <;> rfl, by rw [HE.out]; exact noH_v _, HB3.out _ _ _⟩
end Go.Proofs.YtmgchjddpmmglaaGreatDoor
