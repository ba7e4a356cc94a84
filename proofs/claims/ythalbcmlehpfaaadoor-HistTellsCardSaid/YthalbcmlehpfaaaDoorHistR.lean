/-
  The statement HistTells of layer 11 (hist), walked. No conditions but that unicode/utf8's two tables are as their initialisers lay them.
-/
import Derived.Test.YthalbcmlehpfaaaDoorHistO
namespace Go.Proofs.YthalbcmlehpfaaaDoor
open Go.RowKit Go.Lib

theorem lostL_len (h : HistM) (hm : Modst h) : (lostL h).length ≤ 1000000 := by
  unfold lostL
  split
  · have := itH_len h.2.2 hm.2.2.2.2.2 h.2.2.length (Nat.le_refl _)
    have := lostI_len (itH h.2.2 h.2.2.length)
    have := hm.2.2.1
    omega
  · exact Nat.zero_le _
theorem places_empty (w : World) (a : Addr) (c : Nat) : PlacesS w (.slice (some a) 0 c) [] := ⟨_, c, rfl, fun j hj => absurd hj (Nat.not_lt_zero j)⟩
set_option maxRecDepth 100000 in
set_option maxHeartbeats 4000000 in
theorem histtells_any (v : Value) (hM : HistM) (w : World) (hv : HistA w v hM) (hT : Lib.Utf8Tabs 0 1 w) :
    Calls Tryd.prog 3 #[v] w fun e w' => e = .returned (.bool true) ∧ Below w.heap.size w w' := by
  have b0 : ∀ x0 x1 x2, Blk (w.alloc (.cells #[x0, x1, x2] 25)) w.heap.size 25 [x0, x1, x2] := fun x0 x1 x2 => Blk.new w _ [x0, x1, x2]
  have hb0 : ∀ o, Below w.heap.size w (w.alloc o) := fun o => (Below.refl _ w).alloc (Nat.le_refl _) o
  have HA0 := Lib.hid hv
  obtain ⟨v0, v1, v2, rfl, ⟨p0, c0, rfl, -⟩, ⟨p1, c1, rfl, -⟩, ⟨p2, c2, rfl, -⟩⟩ := hv
  have HF0 := Lib.hid (few11_any _ _ hM (HA0.out.below (hb0 (.cells #[.slice p0 hM.1.length c0, .slice p1 hM.2.1.length c1, .slice p2 hM.2.2.length c2] 25))))
  have HB0 := Lib.hid hb0
  have B0 := Lib.hid (b0 (.slice p0 hM.1.length c0) (.slice p1 hM.2.1.length c1) (.slice p2 hM.2.2.length c2))
  have y0 := B0.out.cell 0 rfl
  have y1 := B0.out.cell 1 rfl
  have y2 := B0.out.cell 2 rfl
  have HT := Lib.hid hT
  have HMo := Lib.hid (few_modst hM)
  clear b0 hb0 hT
  go_enter Tryd.func3, Tryd.ntmps3
  go_wp2_with fail
  refine HF0.out.mono ?_
  rintro e w1 ⟨v', rfl, hv', ha', hb1⟩
  have HV1 := Lib.hid hv'
  have HA1 := Lib.hid ha'
  obtain ⟨u0, u1, u2, rfl, ⟨q0, d0, rfl, -⟩, ⟨q1, d1, rfl, -⟩, ⟨q2, d2, rfl, -⟩⟩ := hv'
  have z := B0.out.later hb1
  have z0 := z.cell 0 rfl
  have z1 := z.cell 1 rfl
  have z2 := z.cell 2 rfl
  have z3 := z.frozen 0
  have z4 := z.frozen 1
  have z5 := z.frozen 2
  have ST := Lib.hid (few_stored (HB0.out _) B0.out (by intro x hx; simp at hx; rcases hx with rfl | rfl | rfl <;> exact ⟨_, _, _, rfl⟩) hb1 HV1.out HA1.out)
  clear ha' hb1 z y0 y1 y2 HF0 HV1 HA1
  go_upto_region 2 with fail
  generalize (((w1.setCell ⟨w.heap.size, 0, none⟩ (.slice q0 (fewH hM).1.length d0)).setCell ⟨w.heap.size, 1, none⟩ (.slice q1 (fewH hM).2.1.length d1)).setCell ⟨w.heap.size, 2, none⟩ (.slice q2 (fewH hM).2.2.length d2)) = W2 at *
  obtain ⟨k0, HVx, HAx, hbW⟩ := ST.out
  have KB := Lib.hid k0
  have HV2 := Lib.hid HVx
  have HA2 := Lib.hid HAx
  have HBW := Lib.hid hbW
  have o0 := k0.cell 0 rfl
  have o1 := k0.cell 1 rfl
  have o2 := k0.cell 2 rfl
  have hl0 : w.heap.size < W2.heap.size := k0.lt
  have hl1 : w.heap.size < W2.heap.size + 1 := by omega
  have hl2 : w.heap.size < W2.heap.size + 1 + 1 := by omega
  clear ST k0 HVx HAx hbW z0 z1 z2 z3 z4 z5
  have HFF := Lib.hid (fun w' v (ha : HistA w' v (fewH hM)) => few_v ha)
  generalize fewH hM = hF at *
  have HLen := Lib.hid (whereL_len infosP hF HMo.out)
  have HLenP := Lib.hid (show (lostL hF).length ≤ 4611686018427387904 from Nat.le_trans (lostL_len hF HMo.out) (by omega))
  go_wp2_with fail
  refine (rmay_v (HV2.out.below (((Below.refl _ _).alloc (Nat.le_refl _) _).alloc (by simp) _)) HMo.out).mono ?_
  rintro e w3 ⟨rfl, hb3⟩
  have hb23 := below_next (((Below.refl W2.heap.size W2).alloc (Nat.le_refl _) (.cells #[] 3)).alloc (by simp) (.cells #[] 64)) hb3
  have k3 := KB.out.later hb23
  have r0 := k3.cell 0 rfl
  have r1 := k3.cell 1 rfl
  have r2 := k3.cell 2 rfl
  cases hmm : mayH hF with
  | false =>
    have HE := Lib.hid (err_no hmm)
    have HWant : RowKit.Hid (∀ w', Below w3.heap.size w3 w' → IntsS w' (.slice (some ⟨W2.heap.size, 0, none⟩) 0 0) (whereL infosP hF)) := Lib.hid (fun w' _ => by rw [whereL_no _ hmm]; exact ints_empty _ _ _)
    have HWantP : RowKit.Hid (∀ w', Below w3.heap.size w3 w' → PlacesS w' (.slice (some ⟨W2.heap.size + 1, 0, none⟩) 0 0) (lostL hF)) := Lib.hid (fun w' _ => by rw [lostL_no hmm]; exact places_empty _ _ _)
    clear hmm k3 hb3
    rw [HE.out]
    have HBB := Lib.hid (hb23)
    have HS : RowKit.Hid (∀ w', Below w3.heap.size w3 w' → (w'.cell? ⟨w.heap.size, 0, none⟩ = some (.slice q0 hF.1.length d0) ∧ w'.cell? ⟨w.heap.size, 1, none⟩ = some (.slice q1 hF.2.1.length d1) ∧ w'.cell? ⟨w.heap.size, 2, none⟩ = some (.slice q2 hF.2.2.length d2) ∧ Below w3.heap.size w3 w')) := Lib.hid (fun w' hb => ⟨(KB.out.later (below_next HBB.out hb)).cell 0 rfl, (KB.out.later (below_next HBB.out hb)).cell 1 rfl, (KB.out.later (below_next HBB.out hb)).cell 2 rfl, hb⟩)
    have HAb := Lib.hid (fun w' (hb : Below w3.heap.size w3 w') => HA2.out.below (below_next HBB.out hb))
    have HVb := Lib.hid (fun w' (hb : Below w3.heap.size w3 w') => HV2.out.below (below_next HBB.out hb))
    have HTb := Lib.hid (fun w' (hb : Below w3.heap.size w3 w') => Utf8Tabs_below HT.out (HBW.out.trans ((below_next HBB.out hb).mono HBW.out.size)))
    have HFin := Lib.hid (fun w' (hb : Below w3.heap.size w3 w') => HBW.out.trans ((below_next HBB.out hb).mono HBW.out.size))
    clear HV2 HA2 o0 o1 o2 hl0 hl1 hl2
    have s0 := (HS.out _ (Below.refl _ _)).1
    have s1 := (HS.out _ (Below.refl _ _)).2.1
    have s2 := (HS.out _ (Below.refl _ _)).2.2.1
    go_wp2_with fail
    refine (HFF.out _ _ (HAb.out _ (Below.refl _ _))).mono ?_
    rintro e wa ⟨va, rfl, hva, -, hba⟩
    go_wp2_with fail
    refine (infos_v hva HMo.out (HTb.out _ hba)).mono ?_
    rintro e wb' ⟨vb, rfl, hib, hbb⟩
    have hbb2 := below_next hba hbb
    clear hva hba hbb s0 s1 s2
    go_wp2_with fail
    refine (sameints_eq hib (HWant.out _ hbb2) HLen.out).mono ?_
    rintro e wc' ⟨rfl, hbc⟩
    have hbc2 := below_next hbb2 hbc
    have t0 := (HS.out _ hbc2).1
    have t1 := (HS.out _ hbc2).2.1
    have t2 := (HS.out _ hbc2).2.2.1
    clear hib hbb2 hbc
    go_wp2_with fail
    refine (HFF.out _ _ (HAb.out _ hbc2)).mono ?_
    rintro e wd ⟨vd, rfl, hvd, -, hbd⟩
    have hbd2 := below_next hbc2 hbd
    clear hbc2 hbd t0 t1 t2
    go_wp2_with fail
    refine (lost_v hvd HMo.out (HTb.out _ hbd2)).mono ?_
    rintro e we ⟨ve, rfl, hie, hbe⟩
    have hbe2 := below_next hbd2 hbe
    clear hvd hbd2 hbe
    go_wp2_with fail
    refine (sameplaces_any _ _ _ _ hie (HWantP.out _ hbe2) HLenP.out).mono ?_
    rintro e wf ⟨rfl, hbf⟩
    have hbf2 := below_next hbe2 hbf
    clear hie hbe2 hbf
    go_wp2_with fail
    refine (works11_any _ (HTb.out _ hbf2)).mono ?_
    rintro e wg ⟨rfl, hbg⟩
    go_wp2_with fail
    go_ret
    exact ⟨rfl, HFin.out _ (below_next hbf2 hbg)⟩
  | true =>
    have HE := Lib.hid (err_yes hmm)
    have HWe := Lib.hid (whereL_yes infosP hmm)
    have HWp := Lib.hid (lostL_yes hmm)
    clear hmm k3 hb3
    rw [HE.out]
    have HS4 : RowKit.Hid (∀ w', Below w3.heap.size w3 w' → (w'.cell? ⟨w.heap.size, 0, none⟩ = some (.slice q0 hF.1.length d0) ∧ w'.cell? ⟨w.heap.size, 1, none⟩ = some (.slice q1 hF.2.1.length d1) ∧ w'.cell? ⟨w.heap.size, 2, none⟩ = some (.slice q2 hF.2.2.length d2) ∧ Below w3.heap.size w3 w')) := Lib.hid (fun w' hb => ⟨(KB.out.later (below_next hb23 hb)).cell 0 rfl, (KB.out.later (below_next hb23 hb)).cell 1 rfl, (KB.out.later (below_next hb23 hb)).cell 2 rfl, hb⟩)
    have HV4 := Lib.hid (fun w' (hb : Below w3.heap.size w3 w') => HV2.out.below (below_next hb23 hb))
    go_wp2_with fail
    go_region_held3 (fun w' => w'.cell? ⟨w.heap.size, 0, none⟩ = some (.slice q0 hF.1.length d0) ∧ w'.cell? ⟨w.heap.size, 1, none⟩ = some (.slice q1 hF.2.1.length d1) ∧ w'.cell? ⟨w.heap.size, 2, none⟩ = some (.slice q2 hF.2.2.length d2) ∧ Below w3.heap.size w3 w')
      ((go_split_ands; exact HS4.out _ (by first | assumption | exact Below.drew (Below.refl _ _) | exact below_next (by assumption) (by assumption))))
      ((go_split_ands; first
        | (go_at_call 12; refine (rinfos_v (HV4.out _ (by assumption)) HMo.out).mono ?_; rintro e w4 ⟨v4, rfl, hi4, hb4⟩)
        | (go_at_call 13; refine (rlost_v (HV4.out _ (by assumption)) HMo.out).mono ?_; rintro e w5 ⟨v5, rfl, hi5, hb5⟩)))
    go_split_ands
    have hb25 := below_next hb23 (show Below w3.heap.size w3 w5 by assumption)
    have hi45 := hi4.below hb5
    have HWant : RowKit.Hid (∀ w', Below w5.heap.size w5 w' → IntsS w' v4 (whereL infosP hF)) := Lib.hid (fun w' hb => by rw [HWe.out]; exact hi45.below hb)
    have HWantP : RowKit.Hid (∀ w', Below w5.heap.size w5 w' → PlacesS w' v5 (lostL hF)) := Lib.hid (fun w' hb => by rw [HWp.out]; exact hi5.below hb)
    clear hi4 hi5 hi45 hb4 hb5 HS4 HV4 r0 r1 r2
    have HBB := Lib.hid (hb25)
    have HS : RowKit.Hid (∀ w', Below w5.heap.size w5 w' → (w'.cell? ⟨w.heap.size, 0, none⟩ = some (.slice q0 hF.1.length d0) ∧ w'.cell? ⟨w.heap.size, 1, none⟩ = some (.slice q1 hF.2.1.length d1) ∧ w'.cell? ⟨w.heap.size, 2, none⟩ = some (.slice q2 hF.2.2.length d2) ∧ Below w5.heap.size w5 w')) := Lib.hid (fun w' hb => ⟨(KB.out.later (below_next HBB.out hb)).cell 0 rfl, (KB.out.later (below_next HBB.out hb)).cell 1 rfl, (KB.out.later (below_next HBB.out hb)).cell 2 rfl, hb⟩)
    have HAb := Lib.hid (fun w' (hb : Below w5.heap.size w5 w') => HA2.out.below (below_next HBB.out hb))
    have HVb := Lib.hid (fun w' (hb : Below w5.heap.size w5 w') => HV2.out.below (below_next HBB.out hb))
    have HTb := Lib.hid (fun w' (hb : Below w5.heap.size w5 w') => Utf8Tabs_below HT.out (HBW.out.trans ((below_next HBB.out hb).mono HBW.out.size)))
    have HFin := Lib.hid (fun w' (hb : Below w5.heap.size w5 w') => HBW.out.trans ((below_next HBB.out hb).mono HBW.out.size))
    clear HV2 HA2 o0 o1 o2 hl0 hl1 hl2
    have s0 := (HS.out _ (Below.refl _ _)).1
    have s1 := (HS.out _ (Below.refl _ _)).2.1
    have s2 := (HS.out _ (Below.refl _ _)).2.2.1
    go_wp2_with fail
    refine (HFF.out _ _ (HAb.out _ (Below.refl _ _))).mono ?_
    rintro e wa ⟨va, rfl, hva, -, hba⟩
    go_wp2_with fail
    refine (infos_v hva HMo.out (HTb.out _ hba)).mono ?_
    rintro e wb' ⟨vb, rfl, hib, hbb⟩
    have hbb2 := below_next hba hbb
    clear hva hba hbb s0 s1 s2
    go_wp2_with fail
    refine (sameints_eq hib (HWant.out _ hbb2) HLen.out).mono ?_
    rintro e wc' ⟨rfl, hbc⟩
    have hbc2 := below_next hbb2 hbc
    have t0 := (HS.out _ hbc2).1
    have t1 := (HS.out _ hbc2).2.1
    have t2 := (HS.out _ hbc2).2.2.1
    clear hib hbb2 hbc
    go_wp2_with fail
    refine (HFF.out _ _ (HAb.out _ hbc2)).mono ?_
    rintro e wd ⟨vd, rfl, hvd, -, hbd⟩
    have hbd2 := below_next hbc2 hbd
    clear hbc2 hbd t0 t1 t2
    go_wp2_with fail
    refine (lost_v hvd HMo.out (HTb.out _ hbd2)).mono ?_
    rintro e we ⟨ve, rfl, hie, hbe⟩
    have hbe2 := below_next hbd2 hbe
    clear hvd hbd2 hbe
    go_wp2_with fail
    refine (sameplaces_any _ _ _ _ hie (HWantP.out _ hbe2) HLenP.out).mono ?_
    rintro e wf ⟨rfl, hbf⟩
    have hbf2 := below_next hbe2 hbf
    clear hie hbe2 hbf
    go_wp2_with fail
    refine (works11_any _ (HTb.out _ hbf2)).mono ?_
    rintro e wg ⟨rfl, hbg⟩
    go_wp2_with fail
    go_ret
    exact ⟨rfl, HFin.out _ (below_next hbf2 hbg)⟩
end Go.Proofs.YthalbcmlehpfaaaDoor
