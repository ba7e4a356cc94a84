/-
  The statement HistMays of layer 11 (hist), walked. No conditions but that unicode/utf8's two tables are as their initialisers lay them.
-/
import Derived.Test.YthalbcmlehpfaaaDoorHistN
import Derived.Test.YthalbcmlehpfaaaDoorRowKit
namespace Go.Proofs.YthalbcmlehpfaaaDoor
open Go.RowKit Go.Lib

theorem few_v {w : World} {v : Value} {h : HistM} (hv : HistA w v (fewH h)) : Calls Tryd.prog 10 #[v] w fun e w' => ∃ v', e = .returned v' ∧ HistV w' v' (fewH h) ∧ HistA w' v' (fewH h) ∧ Below w.heap.size w w' := by
  have h1 := few11_any w v (fewH h) hv
  rw [fewH_few] at h1
  exact h1

theorem sameints_eq {w : World} {v v' : Value} {L : List Int} (hv : IntsS w v L) (hv' : IntsS w v' L) (hL : L.length ≤ 1000) : Calls Tryd.prog 14 #[v, v'] w fun e w' => e = .returned (.bool true) ∧ Below w.heap.size w w' := by
  have h := sameints_any w v v' L L hv hv' (by omega)
  rw [beq_self_eq_true] at h
  exact h
theorem whereL_len (p : TxnM → Bool) (h : HistM) (hm : Modst h) : (whereL p h).length ≤ 1000 := by
  unfold whereL
  split
  · exact Nat.le_trans (idxs_len _ _ _) hm.2.2.1
  · exact Nat.zero_le _
theorem ints_empty (w : World) (a : Addr) (c : Nat) : IntsS w (.slice (some a) 0 c) [] := ⟨_, c, rfl, fun j hj => absurd hj (Nat.not_lt_zero j)⟩
set_option maxRecDepth 100000 in
set_option maxHeartbeats 4000000 in
theorem histmays_any (v : Value) (hM : HistM) (s : Int) (w : World) (hv : HistA w v hM) (hT : Lib.Utf8Tabs 0 1 w) :
    Calls Tryd.prog 4 #[v, .int .i64 s] w fun e w' => e = .returned (.bool true) ∧ Below w.heap.size w w' := by
  have b0 : ∀ x0 x1 x2, Blk (w.alloc (.cells #[x0, x1, x2] 25)) w.heap.size 25 [x0, x1, x2] := fun x0 x1 x2 => Blk.new w _ [x0, x1, x2]
  have hb0 : ∀ o, Below w.heap.size w (w.alloc o) := fun o => (Below.refl _ w).alloc (Nat.le_refl _) o
  have HA0 := Lib.hid hv
  obtain ⟨v0, v1, v2, rfl, ⟨p0, c0, rfl, -⟩, ⟨p1, c1, rfl, -⟩, ⟨p2, c2, rfl, -⟩⟩ := hv
  have HF0 := Lib.hid (few11_any _ _ hM (HA0.out.below (hb0 (.cells #[.slice p0 hM.1.length c0, .slice p1 hM.2.1.length c1, .slice p2 hM.2.2.length c2] 25))))
  have HB0 := Lib.hid hb0
  have B0 := Lib.hid (b0 (.slice p0 hM.1.length c0) (.slice p1 hM.2.1.length c1) (.slice p2 hM.2.2.length c2))
  have y0 := B0.out.cell 0 rfl
  have y1 := B0.out.cell 1 rfl
  have y2 := B0.out.cell 2 rfl
  have HT := Lib.hid hT
  have HMo := Lib.hid (few_modst hM)
  clear b0 hb0 hT
  go_enter Tryd.func4, Tryd.ntmps4
  go_wp2_with fail
  refine HF0.out.mono ?_
  rintro e w1 ⟨v', rfl, hv', ha', hb1⟩
  have HV1 := Lib.hid hv'
  have HA1 := Lib.hid ha'
  obtain ⟨u0, u1, u2, rfl, ⟨q0, d0, rfl, -⟩, ⟨q1, d1, rfl, -⟩, ⟨q2, d2, rfl, -⟩⟩ := hv'
  have z := B0.out.later hb1
  have z0 := z.cell 0 rfl
  have z1 := z.cell 1 rfl
  have z2 := z.cell 2 rfl
  have z3 := z.frozen 0
  have z4 := z.frozen 1
  have z5 := z.frozen 2
  have ST := Lib.hid (few_stored (HB0.out _) B0.out (by intro x hx; simp at hx; rcases hx with rfl | rfl | rfl <;> exact ⟨_, _, _, rfl⟩) hb1 HV1.out HA1.out)
  clear ha' hb1 z y0 y1 y2 HF0 HV1 HA1
  go_upto_region 2 with fail
  generalize (((w1.setCell ⟨w.heap.size, 0, none⟩ (.slice q0 (fewH hM).1.length d0)).setCell ⟨w.heap.size, 1, none⟩ (.slice q1 (fewH hM).2.1.length d1)).setCell ⟨w.heap.size, 2, none⟩ (.slice q2 (fewH hM).2.2.length d2)) = W2 at *
  obtain ⟨k0, HVx, HAx, hbW⟩ := ST.out
  have KB := Lib.hid k0
  have HV2 := Lib.hid HVx
  have HA2 := Lib.hid HAx
  have HBW := Lib.hid hbW
  have o0 := k0.cell 0 rfl
  have o1 := k0.cell 1 rfl
  have o2 := k0.cell 2 rfl
  have hl0 : w.heap.size < W2.heap.size := k0.lt
  have hl1 : w.heap.size < W2.heap.size + 1 := by omega
  have hl2 : w.heap.size < W2.heap.size + 1 + 1 := by omega
  clear ST k0 HVx HAx hbW z0 z1 z2 z3 z4 z5
  have HFF := Lib.hid (fun w' v (ha : HistA w' v (fewH hM)) => few_v ha)
  generalize fewH hM = hF at *
  have HLen := Lib.hid (whereL_len (sessP s) hF HMo.out)
  go_wp2_with fail
  refine (rmay_v (HV2.out.below ((Below.refl _ _).alloc (Nat.le_refl _) _)) HMo.out).mono ?_
  rintro e w3 ⟨rfl, hb3⟩
  have hb23 := below_next ((Below.refl W2.heap.size W2).alloc (Nat.le_refl _) (.cells #[] 3)) hb3
  have k3 := KB.out.later hb23
  have r0 := k3.cell 0 rfl
  have r1 := k3.cell 1 rfl
  have r2 := k3.cell 2 rfl
  cases hmm : mayH hF with
  | false =>
    have HE := Lib.hid (err_no hmm)
    have HWant : RowKit.Hid (∀ w', Below w3.heap.size w3 w' → IntsS w' (.slice (some ⟨W2.heap.size, 0, none⟩) 0 0) (whereL (sessP s) hF)) := Lib.hid (fun w' _ => by rw [whereL_no _ hmm]; exact ints_empty _ _ _)
    clear hmm k3 hb3
    rw [HE.out]
    have HBB := Lib.hid (hb23)
    have HS : RowKit.Hid (∀ w', Below w3.heap.size w3 w' → (w'.cell? ⟨w.heap.size, 0, none⟩ = some (.slice q0 hF.1.length d0) ∧ w'.cell? ⟨w.heap.size, 1, none⟩ = some (.slice q1 hF.2.1.length d1) ∧ w'.cell? ⟨w.heap.size, 2, none⟩ = some (.slice q2 hF.2.2.length d2) ∧ Below w3.heap.size w3 w')) := Lib.hid (fun w' hb => ⟨(KB.out.later (below_next HBB.out hb)).cell 0 rfl, (KB.out.later (below_next HBB.out hb)).cell 1 rfl, (KB.out.later (below_next HBB.out hb)).cell 2 rfl, hb⟩)
    have HAb := Lib.hid (fun w' (hb : Below w3.heap.size w3 w') => HA2.out.below (below_next HBB.out hb))
    have HVb := Lib.hid (fun w' (hb : Below w3.heap.size w3 w') => HV2.out.below (below_next HBB.out hb))
    have HTb := Lib.hid (fun w' (hb : Below w3.heap.size w3 w') => Utf8Tabs_below HT.out (HBW.out.trans ((below_next HBB.out hb).mono HBW.out.size)))
    have HFin := Lib.hid (fun w' (hb : Below w3.heap.size w3 w') => HBW.out.trans ((below_next HBB.out hb).mono HBW.out.size))
    clear HV2 HA2 KB o0 o1 o2 hl0 hl1 hl2
    go_wp2_with fail
    go_region_held3 (fun w' => w'.cell? ⟨w.heap.size, 0, none⟩ = some (.slice q0 hF.1.length d0) ∧ w'.cell? ⟨w.heap.size, 1, none⟩ = some (.slice q1 hF.2.1.length d1) ∧ w'.cell? ⟨w.heap.size, 2, none⟩ = some (.slice q2 hF.2.2.length d2) ∧ Below w3.heap.size w3 w')
      ((go_split_ands; exact HS.out _ (by first | assumption | exact Below.drew (Below.refl _ _) | exact below_next (by assumption) (by assumption) | exact below_next (Below.drew (by assumption)) (by assumption))))
      ((go_split_ands; first
        | (go_at_call 10; refine (HFF.out _ _ (HAb.out _ (by assumption))).mono ?_; rintro e wq ⟨vq, rfl, hq1, hq2, hbq⟩)
        | (go_at_call 20; refine (hmay_v (by assumption) HMo.out (HTb.out _ (by assumption))).mono ?_; rintro e wq ⟨rfl, hbq⟩)
        | (go_at_call 11; refine (rmay_v (HVb.out _ (by assumption)) HMo.out).mono ?_; rintro e wq ⟨rfl, hbq⟩)
        | (go_at_call 21; refine (session_v s (by assumption) HMo.out (HTb.out _ (by assumption))).mono ?_; rintro e wq ⟨vq, rfl, hqi, hbq⟩)
        | (go_at_call 14; refine (sameints_eq (by assumption) (HWant.out _ (by assumption)) HLen.out).mono ?_; rintro e wq ⟨rfl, hbq⟩)
        | (go_at_call 18; refine (works11_any _ (HTb.out _ (by assumption))).mono ?_; rintro e wq ⟨rfl, hbq⟩)))
    all_goals
      go_split_ands
      go_wp2_with fail
      go_ret
      exact ⟨rfl, HFin.out _ (by assumption)⟩
  | true =>
    have HE := Lib.hid (err_yes hmm)
    have HWe := Lib.hid (whereL_yes (sessP s) hmm)
    clear hmm k3 hb3
    rw [HE.out]
    go_wp2_with fail
    refine (rsession_v s (HV2.out.below hb23) HMo.out).mono ?_
    rintro e w4 ⟨vw, rfl, hi4, hb4⟩
    have hb24 := below_next hb23 hb4
    have HWant : RowKit.Hid (∀ w', Below w4.heap.size w4 w' → IntsS w' vw (whereL (sessP s) hF)) := Lib.hid (fun w' hb => by rw [HWe.out]; exact hi4.below hb)
    clear hb4 hi4 r0 r1 r2
    have HBB := Lib.hid (hb24)
    have HS : RowKit.Hid (∀ w', Below w4.heap.size w4 w' → (w'.cell? ⟨w.heap.size, 0, none⟩ = some (.slice q0 hF.1.length d0) ∧ w'.cell? ⟨w.heap.size, 1, none⟩ = some (.slice q1 hF.2.1.length d1) ∧ w'.cell? ⟨w.heap.size, 2, none⟩ = some (.slice q2 hF.2.2.length d2) ∧ Below w4.heap.size w4 w')) := Lib.hid (fun w' hb => ⟨(KB.out.later (below_next HBB.out hb)).cell 0 rfl, (KB.out.later (below_next HBB.out hb)).cell 1 rfl, (KB.out.later (below_next HBB.out hb)).cell 2 rfl, hb⟩)
    have HAb := Lib.hid (fun w' (hb : Below w4.heap.size w4 w') => HA2.out.below (below_next HBB.out hb))
    have HVb := Lib.hid (fun w' (hb : Below w4.heap.size w4 w') => HV2.out.below (below_next HBB.out hb))
    have HTb := Lib.hid (fun w' (hb : Below w4.heap.size w4 w') => Utf8Tabs_below HT.out (HBW.out.trans ((below_next HBB.out hb).mono HBW.out.size)))
    have HFin := Lib.hid (fun w' (hb : Below w4.heap.size w4 w') => HBW.out.trans ((below_next HBB.out hb).mono HBW.out.size))
    clear HV2 HA2 KB o0 o1 o2 hl0 hl1 hl2
    go_wp2_with fail
    go_region_held3 (fun w' => w'.cell? ⟨w.heap.size, 0, none⟩ = some (.slice q0 hF.1.length d0) ∧ w'.cell? ⟨w.heap.size, 1, none⟩ = some (.slice q1 hF.2.1.length d1) ∧ w'.cell? ⟨w.heap.size, 2, none⟩ = some (.slice q2 hF.2.2.length d2) ∧ Below w4.heap.size w4 w')
      ((go_split_ands; exact HS.out _ (by first | assumption | exact Below.drew (Below.refl _ _) | exact below_next (by assumption) (by assumption) | exact below_next (Below.drew (by assumption)) (by assumption))))
      ((go_split_ands; first
        | (go_at_call 10; refine (HFF.out _ _ (HAb.out _ (by assumption))).mono ?_; rintro e wq ⟨vq, rfl, hq1, hq2, hbq⟩)
        | (go_at_call 20; refine (hmay_v (by assumption) HMo.out (HTb.out _ (by assumption))).mono ?_; rintro e wq ⟨rfl, hbq⟩)
        | (go_at_call 11; refine (rmay_v (HVb.out _ (by assumption)) HMo.out).mono ?_; rintro e wq ⟨rfl, hbq⟩)
        | (go_at_call 21; refine (session_v s (by assumption) HMo.out (HTb.out _ (by assumption))).mono ?_; rintro e wq ⟨vq, rfl, hqi, hbq⟩)
        | (go_at_call 14; refine (sameints_eq (by assumption) (HWant.out _ (by assumption)) HLen.out).mono ?_; rintro e wq ⟨rfl, hbq⟩)
        | (go_at_call 18; refine (works11_any _ (HTb.out _ (by assumption))).mono ?_; rintro e wq ⟨rfl, hbq⟩)))
    all_goals
      go_split_ands
      go_wp2_with fail
      go_ret
      exact ⟨rfl, HFin.out _ (by assumption)⟩
end Go.Proofs.YthalbcmlehpfaaaDoor
