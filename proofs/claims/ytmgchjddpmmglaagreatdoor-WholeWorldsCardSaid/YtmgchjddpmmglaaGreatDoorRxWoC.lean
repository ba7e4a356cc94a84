/-
  Layer 16's reference (world): whether a world of a history may be, walked. No conditions.
-/
import Derived.Test.YtmgchjddpmmglaaGreatDoorRxWoB
namespace Go.Proofs.YtmgchjddpmmglaaGreatDoor
open Go.RowKit Go.Lib
set_option maxRecDepth 100000 in
set_option maxHeartbeats 2000000 in
theorem rmayw16_any {w : World} {v u : Value} {h : HistM} {m : WorldM} (hv : HistV w v h) (hu : WorldV w u m) (hm : Modst h) (h50 : m.1.length ≤ 1000000 ∧ m.2.length ≤ 1000000) :
  Calls Tryz.prog 53 #[v, u] w fun e w' => e = .returned (.bool (mayW h m)) ∧ Below w.heap.size w w' := by
 have H0 := Lib.hid hv
 obtain ⟨v0, v1, v2, rfl, ⟨p0, c0, rfl, -⟩, ⟨p1, c1, rfl, -⟩, ⟨p2, c2, rfl, -⟩⟩ := hv
 obtain ⟨pb, cb, pv, cv, rfl, hb, hvv, -, hcv⟩ := worldV_form hu
 obtain ⟨h51, h52⟩ := h50
 have hal := ((Below.refl w.heap.size w).alloc (Nat.le_refl _) (.cells #[.slice p0 h.1.length c0, .slice p1 h.2.1.length c1, .slice p2 h.2.2.length c2] 25)).alloc (by simp) (.cells #[.slice pb m.1.length cb, .slice pv m.2.length cv] 64)
 have hbx := (Blk.new w 25 [.slice p0 h.1.length c0, .slice p1 h.2.1.length c1, .slice p2 h.2.2.length c2]).alloc (.cells #[.slice pb m.1.length cb, .slice pv m.2.length cv] 64)
 have hbw := Blk.new (w.alloc (.cells #[.slice p0 h.1.length c0, .slice p1 h.2.1.length c1, .slice p2 h.2.2.length c2] 25)) 64 [.slice pb m.1.length cb, .slice pv m.2.length cv]
 simp only [World.size_alloc] at hbw
 have HMo := Lib.hid hm
 have HVa := Lib.hid hvv
 have HCv := Lib.hid hcv
 have HAL := Lib.hid hal
 have HBX := Lib.hid hbx
 have HBW := Lib.hid hbw
 clear hm hal hbx hbw hb hvv hcv hu
 go_enter Tryz.func53, Tryz.ntmps53
 go_upto_region 1 with fail
 obtain ⟨W1, hW1⟩ : ∃ q, (w.alloc (.cells #[.slice p0 h.1.length c0, .slice p1 h.2.1.length c1, .slice p2 h.2.2.length c2] 25)).alloc (.cells #[.slice pb m.1.length cb, .slice pv m.2.length cv] 64) = q := ⟨_, rfl⟩
 rw [hW1] at HAL HBX HBW ⊢
 clear hW1
 have HV1 := Lib.hid (H0.out.below HAL.out)
 have HVa1 := Lib.hid (HVa.out.below HAL.out)
 have HMy := Lib.hid (fun w' (hb : Below W1.heap.size W1 w') => rmay_v (HV1.out.below hb) HMo.out)
 have HIn := Lib.hid (fun w' (hb : Below W1.heap.size W1 w') => rinfos_v (HV1.out.below hb) HMo.out)
 have HLo := Lib.hid (fun w' (hb : Below W1.heap.size W1 w') => rlost_v (HV1.out.below hb) HMo.out)
 have HS : RowKit.Hid (∀ w', Below W1.heap.size W1 w' → w'.cell? ⟨w.heap.size, 0, none⟩ = some (.slice p0 h.1.length c0) ∧ w'.cell? ⟨w.heap.size, 1, none⟩ = some (.slice p1 h.2.1.length c1) ∧ w'.cell? ⟨w.heap.size, 2, none⟩ = some (.slice p2 h.2.2.length c2) ∧ w'.cell? ⟨w.heap.size + 1, 0, none⟩ = some (.slice pb m.1.length cb) ∧ w'.cell? ⟨w.heap.size + 1, 1, none⟩ = some (.slice pv m.2.length cv) ∧ Below W1.heap.size W1 w') := Lib.hid (fun w' hb => ⟨(HBX.out.later hb).cell 0 rfl, (HBX.out.later hb).cell 1 rfl, (HBX.out.later hb).cell 2 rfl, (HBW.out.later hb).cell 0 rfl, (HBW.out.later hb).cell 1 rfl, hb⟩)
 have HFin := Lib.hid (fun w' (hb : Below W1.heap.size W1 w') => below_next HAL.out hb)
 clear HMo H0 HVa
 cases hmm : mayH h with
 | false =>
  have HEr := Lib.hid (err_no hmm)
  have HE := Lib.hid (@mayW_no h m hmm)
  clear hmm
  refine wp_region_keep (fun w' => w'.cell? ⟨w.heap.size, 0, none⟩ = some (.slice p0 h.1.length c0) ∧ w'.cell? ⟨w.heap.size, 1, none⟩ = some (.slice p1 h.2.1.length c1) ∧ w'.cell? ⟨w.heap.size, 2, none⟩ = some (.slice p2 h.2.2.length c2) ∧ w'.cell? ⟨w.heap.size + 1, 0, none⟩ = some (.slice pb m.1.length cb) ∧ w'.cell? ⟨w.heap.size + 1, 1, none⟩ = some (.slice pv m.2.length cv) ∧ Below W1.heap.size W1 w') [] (by kernel_rfl) ?_
  have hB0 : Below (W1).heap.size (W1) (W1).drew := Below.drew (Below.refl _ _)
  have hS0 := HS.out _ hB0
  refine won 0 rfl fun K hK => ?_
  go_simp
  refine hK.out _ _ (fun _ h => h) ?_
  clear hK K
  try simp only [Act.put, sq]
  refine won 1 rfl fun K hK => ?_
  go_simp
  refine (HMy.out _ hB0).mono ?_
  rintro e w1 ⟨he, hb1⟩
  have hB1 := below_next hB0 hb1
  have hS1 := HS.out _ hB1
  rw [HEr.out] at he
  subst he
  refine hK.out _ _ (fun _ _ => hS1) ?_
  clear hK K hS0
  try simp only [Act.put, sq]
  refine won 2 rfl fun K hK => ?_
  go_simp
  refine hK.out _ _ (fun _ h => h) ?_
  clear hK K
  try simp only [Act.put, sq]
  refine won 3 rfl fun K hK => ?_
  go_simp
  refine hK.out _ _ (fun _ h => h) ?_
  clear hK K
  try simp only [Act.put, sq]
  refine wpAnyM_free 4 (v := undef) rfl (by kernel_rfl) (by kernel_rfl) (by kernel_rfl) (fun _ _ _ h => h) (Or.inr ⟨by rfl, rfl⟩) ?_
  try simp only [Act.put, sq]
  refine wpAnyM_free 5 (v := undef) rfl (by kernel_rfl) (by kernel_rfl) (by kernel_rfl) (fun _ _ _ h => h) (Or.inr ⟨by rfl, rfl⟩) ?_
  try simp only [Act.put, sq]
  refine wpAnyM_free 6 (v := undef) rfl (by kernel_rfl) (by kernel_rfl) (by kernel_rfl) (fun _ _ _ h => h) (Or.inr ⟨by rfl, rfl⟩) ?_
  try simp only [Act.put, sq]
  refine won 7 rfl fun K hK => ?_
  go_simp
  refine hK.out _ _ (fun _ h => h) ?_
  clear hK K
  try simp only [Act.put, sq]
  refine won 8 rfl fun K hK => ?_
  go_simp
  refine hK.out _ _ (fun _ _ => hS1) ?_
  clear hK K
  try simp only [Act.put, sq]
  refine won 9 rfl fun K hK => ?_
  go_simp
  refine hK.out _ _ (fun _ h => h) ?_
  clear hK K
  try simp only [Act.put, sq]
  refine won 10 rfl fun K hK => ?_
  go_simp
  refine hK.out _ _ (fun _ h => h) ?_
  clear hK K
  try simp only [Act.put, sq]
  refine won 11 rfl fun K hK => ?_
  go_simp
  refine hK.out _ _ (fun _ h => h) ?_
  clear hK K
  try simp only [Act.put, sq]
  refine won 12 rfl fun K hK => ?_
  go_simp
  refine hK.out _ _ (fun _ h => h) ?_
  clear hK K
  try simp only [Act.put, sq]
  refine wpAnyM_free 13 (v := undef) rfl (by kernel_rfl) (by kernel_rfl) (by kernel_rfl) (fun _ _ _ h => h) (Or.inr ⟨by rfl, rfl⟩) ?_
  try simp only [Act.put, sq]
  refine wpAnyM_free 14 (v := undef) rfl (by kernel_rfl) (by kernel_rfl) (by kernel_rfl) (fun _ _ _ h => h) (Or.inr ⟨by rfl, rfl⟩) ?_
  try simp only [Act.put, sq]
  refine wpAnyM_free 15 (v := undef) rfl (by kernel_rfl) (by kernel_rfl) (by kernel_rfl) (fun _ _ _ h => h) (Or.inr ⟨by rfl, rfl⟩) ?_
  try simp only [Act.put, sq]
  refine won 16 rfl fun K hK => ?_
  go_simp
  refine hK.out _ _ (fun _ h => h) ?_
  clear hK K
  try simp only [Act.put, sq]
  refine won 17 rfl fun K hK => ?_
  go_simp
  refine hK.out _ _ (fun _ _ => hS1) ?_
  clear hK K
  try simp only [Act.put, sq]
  refine won 18 rfl fun K hK => ?_
  go_simp
  refine hK.out _ _ (fun _ h => h) ?_
  clear hK K
  try simp only [Act.put, sq]
  refine won 19 rfl fun K hK => ?_
  go_simp
  refine hK.out _ _ (fun _ h => h) ?_
  clear hK K
  try simp only [Act.put, sq]
  refine won 20 rfl fun K hK => ?_
  go_simp
  refine hK.out _ _ (fun _ h => h) ?_
  clear hK K
  try simp only [Act.put, sq]
  refine wpAnyM_done (by kernel_rfl) ?_ _
  try simp only [Act.put, sq]
  go_wp2_with fail
  go_ret
  exact ⟨by rw [HE.out] <;> rfl, HFin.out _ hB1⟩
 | true =>
  have HEr := Lib.hid (err_yes hmm)
  have HMM := Lib.hid hmm
  have HWh : RowKit.Hid (whereL infosP h = idxs infosP h.2.2 h.2.2.length) := Lib.hid (whereL_yes _ hmm)
  have HWl : RowKit.Hid (lostL h = lostI (itH h.2.2 h.2.2.length)) := Lib.hid (lostL_yes hmm)
  obtain ⟨n1, hn1⟩ : ∃ n, (whereL infosP h).length = n := ⟨_, rfl⟩
  obtain ⟨n2, hn2⟩ : ∃ n, (lostL h).length = n := ⟨_, rfl⟩
  have HN1 := Lib.hid hn1
  have HN2 := Lib.hid hn2
  clear hmm hn1 hn2
  by_cases h1 : m.1.length = n1
  ·have H1 := Lib.hid h1
   have h1b : ((m.1.length : Int) == (n1 : Int)) = true := beq_iff_eq.2 (by omega)
   have h1c : ((m.1.length : Int) != (n1 : Int)) = false := by simp [h1]
   clear h1
   refine wp_region_keep (fun w' => w'.cell? ⟨w.heap.size, 0, none⟩ = some (.slice p0 h.1.length c0) ∧ w'.cell? ⟨w.heap.size, 1, none⟩ = some (.slice p1 h.2.1.length c1) ∧ w'.cell? ⟨w.heap.size, 2, none⟩ = some (.slice p2 h.2.2.length c2) ∧ w'.cell? ⟨w.heap.size + 1, 0, none⟩ = some (.slice pb m.1.length cb) ∧ w'.cell? ⟨w.heap.size + 1, 1, none⟩ = some (.slice pv m.2.length cv) ∧ Below W1.heap.size W1 w') [] (by kernel_rfl) ?_
   have hB0 : Below (W1).heap.size (W1) (W1).drew := Below.drew (Below.refl _ _)
   have hS0 := HS.out _ hB0
   refine won 0 rfl fun K hK => ?_
   go_simp
   refine hK.out _ _ (fun _ h => h) ?_
   clear hK K
   try simp only [Act.put, sq]
   refine won 1 rfl fun K hK => ?_
   go_simp
   refine (HMy.out _ hB0).mono ?_
   rintro e w1 ⟨he, hb1⟩
   have hB1 := below_next hB0 hb1
   have hS1 := HS.out _ hB1
   rw [HEr.out] at he
   subst he
   refine hK.out _ _ (fun _ _ => hS1) ?_
   clear hK K hS0
   try simp only [Act.put, sq]
   refine won 2 rfl fun K hK => ?_
   go_simp
   refine hK.out _ _ (fun _ h => h) ?_
   clear hK K
   try simp only [Act.put, sq]
   refine won 3 rfl fun K hK => ?_
   go_simp
   refine hK.out _ _ (fun _ h => h) ?_
   clear hK K
   try simp only [Act.put, sq]
   refine wfr 4 (v := ?_) rfl ?_ ?_
   rotate_left
   ·intro w' hw';go_simp;try with_reducible rfl
   try simp only [Act.put, sq]
   refine wtk 5 21 (v := ?_) rfl ?_ hS1 ?_
   rotate_left
   ·intro w' hw';(try dsimp only at hw');go_simp;try with_reducible rfl
   try simp only [Act.put, sq]
   refine wfr 6 (v := ?_) rfl ?_ ?_
   rotate_left
   ·intro w' hw';go_simp;try with_reducible rfl
   try simp only [Act.put, sq]
   refine won 7 rfl fun K hK => ?_
   go_simp
   refine hK.out _ _ (fun _ h => h) ?_
   clear hK K
   try simp only [Act.put, sq]
   refine won 8 rfl fun K hK => ?_
   go_simp
   refine (HIn.out _ hB1).mono ?_
   rintro e w2 ⟨vi, rfl, hi, hb2⟩
   have hB2 := below_next hB1 hb2
   have hS2 := HS.out _ hB2
   rw [← HWh.out] at hi
   obtain ⟨pi, ci, rfl, -⟩ := hi
   rw [HN1.out]
   refine hK.out _ _ (fun _ _ => hS2) ?_
   clear hK K hS1
   try simp only [Act.put, sq]
   refine won 9 rfl fun K hK => ?_
   go_simp
   refine hK.out _ _ (fun _ h => h) ?_
   clear hK K
   try simp only [Act.put, sq]
   refine won 10 rfl fun K hK => ?_
   go_simp
   refine hK.out _ _ (fun _ h => h) ?_
   clear hK K
   try simp only [Act.put, sq]
   refine won 11 rfl fun K hK => ?_
   go_simp
   refine hK.out _ _ (fun _ h => h) ?_
   clear hK K
   try simp only [Act.put, sq]
   refine won 12 rfl fun K hK => ?_
   go_simp
   refine hK.out _ _ (fun _ h => h) ?_
   clear hK K
   try simp only [Act.put, sq]
   refine wfr 13 (v := ?_) rfl ?_ ?_
   rotate_left
   ·intro w' hw';go_simp;try with_reducible rfl
   try simp only [Act.put, sq]
   refine wtk 14 21 (v := ?_) rfl ?_ hS2 ?_
   rotate_left
   ·intro w' hw';(try dsimp only at hw');go_simp;try with_reducible rfl
   try simp only [Act.put, sq]
   refine wfr 15 (v := ?_) rfl ?_ ?_
   rotate_left
   ·intro w' hw';go_simp;try with_reducible rfl
   try simp only [Act.put, sq]
   refine won 16 rfl fun K hK => ?_
   go_simp
   refine hK.out _ _ (fun _ h => h) ?_
   clear hK K
   try simp only [Act.put, sq]
   refine won 17 rfl fun K hK => ?_
   go_simp
   refine (HLo.out _ hB2).mono ?_
   rintro e w3 ⟨vj, rfl, hj, hb3⟩
   have hB3 := below_next hB2 hb3
   have hS3 := HS.out _ hB3
   rw [← HWl.out] at hj
   obtain ⟨pj, cj, rfl, -⟩ := hj
   rw [HN2.out]
   refine hK.out _ _ (fun _ _ => hS3) ?_
   clear hK K hS2
   try simp only [Act.put, sq]
   refine won 18 rfl fun K hK => ?_
   go_simp
   refine hK.out _ _ (fun _ h => h) ?_
   clear hK K
   try simp only [Act.put, sq]
   refine won 19 rfl fun K hK => ?_
   go_simp
   refine hK.out _ _ (fun _ h => h) ?_
   clear hK K
   try simp only [Act.put, sq]
   refine won 20 rfl fun K hK => ?_
   go_simp
   refine hK.out _ _ (fun _ h => h) ?_
   clear hK K
   try simp only [Act.put, sq]
   refine wpAnyM_done (by kernel_rfl) ?_ _
   try simp only [Act.put, sq]
   by_cases h2 : m.2.length = n2
   ·have HE := Lib.hid (mayW_all HMM.out (H1.out.trans HN1.out.symm) (h2.trans HN2.out.symm))
    have h2b : ((m.2.length : Int) == (n2 : Int)) = true := beq_iff_eq.2 (by omega)
    have h2c : ((m.2.length : Int) != (n2 : Int)) = false := by simp [h2]
    subst h2
    have HB3 := Lib.hid hB3
    have y1 := (HS.out _ hB3).2.2.2.2.1
    have HVs : RowKit.Hid (ValsS w3 (.slice pv m.2.length cv) m.2) := Lib.hid ⟨pv, cv, rfl, HCv.out, HVa1.out.below hB3⟩
    clear hS3 h1b h1c h2b h2c
    go_wp2_with fail
    obtain ⟨w3, hw3⟩ : ∃ q, w3 = q := ⟨_, rfl⟩
    obtain ⟨L, hL⟩ : ∃ L, m.2 = L := ⟨_, rfl⟩
    rw [hL] at HE HVa1 h52 HVs HBW HS y1 ⊢
    rw [hw3] at HB3 HVs y1 ⊢
    clear hw3
    have HYes : RowKit.Hid (∀ k : Nat, k < L.length → okVal (L.getD k noVal) = false → mayW h m = false) := Lib.hid (fun k hk hf => by
     rw [HE.out, List.all_eq_false]
     refine ⟨L.getD k noVal, ?_, by rw [hf]; exact Bool.false_ne_true⟩
     have : L.getD k noVal = L[k] := by simp [hk]
     rw [this]
     exact List.getElem_mem hk)
    have HNo : RowKit.Hid ((∀ k : Nat, k < L.length → okVal (L.getD k noVal) = true) → mayW h m = true) := Lib.hid (fun hh => by
     rw [HE.out, List.all_eq_true]
     intro x hx
     obtain ⟨k, hk, e⟩ := List.getElem_of_mem hx
     have := hh k hk
     simpa [hk, e] using this)
    go_loopw [5] (fun i wr => ∃ k : Nat, k ≤ L.length ∧ i = .int .i64 k ∧ (∀ j, j < k → okVal (L.getD j noVal) = true) ∧ Below W1.heap.size W1 wr) (fun i _ => L.length - (RowKit.intOf i).toNat)
    case atStart => exact ⟨0, Nat.zero_le _, rfl, fun j hj => absurd hj (Nat.not_lt_zero j), HB3.out⟩
    case round =>
     obtain ⟨k, hk, rfl, hn, hbw⟩ := hrel
     have HN := Lib.hid hn
     have HBw := Lib.hid hbw
     clear y1 hn
     have y1 := (HS.out _ hbw).2.2.2.2.1
     by_cases hk1 : k < L.length
     ·obtain ⟨g, rfl, b0, b1⟩ := HVa1.out k hk1
      have a0 := cell_later hbw b0
      have a1 := cell_later hbw b1
      have HY := Lib.hid (HYes.out k hk1)
      have HK : RowKit.Hid (okVal (L.getD k noVal) = true → ∀ j, j < k + 1 → okVal (L.getD j noVal) = true) := Lib.hid (fun h j hj => by
       by_cases hjk : j < k
       ·exact HN.out j hjk
       ·obtain rfl : j = k := by omega
        exact h)
      obtain ⟨⟨t1, t2⟩, ht⟩ : ∃ t, L.getD k noVal = t := ⟨_, rfl⟩
      rw [ht] at HY HK a0 a1
      simp only at a0 a1
      clear b0 b1 ht hbw
      by_cases ht1 : t1 = 1
      ·have HK2 := Lib.hid (HK.out (by unfold okVal; simp [ht1]))
       subst ht1
       clear HK HY
       go_wp2_with fail
       go_roundw
       case rel => exact ⟨k + 1, by omega, by go_num, HK2.out, (HBw.out.alloc HBw.out.size _)⟩
       case measure => simp [RowKit.intOf]; omega
      ·have ht1b : (t1 != 1) = true := by simpa using ht1
       have ht1c : (t1 == 1) = false := by simpa using ht1
       by_cases ht0 : t1 = 0
       ·subst ht0
        by_cases hn0 : t2 = 0
        ·have HK2 := Lib.hid (HK.out (by unfold okVal; simp [hn0]))
         subst hn0
         clear HK HY
         go_wp2_with fail
         go_roundw
         case rel => exact ⟨k + 1, by omega, by go_num, HK2.out, (HBw.out.alloc HBw.out.size _)⟩
         case measure => simp [RowKit.intOf]; omega
        ·have HY2 := Lib.hid (HY.out (by unfold okVal; simp [hn0]))
         have hn0b : (t2 != 0) = true := by simpa using hn0
         have hn0c : (t2 == 0) = false := by simpa using hn0
         clear HK HY
         go_wp2_with fail
         go_ret
         exact ⟨by rw [HY2.out] <;> rfl, HFin.out _ (HBw.out.alloc HBw.out.size _)⟩
       ·have HY2 := Lib.hid (HY.out (by unfold okVal; simp [ht1, ht0]))
        have ht0b : (t1 != 0) = true := by simpa using ht0
        have ht0c : (t1 == 0) = false := by simpa using ht0
        clear HK HY
        go_wp2_with fail
        go_ret
        exact ⟨by rw [HY2.out] <;> rfl, HFin.out _ (HBw.out.alloc HBw.out.size _)⟩
     ·have hke : k = L.length := by omega
      subst hke
      have H1 := Lib.hid (HNo.out HN.out)
      clear hbw
      go_wp2_with fail
      go_ret
      exact ⟨by rw [H1.out] <;> rfl, HFin.out _ HBw.out⟩
   ·have HE := Lib.hid (@mayW_no2 h m (fun e => h2 (e.trans HN2.out)))
    have h2b : ((m.2.length : Int) == (n2 : Int)) = false := beq_eq_false_iff_ne.2 (fun e => h2 (by omega))
    have h2c : ((m.2.length : Int) != (n2 : Int)) = true := bne_iff_ne.2 (fun e => h2 (by omega))
    clear h2
    go_wp2_with fail
    go_ret
    exact ⟨by rw [HE.out] <;> rfl, HFin.out _ hB3⟩
  ·have HE := Lib.hid (@mayW_no1 h m (fun e => h1 (e.trans HN1.out)))
   have h1b : ((m.1.length : Int) == (n1 : Int)) = false := beq_eq_false_iff_ne.2 (fun e => h1 (by omega))
   have h1c : ((m.1.length : Int) != (n1 : Int)) = true := bne_iff_ne.2 (fun e => h1 (by omega))
   clear h1
   refine wp_region_keep (fun w' => w'.cell? ⟨w.heap.size, 0, none⟩ = some (.slice p0 h.1.length c0) ∧ w'.cell? ⟨w.heap.size, 1, none⟩ = some (.slice p1 h.2.1.length c1) ∧ w'.cell? ⟨w.heap.size, 2, none⟩ = some (.slice p2 h.2.2.length c2) ∧ w'.cell? ⟨w.heap.size + 1, 0, none⟩ = some (.slice pb m.1.length cb) ∧ w'.cell? ⟨w.heap.size + 1, 1, none⟩ = some (.slice pv m.2.length cv) ∧ Below W1.heap.size W1 w') [] (by kernel_rfl) ?_
   have hB0 : Below (W1).heap.size (W1) (W1).drew := Below.drew (Below.refl _ _)
   have hS0 := HS.out _ hB0
   refine won 0 rfl fun K hK => ?_
   go_simp
   refine hK.out _ _ (fun _ h => h) ?_
   clear hK K
   try simp only [Act.put, sq]
   refine won 1 rfl fun K hK => ?_
   go_simp
   refine (HMy.out _ hB0).mono ?_
   rintro e w1 ⟨he, hb1⟩
   have hB1 := below_next hB0 hb1
   have hS1 := HS.out _ hB1
   rw [HEr.out] at he
   subst he
   refine hK.out _ _ (fun _ _ => hS1) ?_
   clear hK K hS0
   try simp only [Act.put, sq]
   refine won 2 rfl fun K hK => ?_
   go_simp
   refine hK.out _ _ (fun _ h => h) ?_
   clear hK K
   try simp only [Act.put, sq]
   refine won 3 rfl fun K hK => ?_
   go_simp
   refine hK.out _ _ (fun _ h => h) ?_
   clear hK K
   try simp only [Act.put, sq]
   refine wfr 4 (v := ?_) rfl ?_ ?_
   rotate_left
   ·intro w' hw';go_simp;try with_reducible rfl
   try simp only [Act.put, sq]
   refine wtk 5 21 (v := ?_) rfl ?_ hS1 ?_
   rotate_left
   ·intro w' hw';(try dsimp only at hw');go_simp;try with_reducible rfl
   try simp only [Act.put, sq]
   refine wfr 6 (v := ?_) rfl ?_ ?_
   rotate_left
   ·intro w' hw';go_simp;try with_reducible rfl
   try simp only [Act.put, sq]
   refine won 7 rfl fun K hK => ?_
   go_simp
   refine hK.out _ _ (fun _ h => h) ?_
   clear hK K
   try simp only [Act.put, sq]
   refine won 8 rfl fun K hK => ?_
   go_simp
   refine (HIn.out _ hB1).mono ?_
   rintro e w2 ⟨vi, rfl, hi, hb2⟩
   have hB2 := below_next hB1 hb2
   have hS2 := HS.out _ hB2
   rw [← HWh.out] at hi
   obtain ⟨pi, ci, rfl, -⟩ := hi
   rw [HN1.out]
   refine hK.out _ _ (fun _ _ => hS2) ?_
   clear hK K hS1
   try simp only [Act.put, sq]
   refine won 9 rfl fun K hK => ?_
   go_simp
   refine hK.out _ _ (fun _ h => h) ?_
   clear hK K
   try simp only [Act.put, sq]
   refine won 10 rfl fun K hK => ?_
   go_simp
   refine hK.out _ _ (fun _ h => h) ?_
   clear hK K
   try simp only [Act.put, sq]
   refine won 11 rfl fun K hK => ?_
   go_simp
   refine hK.out _ _ (fun _ h => h) ?_
   clear hK K
   try simp only [Act.put, sq]
   refine won 12 rfl fun K hK => ?_
   go_simp
   refine hK.out _ _ (fun _ h => h) ?_
   clear hK K
   try simp only [Act.put, sq]
   refine wpAnyM_free 13 (v := undef) rfl (by kernel_rfl) (by kernel_rfl) (by kernel_rfl) (fun _ _ _ h => h) (Or.inr ⟨by rfl, rfl⟩) ?_
   try simp only [Act.put, sq]
   refine wpAnyM_free 14 (v := undef) rfl (by kernel_rfl) (by kernel_rfl) (by kernel_rfl) (fun _ _ _ h => h) (Or.inr ⟨by rfl, rfl⟩) ?_
   try simp only [Act.put, sq]
   refine wpAnyM_free 15 (v := undef) rfl (by kernel_rfl) (by kernel_rfl) (by kernel_rfl) (fun _ _ _ h => h) (Or.inr ⟨by rfl, rfl⟩) ?_
   try simp only [Act.put, sq]
   refine won 16 rfl fun K hK => ?_
   go_simp
   refine hK.out _ _ (fun _ h => h) ?_
   clear hK K
   try simp only [Act.put, sq]
   refine won 17 rfl fun K hK => ?_
   go_simp
   refine hK.out _ _ (fun _ _ => hS2) ?_
   clear hK K
   try simp only [Act.put, sq]
   refine won 18 rfl fun K hK => ?_
   go_simp
   refine hK.out _ _ (fun _ h => h) ?_
   clear hK K
   try simp only [Act.put, sq]
   refine won 19 rfl fun K hK => ?_
   go_simp
   refine hK.out _ _ (fun _ h => h) ?_
   clear hK K
   try simp only [Act.put, sq]
   refine won 20 rfl fun K hK => ?_
   go_simp
   refine hK.out _ _ (fun _ h => h) ?_
   clear hK K
   try simp only [Act.put, sq]
   refine wpAnyM_done (by kernel_rfl) ?_ _
   try simp only [Act.put, sq]
   go_wp2_with fail
   go_ret
   exact ⟨by rw [HE.out] <;> rfl, HFin.out _ hB2⟩
end Go.Proofs.YtmgchjddpmmglaaGreatDoor
