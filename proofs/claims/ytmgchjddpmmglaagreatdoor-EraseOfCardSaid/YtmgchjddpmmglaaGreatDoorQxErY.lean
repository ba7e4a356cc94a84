/-
  Layer 14 (erase): the statement EraseStays, walked. Conditions: unicode/utf8's two tables and event.words hold what their initialisers lay, internal/bytealg.MaxLen holds a number.
-/
import Derived.Test.YtmgchjddpmmglaaGreatDoorQIc
import Derived.Test.YtmgchjddpmmglaaGreatDoorQId
import Derived.Test.YtmgchjddpmmglaaGreatDoorQxErQ
import Derived.Test.YtmgchjddpmmglaaGreatDoorQxErW
namespace Go.Proofs.YtmgchjddpmmglaaGreatDoor
open Go.RowKit Go.Lib
theorem eqH_refl (h : HistM) : eqH h h = true := by simp [eqH]
theorem erase_modst {h : HistM} (hm : Modst h) : Modst (eraseH h) := by
 refine ⟨hm.1, ?_, ?_, hm.2.2.2.1, ?_, ?_⟩
 ·show (keptK h h.2.1.length).length ≤ 1000
  have := (kept_sub h).length_le
  have := hm.2.1
  omega
 ·show (h.2.2.map (eraseT h)).length ≤ 1000
  rw [List.length_map]
  exact hm.2.2.1
 ·intro x hx
  exact hm.2.2.2.2.1 x ((kept_sub h).subset hx)
 ·intro t ht
  obtain ⟨u, hu, rfl⟩ := List.mem_map.1 (show t ∈ h.2.2.map (eraseT h) from ht)
  exact Nat.le_trans (erase_len h u.2.2) (hm.2.2.2.2.2 u hu)
set_option maxRecDepth 100000 in
set_option maxHeartbeats 4000000 in
theorem erasestays_any (v : Value) (hM : HistM) (w : World) (hv : HistA w v hM) (hT : Lib.Utf8Tabs 1 2 w) (hm : HasMax w) (hE : EvTab w) :
  Calls Tryz.prog 6 #[v] w fun e w' => e = .returned (.bool true) ∧ Below w.heap.size w w' := by
 have HA0 := Lib.hid hv
 obtain ⟨v0, v1, v2, rfl, ⟨p0, c0, rfl, -⟩, ⟨p1, c1, rfl, -⟩, ⟨p2, c2, rfl, -⟩⟩ := hv
 have hal := (Below.refl w.heap.size w).alloc (Nat.le_refl _) (.cells #[.slice p0 hM.1.length c0, .slice p1 hM.2.1.length c1, .slice p2 hM.2.2.length c2] 25)
 have HAL := Lib.hid hal
 have HW0 := Lib.hid (works14_any _ (Utf8Tabs_below hT hal) (hm.below hal) (hE.below hal))
 have HBx := Lib.hid (Blk.new w 25 [.slice p0 hM.1.length c0, .slice p1 hM.2.1.length c1, .slice p2 hM.2.2.length c2])
 have HT := Lib.hid hT
 have HMo := Lib.hid (few_modst hM)
 clear hm hE hT hal
 go_enter Tryz.func6, Tryz.ntmps6
 go_wp2_with fail
 refine HW0.out.mono ?_
 rintro e w0 ⟨rfl, hb0⟩
 have HB0 := Lib.hid (below_next HAL.out hb0)
 have B0 := Lib.hid (HBx.out.later hb0)
 have y0 := B0.out.cell 0 rfl
 have y1 := B0.out.cell 1 rfl
 have y2 := B0.out.cell 2 rfl
 have HF0 := Lib.hid (few11_any _ _ hM (HA0.out.below HB0.out))
 clear hb0 HW0 HBx HAL
 go_wp2_with fail
 refine HF0.out.mono ?_
 rintro e w1 ⟨v', rfl, hv', ha', hb1⟩
 have HV1 := Lib.hid hv'
 have HA1 := Lib.hid ha'
 obtain ⟨u0, u1, u2, rfl, ⟨q0, d0, rfl, -⟩, ⟨q1, d1, rfl, -⟩, ⟨q2, d2, rfl, -⟩⟩ := hv'
 have z := B0.out.later hb1
 have z0 := z.cell 0 rfl
 have z1 := z.cell 1 rfl
 have z2 := z.cell 2 rfl
 have z3 := z.frozen 0
 have z4 := z.frozen 1
 have z5 := z.frozen 2
 have ST := Lib.hid (few_stored (HB0.out) B0.out (by intro x hx; simp at hx; rcases hx with rfl | rfl | rfl <;> exact ⟨_, _, _, rfl⟩) hb1 HV1.out HA1.out)
 clear ha' hb1 z y0 y1 y2 HF0 HV1 HA1
 go_upto_region 4 with fail
 generalize (((w1.setCell ⟨w.heap.size, 0, none⟩ (.slice q0 (fewH hM).1.length d0)).setCell ⟨w.heap.size, 1, none⟩ (.slice q1 (fewH hM).2.1.length d1)).setCell ⟨w.heap.size, 2, none⟩ (.slice q2 (fewH hM).2.2.length d2)) = W2 at *
 obtain ⟨k0, HVx, HAx, hbW⟩ := ST.out
 have KB := Lib.hid k0
 have HV2 := Lib.hid HVx
 have HA2 := Lib.hid HAx
 have HBW := Lib.hid hbW
 have o0 := k0.cell 0 rfl
 have o1 := k0.cell 1 rfl
 have o2 := k0.cell 2 rfl
 have hl0 : w.heap.size < W2.heap.size := k0.lt
 clear ST k0 HVx HAx hbW z0 z1 z2 z3 z4 z5
 have HFF := Lib.hid (fun w' v (ha : HistA w' v (fewH hM)) => few_v ha)
 generalize fewH hM = hF at *
 have HS0 : RowKit.Hid (∀ w', Below W2.heap.size W2 w' → (w'.cell? ⟨w.heap.size, 0, none⟩ = some (.slice q0 hF.1.length d0) ∧ w'.cell? ⟨w.heap.size, 1, none⟩ = some (.slice q1 hF.2.1.length d1) ∧ w'.cell? ⟨w.heap.size, 2, none⟩ = some (.slice q2 hF.2.2.length d2) ∧ Below W2.heap.size W2 w')) := Lib.hid (fun w' hb => ⟨(KB.out.later hb).cell 0 rfl, (KB.out.later hb).cell 1 rfl, (KB.out.later hb).cell 2 rfl, hb⟩)
 have HAb := Lib.hid (fun w' (hb : Below W2.heap.size W2 w') => HA2.out.below hb)
 have HVb := Lib.hid (fun w' (hb : Below W2.heap.size W2 w') => HV2.out.below hb)
 have HTb := Lib.hid (fun w' (hb : Below W2.heap.size W2 w') => Utf8Tabs_below HT.out (HBW.out.trans (hb.mono HBW.out.size)))
 have HFin := Lib.hid (fun w' (hb : Below W2.heap.size W2 w') => HBW.out.trans (hb.mono HBW.out.size))
 have HKb := Lib.hid (fun w' (hb : Below W2.heap.size W2 w') => KB.out.later hb)
 clear HS0
 go_wp2_with fail
 refine (of14_any HV2.out HMo.out (HTb.out _ (Below.refl _ _))).mono ?_
 rintro e w3 ⟨v3, rfl, hv3, hb3⟩
 cases hmm : mayH hF with
 | false =>
  have HEr := Lib.hid (err_no hmm)
  rw [HEr.out]
  obtain ⟨e0, n0, e1, n1, e2, n2, rfl⟩ := histV_form hv3
  have HB3 := Lib.hid hb3
  have x0 := (HKb.out _ hb3).cell 0 rfl
  have x1 := (HKb.out _ hb3).cell 1 rfl
  have x2 := (HKb.out _ hb3).cell 2 rfl
  have xl := (HKb.out _ hb3).lt
  generalize ofP hF = E at *
  have HBa := Lib.hid (hb3.alloc hb3.size (.cells #[.slice e0 E.1.length n0, .slice e1 E.2.1.length n1, .slice e2 E.2.2.length n2] 25))
  clear o0 o1 o2 hb3 hmm hv3
  go_wp2_with fail
  refine (rmay_v (HVb.out _ HBa.out) HMo.out).mono ?_
  rintro e w4 ⟨rfl, hb4⟩
  have HB4 := Lib.hid (below_next HBa.out hb4)
  rw [HEr.out]
  clear hb4
  go_wp2_with fail
  go_ret
  exact ⟨rfl, HFin.out _ HB4.out⟩
 | true =>
  have HEr := Lib.hid (err_yes hmm)
  rw [HEr.out]
  have hofE : ofP hF = eraseH hF := by unfold ofP; rw [hmm]; rfl
  rw [hofE] at hv3
  have HMM := Lib.hid hmm
  have HME := Lib.hid (erase_may hmm)
  have HMoE := Lib.hid (erase_modst HMo.out)
  have HEE := Lib.hid (erase_erase hmm)
  have HLo := Lib.hid (noLost_lost (erase_noLost hF))
  have HPv := Lib.hid (fun i j hi hj hp => @place_value hF i j hi hj hp)
  obtain ⟨E, hE9⟩ : ∃ E, eraseH hF = E := ⟨_, rfl⟩
  rw [hE9] at hv3 HME HMoE HEE HLo HPv
  have hofE2 : ofP E = E := by unfold ofP; rw [HME.out]; exact HEE.out
  have HErE := Lib.hid (err_yes HME.out)
  have HV3 := Lib.hid hv3
  obtain ⟨e0, n0, e1, n1, e2, n2, rfl⟩ := histV_form hv3
  have HB3 := Lib.hid hb3
  have hal := hb3.alloc hb3.size (.cells #[.slice e0 E.1.length n0, .slice e1 E.2.1.length n1, .slice e2 E.2.2.length n2] 25)
  have HKg := Lib.hid (Blk.new w3 25 [.slice e0 E.1.length n0, .slice e1 E.2.1.length n1, .slice e2 E.2.2.length n2])
  have HV3a := Lib.hid (hv3.below ((Below.refl w3.heap.size w3).alloc (Nat.le_refl _) (.cells #[.slice e0 E.1.length n0, .slice e1 E.2.1.length n1, .slice e2 E.2.2.length n2] 25)))
  have HAl := Lib.hid hal
  clear o0 o1 o2 hmm hE9 hofE hb3 hv3 hal HV3
  go_wp2_with fail
  have h4 := of14_any HV3a.out HMoE.out (HTb.out _ HAl.out)
  rw [hofE2, HErE.out] at h4
  refine h4.mono ?_
  rintro e w4 ⟨v4, rfl, hv4, hb4⟩
  clear h4 hofE2
  have HB4 := Lib.hid (below_next HAl.out hb4)
  have HKg4 := Lib.hid (HKg.out.later hb4)
  have HV4g := Lib.hid (HV3a.out.below hb4)
  obtain ⟨f0, m0, f1, m1, f2, m2, rfl⟩ := histV_form hv4
  have HV4k := Lib.hid (hv4.below ((Below.refl w4.heap.size w4).alloc (Nat.le_refl _) (.cells #[.slice f0 E.1.length m0, .slice f1 E.2.1.length m1, .slice f2 E.2.2.length m2] 25)))
  have HV4e := Lib.hid (HV4g.out.below ((Below.refl w4.heap.size w4).alloc (Nat.le_refl _) (.cells #[.slice f0 E.1.length m0, .slice f1 E.2.1.length m1, .slice f2 E.2.2.length m2] 25)))
  have z0 := HKg4.out.cell 0 rfl
  have z1 := HKg4.out.cell 1 rfl
  have z2 := HKg4.out.cell 2 rfl
  have zl := HKg4.out.lt
  have HB4a := Lib.hid (HB4.out.alloc HB4.out.size (.cells #[.slice f0 E.1.length m0, .slice f1 E.2.1.length m1, .slice f2 E.2.2.length m2] 25))
  have HKg4a := Lib.hid (HKg4.out.alloc (.cells #[.slice f0 E.1.length m0, .slice f1 E.2.1.length m1, .slice f2 E.2.2.length m2] 25))
  clear hb4 hv4 HAl HKg HV3a HV4g HB4
  go_wp2_with fail
  obtain ⟨B, hB⟩ : ∃ q, w3.heap.size = q := ⟨_, rfl⟩
  rw [hB] at HKg4a HKg4 zl z0 z1 z2 ⊢
  clear hB
  obtain ⟨s0, s1, s2⟩ := histV_parts HV4e.out
  obtain ⟨t0, t1, t2⟩ := histV_parts HV4k.out
  refine (rsame10_any _ _ _ _ _ _ E E _ s0 s1 s2 HMoE.out t0 t1 t2 HMoE.out).mono ?_
  rintro e w6 ⟨rfl, hb6⟩
  rw [eqH_refl]
  have HB6 := Lib.hid (below_next HB4a.out hb6)
  have HKg6 := Lib.hid (HKg4a.out.later hb6)
  have HV6 := Lib.hid (HV4e.out.below hb6)
  clear z0 z1 z2 zl
  have z0 := HKg6.out.cell 0 rfl
  have z1 := HKg6.out.cell 1 rfl
  have z2 := HKg6.out.cell 2 rfl
  clear s0 s1 s2 t0 t1 t2 hb6 HB4a HKg4a HV4e HV4k HKg4
  go_wp2_with fail
  refine (rmay_v HV6.out HMoE.out).mono ?_
  rintro e w7 ⟨rfl, hb7⟩
  rw [HErE.out]
  have HB7 := Lib.hid (below_next HB6.out hb7)
  have HKg7 := Lib.hid (HKg6.out.later hb7)
  have HV7 := Lib.hid (HV6.out.below hb7)
  clear z0 z1 z2 hb7 HB6 HKg6 HV6
  have z0 := HKg7.out.cell 0 rfl
  have z1 := HKg7.out.cell 1 rfl
  have z2 := HKg7.out.cell 2 rfl
  go_wp2_with fail
  refine (rlost_v HV7.out HMoE.out).mono ?_
  rintro e w8 ⟨v8, rfl, hl8, hb8⟩
  rw [HLo.out] at hl8
  obtain ⟨p8, c8, rfl, -⟩ := hl8
  dsimp only [List.length_nil]
  have HB8 := Lib.hid (below_next HB7.out hb8)
  have HKg8 := Lib.hid (HKg7.out.later hb8)
  have HV8 := Lib.hid (HV7.out.below hb8)
  clear z0 z1 z2 hb8 HB7 HKg7 HV7
  obtain ⟨v0', v1', v2', hve, -, -, ⟨pt, ct, hvt, k2⟩⟩ := HV2.out
  have HX0 := Lib.hid k2
  have HQ : q2 = pt := by
   simp at hve
   rw [hvt] at hve
   have := hve.2.2
   simp at this
   exact this.1
  subst HQ
  obtain ⟨x0', x1', x2', hxe, -, -, ⟨pe, ce, hxt, k3⟩⟩ := HV8.out
  have HY0 := Lib.hid k3
  have HQe : e2 = pe := by
   simp at hxe
   rw [hxt] at hxe
   have := hxe.2.2
   simp at this
   exact this.1
  subst HQe
  have HBl : RowKit.Hid (B < w8.heap.size) := Lib.hid HKg8.out.lt
  clear hve hvt k2 hxe hxt k3
  go_wp2_with fail
  go_loopw [7] (fun i wr => ∃ k : Nat, k ≤ hF.2.2.length ∧ i = .int .i64 k ∧ Below w8.heap.size w8 wr) (fun i _ => hF.2.2.length - (RowKit.intOf i).toNat)
  case atStart => exact ⟨0, Nat.zero_le _, rfl, Below.refl _ _⟩
  case round =>
   obtain ⟨i, hi, rfl, hbr⟩ := hrel
   have hbw := below_next HB8.out hbr
   have x2 := (HKb.out _ hbw).cell 2 rfl
   have m3 : hF.2.2.length ≤ 1000 := HMo.out.2.2.1
   have HBr := Lib.hid hbr
   by_cases hi1 : i < hF.2.2.length
   ·obtain ⟨g, sv, rfl, a1, a2, a3, a4⟩ := HX0.out i hi1
    have htl : (hF.2.2.getD i noTxn).2.2.length ≤ 1000 := by
     have e : hF.2.2.getD i noTxn = hF.2.2[i] := by simp [hi1]
     rw [e]
     exact HMo.out.2.2.2.2.2 _ (List.getElem_mem hi1)
    have HPi := Lib.hid (fun j hj hp => HPv.out i j hi1 hj hp)
    obtain ⟨⟨ts, tf, tl⟩, htt⟩ : ∃ q, hF.2.2.getD i noTxn = q := ⟨_, rfl⟩
    rw [htt] at a4 htl HPi
    dsimp only at a4 htl HPi
    obtain ⟨p3, c3, rfl, -, hops⟩ := a4
    have HO := Lib.hid hops
    have HA3x := Lib.hid (fun w' (hb : Below W2.heap.size W2 w') => cell_later hb a3)
    clear hbw hops htt a1 a2 a3 hbr
    go_wp2_with fail
    clear x2
    go_loopw [8] (fun k wr => ∃ m : Nat, m ≤ tl.length ∧ k = .int .i64 m ∧ Below w8.heap.size w8 wr) (fun k _ => tl.length - (RowKit.intOf k).toNat)
    case atStart => exact ⟨0, Nat.zero_le _, rfl, HBr.out⟩
    case round =>
     obtain ⟨m, hk, rfl, hbr⟩ := hrel
     have HBR := Lib.hid hbr
     have HBR2 := Lib.hid (below_next HB8.out hbr)
     have x0 := (HKb.out _ HBR2.out).cell 0 rfl
     have x1 := (HKb.out _ HBR2.out).cell 1 rfl
     have x2 := (HKb.out _ HBR2.out).cell 2 rfl
     have a3 := HA3x.out _ HBR2.out
     clear hbr
     by_cases hk1 : m < tl.length
     ·obtain ⟨go, rfl, -, -, q3, q4⟩ := HO.out m hk1
      have hpi := HPi.out m hk1
      obtain ⟨⟨ow, ok, od, on⟩, hoo⟩ : ∃ q, tl.getD m noOp = q := ⟨_, rfl⟩
      rw [hoo] at q3 q4 hpi
      dsimp only at q3 q4
      obtain ⟨⟨⟨gk, gn⟩, gb⟩, hg⟩ : ∃ r, placeP hF i m = r := ⟨_, rfl⟩
      rw [hg] at hpi
      have HG := Lib.hid hg
      have HPI := Lib.hid hpi
      have Q3 := Lib.hid q3
      have Q4 := Lib.hid q4
      clear hg hoo hpi q3 q4
      go_wp2_with fail
      refine (place14_any (i : Int) (m : Int) (HVb.out _ HBR2.out) HMo.out (HTb.out _ HBR2.out)).mono ?_
      rintro e w5 ⟨he, hb5⟩
      rw [HG.out] at he
      dsimp only at he
      subst he
      have HB5 := Lib.hid (below_next HBR.out hb5)
      have hq5 := HB5.out.alloc HB5.out.size (.cells #[.int .i64 gk, .int .i64 gn] 38)
      have HBq := Lib.hid hq5
      have HPq := Lib.hid (Blk.new w5 38 [.int .i64 gk, .int .i64 gn])
      clear hb5 x0 x1 x2 a3 hq5
      go_upto_region 17 with fail
      obtain ⟨wq, hwq⟩ : ∃ q, w5.alloc (.cells #[.int .i64 gk, .int .i64 gn] 38) = q := ⟨_, rfl⟩
      rw [hwq] at HBq HPq ⊢
      clear hwq
      have HBQ2 := Lib.hid (below_next HB8.out HBq.out)
      cases gb with
      | false =>
       have HS : RowKit.Hid (∀ w', Below wq.heap.size wq w' → Below wq.heap.size wq w') := Lib.hid (fun w' hb => hb)
       refine wp_region_keep (fun w' => Below wq.heap.size wq w') [] (by kernel_rfl) ?_
       have hB0 : Below (wq).heap.size (wq) (wq).drew := Below.drew (Below.refl _ _)
       have hS0 := HS.out _ hB0
       refine won 0 rfl fun K hK => ?_
       go_simp
       refine hK.out _ _ (fun _ h => h) ?_
       clear hK K
       try simp only [Act.put, sq]
       refine won 1 rfl fun K hK => ?_
       go_simp
       refine hK.out _ _ (fun _ h => h) ?_
       clear hK K
       try simp only [Act.put, sq]
       refine wpAnyM_free 2 (v := undef) rfl (by kernel_rfl) (by kernel_rfl) (by kernel_rfl) (fun _ _ _ h => h) (Or.inr ⟨by rfl, rfl⟩) ?_
       try simp only [Act.put, sq]
       refine wpAnyM_free 3 (v := undef) rfl (by kernel_rfl) (by kernel_rfl) (by kernel_rfl) (fun _ _ _ h => h) (Or.inr ⟨by rfl, rfl⟩) ?_
       try simp only [Act.put, sq]
       refine wpAnyM_free 4 (v := undef) rfl (by kernel_rfl) (by kernel_rfl) (by kernel_rfl) (fun _ _ _ h => h) (Or.inr ⟨by rfl, rfl⟩) ?_
       try simp only [Act.put, sq]
       refine wpAnyM_free 5 (v := undef) rfl (by kernel_rfl) (by kernel_rfl) (by kernel_rfl) (fun _ _ _ h => h) (Or.inr ⟨by rfl, rfl⟩) ?_
       try simp only [Act.put, sq]
       refine wpAnyM_free 6 (v := undef) rfl (by kernel_rfl) (by kernel_rfl) (by kernel_rfl) (fun _ _ _ h => h) (Or.inr ⟨by rfl, rfl⟩) ?_
       try simp only [Act.put, sq]
       refine wpAnyM_free 7 (v := undef) rfl (by kernel_rfl) (by kernel_rfl) (by kernel_rfl) (fun _ _ _ h => h) (Or.inr ⟨by rfl, rfl⟩) ?_
       try simp only [Act.put, sq]
       refine wpAnyM_free 8 (v := undef) rfl (by kernel_rfl) (by kernel_rfl) (by kernel_rfl) (fun _ _ _ h => h) (Or.inr ⟨by rfl, rfl⟩) ?_
       try simp only [Act.put, sq]
       refine wpAnyM_free 9 (v := undef) rfl (by kernel_rfl) (by kernel_rfl) (by kernel_rfl) (fun _ _ _ h => h) (Or.inr ⟨by rfl, rfl⟩) ?_
       try simp only [Act.put, sq]
       refine wpAnyM_free 10 (v := undef) rfl (by kernel_rfl) (by kernel_rfl) (by kernel_rfl) (fun _ _ _ h => h) (Or.inr ⟨by rfl, rfl⟩) ?_
       try simp only [Act.put, sq]
       refine wpAnyM_free 11 (v := undef) rfl (by kernel_rfl) (by kernel_rfl) (by kernel_rfl) (fun _ _ _ h => h) (Or.inr ⟨by rfl, rfl⟩) ?_
       try simp only [Act.put, sq]
       refine wpAnyM_free 12 (v := undef) rfl (by kernel_rfl) (by kernel_rfl) (by kernel_rfl) (fun _ _ _ h => h) (Or.inr ⟨by rfl, rfl⟩) ?_
       try simp only [Act.put, sq]
       refine wpAnyM_free 13 (v := undef) rfl (by kernel_rfl) (by kernel_rfl) (by kernel_rfl) (fun _ _ _ h => h) (Or.inr ⟨by rfl, rfl⟩) ?_
       try simp only [Act.put, sq]
       refine wpAnyM_free 14 (v := undef) rfl (by kernel_rfl) (by kernel_rfl) (by kernel_rfl) (fun _ _ _ h => h) (Or.inr ⟨by rfl, rfl⟩) ?_
       try simp only [Act.put, sq]
       refine wpAnyM_free 15 (v := undef) rfl (by kernel_rfl) (by kernel_rfl) (by kernel_rfl) (fun _ _ _ h => h) (Or.inr ⟨by rfl, rfl⟩) ?_
       try simp only [Act.put, sq]
       refine wpAnyM_free 16 (v := undef) rfl (by kernel_rfl) (by kernel_rfl) (by kernel_rfl) (fun _ _ _ h => h) (Or.inr ⟨by rfl, rfl⟩) ?_
       try simp only [Act.put, sq]
       refine wpAnyM_free 17 (v := undef) rfl (by kernel_rfl) (by kernel_rfl) (by kernel_rfl) (fun _ _ _ h => h) (Or.inr ⟨by rfl, rfl⟩) ?_
       try simp only [Act.put, sq]
       refine wpAnyM_free 18 (v := undef) rfl (by kernel_rfl) (by kernel_rfl) (by kernel_rfl) (fun _ _ _ h => h) (Or.inr ⟨by rfl, rfl⟩) ?_
       try simp only [Act.put, sq]
       refine wpAnyM_free 19 (v := undef) rfl (by kernel_rfl) (by kernel_rfl) (by kernel_rfl) (fun _ _ _ h => h) (Or.inr ⟨by rfl, rfl⟩) ?_
       try simp only [Act.put, sq]
       refine won 20 rfl fun K hK => ?_
       go_simp
       refine hK.out _ _ (fun _ h => h) ?_
       clear hK K
       try simp only [Act.put, sq]
       refine won 21 rfl fun K hK => ?_
       go_simp
       refine hK.out _ _ (fun _ h => h) ?_
       clear hK K
       try simp only [Act.put, sq]
       refine won 22 rfl fun K hK => ?_
       go_simp
       refine hK.out _ _ (fun _ h => h) ?_
       clear hK K
       try simp only [Act.put, sq]
       refine won 23 rfl fun K hK => ?_
       go_simp
       refine hK.out _ _ (fun _ h => h) ?_
       clear hK K
       try simp only [Act.put, sq]
       refine won 24 rfl fun K hK => ?_
       go_simp
       refine hK.out _ _ (fun _ h => h) ?_
       clear hK K
       try simp only [Act.put, sq]
       refine won 25 rfl fun K hK => ?_
       go_simp
       refine hK.out _ _ (fun _ h => h) ?_
       clear hK K
       try simp only [Act.put, sq]
       refine wpAnyM_done (by kernel_rfl) ?_ _
       try simp only [Act.put, sq]
       have HBk := Lib.hid (below_next HBq.out hB0)
       have x2 := (HKb.out _ (below_next HB8.out HBk.out)).cell 2 rfl
       have a3 := HA3x.out _ (below_next HB8.out HBk.out)
       clear hB0
       go_wp2_with fail
       go_roundw
       case rel => exact ⟨m + 1, by omega, by go_num, HBk.out⟩
       case measure => simp [RowKit.intOf]; omega
      | true =>
       obtain ⟨n, hn1, hn2, hn3⟩ := HPI.out rfl
       injection hn1 with hn1 _
       injection hn1 with h1 h2
       subst h1 h2
       have hie : i < E.2.2.length := by
        by_cases hc : i < E.2.2.length
        ·exact hc
        ·rw [show E.2.2.getD i noTxn = noTxn by simp [Nat.le_of_not_lt hc]] at hn2
         exact absurd hn2 (Nat.not_lt_zero _)
       obtain ⟨ge, se, rfl, -, -, b3, b4⟩ := HY0.out i hie
       obtain ⟨⟨es, ef, el⟩, hee⟩ : ∃ q, E.2.2.getD i noTxn = q := ⟨_, rfl⟩
       rw [hee] at b4 hn2 hn3
       dsimp only at b4 hn2 hn3
       obtain ⟨p4, c4, rfl, -, hope⟩ := b4
       obtain ⟨gf, rfl, -, -, r3, r4⟩ := hope n hn2
       rw [hn3] at r3 r4
       dsimp only at r3 r4
       have R3 := Lib.hid r3
       have R4 := Lib.hid r4
       have B3 := Lib.hid b3
       clear r3 r4 b3 hope hn3 hee
       have HS : RowKit.Hid (∀ w', Below wq.heap.size wq w' → w'.cell? ⟨w.heap.size, 2, none⟩ = some (.slice (some ⟨g, 0, none⟩) hF.2.2.length d2) ∧ w'.cell? ⟨B, 2, none⟩ = some (.slice (some ⟨ge, 0, none⟩) E.2.2.length n2) ∧ w'.cell? ⟨w5.heap.size, 0, none⟩ = some (.int .i64 (i : Nat)) ∧ w'.cell? ⟨w5.heap.size, 1, none⟩ = some (.int .i64 (n : Nat)) ∧ w'.cell? ⟨g, i * 3 + 2, none⟩ = some (.slice (some ⟨go, 0, none⟩) tl.length c3) ∧ w'.cell? ⟨ge, i * 3 + 2, none⟩ = some (.slice (some ⟨gf, 0, none⟩) el.length c4) ∧ w'.cell? ⟨go, m * 4 + 2, none⟩ = some (.int .i64 od) ∧ w'.cell? ⟨go, m * 4 + 3, none⟩ = some (.int .i64 on) ∧ w'.cell? ⟨gf, n * 4 + 2, none⟩ = some (.int .i64 od) ∧ w'.cell? ⟨gf, n * 4 + 3, none⟩ = some (.int .i64 on) ∧ Below wq.heap.size wq w') := Lib.hid (fun w' hb => by
        have h8 := below_next HBq.out hb
        have h2 := below_next HBQ2.out hb
        exact ⟨(HKb.out _ h2).cell 2 rfl, (HKg8.out.later h8).cell 2 rfl, (HPq.out.later hb).cell 0 rfl, (HPq.out.later hb).cell 1 rfl, HA3x.out _ h2, cell_later h8 B3.out, cell_later h2 Q3.out, cell_later h2 Q4.out, cell_later h8 R3.out, cell_later h8 R4.out, hb⟩)
       refine wp_region_keep (fun w' => w'.cell? ⟨w.heap.size, 2, none⟩ = some (.slice (some ⟨g, 0, none⟩) hF.2.2.length d2) ∧ w'.cell? ⟨B, 2, none⟩ = some (.slice (some ⟨ge, 0, none⟩) E.2.2.length n2) ∧ w'.cell? ⟨w5.heap.size, 0, none⟩ = some (.int .i64 (i : Nat)) ∧ w'.cell? ⟨w5.heap.size, 1, none⟩ = some (.int .i64 (n : Nat)) ∧ w'.cell? ⟨g, i * 3 + 2, none⟩ = some (.slice (some ⟨go, 0, none⟩) tl.length c3) ∧ w'.cell? ⟨ge, i * 3 + 2, none⟩ = some (.slice (some ⟨gf, 0, none⟩) el.length c4) ∧ w'.cell? ⟨go, m * 4 + 2, none⟩ = some (.int .i64 od) ∧ w'.cell? ⟨go, m * 4 + 3, none⟩ = some (.int .i64 on) ∧ w'.cell? ⟨gf, n * 4 + 2, none⟩ = some (.int .i64 od) ∧ w'.cell? ⟨gf, n * 4 + 3, none⟩ = some (.int .i64 on) ∧ Below wq.heap.size wq w') [] (by kernel_rfl) ?_
       have hB0 : Below (wq).heap.size (wq) (wq).drew := Below.drew (Below.refl _ _)
       have hS0 := HS.out _ hB0
       refine won 0 rfl fun K hK => ?_
       go_simp
       refine hK.out _ _ (fun _ h => h) ?_
       clear hK K
       try simp only [Act.put, sq]
       refine won 1 rfl fun K hK => ?_
       go_simp
       refine hK.out _ _ (fun _ h => h) ?_
       clear hK K
       try simp only [Act.put, sq]
       refine wfr 2 (v := ?_) rfl ?_ ?_
       rotate_left
       ·intro w' hw';go_simp;try with_reducible rfl
       try simp only [Act.put, sq]
       refine wtk 3 26 (v := ?_) rfl ?_ hS0 ?_
       rotate_left
       ·intro w' hw';(try dsimp only at hw');go_simp;try with_reducible rfl
       try simp only [Act.put, sq]
       refine wfr 4 (v := ?_) rfl ?_ ?_
       rotate_left
       ·intro w' hw';go_simp;try with_reducible rfl
       try simp only [Act.put, sq]
       refine wtk 5 26 (v := ?_) rfl ?_ hS0 ?_
       rotate_left
       ·intro w' hw';(try dsimp only at hw');go_simp;try with_reducible rfl
       try simp only [Act.put, sq]
       refine wfr 6 (v := ?_) rfl ?_ ?_
       rotate_left
       ·intro w' hw';go_simp;try with_reducible rfl
       try simp only [Act.put, sq]
       refine wfr 7 (v := ?_) rfl ?_ ?_
       rotate_left
       ·intro w' hw';go_simp;try with_reducible rfl
       try simp only [Act.put, sq]
       refine wtk 8 26 (v := ?_) rfl ?_ hS0 ?_
       rotate_left
       ·intro w' hw';(try dsimp only at hw');go_simp;try with_reducible rfl
       try simp only [Act.put, sq]
       refine wfr 9 (v := ?_) rfl ?_ ?_
       rotate_left
       ·intro w' hw';go_simp;try with_reducible rfl
       try simp only [Act.put, sq]
       refine wtk 10 26 (v := ?_) rfl ?_ hS0 ?_
       rotate_left
       ·intro w' hw';(try dsimp only at hw');go_simp;try with_reducible rfl
       try simp only [Act.put, sq]
       refine wfr 11 (v := ?_) rfl ?_ ?_
       rotate_left
       ·intro w' hw';go_simp;try with_reducible rfl
       try simp only [Act.put, sq]
       refine wfr 12 (v := ?_) rfl ?_ ?_
       rotate_left
       ·intro w' hw';go_simp;try with_reducible rfl
       try simp only [Act.put, sq]
       refine wtk 13 26 (v := ?_) rfl ?_ hS0 ?_
       rotate_left
       ·intro w' hw';(try dsimp only at hw');go_simp;try with_reducible rfl
       try simp only [Act.put, sq]
       refine wfr 14 (v := ?_) rfl ?_ ?_
       rotate_left
       ·intro w' hw';go_simp;try with_reducible rfl
       try simp only [Act.put, sq]
       refine wtk 15 26 (v := ?_) rfl ?_ hS0 ?_
       rotate_left
       ·intro w' hw';(try dsimp only at hw');go_simp;try with_reducible rfl
       try simp only [Act.put, sq]
       refine wfr 16 (v := ?_) rfl ?_ ?_
       rotate_left
       ·intro w' hw';go_simp;try with_reducible rfl
       try simp only [Act.put, sq]
       refine wfr 17 (v := ?_) rfl ?_ ?_
       rotate_left
       ·intro w' hw';go_simp;try with_reducible rfl
       try simp only [Act.put, sq]
       refine wfr 18 (v := ?_) rfl ?_ ?_
       rotate_left
       ·intro w' hw';go_simp;try with_reducible rfl
       try simp only [Act.put, sq]
       refine wtk 19 26 (v := ?_) rfl ?_ hS0 ?_
       rotate_left
       ·intro w' hw';(try dsimp only at hw');go_simp;try with_reducible rfl
       try simp only [Act.put, sq]
       refine won 20 rfl fun K hK => ?_
       go_simp
       refine hK.out _ _ (fun _ h => h) ?_
       clear hK K
       try simp only [Act.put, sq]
       refine won 21 rfl fun K hK => ?_
       go_simp
       refine hK.out _ _ (fun _ h => h) ?_
       clear hK K
       try simp only [Act.put, sq]
       refine won 22 rfl fun K hK => ?_
       go_simp
       refine hK.out _ _ (fun _ h => h) ?_
       clear hK K
       try simp only [Act.put, sq]
       refine won 23 rfl fun K hK => ?_
       go_simp
       refine hK.out _ _ (fun _ h => h) ?_
       clear hK K
       try simp only [Act.put, sq]
       refine won 24 rfl fun K hK => ?_
       go_simp
       refine hK.out _ _ (fun _ h => h) ?_
       clear hK K
       try simp only [Act.put, sq]
       refine won 25 rfl fun K hK => ?_
       go_simp
       refine hK.out _ _ (fun _ h => h) ?_
       clear hK K
       try simp only [Act.put, sq]
       refine wpAnyM_done (by kernel_rfl) ?_ _
       try simp only [Act.put, sq]
       have HBk := Lib.hid (below_next HBq.out hB0)
       have x2 := (HKb.out _ (below_next HB8.out HBk.out)).cell 2 rfl
       have a3 := HA3x.out _ (below_next HB8.out HBk.out)
       clear hB0
       go_wp2_with fail
       go_roundw
       case rel => exact ⟨m + 1, by omega, by go_num, HBk.out⟩
       case measure => simp [RowKit.intOf]; omega
     ·have hke : m = tl.length := by omega
      subst hke
      go_wp2_with fail
      go_roundw
      case rel => exact ⟨i + 1, by omega, by go_num, HBR.out⟩
      case measure => simp [RowKit.intOf]; omega
   ·have hke : i = hF.2.2.length := by omega
    subst hke
    have HBn := Lib.hid hbw
    clear hbw hbr
    go_wp2_with fail
    go_ret
    exact ⟨rfl, HFin.out _ HBn.out⟩
end Go.Proofs.YtmgchjddpmmglaaGreatDoor
