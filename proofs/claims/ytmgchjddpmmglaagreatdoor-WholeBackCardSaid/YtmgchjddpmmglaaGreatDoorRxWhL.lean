/-
  Layer 17 (whole): the statement WholeBack, walked. Conditions: unicode/utf8's two tables and event.words hold what their initialisers lay, internal/bytealg.MaxLen holds a number.
-/
import Derived.Test.YtmgchjddpmmglaaGreatDoorRxWhF
import Derived.Test.YtmgchjddpmmglaaGreatDoorRxWoC
import Derived.Test.YtmgchjddpmmglaaGreatDoorRxWoD
import Derived.Test.YtmgchjddpmmglaaGreatDoorRWs
import Derived.Test.YtmgchjddpmmglaaGreatDoorRxWhJ
import Derived.Test.YtmgchjddpmmglaaGreatDoorRxWhK
import Derived.Test.YtmgchjddpmmglaaGreatDoorRxWhM
namespace Go.Proofs.YtmgchjddpmmglaaGreatDoor
open Go.RowKit Go.Lib
set_option maxRecDepth 100000 in
set_option maxHeartbeats 4000000 in
theorem wholeback_any (v u : Value) (hM : HistM) (mM : WorldM) (w : World) (hv : HistA w v hM) (hu : WorldA w u mM) (hT : Lib.Utf8Tabs 1 2 w) (hm : HasMax w) (hE : EvTab w) :
  Calls Tryz.prog 12 #[v, u] w fun e w' => e = .returned (.bool true) ∧ Below w.heap.size w w' := by
 have HA0 := Lib.hid hv
 have HU0 := Lib.hid hu
 obtain ⟨v0, v1, v2, rfl, ⟨p0, c0, rfl, -⟩, ⟨p1, c1, rfl, -⟩, ⟨p2, c2, rfl, -⟩⟩ := hv
 obtain ⟨u0, u1, rfl, ⟨pb, cb, rfl, -⟩, ⟨pv, cv, rfl, -⟩⟩ := hu
 have hal := ((Below.refl w.heap.size w).alloc (Nat.le_refl _) (.cells #[.slice p0 hM.1.length c0, .slice p1 hM.2.1.length c1, .slice p2 hM.2.2.length c2] 25)).alloc (by simp) (.cells #[.slice pb mM.1.length cb, .slice pv mM.2.length cv] 64)
 have hbx := (Blk.new w 25 [.slice p0 hM.1.length c0, .slice p1 hM.2.1.length c1, .slice p2 hM.2.2.length c2]).alloc (.cells #[.slice pb mM.1.length cb, .slice pv mM.2.length cv] 64)
 have hbu := Blk.new (w.alloc (.cells #[.slice p0 hM.1.length c0, .slice p1 hM.2.1.length c1, .slice p2 hM.2.2.length c2] 25)) 64 [.slice pb mM.1.length cb, .slice pv mM.2.length cv]
 simp only [World.size_alloc] at hbu
 have HAL := Lib.hid hal
 have HBX := Lib.hid hbx
 have HBU := Lib.hid hbu
 have HT := Lib.hid hT
 have HWk := Lib.hid (works17_any _ (Utf8Tabs_below hT hal) (hm.below hal) (hE.below hal))
 clear hal hbx hbu hT hm hE
 go_enter Tryz.func12, Tryz.ntmps12
 go_wp2_with fail
 refine HWk.out.mono ?_
 rintro e W2 ⟨rfl, hb2⟩
 replace HAL := Lib.hid (below_next HAL.out hb2)
 replace HBX := Lib.hid (HBX.out.later hb2)
 replace HBU := Lib.hid (HBU.out.later hb2)
 clear hb2 HWk
 go_upto_region 3 with fail
 have HFw := Lib.hid (fun w' (hb : Below W2.heap.size W2 w') => few11_any w' _ hM (HA0.out.below (below_next HAL.out hb)))
 have HWw := Lib.hid (fun w' (hb : Below W2.heap.size W2 w') => fewW_any w' _ mM (HU0.out.below (below_next HAL.out hb)))
 have HS : RowKit.Hid (∀ w', Below W2.heap.size W2 w' → w'.cell? ⟨w.heap.size, 0, none⟩ = some (.slice p0 hM.1.length c0) ∧ w'.cell? ⟨w.heap.size, 1, none⟩ = some (.slice p1 hM.2.1.length c1) ∧ w'.cell? ⟨w.heap.size, 2, none⟩ = some (.slice p2 hM.2.2.length c2) ∧ w'.cell? ⟨w.heap.size + 1, 0, none⟩ = some (.slice pb mM.1.length cb) ∧ w'.cell? ⟨w.heap.size + 1, 1, none⟩ = some (.slice pv mM.2.length cv) ∧ Below W2.heap.size W2 w') := Lib.hid (fun w' hb => ⟨(HBX.out.later hb).cell 0 rfl, (HBX.out.later hb).cell 1 rfl, (HBX.out.later hb).cell 2 rfl, (HBU.out.later hb).cell 0 rfl, (HBU.out.later hb).cell 1 rfl, hb⟩)
 refine wp_region_keep (fun w' => w'.cell? ⟨w.heap.size, 0, none⟩ = some (.slice p0 hM.1.length c0) ∧ w'.cell? ⟨w.heap.size, 1, none⟩ = some (.slice p1 hM.2.1.length c1) ∧ w'.cell? ⟨w.heap.size, 2, none⟩ = some (.slice p2 hM.2.2.length c2) ∧ w'.cell? ⟨w.heap.size + 1, 0, none⟩ = some (.slice pb mM.1.length cb) ∧ w'.cell? ⟨w.heap.size + 1, 1, none⟩ = some (.slice pv mM.2.length cv) ∧ Below W2.heap.size W2 w') [4, 5] (by kernel_rfl) ?_
 have hB0 : Below (W2).heap.size (W2) (W2).drew := Below.drew (Below.refl _ _)
 have hS0 := HS.out _ hB0
 refine wtk 0 6 (v := ?_) rfl ?_ hS0 ?_
 rotate_left
 ·intro w' hw';(try dsimp only at hw');go_simp;try with_reducible rfl
 try simp only [Act.put, sq]
 refine wtk 2 6 (v := ?_) rfl ?_ hS0 ?_
 rotate_left
 ·intro w' hw';(try dsimp only at hw');go_simp;try with_reducible rfl
 try simp only [Act.put, sq]
 refine won 1 rfl fun K hK => ?_
 go_simp
 refine (HFw.out _ hB0).mono ?_
 rintro e w1 ⟨v', rfl, hv', ha', hb1⟩
 have hB1 := below_next hB0 hb1
 have hS1 := HS.out _ hB1
 have HV1 := Lib.hid hv'
 have HA1 := Lib.hid ha'
 obtain ⟨f0, f1, f2, rfl, ⟨q0, d0, rfl, -⟩, ⟨q1, d1, rfl, -⟩, ⟨q2, d2, rfl, -⟩⟩ := hv'
 clear ha'
 refine hK.out _ _ (fun _ _ => hS1) ?_
 clear hK K hS0
 try simp only [Act.put, sq]
 refine won 3 rfl fun K hK => ?_
 go_simp
 refine (HWw.out _ hB1).mono ?_
 rintro e w2 ⟨u9, rfl, ⟨hwv, hwa⟩, hb2⟩
 have hB2 := below_next hB1 hb2
 have hS2 := HS.out _ hB2
 obtain ⟨r0, e0, r1, e1, rfl, -⟩ := worldV_form hwv
 have HWv := Lib.hid hwv
 have HWa := Lib.hid hwa
 have HV2 := Lib.hid (HV1.out.below hb2)
 have HA2 := Lib.hid (HA1.out.below hb2)
 clear hwv hwa HV1 HA1
 refine hK.out _ _ (fun _ _ => hS2) ?_
 clear hK K hS1
 try simp only [Act.put, sq]
 have z0 := (HBX.out.later hB2).cell 0 rfl
 have fz0 := (HBX.out.later hB2).frozen 0
 have z1 := (HBX.out.later hB2).cell 1 rfl
 have fz1 := (HBX.out.later hB2).frozen 1
 have z2 := (HBX.out.later hB2).cell 2 rfl
 have fz2 := (HBX.out.later hB2).frozen 2
 have lz := (HBX.out.later hB2).lt
 refine won 4 rfl fun K hK => ?_
 go_simp
 refine hK.out _ _ (fun h => absurd h (by decide)) ?_
 clear hK K
 try simp only [Act.put, sq]
 clear z0 fz0 z1 fz1 z2 fz2 lz
 have z0 := (HBX.out.later hB2).cell 0 rfl
 have fz0 := (HBX.out.later hB2).frozen 0
 have z1 := (HBX.out.later hB2).cell 1 rfl
 have fz1 := (HBX.out.later hB2).frozen 1
 have z2 := (HBX.out.later hB2).cell 2 rfl
 have fz2 := (HBX.out.later hB2).frozen 2
 have lz := (HBX.out.later hB2).lt
 have y0 := (HBU.out.later hB2).cell 0 rfl
 have fy0 := (HBU.out.later hB2).frozen 0
 have y1 := (HBU.out.later hB2).cell 1 rfl
 have fy1 := (HBU.out.later hB2).frozen 1
 have ly := (HBU.out.later hB2).lt
 refine won 5 rfl fun K hK => ?_
 go_simp
 refine hK.out _ _ (fun h => absurd h (by decide)) ?_
 clear hK K
 try simp only [Act.put, sq]
 clear z0 fz0 z1 fz1 z2 fz2 lz
 clear y0 fy0 y1 fy1 ly
 refine wpAnyM_done (by kernel_rfl) ?_ _
 try simp only [Act.put, sq]
 obtain ⟨WZ, hWZ, kb, ku, hvz, haz, wvz, waz, hbz⟩ := two_stored HAL.out HBX.out (by intro x hx; simp at hx; rcases hx with rfl | rfl | rfl <;> exact ⟨_, _, _, rfl⟩) HBU.out (by intro x hx; simp at hx; rcases hx with rfl | rfl <;> exact ⟨_, _, _, rfl⟩) hB2 HV2.out HA2.out HWv.out HWa.out
 rw [hWZ]
 have HMo := Lib.hid (few_modst hM)
 have H50 := Lib.hid (fewW_len mM)
 have KB := Lib.hid kb
 have KU := Lib.hid ku
 have HVz := Lib.hid hvz
 have WVz := Lib.hid wvz
 have HB := Lib.hid hbz
 clear kb ku hvz haz wvz waz hbz HS HFw HWw HV2 HA2 HWv HWa hWZ hB2 HBX HBU HAL
 generalize fewH hM = hF at *
 generalize fewW mM = mF at *
 obtain ⟨⟨E, er⟩, hE9⟩ : ∃ q, makeP hF mF = q := ⟨_, rfl⟩
 have HE9 := Lib.hid hE9
 clear hE9
 have x0 := KB.out.cell 0 rfl
 have x1 := KB.out.cell 1 rfl
 have x2 := KB.out.cell 2 rfl
 have y0 := KU.out.cell 0 rfl
 have y1 := KU.out.cell 1 rfl
 go_wp2_with fail
 have h4 := make17_any HVz.out WVz.out HMo.out H50.out (Utf8Tabs_below HT.out HB.out)
 rw [HE9.out] at h4
 refine h4.mono ?_
 rintro e W4 ⟨v4, rfl, hv4, hb4⟩
 obtain ⟨a0, n0, a1, n1, a2, n2, rfl⟩ := histV_form hv4
 clear x0 x1 x2 y0 y1
 replace KB := Lib.hid (KB.out.later hb4)
 replace KU := Lib.hid (KU.out.later hb4)
 replace HVz := Lib.hid (HVz.out.below hb4)
 replace WVz := Lib.hid (WVz.out.below hb4)
 replace HB := Lib.hid (below_next HB.out hb4)
 replace KB := Lib.hid (KB.out.alloc (.cells #[.slice a0 E.1.length n0, .slice a1 E.2.1.length n1, .slice a2 E.2.2.length n2] 25))
 replace KU := Lib.hid (KU.out.alloc (.cells #[.slice a0 E.1.length n0, .slice a1 E.2.1.length n1, .slice a2 E.2.2.length n2] 25))
 replace HVz := Lib.hid (HVz.out.below ((Below.refl _ _).alloc (Nat.le_refl _) (.cells #[.slice a0 E.1.length n0, .slice a1 E.2.1.length n1, .slice a2 E.2.2.length n2] 25)))
 replace WVz := Lib.hid (WVz.out.below ((Below.refl _ _).alloc (Nat.le_refl _) (.cells #[.slice a0 E.1.length n0, .slice a1 E.2.1.length n1, .slice a2 E.2.2.length n2] 25)))
 have HVe := Lib.hid (hv4.below ((Below.refl _ _).alloc (Nat.le_refl _) (.cells #[.slice a0 E.1.length n0, .slice a1 E.2.1.length n1, .slice a2 E.2.2.length n2] 25)))
 have KE := Lib.hid (Blk.new W4 25 [.slice a0 E.1.length n0, .slice a1 E.2.1.length n1, .slice a2 E.2.2.length n2])
 replace HB := Lib.hid (HB.out.alloc HB.out.size (.cells #[.slice a0 E.1.length n0, .slice a1 E.2.1.length n1, .slice a2 E.2.2.length n2] 25))
 clear h4 hb4 hv4
 have x0 := KB.out.cell 0 rfl
 have x1 := KB.out.cell 1 rfl
 have x2 := KB.out.cell 2 rfl
 have y0 := KU.out.cell 0 rfl
 have y1 := KU.out.cell 1 rfl
 have z0 := KE.out.cell 0 rfl
 have z1 := KE.out.cell 1 rfl
 have z2 := KE.out.cell 2 rfl
 cases hmm : mayH hF with
 | false =>
  have h9 := HE9.out
  rw [show makeP hF mF = (noH, 4) by unfold makeP; rw [hmm]; rfl] at h9
  obtain rfl : (4 : Int) = er := congrArg Prod.snd h9
  have HEr := Lib.hid (err_no hmm)
  clear h9 hmm
  go_wp2_with fail
  refine (rmay_v HVz.out HMo.out).mono ?_
  rintro e W5 ⟨rfl, hb5⟩
  rw [HEr.out]
  go_wp2_with fail
  go_ret
  exact ⟨rfl, below_next HB.out hb5⟩
 | true =>
  have HEr := Lib.hid (err_yes hmm)
  cases hmw : mayW hF mF with
  | false =>
   have h9 := HE9.out
   rw [show makeP hF mF = (noH, 2) by unfold makeP; rw [hmm, hmw]; rfl] at h9
   obtain rfl : (2 : Int) = er := congrArg Prod.snd h9
   clear h9 hmm
   go_wp2_with fail
   refine (rmay_v HVz.out HMo.out).mono ?_
   rintro e W5 ⟨rfl, hb5⟩
   rw [HEr.out]
   clear x0 x1 x2 y0 y1 z0 z1 z2
   replace KB := Lib.hid (KB.out.later hb5)
   replace KU := Lib.hid (KU.out.later hb5)
   replace HVz := Lib.hid (HVz.out.below hb5)
   replace WVz := Lib.hid (WVz.out.below hb5)
   replace HB := Lib.hid (below_next HB.out hb5)
   clear hb5
   have x0 := KB.out.cell 0 rfl
   have x1 := KB.out.cell 1 rfl
   have x2 := KB.out.cell 2 rfl
   have y0 := KU.out.cell 0 rfl
   have y1 := KU.out.cell 1 rfl
   go_wp2_with fail
   have h6 := rmayw16_any HVz.out WVz.out HMo.out H50.out
   rw [hmw] at h6
   refine h6.mono ?_
   rintro e W6 ⟨rfl, hb6⟩
   go_wp2_with fail
   go_ret
   exact ⟨rfl, below_next HB.out hb6⟩
  | true =>
   have h9 := HE9.out
   rw [show makeP hF mF = (makeH hF mF, 0) by unfold makeP; rw [hmm, hmw]; rfl] at h9
   have hEe : makeH hF mF = E := congrArg Prod.fst h9
   obtain rfl : (0 : Int) = er := congrArg Prod.snd h9
   have HME : RowKit.Hid (Modst E) := Lib.hid (by rw [← hEe]; exact make_modst2 HMo.out)
   have HWl : RowKit.Hid (wholeP E = true) := Lib.hid (by rw [← hEe]; exact make_whole hmw)
   have HWd : RowKit.Hid (worldA hF E = (mF, true)) := Lib.hid (by rw [world_one, ← hEe]; exact world_make hmw)
   have HEm : RowKit.Hid (makeP E ([], []) = (E, 0)) := Lib.hid (by
    obtain ⟨h1, h2⟩ := make_empty HWl.out
    have h3 := ((mayW_iff _ _).1 h1).m
    unfold makeP
    rw [(mayH_iff E).2 h3, h1, h2]
    rfl)
   clear h9 hmm hEe hmw HEr HE9
   go_wp2_with fail
   have h5 := world17_any HVz.out HVe.out HMo.out HME.out (Utf8Tabs_below HT.out HB.out)
   rw [HWd.out] at h5
   refine h5.mono ?_
   rintro e W5 ⟨v5, rfl, hv5, hb5⟩
   obtain ⟨s0, k0, s1, k1, rfl, -⟩ := worldV_form hv5
   clear x0 x1 x2 y0 y1 z0 z1 z2
   replace KB := Lib.hid (KB.out.later hb5)
   replace KU := Lib.hid (KU.out.later hb5)
   replace HVz := Lib.hid (HVz.out.below hb5)
   replace WVz := Lib.hid (WVz.out.below hb5)
   replace KE := Lib.hid (KE.out.later hb5)
   replace HVe := Lib.hid (HVe.out.below hb5)
   replace HB := Lib.hid (below_next HB.out hb5)
   replace KB := Lib.hid (KB.out.alloc (.cells #[.slice s0 mF.1.length k0, .slice s1 mF.2.length k1] 64))
   replace KU := Lib.hid (KU.out.alloc (.cells #[.slice s0 mF.1.length k0, .slice s1 mF.2.length k1] 64))
   replace HVz := Lib.hid (HVz.out.below ((Below.refl _ _).alloc (Nat.le_refl _) (.cells #[.slice s0 mF.1.length k0, .slice s1 mF.2.length k1] 64)))
   replace WVz := Lib.hid (WVz.out.below ((Below.refl _ _).alloc (Nat.le_refl _) (.cells #[.slice s0 mF.1.length k0, .slice s1 mF.2.length k1] 64)))
   replace KE := Lib.hid (KE.out.alloc (.cells #[.slice s0 mF.1.length k0, .slice s1 mF.2.length k1] 64))
   replace HVe := Lib.hid (HVe.out.below ((Below.refl _ _).alloc (Nat.le_refl _) (.cells #[.slice s0 mF.1.length k0, .slice s1 mF.2.length k1] 64)))
   have WVx := Lib.hid (hv5.below ((Below.refl _ _).alloc (Nat.le_refl _) (.cells #[.slice s0 mF.1.length k0, .slice s1 mF.2.length k1] 64)))
   have KX := Lib.hid (Blk.new W5 64 [.slice s0 mF.1.length k0, .slice s1 mF.2.length k1])
   replace HB := Lib.hid (HB.out.alloc HB.out.size (.cells #[.slice s0 mF.1.length k0, .slice s1 mF.2.length k1] 64))
   clear h5 hb5 hv5
   have z0 := KE.out.cell 0 rfl
   have z1 := KE.out.cell 1 rfl
   have z2 := KE.out.cell 2 rfl
   go_wp2_with fail
   have h6 := make17_any HVe.out (noW_v _) HME.out (by decide) (Utf8Tabs_below HT.out HB.out)
   rw [HEm.out] at h6
   refine h6.mono ?_
   rintro e W6 ⟨v6, rfl, hv6, hb6⟩
   obtain ⟨b0, m0, b1, m1, b2, m2, rfl⟩ := histV_form hv6
   clear z0 z1 z2
   replace KB := Lib.hid (KB.out.later hb6)
   replace KU := Lib.hid (KU.out.later hb6)
   replace HVz := Lib.hid (HVz.out.below hb6)
   replace WVz := Lib.hid (WVz.out.below hb6)
   replace KE := Lib.hid (KE.out.later hb6)
   replace HVe := Lib.hid (HVe.out.below hb6)
   replace KX := Lib.hid (KX.out.later hb6)
   replace WVx := Lib.hid (WVx.out.below hb6)
   replace HB := Lib.hid (below_next HB.out hb6)
   replace KB := Lib.hid (KB.out.alloc (.cells #[.slice b0 E.1.length m0, .slice b1 E.2.1.length m1, .slice b2 E.2.2.length m2] 25))
   replace KU := Lib.hid (KU.out.alloc (.cells #[.slice b0 E.1.length m0, .slice b1 E.2.1.length m1, .slice b2 E.2.2.length m2] 25))
   replace HVz := Lib.hid (HVz.out.below ((Below.refl _ _).alloc (Nat.le_refl _) (.cells #[.slice b0 E.1.length m0, .slice b1 E.2.1.length m1, .slice b2 E.2.2.length m2] 25)))
   replace WVz := Lib.hid (WVz.out.below ((Below.refl _ _).alloc (Nat.le_refl _) (.cells #[.slice b0 E.1.length m0, .slice b1 E.2.1.length m1, .slice b2 E.2.2.length m2] 25)))
   replace KE := Lib.hid (KE.out.alloc (.cells #[.slice b0 E.1.length m0, .slice b1 E.2.1.length m1, .slice b2 E.2.2.length m2] 25))
   replace HVe := Lib.hid (HVe.out.below ((Below.refl _ _).alloc (Nat.le_refl _) (.cells #[.slice b0 E.1.length m0, .slice b1 E.2.1.length m1, .slice b2 E.2.2.length m2] 25)))
   replace KX := Lib.hid (KX.out.alloc (.cells #[.slice b0 E.1.length m0, .slice b1 E.2.1.length m1, .slice b2 E.2.2.length m2] 25))
   replace WVx := Lib.hid (WVx.out.below ((Below.refl _ _).alloc (Nat.le_refl _) (.cells #[.slice b0 E.1.length m0, .slice b1 E.2.1.length m1, .slice b2 E.2.2.length m2] 25)))
   have HVk := Lib.hid (hv6.below ((Below.refl _ _).alloc (Nat.le_refl _) (.cells #[.slice b0 E.1.length m0, .slice b1 E.2.1.length m1, .slice b2 E.2.2.length m2] 25)))
   have KK := Lib.hid (Blk.new W6 25 [.slice b0 E.1.length m0, .slice b1 E.2.1.length m1, .slice b2 E.2.2.length m2])
   replace HB := Lib.hid (HB.out.alloc HB.out.size (.cells #[.slice b0 E.1.length m0, .slice b1 E.2.1.length m1, .slice b2 E.2.2.length m2] 25))
   clear h6 hb6 hv6
   have z0 := KE.out.cell 0 rfl
   have z1 := KE.out.cell 1 rfl
   have z2 := KE.out.cell 2 rfl
   go_wp2_with fail
   have h7 := wis_any HVe.out HME.out (Utf8Tabs_below HT.out HB.out)
   rw [HWl.out] at h7
   refine h7.mono ?_
   rintro e W7 ⟨rfl, hb7⟩
   clear z0 z1 z2
   replace KB := Lib.hid (KB.out.later hb7)
   replace KU := Lib.hid (KU.out.later hb7)
   replace HVz := Lib.hid (HVz.out.below hb7)
   replace WVz := Lib.hid (WVz.out.below hb7)
   replace KE := Lib.hid (KE.out.later hb7)
   replace HVe := Lib.hid (HVe.out.below hb7)
   replace KX := Lib.hid (KX.out.later hb7)
   replace WVx := Lib.hid (WVx.out.below hb7)
   replace KK := Lib.hid (KK.out.later hb7)
   replace HVk := Lib.hid (HVk.out.below hb7)
   replace HB := Lib.hid (below_next HB.out hb7)
   clear h7 hb7
   have t0 := KX.out.cell 0 rfl
   have t1 := KX.out.cell 1 rfl
   have y0 := KU.out.cell 0 rfl
   have y1 := KU.out.cell 1 rfl
   go_wp2_with fail
   refine (rsame16_eq WVx.out WVz.out ⟨by have := H50.out.1; omega, by have := H50.out.2; omega⟩).mono ?_
   rintro e W8 ⟨rfl, hb8⟩
   clear t0 t1 y0 y1
   replace KE := Lib.hid (KE.out.later hb8)
   replace HVe := Lib.hid (HVe.out.below hb8)
   replace KK := Lib.hid (KK.out.later hb8)
   replace HVk := Lib.hid (HVk.out.below hb8)
   replace HB := Lib.hid (below_next HB.out hb8)
   clear hb8
   have z0 := KE.out.cell 0 rfl
   have z1 := KE.out.cell 1 rfl
   have z2 := KE.out.cell 2 rfl
   have g0 := KK.out.cell 0 rfl
   have g1 := KK.out.cell 1 rfl
   have g2 := KK.out.cell 2 rfl
   go_wp2_with fail
   obtain ⟨i0, i1, i2⟩ := histV_parts HVk.out
   obtain ⟨j0, j1, j2⟩ := histV_parts HVe.out
   have h9 := rsame10_any _ _ _ _ _ _ E E _ i0 i1 i2 HME.out j0 j1 j2 HME.out
   rw [eqH_refl] at h9
   refine h9.mono ?_
   rintro e W9 ⟨rfl, hb9⟩
   replace HB := Lib.hid (below_next HB.out hb9)
   clear h9 hb9 i0 i1 i2 j0 j1 j2
   go_wp2_with fail
   go_ret
   exact ⟨rfl, HB.out⟩
end Go.Proofs.YtmgchjddpmmglaaGreatDoor
