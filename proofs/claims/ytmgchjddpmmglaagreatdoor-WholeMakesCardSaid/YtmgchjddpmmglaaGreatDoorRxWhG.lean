/-
  Layer 17 (whole): the statement WholeMakes, walked. Conditions: unicode/utf8's two tables and event.words hold what their initialisers lay, internal/bytealg.MaxLen holds a number.
-/
import Derived.Test.YtmgchjddpmmglaaGreatDoorRxWhF
import Derived.Test.YtmgchjddpmmglaaGreatDoorRxWhD
import Derived.Test.YtmgchjddpmmglaaGreatDoorRxWoD
import Derived.Test.YtmgchjddpmmglaaGreatDoorRWs
namespace Go.Proofs.YtmgchjddpmmglaaGreatDoor
open Go.RowKit Go.Lib
theorem make_modst {h : HistM} {m : WorldM} (hm : Modst h) : Modst (makeH h m) := by
 refine ⟨hm.1, hm.2.1, ?_, hm.2.2.2.1, hm.2.2.2.2.1, ?_⟩
 ·show (makeG h.2.2 _ _).length ≤ 1000
  rw [make_len]
  exact hm.2.2.1
 ·intro t ht
  obtain ⟨u, hu, -, -, e⟩ := make_txn h.2.2 _ _ t ht
  rw [e]
  exact hm.2.2.2.2.2 u hu
theorem noH_modst' : Modst noH := ⟨by decide, by decide, by decide, (fun x hx => by cases hx), (fun x hx => by cases hx), (fun x hx => by cases hx)⟩
theorem makeP_modst {h : HistM} {m : WorldM} (hm : Modst h) : Modst (makeP h m).1 := by
 unfold makeP
 split
 ·split
  ·exact make_modst hm
  ·exact noH_modst'
 ·exact noH_modst'
set_option maxRecDepth 100000 in
set_option maxHeartbeats 4000000 in
theorem wholemakes_any (v u : Value) (hM : HistM) (mM : WorldM) (w : World) (hv : HistA w v hM) (hu : WorldA w u mM) (hT : Lib.Utf8Tabs 1 2 w) (hm : HasMax w) (hE : EvTab w) :
  Calls Tryz.prog 10 #[v, u] w fun e w' => e = .returned (.bool true) ∧ Below w.heap.size w w' := by
 have HA0 := Lib.hid hv
 have HU0 := Lib.hid hu
 obtain ⟨v0, v1, v2, rfl, ⟨p0, c0, rfl, -⟩, ⟨p1, c1, rfl, -⟩, ⟨p2, c2, rfl, -⟩⟩ := hv
 obtain ⟨u0, u1, rfl, ⟨pb, cb, rfl, -⟩, ⟨pv, cv, rfl, -⟩⟩ := hu
 have hal := ((Below.refl w.heap.size w).alloc (Nat.le_refl _) (.cells #[.slice p0 hM.1.length c0, .slice p1 hM.2.1.length c1, .slice p2 hM.2.2.length c2] 25)).alloc (by simp) (.cells #[.slice pb mM.1.length cb, .slice pv mM.2.length cv] 64)
 have hbx := (Blk.new w 25 [.slice p0 hM.1.length c0, .slice p1 hM.2.1.length c1, .slice p2 hM.2.2.length c2]).alloc (.cells #[.slice pb mM.1.length cb, .slice pv mM.2.length cv] 64)
 have hbu := Blk.new (w.alloc (.cells #[.slice p0 hM.1.length c0, .slice p1 hM.2.1.length c1, .slice p2 hM.2.2.length c2] 25)) 64 [.slice pb mM.1.length cb, .slice pv mM.2.length cv]
 simp only [World.size_alloc] at hbu
 have HAL := Lib.hid hal
 have HBX := Lib.hid hbx
 have HBU := Lib.hid hbu
 have HT := Lib.hid hT
 have HMx := Lib.hid hm
 have HEt := Lib.hid hE
 clear hal hbx hbu hT hm hE
 go_enter Tryz.func10, Tryz.ntmps10
 go_upto_region 1 with fail
 obtain ⟨W1, hW1⟩ : ∃ q, (w.alloc (.cells #[.slice p0 hM.1.length c0, .slice p1 hM.2.1.length c1, .slice p2 hM.2.2.length c2] 25)).alloc (.cells #[.slice pb mM.1.length cb, .slice pv mM.2.length cv] 64) = q := ⟨_, rfl⟩
 rw [hW1] at HAL HBX HBU ⊢
 clear hW1
 have HFw := Lib.hid (fun w' (hb : Below W1.heap.size W1 w') => few11_any w' _ hM (HA0.out.below (below_next HAL.out hb)))
 have HWw := Lib.hid (fun w' (hb : Below W1.heap.size W1 w') => fewW_any w' _ mM (HU0.out.below (below_next HAL.out hb)))
 have HS : RowKit.Hid (∀ w', Below W1.heap.size W1 w' → w'.cell? ⟨w.heap.size, 0, none⟩ = some (.slice p0 hM.1.length c0) ∧ w'.cell? ⟨w.heap.size, 1, none⟩ = some (.slice p1 hM.2.1.length c1) ∧ w'.cell? ⟨w.heap.size, 2, none⟩ = some (.slice p2 hM.2.2.length c2) ∧ w'.cell? ⟨w.heap.size + 1, 0, none⟩ = some (.slice pb mM.1.length cb) ∧ w'.cell? ⟨w.heap.size + 1, 1, none⟩ = some (.slice pv mM.2.length cv) ∧ Below W1.heap.size W1 w') := Lib.hid (fun w' hb => ⟨(HBX.out.later hb).cell 0 rfl, (HBX.out.later hb).cell 1 rfl, (HBX.out.later hb).cell 2 rfl, (HBU.out.later hb).cell 0 rfl, (HBU.out.later hb).cell 1 rfl, hb⟩)
 refine wp_region_keep (fun w' => w'.cell? ⟨w.heap.size, 0, none⟩ = some (.slice p0 hM.1.length c0) ∧ w'.cell? ⟨w.heap.size, 1, none⟩ = some (.slice p1 hM.2.1.length c1) ∧ w'.cell? ⟨w.heap.size, 2, none⟩ = some (.slice p2 hM.2.2.length c2) ∧ w'.cell? ⟨w.heap.size + 1, 0, none⟩ = some (.slice pb mM.1.length cb) ∧ w'.cell? ⟨w.heap.size + 1, 1, none⟩ = some (.slice pv mM.2.length cv) ∧ Below W1.heap.size W1 w') [4, 5] (by kernel_rfl) ?_
 have hB0 : Below (W1).heap.size (W1) (W1).drew := Below.drew (Below.refl _ _)
 have hS0 := HS.out _ hB0
 refine wtk 0 6 (v := ?_) rfl ?_ hS0 ?_
 rotate_left
 ·intro w' hw';(try dsimp only at hw');go_simp;try with_reducible rfl
 try simp only [Act.put, sq]
 refine wtk 2 6 (v := ?_) rfl ?_ hS0 ?_
 rotate_left
 ·intro w' hw';(try dsimp only at hw');go_simp;try with_reducible rfl
 try simp only [Act.put, sq]
 refine won 1 rfl fun K hK => ?_
 go_simp
 refine (HFw.out _ hB0).mono ?_
 rintro e w1 ⟨v', rfl, hv', ha', hb1⟩
 have hB1 := below_next hB0 hb1
 have hS1 := HS.out _ hB1
 have HV1 := Lib.hid hv'
 have HA1 := Lib.hid ha'
 obtain ⟨f0, f1, f2, rfl, ⟨q0, d0, rfl, -⟩, ⟨q1, d1, rfl, -⟩, ⟨q2, d2, rfl, -⟩⟩ := hv'
 clear ha'
 refine hK.out _ _ (fun _ _ => hS1) ?_
 clear hK K hS0
 try simp only [Act.put, sq]
 refine won 3 rfl fun K hK => ?_
 go_simp
 refine (HWw.out _ hB1).mono ?_
 rintro e w2 ⟨u9, rfl, ⟨hwv, hwa⟩, hb2⟩
 have hB2 := below_next hB1 hb2
 have hS2 := HS.out _ hB2
 obtain ⟨r0, e0, r1, e1, rfl, -⟩ := worldV_form hwv
 have HWv := Lib.hid hwv
 have HWa := Lib.hid hwa
 have HV2 := Lib.hid (HV1.out.below hb2)
 have HA2 := Lib.hid (HA1.out.below hb2)
 clear hwv hwa HV1 HA1
 refine hK.out _ _ (fun _ _ => hS2) ?_
 clear hK K hS1
 try simp only [Act.put, sq]
 have z0 := (HBX.out.later hB2).cell 0 rfl
 have fz0 := (HBX.out.later hB2).frozen 0
 have z1 := (HBX.out.later hB2).cell 1 rfl
 have fz1 := (HBX.out.later hB2).frozen 1
 have z2 := (HBX.out.later hB2).cell 2 rfl
 have fz2 := (HBX.out.later hB2).frozen 2
 have lz := (HBX.out.later hB2).lt
 refine won 4 rfl fun K hK => ?_
 go_simp
 refine hK.out _ _ (fun h => absurd h (by decide)) ?_
 clear hK K
 try simp only [Act.put, sq]
 clear z0 fz0 z1 fz1 z2 fz2 lz
 have z0 := (HBX.out.later hB2).cell 0 rfl
 have fz0 := (HBX.out.later hB2).frozen 0
 have z1 := (HBX.out.later hB2).cell 1 rfl
 have fz1 := (HBX.out.later hB2).frozen 1
 have z2 := (HBX.out.later hB2).cell 2 rfl
 have fz2 := (HBX.out.later hB2).frozen 2
 have lz := (HBX.out.later hB2).lt
 have y0 := (HBU.out.later hB2).cell 0 rfl
 have fy0 := (HBU.out.later hB2).frozen 0
 have y1 := (HBU.out.later hB2).cell 1 rfl
 have fy1 := (HBU.out.later hB2).frozen 1
 have ly := (HBU.out.later hB2).lt
 refine won 5 rfl fun K hK => ?_
 go_simp
 refine hK.out _ _ (fun h => absurd h (by decide)) ?_
 clear hK K
 try simp only [Act.put, sq]
 clear z0 fz0 z1 fz1 z2 fz2 lz
 clear y0 fy0 y1 fy1 ly
 refine wpAnyM_done (by kernel_rfl) ?_ _
 try simp only [Act.put, sq]
 obtain ⟨WZ, hWZ, kb, ku, hvz, haz, wvz, waz, hbz⟩ := two_stored HAL.out HBX.out (by intro x hx; simp at hx; rcases hx with rfl | rfl | rfl <;> exact ⟨_, _, _, rfl⟩) HBU.out (by intro x hx; simp at hx; rcases hx with rfl | rfl <;> exact ⟨_, _, _, rfl⟩) hB2 HV2.out HA2.out HWv.out HWa.out
 rw [hWZ]
 have HFF := Lib.hid (fun w' v (ha : HistA w' v (fewH hM)) => few_v ha)
 have HWF := Lib.hid (fun w' v (ha : WorldA w' v (fewW mM)) => by have h9 := fewW_any w' v _ ha; rw [fewW_few] at h9; exact h9)
 have HMo := Lib.hid (few_modst hM)
 have H50 := Lib.hid (fewW_len mM)
 have KB := Lib.hid kb
 have KU := Lib.hid ku
 have HVz := Lib.hid hvz
 have HAz := Lib.hid haz
 have WVz := Lib.hid wvz
 have WAz := Lib.hid waz
 have HBz := Lib.hid hbz
 clear kb ku hvz haz wvz waz hbz HS HFw HWw HV2 HA2 HWv HWa hWZ hB2 HBX HBU HAL
 generalize fewH hM = hF at *
 generalize fewW mM = mF at *
 have HAb := Lib.hid (fun w' (hb : Below WZ.heap.size WZ w') => HAz.out.below hb)
 have HVb := Lib.hid (fun w' (hb : Below WZ.heap.size WZ w') => HVz.out.below hb)
 have HWb := Lib.hid (fun w' (hb : Below WZ.heap.size WZ w') => WAz.out.below hb)
 have HWv := Lib.hid (fun w' (hb : Below WZ.heap.size WZ w') => WVz.out.below hb)
 have HFin := Lib.hid (fun w' (hb : Below WZ.heap.size WZ w') => below_next HBz.out hb)
 have HTb := Lib.hid (fun w' (hb : Below WZ.heap.size WZ w') => Utf8Tabs_below HT.out (HFin.out _ hb))
 have HMb := Lib.hid (fun w' (hb : Below WZ.heap.size WZ w') => HMx.out.below (HFin.out _ hb))
 have HEb := Lib.hid (fun w' (hb : Below WZ.heap.size WZ w') => HEt.out.below (HFin.out _ hb))
 have HMk := Lib.hid (fun w' v u (hb : Below WZ.heap.size WZ w') (hv : HistV w' v hF) (hu : WorldV w' u mF) => make17_any hv hu HMo.out H50.out (HTb.out _ hb))
 have HRm := Lib.hid (fun w' (hb : Below WZ.heap.size WZ w') => rmake17_any (HVb.out _ hb) (HWv.out _ hb) HMo.out H50.out)
 have hME := makeP_modst (m := mF) HMo.out
 obtain ⟨⟨E, er⟩, hE9⟩ : ∃ q, makeP hF mF = q := ⟨_, rfl⟩
 rw [hE9] at HMk HRm hME
 have HME := Lib.hid hME
 clear hE9 hME HWv
 have HS : RowKit.Hid (∀ w', Below WZ.heap.size WZ w' → w'.cell? ⟨w.heap.size, 0, none⟩ = some (.slice q0 hF.1.length d0) ∧ w'.cell? ⟨w.heap.size, 1, none⟩ = some (.slice q1 hF.2.1.length d1) ∧ w'.cell? ⟨w.heap.size, 2, none⟩ = some (.slice q2 hF.2.2.length d2) ∧ w'.cell? ⟨w.heap.size + 1, 0, none⟩ = some (.slice r0 mF.1.length e0) ∧ w'.cell? ⟨w.heap.size + 1, 1, none⟩ = some (.slice r1 mF.2.length e1) ∧ Below WZ.heap.size WZ w') := Lib.hid (fun w' hb => ⟨(KB.out.later hb).cell 0 rfl, (KB.out.later hb).cell 1 rfl, (KB.out.later hb).cell 2 rfl, (KU.out.later hb).cell 0 rfl, (KU.out.later hb).cell 1 rfl, hb⟩)
 go_upto_region 2 with fail
 go_cut [5, 6] (fun s5 s6 wx => ∃ G a0 n0 a1 n1 a2 n2, s5 = .pointer (some ⟨G, 0, none⟩) ∧ s6 = .int .i64 er ∧ Blk wx G 25 [.slice a0 E.1.length n0, .slice a1 E.2.1.length n1, .slice a2 E.2.2.length n2] ∧ HistV wx (.agg #[.slice a0 E.1.length n0, .slice a1 E.2.1.length n1, .slice a2 E.2.2.length n2]) E ∧ WZ.heap.size ≤ G ∧ Below WZ.heap.size WZ wx)
 case first =>
  refine wp_region_keep (fun w' => w'.cell? ⟨w.heap.size, 0, none⟩ = some (.slice q0 hF.1.length d0) ∧ w'.cell? ⟨w.heap.size, 1, none⟩ = some (.slice q1 hF.2.1.length d1) ∧ w'.cell? ⟨w.heap.size, 2, none⟩ = some (.slice q2 hF.2.2.length d2) ∧ w'.cell? ⟨w.heap.size + 1, 0, none⟩ = some (.slice r0 mF.1.length e0) ∧ w'.cell? ⟨w.heap.size + 1, 1, none⟩ = some (.slice r1 mF.2.length e1) ∧ Below WZ.heap.size WZ w') [9] (by kernel_rfl) ?_
  have hB0 : Below (WZ).heap.size (WZ) (WZ).drew := Below.drew (Below.refl _ _)
  obtain ⟨wd, hwd⟩ : ∃ q, (WZ).drew = q := ⟨_, rfl⟩
  rw [hwd] at hB0 ⊢
  clear hwd
  refine wtk 0 11 (v := ?_) rfl ?_ (HS.out _ hB0) ?_
  rotate_left
  ·intro w' hw';(try dsimp only at hw');go_simp;try with_reducible rfl
  try simp only [Act.put, sq]
  refine wtk 2 11 (v := ?_) rfl ?_ (HS.out _ hB0) ?_
  rotate_left
  ·intro w' hw';(try dsimp only at hw');go_simp;try with_reducible rfl
  try simp only [Act.put, sq]
  refine wpAnyM_two 1 8 rfl rfl (by kernel_rfl) (fun K hK => ?_) (fun K hK => ?_)
  ·go_simp
   refine (HFF.out _ _ (HAb.out _ hB0)).mono ?_
   rintro e wb1 ⟨va1, rfl, hva1, -, hc1⟩
   have HVa := Lib.hid hva1
   clear hva1
   have hB1 := below_next hB0 hc1
   refine hK.out _ _ (fun _ _ => HS.out _ hB1) ?_
   clear hK K hc1
   try simp only [Act.put, sq]
   refine wpAnyM_two 3 8 rfl rfl (by kernel_rfl) (fun K hK => ?_) (fun K hK => ?_)
   ·go_simp
    refine (HWF.out _ _ (HWb.out _ hB1)).mono ?_
    rintro e wb2 ⟨ua2, rfl, ⟨hua2, -⟩, hc2⟩
    have HUa := Lib.hid hua2
    clear hua2
    have hB2 := below_next hB1 hc2
    replace HVa := Lib.hid (HVa.out.below hc2)
    refine hK.out _ _ (fun _ _ => HS.out _ hB2) ?_
    clear hK K hc2
    try simp only [Act.put, sq]
    refine wpAnyM_two 4 8 rfl rfl (by kernel_rfl) (fun K hK => ?_) (fun K hK => ?_)
    ·go_simp
     refine (HMk.out _ _ _ hB2 HVa.out HUa.out).mono ?_
     rintro e wb3 ⟨v3, rfl, hv3, hc3⟩
     obtain ⟨a0, n0, a1, n1, a2, n2, rfl⟩ := histV_form hv3
     have HVe := Lib.hid hv3
     clear hv3
     have hB3 := below_next hB2 hc3
     replace HVa := Lib.hid (HVa.out.below hc3)
     replace HUa := Lib.hid (HUa.out.below hc3)
     refine hK.out _ _ (fun _ _ => HS.out _ hB3) ?_
     clear hK K hc3
     try dsimp only
     refine wfr 5 (v := ?_) rfl ?_ ?_
     rotate_left
     ·intro w' hw';go_simp;try with_reducible rfl
     try simp only [Act.put, sq]
     refine wfr 6 (v := ?_) rfl ?_ ?_
     rotate_left
     ·intro w' hw';go_simp;try with_reducible rfl
     try simp only [Act.put, sq]
     refine wfr 7 (v := ?_) rfl ?_ ?_
     rotate_left
     ·intro w' hw';go_simp;try with_reducible rfl
     try simp only [Act.put, sq]
     refine won 8 rfl fun K hK => ?_
     go_simp
     have hA4 := hB3.alloc hB3.size (.cells #[.slice none 0 0, .slice none 0 0, .slice none 0 0] 25)
     have HG := Lib.hid (Blk.new wb3 25 [.slice none 0 0, .slice none 0 0, .slice none 0 0])
     replace HVa := Lib.hid (HVa.out.below ((Below.refl _ _).alloc (Nat.le_refl _) (.cells #[.slice none 0 0, .slice none 0 0, .slice none 0 0] 25)))
     replace HUa := Lib.hid (HUa.out.below ((Below.refl _ _).alloc (Nat.le_refl _) (.cells #[.slice none 0 0, .slice none 0 0, .slice none 0 0] 25)))
     replace HVe := Lib.hid (HVe.out.below ((Below.refl _ _).alloc (Nat.le_refl _) (.cells #[.slice none 0 0, .slice none 0 0, .slice none 0 0] 25)))
     refine hK.out _ _ (fun _ _ => HS.out _ hA4) ?_
     clear hK K
     try simp only [Act.put, sq]
     obtain ⟨wa4, hwa4⟩ : ∃ q, wb3.alloc (.cells #[.slice none 0 0, .slice none 0 0, .slice none 0 0] 25) = q := ⟨_, rfl⟩
     obtain ⟨gb4, hgb4⟩ : ∃ q, wb3.heap.size = q := ⟨_, rfl⟩
     have hlt4 : WZ.heap.size ≤ gb4 := by rw [← hgb4]; exact hB3.size
     rw [hwa4] at hA4
     try rw [hwa4] at HVa
     try rw [hwa4] at HUa
     try rw [hwa4] at HVe
     try rw [hwa4] at HG
     try simp only [hwa4]
     try rw [hgb4] at HVa
     try rw [hgb4] at HUa
     try rw [hgb4] at HVe
     try rw [hgb4] at HG
     try simp only [hgb4]
     clear hwa4
     have hsz4 : gb4 < wa4.heap.size := by have := hA4.size; first | exact HG.out.lt | (have hh := HG.out.lt gb4 rfl; exact hh.2)
     clear hgb4
     refine won 9 rfl fun K hK => ?_
     have r0' := HG.out.cell 0 rfl
     have r1' := HG.out.cell 1 rfl
     have r2' := HG.out.cell 2 rfl
     have f0' := HG.out.frozen 0
     have f1' := HG.out.frozen 1
     have f2' := HG.out.frozen 2
     have fl' := HG.out.lt
     go_simp
     refine hK.out _ _ (fun h => absurd h (by decide)) ?_
     clear hK K r0' r1' r2' f0' f1' f2' fl'
     try simp only [Act.put, sq]
     refine won 10 rfl fun K hK => ?_
     go_simp
     refine hK.out _ _ (fun _ h => h) ?_
     clear hK K
     try simp only [Act.put, sq]
     refine wpAnyM_done (by kernel_rfl) ?_ _
     try simp only [Act.put, sq]
     obtain ⟨g1, g2⟩ := hist_stored HG.out (by intro x hx; simp at hx; subst hx; exact ⟨_, _, _, rfl⟩) HVe.out
     go_wp2_with fail
     go_meet
     exact ⟨_, _, _, _, _, _, _, rfl, rfl, g1, g2, hlt4, ((hA4.setCell hlt4 _).setCell hlt4 _).setCell hlt4 _⟩
    ·go_simp
     have hA3 := hB2.alloc hB2.size (.cells #[.slice none 0 0, .slice none 0 0, .slice none 0 0] 25)
     have HG := Lib.hid (Blk.new wb2 25 [.slice none 0 0, .slice none 0 0, .slice none 0 0])
     replace HVa := Lib.hid (HVa.out.below ((Below.refl _ _).alloc (Nat.le_refl _) (.cells #[.slice none 0 0, .slice none 0 0, .slice none 0 0] 25)))
     replace HUa := Lib.hid (HUa.out.below ((Below.refl _ _).alloc (Nat.le_refl _) (.cells #[.slice none 0 0, .slice none 0 0, .slice none 0 0] 25)))
     refine hK.out _ _ (fun _ _ => HS.out _ hA3) ?_
     clear hK K
     try simp only [Act.put, sq]
     obtain ⟨wa3, hwa3⟩ : ∃ q, wb2.alloc (.cells #[.slice none 0 0, .slice none 0 0, .slice none 0 0] 25) = q := ⟨_, rfl⟩
     obtain ⟨gb3, hgb3⟩ : ∃ q, wb2.heap.size = q := ⟨_, rfl⟩
     have hlt3 : WZ.heap.size ≤ gb3 := by rw [← hgb3]; exact hB2.size
     rw [hwa3] at hA3
     try rw [hwa3] at HVa
     try rw [hwa3] at HUa
     try rw [hwa3] at HG
     try simp only [hwa3]
     try rw [hgb3] at HVa
     try rw [hgb3] at HUa
     try rw [hgb3] at HG
     try simp only [hgb3]
     clear hwa3
     have hsz3 : gb3 < wa3.heap.size := by have := hA3.size; first | exact HG.out.lt | (have hh := HG.out.lt gb3 rfl; exact hh.2)
     clear hgb3
     refine won 4 rfl fun K hK => ?_
     go_simp
     refine (HMk.out _ _ _ hA3 HVa.out HUa.out).mono ?_
     rintro e wb4 ⟨v4, rfl, hv4, hc4⟩
     obtain ⟨a0, n0, a1, n1, a2, n2, rfl⟩ := histV_form hv4
     have HVe := Lib.hid hv4
     clear hv4
     have hB4 := below_next hA3 hc4
     replace HVa := Lib.hid (HVa.out.below hc4)
     replace HUa := Lib.hid (HUa.out.below hc4)
     replace HG := Lib.hid (HG.out.later hc4)
     refine hK.out _ _ (fun _ _ => HS.out _ hB4) ?_
     clear hK K hc4
     try dsimp only
     refine won 5 rfl fun K hK => ?_
     go_simp
     refine hK.out _ _ (fun _ h => h) ?_
     clear hK K
     try simp only [Act.put, sq]
     refine wfr 6 (v := ?_) rfl ?_ ?_
     rotate_left
     ·intro w' hw';go_simp;try with_reducible rfl
     try simp only [Act.put, sq]
     refine wfr 7 (v := ?_) rfl ?_ ?_
     rotate_left
     ·intro w' hw';go_simp;try with_reducible rfl
     try simp only [Act.put, sq]
     refine won 9 rfl fun K hK => ?_
     have r0' := HG.out.cell 0 rfl
     have r1' := HG.out.cell 1 rfl
     have r2' := HG.out.cell 2 rfl
     have f0' := HG.out.frozen 0
     have f1' := HG.out.frozen 1
     have f2' := HG.out.frozen 2
     have fl' := HG.out.lt
     go_simp
     refine hK.out _ _ (fun h => absurd h (by decide)) ?_
     clear hK K r0' r1' r2' f0' f1' f2' fl'
     try simp only [Act.put, sq]
     refine won 10 rfl fun K hK => ?_
     go_simp
     refine hK.out _ _ (fun _ h => h) ?_
     clear hK K
     try simp only [Act.put, sq]
     refine wpAnyM_done (by kernel_rfl) ?_ _
     try simp only [Act.put, sq]
     obtain ⟨g1, g2⟩ := hist_stored HG.out (by intro x hx; simp at hx; subst hx; exact ⟨_, _, _, rfl⟩) HVe.out
     go_wp2_with fail
     go_meet
     exact ⟨_, _, _, _, _, _, _, rfl, rfl, g1, g2, hlt3, ((hB4.setCell hlt3 _).setCell hlt3 _).setCell hlt3 _⟩
   ·go_simp
    have hA2 := hB1.alloc hB1.size (.cells #[.slice none 0 0, .slice none 0 0, .slice none 0 0] 25)
    have HG := Lib.hid (Blk.new wb1 25 [.slice none 0 0, .slice none 0 0, .slice none 0 0])
    replace HVa := Lib.hid (HVa.out.below ((Below.refl _ _).alloc (Nat.le_refl _) (.cells #[.slice none 0 0, .slice none 0 0, .slice none 0 0] 25)))
    refine hK.out _ _ (fun _ _ => HS.out _ hA2) ?_
    clear hK K
    try simp only [Act.put, sq]
    obtain ⟨wa2, hwa2⟩ : ∃ q, wb1.alloc (.cells #[.slice none 0 0, .slice none 0 0, .slice none 0 0] 25) = q := ⟨_, rfl⟩
    obtain ⟨gb2, hgb2⟩ : ∃ q, wb1.heap.size = q := ⟨_, rfl⟩
    have hlt2 : WZ.heap.size ≤ gb2 := by rw [← hgb2]; exact hB1.size
    rw [hwa2] at hA2
    try rw [hwa2] at HVa
    try rw [hwa2] at HG
    try simp only [hwa2]
    try rw [hgb2] at HVa
    try rw [hgb2] at HG
    try simp only [hgb2]
    clear hwa2
    have hsz2 : gb2 < wa2.heap.size := by have := hA2.size; first | exact HG.out.lt | (have hh := HG.out.lt gb2 rfl; exact hh.2)
    clear hgb2
    refine won 3 rfl fun K hK => ?_
    go_simp
    refine (HWF.out _ _ (HWb.out _ hA2)).mono ?_
    rintro e wb3 ⟨ua3, rfl, ⟨hua3, -⟩, hc3⟩
    have HUa := Lib.hid hua3
    clear hua3
    have hB3 := below_next hA2 hc3
    replace HVa := Lib.hid (HVa.out.below hc3)
    replace HG := Lib.hid (HG.out.later hc3)
    refine hK.out _ _ (fun _ _ => HS.out _ hB3) ?_
    clear hK K hc3
    try simp only [Act.put, sq]
    refine won 4 rfl fun K hK => ?_
    go_simp
    refine (HMk.out _ _ _ hB3 HVa.out HUa.out).mono ?_
    rintro e wb4 ⟨v4, rfl, hv4, hc4⟩
    obtain ⟨a0, n0, a1, n1, a2, n2, rfl⟩ := histV_form hv4
    have HVe := Lib.hid hv4
    clear hv4
    have hB4 := below_next hB3 hc4
    replace HVa := Lib.hid (HVa.out.below hc4)
    replace HG := Lib.hid (HG.out.later hc4)
    replace HUa := Lib.hid (HUa.out.below hc4)
    refine hK.out _ _ (fun _ _ => HS.out _ hB4) ?_
    clear hK K hc4
    try dsimp only
    refine won 5 rfl fun K hK => ?_
    go_simp
    refine hK.out _ _ (fun _ h => h) ?_
    clear hK K
    try simp only [Act.put, sq]
    refine wfr 6 (v := ?_) rfl ?_ ?_
    rotate_left
    ·intro w' hw';go_simp;try with_reducible rfl
    try simp only [Act.put, sq]
    refine wfr 7 (v := ?_) rfl ?_ ?_
    rotate_left
    ·intro w' hw';go_simp;try with_reducible rfl
    try simp only [Act.put, sq]
    refine won 9 rfl fun K hK => ?_
    have r0' := HG.out.cell 0 rfl
    have r1' := HG.out.cell 1 rfl
    have r2' := HG.out.cell 2 rfl
    have f0' := HG.out.frozen 0
    have f1' := HG.out.frozen 1
    have f2' := HG.out.frozen 2
    have fl' := HG.out.lt
    go_simp
    refine hK.out _ _ (fun h => absurd h (by decide)) ?_
    clear hK K r0' r1' r2' f0' f1' f2' fl'
    try simp only [Act.put, sq]
    refine won 10 rfl fun K hK => ?_
    go_simp
    refine hK.out _ _ (fun _ h => h) ?_
    clear hK K
    try simp only [Act.put, sq]
    refine wpAnyM_done (by kernel_rfl) ?_ _
    try simp only [Act.put, sq]
    obtain ⟨g1, g2⟩ := hist_stored HG.out (by intro x hx; simp at hx; subst hx; exact ⟨_, _, _, rfl⟩) HVe.out
    go_wp2_with fail
    go_meet
    exact ⟨_, _, _, _, _, _, _, rfl, rfl, g1, g2, hlt2, ((hB4.setCell hlt2 _).setCell hlt2 _).setCell hlt2 _⟩
  ·go_simp
   have hA1 := hB0.alloc hB0.size (.cells #[.slice none 0 0, .slice none 0 0, .slice none 0 0] 25)
   have HG := Lib.hid (Blk.new wd 25 [.slice none 0 0, .slice none 0 0, .slice none 0 0])
   refine hK.out _ _ (fun _ _ => HS.out _ hA1) ?_
   clear hK K
   try simp only [Act.put, sq]
   obtain ⟨wa1, hwa1⟩ : ∃ q, wd.alloc (.cells #[.slice none 0 0, .slice none 0 0, .slice none 0 0] 25) = q := ⟨_, rfl⟩
   obtain ⟨gb1, hgb1⟩ : ∃ q, wd.heap.size = q := ⟨_, rfl⟩
   have hlt1 : WZ.heap.size ≤ gb1 := by rw [← hgb1]; exact hB0.size
   rw [hwa1] at hA1
   try rw [hwa1] at HG
   try simp only [hwa1]
   try rw [hgb1] at HG
   try simp only [hgb1]
   clear hwa1
   have hsz1 : gb1 < wa1.heap.size := by have := hA1.size; first | exact HG.out.lt | (have hh := HG.out.lt gb1 rfl; exact hh.2)
   clear hgb1
   refine won 1 rfl fun K hK => ?_
   go_simp
   refine (HFF.out _ _ (HAb.out _ hA1)).mono ?_
   rintro e wb2 ⟨va2, rfl, hva2, -, hc2⟩
   have HVa := Lib.hid hva2
   clear hva2
   have hB2 := below_next hA1 hc2
   replace HG := Lib.hid (HG.out.later hc2)
   refine hK.out _ _ (fun _ _ => HS.out _ hB2) ?_
   clear hK K hc2
   try simp only [Act.put, sq]
   refine won 3 rfl fun K hK => ?_
   go_simp
   refine (HWF.out _ _ (HWb.out _ hB2)).mono ?_
   rintro e wb3 ⟨ua3, rfl, ⟨hua3, -⟩, hc3⟩
   have HUa := Lib.hid hua3
   clear hua3
   have hB3 := below_next hB2 hc3
   replace HG := Lib.hid (HG.out.later hc3)
   replace HVa := Lib.hid (HVa.out.below hc3)
   refine hK.out _ _ (fun _ _ => HS.out _ hB3) ?_
   clear hK K hc3
   try simp only [Act.put, sq]
   refine won 4 rfl fun K hK => ?_
   go_simp
   refine (HMk.out _ _ _ hB3 HVa.out HUa.out).mono ?_
   rintro e wb4 ⟨v4, rfl, hv4, hc4⟩
   obtain ⟨a0, n0, a1, n1, a2, n2, rfl⟩ := histV_form hv4
   have HVe := Lib.hid hv4
   clear hv4
   have hB4 := below_next hB3 hc4
   replace HG := Lib.hid (HG.out.later hc4)
   replace HVa := Lib.hid (HVa.out.below hc4)
   replace HUa := Lib.hid (HUa.out.below hc4)
   refine hK.out _ _ (fun _ _ => HS.out _ hB4) ?_
   clear hK K hc4
   try dsimp only
   refine won 5 rfl fun K hK => ?_
   go_simp
   refine hK.out _ _ (fun _ h => h) ?_
   clear hK K
   try simp only [Act.put, sq]
   refine wfr 6 (v := ?_) rfl ?_ ?_
   rotate_left
   ·intro w' hw';go_simp;try with_reducible rfl
   try simp only [Act.put, sq]
   refine wfr 7 (v := ?_) rfl ?_ ?_
   rotate_left
   ·intro w' hw';go_simp;try with_reducible rfl
   try simp only [Act.put, sq]
   refine won 9 rfl fun K hK => ?_
   have r0' := HG.out.cell 0 rfl
   have r1' := HG.out.cell 1 rfl
   have r2' := HG.out.cell 2 rfl
   have f0' := HG.out.frozen 0
   have f1' := HG.out.frozen 1
   have f2' := HG.out.frozen 2
   have fl' := HG.out.lt
   go_simp
   refine hK.out _ _ (fun h => absurd h (by decide)) ?_
   clear hK K r0' r1' r2' f0' f1' f2' fl'
   try simp only [Act.put, sq]
   refine won 10 rfl fun K hK => ?_
   go_simp
   refine hK.out _ _ (fun _ h => h) ?_
   clear hK K
   try simp only [Act.put, sq]
   refine wpAnyM_done (by kernel_rfl) ?_ _
   try simp only [Act.put, sq]
   obtain ⟨g1, g2⟩ := hist_stored HG.out (by intro x hx; simp at hx; subst hx; exact ⟨_, _, _, rfl⟩) HVe.out
   go_wp2_with fail
   go_meet
   exact ⟨_, _, _, _, _, _, _, rfl, rfl, g1, g2, hlt1, ((hB4.setCell hlt1 _).setCell hlt1 _).setCell hlt1 _⟩
 case rest =>
  obtain ⟨G, a0, n0, a1, n1, a2, n2, rfl, rfl, hge, hve, hG, hbx⟩ := hcut
  obtain ⟨WC, rfl⟩ : ∃ q, q = wc := ⟨_, rfl⟩
  have HBx := Lib.hid hbx
  have HGe := Lib.hid hge
  have HVe := Lib.hid hve
  have hgl : G < WC.heap.size := hge.lt
  have hwl : w.heap.size < WC.heap.size := (KB.out.later hbx).lt
  have x0 := (HS.out _ hbx).1
  have x1 := (HS.out _ hbx).2.1
  have x2 := (HS.out _ hbx).2.2.1
  have x4 := (HS.out _ hbx).2.2.2.1
  have x5 := (HS.out _ hbx).2.2.2.2.1
  clear hge hve hbx
  go_wp2_with fail
  refine (HRm.out _ HBx.out).mono ?_
  rintro e x3 ⟨v3, rfl, hv3, hb3⟩
  obtain ⟨b0, m0, b1, m1, b2, m2, rfl⟩ := histV_form hv3
  have hA := (below_next HBx.out hb3).alloc (below_next HBx.out hb3).size (.cells #[.slice b0 E.1.length m0, .slice b1 E.2.1.length m1, .slice b2 E.2.2.length m2] 25)
  have HGe4 := Lib.hid ((HGe.out.later hb3).alloc (.cells #[.slice b0 E.1.length m0, .slice b1 E.2.1.length m1, .slice b2 E.2.2.length m2] 25))
  have HVe4 := Lib.hid ((HVe.out.below hb3).below ((Below.refl _ _).alloc (Nat.le_refl _) (.cells #[.slice b0 E.1.length m0, .slice b1 E.2.1.length m1, .slice b2 E.2.2.length m2] 25)))
  have HGf4 := Lib.hid (Blk.new x3 25 [.slice b0 E.1.length m0, .slice b1 E.2.1.length m1, .slice b2 E.2.2.length m2])
  have HVf4 := Lib.hid (hv3.below ((Below.refl _ _).alloc (Nat.le_refl _) (.cells #[.slice b0 E.1.length m0, .slice b1 E.2.1.length m1, .slice b2 E.2.2.length m2] 25)))
  have HAf := Lib.hid hA
  clear hA hv3 hb3 x0 x1 x2 x4 x5 HGe HVe HMk HRm
  go_upto_region 4 with fail
  obtain ⟨WY, hWY⟩ : ∃ q, x3.alloc (.cells #[.slice b0 E.1.length m0, .slice b1 E.2.1.length m1, .slice b2 E.2.2.length m2] 25) = q := ⟨_, rfl⟩
  rw [hWY] at HGe4 HVe4 HGf4 HVf4 HAf ⊢
  clear hWY
  have HKY := Lib.hid (KB.out.later HAf.out)
  replace HAb := Lib.hid (fun w' (hb : Below WY.heap.size WY w') => HAb.out w' (below_next HAf.out hb))
  replace HVb := Lib.hid (fun w' (hb : Below WY.heap.size WY w') => HVb.out w' (below_next HAf.out hb))
  replace HTb := Lib.hid (fun w' (hb : Below WY.heap.size WY w') => HTb.out w' (below_next HAf.out hb))
  replace HFin := Lib.hid (fun w' (hb : Below WY.heap.size WY w') => HFin.out w' (below_next HAf.out hb))
  replace HMb := Lib.hid (fun w' (hb : Below WY.heap.size WY w') => HMb.out w' (below_next HAf.out hb))
  replace HEb := Lib.hid (fun w' (hb : Below WY.heap.size WY w') => HEb.out w' (below_next HAf.out hb))
  have HSm : RowKit.Hid (∀ w', Below WY.heap.size WY w' → Calls Tryz.prog 18 #[.agg #[.slice a0 E.1.length n0, .slice a1 E.2.1.length n1, .slice a2 E.2.2.length n2], .agg #[.slice b0 E.1.length m0, .slice b1 E.2.1.length m1, .slice b2 E.2.2.length m2]] w' fun e w'' => e = .returned (.bool true) ∧ Below w'.heap.size w' w'') := Lib.hid (fun w' hb => by
   obtain ⟨s0, s1, s2⟩ := histV_parts (HVe4.out.below hb)
   obtain ⟨t0, t1, t2⟩ := histV_parts (HVf4.out.below hb)
   have h9 := rsame10_any _ _ _ _ _ _ E E _ s0 s1 s2 HME.out t0 t1 t2 HME.out
   rw [eqH_refl] at h9
   exact h9)
  clear HS
  have HS : RowKit.Hid (∀ w', Below WY.heap.size WY w' → w'.cell? ⟨G, 0, none⟩ = some (.slice a0 E.1.length n0) ∧ w'.cell? ⟨G, 1, none⟩ = some (.slice a1 E.2.1.length n1) ∧ w'.cell? ⟨G, 2, none⟩ = some (.slice a2 E.2.2.length n2) ∧ w'.cell? ⟨x3.heap.size, 0, none⟩ = some (.slice b0 E.1.length m0) ∧ w'.cell? ⟨x3.heap.size, 1, none⟩ = some (.slice b1 E.2.1.length m1) ∧ w'.cell? ⟨x3.heap.size, 2, none⟩ = some (.slice b2 E.2.2.length m2) ∧ w'.cell? ⟨w.heap.size, 0, none⟩ = some (.slice q0 hF.1.length d0) ∧ w'.cell? ⟨w.heap.size, 1, none⟩ = some (.slice q1 hF.2.1.length d1) ∧ w'.cell? ⟨w.heap.size, 2, none⟩ = some (.slice q2 hF.2.2.length d2) ∧ Below WY.heap.size WY w') := Lib.hid (fun w' hb => ⟨(HGe4.out.later hb).cell 0 rfl, (HGe4.out.later hb).cell 1 rfl, (HGe4.out.later hb).cell 2 rfl, (HGf4.out.later hb).cell 0 rfl, (HGf4.out.later hb).cell 1 rfl, (HGf4.out.later hb).cell 2 rfl, (HKY.out.later hb).cell 0 rfl, (HKY.out.later hb).cell 1 rfl, (HKY.out.later hb).cell 2 rfl, hb⟩)
  refine wp_region_keep (fun w' => w'.cell? ⟨G, 0, none⟩ = some (.slice a0 E.1.length n0) ∧ w'.cell? ⟨G, 1, none⟩ = some (.slice a1 E.2.1.length n1) ∧ w'.cell? ⟨G, 2, none⟩ = some (.slice a2 E.2.2.length n2) ∧ w'.cell? ⟨x3.heap.size, 0, none⟩ = some (.slice b0 E.1.length m0) ∧ w'.cell? ⟨x3.heap.size, 1, none⟩ = some (.slice b1 E.2.1.length m1) ∧ w'.cell? ⟨x3.heap.size, 2, none⟩ = some (.slice b2 E.2.2.length m2) ∧ w'.cell? ⟨w.heap.size, 0, none⟩ = some (.slice q0 hF.1.length d0) ∧ w'.cell? ⟨w.heap.size, 1, none⟩ = some (.slice q1 hF.2.1.length d1) ∧ w'.cell? ⟨w.heap.size, 2, none⟩ = some (.slice q2 hF.2.2.length d2) ∧ Below WY.heap.size WY w') [] (by kernel_rfl) ?_
  have hB0 : Below (WY).heap.size (WY) (WY).drew := Below.drew (Below.refl _ _)
  have hS0 := HS.out _ hB0
  refine wtk 0 20 (v := ?_) rfl ?_ hS0 ?_
  rotate_left
  ·intro w' hw';(try dsimp only at hw');go_simp;try with_reducible rfl
  try simp only [Act.put, sq]
  refine won 1 rfl fun K hK => ?_
  go_simp
  refine hK.out _ _ (fun _ h => h) ?_
  clear hK K
  try simp only [Act.put, sq]
  refine won 2 rfl fun K hK => ?_
  go_simp
  refine (HSm.out _ hB0).mono ?_
  rintro e w1 ⟨rfl, hb1⟩
  have hB1 := below_next hB0 hb1
  have hS1 := HS.out _ hB1
  refine hK.out _ _ (fun _ _ => hS1) ?_
  clear hK K hS0
  try simp only [Act.put, sq]
  refine won 3 rfl fun K hK => ?_
  go_simp
  refine hK.out _ _ (fun _ h => h) ?_
  clear hK K
  try simp only [Act.put, sq]
  refine wfr 4 (v := ?_) rfl ?_ ?_
  rotate_left
  ·intro w' hw';go_simp;try with_reducible rfl
  try simp only [Act.put, sq]
  refine won 5 rfl fun K hK => ?_
  go_simp
  refine hK.out _ _ (fun _ h => h) ?_
  clear hK K
  try simp only [Act.put, sq]
  refine won 6 rfl fun K hK => ?_
  go_simp
  refine hK.out _ _ (fun _ h => h) ?_
  clear hK K
  try simp only [Act.put, sq]
  refine won 7 rfl fun K hK => ?_
  go_simp
  refine hK.out _ _ (fun _ h => h) ?_
  clear hK K
  try simp only [Act.put, sq]
  refine won 8 rfl fun K hK => ?_
  go_simp
  refine hK.out _ _ (fun _ h => h) ?_
  clear hK K
  try simp only [Act.put, sq]
  refine wtk 9 20 (v := ?_) rfl ?_ hS1 ?_
  rotate_left
  ·intro w' hw';(try dsimp only at hw');go_simp;try with_reducible rfl
  try simp only [Act.put, sq]
  refine wtk 12 20 (v := ?_) rfl ?_ hS1 ?_
  rotate_left
  ·intro w' hw';(try dsimp only at hw');go_simp;try with_reducible rfl
  try simp only [Act.put, sq]
  refine won 10 rfl fun K hK => ?_
  go_simp
  refine (HFF.out _ _ (HAb.out _ hB1)).mono ?_
  rintro e w2 ⟨va, rfl, hva, -, hb2⟩
  have hB2 := below_next hB1 hb2
  have hS2 := HS.out _ hB2
  refine hK.out _ _ (fun _ _ => hS2) ?_
  clear hK K hS1
  try simp only [Act.put, sq]
  refine won 11 rfl fun K hK => ?_
  go_simp
  refine (wis_any hva HMo.out (HTb.out _ hB2)).mono ?_
  rintro e w3 ⟨rfl, hb3⟩
  have hB3 := below_next hB2 hb3
  have hS3 := HS.out _ hB3
  clear hva
  refine hK.out _ _ (fun _ _ => hS3) ?_
  clear hK K hS2
  try simp only [Act.put, sq]
  refine won 13 rfl fun K hK => ?_
  go_simp
  refine (rwis_any (HVb.out _ hB3) HMo.out).mono ?_
  rintro e w4 ⟨rfl, hb4⟩
  have hB4 := below_next hB3 hb4
  have hS4 := HS.out _ hB4
  refine hK.out _ _ (fun _ _ => hS4) ?_
  clear hK K hS3
  try simp only [Act.put, sq]
  refine won 14 rfl fun K hK => ?_
  go_simp
  refine hK.out _ _ (fun _ h => h) ?_
  clear hK K
  try simp only [Act.put, sq]
  refine won 15 rfl fun K hK => ?_
  go_simp
  refine hK.out _ _ (fun _ h => h) ?_
  clear hK K
  try simp only [Act.put, sq]
  refine won 16 rfl fun K hK => ?_
  go_simp
  refine hK.out _ _ (fun _ h => h) ?_
  clear hK K
  try simp only [Act.put, sq]
  refine won 17 rfl fun K hK => ?_
  go_simp
  refine (works17_any _ (HTb.out _ hB4) (HMb.out _ hB4) (HEb.out _ hB4)).mono ?_
  rintro e w5 ⟨rfl, hb5⟩
  have hB5 := below_next hB4 hb5
  have hS5 := HS.out _ hB5
  refine hK.out _ _ (fun _ _ => hS5) ?_
  clear hK K hS4
  try simp only [Act.put, sq]
  refine won 18 rfl fun K hK => ?_
  go_simp
  refine hK.out _ _ (fun _ h => h) ?_
  clear hK K
  try simp only [Act.put, sq]
  refine won 19 rfl fun K hK => ?_
  go_simp
  refine hK.out _ _ (fun _ h => h) ?_
  clear hK K
  try simp only [Act.put, sq]
  refine wpAnyM_done (by kernel_rfl) ?_ _
  try simp only [Act.put, sq]
  go_wp2_with fail
  go_ret
  exact ⟨rfl, HFin.out _ hB5⟩
end Go.Proofs.YtmgchjddpmmglaaGreatDoor
