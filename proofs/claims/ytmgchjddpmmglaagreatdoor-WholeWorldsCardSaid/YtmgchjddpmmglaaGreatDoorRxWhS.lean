/-
  Layer 17 (whole): the statement WholeWorlds, walked. Conditions: unicode/utf8's two tables and event.words hold what their initialisers lay, internal/bytealg.MaxLen holds a number.
-/
import Derived.Test.YtmgchjddpmmglaaGreatDoorRxWhF
import Derived.Test.YtmgchjddpmmglaaGreatDoorRxWhJ
import Derived.Test.YtmgchjddpmmglaaGreatDoorRxWhK
import Derived.Test.YtmgchjddpmmglaaGreatDoorRxWhN
import Derived.Test.YtmgchjddpmmglaaGreatDoorRxWhO
namespace Go.Proofs.YtmgchjddpmmglaaGreatDoor
open Go.RowKit Go.Lib
theorem world_stored {w : World} {B : Nat} {x0 x1 : Value} {m : WorldM} {p0 p1 : Option Addr} {n0 n1 c0 c1 : Nat} (hB : Blk w B 64 [x0, x1]) (hx : ∀ x ∈ [x0, x1], ∃ p n c, x = Value.slice p n c) (hv : WorldV w (.agg #[.slice p0 n0 c0, .slice p1 n1 c1]) m) :
  Blk ((w.setCell ⟨B, 0, none⟩ (.slice p0 n0 c0)).setCell ⟨B, 1, none⟩ (.slice p1 n1 c1)) B 64 [.slice p0 n0 c0, .slice p1 n1 c1] ∧ WorldV ((w.setCell ⟨B, 0, none⟩ (.slice p0 n0 c0)).setCell ⟨B, 1, none⟩ (.slice p1 n1 c1)) (.agg #[.slice p0 n0 c0, .slice p1 n1 c1]) m := by
 have s0 : SlBox w B 64 [x0, x1] := ⟨hB, hx⟩
 have s1 := s0.set 0 p0 n0 c0
 have s2 := s1.set 1 p1 n1 c1
 exact ⟨s2.1, worldV_box s1 1 _ (worldV_box s0 0 _ hv)⟩
theorem ints_made (w : World) : IntsS (w.alloc (.cells #[] 3)) (.slice (some ⟨w.heap.size, 0, none⟩) 0 0) [] := ⟨_, 0, rfl, fun j hj => absurd hj (Nat.not_lt_zero j)⟩
theorem committed_len {h : HistM} (hm : Modst h) : (committedP h).length ≤ 1000 := by
 unfold committedP
 split
 ·exact Nat.le_trans (committedI_len _ _) hm.2.2.1
 ·exact Nat.zero_le _
theorem worldP_len (h g : HistM) (hm : Modst h) : (worldP h g).1.1.length ≤ 1000000 ∧ (worldP h g).1.2.length ≤ 1000000 := by
 unfold worldP
 split
 ·exact ⟨Nat.le_trans (fates_bound _ _ hm.2.2.1) (by omega), vals_bound _ _ hm.2.2.1 hm.2.2.2.2.2⟩
 ·exact ⟨Nat.zero_le _, Nat.zero_le _⟩
set_option maxRecDepth 100000 in
set_option maxHeartbeats 4000000 in
theorem wholeworlds_any (v u : Value) (hM gM : HistM) (w : World) (hv : HistA w v hM) (hu : HistA w u gM) (hT : Lib.Utf8Tabs 1 2 w) (hm : HasMax w) (hE : EvTab w) :
  Calls Tryz.prog 11 #[v, u] w fun e w' => e = .returned (.bool true) ∧ Below w.heap.size w w' := by
 have HA0 := Lib.hid hv
 have HG0 := Lib.hid hu
 obtain ⟨v0, v1, v2, rfl, ⟨p0, c0, rfl, -⟩, ⟨p1, c1, rfl, -⟩, ⟨p2, c2, rfl, -⟩⟩ := hv
 obtain ⟨u0, u1, u2, rfl, ⟨o0, b0, rfl, -⟩, ⟨o1, b1, rfl, -⟩, ⟨o2, b2, rfl, -⟩⟩ := hu
 have hal := ((Below.refl w.heap.size w).alloc (Nat.le_refl _) (.cells #[.slice p0 hM.1.length c0, .slice p1 hM.2.1.length c1, .slice p2 hM.2.2.length c2] 25)).alloc (by simp) (.cells #[.slice o0 gM.1.length b0, .slice o1 gM.2.1.length b1, .slice o2 gM.2.2.length b2] 25)
 have hbx := (Blk.new w 25 [.slice p0 hM.1.length c0, .slice p1 hM.2.1.length c1, .slice p2 hM.2.2.length c2]).alloc (.cells #[.slice o0 gM.1.length b0, .slice o1 gM.2.1.length b1, .slice o2 gM.2.2.length b2] 25)
 have hbu := Blk.new (w.alloc (.cells #[.slice p0 hM.1.length c0, .slice p1 hM.2.1.length c1, .slice p2 hM.2.2.length c2] 25)) 25 [.slice o0 gM.1.length b0, .slice o1 gM.2.1.length b1, .slice o2 gM.2.2.length b2]
 simp only [World.size_alloc] at hbu
 have HAL := Lib.hid hal
 have HBX := Lib.hid hbx
 have HBU := Lib.hid hbu
 have HT := Lib.hid hT
 have HMx := Lib.hid hm
 have HEt := Lib.hid hE
 clear hal hbx hbu hT hm hE
 go_enter Tryz.func11, Tryz.ntmps11
 go_upto_region 1 with fail
 obtain ⟨W1, hW1⟩ : ∃ q, (w.alloc (.cells #[.slice p0 hM.1.length c0, .slice p1 hM.2.1.length c1, .slice p2 hM.2.2.length c2] 25)).alloc (.cells #[.slice o0 gM.1.length b0, .slice o1 gM.2.1.length b1, .slice o2 gM.2.2.length b2] 25) = q := ⟨_, rfl⟩
 rw [hW1] at HAL HBX HBU ⊢
 clear hW1
 have HFw := Lib.hid (fun w' (hb : Below W1.heap.size W1 w') => few11_any w' _ hM (HA0.out.below (below_next HAL.out hb)))
 have HGw := Lib.hid (fun w' (hb : Below W1.heap.size W1 w') => few11_any w' _ gM (HG0.out.below (below_next HAL.out hb)))
 have HS : RowKit.Hid (∀ w', Below W1.heap.size W1 w' → w'.cell? ⟨w.heap.size, 0, none⟩ = some (.slice p0 hM.1.length c0) ∧ w'.cell? ⟨w.heap.size, 1, none⟩ = some (.slice p1 hM.2.1.length c1) ∧ w'.cell? ⟨w.heap.size, 2, none⟩ = some (.slice p2 hM.2.2.length c2) ∧ w'.cell? ⟨w.heap.size + 1, 0, none⟩ = some (.slice o0 gM.1.length b0) ∧ w'.cell? ⟨w.heap.size + 1, 1, none⟩ = some (.slice o1 gM.2.1.length b1) ∧ w'.cell? ⟨w.heap.size + 1, 2, none⟩ = some (.slice o2 gM.2.2.length b2) ∧ Below W1.heap.size W1 w') := Lib.hid (fun w' hb => ⟨(HBX.out.later hb).cell 0 rfl, (HBX.out.later hb).cell 1 rfl, (HBX.out.later hb).cell 2 rfl, (HBU.out.later hb).cell 0 rfl, (HBU.out.later hb).cell 1 rfl, (HBU.out.later hb).cell 2 rfl, hb⟩)
 refine wpk HS [4, 5] (by kernel_rfl) fun hB0 hS0 => ?_
 refine wtk 0 6 (v := ?_) rfl ?_ hS0 ?_
 rotate_left
 ·intro w' hw';(try dsimp only at hw');go_simp;try with_reducible rfl
 try simp only [Act.put, sq]
 refine wtk 2 6 (v := ?_) rfl ?_ hS0 ?_
 rotate_left
 ·intro w' hw';(try dsimp only at hw');go_simp;try with_reducible rfl
 try simp only [Act.put, sq]
 refine won 1 rfl fun K hK => ?_
 go_simp
 refine (HFw.out _ hB0).mono ?_
 rintro e w1 ⟨v', rfl, hv', ha', hb1⟩
 have hB1 := below_next hB0 hb1
 have hS1 := HS.out _ hB1
 have HV1 := Lib.hid hv'
 have HA1 := Lib.hid ha'
 obtain ⟨f0, f1, f2, rfl, ⟨q0, d0, rfl, -⟩, ⟨q1, d1, rfl, -⟩, ⟨q2, d2, rfl, -⟩⟩ := hv'
 clear ha'
 refine hK.out _ _ (fun _ _ => hS1) ?_
 clear hK K hS0
 try simp only [Act.put, sq]
 refine won 3 rfl fun K hK => ?_
 go_simp
 refine (HGw.out _ hB1).mono ?_
 rintro e w2 ⟨u', rfl, hu', hua, hb2⟩
 have hB2 := below_next hB1 hb2
 have hS2 := HS.out _ hB2
 have HGV := Lib.hid hu'
 have HGA := Lib.hid hua
 obtain ⟨f0, f1, f2, rfl, ⟨r0, e0, rfl, -⟩, ⟨r1, e1, rfl, -⟩, ⟨r2, e2, rfl, -⟩⟩ := hu'
 clear hua
 have HV2 := Lib.hid (HV1.out.below hb2)
 have HA2 := Lib.hid (HA1.out.below hb2)
 clear HV1 HA1
 refine hK.out _ _ (fun _ _ => hS2) ?_
 clear hK K hS1
 try simp only [Act.put, sq]
 have z0 := (HBX.out.later hB2).cell 0 rfl
 have fz0 := (HBX.out.later hB2).frozen 0
 have z1 := (HBX.out.later hB2).cell 1 rfl
 have fz1 := (HBX.out.later hB2).frozen 1
 have z2 := (HBX.out.later hB2).cell 2 rfl
 have fz2 := (HBX.out.later hB2).frozen 2
 have lz := (HBX.out.later hB2).lt
 refine won 4 rfl fun K hK => ?_
 go_simp
 refine hK.out _ _ (fun h => absurd h (by decide)) ?_
 clear hK K
 try simp only [Act.put, sq]
 clear z0 fz0 z1 fz1 z2 fz2 lz
 have z0 := (HBX.out.later hB2).cell 0 rfl
 have fz0 := (HBX.out.later hB2).frozen 0
 have z1 := (HBX.out.later hB2).cell 1 rfl
 have fz1 := (HBX.out.later hB2).frozen 1
 have z2 := (HBX.out.later hB2).cell 2 rfl
 have fz2 := (HBX.out.later hB2).frozen 2
 have lz := (HBX.out.later hB2).lt
 have y0 := (HBU.out.later hB2).cell 0 rfl
 have fy0 := (HBU.out.later hB2).frozen 0
 have y1 := (HBU.out.later hB2).cell 1 rfl
 have fy1 := (HBU.out.later hB2).frozen 1
 have y2 := (HBU.out.later hB2).cell 2 rfl
 have fy2 := (HBU.out.later hB2).frozen 2
 have ly := (HBU.out.later hB2).lt
 refine won 5 rfl fun K hK => ?_
 go_simp
 refine hK.out _ _ (fun h => absurd h (by decide)) ?_
 clear hK K
 try simp only [Act.put, sq]
 clear z0 fz0 z1 fz1 z2 fz2 lz
 clear y0 fy0 y1 fy1 y2 fy2 ly
 refine wpAnyM_done (by kernel_rfl) ?_ _
 try simp only [Act.put, sq]
 obtain ⟨WZ, hWZ, kb, ku, hvz, haz, gvz, gaz, hbz⟩ := hists_stored HAL.out HBX.out (by intro x hx; simp at hx; rcases hx with rfl | rfl | rfl <;> exact ⟨_, _, _, rfl⟩) HBU.out (by intro x hx; simp at hx; rcases hx with rfl | rfl | rfl <;> exact ⟨_, _, _, rfl⟩) hB2 HV2.out HA2.out HGV.out HGA.out
 rw [hWZ]
 have HFF := Lib.hid (fun w' v (ha : HistA w' v (fewH hM)) => few_v ha)
 have HGF := Lib.hid (fun w' v (ha : HistA w' v (fewH gM)) => few_v ha)
 have HMo := Lib.hid (few_modst hM)
 have HMg := Lib.hid (few_modst gM)
 have KB := Lib.hid kb
 have KU := Lib.hid ku
 have HBz := Lib.hid hbz
 have HAz := Lib.hid haz
 have HVz := Lib.hid hvz
 have GAz := Lib.hid gaz
 have GVz := Lib.hid gvz
 clear kb ku hvz haz gvz gaz hbz HS HFw HGw HV2 HA2 HGV HGA hWZ hB2 HBX HBU HAL
 generalize fewH hM = hF at *
 generalize fewH gM = gF at *
 have HAb := Lib.hid (fun w' (hb : Below WZ.heap.size WZ w') => HAz.out.below hb)
 have HGb := Lib.hid (fun w' (hb : Below WZ.heap.size WZ w') => GAz.out.below hb)
 have HVb := Lib.hid (fun w' (hb : Below WZ.heap.size WZ w') => HVz.out.below hb)
 have GVb := Lib.hid (fun w' (hb : Below WZ.heap.size WZ w') => GVz.out.below hb)
 have HFin := Lib.hid (fun w' (hb : Below WZ.heap.size WZ w') => below_next HBz.out hb)
 have HTb := Lib.hid (fun w' (hb : Below WZ.heap.size WZ w') => Utf8Tabs_below HT.out (HFin.out _ hb))
 have HMb := Lib.hid (fun w' (hb : Below WZ.heap.size WZ w') => HMx.out.below (HFin.out _ hb))
 have HEb := Lib.hid (fun w' (hb : Below WZ.heap.size WZ w') => HEt.out.below (HFin.out _ hb))
 have HWl := Lib.hid (fun w' v u (hb : Below WZ.heap.size WZ w') (hv : HistV w' v hF) (hu : HistV w' u gF) => world17_any hv hu HMo.out HMg.out (HTb.out _ hb))
 have HRl := Lib.hid (fun w' (hb : Below WZ.heap.size WZ w') => rworld17_any (HVb.out _ hb) (GVb.out _ hb) HMo.out HMg.out)
 have hLm := worldP_len hF gF HMo.out
 rw [world_one] at HWl
 obtain ⟨⟨M, is⟩, hE9⟩ : ∃ q, worldP hF gF = q := ⟨_, rfl⟩
 rw [hE9] at HWl HRl hLm
 have HLm := Lib.hid hLm
 have HLc : RowKit.Hid ((committedP gF).length ≤ 1000) := Lib.hid (committed_len HMg.out)
 clear hE9 hLm
 have HS : RowKit.Hid (∀ w', Below WZ.heap.size WZ w' → w'.cell? ⟨w.heap.size, 0, none⟩ = some (.slice q0 hF.1.length d0) ∧ w'.cell? ⟨w.heap.size, 1, none⟩ = some (.slice q1 hF.2.1.length d1) ∧ w'.cell? ⟨w.heap.size, 2, none⟩ = some (.slice q2 hF.2.2.length d2) ∧ w'.cell? ⟨w.heap.size + 1, 0, none⟩ = some (.slice r0 gF.1.length e0) ∧ w'.cell? ⟨w.heap.size + 1, 1, none⟩ = some (.slice r1 gF.2.1.length e1) ∧ w'.cell? ⟨w.heap.size + 1, 2, none⟩ = some (.slice r2 gF.2.2.length e2) ∧ Below WZ.heap.size WZ w') := Lib.hid (fun w' hb => ⟨(KB.out.later hb).cell 0 rfl, (KB.out.later hb).cell 1 rfl, (KB.out.later hb).cell 2 rfl, (KU.out.later hb).cell 0 rfl, (KU.out.later hb).cell 1 rfl, (KU.out.later hb).cell 2 rfl, hb⟩)
 go_upto_region 2 with fail
 go_cut [5, 6] (fun s5 s6 wx => ∃ G a0 n0 a1 n1, s5 = .pointer (some ⟨G, 0, none⟩) ∧ s6 = .bool is ∧ Blk wx G 64 [.slice a0 M.1.length n0, .slice a1 M.2.length n1] ∧ WorldV wx (.agg #[.slice a0 M.1.length n0, .slice a1 M.2.length n1]) M ∧ WZ.heap.size ≤ G ∧ Below WZ.heap.size WZ wx)
 case first =>
  refine wpk HS [9] (by kernel_rfl) fun hB0 _ => ?_
  obtain ⟨wd, hwd⟩ : ∃ q, (WZ).drew = q := ⟨_, rfl⟩
  rw [hwd] at hB0 ⊢
  clear hwd
  refine wtk 0 11 (v := ?_) rfl ?_ (HS.out _ hB0) ?_
  rotate_left
  ·intro w' hw';(try dsimp only at hw');go_simp;try with_reducible rfl
  try simp only [Act.put, sq]
  refine wtk 2 11 (v := ?_) rfl ?_ (HS.out _ hB0) ?_
  rotate_left
  ·intro w' hw';(try dsimp only at hw');go_simp;try with_reducible rfl
  try simp only [Act.put, sq]
  refine wpAnyM_two 1 8 rfl rfl (by kernel_rfl) (fun K hK => ?_) (fun K hK => ?_)
  ·go_simp
   refine (HFF.out _ _ (HAb.out _ hB0)).mono ?_
   rintro e wb1 ⟨va1, rfl, hva1, -, hc1⟩
   have HVa := Lib.hid hva1
   clear hva1
   have hB1 := below_next hB0 hc1
   refine hK.out _ _ (fun _ _ => HS.out _ hB1) ?_
   clear hK K hc1
   try simp only [Act.put, sq]
   refine wpAnyM_two 3 8 rfl rfl (by kernel_rfl) (fun K hK => ?_) (fun K hK => ?_)
   ·go_simp
    refine (HGF.out _ _ (HGb.out _ hB1)).mono ?_
    rintro e wb2 ⟨ua2, rfl, hua2, -, hc2⟩
    have HUa := Lib.hid hua2
    clear hua2
    have hB2 := below_next hB1 hc2
    replace HVa := Lib.hid (HVa.out.below hc2)
    refine hK.out _ _ (fun _ _ => HS.out _ hB2) ?_
    clear hK K hc2
    try simp only [Act.put, sq]
    refine wpAnyM_two 4 8 rfl rfl (by kernel_rfl) (fun K hK => ?_) (fun K hK => ?_)
    ·go_simp
     refine (HWl.out _ _ _ hB2 HVa.out HUa.out).mono ?_
     rintro e wb3 ⟨v3, rfl, hv3, hc3⟩
     obtain ⟨a0, n0, a1, n1, rfl, -⟩ := worldV_form hv3
     have HVe := Lib.hid hv3
     clear hv3
     have hB3 := below_next hB2 hc3
     replace HVa := Lib.hid (HVa.out.below hc3)
     replace HUa := Lib.hid (HUa.out.below hc3)
     refine hK.out _ _ (fun _ _ => HS.out _ hB3) ?_
     clear hK K hc3
     try dsimp only
     refine wfr 5 (v := ?_) rfl ?_ ?_
     rotate_left
     ·intro w' hw';go_simp;try with_reducible rfl
     try simp only [Act.put, sq]
     refine wfr 6 (v := ?_) rfl ?_ ?_
     rotate_left
     ·intro w' hw';go_simp;try with_reducible rfl
     try simp only [Act.put, sq]
     refine wfr 7 (v := ?_) rfl ?_ ?_
     rotate_left
     ·intro w' hw';go_simp;try with_reducible rfl
     try simp only [Act.put, sq]
     refine won 8 rfl fun K hK => ?_
     go_simp
     have hA4 := hB3.alloc hB3.size (.cells #[.slice none 0 0, .slice none 0 0] 64)
     have HG := Lib.hid (Blk.new wb3 64 [.slice none 0 0, .slice none 0 0])
     replace HVa := Lib.hid (HVa.out.below ((Below.refl _ _).alloc (Nat.le_refl _) (.cells #[.slice none 0 0, .slice none 0 0] 64)))
     replace HUa := Lib.hid (HUa.out.below ((Below.refl _ _).alloc (Nat.le_refl _) (.cells #[.slice none 0 0, .slice none 0 0] 64)))
     replace HVe := Lib.hid (HVe.out.below ((Below.refl _ _).alloc (Nat.le_refl _) (.cells #[.slice none 0 0, .slice none 0 0] 64)))
     refine hK.out _ _ (fun _ _ => HS.out _ hA4) ?_
     clear hK K
     try simp only [Act.put, sq]
     obtain ⟨wa4, hwa4⟩ : ∃ q, wb3.alloc (.cells #[.slice none 0 0, .slice none 0 0] 64) = q := ⟨_, rfl⟩
     obtain ⟨gb4, hgb4⟩ : ∃ q, wb3.heap.size = q := ⟨_, rfl⟩
     have hlt4 : WZ.heap.size ≤ gb4 := by rw [← hgb4]; exact hB3.size
     simp only [hwa4, hgb4] at hA4 HVa HUa HVe HG ⊢
     clear hwa4 hgb4
     refine won 9 rfl fun K hK => ?_
     have r0' := HG.out.cell 0 rfl
     have r1' := HG.out.cell 1 rfl
     have f0' := HG.out.frozen 0
     have f1' := HG.out.frozen 1
     have fl' := HG.out.lt
     go_simp
     refine hK.out _ _ (fun h => absurd h (by decide)) ?_
     clear hK K r0' r1' f0' f1' fl'
     try simp only [Act.put, sq]
     refine won 10 rfl fun K hK => ?_
     go_simp
     refine hK.out _ _ (fun _ h => h) ?_
     clear hK K
     try simp only [Act.put, sq]
     refine wpAnyM_done (by kernel_rfl) ?_ _
     try simp only [Act.put, sq]
     obtain ⟨g1, g2⟩ := world_stored HG.out (by intro x hx; simp at hx; subst hx; exact ⟨_, _, _, rfl⟩) HVe.out
     go_wp2_with fail
     go_meet
     exact ⟨_, _, _, _, _, rfl, rfl, g1, g2, hlt4, (hA4.setCell hlt4 _).setCell hlt4 _⟩
    ·go_simp
     have hA3 := hB2.alloc hB2.size (.cells #[.slice none 0 0, .slice none 0 0] 64)
     have HG := Lib.hid (Blk.new wb2 64 [.slice none 0 0, .slice none 0 0])
     replace HVa := Lib.hid (HVa.out.below ((Below.refl _ _).alloc (Nat.le_refl _) (.cells #[.slice none 0 0, .slice none 0 0] 64)))
     replace HUa := Lib.hid (HUa.out.below ((Below.refl _ _).alloc (Nat.le_refl _) (.cells #[.slice none 0 0, .slice none 0 0] 64)))
     refine hK.out _ _ (fun _ _ => HS.out _ hA3) ?_
     clear hK K
     try simp only [Act.put, sq]
     obtain ⟨wa3, hwa3⟩ : ∃ q, wb2.alloc (.cells #[.slice none 0 0, .slice none 0 0] 64) = q := ⟨_, rfl⟩
     obtain ⟨gb3, hgb3⟩ : ∃ q, wb2.heap.size = q := ⟨_, rfl⟩
     have hlt3 : WZ.heap.size ≤ gb3 := by rw [← hgb3]; exact hB2.size
     simp only [hwa3, hgb3] at hA3 HVa HUa HG ⊢
     clear hwa3 hgb3
     refine won 4 rfl fun K hK => ?_
     go_simp
     refine (HWl.out _ _ _ hA3 HVa.out HUa.out).mono ?_
     rintro e wb4 ⟨v4, rfl, hv4, hc4⟩
     obtain ⟨a0, n0, a1, n1, rfl, -⟩ := worldV_form hv4
     have HVe := Lib.hid hv4
     clear hv4
     have hB4 := below_next hA3 hc4
     replace HVa := Lib.hid (HVa.out.below hc4)
     replace HUa := Lib.hid (HUa.out.below hc4)
     replace HG := Lib.hid (HG.out.later hc4)
     refine hK.out _ _ (fun _ _ => HS.out _ hB4) ?_
     clear hK K hc4
     try dsimp only
     refine won 5 rfl fun K hK => ?_
     go_simp
     refine hK.out _ _ (fun _ h => h) ?_
     clear hK K
     try simp only [Act.put, sq]
     refine wfr 6 (v := ?_) rfl ?_ ?_
     rotate_left
     ·intro w' hw';go_simp;try with_reducible rfl
     try simp only [Act.put, sq]
     refine wfr 7 (v := ?_) rfl ?_ ?_
     rotate_left
     ·intro w' hw';go_simp;try with_reducible rfl
     try simp only [Act.put, sq]
     refine won 9 rfl fun K hK => ?_
     have r0' := HG.out.cell 0 rfl
     have r1' := HG.out.cell 1 rfl
     have f0' := HG.out.frozen 0
     have f1' := HG.out.frozen 1
     have fl' := HG.out.lt
     go_simp
     refine hK.out _ _ (fun h => absurd h (by decide)) ?_
     clear hK K r0' r1' f0' f1' fl'
     try simp only [Act.put, sq]
     refine won 10 rfl fun K hK => ?_
     go_simp
     refine hK.out _ _ (fun _ h => h) ?_
     clear hK K
     try simp only [Act.put, sq]
     refine wpAnyM_done (by kernel_rfl) ?_ _
     try simp only [Act.put, sq]
     obtain ⟨g1, g2⟩ := world_stored HG.out (by intro x hx; simp at hx; subst hx; exact ⟨_, _, _, rfl⟩) HVe.out
     go_wp2_with fail
     go_meet
     exact ⟨_, _, _, _, _, rfl, rfl, g1, g2, hlt3, (hB4.setCell hlt3 _).setCell hlt3 _⟩
   ·go_simp
    have hA2 := hB1.alloc hB1.size (.cells #[.slice none 0 0, .slice none 0 0] 64)
    have HG := Lib.hid (Blk.new wb1 64 [.slice none 0 0, .slice none 0 0])
    replace HVa := Lib.hid (HVa.out.below ((Below.refl _ _).alloc (Nat.le_refl _) (.cells #[.slice none 0 0, .slice none 0 0] 64)))
    refine hK.out _ _ (fun _ _ => HS.out _ hA2) ?_
    clear hK K
    try simp only [Act.put, sq]
    obtain ⟨wa2, hwa2⟩ : ∃ q, wb1.alloc (.cells #[.slice none 0 0, .slice none 0 0] 64) = q := ⟨_, rfl⟩
    obtain ⟨gb2, hgb2⟩ : ∃ q, wb1.heap.size = q := ⟨_, rfl⟩
    have hlt2 : WZ.heap.size ≤ gb2 := by rw [← hgb2]; exact hB1.size
    simp only [hwa2, hgb2] at hA2 HVa HG ⊢
    clear hwa2 hgb2
    refine won 3 rfl fun K hK => ?_
    go_simp
    refine (HGF.out _ _ (HGb.out _ hA2)).mono ?_
    rintro e wb3 ⟨ua3, rfl, hua3, -, hc3⟩
    have HUa := Lib.hid hua3
    clear hua3
    have hB3 := below_next hA2 hc3
    replace HVa := Lib.hid (HVa.out.below hc3)
    replace HG := Lib.hid (HG.out.later hc3)
    refine hK.out _ _ (fun _ _ => HS.out _ hB3) ?_
    clear hK K hc3
    try simp only [Act.put, sq]
    refine won 4 rfl fun K hK => ?_
    go_simp
    refine (HWl.out _ _ _ hB3 HVa.out HUa.out).mono ?_
    rintro e wb4 ⟨v4, rfl, hv4, hc4⟩
    obtain ⟨a0, n0, a1, n1, rfl, -⟩ := worldV_form hv4
    have HVe := Lib.hid hv4
    clear hv4
    have hB4 := below_next hB3 hc4
    replace HVa := Lib.hid (HVa.out.below hc4)
    replace HG := Lib.hid (HG.out.later hc4)
    replace HUa := Lib.hid (HUa.out.below hc4)
    refine hK.out _ _ (fun _ _ => HS.out _ hB4) ?_
    clear hK K hc4
    try dsimp only
    refine won 5 rfl fun K hK => ?_
    go_simp
    refine hK.out _ _ (fun _ h => h) ?_
    clear hK K
    try simp only [Act.put, sq]
    refine wfr 6 (v := ?_) rfl ?_ ?_
    rotate_left
    ·intro w' hw';go_simp;try with_reducible rfl
    try simp only [Act.put, sq]
    refine wfr 7 (v := ?_) rfl ?_ ?_
    rotate_left
    ·intro w' hw';go_simp;try with_reducible rfl
    try simp only [Act.put, sq]
    refine won 9 rfl fun K hK => ?_
    have r0' := HG.out.cell 0 rfl
    have r1' := HG.out.cell 1 rfl
    have f0' := HG.out.frozen 0
    have f1' := HG.out.frozen 1
    have fl' := HG.out.lt
    go_simp
    refine hK.out _ _ (fun h => absurd h (by decide)) ?_
    clear hK K r0' r1' f0' f1' fl'
    try simp only [Act.put, sq]
    refine won 10 rfl fun K hK => ?_
    go_simp
    refine hK.out _ _ (fun _ h => h) ?_
    clear hK K
    try simp only [Act.put, sq]
    refine wpAnyM_done (by kernel_rfl) ?_ _
    try simp only [Act.put, sq]
    obtain ⟨g1, g2⟩ := world_stored HG.out (by intro x hx; simp at hx; subst hx; exact ⟨_, _, _, rfl⟩) HVe.out
    go_wp2_with fail
    go_meet
    exact ⟨_, _, _, _, _, rfl, rfl, g1, g2, hlt2, (hB4.setCell hlt2 _).setCell hlt2 _⟩
  ·go_simp
   have hA1 := hB0.alloc hB0.size (.cells #[.slice none 0 0, .slice none 0 0] 64)
   have HG := Lib.hid (Blk.new wd 64 [.slice none 0 0, .slice none 0 0])
   refine hK.out _ _ (fun _ _ => HS.out _ hA1) ?_
   clear hK K
   try simp only [Act.put, sq]
   obtain ⟨wa1, hwa1⟩ : ∃ q, wd.alloc (.cells #[.slice none 0 0, .slice none 0 0] 64) = q := ⟨_, rfl⟩
   obtain ⟨gb1, hgb1⟩ : ∃ q, wd.heap.size = q := ⟨_, rfl⟩
   have hlt1 : WZ.heap.size ≤ gb1 := by rw [← hgb1]; exact hB0.size
   simp only [hwa1, hgb1] at hA1 HG ⊢
   clear hwa1 hgb1
   refine won 1 rfl fun K hK => ?_
   go_simp
   refine (HFF.out _ _ (HAb.out _ hA1)).mono ?_
   rintro e wb2 ⟨va2, rfl, hva2, -, hc2⟩
   have HVa := Lib.hid hva2
   clear hva2
   have hB2 := below_next hA1 hc2
   replace HG := Lib.hid (HG.out.later hc2)
   refine hK.out _ _ (fun _ _ => HS.out _ hB2) ?_
   clear hK K hc2
   try simp only [Act.put, sq]
   refine won 3 rfl fun K hK => ?_
   go_simp
   refine (HGF.out _ _ (HGb.out _ hB2)).mono ?_
   rintro e wb3 ⟨ua3, rfl, hua3, -, hc3⟩
   have HUa := Lib.hid hua3
   clear hua3
   have hB3 := below_next hB2 hc3
   replace HG := Lib.hid (HG.out.later hc3)
   replace HVa := Lib.hid (HVa.out.below hc3)
   refine hK.out _ _ (fun _ _ => HS.out _ hB3) ?_
   clear hK K hc3
   try simp only [Act.put, sq]
   refine won 4 rfl fun K hK => ?_
   go_simp
   refine (HWl.out _ _ _ hB3 HVa.out HUa.out).mono ?_
   rintro e wb4 ⟨v4, rfl, hv4, hc4⟩
   obtain ⟨a0, n0, a1, n1, rfl, -⟩ := worldV_form hv4
   have HVe := Lib.hid hv4
   clear hv4
   have hB4 := below_next hB3 hc4
   replace HG := Lib.hid (HG.out.later hc4)
   replace HVa := Lib.hid (HVa.out.below hc4)
   replace HUa := Lib.hid (HUa.out.below hc4)
   refine hK.out _ _ (fun _ _ => HS.out _ hB4) ?_
   clear hK K hc4
   try dsimp only
   refine won 5 rfl fun K hK => ?_
   go_simp
   refine hK.out _ _ (fun _ h => h) ?_
   clear hK K
   try simp only [Act.put, sq]
   refine wfr 6 (v := ?_) rfl ?_ ?_
   rotate_left
   ·intro w' hw';go_simp;try with_reducible rfl
   try simp only [Act.put, sq]
   refine wfr 7 (v := ?_) rfl ?_ ?_
   rotate_left
   ·intro w' hw';go_simp;try with_reducible rfl
   try simp only [Act.put, sq]
   refine won 9 rfl fun K hK => ?_
   have r0' := HG.out.cell 0 rfl
   have r1' := HG.out.cell 1 rfl
   have f0' := HG.out.frozen 0
   have f1' := HG.out.frozen 1
   have fl' := HG.out.lt
   go_simp
   refine hK.out _ _ (fun h => absurd h (by decide)) ?_
   clear hK K r0' r1' f0' f1' fl'
   try simp only [Act.put, sq]
   refine won 10 rfl fun K hK => ?_
   go_simp
   refine hK.out _ _ (fun _ h => h) ?_
   clear hK K
   try simp only [Act.put, sq]
   refine wpAnyM_done (by kernel_rfl) ?_ _
   try simp only [Act.put, sq]
   obtain ⟨g1, g2⟩ := world_stored HG.out (by intro x hx; simp at hx; subst hx; exact ⟨_, _, _, rfl⟩) HVe.out
   go_wp2_with fail
   go_meet
   exact ⟨_, _, _, _, _, rfl, rfl, g1, g2, hlt1, (hB4.setCell hlt1 _).setCell hlt1 _⟩
 case rest =>
  obtain ⟨G, a0, n0, a1, n1, rfl, rfl, hge, hve, hG, hbx⟩ := hcut
  obtain ⟨WC, rfl⟩ : ∃ q, q = wc := ⟨_, rfl⟩
  have HB := Lib.hid hbx
  have KE := Lib.hid hge
  have WVe := Lib.hid hve
  replace KB := Lib.hid (KB.out.later hbx)
  replace KU := Lib.hid (KU.out.later hbx)
  have hgl : G < WC.heap.size := hge.lt
  have hwl : w.heap.size + 1 < WC.heap.size := KU.out.lt
  clear hge hve hbx HS
  have x0 := KB.out.cell 0 rfl
  have x1 := KB.out.cell 1 rfl
  have x2 := KB.out.cell 2 rfl
  have y0 := KU.out.cell 0 rfl
  have y1 := KU.out.cell 1 rfl
  have y2 := KU.out.cell 2 rfl
  go_wp2_with fail
  refine (HRl.out _ HB.out).mono ?_
  rintro e W3 ⟨v3, rfl, hv3, hb3⟩
  obtain ⟨x0', m0, x1', m1, rfl, -⟩ := worldV_form hv3
  clear x0 x1 x2 y0 y1 y2
  replace KB := Lib.hid (KB.out.later hb3)
  replace KU := Lib.hid (KU.out.later hb3)
  replace KE := Lib.hid (KE.out.later hb3)
  replace WVe := Lib.hid (WVe.out.below hb3)
  replace HB := Lib.hid (below_next HB.out hb3)
  replace KB := Lib.hid (KB.out.alloc (.cells #[.slice x0' M.1.length m0, .slice x1' M.2.length m1] 64))
  replace KU := Lib.hid (KU.out.alloc (.cells #[.slice x0' M.1.length m0, .slice x1' M.2.length m1] 64))
  replace KE := Lib.hid (KE.out.alloc (.cells #[.slice x0' M.1.length m0, .slice x1' M.2.length m1] 64))
  replace WVe := Lib.hid (WVe.out.below ((Below.refl _ _).alloc (Nat.le_refl _) (.cells #[.slice x0' M.1.length m0, .slice x1' M.2.length m1] 64)))
  have KF := Lib.hid (Blk.new W3 64 [.slice x0' M.1.length m0, .slice x1' M.2.length m1])
  have WVf := Lib.hid (hv3.below ((Below.refl _ _).alloc (Nat.le_refl _) (.cells #[.slice x0' M.1.length m0, .slice x1' M.2.length m1] 64)))
  replace HB := Lib.hid (HB.out.alloc HB.out.size (.cells #[.slice x0' M.1.length m0, .slice x1' M.2.length m1] 64))
  clear hb3 hv3
  go_upto_region 4 with fail
  obtain ⟨W4, hW4⟩ : ∃ q, W3.alloc (.cells #[.slice x0' M.1.length m0, .slice x1' M.2.length m1] 64) = q := ⟨_, rfl⟩
  rw [hW4] at KB KU KE WVe KF WVf HB ⊢
  clear hW4
  have HA4 := Lib.hid ((Below.refl W4.heap.size W4).alloc (Nat.le_refl _) (.cells #[] 3))
  have HN4 := Lib.hid (ints_made W4)
  replace KB := Lib.hid (KB.out.alloc (.cells #[] 3))
  replace KU := Lib.hid (KU.out.alloc (.cells #[] 3))
  replace KE := Lib.hid (KE.out.alloc (.cells #[] 3))
  replace WVe := Lib.hid (WVe.out.below ((Below.refl _ _).alloc (Nat.le_refl _) (.cells #[] 3)))
  replace KF := Lib.hid (KF.out.alloc (.cells #[] 3))
  replace WVf := Lib.hid (WVf.out.below ((Below.refl _ _).alloc (Nat.le_refl _) (.cells #[] 3)))
  replace HB := Lib.hid (HB.out.alloc HB.out.size (.cells #[] 3))
  have y0 := KU.out.cell 0 rfl
  have y1 := KU.out.cell 1 rfl
  have y2 := KU.out.cell 2 rfl
  go_wp2_with fail
  refine (rwis_any (GVb.out _ HB.out) HMg.out).mono ?_
  rintro e W5 ⟨rfl, hb5⟩
  clear y0 y1 y2
  replace KB := Lib.hid (KB.out.later hb5)
  replace KU := Lib.hid (KU.out.later hb5)
  replace KE := Lib.hid (KE.out.later hb5)
  replace WVe := Lib.hid (WVe.out.below hb5)
  replace KF := Lib.hid (KF.out.later hb5)
  replace WVf := Lib.hid (WVf.out.below hb5)
  replace HB := Lib.hid (below_next HB.out hb5)
  replace HN4 := Lib.hid (HN4.out.below hb5)
  clear hb5
  go_upto_if 30 with fail
  go_cut [9] (fun s9 wx => IntsS wx s9 (committedP gF) ∧ Below W5.heap.size W5 wx)
  case first =>
   cases hwg : wholeP gF with
   | false =>
    have HCm : RowKit.Hid (committedP gF = []) := Lib.hid (by unfold committedP; rw [hwg]; rfl)
    clear hwg
    go_wp2_with fail
    go_meet
    exact ⟨by rw [HCm.out]; exact HN4.out, Below.refl _ _⟩
   | true =>
    have HCm : RowKit.Hid (committedP gF = idxs okP gF.2.2 gF.2.2.length) := Lib.hid (by unfold committedP; rw [hwg]; rfl)
    clear hwg
    have y0 := KU.out.cell 0 rfl
    have y1 := KU.out.cell 1 rfl
    have y2 := KU.out.cell 2 rfl
    go_wp2_with fail
    refine (rcommitted_any (GVb.out _ HB.out) HMg.out).mono ?_
    rintro e W5c ⟨vw, rfl, hvw, hb5⟩
    rw [← HCm.out] at hvw
    have HWa := Lib.hid hvw
    obtain ⟨pw, cw, rfl, -⟩ := hvw
    go_wp2_with fail
    go_meet
    exact ⟨HWa.out, hb5⟩
  case rest =>
   obtain ⟨hvw, hb5⟩ := hcut
   obtain ⟨WD, rfl⟩ : ∃ q, q = wc := ⟨_, rfl⟩
   have HWa := Lib.hid hvw
   obtain ⟨pw, cw, rfl, -⟩ := hvw
   replace KB := Lib.hid (KB.out.later hb5)
   replace KU := Lib.hid (KU.out.later hb5)
   replace KE := Lib.hid (KE.out.later hb5)
   replace WVe := Lib.hid (WVe.out.below hb5)
   replace KF := Lib.hid (KF.out.later hb5)
   replace WVf := Lib.hid (WVf.out.below hb5)
   replace HB := Lib.hid (below_next HB.out hb5)
   clear hb5 HN4
   have z0 := KE.out.cell 0 rfl
   have z1 := KE.out.cell 1 rfl
   have t0 := KF.out.cell 0 rfl
   have t1 := KF.out.cell 1 rfl
   go_wp2_with fail
   refine (rsame16_eq WVe.out WVf.out HLm.out).mono ?_
   rintro e W6 ⟨rfl, hb6⟩
   clear z0 z1 t0 t1
   replace KU := Lib.hid (KU.out.later hb6)
   replace HB := Lib.hid (below_next HB.out hb6)
   replace HWa := Lib.hid (HWa.out.below hb6)
   clear hb6
   have y0 := KU.out.cell 0 rfl
   have y1 := KU.out.cell 1 rfl
   have y2 := KU.out.cell 2 rfl
   go_wp2_with fail
   refine (HGF.out _ _ (HGb.out _ HB.out)).mono ?_
   rintro e W7 ⟨va, rfl, hva, -, hb7⟩
   clear y0 y1 y2
   replace HB := Lib.hid (below_next HB.out hb7)
   replace HWa := Lib.hid (HWa.out.below hb7)
   clear hb7
   go_wp2_with fail
   refine (committed_any hva HMg.out (HTb.out _ HB.out)).mono ?_
   rintro e W8 ⟨vc, rfl, hvc, hb8⟩
   replace HB := Lib.hid (below_next HB.out hb8)
   replace HWa := Lib.hid (HWa.out.below hb8)
   clear hb8 hva
   go_wp2_with fail
   refine (sameints_eq hvc HWa.out HLc.out).mono ?_
   rintro e W9 ⟨rfl, hb9⟩
   replace HB := Lib.hid (below_next HB.out hb9)
   clear hb9 hvc
   go_wp2_with fail
   refine (works17_any _ (HTb.out _ HB.out) (HMb.out _ HB.out) (HEb.out _ HB.out)).mono ?_
   rintro e W10 ⟨rfl, hb10⟩
   replace HB := Lib.hid (below_next HB.out hb10)
   clear hb10
   go_wp2_with fail
   go_ret
   exact ⟨rfl, HFin.out _ HB.out⟩
end Go.Proofs.YtmgchjddpmmglaaGreatDoor
