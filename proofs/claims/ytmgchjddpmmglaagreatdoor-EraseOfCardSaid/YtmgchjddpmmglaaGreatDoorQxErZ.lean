/-
  Layer 14 (erase): the statement EraseOf, walked. Conditions: unicode/utf8's two tables and event.words hold what their initialisers lay, internal/bytealg.MaxLen holds a number.
-/
import Derived.Test.YtmgchjddpmmglaaGreatDoorQxErY
import Derived.Test.YtmgchjddpmmglaaGreatDoorQxErF
namespace Go.Proofs.YtmgchjddpmmglaaGreatDoor
open Go.RowKit Go.Lib
theorem by_two (h : HistM) : byP h 2 = (ofP h, errH h) := by
 unfold byP ofP
 cases hm : mayH h with
 | true => rw [err_yes hm]; rfl
 | false => rw [err_no hm]; rfl
theorem noH_modst : Modst noH := ⟨by decide, by decide, by decide, (fun x hx => by cases hx), (fun x hx => by cases hx), (fun x hx => by cases hx)⟩
theorem ofP_modst {h : HistM} (hm : Modst h) : Modst (ofP h) := by
 unfold ofP
 split
 ·exact erase_modst hm
 ·exact noH_modst
theorem byP_modst {h : HistM} (p : Int) (hm : Modst h) : Modst (byP h p).1 := by
 unfold byP
 split
 ·split
  ·exact hm
  ·split
   ·exact erase_modst hm
   ·exact noH_modst
 ·exact noH_modst
set_option maxRecDepth 100000 in
set_option maxHeartbeats 4000000 in
theorem eraseof_any (v : Value) (hM : HistM) (n1 : Int) (w : World) (hv : HistA w v hM) (hT : Lib.Utf8Tabs 1 2 w) (hm : HasMax w) (hE : EvTab w) :
  Calls Tryz.prog 4 #[v, .int .i64 n1] w fun e w' => e = .returned (.bool true) ∧ Below w.heap.size w w' := by
 have b0 : ∀ x0 x1 x2, Blk (w.alloc (.cells #[x0, x1, x2] 25)) w.heap.size 25 [x0, x1, x2] := fun x0 x1 x2 => Blk.new w _ [x0, x1, x2]
 have hb0 : ∀ o, Below w.heap.size w (w.alloc o) := fun o => (Below.refl _ w).alloc (Nat.le_refl _) o
 have HA0 := Lib.hid hv
 obtain ⟨v0, v1, v2, rfl, ⟨p0, c0, rfl, -⟩, ⟨p1, c1, rfl, -⟩, ⟨p2, c2, rfl, -⟩⟩ := hv
 have HF0 := Lib.hid (few11_any _ _ hM (HA0.out.below (hb0 (.cells #[.slice p0 hM.1.length c0, .slice p1 hM.2.1.length c1, .slice p2 hM.2.2.length c2] 25))))
 have HB0 := Lib.hid hb0
 have B0 := Lib.hid (b0 (.slice p0 hM.1.length c0) (.slice p1 hM.2.1.length c1) (.slice p2 hM.2.2.length c2))
 have y0 := B0.out.cell 0 rfl
 have y1 := B0.out.cell 1 rfl
 have y2 := B0.out.cell 2 rfl
 have HT := Lib.hid hT
 have HMo := Lib.hid (few_modst hM)
 clear b0 hb0 hT
 have HMx := Lib.hid hm
 have HEt := Lib.hid hE
 clear hm hE
 go_enter Tryz.func4, Tryz.ntmps4
 go_wp2_with fail
 refine HF0.out.mono ?_
 rintro e w1 ⟨v', rfl, hv', ha', hb1⟩
 have HV1 := Lib.hid hv'
 have HA1 := Lib.hid ha'
 obtain ⟨u0, u1, u2, rfl, ⟨q0, d0, rfl, -⟩, ⟨q1, d1, rfl, -⟩, ⟨q2, d2, rfl, -⟩⟩ := hv'
 have z := B0.out.later hb1
 have z0 := z.cell 0 rfl
 have z1 := z.cell 1 rfl
 have z2 := z.cell 2 rfl
 have z3 := z.frozen 0
 have z4 := z.frozen 1
 have z5 := z.frozen 2
 have ST := Lib.hid (few_stored (HB0.out _) B0.out (by intro x hx; simp at hx; rcases hx with rfl | rfl | rfl <;> exact ⟨_, _, _, rfl⟩) hb1 HV1.out HA1.out)
 clear ha' hb1 z y0 y1 y2 HF0 HV1 HA1
 go_upto_region 2 with fail
 generalize (((w1.setCell ⟨w.heap.size, 0, none⟩ (.slice q0 (fewH hM).1.length d0)).setCell ⟨w.heap.size, 1, none⟩ (.slice q1 (fewH hM).2.1.length d1)).setCell ⟨w.heap.size, 2, none⟩ (.slice q2 (fewH hM).2.2.length d2)) = W2 at *
 obtain ⟨k0, HVx, HAx, hbW⟩ := ST.out
 have KB := Lib.hid k0
 have HV2 := Lib.hid HVx
 have HA2 := Lib.hid HAx
 have HBW := Lib.hid hbW
 have o0 := k0.cell 0 rfl
 have o1 := k0.cell 1 rfl
 have o2 := k0.cell 2 rfl
 have hl0 : w.heap.size < W2.heap.size := k0.lt
 clear ST k0 HVx HAx hbW z0 z1 z2 z3 z4 z5
 have HFF := Lib.hid (fun w' v (ha : HistA w' v (fewH hM)) => few_v ha)
 generalize fewH hM = hF at *
 have HS : RowKit.Hid (∀ w', Below W2.heap.size W2 w' → (w'.cell? ⟨w.heap.size, 0, none⟩ = some (.slice q0 hF.1.length d0) ∧ w'.cell? ⟨w.heap.size, 1, none⟩ = some (.slice q1 hF.2.1.length d1) ∧ w'.cell? ⟨w.heap.size, 2, none⟩ = some (.slice q2 hF.2.2.length d2) ∧ Below W2.heap.size W2 w')) := Lib.hid (fun w' hb => ⟨(KB.out.later hb).cell 0 rfl, (KB.out.later hb).cell 1 rfl, (KB.out.later hb).cell 2 rfl, hb⟩)
 have HAb := Lib.hid (fun w' (hb : Below W2.heap.size W2 w') => HA2.out.below hb)
 have HVb := Lib.hid (fun w' (hb : Below W2.heap.size W2 w') => HV2.out.below hb)
 have HTb := Lib.hid (fun w' (hb : Below W2.heap.size W2 w') => Utf8Tabs_below HT.out (HBW.out.trans (hb.mono HBW.out.size)))
 have HFin := Lib.hid (fun w' (hb : Below W2.heap.size W2 w') => HBW.out.trans (hb.mono HBW.out.size))
 have HMb := Lib.hid (fun w' (hb : Below W2.heap.size W2 w') => HMx.out.below (HFin.out _ hb))
 have HEb := Lib.hid (fun w' (hb : Below W2.heap.size W2 w') => HEt.out.below (HFin.out _ hb))
 clear o0 o1 o2
 have ca0 := (HS.out _ (Below.refl _ _)).1
 have cb0 := (HS.out _ (Below.refl _ _)).2.1
 have cc0 := (HS.out _ (Below.refl _ _)).2.2.1
 obtain ⟨E, hE9⟩ : ∃ E, ofP hF = E := ⟨_, rfl⟩
 obtain ⟨er, her⟩ : ∃ x, errH hF = x := ⟨_, rfl⟩
 obtain ⟨⟨G, eg⟩, hG9⟩ : ∃ q, byP hF n1 = q := ⟨_, rfl⟩
 have hME : Modst E := by rw [← hE9]; exact ofP_modst HMo.out
 have hMG : Modst G := by have := byP_modst n1 HMo.out; rw [hG9] at this; exact this
 have h2e : byP hF 2 = (E, er) := by rw [by_two, hE9, her]
 have HE9 := Lib.hid hE9
 have HER := Lib.hid her
 have HG9 := Lib.hid hG9
 have HME := Lib.hid hME
 have HMG := Lib.hid hMG
 have H2E := Lib.hid h2e
 clear hE9 her hG9 hME hMG h2e
 go_wp2_with fail
 have h1 := HFF.out _ _ (HAb.out _ (Below.refl _ _))
 refine h1.mono ?_
 rintro e x1 ⟨va1, rfl, hva1, -, hb1⟩
 clear h1
 clear ca0 cb0 cc0
 have hB1 : Below W2.heap.size W2 x1 := below_next (Below.refl _ _) hb1
 clear hb1
 have ca1 := (HS.out _ hB1).1
 have cb1 := (HS.out _ hB1).2.1
 have cc1 := (HS.out _ hB1).2.2.1
 go_wp2_with fail
 have h2 := of14_any hva1 HMo.out (HTb.out _ hB1)
 rw [HE9.out, HER.out] at h2
 refine h2.mono ?_
 rintro e x2 ⟨v2, rfl, hv2, hb2⟩
 clear h2
 clear hva1
 clear ca1 cb1 cc1
 have hB2 : Below W2.heap.size W2 x2 := below_next hB1 hb2
 obtain ⟨e0, en0, e1, en1, e2, en2, rfl⟩ := histV_form hv2
 have hA2 := hB2.alloc hB2.size (.cells #[.slice e0 E.1.length en0, .slice e1 E.2.1.length en1, .slice e2 E.2.2.length en2] 25)
 have Ke := Lib.hid (Blk.new x2 25 [.slice e0 E.1.length en0, .slice e1 E.2.1.length en1, .slice e2 E.2.2.length en2])
 have Ve := Lib.hid (hv2.below ((Below.refl _ _).alloc (Nat.le_refl _) (.cells #[.slice e0 E.1.length en0, .slice e1 E.2.1.length en1, .slice e2 E.2.2.length en2] 25)))
 clear hv2 hb2
 have ca2 := (HS.out _ hA2).1
 have cb2 := (HS.out _ hA2).2.1
 have cc2 := (HS.out _ hA2).2.2.1
 go_wp2_with fail
 have h3 := rby14_any 2 (HVb.out _ hA2) HMo.out
 rw [H2E.out] at h3
 dsimp only at h3
 refine h3.mono ?_
 rintro e x3 ⟨v3, rfl, hv3, hb3⟩
 clear h3
 clear ca2 cb2 cc2
 have hB3 : Below W2.heap.size W2 x3 := below_next hA2 hb3
 have Ke := Lib.hid (Ke.out.later hb3)
 have Ve := Lib.hid (Ve.out.below hb3)
 obtain ⟨f0, fn0, f1, fn1, f2, fn2, rfl⟩ := histV_form hv3
 have hA3 := hB3.alloc hB3.size (.cells #[.slice f0 E.1.length fn0, .slice f1 E.2.1.length fn1, .slice f2 E.2.2.length fn2] 25)
 have Ke := Lib.hid (Ke.out.alloc (.cells #[.slice f0 E.1.length fn0, .slice f1 E.2.1.length fn1, .slice f2 E.2.2.length fn2] 25))
 have Ve := Lib.hid (Ve.out.below ((Below.refl _ _).alloc (Nat.le_refl _) (.cells #[.slice f0 E.1.length fn0, .slice f1 E.2.1.length fn1, .slice f2 E.2.2.length fn2] 25)))
 have Kf := Lib.hid (Blk.new x3 25 [.slice f0 E.1.length fn0, .slice f1 E.2.1.length fn1, .slice f2 E.2.2.length fn2])
 have Vf := Lib.hid (hv3.below ((Below.refl _ _).alloc (Nat.le_refl _) (.cells #[.slice f0 E.1.length fn0, .slice f1 E.2.1.length fn1, .slice f2 E.2.2.length fn2] 25)))
 clear hv3 hb3
 have ca3 := (HS.out _ hA3).1
 have cb3 := (HS.out _ hA3).2.1
 have cc3 := (HS.out _ hA3).2.2.1
 go_wp2_with fail
 have h4 := HFF.out _ _ (HAb.out _ hA3)
 refine h4.mono ?_
 rintro e x4 ⟨va4, rfl, hva4, -, hb4⟩
 clear h4
 clear ca3 cb3 cc3
 have hB4 : Below W2.heap.size W2 x4 := below_next hA3 hb4
 have Ke := Lib.hid (Ke.out.later hb4)
 have Ve := Lib.hid (Ve.out.below hb4)
 have Kf := Lib.hid (Kf.out.later hb4)
 have Vf := Lib.hid (Vf.out.below hb4)
 clear hb4
 have ca4 := (HS.out _ hB4).1
 have cb4 := (HS.out _ hB4).2.1
 have cc4 := (HS.out _ hB4).2.2.1
 go_wp2_with fail
 have h5 := by14_any n1 hva4 HMo.out (HTb.out _ hB4)
 rw [HG9.out] at h5
 dsimp only at h5
 refine h5.mono ?_
 rintro e x5 ⟨v5, rfl, hv5, hb5⟩
 clear h5
 clear hva4
 clear ca4 cb4 cc4
 have hB5 : Below W2.heap.size W2 x5 := below_next hB4 hb5
 have Ke := Lib.hid (Ke.out.later hb5)
 have Ve := Lib.hid (Ve.out.below hb5)
 have Kf := Lib.hid (Kf.out.later hb5)
 have Vf := Lib.hid (Vf.out.below hb5)
 obtain ⟨g0, gn0, g1, gn1, g2, gn2, rfl⟩ := histV_form hv5
 have hA5 := hB5.alloc hB5.size (.cells #[.slice g0 G.1.length gn0, .slice g1 G.2.1.length gn1, .slice g2 G.2.2.length gn2] 25)
 have Ke := Lib.hid (Ke.out.alloc (.cells #[.slice g0 G.1.length gn0, .slice g1 G.2.1.length gn1, .slice g2 G.2.2.length gn2] 25))
 have Ve := Lib.hid (Ve.out.below ((Below.refl _ _).alloc (Nat.le_refl _) (.cells #[.slice g0 G.1.length gn0, .slice g1 G.2.1.length gn1, .slice g2 G.2.2.length gn2] 25)))
 have Kf := Lib.hid (Kf.out.alloc (.cells #[.slice g0 G.1.length gn0, .slice g1 G.2.1.length gn1, .slice g2 G.2.2.length gn2] 25))
 have Vf := Lib.hid (Vf.out.below ((Below.refl _ _).alloc (Nat.le_refl _) (.cells #[.slice g0 G.1.length gn0, .slice g1 G.2.1.length gn1, .slice g2 G.2.2.length gn2] 25)))
 have Kg := Lib.hid (Blk.new x5 25 [.slice g0 G.1.length gn0, .slice g1 G.2.1.length gn1, .slice g2 G.2.2.length gn2])
 have Vg := Lib.hid (hv5.below ((Below.refl _ _).alloc (Nat.le_refl _) (.cells #[.slice g0 G.1.length gn0, .slice g1 G.2.1.length gn1, .slice g2 G.2.2.length gn2] 25)))
 clear hv5 hb5
 have ca5 := (HS.out _ hA5).1
 have cb5 := (HS.out _ hA5).2.1
 have cc5 := (HS.out _ hA5).2.2.1
 go_wp2_with fail
 have h6 := rby14_any n1 (HVb.out _ hA5) HMo.out
 rw [HG9.out] at h6
 dsimp only at h6
 refine h6.mono ?_
 rintro e x6 ⟨v6, rfl, hv6, hb6⟩
 clear h6
 clear ca5 cb5 cc5
 have hB6 : Below W2.heap.size W2 x6 := below_next hA5 hb6
 have Ke := Lib.hid (Ke.out.later hb6)
 have Ve := Lib.hid (Ve.out.below hb6)
 have Kf := Lib.hid (Kf.out.later hb6)
 have Vf := Lib.hid (Vf.out.below hb6)
 have Kg := Lib.hid (Kg.out.later hb6)
 have Vg := Lib.hid (Vg.out.below hb6)
 obtain ⟨j0, jn0, j1, jn1, j2, jn2, rfl⟩ := histV_form hv6
 have hA6 := hB6.alloc hB6.size (.cells #[.slice j0 G.1.length jn0, .slice j1 G.2.1.length jn1, .slice j2 G.2.2.length jn2] 25)
 have Ke := Lib.hid (Ke.out.alloc (.cells #[.slice j0 G.1.length jn0, .slice j1 G.2.1.length jn1, .slice j2 G.2.2.length jn2] 25))
 have Ve := Lib.hid (Ve.out.below ((Below.refl _ _).alloc (Nat.le_refl _) (.cells #[.slice j0 G.1.length jn0, .slice j1 G.2.1.length jn1, .slice j2 G.2.2.length jn2] 25)))
 have Kf := Lib.hid (Kf.out.alloc (.cells #[.slice j0 G.1.length jn0, .slice j1 G.2.1.length jn1, .slice j2 G.2.2.length jn2] 25))
 have Vf := Lib.hid (Vf.out.below ((Below.refl _ _).alloc (Nat.le_refl _) (.cells #[.slice j0 G.1.length jn0, .slice j1 G.2.1.length jn1, .slice j2 G.2.2.length jn2] 25)))
 have Kg := Lib.hid (Kg.out.alloc (.cells #[.slice j0 G.1.length jn0, .slice j1 G.2.1.length jn1, .slice j2 G.2.2.length jn2] 25))
 have Vg := Lib.hid (Vg.out.below ((Below.refl _ _).alloc (Nat.le_refl _) (.cells #[.slice j0 G.1.length jn0, .slice j1 G.2.1.length jn1, .slice j2 G.2.2.length jn2] 25)))
 have Kj := Lib.hid (Blk.new x6 25 [.slice j0 G.1.length jn0, .slice j1 G.2.1.length jn1, .slice j2 G.2.2.length jn2])
 have Vj := Lib.hid (hv6.below ((Below.refl _ _).alloc (Nat.le_refl _) (.cells #[.slice j0 G.1.length jn0, .slice j1 G.2.1.length jn1, .slice j2 G.2.2.length jn2] 25)))
 clear hv6 hb6
 have ca6 := (HS.out _ hA6).1
 have cb6 := (HS.out _ hA6).2.1
 have cc6 := (HS.out _ hA6).2.2.1
 have ze0 := Ke.out.cell 0 rfl
 have ze1 := Ke.out.cell 1 rfl
 have ze2 := Ke.out.cell 2 rfl
 have zf0 := Kf.out.cell 0 rfl
 have zf1 := Kf.out.cell 1 rfl
 have zf2 := Kf.out.cell 2 rfl
 have zle := Ke.out.lt
 have zlf := Kf.out.lt
 go_wp2_with fail
 obtain ⟨s0, s1, s2⟩ := histV_parts Ve.out
 obtain ⟨t0, t1, t2⟩ := histV_parts Vf.out
 have h7 := rsame10_any _ _ _ _ _ _ E E _ s0 s1 s2 HME.out t0 t1 t2 HME.out
 refine h7.mono ?_
 rintro e x7 ⟨rfl, hb7⟩
 clear h7
 rw [eqH_refl]
 clear s0 s1 s2 t0 t1 t2
 clear ca6 cb6 cc6 ze0 ze1 ze2 zf0 zf1 zf2 zle zlf
 have hB7 : Below W2.heap.size W2 x7 := below_next hA6 hb7
 have Ke := Lib.hid (Ke.out.later hb7)
 have Ve := Lib.hid (Ve.out.below hb7)
 have Kf := Lib.hid (Kf.out.later hb7)
 have Vf := Lib.hid (Vf.out.below hb7)
 have Kg := Lib.hid (Kg.out.later hb7)
 have Vg := Lib.hid (Vg.out.below hb7)
 have Kj := Lib.hid (Kj.out.later hb7)
 have Vj := Lib.hid (Vj.out.below hb7)
 clear hb7
 have ca7 := (HS.out _ hB7).1
 have cb7 := (HS.out _ hB7).2.1
 have cc7 := (HS.out _ hB7).2.2.1
 have zg0 := Kg.out.cell 0 rfl
 have zg1 := Kg.out.cell 1 rfl
 have zg2 := Kg.out.cell 2 rfl
 have zj0 := Kj.out.cell 0 rfl
 have zj1 := Kj.out.cell 1 rfl
 have zj2 := Kj.out.cell 2 rfl
 have zlg := Kg.out.lt
 have zlj := Kj.out.lt
 go_wp2_with fail
 obtain ⟨s0, s1, s2⟩ := histV_parts Vg.out
 obtain ⟨t0, t1, t2⟩ := histV_parts Vj.out
 have h8 := rsame10_any _ _ _ _ _ _ G G _ s0 s1 s2 HMG.out t0 t1 t2 HMG.out
 refine h8.mono ?_
 rintro e x8 ⟨rfl, hb8⟩
 clear h8
 rw [eqH_refl]
 clear s0 s1 s2 t0 t1 t2
 clear ca7 cb7 cc7 zg0 zg1 zg2 zj0 zj1 zj2 zlg zlj
 have hB8 : Below W2.heap.size W2 x8 := below_next hB7 hb8
 have Ke := Lib.hid (Ke.out.later hb8)
 have Ve := Lib.hid (Ve.out.below hb8)
 have Kf := Lib.hid (Kf.out.later hb8)
 have Vf := Lib.hid (Vf.out.below hb8)
 have Kg := Lib.hid (Kg.out.later hb8)
 have Vg := Lib.hid (Vg.out.below hb8)
 have Kj := Lib.hid (Kj.out.later hb8)
 have Vj := Lib.hid (Vj.out.below hb8)
 clear hb8
 have ca8 := (HS.out _ hB8).1
 have cb8 := (HS.out _ hB8).2.1
 have cc8 := (HS.out _ hB8).2.2.1
 go_wp2_with fail
 have h9 := works14_any _ (HTb.out _ hB8) (HMb.out _ hB8) (HEb.out _ hB8)
 refine h9.mono ?_
 rintro e x9 ⟨rfl, hb9⟩
 clear h9
 clear ca8 cb8 cc8
 have hB9 : Below W2.heap.size W2 x9 := below_next hB8 hb9
 have Ke := Lib.hid (Ke.out.later hb9)
 have Ve := Lib.hid (Ve.out.below hb9)
 have Kf := Lib.hid (Kf.out.later hb9)
 have Vf := Lib.hid (Vf.out.below hb9)
 have Kg := Lib.hid (Kg.out.later hb9)
 have Vg := Lib.hid (Vg.out.below hb9)
 have Kj := Lib.hid (Kj.out.later hb9)
 have Vj := Lib.hid (Vj.out.below hb9)
 clear hb9
 go_wp2_with fail
 go_ret
 exact ⟨rfl, HFin.out _ hB9⟩
end Go.Proofs.YtmgchjddpmmglaaGreatDoor
