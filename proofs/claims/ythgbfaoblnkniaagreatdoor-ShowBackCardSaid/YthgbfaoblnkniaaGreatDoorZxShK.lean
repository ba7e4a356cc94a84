/-
  Layer 12 (show): the statement ShowBack. Conditions: unicode/utf8's two tables and event.words hold what their initialisers lay, internal/bytealg.MaxLen holds a number; values' numbers are Go's.
-/
import Derived.Test.YthgbfaoblnkniaaGreatDoorZxShL
import Derived.Test.YthgbfaoblnkniaaGreatDoorZo
namespace Go.Proofs.YthgbfaoblnkniaaGreatDoor
open Go.RowKit Go.Lib
theorem sh_write_len (L : List EventM) : (writeL L).1.length ≤ 65536 := by
 unfold writeL
 split
 ·by_cases h : (catGo L []).2 = 0
  ·exact (cat_text L [] h).2 (by decide)
  ·rw [cat_err L [] h]
   exact Nat.zero_le _
 ·exact Nat.zero_le _
theorem eqH_own (h : HistM) : eqH h h = true := by simp [eqH]
set_option maxRecDepth 100000 in
set_option maxHeartbeats 4000000 in
theorem showback_any (v : Value) (hM : HistM) (w : World) (hv : HistA w v hM) (hn : NumH (fewH hM)) (hT : Lib.Utf8Tabs 1 2 w) (hm : HasMax w) (hE : EvTab w) :
  Calls Tryz.prog 5 #[v] w fun e w' => e = .returned (.bool true) ∧ Below w.heap.size w w' := by
 have HA0 := Lib.hid hv
 obtain ⟨v0, v1, v2, rfl, ⟨p0, c0, rfl, -⟩, ⟨p1, c1, rfl, -⟩, ⟨p2, c2, rfl, -⟩⟩ := hv
 have hal := (Below.refl w.heap.size w).alloc (Nat.le_refl _) (.cells #[.slice p0 hM.1.length c0, .slice p1 hM.2.1.length c1, .slice p2 hM.2.2.length c2] 25)
 have HWk := Lib.hid (works12_any (w.alloc (.cells #[.slice p0 hM.1.length c0, .slice p1 hM.2.1.length c1, .slice p2 hM.2.2.length c2] 25)) (Utf8Tabs_below hT hal) (hm.below hal) (hE.below hal))
 have HBx := Lib.hid (Blk.new w 25 [.slice p0 hM.1.length c0, .slice p1 hM.2.1.length c1, .slice p2 hM.2.2.length c2])
 have HAL := Lib.hid hal
 have HT := Lib.hid hT
 have HMx := Lib.hid hm
 have HEt := Lib.hid hE
 have HMo := Lib.hid (few_modst hM)
 have HNu := Lib.hid hn
 clear hal hT hm hE hn
 go_enter Tryz.func5, Tryz.ntmps5
 go_wp2_with fail
 refine HWk.out.mono ?_
 rintro e w0 ⟨rfl, hb0⟩
 have HB0 := Lib.hid (below_next HAL.out hb0)
 have B0 := Lib.hid (HBx.out.later hb0)
 have y0 := B0.out.cell 0 rfl
 have y1 := B0.out.cell 1 rfl
 have y2 := B0.out.cell 2 rfl
 have HF0 := Lib.hid (few11_any w0 _ hM (HA0.out.below HB0.out))
 clear hb0 HWk HBx HAL
 go_wp2_with fail
 refine HF0.out.mono ?_
 rintro e w1 ⟨v', rfl, hv', ha', hb1⟩
 have HV1 := Lib.hid hv'
 have HA1 := Lib.hid ha'
 obtain ⟨u0, u1, u2, rfl, ⟨q0, d0, rfl, -⟩, ⟨q1, d1, rfl, -⟩, ⟨q2, d2, rfl, -⟩⟩ := hv'
 have z := B0.out.later hb1
 have z0 := z.cell 0 rfl
 have z1 := z.cell 1 rfl
 have z2 := z.cell 2 rfl
 have z3 := z.frozen 0
 have z4 := z.frozen 1
 have z5 := z.frozen 2
 have ST := Lib.hid (few_stored HB0.out B0.out (by intro x hx; simp at hx; rcases hx with rfl | rfl | rfl <;> exact ⟨_, _, _, rfl⟩) hb1 HV1.out HA1.out)
 clear ha' hb1 z y0 y1 y2 HF0 HV1 HA1 HB0
 go_upto_region 4 with fail
 generalize (((w1.setCell ⟨w.heap.size, 0, none⟩ (.slice q0 (fewH hM).1.length d0)).setCell ⟨w.heap.size, 1, none⟩ (.slice q1 (fewH hM).2.1.length d1)).setCell ⟨w.heap.size, 2, none⟩ (.slice q2 (fewH hM).2.2.length d2)) = W2 at *
 obtain ⟨k0, HVx, HAx, hbW⟩ := ST.out
 have KB := Lib.hid k0
 have HV2 := Lib.hid HVx
 have HA2 := Lib.hid HAx
 have HBW := Lib.hid hbW
 have o0 := k0.cell 0 rfl
 have o1 := k0.cell 1 rfl
 have o2 := k0.cell 2 rfl
 have hl0 : w.heap.size < W2.heap.size := k0.lt
 clear ST k0 HVx HAx hbW z0 z1 z2 z3 z4 z5
 have HFF := Lib.hid (fun w' v (ha : HistA w' v (fewH hM)) => few_v ha)
 have HNum := Lib.hid HNu.out
 clear HNu
 generalize fewH hM = hF at *
 have HS : RowKit.Hid (∀ w', Below W2.heap.size W2 w' → (w'.cell? ⟨w.heap.size, 0, none⟩ = some (.slice q0 hF.1.length d0) ∧ w'.cell? ⟨w.heap.size, 1, none⟩ = some (.slice q1 hF.2.1.length d1) ∧ w'.cell? ⟨w.heap.size, 2, none⟩ = some (.slice q2 hF.2.2.length d2) ∧ Below W2.heap.size W2 w')) := Lib.hid (fun w' hb => ⟨(KB.out.later hb).cell 0 rfl, (KB.out.later hb).cell 1 rfl, (KB.out.later hb).cell 2 rfl, hb⟩)
 have HAb := Lib.hid (fun w' (hb : Below W2.heap.size W2 w') => HA2.out.below hb)
 have HVb := Lib.hid (fun w' (hb : Below W2.heap.size W2 w') => HV2.out.below hb)
 have HTb := Lib.hid (fun w' (hb : Below W2.heap.size W2 w') => Utf8Tabs_below HT.out (HBW.out.trans (hb.mono HBW.out.size)))
 have HFin := Lib.hid (fun w' (hb : Below W2.heap.size W2 w') => HBW.out.trans (hb.mono HBW.out.size))
 have HMb := Lib.hid (fun w' (hb : Below W2.heap.size W2 w') => HMx.out.below (HFin.out _ hb))
 have HEb := Lib.hid (fun w' (hb : Below W2.heap.size W2 w') => HEt.out.below (HFin.out _ hb))
 have HEv := Lib.hid (events12_any (HVb.out _ (Below.refl _ _)) HMo.out (HTb.out _ (Below.refl _ _)))
 cases hmm : mayH hF with
 | false =>
  have e1 : eventsP hF = ([], 4) := by unfold eventsP; rw [hmm]; rfl
  rw [e1] at HEv
  clear hmm e1
  go_wp2_with fail
  refine HEv.out.mono ?_
  rintro e w3 ⟨v3, rfl, he3, hb3⟩
  obtain ⟨p3, c3, rfl, -⟩ := he3
  go_wp2_with fail
  go_ret
  exact ⟨rfl, HFin.out _ hb3⟩
 | true =>
  have e1 : eventsP hF = (showE hF, 0) := by unfold eventsP; rw [hmm]; rfl
  rw [e1] at HEv
  have hlen := show_len ((mayH_iff hF).1 hmm)
  have HP := Lib.hid (fun w' (hb : Below W2.heap.size W2 w') => print12_any (HVb.out w' hb) HMo.out HNum.out (HTb.out w' hb) (HEb.out w' hb))
  have e2 : printP hF = writeL (showE hF) := by unfold printP; rw [hmm]; rfl
  rw [e2] at HP
  have HQ := Lib.hid (fun w' (hb : Below W2.heap.size W2 w') => parse12_any (writeL (showE hF)).1 (by have := sh_write_len (showE hF); omega) w' (HTb.out w' hb) (HMb.out w' hb) (HEb.out w' hb))
  have HTwo := Lib.hid (write_two hmm)
  have HRd := Lib.hid (fun h => show_read hmm HNum.out h)
  clear hmm e1 e2
  obtain ⟨⟨T, er⟩, hw⟩ : ∃ r, writeL (showE hF) = r := ⟨_, rfl⟩
  rw [hw] at HP HQ HTwo HRd
  generalize showE hF = Lv at *
  clear hw
  dsimp only at HEv HP HQ HTwo HRd
  obtain ⟨⟨h', n', k'⟩, hp⟩ : ∃ r, parseP T = r := ⟨_, rfl⟩
  rw [hp] at HQ HRd
  clear hp
  dsimp only at HQ
  go_wp2_with fail
  refine HEv.out.mono ?_
  rintro e w3 ⟨v3, rfl, he3, hb3⟩
  obtain ⟨p3, c3, rfl, -⟩ := he3
  have hB3 : Below W2.heap.size W2 w3 := hb3
  have r0 := (HS.out _ hB3).1
  have r1 := (HS.out _ hB3).2.1
  have r2 := (HS.out _ hB3).2.2.1
  have hng : ¬ ((1000 : Int) < (Lv.length : Int)) := by omega
  clear o0 o1 o2
  go_wp2_with fail
  refine (HP.out w3 hB3).mono ?_
  rintro e w4 ⟨rfl, hb4⟩
  have hB4 := below_next hB3 hb4
  clear r0 r1 r2
  go_wp2_with fail
  refine (HQ.out w4 hB4).mono ?_
  rintro e w5 ⟨hv5, rfl, hh5, hb5⟩
  have hB5 := below_next hB4 hb5
  obtain ⟨q0', d0', q1', d1', q2', d2', rfl⟩ := histV_form hh5
  have HV5 := Lib.hid hh5
  clear hh5
  have hal := (Below.refl w5.heap.size w5).alloc (Nat.le_refl _) (.cells #[.slice q0' h'.1.length d0', .slice q1' h'.2.1.length d1', .slice q2' h'.2.2.length d2'] 25)
  have hB6 := below_next hB5 hal
  have r0 := (HS.out _ hB6).1
  have r1 := (HS.out _ hB6).2.1
  have r2 := (HS.out _ hB6).2.2.1
  rcases HTwo.out with he | he
  ·subst he
   have h9 := HRd.out rfl
   injection h9 with h1 h2
   injection h2 with h2 h3
   subst h1 h2 h3
   go_wp2_with fail
   obtain ⟨a0, a1, a2⟩ := histV_parts (HV5.out.below hal)
   obtain ⟨g0, g1, g2⟩ := histV_parts (HVb.out _ hB6)
   refine (rsame10_any _ _ _ _ _ _ h' h' _ a0 a1 a2 HMo.out g0 g1 g2 HMo.out).mono ?_
   rintro e w7 ⟨rfl, hb7⟩
   rw [eqH_own]
   go_wp2_with fail
   go_ret
   exact ⟨rfl, HFin.out _ (below_next hB6 hb7)⟩
  ·subst he
   go_wp2_with fail
   go_ret
   exact ⟨rfl, HFin.out _ hB6⟩
end Go.Proofs.YthgbfaoblnkniaaGreatDoor
