/-
  Layer 12 (show): its text, the chapter's example, the statement ShowEvents. Conditions: unicode/utf8's two tables and event.words hold what their initialisers lay, internal/bytealg.MaxLen holds a number.
-/
import Derived.Test.YthgbfaoblnkniaaGreatDoorZxShA
import Derived.Test.YthgbfaoblnkniaaGreatDoorZxShC
import Derived.Test.YthgbfaoblnkniaaGreatDoorZn
import Derived.Test.YthgbfaoblnkniaaGreatDoorZo
import Derived.Test.YthgbfaoblnkniaaGreatDoorZh
namespace Go.Proofs.YthgbfaoblnkniaaGreatDoor
open Go.RowKit Go.Lib
theorem show_mod {h : HistM} (hm : mayH h = true) (hn : NumH h) : ModE (showE h) := fun x hx => by
 obtain ⟨a, b⟩ := may_short x (show_may ((mayH_iff h).1 hm) x hx)
 exact ⟨a, b, show_num hn x hx⟩
set_option maxRecDepth 100000 in
set_option maxHeartbeats 1000000 in
theorem print12_any {w : World} {v : Value} {h : HistM} (hv : HistV w v h) (hm : Modst h) (hn : NumH h) (hT : Lib.Utf8Tabs 1 2 w) (hE : EvTab w) :
  Calls Tryz.prog 9 #[v] w fun e w' => e = .returned (.tuple #[.string (bs (printP h).1), .int .i64 (printP h).2]) ∧ Below w.heap.size w w' := by
 have H0 := Lib.hid hv
 obtain ⟨v0, v1, v2, rfl, ⟨p0, c0, rfl, -⟩, ⟨p1, c1, rfl, -⟩, ⟨p2, c2, rfl, -⟩⟩ := hv
 have hal := (Below.refl w.heap.size w).alloc (Nat.le_refl _) (.cells #[.slice p0 h.1.length c0, .slice p1 h.2.1.length c1, .slice p2 h.2.2.length c2] 25)
 have HEv := Lib.hid (events12_any (H0.out.below hal) hm (Utf8Tabs_below hT hal))
 have HP := Lib.hid (fun (hmm : mayH h = true) v' w' (hb : Below w.heap.size w w') he => logprint_any v' (showE h) w' he (by have := show_len ((mayH_iff h).1 hmm); omega) (show_mod hmm hn) (Utf8Tabs_below hT hb) (hE.below hb))
 have HAL := Lib.hid hal
 clear hal hT hE H0
 unfold eventsP at HEv
 unfold printP
 go_enter Tryz.func9, Tryz.ntmps9
 cases hmm : mayH h with
 | false =>
  rw [hmm] at HEv
  clear HP hmm
  simp only [Bool.false_eq_true, if_false] at HEv ⊢
  go_wp2_with fail
  refine HEv.out.mono ?_
  rintro e w1 ⟨v', rfl, he, hb1⟩
  go_wp2_with fail
  go_ret2
  exact ⟨rfl, below_next HAL.out hb1⟩
 | true =>
  rw [hmm] at HEv
  simp only [if_true] at HEv ⊢
  have HP2 := Lib.hid (HP.out hmm)
  clear HP hmm
  go_wp2_with fail
  refine HEv.out.mono ?_
  rintro e w1 ⟨v', rfl, he, hb1⟩
  have hB := below_next HAL.out hb1
  go_wp2_with fail
  refine (HP2.out v' w1 hB he).mono ?_
  rintro e w2 ⟨rfl, hb2⟩
  go_wp2_with fail
  go_ret2
  exact ⟨rfl, below_next hB hb2⟩
set_option maxRecDepth 100000 in
set_option maxHeartbeats 1000000 in
theorem rprint12_any {w : World} {v : Value} {h : HistM} (hv : HistV w v h) (hm : Modst h) (hn : NumH h) :
  Calls Tryz.prog 10 #[v] w fun e w' => e = .returned (.tuple #[.string (bs (printP h).1), .int .i64 (printP h).2]) ∧ Below w.heap.size w w' := by
 have H0 := Lib.hid hv
 obtain ⟨v0, v1, v2, rfl, ⟨p0, c0, rfl, -⟩, ⟨p1, c1, rfl, -⟩, ⟨p2, c2, rfl, -⟩⟩ := hv
 have hal := (Below.refl w.heap.size w).alloc (Nat.le_refl _) (.cells #[.slice p0 h.1.length c0, .slice p1 h.2.1.length c1, .slice p2 h.2.2.length c2] 25)
 have HEv := Lib.hid (revents12_any (H0.out.below hal) hm)
 have HP := Lib.hid (fun (hmm : mayH h = true) v' w' he => rlogprint_any v' (showE h) w' he (by have := show_len ((mayH_iff h).1 hmm); omega) (show_mod hmm hn))
 have HAL := Lib.hid hal
 clear hal H0
 unfold eventsP at HEv
 unfold printP
 go_enter Tryz.func10, Tryz.ntmps10
 cases hmm : mayH h with
 | false =>
  rw [hmm] at HEv
  clear HP hmm
  simp only [Bool.false_eq_true, if_false] at HEv ⊢
  go_wp2_with fail
  refine HEv.out.mono ?_
  rintro e w1 ⟨v', rfl, he, hb1⟩
  go_wp2_with fail
  go_ret2
  exact ⟨rfl, below_next HAL.out hb1⟩
 | true =>
  rw [hmm] at HEv
  simp only [if_true] at HEv ⊢
  have HP2 := Lib.hid (HP.out hmm)
  clear HP hmm
  go_wp2_with fail
  refine HEv.out.mono ?_
  rintro e w1 ⟨v', rfl, he, hb1⟩
  have hB := below_next HAL.out hb1
  go_wp2_with fail
  refine (HP2.out v' w1 he).mono ?_
  rintro e w2 ⟨rfl, hb2⟩
  go_wp2_with fail
  go_ret2
  exact ⟨rfl, below_next hB hb2⟩
set_option maxRecDepth 100000 in
theorem ex12_parse : parseP [98, 101, 103, 105, 110, 32, 115, 10, 98, 101, 103, 105, 110, 32, 116, 10, 111, 107, 32, 116, 10, 111, 107, 32, 115] = (([[115], [116]], [], [(0, 1, []), (1, 1, [])]), 0, 0) := by decide +kernel
set_option maxRecDepth 100000 in
theorem ex12_print : printP ([[115], [116]], [], [(0, 1, []), (1, 1, [])]) = ([98, 101, 103, 105, 110, 32, 115, 10, 111, 107, 32, 115, 10, 98, 101, 103, 105, 110, 32, 116, 10, 111, 107, 32, 116, 10], 0) := by decide +kernel
set_option maxRecDepth 100000 in
set_option maxHeartbeats 1000000 in
theorem works12_any (w : World) (hT : Lib.Utf8Tabs 1 2 w) (hm : HasMax w) (hE : EvTab w) :
  Calls Tryz.prog 12 #[] w fun e w' => e = .returned (.bool true) ∧ Below w.heap.size w w' := by
 have H1 := Lib.hid (parse12_any [98, 101, 103, 105, 110, 32, 115, 10, 98, 101, 103, 105, 110, 32, 116, 10, 111, 107, 32, 116, 10, 111, 107, 32, 115] (by decide) w hT hm hE)
 rw [ex12_parse] at H1
 have H2 := Lib.hid (fun v' w' (hb : Below w.heap.size w w') hv => print12_any (w := w') (v := v') (h := ([[115], [116]], [], [(0, 1, []), (1, 1, [])])) hv ⟨by decide, by decide, by decide, by decide, by decide, by decide⟩ (by unfold NumH; decide) (Utf8Tabs_below hT hb) (hE.below hb))
 rw [ex12_print] at H2
 clear hT hm hE
 go_enter Tryz.func12, Tryz.ntmps12
 go_wp2_with fail
 refine H1.out.mono ?_
 rintro e w1 ⟨hv, rfl, hh, hb1⟩
 obtain ⟨p0, c0, p1, c1, p2, c2, rfl⟩ := histV_form hh
 have HV := Lib.hid hh
 dsimp only [List.length_cons, List.length_nil]
 clear hh
 go_wp2_with fail
 have hal := (Below.refl w1.heap.size w1).alloc (Nat.le_refl _) (.cells #[.slice p0 2 c0, .slice p1 0 c1, .slice p2 2 c2] 25)
 have hb2 := below_next hb1 hal
 refine (H2.out _ _ hb2 (HV.out.below hal)).mono ?_
 rintro e w2 ⟨rfl, hb3⟩
 go_wp2_with fail
 go_ret
 exact ⟨by first | rfl | decide +kernel, below_next hb2 hb3⟩
set_option maxRecDepth 100000 in
set_option maxHeartbeats 4000000 in
theorem showevents_any (v : Value) (hM : HistM)  (w : World) (hv : HistA w v hM) (hT : Lib.Utf8Tabs 1 2 w) (hn : NumH (fewH hM)) (hm : HasMax w) (hE : EvTab w) :
  Calls Tryz.prog 3 #[v] w fun e w' => e = .returned (.bool true) ∧ Below w.heap.size w w' := by
 have b0 : ∀ x0 x1 x2, Blk (w.alloc (.cells #[x0, x1, x2] 25)) w.heap.size 25 [x0, x1, x2] := fun x0 x1 x2 => Blk.new w _ [x0, x1, x2]
 have hb0 : ∀ o, Below w.heap.size w (w.alloc o) := fun o => (Below.refl _ w).alloc (Nat.le_refl _) o
 have HA0 := Lib.hid hv
 obtain ⟨v0, v1, v2, rfl, ⟨p0, c0, rfl, -⟩, ⟨p1, c1, rfl, -⟩, ⟨p2, c2, rfl, -⟩⟩ := hv
 have HF0 := Lib.hid (few11_any _ _ hM (HA0.out.below (hb0 (.cells #[.slice p0 hM.1.length c0, .slice p1 hM.2.1.length c1, .slice p2 hM.2.2.length c2] 25))))
 have HB0 := Lib.hid hb0
 have B0 := Lib.hid (b0 (.slice p0 hM.1.length c0) (.slice p1 hM.2.1.length c1) (.slice p2 hM.2.2.length c2))
 have y0 := B0.out.cell 0 rfl
 have y1 := B0.out.cell 1 rfl
 have y2 := B0.out.cell 2 rfl
 have HT := Lib.hid hT
 have HMo := Lib.hid (few_modst hM)
 clear b0 hb0 hT
 have HNu := Lib.hid hn
 have HMx := Lib.hid hm
 have HEt := Lib.hid hE
 clear hn hm hE
 go_enter Tryz.func3, Tryz.ntmps3
 go_wp2_with fail
 refine HF0.out.mono ?_
 rintro e w1 ⟨v', rfl, hv', ha', hb1⟩
 have HV1 := Lib.hid hv'
 have HA1 := Lib.hid ha'
 obtain ⟨u0, u1, u2, rfl, ⟨q0, d0, rfl, -⟩, ⟨q1, d1, rfl, -⟩, ⟨q2, d2, rfl, -⟩⟩ := hv'
 have z := B0.out.later hb1
 have z0 := z.cell 0 rfl
 have z1 := z.cell 1 rfl
 have z2 := z.cell 2 rfl
 have z3 := z.frozen 0
 have z4 := z.frozen 1
 have z5 := z.frozen 2
 have ST := Lib.hid (few_stored (HB0.out _) B0.out (by intro x hx; simp at hx; rcases hx with rfl | rfl | rfl <;> exact ⟨_, _, _, rfl⟩) hb1 HV1.out HA1.out)
 clear ha' hb1 z y0 y1 y2 HF0 HV1 HA1
 go_upto_region 2 with fail
 generalize (((w1.setCell ⟨w.heap.size, 0, none⟩ (.slice q0 (fewH hM).1.length d0)).setCell ⟨w.heap.size, 1, none⟩ (.slice q1 (fewH hM).2.1.length d1)).setCell ⟨w.heap.size, 2, none⟩ (.slice q2 (fewH hM).2.2.length d2)) = W2 at *
 obtain ⟨k0, HVx, HAx, hbW⟩ := ST.out
 have KB := Lib.hid k0
 have HV2 := Lib.hid HVx
 have HA2 := Lib.hid HAx
 have HBW := Lib.hid hbW
 have o0 := k0.cell 0 rfl
 have o1 := k0.cell 1 rfl
 have o2 := k0.cell 2 rfl
 have hl0 : w.heap.size < W2.heap.size := k0.lt
 clear ST k0 HVx HAx hbW z0 z1 z2 z3 z4 z5
 have HFF := Lib.hid (fun w' v (ha : HistA w' v (fewH hM)) => few_v ha)
 have HNum := Lib.hid HNu.out
 clear HNu
 generalize fewH hM = hF at *
 have HS : RowKit.Hid (∀ w', Below W2.heap.size W2 w' → (w'.cell? ⟨w.heap.size, 0, none⟩ = some (.slice q0 hF.1.length d0) ∧ w'.cell? ⟨w.heap.size, 1, none⟩ = some (.slice q1 hF.2.1.length d1) ∧ w'.cell? ⟨w.heap.size, 2, none⟩ = some (.slice q2 hF.2.2.length d2) ∧ Below W2.heap.size W2 w')) := Lib.hid (fun w' hb => ⟨(KB.out.later hb).cell 0 rfl, (KB.out.later hb).cell 1 rfl, (KB.out.later hb).cell 2 rfl, hb⟩)
 have HAb := Lib.hid (fun w' (hb : Below W2.heap.size W2 w') => HA2.out.below hb)
 have HVb := Lib.hid (fun w' (hb : Below W2.heap.size W2 w') => HV2.out.below hb)
 have HTb := Lib.hid (fun w' (hb : Below W2.heap.size W2 w') => Utf8Tabs_below HT.out (HBW.out.trans (hb.mono HBW.out.size)))
 have HFin := Lib.hid (fun w' (hb : Below W2.heap.size W2 w') => HBW.out.trans (hb.mono HBW.out.size))
 have HMb := Lib.hid (fun w' (hb : Below W2.heap.size W2 w') => HMx.out.below (HFin.out _ hb))
 have HEb := Lib.hid (fun w' (hb : Below W2.heap.size W2 w') => HEt.out.below (HFin.out _ hb))
 have HEl : RowKit.Hid ((eventsP hF).1.length ≤ 1000000) := Lib.hid (by
  unfold eventsP
  split
  ·rename_i hmm
   have := show_len ((mayH_iff hF).1 hmm)
   show (showE hF).length ≤ 1000000
   omega
  ·exact Nat.zero_le _)
 clear o0 o1 o2
 have ca0 := (HS.out _ (Below.refl _ _)).1
 have cb0 := (HS.out _ (Below.refl _ _)).2.1
 have cc0 := (HS.out _ (Below.refl _ _)).2.2.1
 go_wp2_with fail
 refine (HFF.out _ _ (HAb.out _ (Below.refl _ _))).mono ?_
 rintro e x1 ⟨va1, rfl, hva1, -, hb1⟩
 have hB1 : Below W2.heap.size W2 x1 := below_next (Below.refl _ _) hb1
 clear ca0 cb0 cc0
 go_wp2_with fail
 refine (events12_any hva1 HMo.out (HTb.out _ hB1)).mono ?_
 rintro e x2 ⟨v2, rfl, he2, hb2⟩
 have hB2 : Below W2.heap.size W2 x2 := below_next hB1 hb2
 have HE2 := Lib.hid he2
 clear he2 hva1
 have ca2 := (HS.out _ hB2).1
 have cb2 := (HS.out _ hB2).2.1
 have cc2 := (HS.out _ hB2).2.2.1
 go_wp2_with fail
 refine (revents12_any (HVb.out _ hB2) HMo.out).mono ?_
 rintro e x3 ⟨v3, rfl, he3, hb3⟩
 have hB3 : Below W2.heap.size W2 x3 := below_next hB2 hb3
 have HE3 := Lib.hid he3
 have HE2b := Lib.hid (HE2.out.below hb3)
 clear he3
 clear ca2 cb2 cc2
 have ca3 := (HS.out _ hB3).1
 have cb3 := (HS.out _ hB3).2.1
 have cc3 := (HS.out _ hB3).2.2.1
 go_wp2_with fail
 refine (HFF.out _ _ (HAb.out _ hB3)).mono ?_
 rintro e x4 ⟨va4, rfl, hva4, -, hb4⟩
 have hB4 : Below W2.heap.size W2 x4 := below_next hB3 hb4
 clear ca3 cb3 cc3
 go_wp2_with fail
 refine (print12_any hva4 HMo.out HNum.out (HTb.out _ hB4) (HEb.out _ hB4)).mono ?_
 rintro e x5 ⟨rfl, hb5⟩
 have hB5 : Below W2.heap.size W2 x5 := below_next hB4 hb5
 clear hva4
 have ca5 := (HS.out _ hB5).1
 have cb5 := (HS.out _ hB5).2.1
 have cc5 := (HS.out _ hB5).2.2.1
 go_wp2_with fail
 refine (rprint12_any (HVb.out _ hB5) HMo.out HNum.out).mono ?_
 rintro e x6 ⟨rfl, hb6⟩
 have hB6 : Below W2.heap.size W2 x6 := below_next hB5 hb6
 have HE3f := Lib.hid (((HE3.out.below hb4).below hb5).below hb6)
 have HE2f := Lib.hid (((HE2b.out.below hb4).below hb5).below hb6)
 clear ca5 cb5 cc5
 go_wp2_with fail
 refine (rsame08_any _ _ _ _ _ HE2f.out HE3f.out HEl.out HEl.out).mono ?_
 rintro e x7 ⟨rfl, hb7⟩
 have hB7 : Below W2.heap.size W2 x7 := below_next hB6 hb7
 rw [decide_eq_true (Eq.refl (eventsP hF).1)]
 go_wp2_with fail
 refine (works12_any _ (HTb.out _ hB7) (HMb.out _ hB7) (HEb.out _ hB7)).mono ?_
 rintro e x8 ⟨rfl, hb8⟩
 have hB8 : Below W2.heap.size W2 x8 := below_next hB7 hb8
 go_wp2_with fail
 go_ret
 exact ⟨rfl, HFin.out _ hB8⟩
end Go.Proofs.YthgbfaoblnkniaaGreatDoor
