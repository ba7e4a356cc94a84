/-
  Layer 13 (inner): the chapter's example, walked. Conditions: unicode/utf8's two tables and event.words hold what their initialisers lay, internal/bytealg.MaxLen holds a number.
-/
import Derived.Test.YtmgchjddpmmglaaGreatDoorQxInD
import Derived.Test.YtmgchjddpmmglaaGreatDoorQxInE
import Derived.Test.YtmgchjddpmmglaaGreatDoorQId
namespace Go.Proofs.YtmgchjddpmmglaaGreatDoor
open Go.RowKit Go.Lib
theorem hist_stored {w : World} {B : Nat} {x0 x1 x2 : Value} {h : HistM} {p0 p1 p2 : Option Addr} {n0 n1 n2 c0 c1 c2 : Nat} (hB : Blk w B 25 [x0, x1, x2]) (hx : ∀ x ∈ [x0, x1, x2], ∃ p n c, x = Value.slice p n c) (hv : HistV w (.agg #[.slice p0 n0 c0, .slice p1 n1 c1, .slice p2 n2 c2]) h) :
  Blk (((w.setCell ⟨B, 0, none⟩ (.slice p0 n0 c0)).setCell ⟨B, 1, none⟩ (.slice p1 n1 c1)).setCell ⟨B, 2, none⟩ (.slice p2 n2 c2)) B 25 [.slice p0 n0 c0, .slice p1 n1 c1, .slice p2 n2 c2] ∧
  HistV (((w.setCell ⟨B, 0, none⟩ (.slice p0 n0 c0)).setCell ⟨B, 1, none⟩ (.slice p1 n1 c1)).setCell ⟨B, 2, none⟩ (.slice p2 n2 c2)) (.agg #[.slice p0 n0 c0, .slice p1 n1 c1, .slice p2 n2 c2]) h := by
 have s0 : SlBox w B 25 [x0, x1, x2] := ⟨hB, hx⟩
 have s1 := s0.set 0 p0 n0 c0
 have s2 := s1.set 1 p1 n1 c1
 have s3 := s2.set 2 p2 n2 c2
 exact ⟨s3.1, histV_box s2 2 _ (histV_box s1 1 _ (histV_box s0 0 _ hv))⟩
theorem ints_one {w : World} {B : Nat} {t : TypeId} {n : Int} (h : Blk w B t [.int .i64 n]) : IntsS w (.slice (some ⟨B, 0, none⟩) 1 1) [n] := ⟨_, 1, rfl, fun j hj => by
 obtain rfl : j = 0 := by simpa using hj
 exact ⟨_, rfl, h.cell 0 rfl⟩⟩
set_option maxRecDepth 100000 in
theorem ex13_parse : parseP [98, 101, 103, 105, 110, 32, 115, 10, 119, 114, 105, 116, 101, 32, 115, 32, 120, 32, 49, 10, 114, 101, 97, 100, 32, 115, 32, 120, 32, 50, 10, 111, 107, 32, 115] = (([[115]], [[120]], [(0, 1, [(true, 0, 1, 1), (false, 0, 1, 2)])]), 0, 0) := by decide +kernel
theorem ex13_own : ownP ([[115]], [[120]], [(0, 1, [(true, 0, 1, 1), (false, 0, 1, 2)])]) 0 1 = ((1, 1), true) := by decide +kernel
theorem ex13_bad : badL ([[115]], [[120]], [(0, 1, [(true, 0, 1, 1), (false, 0, 1, 2)])]) 0 = [1] := by decide +kernel
theorem ex13_writers : writersL ([[115]], [[120]], [(0, 1, [(true, 0, 1, 1), (false, 0, 1, 2)])]) 0 = [0] := by decide +kernel
theorem ex13_modst : Modst ([[115]], [[120]], [(0, 1, [(true, 0, 1, 1), (false, 0, 1, 2)])]) := ⟨by decide, by decide, by decide, by decide, by decide, by decide⟩
set_option maxRecDepth 100000 in
set_option maxHeartbeats 4000000 in
theorem works13_any (w : World) (hT : Lib.Utf8Tabs 1 2 w) (hm : HasMax w) (hE : EvTab w) :
  Calls Tryz.prog 36 #[] w fun e w' => e = .returned (.bool true) ∧ Below w.heap.size w w' := by
 have H1 := Lib.hid (fun w' (hb : Below w.heap.size w w') => parse12_any [98, 101, 103, 105, 110, 32, 115, 10, 119, 114, 105, 116, 101, 32, 115, 32, 120, 32, 49, 10, 114, 101, 97, 100, 32, 115, 32, 120, 32, 50, 10, 111, 107, 32, 115] (by decide) w' (Utf8Tabs_below hT hb) (hm.below hb) (hE.below hb))
 rw [ex13_parse] at H1
 have HOw0 := Lib.hid (fun w' v (hv : HistV w' v ([[115]], [[120]], [(0, 1, [(true, 0, 1, 1), (false, 0, 1, 2)])])) hT => own13_any 0 1 hv ex13_modst hT)
 rw [ex13_own] at HOw0
 have HBd0 := Lib.hid (fun w' v (hv : HistV w' v ([[115]], [[120]], [(0, 1, [(true, 0, 1, 1), (false, 0, 1, 2)])])) hT => bad13_any 0 hv ex13_modst hT)
 rw [ex13_bad] at HBd0
 have HWr0 := Lib.hid (fun w' v (hv : HistV w' v ([[115]], [[120]], [(0, 1, [(true, 0, 1, 1), (false, 0, 1, 2)])])) hT => writers13_any 0 hv ex13_modst hT)
 rw [ex13_writers] at HWr0
 have HTb := Lib.hid (fun w' (hb : Below w.heap.size w w') => Utf8Tabs_below hT hb)
 clear hT hm hE
 go_enter Tryz.func36, Tryz.ntmps36
 go_wp2_with fail
 refine (H1.out _ (Below.refl _ _)).mono ?_
 rintro e w1 ⟨hv, rfl, hh, hb1⟩
 obtain ⟨p0, c0, p1, c1, p2, c2, rfl⟩ := histV_form hh
 have HV := Lib.hid hh
 have HB1 := Lib.hid hb1
 dsimp only [List.length_cons, List.length_nil]
 clear hh hb1 H1
 go_wp2_with fail
 have hal := (Below.refl w1.heap.size w1).alloc (Nat.le_refl _) (.cells #[.slice p0 1 c0, .slice p1 1 c1, .slice p2 1 c2] 25)
 have hbk := Blk.new w1 25 [.slice p0 1 c0, .slice p1 1 c1, .slice p2 1 c2]
 refine (HOw0.out _ _ (HV.out.below hal) (HTb.out _ (below_next HB1.out hal))).mono ?_
 rintro e w2 ⟨rfl, hb2⟩
 have HB2 := Lib.hid (below_next (below_next HB1.out hal) hb2)
 have HV2 := Lib.hid (HV.out.below (below_next hal hb2))
 have HK2 := Lib.hid (hbk.later hb2)
 have z0 := HK2.out.cell 0 rfl
 have z1 := HK2.out.cell 1 rfl
 have z2 := HK2.out.cell 2 rfl
 have zl := HK2.out.lt
 clear hal hbk hb2 HV HB1 HOw0
 go_wp2_with fail
 have hal := (Below.refl w2.heap.size w2).alloc (Nat.le_refl _) (.cells #[.int .i64 1, .int .i64 1] 49)
 have hbv := Blk.new w2 49 [.int .i64 1, .int .i64 1]
 refine (HBd0.out _ _ (HV2.out.below hal) (HTb.out _ (below_next HB2.out hal))).mono ?_
 rintro e w3 ⟨vb, rfl, hib, hb3⟩
 have HB3 := Lib.hid (below_next (below_next HB2.out hal) hb3)
 have HV3 := Lib.hid (HV2.out.below (below_next hal hb3))
 have HK3 := Lib.hid (HK2.out.later (below_next hal hb3))
 have HVa3 := Lib.hid (hbv.later hb3)
 have HIb := Lib.hid hib
 clear hal hbv hb3 hib z0 z1 z2 HBd0
 go_wp2_with fail
 have hal := (Below.refl w3.heap.size w3).alloc (Nat.le_refl _) (.cells #[.int .i64 1] 3)
 refine (sameints_eq (HIb.out.below hal) (ints_one (Blk.new w3 3 [.int .i64 1])) (by decide)).mono ?_
 rintro e w4 ⟨rfl, hb4⟩
 have HB4 := Lib.hid (below_next (below_next HB3.out hal) hb4)
 have HV4 := Lib.hid (HV3.out.below (below_next hal hb4))
 have z := HK3.out.later (below_next hal hb4)
 have z0 := z.cell 0 rfl
 have z1 := z.cell 1 rfl
 have z2 := z.cell 2 rfl
 have y0 := (HVa3.out.later (below_next hal hb4)).cell 1 rfl
 clear hal hb4 z HIb
 go_wp2_with fail
 refine (HWr0.out _ _ HV4.out (HTb.out _ HB4.out)).mono ?_
 rintro e w5 ⟨vw, rfl, hiw, hb5⟩
 have HB5 := Lib.hid (below_next HB4.out hb5)
 have HIw := Lib.hid hiw
 clear hb5 hiw z0 z1 z2 y0 HWr0
 go_wp2_with fail
 have hal := (Below.refl w5.heap.size w5).alloc (Nat.le_refl _) (.cells #[.int .i64 0] 3)
 refine (sameints_eq (HIw.out.below hal) (ints_one (Blk.new w5 3 [.int .i64 0])) (by decide)).mono ?_
 rintro e w6 ⟨rfl, hb6⟩
 have HB6 := Lib.hid (below_next (below_next HB5.out hal) hb6)
 clear hal hb6
 go_wp2_with fail
 go_ret
 exact ⟨rfl, HB6.out⟩
end Go.Proofs.YtmgchjddpmmglaaGreatDoor
