/-
  Layer 17 (whole): the chapter's example, walked. Conditions: unicode/utf8's two tables and event.words hold what their initialisers lay, internal/bytealg.MaxLen holds a number.
-/
import Derived.Test.YtmgchjddpmmglaaGreatDoorRxWhB
import Derived.Test.YtmgchjddpmmglaaGreatDoorRxWhE
namespace Go.Proofs.YtmgchjddpmmglaaGreatDoor
open Go.RowKit Go.Lib
set_option maxRecDepth 100000 in
theorem ex17_parse : parseP [98, 101, 103, 105, 110, 32, 115, 10, 114, 101, 97, 100, 32, 115, 32, 120, 32, 63, 10, 105, 110, 102, 111, 32, 115] = (([[115]], [[120]], [(0, 3, [(false, 0, 2, 0)])]), 0, 0) := by decide +kernel
theorem ex17_make : makeP ([[115]], [[120]], [(0, 3, [(false, 0, 2, 0)])]) ([true], [(0, 0)]) = (([[115]], [[120]], [(0, 1, [(false, 0, 0, 0)])]), 0) := by decide +kernel
theorem ex17_yes : wholeP ([[115]], [[120]], [(0, 1, [(false, 0, 0, 0)])]) = true := by decide +kernel
theorem ex17_no : wholeP ([[115]], [[120]], [(0, 3, [(false, 0, 2, 0)])]) = false := by decide +kernel
theorem ex17_com : committedP ([[115]], [[120]], [(0, 1, [(false, 0, 0, 0)])]) = [0] := by decide +kernel
theorem ex17_mod : Modst ([[115]], [[120]], [(0, 3, [(false, 0, 2, 0)])]) := ⟨by decide, by decide, by decide, by decide, by decide, by decide⟩
theorem ex17_mog : Modst ([[115]], [[120]], [(0, 1, [(false, 0, 0, 0)])]) := ⟨by decide, by decide, by decide, by decide, by decide, by decide⟩
theorem world_lit (w : World) (b : Bool) (x y : Int) : WorldV ((w.alloc (.cells #[.bool b] 4)).alloc (.cells #[.int .i64 x, .int .i64 y] 49)) (.agg #[.slice (some ⟨w.heap.size, 0, none⟩) 1 1, .slice (some ⟨w.heap.size + 1, 0, none⟩) 1 1]) ([b], [(x, y)]) := by
 refine ⟨_, _, rfl, ⟨_, 1, rfl, ⟨Nat.le_refl _, by unfold maxLen; omega⟩, fun j hj => ⟨_, rfl, ?_⟩⟩, ⟨_, 1, rfl, ⟨Nat.le_refl _, by unfold maxLen; omega⟩, fun j hj => ⟨_, rfl, ?_⟩⟩⟩
 ·obtain rfl : j = 0 := by simpa using hj
  exact ((Blk.new w 4 [.bool b]).alloc _).cell 0 rfl
 ·obtain rfl : j = 0 := by simpa using hj
  have h9 := Blk.new (w.alloc (.cells #[.bool b] 4)) 49 [.int .i64 x, .int .i64 y]
  simp only [World.size_alloc] at h9
  exact ⟨h9.cell 0 rfl, h9.cell 1 rfl⟩
theorem int_lit (w : World) (n : Int) : IntsS (w.alloc (.cells #[.int .i64 n] 3)) (.slice (some ⟨w.heap.size, 0, none⟩) 1 1) [n] := ⟨_, 1, rfl, fun j hj => ⟨_, rfl, by
 obtain rfl : j = 0 := by simpa using hj
 exact (Blk.new w 3 [.int .i64 n]).cell 0 rfl⟩⟩
set_option maxRecDepth 100000 in
set_option maxHeartbeats 4000000 in
theorem works17_any (w : World) (hT : Lib.Utf8Tabs 1 2 w) (hm : HasMax w) (hE : EvTab w) :
  Calls Tryz.prog 47 #[] w fun e w' => e = .returned (.bool true) ∧ Below w.heap.size w w' := by
 have H1 := Lib.hid (parse12_any [98, 101, 103, 105, 110, 32, 115, 10, 114, 101, 97, 100, 32, 115, 32, 120, 32, 63, 10, 105, 110, 102, 111, 32, 115] (by decide) w hT hm hE)
 rw [ex17_parse] at H1
 have HMk := Lib.hid (fun w' v u (hv : HistV w' v ([[115]], [[120]], [(0, 3, [(false, 0, 2, 0)])])) (hu : WorldV w' u ([true], [(0, 0)])) hT => make17_any hv hu ex17_mod (by decide) hT)
 rw [ex17_make] at HMk
 have HIg := Lib.hid (fun w' v (hv : HistV w' v ([[115]], [[120]], [(0, 1, [(false, 0, 0, 0)])])) hT => wis_any hv ex17_mog hT)
 rw [ex17_yes] at HIg
 have HIh := Lib.hid (fun w' v (hv : HistV w' v ([[115]], [[120]], [(0, 3, [(false, 0, 2, 0)])])) hT => wis_any hv ex17_mod hT)
 rw [ex17_no] at HIh
 have HCg := Lib.hid (fun w' v (hv : HistV w' v ([[115]], [[120]], [(0, 1, [(false, 0, 0, 0)])])) hT => committed_any hv ex17_mog hT)
 rw [ex17_com] at HCg
 have HTb := Lib.hid (fun w' (hb : Below w.heap.size w w') => Utf8Tabs_below hT hb)
 clear hT hm hE
 go_enter Tryz.func47, Tryz.ntmps47
 go_wp2_with fail
 refine H1.out.mono ?_
 rintro e w1 ⟨hv, rfl, hh, hb1⟩
 obtain ⟨p0, c0, p1, c1, p2, c2, rfl⟩ := histV_form hh
 have HV := Lib.hid hh
 have HB1 := Lib.hid hb1
 dsimp only [List.length_cons, List.length_nil]
 clear hh hb1 H1
 go_wp2_with fail
 have hA1 := (Below.refl w1.heap.size w1).alloc (Nat.le_refl _) (.cells #[.slice p0 1 c0, .slice p1 1 c1, .slice p2 1 c2] 25)
 obtain ⟨wa, hwa⟩ : ∃ q, w1.alloc (.cells #[.slice p0 1 c0, .slice p1 1 c1, .slice p2 1 c2] 25) = q := ⟨_, rfl⟩
 have HK : RowKit.Hid (Blk wa w1.heap.size 25 [.slice p0 1 c0, .slice p1 1 c1, .slice p2 1 c2]) := Lib.hid (by rw [← hwa]; exact Blk.new w1 25 _)
 have hsa : wa.heap.size = w1.heap.size + 1 := by rw [← hwa]; simp
 rw [hwa] at hA1
 have hw2 := world_lit wa true 0 0
 rw [hsa] at hw2
 have hA2 := ((Below.refl wa.heap.size wa).alloc (Nat.le_refl _) (.cells #[.bool true] 4)).alloc (by simp) (.cells #[.int .i64 0, .int .i64 0] 49)
 have HW2 := Lib.hid hw2
 have HA2 := Lib.hid (below_next hA1 hA2)
 have HA3 := Lib.hid hA2
 try rw [hwa]
 clear hw2 hA2 hsa hA1
 refine (HMk.out _ _ _ (HV.out.below HA2.out) HW2.out (HTb.out _ (below_next HB1.out HA2.out))).mono ?_
 rintro e w2 ⟨v2, rfl, hv2, hb2⟩
 obtain ⟨q0, d0, q1, d1, q2, d2, rfl⟩ := histV_form hv2
 have HB2 := Lib.hid (below_next (below_next HB1.out HA2.out) hb2)
 have HK2 := Lib.hid ((HK.out.later HA3.out).later hb2)
 have HVh := Lib.hid (HV.out.below (below_next HA2.out hb2))
 have HVg := Lib.hid hv2
 dsimp only [List.length_cons, List.length_nil]
 clear hb2 hv2 HV HB1 HMk HK HA2 HA3 HW2
 have hA4 := (Below.refl w2.heap.size w2).alloc (Nat.le_refl _) (.cells #[.slice q0 1 d0, .slice q1 1 d1, .slice q2 1 d2] 25)
 have HG := Lib.hid (Blk.new w2 25 [.slice q0 1 d0, .slice q1 1 d1, .slice q2 1 d2])
 have HK3 := Lib.hid (HK2.out.alloc (.cells #[.slice q0 1 d0, .slice q1 1 d1, .slice q2 1 d2] 25))
 have HVh3 := Lib.hid (HVh.out.below hA4)
 have HVg3 := Lib.hid (HVg.out.below hA4)
 have HB3 := Lib.hid (below_next HB2.out hA4)
 have hkl : w1.heap.size < w2.heap.size := HK2.out.lt
 clear hA4 HB2 HK2 HVh HVg
 go_wp2_with fail
 refine (HIg.out _ _ HVg3.out (HTb.out _ HB3.out)).mono ?_
 rintro e w3 ⟨rfl, hb3⟩
 have HB4 := Lib.hid (below_next HB3.out hb3)
 have k0 := (HK3.out.later hb3).cell 0 rfl
 have k1 := (HK3.out.later hb3).cell 1 rfl
 have k2 := (HK3.out.later hb3).cell 2 rfl
 have HK4 := Lib.hid (HK3.out.later hb3)
 have HG4 := Lib.hid (HG.out.later hb3)
 have HVh4 := Lib.hid (HVh3.out.below hb3)
 have HVg4 := Lib.hid (HVg3.out.below hb3)
 clear hb3 HK3 HG HVh3 HVg3 HB3
 go_wp2_with fail
 refine (HIh.out _ _ HVh4.out (HTb.out _ HB4.out)).mono ?_
 rintro e w4 ⟨rfl, hb4⟩
 have HB5 := Lib.hid (below_next HB4.out hb4)
 have g0 := (HG4.out.later hb4).cell 0 rfl
 have g1 := (HG4.out.later hb4).cell 1 rfl
 have g2 := (HG4.out.later hb4).cell 2 rfl
 have HVg5 := Lib.hid (HVg4.out.below hb4)
 clear hb4 k0 k1 k2
 go_wp2_with fail
 refine (HCg.out _ _ HVg5.out (HTb.out _ HB5.out)).mono ?_
 rintro e w5 ⟨v5, rfl, hi5, hb5⟩
 have HB6 := Lib.hid (below_next HB5.out hb5)
 have HI5 := Lib.hid (hi5.below ((Below.refl w5.heap.size w5).alloc (Nat.le_refl _) (.cells #[.int .i64 0] 3)))
 obtain ⟨p9, c9, rfl, -⟩ := hi5
 dsimp only [List.length_cons, List.length_nil] at HI5 ⊢
 clear hb5 g0 g1 g2
 go_wp2_with fail
 refine (sameints_eq HI5.out (int_lit w5 0) (by decide)).mono ?_
 rintro e w6 ⟨rfl, hb6⟩
 have HB7 := Lib.hid (below_next (HB6.out.alloc HB6.out.size (.cells #[.int .i64 0] 3)) hb6)
 clear hb6
 go_wp2_with fail
 go_ret
 exact ⟨rfl, HB7.out⟩
section
variable {w : World} {B : Nat} {t : TypeId} {cs : List Value} (hB : SlBox w B t cs) (i : Nat) (u : Value)
include hB
theorem boolsS_box {v : Value} {L : List Bool} (h : BoolsS w v L) : BoolsS (w.setCell ⟨B, i, none⟩ u) v L := by
 obtain ⟨p, c, rfl, hl, hp⟩ := h
 refine ⟨p, c, rfl, hl, fun j hj => ?_⟩
 obtain ⟨g, rfl, hc⟩ := hp j hj
 exact ⟨g, rfl, cell_set_far hc (hB.ne hc (by intros; simp))⟩
theorem valsS_box {v : Value} {L : List ValM} (h : ValsS w v L) : ValsS (w.setCell ⟨B, i, none⟩ u) v L := by
 obtain ⟨p, c, rfl, hl, hp⟩ := h
 refine ⟨p, c, rfl, hl, fun j hj => ?_⟩
 obtain ⟨g, rfl, h0, h1⟩ := hp j hj
 have hne : g ≠ B := hB.ne h0 (by intros; simp)
 exact ⟨g, rfl, cell_set_far h0 hne, cell_set_far h1 hne⟩
theorem worldV_box {v : Value} {m : WorldM} (h : WorldV w v m) : WorldV (w.setCell ⟨B, i, none⟩ u) v m := by
 obtain ⟨v0, v1, e, h0, h1⟩ := h
 exact ⟨v0, v1, e, boolsS_box hB i u h0, valsS_box hB i u h1⟩
theorem worldA_box {v : Value} {m : WorldM} (h : WorldA w v m) : WorldA (w.setCell ⟨B, i, none⟩ u) v m := by
 obtain ⟨v0, v1, e, ⟨p, c, e0, h1, h2, hc⟩, ⟨p', c', e0', h1', h2', hc'⟩⟩ := h
 refine ⟨v0, v1, e, ⟨p, c, e0, h1, h2, fun j hj => ?_⟩, ⟨p', c', e0', h1', h2', fun j hj => ?_⟩⟩
 ·obtain ⟨a, ds, ea, hl, hd, hr⟩ := hc j hj
  refine ⟨a, ds, ea, hl, fun q x hq => cell_set_far (hd q x hq) (hB.ne (hd q x hq) ?_), hr⟩
  have hm := List.mem_of_getElem? hq
  rw [show ds = _ from hr] at hm
  simp at hm
  subst hm
  intros; simp
 ·obtain ⟨a, ds, ea, hl, hd, hr⟩ := hc' j hj
  refine ⟨a, ds, ea, hl, fun q x hq => cell_set_far (hd q x hq) (hB.ne (hd q x hq) ?_), hr⟩
  have hm := List.mem_of_getElem? hq
  rw [show ds = _ from hr] at hm
  simp [valCells] at hm
  rcases hm with rfl | rfl <;> (intros; simp)
end
theorem two_stored {w W1 w2 : World} {x0 x1 x2 y0 y1 : Value} {h : HistM} {m : WorldM} {p0 p1 p2 r0 r1 : Option Addr} {n0 n1 n2 c0 c1 c2 k0 k1 e0 e1 : Nat} (hb1 : Below w.heap.size w W1) (hB : Blk W1 w.heap.size 25 [x0, x1, x2]) (hx : ∀ x ∈ [x0, x1, x2], ∃ p n c, x = Value.slice p n c) (hU : Blk W1 (w.heap.size + 1) 64 [y0, y1]) (hy : ∀ x ∈ [y0, y1], ∃ p n c, x = Value.slice p n c) (hb : Below W1.heap.size W1 w2)
  (hv : HistV w2 (.agg #[.slice p0 n0 c0, .slice p1 n1 c1, .slice p2 n2 c2]) h) (ha : HistA w2 (.agg #[.slice p0 n0 c0, .slice p1 n1 c1, .slice p2 n2 c2]) h) (wv : WorldV w2 (.agg #[.slice r0 k0 e0, .slice r1 k1 e1]) m) (wa : WorldA w2 (.agg #[.slice r0 k0 e0, .slice r1 k1 e1]) m) :
  ∃ WZ, (((((w2.setCell ⟨w.heap.size, 0, none⟩ (.slice p0 n0 c0)).setCell ⟨w.heap.size, 1, none⟩ (.slice p1 n1 c1)).setCell ⟨w.heap.size, 2, none⟩ (.slice p2 n2 c2)).setCell ⟨w.heap.size + 1, 0, none⟩ (.slice r0 k0 e0)).setCell ⟨w.heap.size + 1, 1, none⟩ (.slice r1 k1 e1)) = WZ ∧
  Blk WZ w.heap.size 25 [.slice p0 n0 c0, .slice p1 n1 c1, .slice p2 n2 c2] ∧ Blk WZ (w.heap.size + 1) 64 [.slice r0 k0 e0, .slice r1 k1 e1] ∧
  HistV WZ (.agg #[.slice p0 n0 c0, .slice p1 n1 c1, .slice p2 n2 c2]) h ∧ HistA WZ (.agg #[.slice p0 n0 c0, .slice p1 n1 c1, .slice p2 n2 c2]) h ∧ WorldV WZ (.agg #[.slice r0 k0 e0, .slice r1 k1 e1]) m ∧ WorldA WZ (.agg #[.slice r0 k0 e0, .slice r1 k1 e1]) m ∧ Below w.heap.size w WZ := by
 have s0 : SlBox w2 w.heap.size 25 [x0, x1, x2] := ⟨hB.later hb, hx⟩
 have s1 := s0.set 0 p0 n0 c0
 have s2 := s1.set 1 p1 n1 c1
 have s3 := s2.set 2 p2 n2 c2
 have hne : w.heap.size + 1 ≠ w.heap.size := by omega
 have u0 := (((hU.later hb).far (a := ⟨w.heap.size, 0, none⟩) hne (.slice p0 n0 c0)).far (a := ⟨w.heap.size, 1, none⟩) hne (.slice p1 n1 c1)).far (a := ⟨w.heap.size, 2, none⟩) hne (.slice p2 n2 c2)
 have t0 : SlBox _ (w.heap.size + 1) 64 [y0, y1] := ⟨u0, hy⟩
 have t1 := t0.set 0 r0 k0 e0
 have t2 := t1.set 1 r1 k1 e1
 have hne2 : w.heap.size ≠ w.heap.size + 1 := by omega
 refine ⟨_, rfl, (s3.1.far (a := ⟨w.heap.size + 1, 0, none⟩) hne2 _).far (a := ⟨w.heap.size + 1, 1, none⟩) hne2 _, t2.1, histV_box t1 1 _ (histV_box t0 0 _ (histV_box s2 2 _ (histV_box s1 1 _ (histV_box s0 0 _ hv)))), histA_box t1 1 _ (histA_box t0 0 _ (histA_box s2 2 _ (histA_box s1 1 _ (histA_box s0 0 _ ha)))), worldV_box t1 1 _ (worldV_box t0 0 _ (worldV_box s2 2 _ (worldV_box s1 1 _ (worldV_box s0 0 _ wv)))), worldA_box t1 1 _ (worldA_box t0 0 _ (worldA_box s2 2 _ (worldA_box s1 1 _ (worldA_box s0 0 _ wa)))), ?_⟩
 exact (((((below_next hb1 hb).setCell (by show w.heap.size ≤ w.heap.size; omega) _).setCell (by show w.heap.size ≤ w.heap.size; omega) _).setCell (by show w.heap.size ≤ w.heap.size; omega) _).setCell (by show w.heap.size ≤ w.heap.size + 1; omega) _).setCell (by show w.heap.size ≤ w.heap.size + 1; omega) _
end Go.Proofs.YtmgchjddpmmglaaGreatDoor
