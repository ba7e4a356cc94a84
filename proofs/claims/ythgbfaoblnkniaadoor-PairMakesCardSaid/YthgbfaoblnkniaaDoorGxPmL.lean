/-
  Layer 10 (pair): the statement PairMakes. Conditions: unicode/utf8's two tables hold what their initialisers lay.
-/
import Derived.Test.YthgbfaoblnkniaaDoorGi
import Derived.Test.YthgbfaoblnkniaaDoorGxPbH
import Derived.Test.YthgbfaoblnkniaaDoorGo
namespace Go.Proofs.YthgbfaoblnkniaaDoor
open Go.RowKit Go.Lib Go.Maps Go.WideMaps
theorem hist_modst (l : List EventM) : Modst (histP l).1 := by
 have hno : Modst noH := ⟨by decide, by decide, by decide, fun x hx => (by cases hx), fun x hx => (by cases hx), fun x hx => (by cases hx)⟩
 have hg := made_good l [] good_nil
 unfold histP
 split
 ·exact hno
 ·split
  ·exact hno
  ·generalize (madeP l []).1 = L at *
   have g1 := hg.names
   have g2 := hg.keys
   have g3 := hg.few
   refine ⟨by show (sortedN (namesD L)).length ≤ 1000; omega, by show (sortedN (keysD L)).length ≤ 1000; omega, by show (L.map _).length ≤ 1000; rw [List.length_map]; omega, fun x hx => name_len x (((sortedN_spec (namesD L)).2 x).1 hx).2, fun x hx => name_len x (((sortedN_spec (keysD L)).2 x).1 hx).2, fun t ht => ?_⟩
   obtain ⟨d, hd, rfl⟩ := List.mem_map.1 (show t ∈ L.map (txnD (sortedN (namesD L)) (sortedN (keysD L))) from ht)
   have h1 := (hg.all d hd).few
   show (d.ops.zipWith _ d.ks).length ≤ 1000
   rw [List.length_zipWith]
   omega
theorem eqH_self (h : HistM) : eqH h h = true := by simp [eqH]
theorem openP_len (l : List EventM) : (openP l).length ≤ 40 := by
 have hg := made_good l [] good_nil
 unfold openP
 split
 ·exact Nat.zero_le _
 ·have h1 := sorted_len (((madeP l []).1.filter (·.op)).map (·.nm))
  rw [List.length_map] at h1
  have h2 := List.length_filter_le (·.op) (madeP l []).1
  have h3 := hg.few
  omega
set_option maxRecDepth 100000 in
set_option maxHeartbeats 4000000 in
theorem pairmakes_any (v : Value) (L : List EventM) (w : World) (hv : EvsA w v L) (hT : Lib.Utf8Tabs 0 1 w) :
  Calls Tryd.prog 4 #[v] w fun e w' => e = .returned (.bool true) ∧ Below w.heap.size w w' := by
 have hL := evsA_all hv
 obtain ⟨hn, hs⟩ := few_short L
 have HF := Lib.hid (few8_any v L w hv)
 have HB := Lib.hid (fun w' B v' h => few_both (w := w') (B := B) (v := v') hL h)
 have HG := Lib.hid (fun v' w' h => few8_again v' L w' h hL)
 have HH := Lib.hid (fun v' w' h (hb : Below w.heap.size w w') => hist10_any (w := w') v' (fewE L) h (by omega) hs (Utf8Tabs_below hT hb))
 have HR := Lib.hid (fun v' w' h => rhist10_any (w := w') v' (fewE L) h (by omega) hs)
 have HO := Lib.hid (fun v' w' h (hb : Below w.heap.size w w') => open10_any (w := w') v' (fewE L) h (by omega) hs (Utf8Tabs_below hT hb))
 have HP := Lib.hid (fun v' w' h => ropen10_any (w := w') v' (fewE L) h (by omega) hs)
 have HW := Lib.hid (fun w' (h : Below w.heap.size w w') => works10_any w' (Utf8Tabs_below hT h))
 have HMo := Lib.hid (hist_modst (fewE L))
 have HOl := Lib.hid (openP_len (fewE L))
 generalize fewE L = M at *
 clear hT hL hn hs hv
 obtain ⟨⟨h, n, er⟩, hh⟩ : ∃ r, histP M = r := ⟨_, rfl⟩
 rw [hh] at HH HR HMo
 obtain ⟨O, hO⟩ : ∃ r, openP M = r := ⟨_, rfl⟩
 rw [hO] at HO HP HOl
 clear hh hO
 dsimp only at HH HR HMo
 go_enter Tryd.func4, Tryd.ntmps4
 go_wp2_with fail
 refine HF.out.mono ?_
 rintro e1 w1 ⟨v1, rfl, ho1, hb1⟩
 obtain ⟨hs1, ha1⟩ := HB.out _ _ _ ho1
 have HS1 := Lib.hid hs1
 have HA1 := Lib.hid ha1
 clear ho1 hs1 ha1
 go_wp2_with fail
 refine (HG.out _ _ HA1.out).mono ?_
 rintro e2 w2 ⟨v2, rfl, hs2, hb2⟩
 have HS2 := Lib.hid hs2
 have hB2 := below_next hb1 hb2
 clear hs2 hb1
 go_wp2_with fail
 refine (HH.out _ _ HS2.out hB2).mono ?_
 rintro e3 w3 ⟨hv3, rfl, hh3, hb3⟩
 obtain ⟨p0, c0, p1, c1, p2, c2, rfl⟩ := histV_form hh3
 have HV3 := Lib.hid hh3
 have HS1c := Lib.hid ((HS1.out.below hb2).below hb3)
 have HA1c := Lib.hid ((HA1.out.below hb2).below hb3)
 have HB3 := Lib.hid (below_next hB2 hb3)
 clear hh3 hb3 hb2 hB2
 go_wp2_with fail
 have hal := (Below.refl w3.heap.size w3).alloc (Nat.le_refl _) (.cells #[.slice p0 h.1.length c0, .slice p1 h.2.1.length c1, .slice p2 h.2.2.length c2] 32)
 have hbx := Blk.new w3 32 [.slice p0 h.1.length c0, .slice p1 h.2.1.length c1, .slice p2 h.2.2.length c2]
 refine (HR.out _ _ (HS1c.out.below hal)).mono ?_
 rintro e4 w4 ⟨hv4, rfl, hh4, hb4⟩
 obtain ⟨q0, d0, q1, d1, q2, d2, rfl⟩ := histV_form hh4
 have hb34 := below_next hal hb4
 have HX4 := Lib.hid (hbx.later hb4)
 have HV3b := Lib.hid (HV3.out.below hb34)
 have HV4 := Lib.hid hh4
 have HS4 := Lib.hid (HS1c.out.below hb34)
 have HA4 := Lib.hid (HA1c.out.below hb34)
 have HB4 := Lib.hid (below_next HB3.out hb34)
 have z0 := HX4.out.cell 0 rfl
 have z1 := HX4.out.cell 1 rfl
 have z2 := HX4.out.cell 2 rfl
 have zl := HX4.out.lt
 clear hh4 hal hbx hb4 hb34 HV3 HS1c HA1c HB3
 go_wp2_with fail
 have hal := (Below.refl w4.heap.size w4).alloc (Nat.le_refl _) (.cells #[.slice q0 h.1.length d0, .slice q1 h.2.1.length d1, .slice q2 h.2.2.length d2] 32)
 obtain ⟨a0, a1, a2⟩ := histV_parts (HV3b.out.below hal)
 obtain ⟨g0, g1, g2⟩ := histV_parts (HV4.out.below hal)
 refine (rsame10_any _ _ _ _ _ _ h h _ a0 a1 a2 HMo.out g0 g1 g2 HMo.out).mono ?_
 rintro e5 w5 ⟨rfl, hb5⟩
 rw [eqH_self]
 have hb45 := below_next hal hb5
 have HS5 := Lib.hid (HS4.out.below hb45)
 have HA5 := Lib.hid (HA4.out.below hb45)
 have HB5 := Lib.hid (below_next HB4.out hb45)
 clear a0 a1 a2 g0 g1 g2 hal hb5 hb45 z0 z1 z2
 go_wp2_with fail
 refine (HG.out _ _ HA5.out).mono ?_
 rintro e6 w6 ⟨v6, rfl, hs6, hb6⟩
 have HS6 := Lib.hid hs6
 have HB6 := Lib.hid (below_next HB5.out hb6)
 have HS16 := Lib.hid (HS5.out.below hb6)
 clear hs6 hb6
 go_wp2_with fail
 refine (HO.out _ _ HS6.out HB6.out).mono ?_
 rintro e7 w7 ⟨v7, rfl, ht7, hb7⟩
 have HT7 := Lib.hid ht7
 have HB7 := Lib.hid (below_next HB6.out hb7)
 have HS17 := Lib.hid (HS16.out.below hb7)
 clear ht7 hb7
 go_wp2_with fail
 refine (HP.out _ _ HS17.out).mono ?_
 rintro e8 w8 ⟨v8, rfl, ht8, hb8⟩
 have HT8 := Lib.hid (textsS_texts ht8)
 have HT78 := Lib.hid (HT7.out.below hb8)
 have HB8 := Lib.hid (below_next HB7.out hb8)
 clear ht8 hb8
 go_wp2_with fail
 refine (sametexts_any w8 _ _ O O HT78.out HT8.out (by have := HOl.out; omega)).mono ?_
 rintro e9 w9 ⟨rfl, hb9⟩
 rw [show (O == O) = true from beq_self_eq_true _]
 have HB9 := Lib.hid (below_next HB8.out hb9)
 clear hb9
 go_wp2_with fail
 refine (HW.out w9 HB9.out).mono ?_
 rintro e10 w10 ⟨rfl, hb10⟩
 go_wp2_with fail
 go_ret
 exact ⟨rfl, below_next HB9.out hb10⟩
end Go.Proofs.YthgbfaoblnkniaaDoor
