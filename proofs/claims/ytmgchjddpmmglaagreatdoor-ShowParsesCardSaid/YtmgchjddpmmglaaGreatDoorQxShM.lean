/-
  Layer 12 (show): the statement ShowParses. Conditions: unicode/utf8's two tables and event.words hold what their initialisers lay, internal/bytealg.MaxLen holds a number.
-/
import Derived.Test.YtmgchjddpmmglaaGreatDoorQSf
import Derived.Test.YtmgchjddpmmglaaGreatDoorQxShD
namespace Go.Proofs.YtmgchjddpmmglaaGreatDoor
open Go.RowKit Go.Lib
theorem no_modst : Modst noH := ⟨by decide, by decide, by decide, fun x hx => (by cases hx), fun x hx => (by cases hx), fun x hx => (by cases hx)⟩
theorem hist12_modst (l : List EventM) : Modst (histP l).1 := by
 have hg := made_good l [] good_nil
 unfold histP
 split
 ·exact no_modst
 ·split
  ·exact no_modst
  ·generalize (madeP l []).1 = L at *
   have g1 := hg.names
   have g2 := hg.keys
   have g3 := hg.few
   refine ⟨by show (sortedN (namesD L)).length ≤ 1000; omega, by show (sortedN (keysD L)).length ≤ 1000; omega, by show (L.map _).length ≤ 1000; rw [List.length_map]; omega, fun x hx => name_short x (((sortedN_spec (namesD L)).2 x).1 hx).2, fun x hx => name_short x (((sortedN_spec (keysD L)).2 x).1 hx).2, fun t ht => ?_⟩
   obtain ⟨d, hd, rfl⟩ := List.mem_map.1 (show t ∈ L.map (txnD (sortedN (namesD L)) (sortedN (keysD L))) from ht)
   have h1 := (hg.all d hd).few
   show (d.ops.zipWith _ d.ks).length ≤ 1000
   rw [List.length_zipWith]
   omega
theorem parse_modst (l : List UInt8) : Modst (parseP l).1 := by
 unfold parseP
 split
 ·exact no_modst
 ·exact hist12_modst _
theorem eqH_same (h : HistM) : eqH h h = true := by simp [eqH]
set_option maxRecDepth 100000 in
set_option maxHeartbeats 4000000 in
theorem showparses_any (l : List UInt8) (hs : l.length ≤ 9223372036854775807) (w : World) (hT : Lib.Utf8Tabs 1 2 w) (hm : HasMax w) (hE : EvTab w) :
  Calls Tryz.prog 3 #[.string (bs l)] w fun e w' => e = .returned (.bool true) ∧ Below w.heap.size w w' := by
 have e4 : l.take (min (l.length : Int) 4000).toNat = l.take 4000 := by
  by_cases h : l.length ≤ 4000
  ·rw [show (min (l.length : Int) 4000).toNat = l.length by omega, List.take_length, List.take_of_length_le h]
  ·rw [show (min (l.length : Int) 4000).toNat = 4000 by omega]
 have hl : (l.take 4000).length ≤ 1000000 := by simp; omega
 have H1 := Lib.hid (parse12_any (l.take 4000) hl w hT hm hE)
 have H2 := Lib.hid (fun w' => rparse12_any (l.take 4000) hl w')
 have HW := Lib.hid (fun w' (h : Below w.heap.size w w') => works12_any w' (Utf8Tabs_below hT h) (hm.below h) (hE.below h))
 have HMo := Lib.hid (parse_modst (l.take 4000))
 rw [← e4] at H1 H2
 have E4 := Lib.hid e4
 clear e4
 obtain ⟨⟨h, n, er⟩, hp⟩ : ∃ r, parseP (l.take 4000) = r := ⟨_, rfl⟩
 have e5 : parseP (l.take (min (l.length : Int) 4000).toNat) = (h, n, er) := by rw [E4.out]; exact hp
 rw [e5] at H1 H2
 rw [hp] at HMo
 clear hT hm hE hl hp e5 E4
 dsimp only at H1 H2 HMo
 go_enter Tryz.func3, Tryz.ntmps3
 go_wp2_with fail
 refine H1.out.mono ?_
 rintro e3 w3 ⟨hv3, rfl, hh3, hb3⟩
 obtain ⟨p0, c0, p1, c1, p2, c2, rfl⟩ := histV_form hh3
 have HV3 := Lib.hid hh3
 have HB3 := Lib.hid hb3
 clear hh3 hb3
 go_wp2_with fail
 have hal := (Below.refl w3.heap.size w3).alloc (Nat.le_refl _) (.cells #[.slice p0 h.1.length c0, .slice p1 h.2.1.length c1, .slice p2 h.2.2.length c2] 25)
 have hbx := Blk.new w3 25 [.slice p0 h.1.length c0, .slice p1 h.2.1.length c1, .slice p2 h.2.2.length c2]
 refine (H2.out _).mono ?_
 rintro e4 w4 ⟨hv4, rfl, hh4, hb4⟩
 obtain ⟨q0, d0, q1, d1, q2, d2, rfl⟩ := histV_form hh4
 have hb34 := below_next hal hb4
 have HX4 := Lib.hid (hbx.later hb4)
 have HV3b := Lib.hid (HV3.out.below hb34)
 have HV4 := Lib.hid hh4
 have HB4 := Lib.hid (below_next HB3.out hb34)
 have z0 := HX4.out.cell 0 rfl
 have z1 := HX4.out.cell 1 rfl
 have z2 := HX4.out.cell 2 rfl
 have zl := HX4.out.lt
 clear hh4 hal hbx hb4 hb34 HV3 HB3
 go_wp2_with fail
 have hal := (Below.refl w4.heap.size w4).alloc (Nat.le_refl _) (.cells #[.slice q0 h.1.length d0, .slice q1 h.2.1.length d1, .slice q2 h.2.2.length d2] 25)
 obtain ⟨a0, a1, a2⟩ := histV_parts (HV3b.out.below hal)
 obtain ⟨g0, g1, g2⟩ := histV_parts (HV4.out.below hal)
 refine (rsame10_any _ _ _ _ _ _ h h _ a0 a1 a2 HMo.out g0 g1 g2 HMo.out).mono ?_
 rintro e5 w5 ⟨rfl, hb5⟩
 rw [eqH_same]
 have hb45 := below_next hal hb5
 have HB5 := Lib.hid (below_next HB4.out hb45)
 clear a0 a1 a2 g0 g1 g2 hal hb5 hb45 z0 z1 z2
 go_wp2_with fail
 refine (HW.out w5 HB5.out).mono ?_
 rintro e6 w6 ⟨rfl, hb6⟩
 go_wp2_with fail
 go_ret
 exact ⟨rfl, below_next HB5.out hb6⟩
end Go.Proofs.YtmgchjddpmmglaaGreatDoor
