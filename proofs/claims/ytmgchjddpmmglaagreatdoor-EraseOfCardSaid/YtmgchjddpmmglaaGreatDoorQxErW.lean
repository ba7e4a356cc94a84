/-
  Layer 14 (erase): the chapter's example, walked. Conditions: unicode/utf8's two tables and event.words hold what their initialisers lay, internal/bytealg.MaxLen holds a number.
-/
import Derived.Test.YtmgchjddpmmglaaGreatDoorQxErO
namespace Go.Proofs.YtmgchjddpmmglaaGreatDoor
open Go.RowKit Go.Lib
set_option maxRecDepth 100000 in
theorem ex14_parse : parseP [98, 101, 103, 105, 110, 32, 115, 10, 114, 101, 97, 100, 32, 115, 32, 120, 32, 63, 10, 114, 101, 97, 100, 32, 115, 32, 121, 32, 49, 10, 111, 107, 32, 115] = (([[115]], [[120], [121]], [(0, 1, [(false, 0, 2, 0), (false, 1, 1, 1)])]), 0, 0) := by decide +kernel
theorem ex14_of : ofP ([[115]], [[120], [121]], [(0, 1, [(false, 0, 2, 0), (false, 1, 1, 1)])]) = ([[115]], [[121]], [(0, 1, [(false, 0, 1, 1)])]) := by decide +kernel
theorem ex14_err : errH ([[115]], [[120], [121]], [(0, 1, [(false, 0, 2, 0), (false, 1, 1, 1)])]) = 0 := by decide +kernel
theorem ex14_modst : Modst ([[115]], [[120], [121]], [(0, 1, [(false, 0, 2, 0), (false, 1, 1, 1)])]) := ⟨by decide, by decide, by decide, by decide, by decide, by decide⟩
set_option maxRecDepth 100000 in
set_option maxHeartbeats 4000000 in
theorem works14_any (w : World) (hT : Lib.Utf8Tabs 1 2 w) (hm : HasMax w) (hE : EvTab w) :
  Calls Tryz.prog 24 #[] w fun e w' => e = .returned (.bool true) ∧ Below w.heap.size w w' := by
 have H1 := Lib.hid (parse12_any [98, 101, 103, 105, 110, 32, 115, 10, 114, 101, 97, 100, 32, 115, 32, 120, 32, 63, 10, 114, 101, 97, 100, 32, 115, 32, 121, 32, 49, 10, 111, 107, 32, 115] (by decide) w hT hm hE)
 rw [ex14_parse] at H1
 have HOf := Lib.hid (fun w' v (hv : HistV w' v ([[115]], [[120], [121]], [(0, 1, [(false, 0, 2, 0), (false, 1, 1, 1)])])) hT => of14_any hv ex14_modst hT)
 rw [ex14_of, ex14_err] at HOf
 have HTb := Lib.hid (fun w' (hb : Below w.heap.size w w') => Utf8Tabs_below hT hb)
 clear hT hm hE
 go_enter Tryz.func24, Tryz.ntmps24
 go_wp2_with fail
 refine H1.out.mono ?_
 rintro e w1 ⟨hv, rfl, hh, hb1⟩
 obtain ⟨p0, c0, p1, c1, p2, c2, rfl⟩ := histV_form hh
 have HV := Lib.hid hh
 have HB1 := Lib.hid hb1
 dsimp only [List.length_cons, List.length_nil]
 clear hh hb1 H1
 go_wp2_with fail
 have hal := (Below.refl w1.heap.size w1).alloc (Nat.le_refl _) (.cells #[.slice p0 1 c0, .slice p1 2 c1, .slice p2 1 c2] 25)
 refine (HOf.out _ _ (HV.out.below hal) (HTb.out _ (below_next HB1.out hal))).mono ?_
 rintro e w2 ⟨v2, rfl, hv2, hb2⟩
 obtain ⟨u0, u1, u2, rfl, ⟨q0, d0, rfl, -⟩, ⟨q1, d1, rfl, -⟩, ⟨q2, d2, rfl, k2⟩⟩ := hv2
 obtain ⟨g, sv, rfl, -, -, a3, ⟨p3, c3, rfl, -, ho⟩⟩ := k2 0 (by decide)
 obtain ⟨go, rfl, -, -, -, b4⟩ := ho 0 (by decide)
 have HB2 := Lib.hid (below_next (below_next HB1.out hal) hb2)
 have a3' : w2.cell? ⟨g, 2, none⟩ = some (.slice (some ⟨go, 0, none⟩) 1 c3) := a3
 have b4' : w2.cell? ⟨go, 3, none⟩ = some (.int .i64 1) := b4
 have hg := World.block_lt_of_cell? w2 ⟨g, 2, none⟩ a3'
 have hgo := World.block_lt_of_cell? w2 ⟨go, 3, none⟩ b4'
 dsimp only at hg hgo
 dsimp only [List.length_cons, List.length_nil]
 clear hal hb2 HV HB1 HOf k2 ho a3 b4
 go_wp2_with fail
 go_ret
 exact ⟨rfl, HB2.out.alloc HB2.out.size _⟩
end Go.Proofs.YtmgchjddpmmglaaGreatDoor
