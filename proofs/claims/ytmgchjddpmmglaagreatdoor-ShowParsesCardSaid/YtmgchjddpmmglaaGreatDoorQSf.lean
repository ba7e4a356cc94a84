/-
  Layer 12 (show): its text, the chapter's example. Conditions: unicode/utf8's two tables and event.words hold what their initialisers lay, internal/bytealg.MaxLen holds a number.
-/
import Derived.Test.YtmgchjddpmmglaaGreatDoorQSb
import Derived.Test.YtmgchjddpmmglaaGreatDoorQxShB
namespace Go.Proofs.YtmgchjddpmmglaaGreatDoor
open Go.RowKit Go.Lib
theorem show_mod {h : HistM} (hm : mayH h = true) (hn : NumH h) : ModE (showE h) := fun x hx => by
 obtain ⟨a, b⟩ := may_short x (show_may ((mayH_iff h).1 hm) x hx)
 exact ⟨a, b, show_num hn x hx⟩
set_option maxRecDepth 100000 in
set_option maxHeartbeats 1000000 in
theorem print12_any {w : World} {v : Value} {h : HistM} (hv : HistV w v h) (hm : Modst h) (hn : NumH h) (hT : Lib.Utf8Tabs 1 2 w) (hE : EvTab w) :
  Calls Tryz.prog 75 #[v] w fun e w' => e = .returned (.tuple #[.string (bs (printP h).1), .int .i64 (printP h).2]) ∧ Below w.heap.size w w' := by
 have H0 := Lib.hid hv
 obtain ⟨v0, v1, v2, rfl, ⟨p0, c0, rfl, -⟩, ⟨p1, c1, rfl, -⟩, ⟨p2, c2, rfl, -⟩⟩ := hv
 have hal := (Below.refl w.heap.size w).alloc (Nat.le_refl _) (.cells #[.slice p0 h.1.length c0, .slice p1 h.2.1.length c1, .slice p2 h.2.2.length c2] 25)
 have HEv := Lib.hid (events12_any (H0.out.below hal) hm (Utf8Tabs_below hT hal))
 have HP := Lib.hid (fun (hmm : mayH h = true) v' w' (hb : Below w.heap.size w w') he => logprint_any v' (showE h) w' he (by have := show_len ((mayH_iff h).1 hmm); omega) (show_mod hmm hn) (Utf8Tabs_below hT hb) (hE.below hb))
 have HAL := Lib.hid hal
 clear hal hT hE H0
 unfold eventsP at HEv
 unfold printP
 go_enter Tryz.func75, Tryz.ntmps75
 cases hmm : mayH h with
 | false =>
  rw [hmm] at HEv
  clear HP hmm
  simp only [Bool.false_eq_true, if_false] at HEv ⊢
  go_wp2_with fail
  refine HEv.out.mono ?_
  rintro e w1 ⟨v', rfl, he, hb1⟩
  go_wp2_with fail
  go_ret2
  exact ⟨rfl, below_next HAL.out hb1⟩
 | true =>
  rw [hmm] at HEv
  simp only [if_true] at HEv ⊢
  have HP2 := Lib.hid (HP.out hmm)
  clear HP hmm
  go_wp2_with fail
  refine HEv.out.mono ?_
  rintro e w1 ⟨v', rfl, he, hb1⟩
  have hB := below_next HAL.out hb1
  go_wp2_with fail
  refine (HP2.out v' w1 hB he).mono ?_
  rintro e w2 ⟨rfl, hb2⟩
  go_wp2_with fail
  go_ret2
  exact ⟨rfl, below_next hB hb2⟩
set_option maxRecDepth 100000 in
theorem ex12_parse : parseP [98, 101, 103, 105, 110, 32, 115, 10, 98, 101, 103, 105, 110, 32, 116, 10, 111, 107, 32, 116, 10, 111, 107, 32, 115] = (([[115], [116]], [], [(0, 1, []), (1, 1, [])]), 0, 0) := by decide +kernel
set_option maxRecDepth 100000 in
theorem ex12_print : printP ([[115], [116]], [], [(0, 1, []), (1, 1, [])]) = ([98, 101, 103, 105, 110, 32, 115, 10, 111, 107, 32, 115, 10, 98, 101, 103, 105, 110, 32, 116, 10, 111, 107, 32, 116, 10], 0) := by decide +kernel
set_option maxRecDepth 100000 in
set_option maxHeartbeats 1000000 in
theorem works12_any (w : World) (hT : Lib.Utf8Tabs 1 2 w) (hm : HasMax w) (hE : EvTab w) :
  Calls Tryz.prog 19 #[] w fun e w' => e = .returned (.bool true) ∧ Below w.heap.size w w' := by
 have H1 := Lib.hid (parse12_any [98, 101, 103, 105, 110, 32, 115, 10, 98, 101, 103, 105, 110, 32, 116, 10, 111, 107, 32, 116, 10, 111, 107, 32, 115] (by decide) w hT hm hE)
 rw [ex12_parse] at H1
 have H2 := Lib.hid (fun v' w' (hb : Below w.heap.size w w') hv => print12_any (w := w') (v := v') (h := ([[115], [116]], [], [(0, 1, []), (1, 1, [])])) hv ⟨by decide, by decide, by decide, by decide, by decide, by decide⟩ (by unfold NumH; decide) (Utf8Tabs_below hT hb) (hE.below hb))
 rw [ex12_print] at H2
 clear hT hm hE
 go_enter Tryz.func19, Tryz.ntmps19
 go_wp2_with fail
 refine H1.out.mono ?_
 rintro e w1 ⟨hv, rfl, hh, hb1⟩
 obtain ⟨p0, c0, p1, c1, p2, c2, rfl⟩ := histV_form hh
 have HV := Lib.hid hh
 dsimp only [List.length_cons, List.length_nil]
 clear hh
 go_wp2_with fail
 have hal := (Below.refl w1.heap.size w1).alloc (Nat.le_refl _) (.cells #[.slice p0 2 c0, .slice p1 0 c1, .slice p2 2 c2] 25)
 have hb2 := below_next hb1 hal
 refine (H2.out _ _ hb2 (HV.out.below hal)).mono ?_
 rintro e w2 ⟨rfl, hb3⟩
 go_wp2_with fail
 go_ret
 exact ⟨by first | rfl | decide +kernel, below_next hb2 hb3⟩
end Go.Proofs.YtmgchjddpmmglaaGreatDoor
