/-
  The statement NameTells of layer 2 (name), walked. No conditions but that unicode/utf8's two tables are as their initialisers lay them.
-/
import Derived.Test.YtcajbgphpidiiaaDoorNameQ
import Derived.Test.YtcajbgphpidiiaaDoorNameU
namespace Go.Proofs.YtcajbgphpidiiaaDoor
open Go.RowKit Go.Lib

set_option maxRecDepth 100000 in
set_option maxHeartbeats 1000000 in
theorem short_any (l : List UInt8) (hs : l.length ≤ 9223372036854775807) (w : World) :
    Calls Tryd.prog 12 #[.string (bs l)] w fun e w' => e = .returned (.string (bs (l.take 300))) ∧ w = w' := by
  have e : l.take (min (l.length : Int) 300).toNat = l.take 300 := by
    by_cases h : l.length ≤ 300
    · rw [show (min (l.length : Int) 300).toNat = l.length by omega, List.take_length, List.take_of_length_le h]
    · rw [show (min (l.length : Int) 300).toNat = 300 by omega]
  have E := Lib.hid e
  clear e
  go_enter Tryd.func12, Tryd.ntmps12
  go_wp2
  go_ret
  refine ⟨?_, rfl⟩
  rw [← E.out]
  rfl

theorem ex1 : nameL [195, 169] = true := by decide +kernel
theorem ex2 : nameL [49, 195, 169] = false := by decide +kernel
theorem ex3 : nameL [111, 107] = false := by decide +kernel
theorem ex4 : textU (runesU [97, 195, 169]).reverse = [195, 169, 97] := by decide +kernel
theorem ex5 : lexLess (runesU [97]) (runesU [195, 169]) = true := by decide +kernel

set_option maxRecDepth 100000 in
set_option maxHeartbeats 1000000 in
theorem works_any (w : World) (hT : Lib.Utf8Tabs 0 1 w) :
    Calls Tryd.prog 19 #[] w fun e w' => e = .returned (.bool true) ∧ Below w.heap.size w w' := by
  have H1 := Lib.hid (nis_any [195, 169] (by decide))
  have H2 := Lib.hid (nis_any [49, 195, 169] (by decide))
  have H3 := Lib.hid (nis_any [111, 107] (by decide))
  have H4 := Lib.hid (turned_any [97, 195, 169] (by decide))
  have H5 := Lib.hid (nless_any [97] [195, 169] (by decide) (by decide))
  rw [ex1] at H1
  rw [ex2] at H2
  rw [ex3] at H3
  rw [ex4] at H4
  rw [ex5] at H5
  have HT := Lib.hid hT
  clear hT
  go_enter Tryd.func19, Tryd.ntmps19
  go_wp2_with fail
  refine (H1.out _ HT.out).mono ?_
  rintro e w1 ⟨rfl, hb1⟩
  have HT1 := Lib.hid (Utf8Tabs_below HT.out hb1)
  go_wp2_with fail
  refine (H2.out _ HT1.out).mono ?_
  rintro e w2 ⟨rfl, hb2⟩
  have HT2 := Lib.hid (Utf8Tabs_below HT1.out hb2)
  go_wp2_with fail
  refine (H3.out _ HT2.out).mono ?_
  rintro e w3 ⟨rfl, hb3⟩
  go_wp2_with fail
  refine (H4.out _).mono ?_
  rintro e w4 ⟨rfl, hb4⟩
  go_wp2_with fail
  refine (H5.out _).mono ?_
  rintro e w5 ⟨rfl, hb5⟩
  go_wp2_with fail
  go_ret
  exact ⟨rfl, below_next (below_next (below_next (below_next hb1 hb2) hb3) hb4) hb5⟩

set_option maxRecDepth 100000 in
set_option maxHeartbeats 1000000 in
theorem nametells_any (a b : List UInt8) (ha : a.length ≤ 9223372036854775807) (hb : b.length ≤ 9223372036854775807) (w : World) (hT : Lib.Utf8Tabs 0 1 w) :
    Calls Tryd.prog 3 #[.string (bs a), .string (bs b)] w fun e w' => e = .returned (.bool true) ∧ Below w.heap.size w w' := by
  have HA := Lib.hid (short_any a ha)
  have HB := Lib.hid (short_any b hb)
  have la : (a.take 300).length ≤ 1000000 := by rw [List.length_take]; omega
  have lb : (b.take 300).length ≤ 1000000 := by rw [List.length_take]; omega
  clear ha hb
  generalize a.take 300 = x at *
  generalize b.take 300 = y at *
  have H1 := Lib.hid (nis_any x la)
  have H2 := Lib.hid (ris_any x la)
  have H3 := Lib.hid (reserved_any x)
  have H4 := Lib.hid (rreserved_any x)
  have H5 := Lib.hid (nless_any x y la lb)
  have H6 := Lib.hid (rless_any x y la lb)
  have HT := Lib.hid hT
  clear hT
  generalize nameL x = N at *
  generalize resL x = S at *
  generalize lexLess (runesU x) (runesU y) = L at *
  go_enter Tryd.func3, Tryd.ntmps3
  go_wp2_with fail
  refine (HA.out _).mono ?_
  rintro e w' ⟨rfl, rfl⟩
  go_wp2_with fail
  refine (HB.out _).mono ?_
  rintro e w' ⟨rfl, rfl⟩
  go_wp2_with fail
  refine (H1.out _ HT.out).mono ?_
  rintro e w1 ⟨rfl, hb1⟩
  go_wp2_with fail
  refine (H2.out _).mono ?_
  rintro e w2 ⟨rfl, hb2⟩
  have hb12 := below_next hb1 hb2
  go_wp2_with fail
  refine (H3.out _).mono ?_
  rintro e w' ⟨rfl, rfl⟩
  go_wp2_with fail
  refine (H4.out _).mono ?_
  rintro e w' ⟨rfl, rfl⟩
  go_wp2_with fail
  refine (H5.out _).mono ?_
  rintro e w3 ⟨rfl, hb3⟩
  have hb13 := below_next hb12 hb3
  go_wp2_with fail
  refine (H6.out _).mono ?_
  rintro e w4 ⟨rfl, hb4⟩
  have hb14 := below_next hb13 hb4
  have HT4 := Lib.hid (Utf8Tabs_below HT.out hb14)
  clear hb1 hb2 hb3 hb4 hb12 hb13
  go_wp2_with fail
  refine (works_any _ HT4.out).mono ?_
  rintro e w5 ⟨rfl, hb5⟩
  go_wp2_with fail
  go_ret
  exact ⟨rfl, below_next hb14 hb5⟩
end Go.Proofs.YtcajbgphpidiiaaDoor
