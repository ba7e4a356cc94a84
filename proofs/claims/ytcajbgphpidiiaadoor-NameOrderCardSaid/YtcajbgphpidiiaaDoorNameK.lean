/-
  The statement NameOrder of layer 2 (name), walked. No conditions but that unicode/utf8's two tables are as their initialisers lay them.
-/
import Derived.Test.YtcajbgphpidiiaaDoorNameL
import Derived.Test.YtcajbgphpidiiaaDoorNameO
namespace Go.Proofs.YtcajbgphpidiiaaDoor
open Go.RowKit Go.Lib

set_option maxRecDepth 100000 in
set_option maxHeartbeats 1000000 in
theorem nameorder_any (a b : List UInt8) (ha : a.length ≤ 9223372036854775807) (hb : b.length ≤ 9223372036854775807) (w : World) (hT : Lib.Utf8Tabs 0 1 w) :
    Calls Tryd.prog 4 #[.string (bs a), .string (bs b)] w fun e w' => e = .returned (.bool true) ∧ Below w.heap.size w w' := by
  have HA := Lib.hid (short_any a ha)
  have HB := Lib.hid (short_any b hb)
  have la : (a.take 300).length ≤ 1000000 := by rw [List.length_take]; omega
  have lb : (b.take 300).length ≤ 1000000 := by rw [List.length_take]; omega
  have lt : (turnL (a.take 300)).length ≤ 1000000 := by
    have := turnL_len (a.take 300)
    rw [List.length_take] at this
    omega
  clear ha hb
  generalize a.take 300 = x at *
  generalize b.take 300 = y at *
  have H1 := Lib.hid (nis_any x la)
  have H2 := Lib.hid (nis_any y lb)
  have H3 := Lib.hid (nless_any x y la lb)
  have H4 := Lib.hid (nless_any y x lb la)
  have H5 := Lib.hid (turned_any x la)
  have H6 := Lib.hid (turned_any (turnL x) lt)
  have HT := Lib.hid hT
  clear hT la lb lt
  have E1 := Lib.hid (order_law x y)
  have E2 := Lib.hid (lex_not_both (runesU x) (runesU y))
  have E3 := Lib.hid (fun h => turn_turn x (name_valid x h))
  have e5 : textU (runesU x).reverse = turnL x := rfl
  have e6 : textU (runesU (turnL x)).reverse = turnL (turnL x) := rfl
  rw [e5] at H5
  rw [e6] at H6
  clear e5 e6
  generalize nameL x = N at *
  generalize nameL y = M at *
  generalize lexLess (runesU x) (runesU y) = L at *
  generalize lexLess (runesU y) (runesU x) = K at *
  go_enter Tryd.func4, Tryd.ntmps4
  go_wp2_with fail
  refine (works_any _ HT.out).mono ?_
  rintro e w1 ⟨rfl, hb1⟩
  have HT1 := Lib.hid (Utf8Tabs_below HT.out hb1)
  go_wp2_with fail
  refine (HA.out _).mono ?_
  rintro e w' ⟨rfl, rfl⟩
  go_wp2_with fail
  refine (HB.out _).mono ?_
  rintro e w' ⟨rfl, rfl⟩
  go_wp2_with fail
  refine (H1.out _ HT1.out).mono ?_
  rintro e w2 ⟨rfl, hb2⟩
  have hb12 := below_next hb1 hb2
  have HT2 := Lib.hid (Utf8Tabs_below HT1.out hb2)
  clear hb2
  rcases N with _ | _
  · go_wp2_with fail
    go_ret
    exact ⟨rfl, hb12⟩
  have E4 := Lib.hid (E3.out rfl)
  clear E3
  go_wp2_with fail
  refine (H2.out _ HT2.out).mono ?_
  rintro e w3 ⟨rfl, hb3⟩
  have hb13 := below_next hb12 hb3
  clear hb1 hb12 hb3
  rcases M with _ | _
  · go_wp2_with fail
    go_ret
    exact ⟨rfl, hb13⟩
  have E5 := E1.out (by simp) (by simp)
  have E6 : (x == y) = (L == K) := by
    rw [Bool.eq_iff_iff]
    simpa using E5
  have H7 := H6.out
  rw [E4.out] at H7
  have H8 := Lib.hid H7
  clear E1 E5 E4 H6 H7
  have E7 := Lib.hid E6
  clear E6
  go_wp2_with fail
  refine (H3.out _).mono ?_
  rintro e w4 ⟨rfl, hb4⟩
  go_wp2_with fail
  refine (H4.out _).mono ?_
  rintro e w5 ⟨rfl, hb5⟩
  have hb15 := below_next (below_next hb13 hb4) hb5
  clear hb13 hb4 hb5
  rw [E7.out]
  have E8 := E2.out
  clear E7 E2
  rcases L with _ | _ <;> rcases K with _ | _
  · go_wp2_with fail
    refine (H3.out _).mono ?_
    rintro e w6 ⟨rfl, hb6⟩
    have hb16 := below_next hb15 hb6
    go_wp2_with fail
    refine (H5.out _).mono ?_
    rintro e w7 ⟨rfl, hb7⟩
    have hb17 := below_next hb16 hb7
    go_wp2_with fail
    refine (H8.out _).mono ?_
    rintro e w8 ⟨rfl, hb8⟩
    have hb18 := below_next hb17 hb8
    go_wp2_with fail
    go_ret
    exact ⟨by simp, hb18⟩
  · go_wp2_with fail
    refine (H3.out _).mono ?_
    rintro e w6 ⟨rfl, hb6⟩
    have hb16 := below_next hb15 hb6
    go_wp2_with fail
    refine (H5.out _).mono ?_
    rintro e w7 ⟨rfl, hb7⟩
    have hb17 := below_next hb16 hb7
    go_wp2_with fail
    refine (H8.out _).mono ?_
    rintro e w8 ⟨rfl, hb8⟩
    have hb18 := below_next hb17 hb8
    go_wp2_with fail
    go_ret
    exact ⟨by simp, hb18⟩
  · go_wp2_with fail
    refine (H3.out _).mono ?_
    rintro e w6 ⟨rfl, hb6⟩
    have hb16 := below_next hb15 hb6
    go_wp2_with fail
    refine (H4.out _).mono ?_
    rintro e w9 ⟨rfl, hb9⟩
    have hb19 := below_next hb16 hb9
    go_wp2_with fail
    refine (H5.out _).mono ?_
    rintro e w7 ⟨rfl, hb7⟩
    have hb17 := below_next hb19 hb7
    go_wp2_with fail
    refine (H8.out _).mono ?_
    rintro e w8 ⟨rfl, hb8⟩
    have hb18 := below_next hb17 hb8
    go_wp2_with fail
    go_ret
    exact ⟨by simp, hb18⟩
  · exact absurd E8 (by decide)
end Go.Proofs.YtcajbgphpidiiaaDoor
