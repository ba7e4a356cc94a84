/-
  The statement TableMakes of layer 9 (table), walked. No conditions but that unicode/utf8's two tables are as their initialisers lay them.
-/
import Derived.Test.YthalbcmlehpfaaaDoorTabF
namespace Go.Proofs.YthalbcmlehpfaaaDoor
open Go.RowKit Go.Lib

theorem few_of (w : World) (v : Value) (L : List (List UInt8)) (h : Texts w v (fewT L)) :
    Calls Tryd.prog 26 #[v] w fun e w' => ∃ v', e = .returned v' ∧ TextsS w' v' (fewT L) ∧ Below w.heap.size w w' := by
  have h1 := few9_any w v (fewT L) (arg_of h) (fun x hx => by have := few_texts L x hx; omega)
  rw [few_few] at h1
  exact h1
theorem take100 (s : List UInt8) : s.take (min (s.length : Int) 100).toNat = s.take 100 := by
  by_cases h : s.length ≤ 100
  · rw [show (min (s.length : Int) 100).toNat = s.length by omega, List.take_length, List.take_of_length_le h]
  · rw [show (min (s.length : Int) 100).toNat = 100 by omega]

set_option maxRecDepth 100000 in
set_option maxHeartbeats 2000000 in
theorem tablemakes_any (v : Value) (L : List (List UInt8)) (s : List UInt8) (w : World) (hv : ArgTx w v L) (hs : ∀ x ∈ L, x.length ≤ 9223372036854775807) (hl : s.length ≤ 9223372036854775807) (hT : Lib.Utf8Tabs 0 1 w) :
    Calls Tryd.prog 7 #[v, .string (bs s)] w fun e w' => e = .returned (.bool true) ∧ Below w.heap.size w w' := by
  have HF := Lib.hid (fun w' (h : Below w.heap.size w w') => few9_any w' v L (hv.below h) hs)
  have HT := Lib.hid hT
  have e0 := take100 s
  have b1 : (0 : Int) ≤ min (s.length : Int) 100 := by omega
  have b2 : min (s.length : Int) 100 ≤ (s.length : Int) := by omega
  have ls : (s.take 100).length ≤ 1000000 := by rw [List.length_take]; omega
  have FL := few_len L
  have FT : ∀ x ∈ fewT L, x.length ≤ 1000000 := fun x hx => by have := few_texts L x hx; omega
  have H1 := Lib.hid (fun w' v' (h : Texts w' v' (fewT L)) => few_of w' v' L h)
  have H2 := Lib.hid (fun w' v' (h : Texts w' v' (fewT L)) hT' => make_any w' v' (fewT L) h (by omega) FT hT')
  have H3 := Lib.hid (fun w' v' (h : Texts w' v' (fewT L)) => rsorted_any w' v' (fewT L) h (by omega) FT)
  have H4 := Lib.hid (fun w' v' (h : Texts w' v' (fewT L)) hT' => tis_any w' v' (fewT L) h (by omega) FT hT')
  have H5 := Lib.hid (fun w' v' (h : Texts w' v' (fewT L)) => rtis_any w' v' (fewT L) h (by omega) FT)
  have H6 := Lib.hid (fun w' v' (h : Texts w' v' (fewT L)) hT' => put_any w' v' (fewT L) (s.take 100) h (by omega) FT ls hT')
  have H7 := Lib.hid (fun w' v' (h : TextsS w' v' (fewT L)) => rput_any w' v' (fewT L) (s.take 100) h (by omega) FT ls)
  have L1 := sorted_len (fewT L)
  have L2 : (putT (fewT L) (s.take 100)).length ≤ 31 := by
    have := sorted_len (fewT L ++ [s.take 100])
    rw [List.length_append] at this
    unfold putT
    simp only [List.length_cons, List.length_nil] at this
    omega
  have L3 : (sortedN (fewT L)).length ≤ 30 := by omega
  generalize s.take 100 = Y at *
  generalize fewT L = X at *
  generalize putT X Y = PT at *
  generalize sortedN X = ST at *
  generalize isT X = I at *
  clear hv hs hT ls FT L1
  go_enter Tryd.func7, Tryd.ntmps7
  go_wp2_with fail
  go_region_held3 (fun w' => Below w.heap.size w w')
    (first | assumption | exact Below.drew (Below.refl _ _) | exact below_next (by assumption) (by assumption))
    (first | (go_at_call 26; refine (HF.out _ (by assumption)).mono ?_; rintro e w1 ⟨v1, rfl, ht1, hb1⟩))
  all_goals
    have hw1 : Below w.heap.size w w1 := by assumption
    have HX := Lib.hid ht1
    clear ht1 hb1
    go_wp2_with fail
    refine (H1.out _ _ (texts_of HX.out)).mono ?_
    rintro e w2 ⟨v2, rfl, ht2, hb2⟩
    have hw2 := below_next hw1 hb2
    have HX2 := Lib.hid (texts_of (HX.out.below hb2))
    have HS2 := Lib.hid (HX.out.below hb2)
    clear hb2
    go_wp2_with fail
    refine (H2.out _ _ (texts_of ht2) (Utf8Tabs_below HT.out hw2)).mono ?_
    rintro e w3 ⟨v3, rfl, ht3, hb3⟩
    have hw3 := below_next hw2 hb3
    have HX3 := Lib.hid (HS2.out.below hb3)
    clear hb3 ht2 HX2 HS2
    go_wp2_with fail
    refine (H3.out _ _ (texts_of HX3.out)).mono ?_
    rintro e w4 ⟨v4, rfl, ht4, hb4⟩
    have hw4 := below_next hw3 hb4
    have HX4 := Lib.hid (HX3.out.below hb4)
    have ht3' := ht3.below hb4
    clear hb4 HX3 ht3
    go_wp2_with fail
    refine (sametexts_any _ _ _ ST ST ht3' (texts_of ht4) (by omega)).mono ?_
    rintro e w5 ⟨rfl, hb5⟩
    rw [beq_self_eq_true]
    have hw5 := below_next hw4 hb5
    have HX5 := Lib.hid (HX4.out.below hb5)
    clear hb5 HX4 ht3' ht4
    go_wp2_with fail
    refine (H1.out _ _ (texts_of HX5.out)).mono ?_
    rintro e w6 ⟨v6, rfl, ht6, hb6⟩
    have hw6 := below_next hw5 hb6
    have HX6 := Lib.hid (HX5.out.below hb6)
    clear hb6 HX5
    go_wp2_with fail
    refine (H4.out _ _ (texts_of ht6) (Utf8Tabs_below HT.out hw6)).mono ?_
    rintro e w7 ⟨rfl, hb7⟩
    have hw7 := below_next hw6 hb7
    have HX7 := Lib.hid (HX6.out.below hb7)
    clear hb7 HX6 ht6
    go_wp2_with fail
    refine (H5.out _ _ (texts_of HX7.out)).mono ?_
    rintro e w8 ⟨rfl, hb8⟩
    have hw8 := below_next hw7 hb8
    have HX8 := Lib.hid (HX7.out.below hb8)
    clear hb8 HX7
    go_wp2_with fail
    refine (H1.out _ _ (texts_of HX8.out)).mono ?_
    rintro e w9 ⟨v9, rfl, ht9, hb9⟩
    have hw9 := below_next hw8 hb9
    have HX9 := Lib.hid (HX8.out.below hb9)
    clear hb9 HX8
    go_wp2_with fail
    refine (H6.out _ _ (texts_of ht9) (Utf8Tabs_below HT.out hw9)).mono ?_
    rintro e w10 ⟨v10, rfl, ht10, hb10⟩
    have hw10 := below_next hw9 hb10
    have HX10 := Lib.hid (HX9.out.below hb10)
    clear hb10 HX9 ht9
    go_wp2_with fail
    refine (H7.out _ _ HX10.out).mono ?_
    rintro e w11 ⟨v11, rfl, ht11, hb11⟩
    have hw11 := below_next hw10 hb11
    have ht10' := ht10.below hb11
    clear hb11 HX10 ht10
    go_wp2_with fail
    refine (sametexts_any _ _ _ PT PT ht10' (texts_of ht11) (by omega)).mono ?_
    rintro e w12 ⟨rfl, hb12⟩
    rw [beq_self_eq_true]
    have hw12 := below_next hw11 hb12
    clear hb12 ht10' ht11
    go_wp2_with fail
    refine (works9_any _ (Utf8Tabs_below HT.out hw12)).mono ?_
    rintro e w13 ⟨rfl, hb13⟩
    go_wp2_with fail
    go_ret
    exact ⟨rfl, below_next hw12 hb13⟩
end Go.Proofs.YthalbcmlehpfaaaDoor
