/-
  The statement TableFinds of layer 9 (table), walked. No conditions but that unicode/utf8's two tables are as their initialisers lay them.
-/
import Derived.Test.YthalbcmlehpfaaaDoorTabG
namespace Go.Proofs.YthalbcmlehpfaaaDoor
open Go.RowKit Go.Lib

set_option maxRecDepth 100000 in
set_option maxHeartbeats 2000000 in
theorem tablefinds_any (v : Value) (L : List (List UInt8)) (s : List UInt8) (u : Value) (M : List (List UInt8)) (w : World) (hv : ArgTx w v L) (hs : ∀ x ∈ L, x.length ≤ 9223372036854775807) (hl : s.length ≤ 9223372036854775807) (hu : ArgTx w u M) (hm : ∀ x ∈ M, x.length ≤ 9223372036854775807) (hT : Lib.Utf8Tabs 0 1 w) :
    Calls Tryd.prog 9 #[v, .string (bs s), u] w fun e w' => e = .returned (.bool true) ∧ Below w.heap.size w w' := by
  have HF := Lib.hid (fun w' (h : Below w.heap.size w w') => few9_any w' v L (hv.below h) hs)
  have HG := Lib.hid (fun w' (h : Below w.heap.size w w') => few9_any w' u M (hu.below h) hm)
  have HT := Lib.hid hT
  have e0 := take100 s
  have b1 : (0 : Int) ≤ min (s.length : Int) 100 := by omega
  have b2 : min (s.length : Int) 100 ≤ (s.length : Int) := by omega
  have FL := few_len L
  have FM := few_len M
  have FT : ∀ x ∈ fewT L, x.length ≤ 1000000 := fun x hx => by have := few_texts L x hx; omega
  have H1 := Lib.hid (fun w' v' (h : Texts w' v' (fewT L)) => few_of w' v' L h)
  have H2 := Lib.hid (fun w' v' (h : Texts w' v' (fewT M)) => few_of w' v' M h)
  have H3 := Lib.hid (fun w' v' (h : Texts w' v' (fewT L)) hT' => find_any w' v' (fewT L) (s.take 100) h (by omega) FT hT')
  have H4 := Lib.hid (fun w' v' (h : Texts w' v' (fewT L)) => rfind_any w' v' (fewT L) (s.take 100) h (by omega) FT)
  have H5 := Lib.hid (fun w' v' v'' (h : Texts w' v' (fewT M)) (h' : Texts w' v'' (fewT L)) hT' => map_any w' v' v'' (fewT M) (fewT L) h h' (by omega) (by omega) FT hT')
  have H6 := Lib.hid (fun w' v' v'' (h : Texts w' v' (fewT M)) (h' : Texts w' v'' (fewT L)) => rmap_any w' v' v'' (fewT M) (fewT L) h h' (by omega) (by omega) FT)
  have L1 : (mapT (fewT M) (fewT L)).length ≤ 30 := by simp [mapT]; omega
  generalize s.take 100 = Y at *
  generalize fewT L = X at *
  generalize fewT M = F at *
  generalize mapT F X = R at *
  generalize findT X Y = Z at *
  obtain ⟨a, b⟩ := Z
  clear hv hs hu hm hT FT
  go_enter Tryd.func9, Tryd.ntmps9
  go_wp2_with fail
  go_region_held3 (fun w' => Below w.heap.size w w')
    (first | assumption | exact Below.drew (Below.refl _ _) | exact below_next (by assumption) (by assumption))
    (first | (go_at_call 26; first | (with_reducible refine (HF.out _ (by assumption)).mono ?_; rintro e w1 ⟨v1, rfl, ht1, hb1⟩) | (with_reducible refine (HG.out _ (by assumption)).mono ?_; rintro e w2 ⟨v2, rfl, ht2, hb2⟩)))
  all_goals
    first
      | (have hX := ht1.below hb2; have hF := ht2; have hW : Below w.heap.size w w2 := (by assumption); clear ht1 ht2 hb1 hb2)
      | (have hX := ht1; have hF := ht2.below hb1; have hW : Below w.heap.size w w1 := (by assumption); clear ht1 ht2 hb1 hb2)
    go_wp2_with fail
    refine (H1.out _ _ (texts_of hX)).mono ?_
    rintro e w3 ⟨v3, rfl, ht3, hb3⟩
    have hw3 := below_next hW hb3
    have hX3 := Lib.hid (hX.below hb3)
    have hF3 := Lib.hid (hF.below hb3)
    clear hb3 hX hF hW
    go_wp2_with fail
    refine (H3.out _ _ (texts_of ht3) (Utf8Tabs_below HT.out hw3)).mono ?_
    rintro e w4 ⟨rfl, hb4⟩
    have hw4 := below_next hw3 hb4
    have hX4 := Lib.hid (hX3.out.below hb4)
    have hF4 := Lib.hid (hF3.out.below hb4)
    clear hb4 hX3 hF3 ht3
    go_wp2_with fail
    refine (H4.out _ _ (texts_of hX4.out)).mono ?_
    rintro e w5 ⟨rfl, hb5⟩
    have hw5 := below_next hw4 hb5
    have hX5 := Lib.hid (hX4.out.below hb5)
    have hF5 := Lib.hid (hF4.out.below hb5)
    clear hb5 hX4 hF4
    go_wp2_with fail
    refine (H2.out _ _ (texts_of hF5.out)).mono ?_
    rintro e w6 ⟨v6, rfl, ht6, hb6⟩
    have hw6 := below_next hw5 hb6
    have hX6 := Lib.hid (hX5.out.below hb6)
    have hF6 := Lib.hid (hF5.out.below hb6)
    clear hb6 hX5 hF5
    go_wp2_with fail
    refine (H1.out _ _ (texts_of hX6.out)).mono ?_
    rintro e w7 ⟨v7, rfl, ht7, hb7⟩
    have hw7 := below_next hw6 hb7
    have hX7 := Lib.hid (hX6.out.below hb7)
    have hF7 := Lib.hid (hF6.out.below hb7)
    have ht6' := ht6.below hb7
    clear hb7 hX6 hF6 ht6
    go_wp2_with fail
    refine (H5.out _ _ _ (texts_of ht6') (texts_of ht7) (Utf8Tabs_below HT.out hw7)).mono ?_
    rintro e w8 ⟨v8, rfl, ht8, hb8⟩
    have hw8 := below_next hw7 hb8
    have hX8 := Lib.hid (hX7.out.below hb8)
    have hF8 := Lib.hid (hF7.out.below hb8)
    clear hb8 hX7 hF7 ht6' ht7
    go_wp2_with fail
    refine (H6.out _ _ _ (texts_of hF8.out) (texts_of hX8.out)).mono ?_
    rintro e w9 ⟨v9, rfl, ht9, hb9⟩
    have hw9 := below_next hw8 hb9
    have ht8' := ht8.below hb9
    clear hb9 hX8 hF8 ht8
    go_wp2_with fail
    refine (sameints_any _ _ _ R R ht8' ht9 (by omega)).mono ?_
    rintro e w10 ⟨rfl, hb10⟩
    rw [beq_self_eq_true]
    have hw10 := below_next hw9 hb10
    clear hb10 ht8' ht9
    go_wp2_with fail
    refine (works9_any _ (Utf8Tabs_below HT.out hw10)).mono ?_
    rintro e w11 ⟨rfl, hb11⟩
    go_wp2_with fail
    go_ret
    exact ⟨rfl, below_next hw10 hb11⟩
end Go.Proofs.YthalbcmlehpfaaaDoor
