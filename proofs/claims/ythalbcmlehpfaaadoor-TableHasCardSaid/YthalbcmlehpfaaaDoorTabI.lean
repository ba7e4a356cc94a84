/-
  The statement TableHas of layer 9 (table), walked. No conditions but that unicode/utf8's two tables are as their initialisers lay them.
-/
import Derived.Test.YthalbcmlehpfaaaDoorTabG
namespace Go.Proofs.YthalbcmlehpfaaaDoor
open Go.RowKit Go.Lib

set_option maxRecDepth 100000 in
set_option maxHeartbeats 2000000 in
theorem tablehas_any (v : Value) (L : List (List UInt8)) (s : List UInt8) (w : World) (hv : ArgTx w v L) (hs : ∀ x ∈ L, x.length ≤ 9223372036854775807) (hl : s.length ≤ 9223372036854775807) (hT : Lib.Utf8Tabs 0 1 w) :
    Calls Tryd.prog 8 #[v, .string (bs s)] w fun e w' => e = .returned (.bool true) ∧ Below w.heap.size w w' := by
  have HF := Lib.hid (fun w' (h : Below w.heap.size w w') => few9_any w' v L (hv.below h) hs)
  have HT := Lib.hid hT
  have e0 := take100 s
  have b1 : (0 : Int) ≤ min (s.length : Int) 100 := by omega
  have b2 : min (s.length : Int) 100 ≤ (s.length : Int) := by omega
  have ls : (s.take 100).length ≤ 1000000 := by rw [List.length_take]; omega
  have FL := few_len L
  have FT : ∀ x ∈ fewT L, x.length ≤ 1000000 := fun x hx => by have := few_texts L x hx; omega
  have L2 : (putT (fewT L) (s.take 100)).length ≤ 31 := by
    have := sorted_len (fewT L ++ [s.take 100])
    rw [List.length_append] at this
    unfold putT
    simp only [List.length_cons, List.length_nil] at this
    omega
  have PX : ∀ x ∈ putT (fewT L) (s.take 100), x.length ≤ 1000000 := sorted_texts _ _ (fun x hx => by
    rcases List.mem_append.1 hx with h | h
    · exact FT x h
    · obtain rfl : x = s.take 100 := by simpa using h
      exact ls)
  have hI : isT (putT (fewT L) (s.take 100)) = true := sorted_isT _
  obtain ⟨hp1, hp2⟩ := put_find (fewT L) (s.take 100)
  have H1 := Lib.hid (fun w' v' (h : Texts w' v' (fewT L)) hT' => put_any w' v' (fewT L) (s.take 100) h (by omega) FT ls hT')
  have H2 := Lib.hid (fun w' v' (h : Texts w' v' (putT (fewT L) (s.take 100))) hT' => find_any w' v' (putT (fewT L) (s.take 100)) (s.take 100) h (by omega) PX hT')
  have H3 := Lib.hid (fun w' v' (h : Texts w' v' (putT (fewT L) (s.take 100))) hT' => tis_any w' v' (putT (fewT L) (s.take 100)) h (by omega) PX hT')
  have H4 := Lib.hid (ris_any (s.take 100) ls)
  rw [hI] at H3
  generalize s.take 100 = Y at *
  generalize fewT L = X at *
  generalize putT X Y = PT at *
  generalize findT PT Y = Z at *
  obtain ⟨a, b⟩ := Z
  simp only at hp1 hp2 H2
  subst hp1
  clear hv hs hT FT ls PX hI
  cases hn : nameL Y with
  | true =>
    rw [hn] at H2 H4
    obtain ⟨ha1, ha2⟩ := hp2 hn
    have HA := Lib.hid ha2
    clear hp2 hn ha2
    go_enter Tryd.func8, Tryd.ntmps8
    go_wp2_with fail
    refine (works9_any _ HT.out).mono ?_
    rintro e w0 ⟨rfl, hb0⟩
    go_wp2_with fail
    go_region_held3 (fun w' => Below w.heap.size w w')
      (first | assumption | exact Below.drew (by assumption) | exact below_next (by assumption) (by assumption))
      (first | (go_at_call 26; refine (HF.out _ (by assumption)).mono ?_; rintro e w1 ⟨v1, rfl, ht1, hb1⟩))
    all_goals
      have hw1 : Below w.heap.size w w1 := by assumption
      clear hb1
      go_wp2_with fail
      refine (H1.out _ _ (texts_of ht1) (Utf8Tabs_below HT.out hw1)).mono ?_
      rintro e w2 ⟨v2, rfl, ht2, hb2⟩
      have hw2 := below_next hw1 hb2
      clear hb2 ht1
      go_wp2_with fail
      refine (H2.out _ _ ht2 (Utf8Tabs_below HT.out hw2)).mono ?_
      rintro e w3 ⟨rfl, hb3⟩
      have hw3 := below_next hw2 hb3
      have ht3 := ht2.below hb3
      clear hb3 ht2
      go_wp2_with fail
      refine (H3.out _ _ ht3 (Utf8Tabs_below HT.out hw3)).mono ?_
      rintro e w4 ⟨rfl, hb4⟩
      have hw4 := below_next hw3 hb4
      have ht4 := ht3.below hb4
      clear hb4 ht3
      go_wp2_with fail
      refine (H4.out _).mono ?_
      rintro e w5 ⟨rfl, hb5⟩
      have hw5 := below_next hw4 hb5
      obtain ⟨p, c, rfl, hp⟩ := ht4.below hb5
      obtain ⟨g, rfl, hc⟩ := hp a ha1
      rw [HA.out] at hc
      clear hb5 ht4 hp
      go_wp2_with fail
      go_ret
      exact ⟨rfl, hw5⟩
  | false =>
    rw [hn] at H2 H4
    clear hp2 hn
    go_enter Tryd.func8, Tryd.ntmps8
    go_wp2_with fail
    refine (works9_any _ HT.out).mono ?_
    rintro e w0 ⟨rfl, hb0⟩
    go_wp2_with fail
    go_region_held3 (fun w' => Below w.heap.size w w')
      (first | assumption | exact Below.drew (by assumption) | exact below_next (by assumption) (by assumption))
      (first | (go_at_call 26; refine (HF.out _ (by assumption)).mono ?_; rintro e w1 ⟨v1, rfl, ht1, hb1⟩))
    all_goals
      have hw1 : Below w.heap.size w w1 := by assumption
      clear hb1
      go_wp2_with fail
      refine (H1.out _ _ (texts_of ht1) (Utf8Tabs_below HT.out hw1)).mono ?_
      rintro e w2 ⟨v2, rfl, ht2, hb2⟩
      have hw2 := below_next hw1 hb2
      clear hb2 ht1
      go_wp2_with fail
      refine (H2.out _ _ ht2 (Utf8Tabs_below HT.out hw2)).mono ?_
      rintro e w3 ⟨rfl, hb3⟩
      have hw3 := below_next hw2 hb3
      have ht3 := ht2.below hb3
      clear hb3 ht2
      go_wp2_with fail
      refine (H3.out _ _ ht3 (Utf8Tabs_below HT.out hw3)).mono ?_
      rintro e w4 ⟨rfl, hb4⟩
      have hw4 := below_next hw3 hb4
      clear hb4 ht3
      go_wp2_with fail
      refine (H4.out _).mono ?_
      rintro e w5 ⟨rfl, hb5⟩
      have hw5 := below_next hw4 hb5
      clear hb5
      go_wp2_with fail
      go_ret
      exact ⟨rfl, hw5⟩
end Go.Proofs.YthalbcmlehpfaaaDoor
