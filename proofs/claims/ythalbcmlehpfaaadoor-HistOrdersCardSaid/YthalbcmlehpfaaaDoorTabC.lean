/-
  The walks of layer 9 (table), the program: a table made, a name found, a name put in. No conditions but that unicode/utf8's two tables are as their initialisers lay them.
-/
import Derived.Test.YthalbcmlehpfaaaDoorTabB
namespace Go.Proofs.YthalbcmlehpfaaaDoor
open Go.RowKit Go.Lib

set_option maxRecDepth 100000 in
set_option maxHeartbeats 1000000 in
theorem make_any (w : World) (v : Value) (L : List (List UInt8)) (h : Texts w v L) (hL : L.length ≤ 100000) (hs : ∀ x ∈ L, x.length ≤ 1000000) (hT : Lib.Utf8Tabs 0 1 w) :
    Calls Tryd.prog 28 #[v] w fun e w' => ∃ v', e = .returned v' ∧ Texts w' v' (sortedN L) ∧ Below w.heap.size w w' := by
  have H1 := Lib.hid (nsorted_any w v L h hL hs hT)
  clear h hL hs hT
  obtain ⟨R, hR⟩ : ∃ R, sortedN L = R := ⟨_, rfl⟩
  rw [hR] at H1 ⊢
  clear hR
  go_enter Tryd.func28, Tryd.ntmps28
  go_wp2_with fail
  refine H1.out.mono ?_
  rintro e w1 ⟨v1, rfl, ht, hb⟩
  go_wp2_with fail
  go_ret
  exact ⟨_, rfl, ht, hb⟩

set_option maxRecDepth 100000 in
set_option maxHeartbeats 1000000 in
theorem find_any (w : World) (v : Value) (L : List (List UInt8)) (s : List UInt8) (hv : Texts w v L) (hL : L.length ≤ 1000000) (hs : ∀ x ∈ L, x.length ≤ 1000000) (hT : Lib.Utf8Tabs 0 1 w) :
    Calls Tryd.prog 35 #[v, .string (bs s)] w fun e w' => e = .returned (.tuple #[.int .i64 ((findT L s).1 : Nat), .bool (findT L s).2]) ∧ Below w.heap.size w w' := by
  have H1 := Lib.hid (tis_any w v L hv hL hs hT)
  have H2 := Lib.hid (fun w' (h : Texts w' v L) => index_any w' v L s h hL)
  have HV := Lib.hid hv
  obtain ⟨r1, r2⟩ := idxI_range L s
  cases ht : isT L with
  | false =>
    rw [ht] at H1
    have HF := Lib.hid (find_not L s ht)
    generalize findT L s = F at *
    clear hv hL hs hT ht r1 r2
    go_enter Tryd.func35, Tryd.ntmps35
    go_wp2_with fail
    refine H1.out.mono ?_
    rintro e w1 ⟨rfl, hb⟩
    go_wp2_with fail
    go_ret2
    exact ⟨by rw [HF.out]; rfl, hb⟩
  | true =>
    rw [ht] at H1
    have hF := find_idx L s ht
    generalize findT L s = F at *
    generalize idxI L s = I at *
    subst hF
    clear hv hs hT ht
    by_cases h0 : 0 ≤ I
    · have e1 : decide (0 ≤ I) = true := decide_eq_true h0
      have e2 : (max I 0 : Int) = I := by omega
      have e3 : ((max I 0).toNat : Int) = I := by omega
      simp only [e3, e1]
      clear e1 e3
      go_enter Tryd.func35, Tryd.ntmps35
      go_wp2_with fail
      refine H1.out.mono ?_
      rintro e w1 ⟨rfl, hb⟩
      have HV1 := Lib.hid (HV.out.below hb)
      go_wp2_with fail
      refine (H2.out _ HV1.out).mono ?_
      rintro e w2 ⟨rfl, rfl⟩
      go_wp2_with fail
      go_ret2
      exact ⟨rfl, hb⟩
    · have e1 : decide (0 ≤ I) = false := decide_eq_false h0
      have e2 : (max I 0 : Int) = 0 := by omega
      have e3 : ((max I 0).toNat : Int) = 0 := by omega
      simp only [e3, e1]
      have E1 := Lib.hid e1
      clear e1 e3
      go_enter Tryd.func35, Tryd.ntmps35
      go_wp2_with fail
      refine H1.out.mono ?_
      rintro e w1 ⟨rfl, hb⟩
      have HV1 := Lib.hid (HV.out.below hb)
      go_wp2_with fail
      refine (H2.out _ HV1.out).mono ?_
      rintro e w2 ⟨rfl, rfl⟩
      go_wp2_with fail
      go_ret2
      refine ⟨?_, hb⟩
      show Ending.returned (.tuple #[.int .i64 0, .bool (decide (0 ≤ I))]) = _
      rw [E1.out]

set_option maxRecDepth 100000 in
set_option maxHeartbeats 1000000 in
theorem put_any (w : World) (v : Value) (L : List (List UInt8)) (s : List UInt8) (hv : Texts w v L) (hL : L.length ≤ 10000) (hs : ∀ x ∈ L, x.length ≤ 1000000) (hl : s.length ≤ 1000000) (hT : Lib.Utf8Tabs 0 1 w) :
    Calls Tryd.prog 32 #[v, .string (bs s)] w fun e w' => ∃ v', e = .returned v' ∧ Texts w' v' (putT L s) ∧ Below w.heap.size w w' := by
  have H1 := Lib.hid (clone_any w v L hv (by omega))
  have H2 := Lib.hid (fun w' v' (h : Texts w' v' (L ++ [s])) (hT' : Lib.Utf8Tabs 0 1 w') => make_any w' v' (L ++ [s]) h (by simp; omega) (fun x hx => by
    rcases List.mem_append.1 hx with h | h
    · exact hs x h
    · obtain rfl : x = s := by simpa using h
      exact hl) hT')
  have HT := Lib.hid hT
  have hp : sortedN (L ++ [s]) = putT L s := rfl
  rw [hp] at H2
  generalize putT L s = R at *
  obtain ⟨i0, hi, hz0, hz1, hz2⟩ := info_parts info_str
  clear hv hs hl hT hp
  go_enter Tryd.func32, Tryd.ntmps32
  go_wp2_with fail
  refine H1.out.mono ?_
  rintro e w1 ⟨v1, rfl, hown, hb⟩
  go_wp2_with (at_builtin; refine wpList_append_own _ rfl _ _ 22 rfl w.heap.size 9 i0 (.string ByteArray.empty) 1 16 Tryd.underlying22 hi hz0 hz1 hz2 rfl (by decide) _ _ _ rfl (hown.alloc _) ⟨w1.heap.size, 0, none⟩ 1 1 [.string (bs s)] rfl rfl (news_str' _ _ _) (ones_one _) (by unfold maxLen; omega) (by omega) (by have := hb.size; simp; omega) ?_)
  intro v4 w4 hown4 hgrow hnil
  have hb4 : Below w.heap.size w w4 := (hb.alloc hb.size _).grown hgrow (by have := hb.size; simp; omega) (fun k hk => (hown.lt k hk).1)
  rw [strs_snoc] at hown4
  have HO := Lib.hid (own_texts (L := L ++ [s]) (by rw [List.length_append]; exact hown4))
  have HT4 := Lib.hid (Utf8Tabs_below HT.out hb4)
  clear hown4 hgrow hnil hown hb
  go_wp2_with fail
  refine (H2.out _ _ HO.out HT4.out).mono ?_
  rintro e w5 ⟨v5, rfl, ht5, hb5⟩
  go_wp2_with fail
  go_ret
  exact ⟨_, rfl, ht5, below_next hb4 hb5⟩
end Go.Proofs.YthalbcmlehpfaaaDoor
