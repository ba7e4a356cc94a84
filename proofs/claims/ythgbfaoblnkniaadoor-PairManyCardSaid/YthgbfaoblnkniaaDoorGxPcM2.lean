/-
  Layer 10 (pair): the statement PairMany. Conditions: unicode/utf8's two tables hold what their initialisers lay.
-/
import Derived.Test.YthgbfaoblnkniaaDoorGj
namespace Go.Proofs.YthgbfaoblnkniaaDoor
open Go.RowKit Go.Lib Go.Maps Go.WideMaps
set_option maxRecDepth 100000 in
set_option maxHeartbeats 4000000 in
theorem pairmany_2_0 (what more : Int) (w : World) (h0 : 0 ≤ what ∧ what ≤ 255) (h1 : 0 ≤ more ∧ more ≤ 255) (ht : what % 4 = 2) (hm : more % 3 = 0) (hT : Lib.Utf8Tabs 0 1 w) :
  Calls Tryd.prog 3 #[.int .u8 what, .int .u8 more] w fun e w' => e = .returned (.bool true) ∧ Below w.heap.size w w' := by
 have HW := Lib.hid (works10_any w hT)
 have HT := Lib.hid hT
 have ht' : what.tmod 4 = 2 := by rw [Int.tmod_eq_emod_of_nonneg h0.1]; exact ht
 have hm' : more.tmod 3 = 0 := by rw [Int.tmod_eq_emod_of_nonneg h1.1]; exact hm
 have hA := many_all 2 (by decide) 0 (by decide)
 have HA := Lib.hid hA
 obtain ⟨i0, hi, hz0, hz1, hz2⟩ := info_parts info_ev
 clear hT hA ht hm
 go_enter Tryd.func3, Tryd.ntmps3
 go_wp2_with fail
 refine HW.out.mono ?_
 rintro e w1 ⟨rfl, hb1⟩
 go_wp2_with fail
 have hb01 := ((Below.refl w1.heap.size w1).alloc (Nat.le_refl _) (.cells #[.int .i64 20, .int .i64 40, .int .i64 20, .int .i64 40] 3)).alloc (by simp) (.cells #[] 28)
 have hown0 := own_empty' (t := 28) (s := 6) (heap2_new w1 (.cells #[.int .i64 20, .int .i64 40, .int .i64 20, .int .i64 40] 3) (.cells #[] 28)) (Nat.le_succ w1.heap.size)
 have HO0 := Lib.hid hown0
 have HB0 := Lib.hid hb01
 clear hown0 hb01
 go_loopw [7, 8] (fun l i wr => ∃ k : Nat, k ≤ 19 ∧ i = .int .i64 k ∧ wr.ownsRow w1.heap.size 28 6 l (goN 2 k).length (evcs (goN 2 k)) ∧ Below w1.heap.size w1 wr) (fun _ i _ => 19 - (RowKit.intOf i).toNat)
 case atStart => exact ⟨0, Nat.zero_le _, rfl, HO0.out, HB0.out⟩
 case round =>
  obtain ⟨k, hk, rfl, hown, hbw⟩ := hrel
  have hlen := goN_len 2 k
  have hbs := hbw.size
  by_cases hk1 : k < 19
  ·have HNx : RowKit.Hid (goN 2 (k + 1) = goN 2 k ++ oneN 2 k) := Lib.hid rfl
   by_cases hk0 : k = 0
   ·have hkb : ((k : Int) == 0) = true := by simp; omega
    have HOne : RowKit.Hid (oneN 2 k = [(1, [115], [], 0, 0, 0)] ++ [(2, [115], [120], 0, 0, 0)]) := Lib.hid (by unfold oneN; rw [if_pos rfl, if_pos hk0]; rfl)
    clear hk0
    go_wp2_with (at_builtin; go_loud (refine wpList_append_own _ rfl _ _ 24 rfl w1.heap.size 28 i0 (.agg #[.int .i64 0, .string ByteArray.empty, .string ByteArray.empty, .int .i64 0, .int .i64 0, .int .i64 0]) 6 64 Tryd.underlying24 hi hz0 hz1 hz2 rfl (by decide) _ (goN 2 k).length (evcs (goN 2 k)) rfl (hown.alloc _) _ 1 1 (evcs [(1, [115], [], 0, 0, 0)]) rfl rfl (news_lit _ _ _ _ (by simp)) (ones_evcs _) (by unfold maxLen; omega) (by omega) (by simp; omega) ?_))
    intro v3 w3 hown3 hgrow3 hnil3
    have hb3 : Below w1.heap.size w1 w3 := (hbw.alloc hbs _).grown hgrow3 (by simp; omega) (fun q hq => (hown.lt q hq).1)
    have hbs3 := hb3.size
    clear hgrow3 hnil3 hown
    go_wp2_with (at_builtin; go_loud (refine wpList_append_own _ rfl _ _ 24 rfl w1.heap.size 28 i0 (.agg #[.int .i64 0, .string ByteArray.empty, .string ByteArray.empty, .int .i64 0, .int .i64 0, .int .i64 0]) 6 64 Tryd.underlying24 hi hz0 hz1 hz2 rfl (by decide) _ ((goN 2 k).length + 1) (evcs (goN 2 k) ++ evcs [(1, [115], [], 0, 0, 0)]) rfl (hown3.alloc _) _ 1 1 (evcs [(2, [115], [120], 0, 0, 0)]) rfl rfl (news_lit _ _ _ _ (by simp)) (ones_evcs _) (by unfold maxLen; omega) (by omega) (by simp; omega) ?_))
    intro v4 w4 hown4 hgrow4 hnil4
    have hb4 : Below w1.heap.size w1 w4 := (hb3.alloc hbs3 _).grown hgrow4 (by simp; omega) (fun q hq => (hown3.lt q hq).1)
    have HO4 : RowKit.Hid (w4.ownsRow w1.heap.size 28 6 v4 (goN 2 (k + 1)).length (evcs (goN 2 (k + 1)))) := Lib.hid (by rw [HNx.out, HOne.out, List.length_append, evcs_app, evcs_app]; exact hown4)
    clear hown4 hgrow4 hnil4 hown3
    go_wp2_with fail
    go_roundw
    case rel => exact ⟨k + 1, by omega, by go_num, HO4.out, hb4⟩
    case measure => simp [RowKit.intOf]; omega
   ·have hkb : ((k : Int) == 0) = false := by simp; omega
    have HOne : RowKit.Hid (oneN 2 k = [(2, [115], [120], 0, 0, 0)]) := Lib.hid (by unfold oneN; rw [if_pos rfl, if_neg hk0]; rfl)
    clear hk0
    go_wp2_with (at_builtin; go_loud (refine wpList_append_own _ rfl _ _ 24 rfl w1.heap.size 28 i0 (.agg #[.int .i64 0, .string ByteArray.empty, .string ByteArray.empty, .int .i64 0, .int .i64 0, .int .i64 0]) 6 64 Tryd.underlying24 hi hz0 hz1 hz2 rfl (by decide) _ (goN 2 k).length (evcs (goN 2 k)) rfl (hown.alloc _) _ 1 1 (evcs [(2, [115], [120], 0, 0, 0)]) rfl rfl (news_lit _ _ _ _ (by simp)) (ones_evcs _) (by unfold maxLen; omega) (by omega) (by simp; omega) ?_))
    intro v4 w4 hown4 hgrow4 hnil4
    have hb4 : Below w1.heap.size w1 w4 := (hbw.alloc hbs _).grown hgrow4 (by simp; omega) (fun q hq => (hown.lt q hq).1)
    have HO4 : RowKit.Hid (w4.ownsRow w1.heap.size 28 6 v4 (goN 2 (k + 1)).length (evcs (goN 2 (k + 1)))) := Lib.hid (by rw [HNx.out, HOne.out, List.length_append, evcs_app]; exact hown4)
    clear hown4 hgrow4 hnil4 hown
    go_wp2_with fail
    go_roundw
    case rel => exact ⟨k + 1, by omega, by go_num, HO4.out, hb4⟩
    case measure => simp [RowKit.intOf]; omega
  ·have hke : k = 19 := by omega
   subst hke
   have HOw := Lib.hid hown
   have HBw := Lib.hid (hb1.trans (hbw.mono hb1.size))
   clear hown hbw
   have hlen9 := goN_len 2 19
   go_wp2_with (at_builtin; go_loud (refine wpList_append_own _ rfl _ _ 24 rfl w1.heap.size 28 i0 (.agg #[.int .i64 0, .string ByteArray.empty, .string ByteArray.empty, .int .i64 0, .int .i64 0, .int .i64 0]) 6 64 Tryd.underlying24 hi hz0 hz1 hz2 rfl (by decide) _ (goN 2 19).length (evcs (goN 2 19)) rfl (HOw.out.alloc _) _ 1 1 (evcs [(6, [115], [], 0, 0, 0)]) rfl rfl (news_lit _ _ _ _ (by simp)) (ones_evcs _) (by unfold maxLen; omega) (by omega) (by have := HBw.out.size; simp; omega) ?_))
   intro v4 w4 hown4 hgrow4 hnil4
   have hb4 : Below w.heap.size w w4 := (HBw.out.alloc HBw.out.size _).grown hgrow4 (by have := HBw.out.size; simp; omega) (fun q hq => Nat.le_trans hb1.size (HOw.out.lt q hq).1)
   have HEv : RowKit.Hid (EvsS w4 v4 (goN 2 19 ++ [(6, [115], [], 0, 0, 0)])) := Lib.hid (own_evs (by rw [evcs_app, List.length_append]; exact hown4))
   clear hown4 hgrow4 hnil4
   go_wp2_with fail
   obtain ⟨hl, hs⟩ := many_short 2 (by decide) 0 (by decide)
   have hmn : manyN 2 0 = goN 2 19 ++ [(6, [115], [], 0, 0, 0)] := by simp [manyN, maxN, endN]
   rw [hmn] at hl hs HA
   refine (hist10_any _ (goN 2 19 ++ [(6, [115], [], 0, 0, 0)]) HEv.out hl hs (Utf8Tabs_below HT.out hb4)).mono ?_
   rintro e w5 ⟨hv5, rfl, hh, hb5⟩
   obtain ⟨p0, c0, p1, c1, p2, c2, rfl⟩ := histV_form hh
   have e1 : (histP (goN 2 19 ++ [(6, [115], [], 0, 0, 0)])).2.2 = 0 := by have h := HA.out.1; simpa using h
   have e2 : (histP (goN 2 19 ++ [(6, [115], [], 0, 0, 0)])).1.2.2.length ≠ 0 := fun h => by have h2 := HA.out.2.1 h; simp at h2
   have hbF := below_next (hb4) hb5
   clear hh hb5 hs hl HA
   obtain ⟨⟨⟨S, K, T⟩, ln, er⟩, hr⟩ : ∃ r, histP (goN 2 19 ++ [(6, [115], [], 0, 0, 0)]) = r := ⟨_, rfl⟩
   rw [hr] at e1 e2
   simp only [hr]
   clear hr hmn
   try dsimp only at e1 e2 ⊢
   subst e1
   have hT0 : 0 < T.length := by omega
   have hT1 : decide (0 < T.length) = true := decide_eq_true hT0
   clear e2 hT0
   have hbF2 := hbF.alloc hbF.size (.cells #[.slice p0 S.length c0, .slice p1 K.length c1, .slice p2 T.length c2] 32)
   go_wp2_with fail
   go_ret
   first | exact ⟨rfl, hbF2⟩ | exact ⟨(show Ending.returned (Value.bool (decide (0 < T.length))) = Ending.returned (Value.bool true) by rw [hT1]), hbF2⟩
set_option maxRecDepth 100000 in
set_option maxHeartbeats 4000000 in
theorem pairmany_2_1 (what more : Int) (w : World) (h0 : 0 ≤ what ∧ what ≤ 255) (h1 : 0 ≤ more ∧ more ≤ 255) (ht : what % 4 = 2) (hm : more % 3 = 1) (hT : Lib.Utf8Tabs 0 1 w) :
  Calls Tryd.prog 3 #[.int .u8 what, .int .u8 more] w fun e w' => e = .returned (.bool true) ∧ Below w.heap.size w w' := by
 have HW := Lib.hid (works10_any w hT)
 have HT := Lib.hid hT
 have ht' : what.tmod 4 = 2 := by rw [Int.tmod_eq_emod_of_nonneg h0.1]; exact ht
 have hm' : more.tmod 3 = 1 := by rw [Int.tmod_eq_emod_of_nonneg h1.1]; exact hm
 have hA := many_all 2 (by decide) 1 (by decide)
 have HA := Lib.hid hA
 obtain ⟨i0, hi, hz0, hz1, hz2⟩ := info_parts info_ev
 clear hT hA ht hm
 go_enter Tryd.func3, Tryd.ntmps3
 go_wp2_with fail
 refine HW.out.mono ?_
 rintro e w1 ⟨rfl, hb1⟩
 go_wp2_with fail
 have hb01 := ((Below.refl w1.heap.size w1).alloc (Nat.le_refl _) (.cells #[.int .i64 20, .int .i64 40, .int .i64 20, .int .i64 40] 3)).alloc (by simp) (.cells #[] 28)
 have hown0 := own_empty' (t := 28) (s := 6) (heap2_new w1 (.cells #[.int .i64 20, .int .i64 40, .int .i64 20, .int .i64 40] 3) (.cells #[] 28)) (Nat.le_succ w1.heap.size)
 have HO0 := Lib.hid hown0
 have HB0 := Lib.hid hb01
 clear hown0 hb01
 go_loopw [7, 8] (fun l i wr => ∃ k : Nat, k ≤ 20 ∧ i = .int .i64 k ∧ wr.ownsRow w1.heap.size 28 6 l (goN 2 k).length (evcs (goN 2 k)) ∧ Below w1.heap.size w1 wr) (fun _ i _ => 20 - (RowKit.intOf i).toNat)
 case atStart => exact ⟨0, Nat.zero_le _, rfl, HO0.out, HB0.out⟩
 case round =>
  obtain ⟨k, hk, rfl, hown, hbw⟩ := hrel
  have hlen := goN_len 2 k
  have hbs := hbw.size
  by_cases hk1 : k < 20
  ·have HNx : RowKit.Hid (goN 2 (k + 1) = goN 2 k ++ oneN 2 k) := Lib.hid rfl
   by_cases hk0 : k = 0
   ·have hkb : ((k : Int) == 0) = true := by simp; omega
    have HOne : RowKit.Hid (oneN 2 k = [(1, [115], [], 0, 0, 0)] ++ [(2, [115], [120], 0, 0, 0)]) := Lib.hid (by unfold oneN; rw [if_pos rfl, if_pos hk0]; rfl)
    clear hk0
    go_wp2_with (at_builtin; go_loud (refine wpList_append_own _ rfl _ _ 24 rfl w1.heap.size 28 i0 (.agg #[.int .i64 0, .string ByteArray.empty, .string ByteArray.empty, .int .i64 0, .int .i64 0, .int .i64 0]) 6 64 Tryd.underlying24 hi hz0 hz1 hz2 rfl (by decide) _ (goN 2 k).length (evcs (goN 2 k)) rfl (hown.alloc _) _ 1 1 (evcs [(1, [115], [], 0, 0, 0)]) rfl rfl (news_lit _ _ _ _ (by simp)) (ones_evcs _) (by unfold maxLen; omega) (by omega) (by simp; omega) ?_))
    intro v3 w3 hown3 hgrow3 hnil3
    have hb3 : Below w1.heap.size w1 w3 := (hbw.alloc hbs _).grown hgrow3 (by simp; omega) (fun q hq => (hown.lt q hq).1)
    have hbs3 := hb3.size
    clear hgrow3 hnil3 hown
    go_wp2_with (at_builtin; go_loud (refine wpList_append_own _ rfl _ _ 24 rfl w1.heap.size 28 i0 (.agg #[.int .i64 0, .string ByteArray.empty, .string ByteArray.empty, .int .i64 0, .int .i64 0, .int .i64 0]) 6 64 Tryd.underlying24 hi hz0 hz1 hz2 rfl (by decide) _ ((goN 2 k).length + 1) (evcs (goN 2 k) ++ evcs [(1, [115], [], 0, 0, 0)]) rfl (hown3.alloc _) _ 1 1 (evcs [(2, [115], [120], 0, 0, 0)]) rfl rfl (news_lit _ _ _ _ (by simp)) (ones_evcs _) (by unfold maxLen; omega) (by omega) (by simp; omega) ?_))
    intro v4 w4 hown4 hgrow4 hnil4
    have hb4 : Below w1.heap.size w1 w4 := (hb3.alloc hbs3 _).grown hgrow4 (by simp; omega) (fun q hq => (hown3.lt q hq).1)
    have HO4 : RowKit.Hid (w4.ownsRow w1.heap.size 28 6 v4 (goN 2 (k + 1)).length (evcs (goN 2 (k + 1)))) := Lib.hid (by rw [HNx.out, HOne.out, List.length_append, evcs_app, evcs_app]; exact hown4)
    clear hown4 hgrow4 hnil4 hown3
    go_wp2_with fail
    go_roundw
    case rel => exact ⟨k + 1, by omega, by go_num, HO4.out, hb4⟩
    case measure => simp [RowKit.intOf]; omega
   ·have hkb : ((k : Int) == 0) = false := by simp; omega
    have HOne : RowKit.Hid (oneN 2 k = [(2, [115], [120], 0, 0, 0)]) := Lib.hid (by unfold oneN; rw [if_pos rfl, if_neg hk0]; rfl)
    clear hk0
    go_wp2_with (at_builtin; go_loud (refine wpList_append_own _ rfl _ _ 24 rfl w1.heap.size 28 i0 (.agg #[.int .i64 0, .string ByteArray.empty, .string ByteArray.empty, .int .i64 0, .int .i64 0, .int .i64 0]) 6 64 Tryd.underlying24 hi hz0 hz1 hz2 rfl (by decide) _ (goN 2 k).length (evcs (goN 2 k)) rfl (hown.alloc _) _ 1 1 (evcs [(2, [115], [120], 0, 0, 0)]) rfl rfl (news_lit _ _ _ _ (by simp)) (ones_evcs _) (by unfold maxLen; omega) (by omega) (by simp; omega) ?_))
    intro v4 w4 hown4 hgrow4 hnil4
    have hb4 : Below w1.heap.size w1 w4 := (hbw.alloc hbs _).grown hgrow4 (by simp; omega) (fun q hq => (hown.lt q hq).1)
    have HO4 : RowKit.Hid (w4.ownsRow w1.heap.size 28 6 v4 (goN 2 (k + 1)).length (evcs (goN 2 (k + 1)))) := Lib.hid (by rw [HNx.out, HOne.out, List.length_append, evcs_app]; exact hown4)
    clear hown4 hgrow4 hnil4 hown
    go_wp2_with fail
    go_roundw
    case rel => exact ⟨k + 1, by omega, by go_num, HO4.out, hb4⟩
    case measure => simp [RowKit.intOf]; omega
  ·have hke : k = 20 := by omega
   subst hke
   have HOw := Lib.hid hown
   have HBw := Lib.hid (hb1.trans (hbw.mono hb1.size))
   clear hown hbw
   have hlen9 := goN_len 2 20
   go_wp2_with (at_builtin; go_loud (refine wpList_append_own _ rfl _ _ 24 rfl w1.heap.size 28 i0 (.agg #[.int .i64 0, .string ByteArray.empty, .string ByteArray.empty, .int .i64 0, .int .i64 0, .int .i64 0]) 6 64 Tryd.underlying24 hi hz0 hz1 hz2 rfl (by decide) _ (goN 2 20).length (evcs (goN 2 20)) rfl (HOw.out.alloc _) _ 1 1 (evcs [(6, [115], [], 0, 0, 0)]) rfl rfl (news_lit _ _ _ _ (by simp)) (ones_evcs _) (by unfold maxLen; omega) (by omega) (by have := HBw.out.size; simp; omega) ?_))
   intro v4 w4 hown4 hgrow4 hnil4
   have hb4 : Below w.heap.size w w4 := (HBw.out.alloc HBw.out.size _).grown hgrow4 (by have := HBw.out.size; simp; omega) (fun q hq => Nat.le_trans hb1.size (HOw.out.lt q hq).1)
   have HEv : RowKit.Hid (EvsS w4 v4 (goN 2 20 ++ [(6, [115], [], 0, 0, 0)])) := Lib.hid (own_evs (by rw [evcs_app, List.length_append]; exact hown4))
   clear hown4 hgrow4 hnil4
   go_wp2_with fail
   obtain ⟨hl, hs⟩ := many_short 2 (by decide) 1 (by decide)
   have hmn : manyN 2 1 = goN 2 20 ++ [(6, [115], [], 0, 0, 0)] := by simp [manyN, maxN, endN]
   rw [hmn] at hl hs HA
   refine (hist10_any _ (goN 2 20 ++ [(6, [115], [], 0, 0, 0)]) HEv.out hl hs (Utf8Tabs_below HT.out hb4)).mono ?_
   rintro e w5 ⟨hv5, rfl, hh, hb5⟩
   obtain ⟨p0, c0, p1, c1, p2, c2, rfl⟩ := histV_form hh
   have e1 : (histP (goN 2 20 ++ [(6, [115], [], 0, 0, 0)])).2.2 = 0 := by have h := HA.out.1; simpa using h
   have e2 : (histP (goN 2 20 ++ [(6, [115], [], 0, 0, 0)])).1.2.2.length ≠ 0 := fun h => by have h2 := HA.out.2.1 h; simp at h2
   have hbF := below_next (hb4) hb5
   clear hh hb5 hs hl HA
   obtain ⟨⟨⟨S, K, T⟩, ln, er⟩, hr⟩ : ∃ r, histP (goN 2 20 ++ [(6, [115], [], 0, 0, 0)]) = r := ⟨_, rfl⟩
   rw [hr] at e1 e2
   simp only [hr]
   clear hr hmn
   try dsimp only at e1 e2 ⊢
   subst e1
   have hT0 : 0 < T.length := by omega
   have hT1 : decide (0 < T.length) = true := decide_eq_true hT0
   clear e2 hT0
   have hbF2 := hbF.alloc hbF.size (.cells #[.slice p0 S.length c0, .slice p1 K.length c1, .slice p2 T.length c2] 32)
   go_wp2_with fail
   go_ret
   first | exact ⟨rfl, hbF2⟩ | exact ⟨(show Ending.returned (Value.bool (decide (0 < T.length))) = Ending.returned (Value.bool true) by rw [hT1]), hbF2⟩
set_option maxRecDepth 100000 in
set_option maxHeartbeats 4000000 in
theorem pairmany_2_2 (what more : Int) (w : World) (h0 : 0 ≤ what ∧ what ≤ 255) (h1 : 0 ≤ more ∧ more ≤ 255) (ht : what % 4 = 2) (hm : more % 3 = 2) (hT : Lib.Utf8Tabs 0 1 w) :
  Calls Tryd.prog 3 #[.int .u8 what, .int .u8 more] w fun e w' => e = .returned (.bool true) ∧ Below w.heap.size w w' := by
 have HW := Lib.hid (works10_any w hT)
 have HT := Lib.hid hT
 have ht' : what.tmod 4 = 2 := by rw [Int.tmod_eq_emod_of_nonneg h0.1]; exact ht
 have hm' : more.tmod 3 = 2 := by rw [Int.tmod_eq_emod_of_nonneg h1.1]; exact hm
 have hA := many_all 2 (by decide) 2 (by decide)
 have HA := Lib.hid hA
 obtain ⟨i0, hi, hz0, hz1, hz2⟩ := info_parts info_ev
 clear hT hA ht hm
 go_enter Tryd.func3, Tryd.ntmps3
 go_wp2_with fail
 refine HW.out.mono ?_
 rintro e w1 ⟨rfl, hb1⟩
 go_wp2_with fail
 have hb01 := ((Below.refl w1.heap.size w1).alloc (Nat.le_refl _) (.cells #[.int .i64 20, .int .i64 40, .int .i64 20, .int .i64 40] 3)).alloc (by simp) (.cells #[] 28)
 have hown0 := own_empty' (t := 28) (s := 6) (heap2_new w1 (.cells #[.int .i64 20, .int .i64 40, .int .i64 20, .int .i64 40] 3) (.cells #[] 28)) (Nat.le_succ w1.heap.size)
 have HO0 := Lib.hid hown0
 have HB0 := Lib.hid hb01
 clear hown0 hb01
 go_loopw [7, 8] (fun l i wr => ∃ k : Nat, k ≤ 21 ∧ i = .int .i64 k ∧ wr.ownsRow w1.heap.size 28 6 l (goN 2 k).length (evcs (goN 2 k)) ∧ Below w1.heap.size w1 wr) (fun _ i _ => 21 - (RowKit.intOf i).toNat)
 case atStart => exact ⟨0, Nat.zero_le _, rfl, HO0.out, HB0.out⟩
 case round =>
  obtain ⟨k, hk, rfl, hown, hbw⟩ := hrel
  have hlen := goN_len 2 k
  have hbs := hbw.size
  by_cases hk1 : k < 21
  ·have HNx : RowKit.Hid (goN 2 (k + 1) = goN 2 k ++ oneN 2 k) := Lib.hid rfl
   by_cases hk0 : k = 0
   ·have hkb : ((k : Int) == 0) = true := by simp; omega
    have HOne : RowKit.Hid (oneN 2 k = [(1, [115], [], 0, 0, 0)] ++ [(2, [115], [120], 0, 0, 0)]) := Lib.hid (by unfold oneN; rw [if_pos rfl, if_pos hk0]; rfl)
    clear hk0
    go_wp2_with (at_builtin; go_loud (refine wpList_append_own _ rfl _ _ 24 rfl w1.heap.size 28 i0 (.agg #[.int .i64 0, .string ByteArray.empty, .string ByteArray.empty, .int .i64 0, .int .i64 0, .int .i64 0]) 6 64 Tryd.underlying24 hi hz0 hz1 hz2 rfl (by decide) _ (goN 2 k).length (evcs (goN 2 k)) rfl (hown.alloc _) _ 1 1 (evcs [(1, [115], [], 0, 0, 0)]) rfl rfl (news_lit _ _ _ _ (by simp)) (ones_evcs _) (by unfold maxLen; omega) (by omega) (by simp; omega) ?_))
    intro v3 w3 hown3 hgrow3 hnil3
    have hb3 : Below w1.heap.size w1 w3 := (hbw.alloc hbs _).grown hgrow3 (by simp; omega) (fun q hq => (hown.lt q hq).1)
    have hbs3 := hb3.size
    clear hgrow3 hnil3 hown
    go_wp2_with (at_builtin; go_loud (refine wpList_append_own _ rfl _ _ 24 rfl w1.heap.size 28 i0 (.agg #[.int .i64 0, .string ByteArray.empty, .string ByteArray.empty, .int .i64 0, .int .i64 0, .int .i64 0]) 6 64 Tryd.underlying24 hi hz0 hz1 hz2 rfl (by decide) _ ((goN 2 k).length + 1) (evcs (goN 2 k) ++ evcs [(1, [115], [], 0, 0, 0)]) rfl (hown3.alloc _) _ 1 1 (evcs [(2, [115], [120], 0, 0, 0)]) rfl rfl (news_lit _ _ _ _ (by simp)) (ones_evcs _) (by unfold maxLen; omega) (by omega) (by simp; omega) ?_))
    intro v4 w4 hown4 hgrow4 hnil4
    have hb4 : Below w1.heap.size w1 w4 := (hb3.alloc hbs3 _).grown hgrow4 (by simp; omega) (fun q hq => (hown3.lt q hq).1)
    have HO4 : RowKit.Hid (w4.ownsRow w1.heap.size 28 6 v4 (goN 2 (k + 1)).length (evcs (goN 2 (k + 1)))) := Lib.hid (by rw [HNx.out, HOne.out, List.length_append, evcs_app, evcs_app]; exact hown4)
    clear hown4 hgrow4 hnil4 hown3
    go_wp2_with fail
    go_roundw
    case rel => exact ⟨k + 1, by omega, by go_num, HO4.out, hb4⟩
    case measure => simp [RowKit.intOf]; omega
   ·have hkb : ((k : Int) == 0) = false := by simp; omega
    have HOne : RowKit.Hid (oneN 2 k = [(2, [115], [120], 0, 0, 0)]) := Lib.hid (by unfold oneN; rw [if_pos rfl, if_neg hk0]; rfl)
    clear hk0
    go_wp2_with (at_builtin; go_loud (refine wpList_append_own _ rfl _ _ 24 rfl w1.heap.size 28 i0 (.agg #[.int .i64 0, .string ByteArray.empty, .string ByteArray.empty, .int .i64 0, .int .i64 0, .int .i64 0]) 6 64 Tryd.underlying24 hi hz0 hz1 hz2 rfl (by decide) _ (goN 2 k).length (evcs (goN 2 k)) rfl (hown.alloc _) _ 1 1 (evcs [(2, [115], [120], 0, 0, 0)]) rfl rfl (news_lit _ _ _ _ (by simp)) (ones_evcs _) (by unfold maxLen; omega) (by omega) (by simp; omega) ?_))
    intro v4 w4 hown4 hgrow4 hnil4
    have hb4 : Below w1.heap.size w1 w4 := (hbw.alloc hbs _).grown hgrow4 (by simp; omega) (fun q hq => (hown.lt q hq).1)
    have HO4 : RowKit.Hid (w4.ownsRow w1.heap.size 28 6 v4 (goN 2 (k + 1)).length (evcs (goN 2 (k + 1)))) := Lib.hid (by rw [HNx.out, HOne.out, List.length_append, evcs_app]; exact hown4)
    clear hown4 hgrow4 hnil4 hown
    go_wp2_with fail
    go_roundw
    case rel => exact ⟨k + 1, by omega, by go_num, HO4.out, hb4⟩
    case measure => simp [RowKit.intOf]; omega
  ·have hke : k = 21 := by omega
   subst hke
   have HOw := Lib.hid hown
   have HBw := Lib.hid (hb1.trans (hbw.mono hb1.size))
   clear hown hbw
   have hlen9 := goN_len 2 21
   go_wp2_with (at_builtin; go_loud (refine wpList_append_own _ rfl _ _ 24 rfl w1.heap.size 28 i0 (.agg #[.int .i64 0, .string ByteArray.empty, .string ByteArray.empty, .int .i64 0, .int .i64 0, .int .i64 0]) 6 64 Tryd.underlying24 hi hz0 hz1 hz2 rfl (by decide) _ (goN 2 21).length (evcs (goN 2 21)) rfl (HOw.out.alloc _) _ 1 1 (evcs [(6, [115], [], 0, 0, 0)]) rfl rfl (news_lit _ _ _ _ (by simp)) (ones_evcs _) (by unfold maxLen; omega) (by omega) (by have := HBw.out.size; simp; omega) ?_))
   intro v4 w4 hown4 hgrow4 hnil4
   have hb4 : Below w.heap.size w w4 := (HBw.out.alloc HBw.out.size _).grown hgrow4 (by have := HBw.out.size; simp; omega) (fun q hq => Nat.le_trans hb1.size (HOw.out.lt q hq).1)
   have HEv : RowKit.Hid (EvsS w4 v4 (goN 2 21 ++ [(6, [115], [], 0, 0, 0)])) := Lib.hid (own_evs (by rw [evcs_app, List.length_append]; exact hown4))
   clear hown4 hgrow4 hnil4
   go_wp2_with fail
   obtain ⟨hl, hs⟩ := many_short 2 (by decide) 2 (by decide)
   have hmn : manyN 2 2 = goN 2 21 ++ [(6, [115], [], 0, 0, 0)] := by simp [manyN, maxN, endN]
   rw [hmn] at hl hs HA
   refine (hist10_any _ (goN 2 21 ++ [(6, [115], [], 0, 0, 0)]) HEv.out hl hs (Utf8Tabs_below HT.out hb4)).mono ?_
   rintro e w5 ⟨hv5, rfl, hh, hb5⟩
   obtain ⟨p0, c0, p1, c1, p2, c2, rfl⟩ := histV_form hh
   have e1 : (histP (goN 2 21 ++ [(6, [115], [], 0, 0, 0)])).2.2 = 7 := by have h := HA.out.1; simpa using h
   have e2 : (histP (goN 2 21 ++ [(6, [115], [], 0, 0, 0)])).1.2.2.length = 0 := HA.out.2.2 (by trivial)
   have hbF := below_next (hb4) hb5
   clear hh hb5 hs hl HA
   obtain ⟨⟨⟨S, K, T⟩, ln, er⟩, hr⟩ : ∃ r, histP (goN 2 21 ++ [(6, [115], [], 0, 0, 0)]) = r := ⟨_, rfl⟩
   rw [hr] at e1 e2
   simp only [hr]
   clear hr hmn
   try dsimp only at e1 e2 ⊢
   subst e1
   rw [e2]
   have hbF2 := hbF.alloc hbF.size (.cells #[.slice p0 S.length c0, .slice p1 K.length c1, .slice p2 0 c2] 32)
   go_wp2_with fail
   go_ret
   first | exact ⟨rfl, hbF2⟩ | exact ⟨(show Ending.returned (Value.bool (decide (0 < T.length))) = Ending.returned (Value.bool true) by rw [hT1]), hbF2⟩
end Go.Proofs.YthgbfaoblnkniaaDoor
