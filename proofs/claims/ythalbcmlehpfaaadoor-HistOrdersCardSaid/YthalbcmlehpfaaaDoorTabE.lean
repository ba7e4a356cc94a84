/-
  The walks of layer 9 (table), the program: names' numbers in a table; the chapter's example. No conditions but that unicode/utf8's two tables are as their initialisers lay them.
-/
import Derived.Test.YthalbcmlehpfaaaDoorTabC
import Derived.Test.YthalbcmlehpfaaaDoorInts
import Derived.OwnWalk
namespace Go.Proofs.YthalbcmlehpfaaaDoor
open Go.RowKit Go.Lib

/-- The numbers found so far, the rest not yet. -/
def partM (fr M : List (List UInt8)) (k : Nat) : List Int := (fr.take k).map (numT M) ++ List.replicate (fr.length - k) 0
theorem partM_len (fr M : List (List UInt8)) (k : Nat) (hk : k ≤ fr.length) : (partM fr M k).length = fr.length := by
  unfold partM
  simp only [List.length_append, List.length_map, List.length_take, List.length_replicate]
  omega
theorem partM_next (fr M : List (List UInt8)) (k : Nat) (hk : k < fr.length) : (partM fr M k).set k (numT M (fr.getD k [])) = partM fr M (k + 1) := by
  unfold partM
  have hl : ((fr.take k).map (numT M)).length = k := by simp; omega
  obtain ⟨r, hr⟩ : ∃ r, fr.length - k = r + 1 := ⟨fr.length - k - 1, by omega⟩
  have hr2 : fr.length - (k + 1) = r := by omega
  rw [hr, hr2, List.set_append_right _ _ (by omega), hl, Nat.sub_self, List.replicate_succ, List.set_cons_zero, List.take_add_one, List.map_append]
  simp [hk]
theorem partM_all (fr M : List (List UInt8)) : partM fr M fr.length = mapT fr M := by simp [partM, mapT]
theorem made_ints (n : Nat) : (madeCells (Value.cells (.int .i64 0)) (n * 1)).toList = vints (List.replicate n 0) := by
  rw [Nat.mul_one]
  show (madeCells #[.int .i64 0] n).toList = _
  rw [toList_madeCells_one]
  simp [vints]

set_option maxRecDepth 100000 in
set_option maxHeartbeats 2000000 in
theorem map_any (w : World) (v v' : Value) (F L : List (List UInt8)) (hf : Texts w v F) (hv : Texts w v' L) (hF : F.length ≤ 10000) (hL : L.length ≤ 10000) (hs : ∀ x ∈ L, x.length ≤ 1000000) (hT : Lib.Utf8Tabs 0 1 w) :
    Calls Tryd.prog 38 #[v, v'] w fun e w' => ∃ v4, e = .returned v4 ∧ IntsS w' v4 (mapT F L) ∧ Below w.heap.size w w' := by
  obtain ⟨p, c, rfl, hp⟩ := hf
  have HX := Lib.hid hp
  have HV := Lib.hid hv
  have HT := Lib.hid hT
  have HS := Lib.hid hs
  obtain ⟨i0, hi, hz0, hz1, hz2⟩ := info_parts info_i64
  obtain ⟨w1, hmk, hown, hgrow⟩ := run_make_full (P := Tryd.prog) w w.heap.size 27 3 i0 (.int .i64 0) 1 Tryd.underlying27 hi hz0 hz1 .i64 .i64 F.length (by rw [hz2]; omega) (by unfold maxLen; omega) (Nat.le_refl _)
  rw [made_ints] at hown
  have hb1 : Below w.heap.size w w1 := (Below.refl _ _).grown hgrow (Nat.le_refl _) (fun k hk => by cases hk)
  have e0 : List.replicate F.length (0 : Int) = partM F L 0 := by simp [partM]
  rw [e0] at hown
  have HO := Lib.hid hown
  clear hown hgrow e0 hp hv hT hs
  go_enter Tryd.func38, Tryd.ntmps38
  go_wp2_with fail
  go_loopw [15] (fun i wr => ∃ k : Nat, k ≤ F.length ∧ i = .int .i64 k ∧ wr.ownsRow w.heap.size 3 1 (.slice (some ⟨w.heap.size, 0, none⟩) F.length F.length) F.length (vints (partM F L k)) ∧ Below w.heap.size w wr) (fun i _ => F.length - (RowKit.intOf i).toNat)
  case atStart => exact ⟨0, Nat.zero_le _, rfl, HO.out, hb1⟩
  case round =>
    obtain ⟨k, hk, rfl, hown, hbw⟩ := hrel
    by_cases hlt : k < F.length
    · obtain ⟨g, rfl, hc⟩ := HX.out k hlt
      have hnx := partM_next F L k hlt
      have hlen := partM_len F L k hk
      obtain ⟨x, hx⟩ : ∃ x, F.getD k [] = x := ⟨_, rfl⟩
      rw [hx] at hc hnx
      have H1 := Lib.hid (fun w' (h : Texts w' v' L) (hT' : Lib.Utf8Tabs 0 1 w') => find_any w' v' L x h (by omega) HS.out hT')
      have hc' := cell_later hbw hc
      have HV1 := Lib.hid (HV.out.below hbw)
      have HT1 := Lib.hid (Utf8Tabs_below HT.out hbw)
      have HN := Lib.hid hnx
      unfold numT at hnx
      have HFx : RowKit.Hid (numT L x = if (findT L x).2 = true then ((findT L x).1 : Int) else -1) := Lib.hid rfl
      clear hx hc hnx
      generalize findT L x = Z at *
      obtain ⟨a, b⟩ := Z
      cases b with
      | false =>
        have HE : RowKit.Hid (numT L x = -1) := Lib.hid (by rw [HFx.out]; rfl)
        go_wp2_with fail
        refine (H1.out _ HV1.out HT1.out).mono ?_
        rintro e w2 ⟨rfl, hb2⟩
        have hown2 := owns_below hown hb2
        have hbw2 := below_next hbw hb2
        have q1 : w2.cell? ⟨w.heap.size, k, none⟩ = some (.int .i64 ((partM F L k).getD k 0)) := by
          rw [hown2.cellAt k (by omega)]
          simp [vints, hlen, hlt]
        have q2 := hown2.frozenAt k
        generalize (partM F L k).getD k 0 = old at q1
        clear hown hb2 hbw HV1 HT1
        go_wp2_with fail
        go_roundw
        case rel =>
          have st := hown2.stored k (.int .i64 (-1))
          rw [vints_set, ← HE.out, HN.out] at st
          exact ⟨k + 1, by omega, by go_num, by rw [← HE.out]; exact st.1, hbw2.grown (by rw [← HE.out]; exact st.2) hbw2.size (fun j hj => by cases hj; exact Nat.le_refl _)⟩
        case measure => simp [RowKit.intOf]; omega
      | true =>
        have HE : RowKit.Hid (numT L x = (a : Int)) := Lib.hid (by rw [HFx.out]; rfl)
        go_wp2_with fail
        refine (H1.out _ HV1.out HT1.out).mono ?_
        rintro e w2 ⟨rfl, hb2⟩
        have hown2 := owns_below hown hb2
        have hbw2 := below_next hbw hb2
        have q1 : w2.cell? ⟨w.heap.size, k, none⟩ = some (.int .i64 ((partM F L k).getD k 0)) := by
          rw [hown2.cellAt k (by omega)]
          simp [vints, hlen, hlt]
        have q2 := hown2.frozenAt k
        generalize (partM F L k).getD k 0 = old at q1
        clear hown hb2 hbw HV1 HT1
        go_wp2_with fail
        go_roundw
        case rel =>
          have st := hown2.stored k (.int .i64 (a : Int))
          rw [vints_set, ← HE.out, HN.out] at st
          exact ⟨k + 1, by omega, by go_num, by rw [← HE.out]; exact st.1, hbw2.grown (by rw [← HE.out]; exact st.2) hbw2.size (fun j hj => by cases hj; exact Nat.le_refl _)⟩
        case measure => simp [RowKit.intOf]; omega
    · have hke : k = F.length := by omega
      subst hke
      rw [partM_all] at hown
      have HO2 : RowKit.Hid (IntsS wr (.slice (some ⟨w.heap.size, 0, none⟩) F.length F.length) (mapT F L)) := Lib.hid (own_intsI (L := mapT F L) (by simpa [mapT] using hown))
      clear hown
      go_wp2_with fail
      go_ret
      exact ⟨_, rfl, HO2.out, hbw⟩

theorem ex_find : findT [[97], [98]] [98] = (1, true) := by decide +kernel
theorem ex_sort : sortedN [[98], [97], [98]] = [[97], [98]] := by decide +kernel
theorem texts_lit2 (w : World) (a b : List UInt8) (e : TypeId) : Texts (w.alloc (.cells #[.string (bs a), .string (bs b)] e)) (.slice (some ⟨w.heap.size, 0, none⟩) 2 2) [a, b] := by
  refine ⟨_, 2, rfl, fun j hj => ⟨_, rfl, ?_⟩⟩
  rw [cell_of_row _ _ j _ e (0, 0) (heap_alloc_new w _)]
  match j, hj with
  | 0, _ => rfl
  | 1, _ => rfl
theorem texts_lit3 (w : World) (a b c : List UInt8) (e : TypeId) : Texts (w.alloc (.cells #[.string (bs a), .string (bs b), .string (bs c)] e)) (.slice (some ⟨w.heap.size, 0, none⟩) 3 3) [a, b, c] := by
  refine ⟨_, 3, rfl, fun j hj => ⟨_, rfl, ?_⟩⟩
  rw [cell_of_row _ _ j _ e (0, 0) (heap_alloc_new w _)]
  match j, hj with
  | 0, _ => rfl
  | 1, _ => rfl
  | 2, _ => rfl
set_option maxRecDepth 100000 in
set_option maxHeartbeats 1000000 in
theorem works9_any (w : World) (hT : Lib.Utf8Tabs 0 1 w) :
    Calls Tryd.prog 34 #[] w fun e w' => e = .returned (.bool true) ∧ Below w.heap.size w w' := by
  have HT := Lib.hid hT
  have H1 := Lib.hid (fun w' v (h : Texts w' v [[97], [98]]) (hT' : Lib.Utf8Tabs 0 1 w') => find_any w' v [[97], [98]] [98] h (by simp) (by simp) hT')
  have H2 := Lib.hid (fun w' v (h : Texts w' v [[98], [97], [98]]) (hT' : Lib.Utf8Tabs 0 1 w') => make_any w' v [[98], [97], [98]] h (by simp) (by simp) hT')
  rw [ex_find] at H1
  rw [ex_sort] at H2
  clear hT
  go_enter Tryd.func34, Tryd.ntmps34
  go_wp2_with fail
  have hb1 := (Below.refl w.heap.size w).alloc (Nat.le_refl _) (.cells #[.string (bs [97]), .string (bs [98])] 9)
  refine (H1.out _ _ (texts_lit2 _ _ _ _) (Utf8Tabs_below HT.out hb1)).mono ?_
  rintro e w2 ⟨rfl, hb2⟩
  have hb3 := below_next hb1 hb2
  clear hb1 hb2
  go_wp2_with fail
  have hb4 := hb3.alloc hb3.size (.cells #[.string (bs [98]), .string (bs [97]), .string (bs [98])] 9)
  refine (H2.out _ _ (texts_lit3 _ _ _ _ _) (Utf8Tabs_below HT.out hb4)).mono ?_
  rintro e w5 ⟨v5, rfl, ht5, hb5⟩
  have hb6 := below_next hb4 hb5
  have HX := Lib.hid ht5
  clear hb3 hb4 hb5 ht5
  go_wp2_with fail
  have hb7 := hb6.alloc hb6.size (.cells #[.string (bs [97]), .string (bs [98])] 9)
  refine (sametexts_any _ _ _ [[97], [98]] [[97], [98]] (HX.out.below ((Below.refl _ _).alloc (Nat.le_refl _) _)) (texts_lit2 _ _ _ _) (by simp)).mono ?_
  rintro e w8 ⟨rfl, hb8⟩
  have hb9 := below_next hb7 hb8
  clear hb6 hb7 hb8
  go_wp2_with fail
  go_ret
  exact ⟨rfl, hb9⟩
end Go.Proofs.YthalbcmlehpfaaaDoor
