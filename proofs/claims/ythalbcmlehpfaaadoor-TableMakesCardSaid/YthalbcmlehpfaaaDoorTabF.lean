/-
  The walks of layer 9's reference (table): a name found, a name put in, names' numbers. No conditions.
-/
import Derived.Test.YthalbcmlehpfaaaDoorTabD
import Derived.Test.YthalbcmlehpfaaaDoorTabE
namespace Go.Proofs.YthalbcmlehpfaaaDoor
open Go.RowKit Go.Lib

set_option maxRecDepth 100000 in
set_option maxHeartbeats 1000000 in
theorem rfind_any (w : World) (v : Value) (L : List (List UInt8)) (s : List UInt8) (hv : Texts w v L) (hL : L.length ≤ 1000000) (hs : ∀ x ∈ L, x.length ≤ 1000000) :
    Calls Tryd.prog 37 #[v, .string (bs s)] w fun e w' => e = .returned (.tuple #[.int .i64 ((findT L s).1 : Nat), .bool (findT L s).2]) ∧ Below w.heap.size w w' := by
  have HV := Lib.hid hv
  have HI := Lib.hid (fun w' (h : Texts w' v L) => rtis_any w' v L h hL hs)
  obtain ⟨p, c, rfl, hp⟩ := hv
  have HX := Lib.hid hp
  have HA : RowKit.Hid (isT L = true → ∀ k, k < L.length → L.getD k [] = s → (∀ j, j < k → L.getD j [] ≠ s) → findT L s = (k, true)) := Lib.hid (fun ht k hk he hn => by
    obtain ⟨h1, h2⟩ := idx_at L s k hk he hn
    rw [findT, if_pos ⟨ht, h2⟩, h1])
  have HZ : RowKit.Hid ((isT L = false ∨ ∀ j, j < L.length → L.getD j [] ≠ s) → findT L s = (0, false)) := Lib.hid (fun h => by
    rw [findT, if_neg]
    rintro ⟨h1, h2⟩
    rcases h with h | h
    · rw [h] at h1; cases h1
    · exact idx_none L s h h2)
  obtain ⟨R, hR⟩ : ∃ R, findT L s = R := ⟨_, rfl⟩
  rw [hR] at HA HZ ⊢
  obtain ⟨b, hb⟩ : ∃ b, isT L = b := ⟨_, rfl⟩
  rw [hb] at HI HA HZ
  clear hp hs hR hb
  go_enter Tryd.func37, Tryd.ntmps37
  go_wp2_with fail
  go_loopw [6] (fun i wr => ∃ k : Nat, k ≤ L.length ∧ i = .int .i64 k ∧ (∀ j, j < k → L.getD j [] ≠ s) ∧ Below w.heap.size w wr) (fun i _ => L.length - (RowKit.intOf i).toNat)
  case atStart => exact ⟨0, Nat.zero_le _, rfl, fun j hj => absurd hj (Nat.not_lt_zero j), Below.refl _ _⟩
  case round =>
    obtain ⟨k, hk, rfl, hn, hbw⟩ := hrel
    have HN := Lib.hid hn
    clear hn
    by_cases hlt : k < L.length
    · obtain ⟨g, rfl, hc⟩ := HX.out k hlt
      have HV1 := Lib.hid (HV.out.below hbw)
      cases b with
      | false =>
        have H1 := Lib.hid (HZ.out (.inl rfl))
        clear hc
        go_wp2_with fail
        refine (HI.out _ HV1.out).mono ?_
        rintro e w1 ⟨rfl, hb1⟩
        go_wp2_with fail
        go_ret2
        exact ⟨by rw [H1.out]; rfl, below_next hbw hb1⟩
      | true =>
        by_cases he : L.getD k [] = s
        · have H1 := Lib.hid (HA.out rfl k hlt he HN.out)
          rw [he] at hc
          clear he
          go_wp2_with fail
          refine (HI.out _ HV1.out).mono ?_
          rintro e w1 ⟨rfl, hb1⟩
          have hbw1 := below_next hbw hb1
          have hc1 := cell_later hbw1 hc
          clear hb1 hbw HV1
          go_wp2_with fail
          go_ret2
          exact ⟨by rw [H1.out]; rfl, hbw1⟩
        · have he0 : L.getD k [] ≠ s := he
          have H1 : RowKit.Hid (∀ j, j < k + 1 → L.getD j [] ≠ s) := Lib.hid (by
            intro j hj
            by_cases hjk : j < k
            · exact HN.out j hjk
            · obtain rfl : j = k := by omega
              exact he0)
          obtain ⟨x, hx⟩ : ∃ x, L.getD k [] = x := ⟨_, rfl⟩
          rw [hx] at hc he
          have e1 : (x == s) = false := beq_eq_false_iff_ne.2 he
          clear he0 he hx
          go_wp2_with fail
          refine (HI.out _ HV1.out).mono ?_
          rintro e w1 ⟨rfl, hb1⟩
          have hbw1 := below_next hbw hb1
          have hc1 := cell_later hbw1 hc
          clear hb1 hbw HV1
          go_wp2_with fail
          go_roundw
          case rel => exact ⟨k + 1, by omega, by go_num, H1.out, hbw1⟩
          case measure => simp [RowKit.intOf]; omega
    · have hke : k = L.length := by omega
      subst hke
      have H1 := Lib.hid (HZ.out (.inr HN.out))
      go_wp2_with fail
      go_ret2
      exact ⟨by rw [H1.out]; rfl, hbw⟩

set_option maxRecDepth 100000 in
set_option maxHeartbeats 1000000 in
theorem rput_any (w : World) (v : Value) (L : List (List UInt8)) (s : List UInt8) (hv : TextsS w v L) (hL : L.length ≤ 10000) (hs : ∀ x ∈ L, x.length ≤ 1000000) (hl : s.length ≤ 1000000) :
    Calls Tryd.prog 33 #[v, .string (bs s)] w fun e w' => ∃ v', e = .returned v' ∧ TextsS w' v' (putT L s) ∧ Below w.heap.size w w' := by
  have H2 := Lib.hid (fun w' v' (h : Texts w' v' (L ++ [s])) => rsorted_any w' v' (L ++ [s]) h (by simp; omega) (fun x hx => by
    rcases List.mem_append.1 hx with h | h
    · exact hs x h
    · obtain rfl : x = s := by simpa using h
      exact hl))
  have hp : sortedN (L ++ [s]) = putT L s := rfl
  rw [hp] at H2
  generalize putT L s = R at *
  obtain ⟨i0, hi, hz0, hz1, hz2⟩ := info_parts info_str
  obtain ⟨g, c, rfl, hc, hcells⟩ := hv
  have HC : RowKit.Hid (∀ (j : Nat) (u : Value), (strs L)[j]? = some u → w.cell? ((⟨g, 0, none⟩ : Addr).add j) = some u) := Lib.hid (cells_from w g 0 L (fun q hq => by rw [Nat.zero_add]; exact hcells q hq))
  clear hcells hs hl hp
  go_enter Tryd.func33, Tryd.ntmps33
  go_wp2_with (at_builtin; refine wpList_append_own _ rfl _ _ 22 rfl w.heap.size 9 i0 (.string ByteArray.empty) 1 16 Tryd.underlying22 hi hz0 hz1 hz2 rfl (by decide) _ 0 [] rfl (World.ownsRow_made w #[] 0 (Nat.le_refl _) (Nat.zero_le _) rfl) ⟨g, 0, none⟩ L.length c (strs L) rfl (by simp [strs]) (fun j u hj => cell_past _ (HC.out j u hj)) (ones_strs _) (by unfold maxLen; omega) (by omega) (by simp) ?_)
  intro v3 w3 hown3 hgrow3 hnil3
  have hb3 : Below w.heap.size w w3 := ((Below.refl _ _).alloc (Nat.le_refl _) _).grown hgrow3 (by simp) (fun k hk => by simp [Value.ownBlock] at hk; omega)
  have hown : w3.ownsRow w.heap.size 9 1 v3 L.length (strs L) := by simpa using hown3
  clear hown3 hgrow3 hnil3
  go_wp2_with (at_builtin; refine wpList_append_own _ rfl _ _ 22 rfl w.heap.size 9 i0 (.string ByteArray.empty) 1 16 Tryd.underlying22 hi hz0 hz1 hz2 rfl (by decide) _ _ _ rfl (hown.alloc _) ⟨w3.heap.size, 0, none⟩ 1 1 [.string (bs s)] rfl rfl (news_str' _ _ _) (ones_one _) (by unfold maxLen; omega) (by omega) (by have := hb3.size; simp; omega) ?_)
  intro v4 w4 hown4 hgrow hnil
  have hb4 : Below w.heap.size w w4 := (hb3.alloc hb3.size _).grown hgrow (by have := hb3.size; simp; omega) (fun k hk => (hown.lt k hk).1)
  rw [strs_snoc] at hown4
  have HO := Lib.hid (own_texts (L := L ++ [s]) (by rw [List.length_append]; exact hown4))
  clear hown4 hgrow hnil hown hb3
  go_wp2_with fail
  refine (H2.out _ _ HO.out).mono ?_
  rintro e w5 ⟨v5, rfl, ht5, hb5⟩
  go_wp2_with fail
  go_ret
  exact ⟨_, rfl, ht5, below_next hb4 hb5⟩

set_option maxRecDepth 100000 in
set_option maxHeartbeats 2000000 in
theorem rmap_any (w : World) (v v' : Value) (F L : List (List UInt8)) (hf : Texts w v F) (hv : Texts w v' L) (hF : F.length ≤ 10000) (hL : L.length ≤ 10000) (hs : ∀ x ∈ L, x.length ≤ 1000000) :
    Calls Tryd.prog 39 #[v, v'] w fun e w' => ∃ v4, e = .returned v4 ∧ IntsS w' v4 (mapT F L) ∧ Below w.heap.size w w' := by
  obtain ⟨p, c, rfl, hp⟩ := hf
  have HX := Lib.hid hp
  have HV := Lib.hid hv
  have HS := Lib.hid hs
  obtain ⟨i0, hi, hz0, hz1, hz2⟩ := info_parts info_i64
  clear hp hv hs
  go_enter Tryd.func39, Tryd.ntmps39
  go_wp2_with fail
  go_loopw [5, 6] (fun o i wr => ∃ k : Nat, k ≤ F.length ∧ i = .int .i64 k ∧ wr.ownsRow w.heap.size 3 1 o k (vints ((F.take k).map (numT L))) ∧ Below w.heap.size w wr) (fun _ i _ => F.length - (RowKit.intOf i).toNat)
  case atStart => exact ⟨0, Nat.zero_le _, rfl, World.ownsRow_made w #[] 0 (Nat.le_refl _) (Nat.zero_le _) rfl, (Below.refl _ _).alloc (Nat.le_refl _) _⟩
  case round =>
    obtain ⟨k, hk, rfl, hown, hbw⟩ := hrel
    by_cases hlt : k < F.length
    · obtain ⟨g, rfl, hc⟩ := HX.out k hlt
      have hnx : (F.take (k + 1)).map (numT L) = (F.take k).map (numT L) ++ [numT L (F.getD k [])] := by
        rw [List.take_add_one, List.map_append]
        congr 1
        simp [hlt]
      obtain ⟨x, hx⟩ : ∃ x, F.getD k [] = x := ⟨_, rfl⟩
      rw [hx] at hc hnx
      have H1 := Lib.hid (fun w' (h : Texts w' v' L) => rfind_any w' v' L x h (by omega) HS.out)
      have hc' := cell_later hbw hc
      have HV1 := Lib.hid (HV.out.below hbw)
      have HN := Lib.hid hnx
      have HFx : RowKit.Hid (numT L x = if (findT L x).2 = true then ((findT L x).1 : Int) else -1) := Lib.hid rfl
      clear hx hc hnx
      generalize findT L x = Z at *
      obtain ⟨a, b⟩ := Z
      have hrest : ∀ (y : Int) (w2 : World), True := fun _ _ => trivial
      clear hrest
      cases b with
      | false =>
        have HE : RowKit.Hid (numT L x = -1) := Lib.hid (by rw [HFx.out]; rfl)
        go_wp2_with fail
        refine (H1.out _ HV1.out).mono ?_
        rintro e w2 ⟨rfl, hb2⟩
        have hown2 := owns_below hown hb2
        have hbw2 := below_next hbw hb2
        clear hown hb2 hbw HV1
        go_wp2_with (at_builtin; refine wpList_append_own _ rfl _ _ 27 rfl w.heap.size 3 i0 (.int .i64 0) 1 8 Tryd.underlying27 hi hz0 hz1 hz2 rfl (by decide) _ _ _ rfl (hown2.alloc _) ⟨w2.heap.size, 0, none⟩ 1 1 [.int .i64 (-1)] rfl rfl (news_int _ _ _) (ones_int _) (by unfold maxLen; omega) (by omega) (by have := hbw2.size; simp; omega) ?_)
        intro v4 w4 hown4 hgrow hnil
        have hb4 : Below w.heap.size w w4 := (hbw2.alloc hbw2.size _).grown hgrow (by have := hbw2.size; simp; omega) (fun k hk => (hown2.lt k hk).1)
        have HO : RowKit.Hid (w4.ownsRow w.heap.size 3 1 v4 (k + 1) (vints ((F.take (k + 1)).map (numT L)))) := Lib.hid (by rw [HN.out, HE.out, ← vints_snoc]; simpa using hown4)
        clear hown4 hgrow hnil hown2 hbw2
        go_wp2_with fail
        go_roundw
        case rel => exact ⟨k + 1, by omega, by go_num, HO.out, hb4⟩
        case measure => simp [RowKit.intOf]; omega
      | true =>
        have HE : RowKit.Hid (numT L x = (a : Int)) := Lib.hid (by rw [HFx.out]; rfl)
        go_wp2_with fail
        refine (H1.out _ HV1.out).mono ?_
        rintro e w2 ⟨rfl, hb2⟩
        have hown2 := owns_below hown hb2
        have hbw2 := below_next hbw hb2
        clear hown hb2 hbw HV1
        go_wp2_with (at_builtin; refine wpList_append_own _ rfl _ _ 27 rfl w.heap.size 3 i0 (.int .i64 0) 1 8 Tryd.underlying27 hi hz0 hz1 hz2 rfl (by decide) _ _ _ rfl (hown2.alloc _) ⟨w2.heap.size, 0, none⟩ 1 1 [.int .i64 (a : Int)] rfl rfl (news_int _ _ _) (ones_int _) (by unfold maxLen; omega) (by omega) (by have := hbw2.size; simp; omega) ?_)
        intro v4 w4 hown4 hgrow hnil
        have hb4 : Below w.heap.size w w4 := (hbw2.alloc hbw2.size _).grown hgrow (by have := hbw2.size; simp; omega) (fun k hk => (hown2.lt k hk).1)
        have HO : RowKit.Hid (w4.ownsRow w.heap.size 3 1 v4 (k + 1) (vints ((F.take (k + 1)).map (numT L)))) := Lib.hid (by rw [HN.out, HE.out, ← vints_snoc]; simpa using hown4)
        clear hown4 hgrow hnil hown2 hbw2
        go_wp2_with fail
        go_roundw
        case rel => exact ⟨k + 1, by omega, by go_num, HO.out, hb4⟩
        case measure => simp [RowKit.intOf]; omega
    · have hke : k = F.length := by omega
      subst hke
      rw [List.take_length] at hown
      have HO2 : RowKit.Hid (IntsS wr _ (mapT F L)) := Lib.hid (own_intsI (L := mapT F L) (by simpa [mapT] using hown))
      clear hown
      go_wp2_with fail
      go_ret
      exact ⟨_, rfl, HO2.out, hbw⟩
end Go.Proofs.YthalbcmlehpfaaaDoor
