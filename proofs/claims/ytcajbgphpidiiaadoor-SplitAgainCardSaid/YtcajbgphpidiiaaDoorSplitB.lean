/-
  The statements SplitAgain and SplitJoins of layer 6 (split), walked. No conditions but that unicode/utf8's two tables are as their initialisers lay them and that internal/bytealg.MaxLen holds a number.
-/
import Derived.Test.YtcajbgphpidiiaaDoorSplitA
namespace Go.Proofs.YtcajbgphpidiiaaDoor
open Go.RowKit Go.Lib

theorem join_len : ∀ (t cur : List UInt8), (join (textsT cur t) [32]).length ≤ cur.length + t.length
  | [], cur => by
    unfold textsT
    split
    · simp [join_nil]
    · rw [join_one]; simp
  | b :: t, cur => by
    unfold textsT
    by_cases h : blankB b = true
    · rw [if_pos h]
      have ih := join_len t []
      simp only [List.length_nil, Nat.zero_add] at ih
      split
      · simp only [List.length_cons]; omega
      · cases he : textsT [] t with
        | nil =>
          rw [join_one]
          simp only [List.length_cons]; omega
        | cons y r =>
          rw [he] at ih
          rw [join_two]
          simp only [List.length_append, List.length_cons]
          omega
    · rw [if_neg h]
      have ih := join_len t (cur ++ [b])
      simp only [List.length_append, List.length_cons, List.length_nil] at ih ⊢
      omega
theorem words_join_len (s : List UInt8) : (join ((wordsR s).1.map (·.1)) [32]).length ≤ s.length := by
  unfold wordsR
  split
  · show (join ((wordsL (aheadL s)).map (·.1)) [32]).length ≤ _
    rw [words_texts]
    have := join_len (aheadL s) []
    have h2 := ahead_len s
    simp only [List.length_nil] at this
    omega
  · simp [join_nil]
theorem rise_at (W : List (List UInt8 × Nat)) (h : W.Pairwise (fun a b => a.2 < b.2)) (k : Nat) (h0 : 0 < k) (hk : k < W.length) : (W.getD (k - 1) ([], 0)).2 < (W.getD k ([], 0)).2 := by
  have e1 : W.getD (k - 1) ([], 0) = W[k - 1] := by simp [show k - 1 < W.length by omega]
  have e2 : W.getD k ([], 0) = W[k] := by simp [hk]
  rw [e1, e2]
  exact List.pairwise_iff_getElem.1 h (k - 1) k (by omega) hk (by omega)
theorem least_at (W : List (List UInt8 × Nat)) (h : ∀ a ∈ W, 1 ≤ a.2) (k : Nat) (hk : k < W.length) : 1 ≤ (W.getD k ([], 0)).2 := by
  have e2 : W.getD k ([], 0) = W[k] := by simp [hk]
  rw [e2]
  exact h _ (List.getElem_mem hk)
theorem take_next (W : List (List UInt8 × Nat)) (k : Nat) (hk : k < W.length) : (W.take (k + 1)).map (·.1) = (W.take k).map (·.1) ++ [(W.getD k ([], 0)).1] := by
  rw [List.take_add_one, List.map_append]
  congr 1
  simp [hk]
theorem news_str (w : World) (x : ByteArray) (e : TypeId) : ∀ (j : Nat) (u : Value), ([.string x] : List Value)[j]? = some u → (w.alloc (.cells #[.string x] e)).cell? ((⟨w.heap.size, 0, none⟩ : Addr).add j) = some u := by
  intro j u hj
  match j, hj with
  | 0, hj => simp at hj; subst hj; simp [Addr.add]
theorem ones_str (x : ByteArray) : ∀ u ∈ ([.string x] : List Value), u.oneCell' = true := by
  intro u hu
  simp at hu
  subst hu
  rfl

set_option maxRecDepth 100000 in
set_option maxHeartbeats 4000000 in
theorem splitagain_any (l : List UInt8) (hs : l.length ≤ 9223372036854775807) (w : World) (hT : Lib.Utf8Tabs 0 1 w) (hm : HasMax w) :
    Calls Tryd.prog 9 #[.string (bs l)] w fun e w' => e = .returned (.bool true) ∧ Below w.heap.size w w' := by
  have HS := Lib.hid (s6short_any l hs)
  have HM := Lib.hid hm
  have HT := Lib.hid hT
  clear hs hm hT
  obtain ⟨i0, hi, hz0, hz1, hz2⟩ := info_parts info_str
  go_enter Tryd.func9, Tryd.ntmps9
  go_wp2_with fail
  refine (s6works_any _ HT.out HM.out).mono ?_
  rintro e w1 ⟨rfl, hb1⟩
  have HM1 := Lib.hid (HM.out.below hb1)
  go_wp2_with fail
  refine (HS.out _).mono ?_
  rintro e w' ⟨x, rfl, hx, rfl⟩
  have H1 := Lib.hid (swords_any x (by omega))
  have hle := words_len x
  have hag := words_again x
  have hbad := words_bad x
  have hjl := words_join_len x
  obtain ⟨hrise, hleast⟩ := words_rise x
  generalize wordsR x = R at *
  obtain ⟨W, E⟩ := R
  simp only at H1 hle hag hbad hjl hrise hleast
  go_wp2_with fail
  refine (H1.out _ HM1.out).mono ?_
  rintro e w2 ⟨v1, rfl, ⟨p1, c1, rfl, ht1⟩, hb2⟩
  have hb12 := below_next hb1 hb2
  have HW := Lib.hid ht1
  clear ht1
  by_cases hE : E = 0
  · subst hE
    obtain ⟨g1, g2⟩ := hag rfl
    obtain ⟨J, hJ⟩ : ∃ J, join (W.map (·.1)) [32] = J := ⟨_, rfl⟩
    rw [hJ] at g1 g2 hjl
    have HJ := Lib.hid hJ
    have H2 := Lib.hid (swords_any J (by omega))
    generalize wordsR J = R2 at *
    obtain ⟨W2, E2⟩ := R2
    simp only at g1 g2 H2
    subst g1
    have hlen2 : W2.length = W.length := by
      have := congrArg List.length g2
      simpa using this
    have HG := Lib.hid g2
    have HRise := Lib.hid hrise
    have HLeast := Lib.hid hleast
    have hWl : W.length ≤ 2001 := by omega
    clear hag hbad hJ g2 hrise hleast hle
    go_wp2_with fail
    go_loopw [5, 6] (fun v i wr => ∃ k : Nat, k ≤ W.length ∧ i = .int .i64 k ∧ wr.ownsRow w2.heap.size 9 1 v k (strs ((W.take k).map (·.1))) ∧ Below w2.heap.size w2 wr) (fun _ i _ => W.length - (RowKit.intOf i).toNat)
    case atStart => exact ⟨0, Nat.zero_le _, rfl, World.ownsRow_made w2 #[] 0 (Nat.le_refl _) (Nat.zero_le _) rfl, (Below.refl _ _).alloc (Nat.le_refl _) _⟩
    case round =>
      obtain ⟨k, hk, rfl, hown, hbr⟩ := hrel
      by_cases hlt : k < W.length
      · have hat := least_at W HLeast.out k hlt
        have htk := take_next W k hlt
        obtain ⟨g, rfl, a1, a2⟩ := HW.out k hlt
        have a1' := cell_later hbr a1
        have a2' := cell_later hbr a2
        by_cases hk0 : k = 0
        · subst hk0
          generalize W.getD 0 ([], 0) = z at *
          obtain ⟨z1, z2⟩ := z
          simp only at a1' a2' hat htk
          have HTK := Lib.hid htk
          have c1 : decide ((z2 : Int) < 1) = false := decide_eq_false (by omega)
          have hown2 : wr.drew.ownsRow w2.heap.size 9 1 _ 0 (strs ((W.take 0).map (·.1))) := hown
          clear a1 a2 htk
          go_wp2_with fail
          go_region
          go_wp2_with (at_builtin; refine wpList_append_own _ rfl _ _ 26 rfl w2.heap.size 9 i0 (.string ByteArray.empty) 1 16 Tryd.underlying26 hi hz0 hz1 hz2 rfl (by decide) _ _ _ rfl (hown2.alloc _) ⟨wr.drew.heap.size, 0, none⟩ 1 1 [.string (bs z1)] rfl rfl (news_str _ _ _) (ones_str _) (by unfold maxLen; omega) (by omega) (by have := hbr.size; simp; omega) ?_)
          intro v' w4 hown4 hgrow hnil
          have hb4 : Below w2.heap.size w2 w4 := (hbr.drew.alloc (by have := hbr.size; simpa using this) _).grown hgrow (by have := hbr.size; simp; omega) (fun k hk => (hown.lt k hk).1)
          rw [strs_snoc] at hown4
          have HO := Lib.hid hown4
          clear hown4 hgrow hnil hbr
          go_wp2_with fail
          go_roundw
          case rel => exact ⟨1, by omega, rfl, (by have h5 := HO.out; rw [HTK.out]; simpa [List.map_take] using h5), hb4⟩
          case measure => simp [RowKit.intOf]; omega
        · obtain ⟨q, rfl⟩ : ∃ q, k = q + 1 := ⟨k - 1, by omega⟩
          have hr := rise_at W HRise.out (q + 1) (by omega) hlt
          obtain ⟨g', hg', b1, b2⟩ := HW.out q (by omega)
          obtain rfl : g = g' := by simpa using hg'
          have b2' := cell_later hbr b2
          rw [Nat.add_sub_cancel] at hr
          generalize W.getD (q + 1) ([], 0) = z at *
          generalize W.getD q ([], 0) = y at *
          obtain ⟨z1, z2⟩ := z
          obtain ⟨y1, y2⟩ := y
          simp only at a1' a2' b2' hat htk hr
          have HTK := Lib.hid htk
          have hown2 : wr.drew.ownsRow w2.heap.size 9 1 _ (q + 1) (strs ((W.take (q + 1)).map (·.1))) := hown
          have c1 : decide ((z2 : Int) < 1) = false := decide_eq_false (by omega)
          have c2 : decide ((z2 : Int) ≤ (y2 : Int)) = false := decide_eq_false (by omega)
          have c3 : (0 : Int) < (q : Int) + 1 := by omega
          clear a1 a2 b1 b2 htk hg' hk0
          go_wp2_with fail
          go_region
          go_wp2_with (at_builtin; refine wpList_append_own _ rfl _ _ 26 rfl w2.heap.size 9 i0 (.string ByteArray.empty) 1 16 Tryd.underlying26 hi hz0 hz1 hz2 rfl (by decide) _ _ _ rfl (hown2.alloc _) ⟨wr.drew.heap.size, 0, none⟩ 1 1 [.string (bs z1)] rfl rfl (news_str _ _ _) (ones_str _) (by unfold maxLen; omega) (by omega) (by have := hbr.size; simp; omega) ?_)
          intro v' w4 hown4 hgrow hnil
          have hb4 : Below w2.heap.size w2 w4 := (hbr.drew.alloc (by have := hbr.size; simpa using this) _).grown hgrow (by have := hbr.size; simp; omega) (fun k hk => (hown.lt k hk).1)
          rw [strs_snoc] at hown4
          have HO := Lib.hid hown4
          clear hown4 hgrow hnil hbr
          go_wp2_with fail
          go_roundw
          case rel => exact ⟨q + 1 + 1, by omega, by go_num, (by have h5 := HO.out; rw [HTK.out]; simpa [List.map_take] using h5), hb4⟩
          case measure => simp [RowKit.intOf]; omega
      · have hke : k = W.length := by omega
        subst hke
        rw [List.take_length] at hown
        have hT1 : TextsC wr _ (W.map (·.1)) := own_textsC (B := w2.heap.size) (e := 9) (by rw [List.length_map]; exact hown)
        have HJn := Lib.hid (sjoin_any wr _ (W.map (·.1)) hT1 (by rw [List.length_map]; omega) (by rw [HJ.out]; omega))
        rw [HJ.out] at HJn
        have hbw := below_next hb12 hbr
        have HWr := Lib.hid (HW.out.below hbr)
        clear hT1 hown hbr
        go_wp2_with fail
        refine HJn.out.mono ?_
        rintro e w3 ⟨rfl, hb3⟩
        have hb13 := below_next hbw hb3
        have HM3 := Lib.hid (HM.out.below hb13)
        have HW3 := Lib.hid (HWr.out.below hb3)
        clear HWr hbw
        go_wp2_with fail
        refine (H2.out _ HM3.out).mono ?_
        rintro e w4 ⟨v4, rfl, ⟨p4, c4, rfl, ht4⟩, hb4⟩
        have hb14 := below_next hb13 hb4
        have HV := Lib.hid ht4
        have HW4 := Lib.hid (HW3.out.below hb4)
        rw [hlen2]
        clear ht4 hb3 hb4 HW3 hb13
        go_wp2_with fail
        go_loopw [9] (fun i wr => ∃ k n : Nat, k ≤ W.length ∧ i = .int .i64 k ∧ wr = w4.drewN n) (fun i _ => W.length - (RowKit.intOf i).toNat)
        case atStart => exact ⟨0, 0, Nat.zero_le _, rfl, rfl⟩
        case round =>
          obtain ⟨k, n, hk, rfl, rfl⟩ := hrel
          by_cases hlt : k < W.length
          · obtain ⟨g1, e1, a1, -⟩ := HW4.out k hlt
            obtain ⟨g2, rfl, b1, -⟩ := HV.out k (by omega)
            obtain rfl := e1
            have hz : (W2.getD k ([], 0)).1 = (W.getD k ([], 0)).1 := by
              have e := congrArg (fun l : List (List UInt8) => l.getD k []) HG.out
              simpa [hlt, hlen2, show k < W2.length by omega] using e
            rw [hz] at b1
            generalize (W.getD k ([], 0)).1 = z at *
            clear hz
            go_wp2_with fail
            go_region
            go_wp2_with fail
            go_roundw
            case rel => exact ⟨k + 1, n + 1, by omega, by go_num, rfl⟩
            case measure => simp [RowKit.intOf]; omega
          · have hke : k = W.length := by omega
            subst hke
            go_wp2_with fail
            go_ret
            exact ⟨rfl, hb14.trans ⟨rfl, rfl, rfl, Nat.le_refl _, fun _ _ => rfl⟩⟩
  · have hW := hbad hE
    subst hW
    have e3 : ((E : Int) != 0) = true := by simp; omega
    clear hag hbad hE
    go_wp2_with fail
    go_ret
    exact ⟨rfl, hb12⟩
end Go.Proofs.YtcajbgphpidiiaaDoor
