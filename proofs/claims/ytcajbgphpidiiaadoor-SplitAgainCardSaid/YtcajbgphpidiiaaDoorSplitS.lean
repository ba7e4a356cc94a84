/-
  The walks of layer 6 (split): remarks, texts joined, and the statement SplitWords. No conditions but that unicode/utf8's two tables are as their initialisers lay them and that internal/bytealg.MaxLen holds a number.
-/
import Derived.Test.YtcajbgphpidiiaaDoorSplitR
import Derived.Lib.Join
namespace Go.Proofs.YtcajbgphpidiiaaDoor
open Go.RowKit Go.Lib

/-! ### remarks -/
def remarkR (s : List UInt8) : List UInt8 × Bool := (strR (strL (s.drop ((aheadL s).length + 1))), decide ((aheadL s).length < s.length))
set_option maxRecDepth 100000 in
set_option maxHeartbeats 1000000 in
theorem sremark_any (s : List UInt8) (hs : s.length ≤ 1000000) (w : World) (hT : Lib.Utf8Tabs 0 1 w) (hm : HasMax w) :
    Calls Tryd.prog 29 #[.string (bs s)] w fun e w' => e = .returned (.tuple #[.string (bs (remarkR s).1), .bool (remarkR s).2]) ∧ Below w.heap.size w w' := by
  have HX := Lib.hid (cut_any s hs w hm)
  have HT := Lib.hid (ltrim_any (s.drop ((aheadL s).length + 1)) (by rw [List.length_drop]; omega))
  have HU := Lib.hid hT
  clear hT hm
  unfold remarkR
  generalize strR (strL (s.drop ((aheadL s).length + 1))) = T at *
  generalize s.drop ((aheadL s).length + 1) = d at *
  generalize decide ((aheadL s).length < s.length) = D at *
  go_enter Tryd.func29, Tryd.ntmps29
  go_wp2_with fail
  refine HX.out.mono ?_
  rintro e w1 ⟨rfl, q, rfl⟩
  have hb : Below w.heap.size w (w.drewN q) := ⟨rfl, rfl, rfl, Nat.le_refl _, fun _ _ => rfl⟩
  have HU2 := Lib.hid (Utf8Tabs_below HU.out hb)
  go_wp2_with fail
  refine (HT.out _ HU2.out).mono ?_
  rintro e w2 ⟨rfl, hb2⟩
  go_wp2_with fail
  go_ret2
  exact ⟨rfl, below_next hb hb2⟩
set_option maxRecDepth 100000 in
set_option maxHeartbeats 1000000 in
theorem rremark_any (s : List UInt8) (hs : s.length ≤ 1000000) (w : World) :
    Calls Tryd.prog 30 #[.string (bs s)] w fun e w' => e = .returned (.tuple #[.string (bs (remarkR s).1), .bool (remarkR s).2]) ∧ w = w' := by
  have HA := Lib.hid (rahead_any s hs)
  have hlen := ahead_len s
  unfold remarkR
  by_cases h : (aheadL s).length < s.length
  · rw [decide_eq_true h]
    have HT := Lib.hid (rtrim_any (s.drop ((aheadL s).length + 1)) (by rw [List.length_drop]; omega))
    generalize aheadL s = t at *
    have hd : (s.drop (t.length + 1)).take (s.length - (t.length + 1)) = s.drop (t.length + 1) := List.take_of_length_le (by rw [List.length_drop]; omega)
    have HD := Lib.hid hd
    have e1 : ((t.length : Int) == (s.length : Int)) = false := beq_eq_false_iff_ne.2 (by omega)
    clear hd
    go_enter Tryd.func30, Tryd.ntmps30
    go_wp2_with fail
    refine (HA.out _).mono ?_
    rintro e w1 ⟨rfl, rfl⟩
    go_wp2_with fail
    rw [HD.out]
    refine (HT.out _).mono ?_
    rintro e w1 ⟨rfl, rfl⟩
    go_wp2_with fail
    go_ret2
    exact ⟨rfl, rfl⟩
  · rw [decide_eq_false h, List.drop_eq_nil_of_le (by omega)]
    have e1 : (((aheadL s).length : Int) == (s.length : Int)) = true := beq_iff_eq.2 (by omega)
    generalize aheadL s = t at *
    go_enter Tryd.func30, Tryd.ntmps30
    go_wp2_with fail
    refine (HA.out _).mono ?_
    rintro e w1 ⟨rfl, rfl⟩
    go_wp2_with fail
    go_ret2
    exact ⟨rfl, rfl⟩

/-! ### texts joined -/
/-- A slice of texts, of which it is known how far it reaches. -/
def TextsC (w : World) (v : Value) (L : List (List UInt8)) : Prop := ∃ p cap, v = .slice p L.length cap ∧ L.length ≤ cap ∧ HasTexts w p L
theorem own_textsC {w : World} {B : Nat} {e : TypeId} {v : Value} {L : List (List UInt8)} (h : w.ownsRow B e 1 v L.length (strs L)) : TextsC w v L := by
  obtain ⟨p, cap, hv, ht⟩ := own_texts h
  refine ⟨p, cap, hv, ?_, ht⟩
  obtain ⟨-, ⟨h0, hn⟩ | ⟨g, cap', cur, hv', -, -, hc, -⟩⟩ := h
  · rw [hn]; exact Nat.zero_le _
  · rw [hv] at hv'
    injection hv' with h1 h2 h3
    omega
theorem TextsC.below {w w' : World} {v : Value} {L : List (List UInt8)} (h : TextsC w v L) (hb : Below w.heap.size w w') : TextsC w' v L := by
  obtain ⟨p, cap, hv, hc, ht⟩ := h
  exact ⟨p, cap, hv, hc, ht.below hb⟩
theorem libjoin_any (w : World) (v : Value) (L : List (List UInt8)) (h : TextsC w v L) (hL : L.length ≤ 1000000) (hlen : (join L [32]).length ≤ 10000000) :
    Calls Tryd.prog 56 #[v, .string (bs [32])] w fun e w' => e = .returned (.string (bs (join L [32]))) ∧ Below w.heap.size w w' := by
  obtain ⟨p, cap, rfl, hc, ht⟩ := h
  by_cases h0 : L = []
  · subst h0
    exact (Any.strings_Join_none Tryd.laysJoin Tryd.extraJoin p cap (bs [32]) w).mono fun e w' ⟨he, hw⟩ => ⟨he, hw ▸ Below.refl _ _⟩
  · obtain ⟨g, rfl, hg⟩ := ht 0 (List.length_pos_iff.2 h0)
    have hmap : (L.map bs).map (·.data.toList) = L := by
      rw [List.map_map]
      conv => rhs; rw [← List.map_id L]
      apply List.map_congr_left
      intro x _
      exact bs_list x
    have h := Any.strings_Join Tryd.laysJoin Tryd.extraJoin g 0 cap (L.map bs) (bs [32]) w (fun j x hx => by
      simp only [List.getElem?_map, Option.map_eq_some_iff] at hx
      obtain ⟨y, hy, rfl⟩ := hx
      have hj := (List.getElem?_eq_some_iff.1 hy).1
      obtain ⟨g', hg', hc'⟩ := ht j hj
      obtain rfl : g = g' := by simpa using hg'
      rw [Nat.zero_add, hc']
      simp [List.getD, hy]) (World.block_lt_of_cell? _ _ hg) (by rw [List.length_map]; omega) (by rw [List.length_map]; exact hc) (by rw [hmap, bs_list]; omega)
    rw [hmap, bs_list, List.length_map] at h
    exact h
set_option maxRecDepth 100000 in
theorem sjoin_any (w : World) (v : Value) (L : List (List UInt8)) (h : TextsC w v L) (hL : L.length ≤ 1000000) (hlen : (join L [32]).length ≤ 10000000) :
    Calls Tryd.prog 32 #[v] w fun e w' => e = .returned (.string (bs (join L [32]))) ∧ Below w.heap.size w w' := by
  have H := Lib.hid (libjoin_any w v L h hL hlen)
  go_enter Tryd.func32, Tryd.ntmps32
  go_wp2_with fail
  refine H.out.mono ?_
  rintro e w1 ⟨rfl, hb1⟩
  go_wp2_with fail
  go_ret
  exact ⟨rfl, hb1⟩
set_option maxRecDepth 100000 in
theorem s6short_any (l : List UInt8) (hs : l.length ≤ 9223372036854775807) (w : World) :
    Calls Tryd.prog 26 #[.string (bs l)] w fun e w' => ∃ x : List UInt8, e = .returned (.string (bs x)) ∧ x.length ≤ 2000 ∧ w = w' := by
  go_enter Tryd.func26, Tryd.ntmps26
  go_wp2_with fail
  go_ret
  exact ⟨_, rfl, by rw [List.length_take]; omega, rfl⟩

theorem ex6w : wordsR [114, 101, 97, 100, 32, 97, 32, 32, 98, 32, 35, 120] = ([([114, 101, 97, 100], 1), ([97], 6), ([98], 9)], 0) := by decide +kernel
theorem ex6r : remarkR [114, 101, 97, 100, 32, 97, 32, 32, 98, 32, 35, 120] = ([120], true) := by decide +kernel
theorem ex6j : join [[97], [98]] [32] = [97, 32, 98] := by decide +kernel
set_option maxRecDepth 100000 in
set_option maxHeartbeats 1000000 in
theorem s6works_any (w : World) (hT : Lib.Utf8Tabs 0 1 w) (hm : HasMax w) :
    Calls Tryd.prog 31 #[] w fun e w' => e = .returned (.bool true) ∧ Below w.heap.size w w' := by
  have H1 := Lib.hid (swords_any [114, 101, 97, 100, 32, 97, 32, 32, 98, 32, 35, 120] (by decide))
  have H2 := Lib.hid (sremark_any [114, 101, 97, 100, 32, 97, 32, 32, 98, 32, 35, 120] (by decide))
  rw [ex6w] at H1
  rw [ex6r] at H2
  go_enter Tryd.func31, Tryd.ntmps31
  go_wp2_with fail
  refine (H1.out _ hm).mono ?_
  rintro e w1 ⟨v, rfl, ⟨p, cap, rfl, ht⟩, hb1⟩
  obtain ⟨g, rfl, hc, hd⟩ := ht 2 (by decide)
  have hc' : w1.cell? ⟨g, 4, none⟩ = some (.string (bs [98])) := hc
  have hd' : w1.cell? ⟨g, 5, none⟩ = some (.int .i64 9) := hd
  clear ht hc hd
  have HT1 := Lib.hid (Utf8Tabs_below hT hb1)
  have HM1 := Lib.hid (hm.below hb1)
  go_wp2_with fail
  refine (H2.out _ HT1.out HM1.out).mono ?_
  rintro e w2 ⟨rfl, hb2⟩
  have hc2 := cell_later hb2 hc'
  have hd2 := cell_later hb2 hd'
  go_wp2_with fail
  have hj : TextsC (w2.alloc (.cells #[.string (bs [97]), .string (bs [98])] 9)) (.slice (some ⟨w2.heap.size, 0, none⟩) 2 2) [[97], [98]] := by
    refine ⟨_, 2, rfl, Nat.le_refl _, fun j hj => ⟨_, rfl, ?_⟩⟩
    match j, hj with
    | 0, _ => rw [cell_of_row _ _ 0 _ _ (0, 0) (heap_alloc_new w2 _)]; rfl
    | 1, _ => rw [cell_of_row _ _ 1 _ _ (0, 0) (heap_alloc_new w2 _)]; rfl
  refine (sjoin_any _ _ [[97], [98]] hj (by decide) (by decide)).mono ?_
  rintro e w3 ⟨rfl, hb3⟩
  rw [ex6j]
  go_wp2_with fail
  go_ret
  exact ⟨rfl, below_next (below_next hb1 hb2) (below_next ((Below.refl _ _).alloc (Nat.le_refl _) _) hb3)⟩

theorem words_len (s : List UInt8) : (wordsR s).1.length ≤ s.length + 1 ∧ (wordsR s).2 ≤ 5 := by
  unfold wordsR
  split
  · refine ⟨?_, Nat.zero_le _⟩
    have h := scan_len (aheadL s) (aheadL s).length 0 none
    have h2 := ahead_len s
    show (wordsL (aheadL s)).length ≤ _
    unfold wordsL scanL
    rw [List.length_map]
    omega
  · exact ⟨Nat.zero_le _, Nat.le_refl _⟩
set_option maxRecDepth 100000 in
set_option maxHeartbeats 2000000 in
theorem splitwords_any (l : List UInt8) (hs : l.length ≤ 9223372036854775807) (w : World) (hT : Lib.Utf8Tabs 0 1 w) (hm : HasMax w) :
    Calls Tryd.prog 7 #[.string (bs l)] w fun e w' => e = .returned (.bool true) ∧ Below w.heap.size w w' := by
  have HS := Lib.hid (s6short_any l hs)
  have HM := Lib.hid hm
  have HT := Lib.hid hT
  clear hs hm hT
  go_enter Tryd.func7, Tryd.ntmps7
  go_wp2_with fail
  refine (HS.out _).mono ?_
  rintro e w' ⟨x, rfl, hx, rfl⟩
  have H1 := Lib.hid (swords_any x (by omega))
  have H2 := Lib.hid (rwords_any x (by omega))
  have H3 := Lib.hid (sremark_any x (by omega))
  have H4 := Lib.hid (rremark_any x (by omega))
  have hle := words_len x
  generalize wordsR x = R at *
  generalize remarkR x = K at *
  obtain ⟨W, E⟩ := R
  simp only at H1 H2 hle
  go_wp2_with fail
  refine (H1.out _ HM.out).mono ?_
  rintro e w1 ⟨v1, rfl, ⟨p1, c1, rfl, ht1⟩, hb1⟩
  go_wp2_with fail
  refine (H2.out _).mono ?_
  rintro e w2 ⟨v2, rfl, ⟨p2, c2, rfl, ht2⟩, hb2⟩
  have hb12 := below_next hb1 hb2
  have HW1 := Lib.hid (ht1.below hb2)
  have HW2 := Lib.hid ht2
  have HT2 := Lib.hid (Utf8Tabs_below HT.out hb12)
  have HM2 := Lib.hid (HM.out.below hb12)
  clear ht1 ht2 hb1 hb2
  go_wp2_with fail
  go_loopw [7] (fun i wr => ∃ k n : Nat, k ≤ W.length ∧ i = .int .i64 k ∧ wr = w2.drewN n) (fun i _ => W.length - (RowKit.intOf i).toNat)
  case atStart => exact ⟨0, 0, Nat.zero_le _, rfl, rfl⟩
  case round =>
    obtain ⟨k, n, hk, rfl, rfl⟩ := hrel
    by_cases hlt : k < W.length
    · obtain ⟨g1, rfl, a1, a2⟩ := HW1.out k hlt
      obtain ⟨g2, rfl, b1, b2⟩ := HW2.out k hlt
      generalize W.getD k ([], 0) = z at *
      go_wp2_with fail
      go_region
      go_wp2_with fail
      go_roundw
      case rel => exact ⟨k + 1, n + 1, by omega, by go_num, rfl⟩
      case measure => simp [RowKit.intOf]; omega
    · have hke : k = W.length := by omega
      subst hke
      have hbd : Below w.heap.size w (w2.drewN n) := hb12.trans ⟨rfl, rfl, rfl, Nat.le_refl _, fun _ _ => rfl⟩
      have hT3 : Lib.Utf8Tabs 0 1 (w2.drewN n) := Utf8Tabs_below HT.out hbd
      have hM3 : HasMax (w2.drewN n) := HM.out.below hbd
      generalize w2.drewN n = w3 at *
      go_wp2_with fail
      refine (H3.out _ hT3 hM3).mono ?_
      rintro e w4 ⟨rfl, hb4⟩
      have hb34 := below_next hbd hb4
      go_wp2_with fail
      refine (H4.out _).mono ?_
      rintro e w' ⟨rfl, rfl⟩
      have HT4 := Lib.hid (Utf8Tabs_below HT.out hb34)
      have HM4 := Lib.hid (HM.out.below hb34)
      go_wp2_with fail
      refine (s6works_any _ HT4.out HM4.out).mono ?_
      rintro e w5 ⟨rfl, hb5⟩
      go_wp2_with fail
      go_ret
      exact ⟨rfl, below_next hb34 hb5⟩
end Go.Proofs.YtcajbgphpidiiaaDoor
