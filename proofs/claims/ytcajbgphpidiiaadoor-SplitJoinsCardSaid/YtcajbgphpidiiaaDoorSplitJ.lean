/-
  The statement SplitJoins of layer 6 (split), walked. No conditions but that unicode/utf8's two tables are as their initialisers lay them and that internal/bytealg.MaxLen holds a number.
-/
import Derived.Test.YtcajbgphpidiiaaDoorSplitB
import Derived.SliceStrings
namespace Go.Proofs.YtcajbgphpidiiaaDoor
open Go.RowKit Go.Lib

theorem join_take_le : ∀ (L : List (List UInt8)) (k : Nat), (join (L.take k) [32]).length ≤ (join L [32]).length
  | [], k => by simp
  | x :: r, 0 => by simp [join_nil]
  | x :: r, k + 1 => by
    rw [List.take_succ_cons, join_cons, join_cons, List.length_append, List.length_append]
    have := joinTail_take_le [32] r k
    omega
theorem join_next (L : List (List UInt8)) (k : Nat) (hk : k < L.length) (h0 : 0 < k) : join (L.take (k + 1)) [32] = join (L.take k) [32] ++ [32] ++ L.getD k [] := by
  cases L with
  | nil => simp at hk
  | cons x r =>
    obtain ⟨q, rfl⟩ : ∃ q, k = q + 1 := ⟨k - 1, by omega⟩
    have hq : q < r.length := by simpa using hk
    rw [List.take_succ_cons, List.take_succ_cons, join_cons, join_cons, joinTail_take_succ [32] r q (r.getD q []) (by simp [hq])]
    simp
theorem join_first (L : List (List UInt8)) (hk : 0 < L.length) : join (L.take 1) [32] = L.getD 0 [] := by
  cases L with
  | nil => simp at hk
  | cons x r => simp [join_one]
theorem join_bound (B : Nat) : ∀ L : List (List UInt8), (∀ x ∈ L, x.length ≤ B) → (join L [32]).length ≤ L.length * (B + 1)
  | [], _ => by simp [join_nil]
  | [x], h => by
    have := h x (List.mem_cons_self ..)
    rw [join_one]
    simp only [List.length_cons, List.length_nil]
    omega
  | x :: y :: r, h => by
    have hx := h x (List.mem_cons_self ..)
    have ih := join_bound B (y :: r) (fun z hz => h z (List.mem_cons_of_mem _ hz))
    rw [join_two, List.length_append, List.length_cons]
    rw [show (x :: y :: r).length = (y :: r).length + 1 from rfl, Nat.succ_mul]
    omega

set_option maxRecDepth 100000 in
set_option maxHeartbeats 1000000 in
theorem rjoin_any (w : World) (v : Value) (L : List (List UInt8)) (h : Texts w v L) (hL : L.length ≤ 1000000) (hlen : (join L [32]).length ≤ 10000000) :
    Calls Tryd.prog 33 #[v] w fun e w' => e = .returned (.string (bs (join L [32]))) ∧ w = w' := by
  obtain ⟨p, cap, rfl, ht⟩ := h
  have HT := Lib.hid ht
  clear ht
  obtain ⟨R, hR⟩ : ∃ R, join L [32] = R := ⟨_, rfl⟩
  rw [hR] at hlen ⊢
  have HR := Lib.hid hR
  clear hR
  go_enter Tryd.func33, Tryd.ntmps33
  go_wp2_with fail
  go_loop [3, 4] (fun s i => ∃ k : Nat, k ≤ L.length ∧ i = .int .i64 k ∧ s = .string (bs (join (L.take k) [32]))) (fun _ i => L.length - (RowKit.intOf i).toNat)
  case atStart => exact ⟨0, Nat.zero_le _, rfl, rfl⟩
  case round =>
    obtain ⟨k, hk, rfl, rfl⟩ := hrel
    by_cases hlt : k < L.length
    · obtain ⟨g, rfl, hc⟩ := HT.out k hlt
      have hl := join_take_le L (k + 1)
      rw [HR.out] at hl
      by_cases hk0 : k = 0
      · subst hk0
        have hj := join_first L hlt
        rw [Nat.zero_add, hj] at hl
        have HJ := Lib.hid hj
        generalize L.getD 0 [] = x at *
        clear hj
        rw [List.take_zero, join_nil]
        go_wp2_with fail
        go_round
        case rel => exact ⟨1, by omega, rfl, by rw [HJ.out]⟩
        case measure => simp [RowKit.intOf]; omega
      · have hj := join_next L k hlt (by omega)
        rw [hj] at hl
        rw [List.length_append, List.length_append] at hl
        simp only [List.length_cons, List.length_nil] at hl
        have HJ := Lib.hid hj
        have hk1 : (0 : Int) < (k : Int) := by omega
        generalize L.getD k [] = x at *
        generalize join (L.take k) [32] = y at *
        clear hj hk0
        go_wp2_with fail
        go_round
        case rel => exact ⟨k + 1, by omega, by go_num, by rw [HJ.out, ← bs_append, ← bs_append]; rfl⟩
        case measure => simp [RowKit.intOf]; omega
    · have hke : k = L.length := by omega
      subst hke
      rw [List.take_length, HR.out]
      go_wp2_with fail
      go_ret
      exact ⟨rfl, rfl⟩

/-- A slice of texts as it came in: its cells, wherever they lie. -/
def ArgTexts (w : World) (v : Value) (L : List (List UInt8)) : Prop :=
  (v = .slice none 0 0 ∧ L = []) ∨ ∃ (a : Addr) (cap : Nat), v = .slice (some a) L.length cap ∧ ∀ i, i < L.length → w.cell? (a.add i) = some (.string (bs (L.getD i [])))
theorem take_or (w : World) (v : Value) (L : List (List UInt8)) (h : ArgTexts w v L) : ∃ p cap, v = .slice p L.length cap ∧ ∀ i, i < L.length → ∃ a, p = some a ∧ w.cell? (a.add i) = some (.string (bs (L.getD i []))) := by
  rcases h with ⟨rfl, rfl⟩ | ⟨a, cap, rfl, h⟩
  · exact ⟨none, 0, rfl, fun i hi => absurd hi (Nat.not_lt_zero i)⟩
  · exact ⟨some a, cap, rfl, fun i hi => ⟨a, rfl, h i hi⟩⟩

set_option maxRecDepth 100000 in
set_option maxHeartbeats 2000000 in
theorem splitjoins_any (v : Value) (L : List (List UInt8)) (w : World) (hv : ArgTexts w v L) (hs : ∀ x ∈ L, x.length ≤ 9223372036854775807) (hT : Lib.Utf8Tabs 0 1 w) (hm : HasMax w) :
    Calls Tryd.prog 8 #[v] w fun e w' => e = .returned (.bool true) ∧ Below w.heap.size w w' := by
  obtain ⟨p, cap, rfl, ht⟩ := take_or w v L hv
  have HX := Lib.hid ht
  have HM := Lib.hid hm
  have HT := Lib.hid hT
  have HL := Lib.hid hs
  clear ht hm hT hv hs
  obtain ⟨i0, hi, hz0, hz1, hz2⟩ := info_parts info_str
  go_enter Tryd.func8, Tryd.ntmps8
  go_wp2_with fail
  go_loopw [3, 4] (fun m i wr => ∃ M : List (List UInt8), M.length ≤ L.length ∧ M.length ≤ 50 ∧ i = .int .i64 M.length ∧ wr.ownsRow w.heap.size 9 1 m M.length (strs M) ∧ m ≠ .slice none 0 0 ∧ (∀ x ∈ M, x.length ≤ 2000) ∧ Below w.heap.size w wr) (fun _ i _ => L.length - (RowKit.intOf i).toNat)
  case atStart => exact ⟨[], Nat.zero_le _, Nat.zero_le _, rfl, World.ownsRow_made w #[] 0 (Nat.le_refl _) (Nat.zero_le _) rfl, by simp, by simp, (Below.refl _ _).alloc (Nat.le_refl _) _⟩
  case round =>
    obtain ⟨M, hM, hM5, rfl, hown, hnn, hx, hbw⟩ := hrel
    have HN := Lib.hid hnn
    have HXM := Lib.hid hx
    clear hnn hx
    by_cases hlt : M.length < L.length ∧ M.length < 50
    · obtain ⟨hl1, hl2⟩ := hlt
      obtain ⟨a, rfl, hc⟩ := HX.out M.length hl1
      have hc' := cell_later hbw hc
      have hxl := HL.out (L.getD M.length []) (by
        have : L.getD M.length [] = L[M.length] := by simp [hl1]
        rw [this]
        exact List.getElem_mem hl1)
      have HS := Lib.hid (s6short_any (L.getD M.length []) hxl)
      generalize L.getD M.length [] = x at *
      clear hc hxl
      go_wp2_with fail
      refine (HS.out _).mono ?_
      rintro e w3 ⟨y, rfl, hy, rfl⟩
      go_wp2_with (at_builtin; refine wpList_append_own _ rfl _ _ 26 rfl w.heap.size 9 i0 (.string ByteArray.empty) 1 16 Tryd.underlying26 hi hz0 hz1 hz2 rfl (by decide) _ _ _ rfl (hown.alloc _) ⟨wr.heap.size, 0, none⟩ 1 1 [.string (bs y)] rfl rfl (news_str _ _ _) (ones_str _) (by unfold maxLen; omega) (by omega) (by have := hbw.size; simp; omega) ?_)
      intro v' w4 hown4 hgrow hnil
      have hb4 : Below w.heap.size w w4 := (hbw.alloc hbw.size _).grown hgrow (by have := hbw.size; simp; omega) (fun k hk => (hown.lt k hk).1)
      rw [strs_snoc] at hown4
      have HO := Lib.hid hown4
      have HN2 : RowKit.Hid (v' ≠ .slice none 0 0) := Lib.hid hnil
      clear hown4 hgrow hnil hbw hown
      go_wp2_with fail
      go_roundw
      case rel =>
        refine ⟨M ++ [y], by simp; omega, by simp; omega, by simp, by simpa using HO.out, HN2.out, ?_, hb4⟩
        intro z hz
        rcases List.mem_append.1 hz with hz | hz
        · exact HXM.out z hz
        · obtain rfl : z = y := by simpa using hz
          exact hy
      case measure => simp [RowKit.intOf]; omega
    · have hstop : ∀ (K : Prop), ((L.length ≤ M.length) → K) → ((M.length < L.length ∧ 50 ≤ M.length) → K) → K := fun K h1 h2 => by
        by_cases h : M.length < L.length
        · exact h2 ⟨h, by omega⟩
        · exact h1 (by omega)
      have hjb := join_bound 2000 M HXM.out
      have hj5 : (join M [32]).length ≤ 10000000 := by
        have : M.length * 2001 ≤ 50 * 2001 := Nat.mul_le_mul_right _ hM5
        omega
      have HX1 := Lib.hid (own_texts hown)
      obtain ⟨-, ⟨h0, -⟩ | ⟨g, c2, cur, rfl, hgB, hcur, hcap2, -, -, htake⟩⟩ := id hown
      · exact absurd h0 HN.out
      have hnews : ∀ (j : Nat) (u : Value), (strs M)[j]? = some u → wr.cell? ((⟨g, 0, none⟩ : Addr).add j) = some u := by
        intro j u hj
        have h1 := congrArg (fun x : List Value => x[j]?) htake
        have hjl : j < M.length := by
          have := (List.getElem?_eq_some_iff.1 hj).1
          simpa [strs] using this
        simp only [Nat.mul_one, List.getElem?_take, hjl, if_true, Array.getElem?_toList] at h1
        rw [show (⟨g, 0, none⟩ : Addr).add j = ⟨g, j, none⟩ by simp [Addr.add]; exact fun h => h.symm, cell_of_row wr g j _ _ (0, 0) hcur, h1, hj]
      have hglt : g < wr.heap.size := (Array.getElem?_eq_some_iff.1 hcur).1
      have hones : ∀ u ∈ strs M, u.oneCell' = true := by
        intro u hu
        obtain ⟨x, -, rfl⟩ := List.mem_map.1 hu
        rfl
      have HNews := Lib.hid hnews
      have HOnes := Lib.hid hones
      have HM2 := Lib.hid (HM.out.below hbw)
      have HT2 := Lib.hid (Utf8Tabs_below HT.out hbw)
      clear hnews hones hjb htake hcur hown HN HX
      refine hstop _ (fun hs1 => ?_) (fun hs2 => ?_)
      all_goals
        clear hstop
        go_wp2_with (at_builtin; refine wpList_append_own _ rfl _ _ 26 rfl wr.heap.size 9 i0 (.string ByteArray.empty) 1 16 Tryd.underlying26 hi hz0 hz1 hz2 rfl (by decide) _ 0 [] rfl (World.ownsRow_made wr #[] 0 (Nat.le_refl _) (Nat.zero_le _) rfl) ⟨g, 0, none⟩ M.length c2 (strs M) rfl (by simp [strs]) (fun j u hj => cell_past _ (HNews.out j u hj)) HOnes.out (by unfold maxLen; omega) (by omega) (by simp) ?_)
        intro v' w4 hown4 hgrow hnil
        have hb4 : Below wr.heap.size wr w4 := ((Below.refl _ _).alloc (Nat.le_refl _) _).grown hgrow (by simp) (fun k hk => by simp [Value.ownBlock] at hk; omega)
        have hown5 : w4.ownsRow wr.heap.size 9 1 v' M.length (strs M) := hown4
        have hbw4 := below_next hbw hb4
        have HX4 := Lib.hid (HX1.out.below hb4)
        have HS := Lib.hid (sjoin_any w4 v' M (own_textsC hown5) (by omega) hj5)
        have HT4 := Lib.hid (Utf8Tabs_below HT.out hbw4)
        have HM4 := Lib.hid (HM.out.below hbw4)
        clear hown4 hown5 hgrow hnil
        go_wp2_with fail
        refine HS.out.mono ?_
        rintro e w5 ⟨rfl, hb5⟩
        have hbw5 := below_next hbw4 hb5
        have HT5 := Lib.hid (Utf8Tabs_below HT.out hbw5)
        have HM5 := Lib.hid (HM.out.below hbw5)
        go_wp2_with fail
        refine (rjoin_any w5 _ M (HX4.out.below hb5) (by omega) hj5).mono ?_
        rintro e w6 ⟨rfl, rfl⟩
        go_wp2_with fail
        refine (s6works_any _ HT5.out HM5.out).mono ?_
        rintro e w7 ⟨rfl, hb7⟩
        go_wp2_with fail
        go_ret
        exact ⟨rfl, below_next hbw5 hb7⟩
end Go.Proofs.YtcajbgphpidiiaaDoor
