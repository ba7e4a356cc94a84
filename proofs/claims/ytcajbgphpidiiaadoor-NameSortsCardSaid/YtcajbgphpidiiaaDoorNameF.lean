/-
  The statement NameSorts of layer 2 (name), walked. No conditions but that unicode/utf8's two tables are as their initialisers lay them.
-/
import Derived.Test.YtcajbgphpidiiaaDoorNameL
import Derived.Test.YtcajbgphpidiiaaDoorNameM
import Derived.Test.YtcajbgphpidiiaaDoorNameN
import Derived.Test.YtcajbgphpidiiaaDoorNameJ
import Derived.Test.YtcajbgphpidiiaaDoorArgT
namespace Go.Proofs.YtcajbgphpidiiaaDoor
open Go.RowKit Go.Lib

set_option maxRecDepth 100000 in
set_option maxHeartbeats 2000000 in
theorem namesorts_any (v : Value) (L : List (List UInt8)) (s : List UInt8) (w : World) (hv : ArgTx w v L) (hs : ∀ x ∈ L, x.length ≤ 9223372036854775807) (hl : s.length ≤ 9223372036854775807) (hT : Lib.Utf8Tabs 0 1 w) :
    Calls Tryd.prog 11 #[v, .string (bs s)] w fun e w' => e = .returned (.bool true) ∧ Below w.heap.size w w' := by
  obtain ⟨p, cap, rfl, ht⟩ := hv
  have HX := Lib.hid ht
  have HT := Lib.hid hT
  have HL := Lib.hid hs
  have HSh := Lib.hid (short_any s hl)
  have ls : (s.take 300).length ≤ 1000000 := by rw [List.length_take]; omega
  have HT1 := Lib.hid (turned_any (s.take 300) ls)
  have HT2 := Lib.hid (rturned_any (s.take 300) ls)
  generalize textU (runesU (s.take 300)).reverse = T at *
  generalize s.take 300 = s3 at *
  clear ht hT hs hl ls
  obtain ⟨i0, hi, hz0, hz1, hz2⟩ := info_parts info_str
  go_enter Tryd.func11, Tryd.ntmps11
  go_wp2_with fail
  go_loopw [5, 6] (fun m i wr => ∃ M : List (List UInt8), M.length ≤ L.length ∧ M.length ≤ 30 ∧ i = .int .i64 M.length ∧ wr.ownsRow w.heap.size 9 1 m M.length (strs M) ∧ m ≠ .slice none 0 0 ∧ (∀ x ∈ M, x.length ≤ 1000000) ∧ Below w.heap.size w wr) (fun _ i _ => L.length - (RowKit.intOf i).toNat)
  case atStart => exact ⟨[], Nat.zero_le _, Nat.zero_le _, rfl, World.ownsRow_made w #[] 0 (Nat.le_refl _) (Nat.zero_le _) rfl, by simp, by simp, (Below.refl _ _).alloc (Nat.le_refl _) _⟩
  case round =>
    obtain ⟨M, hM, hM5, rfl, hown, hnn, hx, hbw⟩ := hrel
    have HN := Lib.hid hnn
    have HXM := Lib.hid hx
    clear hnn hx
    by_cases hlt : M.length < L.length ∧ M.length < 30
    · obtain ⟨hl1, hl2⟩ := hlt
      obtain ⟨a, rfl, hc⟩ := HX.out M.length hl1
      have hc' := cell_later hbw hc
      have hxl := HL.out (L.getD M.length []) (getD_mem L M.length hl1)
      have HS := Lib.hid (short_any (L.getD M.length []) hxl)
      have hy : ((L.getD M.length []).take 300).length ≤ 1000000 := by rw [List.length_take]; omega
      generalize (L.getD M.length []).take 300 = y at *
      generalize L.getD M.length [] = x at *
      clear hc hxl
      go_wp2_with fail
      refine (HS.out _).mono ?_
      rintro e w3 ⟨rfl, rfl⟩
      go_wp2_with (at_builtin; refine wpList_append_own _ rfl _ _ 26 rfl w.heap.size 9 i0 (.string ByteArray.empty) 1 16 Tryd.underlying26 hi hz0 hz1 hz2 rfl (by decide) _ _ _ rfl (hown.alloc _) ⟨wr.heap.size, 0, none⟩ 1 1 [.string (bs y)] rfl rfl (news_txt _ _ _) (ones_txt _) (by unfold maxLen; omega) (by omega) (by have := hbw.size; simp; omega) ?_)
      intro v' w4 hown4 hgrow hnil
      have hb4 : Below w.heap.size w w4 := (hbw.alloc hbw.size _).grown hgrow (by have := hbw.size; simp; omega) (fun k hk => (hown.lt k hk).1)
      rw [strs_snoc] at hown4
      have HO := Lib.hid hown4
      have HN2 : RowKit.Hid (v' ≠ .slice none 0 0) := Lib.hid hnil
      clear hown4 hgrow hnil hbw hown
      go_wp2_with fail
      go_roundw
      case rel =>
        refine ⟨M ++ [y], by simp; omega, by simp; omega, by simp, by simpa using HO.out, HN2.out, ?_, hb4⟩
        intro z hz
        rcases List.mem_append.1 hz with hz | hz
        · exact HXM.out z hz
        · obtain rfl : z = y := by simpa using hz
          exact hy
      case measure => simp [RowKit.intOf]; omega
    · have hstop : ∀ (K : Prop), ((L.length ≤ M.length) → K) → ((M.length < L.length ∧ 30 ≤ M.length) → K) → K := fun K h1 h2 => by
        by_cases h : M.length < L.length
        · exact h2 ⟨h, by omega⟩
        · exact h1 (by omega)
      have HX1 := Lib.hid (own_texts hown)
      obtain ⟨-, ⟨h0, -⟩ | ⟨g, c2, cur, rfl, hgB, hcur, hcap2, -, -, htake⟩⟩ := id hown
      · exact absurd h0 HN.out
      have hnews : ∀ (j : Nat) (u : Value), (strs M)[j]? = some u → wr.cell? ((⟨g, 0, none⟩ : Addr).add j) = some u := by
        intro j u hj
        have h1 := congrArg (fun x : List Value => x[j]?) htake
        have hjl : j < M.length := by
          have := (List.getElem?_eq_some_iff.1 hj).1
          simpa [strs] using this
        simp only [Nat.mul_one, List.getElem?_take, hjl, if_true, Array.getElem?_toList] at h1
        rw [Addr.add_lit, Nat.zero_add, cell_of_row wr g j _ _ (0, 0) hcur, h1, hj]
      have HNews := Lib.hid hnews
      have HM2 := Lib.hid (Utf8Tabs_below HT.out hbw)
      clear hnews htake hcur hown HN HX
      refine hstop _ (fun hs1 => ?_) (fun hs2 => ?_)
      all_goals
        clear hstop
        go_wp2_with fail
        refine (HSh.out _).mono ?_
        rintro e w3 ⟨rfl, rfl⟩
        go_wp2_with (at_builtin; refine wpList_append_own _ rfl _ _ 26 rfl wr.heap.size 9 i0 (.string ByteArray.empty) 1 16 Tryd.underlying26 hi hz0 hz1 hz2 rfl (by decide) _ 0 [] rfl (World.ownsRow_made wr #[] 0 (Nat.le_refl _) (Nat.zero_le _) rfl) ⟨g, 0, none⟩ M.length c2 (strs M) rfl (by simp [strs]) (fun j u hj => cell_past _ (HNews.out j u hj)) (ones_strs _) (by unfold maxLen; omega) (by omega) (by simp) ?_)
        intro v' w4 hown4 hgrow hnil
        have hb4 : Below wr.heap.size wr w4 := ((Below.refl _ _).alloc (Nat.le_refl _) _).grown hgrow (by simp) (fun k hk => by simp [Value.ownBlock] at hk; omega)
        have hown5 : w4.ownsRow wr.heap.size 9 1 v' M.length (strs M) := hown4
        have hbw4 := below_next hbw hb4
        have HX4 := Lib.hid (HX1.out.below hb4)
        have HT4 := Lib.hid (Utf8Tabs_below HT.out hbw4)
        have HS1 := Lib.hid (nsorted_any w4 v' M (own_texts hown5) (by omega) HXM.out HT4.out)
        clear hown4 hown5 hgrow hnil
        go_wp2_with fail
        refine HS1.out.mono ?_
        rintro e w5 ⟨r1, rfl, ht5, hb5⟩
        have hbw5 := below_next hbw4 hb5
        have HX5 := Lib.hid (HX4.out.below hb5)
        go_wp2_with fail
        refine (rsorted_any w5 _ M HX5.out (by omega) HXM.out).mono ?_
        rintro e w6 ⟨r2, rfl, ht6, hb6⟩
        have hbw6 := below_next hbw5 hb6
        have ht6' : Texts w6 r2 (sortedN M) := by
          obtain ⟨g6, c6, e6, -, h6⟩ := ht6
          exact ⟨_, c6, e6, fun j hj => ⟨g6, rfl, h6 j hj⟩⟩
        have hsl : (sortedN M).length ≤ 4611686018427387904 := by
          have := sortK_len M M.length (Nat.le_refl _)
          unfold sortK at this
          rw [List.take_length] at this
          omega
        have HC := Lib.hid (sametexts_any w6 r1 r2 _ _ (ht5.below hb6) ht6' hsl)
        rw [show (sortedN M == sortedN M) = true by simp] at HC
        clear ht5 ht6 ht6' hsl
        go_wp2_with fail
        refine HC.out.mono ?_
        rintro e w7 ⟨rfl, hb7⟩
        have hbw7 := below_next hbw6 hb7
        go_wp2_with fail
        refine (HT1.out _).mono ?_
        rintro e w8 ⟨rfl, hb8⟩
        have hbw8 := below_next hbw7 hb8
        go_wp2_with fail
        refine (HT2.out _).mono ?_
        rintro e w9 ⟨rfl, hb9⟩
        have hbw9 := below_next hbw8 hb9
        have HT9 := Lib.hid (Utf8Tabs_below HT.out hbw9)
        go_wp2_with fail
        refine (works_any _ HT9.out).mono ?_
        rintro e w10 ⟨rfl, hb10⟩
        go_wp2_with fail
        go_ret
        exact ⟨rfl, below_next hbw9 hb10⟩
end Go.Proofs.YtcajbgphpidiiaaDoor
