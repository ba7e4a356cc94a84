/-
  The walks of layer 9 (table), the program: a table or not, where a text stands, a copy, a name put in. No conditions but that unicode/utf8's two tables are as their initialisers lay them.
-/
import Derived.Test.YthalbcmlehpfaaaDoorTabA
import Derived.Lib.SliceRun
namespace Go.Proofs.YthalbcmlehpfaaaDoor
open Go.RowKit Go.Lib

set_option maxRecDepth 100000 in
set_option maxHeartbeats 1000000 in
theorem index_any (w : World) (v : Value) (L : List (List UInt8)) (s : List UInt8) (hv : Texts w v L) (hL : L.length ≤ 1000000) :
    Calls Tryd.prog 62 #[v, .string (bs s)] w fun e w' => e = .returned (.int .i64 (idxI L s)) ∧ w = w' := by
  obtain ⟨p, c, rfl, hp⟩ := hv
  have HX := Lib.hid hp
  have HA := Lib.hid (idxI_at L s)
  have HZ := Lib.hid (idxI_none L s)
  obtain ⟨R, hR⟩ : ∃ R, idxI L s = R := ⟨_, rfl⟩
  rw [hR] at HA HZ ⊢
  clear hp hR
  go_enter Tryd.func62, Tryd.ntmps62
  go_wp2_with fail
  go_loopw [8] (fun i wr => ∃ k : Nat, k ≤ L.length ∧ i = .int .i64 k ∧ wr = w ∧ ∀ j, j < k → L.getD j [] ≠ s) (fun i _ => L.length - (RowKit.intOf i).toNat)
  case atStart => exact ⟨0, Nat.zero_le _, rfl, rfl, fun j hj => absurd hj (Nat.not_lt_zero j)⟩
  case round =>
    obtain ⟨k, hk, rfl, rfl, hn⟩ := hrel
    have HN := Lib.hid hn
    clear hn
    by_cases hlt : k < L.length
    · obtain ⟨g, rfl, hc⟩ := HX.out k hlt
      by_cases he : L.getD k [] = s
      · have H1 := Lib.hid (HA.out k hlt he HN.out)
        rw [he] at hc
        clear he
        go_wp2_with fail
        go_ret
        exact ⟨by rw [H1.out]; rfl, rfl⟩
      · obtain ⟨x, hx⟩ : ∃ x, L.getD k [] = x := ⟨_, rfl⟩
        have he0 : L.getD k [] ≠ s := he
        have H1 : RowKit.Hid (∀ j, j < k + 1 → L.getD j [] ≠ s) := Lib.hid (by
          intro j hj
          by_cases hjk : j < k
          · exact HN.out j hjk
          · obtain rfl : j = k := by omega
            exact he0)
        rw [hx] at hc he
        have e1 : (s == x) = false := beq_eq_false_iff_ne.2 fun e => he e.symm
        clear he0 he hx
        go_wp2_with fail
        go_roundw
        case rel => exact ⟨k + 1, by omega, by go_num, trivial, H1.out⟩
        case measure => simp [RowKit.intOf]; omega
    · have hke : k = L.length := by omega
      subst hke
      have H1 := Lib.hid (HZ.out HN.out)
      go_wp2_with fail
      go_ret
      exact ⟨by rw [H1.out]; rfl, rfl⟩

set_option maxRecDepth 100000 in
set_option maxHeartbeats 1000000 in
theorem clone_any (w : World) (v : Value) (L : List (List UInt8)) (hv : Texts w v L) (hL : L.length ≤ 1000000) :
    Calls Tryd.prog 61 #[v] w fun e w' => ∃ v', e = .returned v' ∧ w'.ownsRow w.heap.size 9 1 v' L.length (strs L) ∧ Below w.heap.size w w' := by
  obtain ⟨p, c, rfl, hp⟩ := hv
  obtain ⟨i0, hi, hz0, hz1, hz2⟩ := info_parts info_str
  cases p with
  | none =>
    have hL0 : L = [] := by
      cases L with
      | nil => rfl
      | cons a r => obtain ⟨g, hg, -⟩ := hp 0 (by simp); cases hg
    subst hL0
    have hq := run_eql_slice_nil (P := Tryd.prog) w 22 9 none 0 c 0 0 Tryd.underlying22
    go_enter Tryd.func61, Tryd.ntmps61
    go_wp2_with fail
    go_ret
    exact ⟨_, rfl, World.ownsRow_nil _ _ _ _, Below.refl _ _⟩
  | some a =>
    have hq := run_eql_slice_nil (P := Tryd.prog) w 22 9 (some a) L.length c 0 0 Tryd.underlying22
    have hnews : ∀ (j : Nat) (u : Value), (strs L)[j]? = some u → w.cell? (a.add j) = some u := by
      intro j u hj
      have hjl : j < L.length := by
        have := (List.getElem?_eq_some_iff.1 hj).1
        simpa [strs] using this
      obtain ⟨g, hg, hc⟩ := hp j hjl
      obtain rfl : a = ⟨g, 0, none⟩ := by simpa using hg
      rw [Addr.add_lit, Nat.zero_add, hc, ← hj]
      simp [strs, hjl]
    have HNews := Lib.hid hnews
    clear hnews hp
    go_enter Tryd.func61, Tryd.ntmps61
    go_wp2_with (at_builtin; refine wpList_append_own _ rfl _ _ 22 rfl w.heap.size 9 i0 (.string ByteArray.empty) 1 16 Tryd.underlying22 hi hz0 hz1 hz2 rfl (by decide) _ 0 [] rfl (World.ownsRow_made w #[] 0 (Nat.le_refl _) (Nat.zero_le _) rfl) a L.length c (strs L) rfl (by simp [strs]) (fun j u hj => cell_past _ (HNews.out j u hj)) (ones_strs _) (by unfold maxLen; omega) (by omega) (by simp) ?_)
    intro v' w4 hown4 hgrow hnil
    have hb4 : Below w.heap.size w w4 := ((Below.refl _ _).alloc (Nat.le_refl _) _).grown hgrow (by simp) (fun k hk => by simp [Value.ownBlock] at hk; omega)
    have HO : RowKit.Hid (w4.ownsRow w.heap.size 9 1 v' L.length (strs L)) := Lib.hid (by simpa using hown4)
    clear hown4 hgrow hnil
    go_wp2_with fail
    go_ret
    exact ⟨_, rfl, HO.out, hb4⟩

theorem good_len (L : List (List UInt8)) (k : Nat) (hs : ∀ x ∈ L, x.length ≤ 1000000) : (L.getD k []).length ≤ 1000000 := by
  by_cases h : k < L.length
  · exact hs _ (getD_mem L k h)
  · rw [List.getD_eq_getElem?_getD, List.getElem?_eq_none (by omega)]
    simp
set_option maxRecDepth 100000 in
set_option maxHeartbeats 2000000 in
theorem tis_any (w : World) (v : Value) (L : List (List UInt8)) (hv : Texts w v L) (hL : L.length ≤ 1000000) (hs : ∀ x ∈ L, x.length ≤ 1000000) (hT : Lib.Utf8Tabs 0 1 w) :
    Calls Tryd.prog 30 #[v] w fun e w' => e = .returned (.bool (isT L)) ∧ Below w.heap.size w w' := by
  obtain ⟨p, c, rfl, hp⟩ := hv
  have HX := Lib.hid hp
  have HS := Lib.hid hs
  have HT := Lib.hid hT
  have HA := Lib.hid (isT_no L)
  have HZ := Lib.hid (isT_yes L)
  obtain ⟨R, hR⟩ : ∃ R, isT L = R := ⟨_, rfl⟩
  rw [hR] at HA HZ ⊢
  clear hp hs hT hR
  go_enter Tryd.func30, Tryd.ntmps30
  go_wp2_with fail
  go_loopw [7] (fun i wr => ∃ k : Nat, k ≤ L.length ∧ i = .int .i64 k ∧ (∀ j, j < k → goodT L j = true) ∧ Below w.heap.size w wr) (fun i _ => L.length - (RowKit.intOf i).toNat)
  case atStart => exact ⟨0, Nat.zero_le _, rfl, fun j hj => absurd hj (Nat.not_lt_zero j), Below.refl _ _⟩
  case round =>
    obtain ⟨k, hk, rfl, hn, hbw⟩ := hrel
    have HN := Lib.hid hn
    clear hn
    by_cases hlt : k < L.length
    · have HTr := Lib.hid (Utf8Tabs_below HT.out hbw)
      have hstep : goodT L k = true → ∀ j, j < k + 1 → goodT L j = true := fun hg j hj => by
        by_cases hjk : j < k
        · exact HN.out j hjk
        · obtain rfl : j = k := by omega
          exact hg
      have HStep := Lib.hid hstep
      have HNo := Lib.hid (HA.out k hlt)
      clear hstep
      cases k with
      | zero =>
        obtain ⟨g, rfl, hc⟩ := HX.out 0 hlt
        have hc' := cell_later hbw hc
        have HI := Lib.hid (nis_any (L.getD 0 []) (good_len L 0 HS.out))
        have hg0 := good_first L
        obtain ⟨x, hx⟩ : ∃ x, L.getD 0 [] = x := ⟨_, rfl⟩
        rw [hx] at hc' HI hg0
        clear hc hx
        cases hnx : nameL x with
        | false =>
          rw [hnx] at HI hg0
          have H1 := Lib.hid (HNo.out hg0)
          clear hnx hg0
          go_wp2_with fail
          refine (HI.out _ HTr.out).mono ?_
          rintro e w1 ⟨rfl, hb1⟩
          go_wp2_with fail
          go_ret
          exact ⟨by rw [H1.out]; rfl, below_next hbw hb1⟩
        | true =>
          rw [hnx] at HI hg0
          have H1 := Lib.hid (HStep.out hg0)
          clear hnx hg0
          go_wp2_with fail
          refine (HI.out _ HTr.out).mono ?_
          rintro e w1 ⟨rfl, hb1⟩
          go_wp2_with fail
          go_roundw
          case rel => exact ⟨1, by omega, rfl, H1.out, below_next hbw hb1⟩
          case measure => simp [RowKit.intOf]; omega
      | succ q =>
        obtain ⟨g, rfl, hc⟩ := HX.out (q + 1) hlt
        obtain ⟨g', hg', hd⟩ := HX.out q (by omega)
        obtain rfl : g = g' := by simpa using hg'
        have hc' := cell_later hbw hc
        have HI := Lib.hid (nis_any (L.getD (q + 1) []) (good_len L (q + 1) HS.out))
        have HL := Lib.hid (nless_any (L.getD q []) (L.getD (q + 1) []) (good_len L q HS.out) (good_len L (q + 1) HS.out))
        have hg0 := good_next L q
        have hlt0 : ltN (L.getD q []) (L.getD (q + 1) []) = lexLess (runesU (L.getD q [])) (runesU (L.getD (q + 1) [])) := rfl
        obtain ⟨x, hx⟩ : ∃ x, L.getD (q + 1) [] = x := ⟨_, rfl⟩
        obtain ⟨y, hy⟩ : ∃ y, L.getD q [] = y := ⟨_, rfl⟩
        rw [hx] at hc' HI HL hg0 hlt0
        rw [hy] at hd HL hg0 hlt0
        rw [← hlt0] at HL
        have hd' := cell_later hbw hd
        have c3 : (0 : Int) < (q : Int) + 1 := by omega
        clear hc hx hy hlt0 hg'
        cases hnx : nameL x with
        | false =>
          rw [hnx] at HI hg0
          have H1 := Lib.hid (HNo.out hg0)
          clear hnx hg0
          go_wp2_with fail
          refine (HI.out _ HTr.out).mono ?_
          rintro e w1 ⟨rfl, hb1⟩
          go_wp2_with fail
          go_ret
          exact ⟨by rw [H1.out]; rfl, below_next hbw hb1⟩
        | true =>
          rw [hnx, Bool.true_and] at hg0
          rw [hnx] at HI
          cases hl : ltN y x with
          | false =>
            rw [hl] at HL hg0
            have H1 := Lib.hid (HNo.out hg0)
            clear hnx hg0 hl
            go_wp2_with fail
            refine (HI.out _ HTr.out).mono ?_
            rintro e w1 ⟨rfl, hb1⟩
            have hb2 := below_next hbw hb1
            have hd2 := cell_later hb2 hd
            clear hd' hc' hd hb1
            go_wp2_with fail
            refine (HL.out _).mono ?_
            rintro e w2 ⟨rfl, hb3⟩
            go_wp2_with fail
            go_ret
            exact ⟨by rw [H1.out]; rfl, below_next hb2 hb3⟩
          | true =>
            rw [hl] at HL hg0
            have H1 := Lib.hid (HStep.out hg0)
            clear hnx hg0 hl
            go_wp2_with fail
            refine (HI.out _ HTr.out).mono ?_
            rintro e w1 ⟨rfl, hb1⟩
            have hb2 := below_next hbw hb1
            have hd2 := cell_later hb2 hd
            clear hd' hc' hd hb1
            go_wp2_with fail
            refine (HL.out _).mono ?_
            rintro e w2 ⟨rfl, hb3⟩
            go_wp2_with fail
            go_roundw
            case rel => exact ⟨q + 1 + 1, by omega, by go_num, H1.out, below_next hb2 hb3⟩
            case measure => simp [RowKit.intOf]; omega
    · have hke : k = L.length := by omega
      subst hke
      have H1 := Lib.hid (HZ.out HN.out)
      go_wp2_with fail
      go_ret
      exact ⟨by rw [H1.out]; rfl, hbw⟩
end Go.Proofs.YthalbcmlehpfaaaDoor
