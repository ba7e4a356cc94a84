/-
  The walk of layer 2 (name): texts' names in order, in the program. No conditions but that unicode/utf8's two tables are as their initialisers lay them.
-/
import Derived.Test.YthalbcmlehpfaaaDoorNameI
import Derived.Lib.RowBridge
namespace Go.Proofs.YthalbcmlehpfaaaDoor
open Go.RowKit Go.Lib Go.Sort

theorem news_txt (w : World) (x : ByteArray) (e : TypeId) : ∀ (j : Nat) (u : Value), ([.string x] : List Value)[j]? = some u → (w.alloc (.cells #[.string x] e)).cell? ((⟨w.heap.size, 0, none⟩ : Addr).add j) = some u := by
  intro j u hj
  match j, hj with
  | 0, hj => simp at hj; subst hj; simp [Addr.add]
theorem ones_txt (x : ByteArray) : ∀ u ∈ ([.string x] : List Value), u.oneCell' = true := by
  intro u hu
  simp at hu
  subst hu
  rfl
/-- The sort and what follows, at a row of one's own that is not empty. -/
theorem holds_own {w : World} {g cap : Nat} {cur : Array Value} {M : List (List UInt8)} {d : List NameT} (hd : d.map (·.1) = M) (hw : w.heap[g]? = some (.cells cur 9 (0, 0))) (ht : cur.toList.take (M.length * 1) = strs M) (hc : M.length ≤ cap) : Holds encN w g 0 d.toArray := by
  intro j hj
  have hj' : j < d.length := by simpa using hj
  have hjM : j < M.length := by rw [← hd]; simpa using hj'
  refine ⟨?_, ?_⟩
  · have h1 := congrArg (fun x : List Value => x[j]?) ht
    simp only [Nat.mul_one, List.getElem?_take, hjM, if_true, Array.getElem?_toList] at h1
    rw [Nat.zero_add, cell_of_row w g j _ _ (0, 0) hw, h1]
    subst hd
    simp [strs, hj', encN]
  · rw [Nat.zero_add]
    exact frozen_of_row w g j cur _ hw

theorem owns_below {w w1 : World} {B size n : Nat} {e : TypeId} {v : Value} {xs : List Value} (h : w.ownsRow B e size v n xs) (hb : Below w.heap.size w w1) : w1.ownsRow B e size v n xs := by
  obtain ⟨h1, h2 | ⟨g, cap, cur, hv, hB, hw, hrest⟩⟩ := h
  · exact ⟨h1, .inl h2⟩
  · exact ⟨h1, .inr ⟨g, cap, cur, hv, hB, by rw [hb.block g (Array.getElem?_eq_some_iff.1 hw).1]; exact hw, hrest⟩⟩
theorem holds_str {w : World} {g : Nat} (d : List NameT) (h : Holds encN w g 0 d.toArray) : Holds Go.Proofs.encStr w g 0 (d.map (·.1)).toArray := by
  intro j hj
  have hj' : j < d.length := by simpa using hj
  obtain ⟨h1, h2⟩ := h j (by simpa using hj')
  refine ⟨?_, h2⟩
  rw [h1]
  simp [hj', encN, bs]
theorem texts_put {w : World} {g q : Nat} {S C : List (List UInt8)} (hC : C.length ≤ S.length) (hH : Holds Go.Proofs.encStr w g 0 S.toArray) :
    HasTexts (putRow Go.Proofs.encStr (Sort.ahead w q) g 0 (C ++ List.replicate (S.length - C.length) []).toArray) (some ⟨g, 0, none⟩) C := by
  have h2 := holds_putRow Go.Proofs.encStr (Sort.ahead w q) g 0 S.toArray (C ++ List.replicate (S.length - C.length) []).toArray hH (by simp; omega)
  intro j hj
  have hjs : j < (C ++ List.replicate (S.length - C.length) ([] : List UInt8)).toArray.size := by simp; omega
  have := (h2 j hjs).1
  refine ⟨g, rfl, ?_⟩
  rw [Nat.zero_add] at this
  rw [this]
  have e : (C ++ List.replicate (S.length - C.length) ([] : List UInt8)).toArray[j]! = C.getD j [] := by
    rw [getElem!_pos _ j hjs]
    simp [hj]
  rw [e]
  rfl
set_option maxRecDepth 100000 in
set_option maxHeartbeats 2000000 in
theorem nsorted_any (w : World) (v : Value) (L : List (List UInt8)) (h : Texts w v L) (hL : L.length ≤ 100000) (hs : ∀ x ∈ L, x.length ≤ 1000000) (hT : Lib.Utf8Tabs 0 1 w) :
    Calls Tryd.prog 57 #[v] w fun e w' => ∃ v', e = .returned v' ∧ Texts w' v' (sortedN L) ∧ Below w.heap.size w w' := by
  obtain ⟨p, cap, rfl, ht⟩ := h
  have HX := Lib.hid ht
  have HS := Lib.hid hs
  have HT := Lib.hid hT
  clear ht hs hT
  obtain ⟨R, hR⟩ : ∃ R, sortedN L = R := ⟨_, rfl⟩
  rw [hR]
  have HR := Lib.hid hR
  clear hR
  obtain ⟨i0, hi, hz0, hz1, hz2⟩ := info_parts info_str
  go_enter Tryd.func57, Tryd.ntmps57
  go_wp2_with fail
  go_loopw [3, 8] (fun out i wr => ∃ k : Nat, k ≤ L.length ∧ i = .int .i64 k ∧ wr.ownsRow w.heap.size 9 1 out ((L.take k).filter nameL).length (strs ((L.take k).filter nameL)) ∧ Below w.heap.size w wr) (fun _ i _ => L.length - (RowKit.intOf i).toNat)
  case atStart => exact ⟨0, Nat.zero_le _, rfl, World.ownsRow_nil _ _ _ _, Below.refl _ _⟩
  case round =>
    obtain ⟨k, hk, rfl, hown, hbw⟩ := hrel
    have hflen : ((L.take k).filter nameL).length ≤ 100000 := by
      have h1 := List.length_filter_le nameL (L.take k)
      rw [List.length_take] at h1
      omega
    by_cases hlt : k < L.length
    · obtain ⟨gl, rfl, hc⟩ := HX.out k hlt
      have hc' := cell_later hbw hc
      have hnx := filter_next L k hlt
      have hxl : (L.getD k []).length ≤ 1000000 := HS.out _ (by
        have : L.getD k [] = L[k] := by simp [hlt]
        rw [this]
        exact List.getElem_mem hlt)
      have HTr := Lib.hid (Utf8Tabs_below HT.out hbw)
      have HI := Lib.hid (nis_any (L.getD k []) hxl)
      obtain ⟨x, hx⟩ : ∃ x, L.getD k [] = x := ⟨_, rfl⟩
      rw [hx] at hc' hnx HI
      obtain ⟨M, hM⟩ : ∃ M, (L.take k).filter nameL = M := ⟨_, rfl⟩
      rw [hM] at hown hnx hflen
      clear hc hx hxl hM
      cases hn : nameL x with
      | false =>
        rw [hn] at hnx HI
        simp only [Bool.false_eq_true, if_false, List.append_nil] at hnx
        have HN := Lib.hid hnx
        clear hnx hn
        go_wp2_with fail
        refine (HI.out _ HTr.out).mono ?_
        rintro e w1 ⟨rfl, hb1⟩
        go_wp2_with fail
        go_roundw
        case rel => exact ⟨k + 1, by omega, by go_num, by rw [HN.out]; exact owns_below hown hb1, below_next hbw hb1⟩
        case measure => simp [RowKit.intOf]; omega
      | true =>
        rw [hn] at hnx HI
        simp only [if_true] at hnx
        have HN := Lib.hid hnx
        clear hnx hn
        go_wp2_with fail
        refine (HI.out _ HTr.out).mono ?_
        rintro e w1 ⟨rfl, hb1⟩
        have hown1 := owns_below hown hb1
        have hbw1 := below_next hbw hb1
        clear hown hb1 hbw
        go_wp2_with (at_builtin; refine wpList_append_own _ rfl _ _ 22 rfl w.heap.size 9 i0 (.string ByteArray.empty) 1 16 Tryd.underlying22 hi hz0 hz1 hz2 rfl (by decide) _ _ _ rfl (hown1.alloc _) ⟨w1.heap.size, 0, none⟩ 1 1 [.string (bs x)] rfl rfl (news_txt _ _ _) (ones_txt _) (by unfold maxLen; omega) (by omega) (by have := hbw1.size; simp; omega) ?_)
        intro v' w4 hown4 hgrow hnil
        have hb4 : Below w.heap.size w w4 := (hbw1.alloc hbw1.size _).grown hgrow (by have := hbw1.size; simp; omega) (fun k hk => (hown1.lt k hk).1)
        have HO : RowKit.Hid (w4.ownsRow w.heap.size 9 1 v' (M ++ [x]).length (strs (M ++ [x]))) := Lib.hid (by
          rw [← strs_snoc, List.length_append]
          exact hown4)
        clear hown4 hgrow hnil hown1 hbw1
        go_wp2_with fail
        go_roundw
        case rel => exact ⟨k + 1, by omega, by go_num, by rw [HN.out]; exact HO.out, hb4⟩
        case measure => simp [RowKit.intOf]; omega
    · have hke : k = L.length := by omega
      subst hke
      rw [List.take_length] at hown hflen
      have hmem : ∀ y, y ∈ L.filter nameL ↔ y ∈ L ∧ nameL y = true := fun y => List.mem_filter
      obtain ⟨M, hM⟩ : ∃ M, L.filter nameL = M := ⟨_, rfl⟩
      rw [hM] at hown hflen hmem
      clear hM
      obtain ⟨d, hd⟩ := lift_names M (fun x hx => ((hmem x).1 hx).2)
      have hspec := sort_spec d L (by rw [hd]; exact hmem)
      by_cases hM0 : M = []
      · subst hM0
        have hd0 : d = [] := by
          cases d with
          | nil => rfl
          | cons a t => exact absurd hd (by simp)
        subst hd0
        obtain ⟨q, cq, hv, -⟩ := own_texts hown
        subst hv
        have hsn : R = [] := by rw [← HR.out, ← hspec]; simp [compact, compactUpTo]
        have H1 := Lib.hid (AnyF.slices_SortFunc_none Tryd.laysSort0 q cq (.func (.func 74) #[] #[]))
        have H2 := Lib.hid (Any.slices_Compact_string_empty Tryd.laysCompact q cq)
        clear hspec hown hmem
        go_wp2_with fail
        refine (H1.out _).mono ?_
        rintro e w1 ⟨rfl, rfl⟩
        go_wp2_with fail
        refine (H2.out _).mono ?_
        rintro e w1 ⟨rfl, rfl⟩
        go_wp2_with fail
        go_ret
        rw [hsn]
        exact ⟨_, rfl, ⟨q, cq, rfl, fun j hj => absurd hj (Nat.not_lt_zero j)⟩, hbw⟩
      · obtain ⟨-, ⟨-, hn⟩ | ⟨g, cq, cur, rfl, hgB, hcur, hcq, -, hcsz, htk⟩⟩ := id hown
        · exact absurd (List.eq_nil_of_length_eq_zero hn) hM0
        · have hH := holds_own hd hcur htk hcq
          have hg := (Array.getElem?_eq_some_iff.1 hcur).1
          have hsz : d.toArray.size = M.length := by rw [← hd]; simp
          have H1 := Lib.hid (sort_names g cq d.toArray wr hH hg (by rw [hsz]; omega))
          rw [hsz] at H1
          have HS2 := Lib.hid hspec
          clear hown hcur htk hcsz hspec
          go_wp2_with fail
          refine H1.out.mono ?_
          rintro e w1 ⟨rfl, nn, os, hw1⟩
          have hH1 : Holds encN w1 g 0 (d.mergeSort leN).toArray := by
            rw [hw1]
            exact holds_sortWorld encN wr g 0 nn d.toArray _ os hg hH (by simp [List.length_mergeSort])
          have hB1 : Below w.heap.size w w1 := by
            rw [hw1]
            exact below_sortWorld hbw hgB
          have hH2 := holds_str (d.mergeSort leN) hH1
          have hSl : ((d.mergeSort leN).map (·.1)).length = M.length := by
            rw [List.length_map, List.length_mergeSort, ← hd, List.length_map]
          have hcl : (compact ((d.mergeSort leN).map (·.1))).length ≤ ((d.mergeSort leN).map (·.1)).length := compact_length_le _
          have H2 := Lib.hid (compact_names g cq _ w1 hH2 (by omega) (by omega))
          rw [hSl] at H2
          clear hw1 hH1
          go_wp2_with fail
          refine H2.out.mono ?_
          rintro e w2 ⟨rfl, q2, hw2⟩
          have hB2 : Below w.heap.size w w2 := by
            rw [hw2]
            exact below_putRow hB1 hgB
          have hT2 := texts_put (q := q2) hcl hH2
          rw [hSl, ← hw2] at hT2
          rw [HS2.out, HR.out] at hT2 ⊢
          clear hw2 hH2 hB1 hbw H2 H1
          go_wp2_with fail
          go_ret
          exact ⟨_, rfl, ⟨_, cq, rfl, hT2⟩, hB2⟩
end Go.Proofs.YthalbcmlehpfaaaDoor
