/-
  value.Sorted walked: any values in order. No conditions.
-/
import Derived.Test.YtldcbapjiflblaaVxVsS
namespace Go.Proofs.Ytldcbapjiflblaa
open Go.RowKit Go.Lib Go.Sort
theorem okfilter_next (L : List ValV) (k : Nat) (hk : k < L.length) : (L.take (k + 1)).filter okV = (L.take k).filter okV ++ (if okV (L.getD k noVal) then [L.getD k noVal] else []) := by
 have e : L.take (k + 1) = L.take k ++ [L.getD k noVal] := by
  rw [List.take_add_one]
  simp [hk]
 rw [e, List.filter_append]
 congr 1
 simp only [List.filter_cons, List.filter_nil]
theorem owns_belowV {w w1 : World} {B size n : Nat} {e : TypeId} {v : Value} {xs : List Value} (h : w.ownsRow B e size v n xs) (hb : Below w.heap.size w w1) : w1.ownsRow B e size v n xs := by
 obtain ⟨h1, h2 | ⟨g, cap, cur, hv, hB, hw, hrest⟩⟩ := h
 ·exact ⟨h1, .inl h2⟩
 ·exact ⟨h1, .inr ⟨g, cap, cur, hv, hB, by rw [hb.block g (Array.getElem?_eq_some_iff.1 hw).1]; exact hw, hrest⟩⟩
theorem valsC_snoc (L : List ValV) (x : ValV) : valsC L ++ [.int .i64 x.1, .int .i64 x.2] = valsC (L ++ [x]) := by simp [valsC, valCells]
theorem ones_two (a b : Int) : ∀ u ∈ ([.int .i64 a, .int .i64 b] : List Value), u.oneCell' = true := by
 intro u hu
 simp at hu
 rcases hu with rfl | rfl <;> rfl
set_option maxRecDepth 100000 in
set_option maxHeartbeats 4000000 in
theorem vsorted_any (w : World) (p : Option Addr) (c : Nat) (L : List ValV) (h : HasVals w p L) (hL : L.length ≤ 100000) :
  Calls Try.prog 5 #[.slice p L.length c] w fun e w' => ∃ v', e = .returned v' ∧ w'.ownsRow w.heap.size 24 2 v' (sortedV L).length (valsC (sortedV L)) ∧ Below w.heap.size w w' := by
 have HX := Lib.hid h
 clear h
 obtain ⟨R, hR⟩ : ∃ R, sortedV L = R := ⟨_, rfl⟩
 rw [hR]
 have HR := Lib.hid hR
 clear hR
 obtain ⟨i1, hj, hj0, hj1, hj2⟩ := info_parts info_val
 go_enter Try.func5, Try.ntmps5
 go_wp2_with fail
 go_loopw [3, 8] (fun out i wr => ∃ k : Nat, k ≤ L.length ∧ i = .int .i64 k ∧ wr.ownsRow w.heap.size 24 2 out ((L.take k).filter okV).length (valsC ((L.take k).filter okV)) ∧ Below w.heap.size w wr) (fun _ i _ => L.length - (RowKit.intOf i).toNat)
 case atStart => exact ⟨0, Nat.zero_le _, rfl, World.ownsRow_nil _ _ _ _, Below.refl _ _⟩
 case round =>
  obtain ⟨k, hk, rfl, hown, hbw⟩ := hrel
  have hflen : ((L.take k).filter okV).length ≤ 100000 := by
   have h1 := List.length_filter_le okV (L.take k)
   rw [List.length_take] at h1
   omega
  by_cases hlt : k < L.length
  ·obtain ⟨gl, rfl, b0, b1⟩ := HX.out k hlt
   have a0 := cell_later hbw b0
   have a1 := cell_later hbw b1
   have hnx := okfilter_next L k hlt
   obtain ⟨⟨x1, x2⟩, hx⟩ : ∃ x, L.getD k noVal = x := ⟨_, rfl⟩
   rw [hx] at a0 a1 hnx
   dsimp only at a0 a1
   obtain ⟨M, hM⟩ : ∃ M, (L.take k).filter okV = M := ⟨_, rfl⟩
   rw [hM] at hown hnx hflen
   have HM := Lib.hid (vmay_grown x1 x2)
   have HBX := Lib.hid (Blk.new wr 24 [.int .i64 x1, .int .i64 x2])
   have HBo := Lib.hid (hbw.alloc hbw.size (.cells #[.int .i64 x1, .int .i64 x2] 24))
   have HOo := Lib.hid (hown.alloc (.cells #[.int .i64 x1, .int .i64 x2] 24))
   clear hx hM b0 b1 hown hbw
   obtain ⟨b, hb⟩ : ∃ b, okV (x1, x2) = b := ⟨_, rfl⟩
   rw [hb] at hnx
   rw [show mayV x1 x2 = b from hb] at HM
   clear hb
   go_upto_region 5 with fail
   obtain ⟨W1, hW1⟩ : ∃ q, wr.alloc (.cells #[.int .i64 x1, .int .i64 x2] 24) = q := ⟨_, rfl⟩
   rw [hW1] at HBX HBo HOo ⊢
   clear hW1
   have y0 := HBX.out.cell 0 rfl
   have y1 := HBX.out.cell 1 rfl
   go_wp2_with fail
   refine (HM.out _).mono ?_
   rintro e w1 ⟨rfl, hb1, -⟩
   have HB1 := Lib.hid (below_next HBo.out hb1)
   have HO1 := Lib.hid (owns_belowV HOo.out hb1)
   have HX1 := Lib.hid (HBX.out.later hb1)
   clear y0 y1 hb1
   cases b with
   | false =>
    simp only [Bool.false_eq_true, if_false, List.append_nil] at hnx
    have HN := Lib.hid hnx
    clear hnx
    go_wp2_with fail
    go_roundw
    case rel => exact ⟨k + 1, by omega, by go_num, by rw [HN.out]; exact HO1.out, HB1.out⟩
    case measure => simp [RowKit.intOf]; omega
   | true =>
    simp only [if_true] at hnx
    have HN := Lib.hid hnx
    clear hnx
    have y0 := HX1.out.cell 0 rfl
    have y1 := HX1.out.cell 1 rfl
    have hown1 := HO1.out
    have hbw1 := HB1.out
    go_wp2_with (at_builtin; refine wpList_append_own _ rfl _ _ 22 rfl w.heap.size 24 i1 (.agg #[.int .i64 0, .int .i64 0]) 2 16 Try.underlying22 hj hj0 hj1 hj2 rfl (by decide) _ _ _ rfl (hown1.alloc _) ⟨w1.heap.size, 0, none⟩ 1 1 [.int .i64 x1, .int .i64 x2] rfl rfl (news_lit w1 [.int .i64 x1, .int .i64 x2] _ _ rfl) (ones_two _ _) (by unfold maxLen; omega) (by omega) (by have := hbw1.size; simp; omega) ?_)
    intro v' w4 hown4 hgrow hnil
    have hb4 : Below w.heap.size w w4 := (hbw1.alloc hbw1.size _).grown hgrow (by have := hbw1.size; simp; omega) (fun k hk => (hown1.lt k hk).1)
    have HO : RowKit.Hid (w4.ownsRow w.heap.size 24 2 v' (M ++ [(x1, x2)]).length (valsC (M ++ [(x1, x2)]))) := Lib.hid (by
     rw [← valsC_snoc, List.length_append]
     exact hown4)
    clear hown4 hgrow hnil hown1 hbw1 y0 y1
    go_wp2_with fail
    go_roundw
    case rel => exact ⟨k + 1, by omega, by go_num, by rw [HN.out]; exact HO.out, hb4⟩
    case measure => simp [RowKit.intOf]; omega
  ·have hke : k = L.length := by omega
   subst hke
   rw [List.take_length] at hown hflen
   have hmem : ∀ y, y ∈ L.filter okV ↔ y ∈ L ∧ okV y = true := fun y => List.mem_filter
   obtain ⟨M, hM⟩ : ∃ M, L.filter okV = M := ⟨_, rfl⟩
   rw [hM] at hown hflen hmem
   clear hM
   obtain ⟨d, hd⟩ := lift_vals M (fun x hx => ((hmem x).1 hx).2)
   have hspec := sort_specV d L (by rw [hd]; exact hmem)
   by_cases hM0 : M = []
   ·subst hM0
    have hd0 : d = [] := by
     cases d with
     | nil => rfl
     | cons a t => exact absurd hd (by simp)
    subst hd0
    have hsn : R = [] := by rw [← HR.out, ← hspec]; simp [compact, compactUpTo]
    have hfo := hown
    obtain ⟨q, cq, hv, -⟩ := own_vals hown rfl
    subst hv
    have H1 := Lib.hid (AnyF.slices_SortFunc_none Try.laysSortV q cq (.func (.func 12) #[] #[]))
    have H2 := Lib.hid (compact_noneV q cq)
    have HF := Lib.hid hfo
    clear hspec hown hmem hfo
    go_wp2_with fail
    refine (H1.out _).mono ?_
    rintro e w1 ⟨rfl, rfl⟩
    go_wp2_with fail
    refine (H2.out _).mono ?_
    rintro e w1 ⟨rfl, rfl⟩
    go_wp2_with fail
    go_ret
    rw [hsn]
    exact ⟨_, rfl, HF.out, hbw⟩
   ·obtain ⟨-, ⟨-, hn⟩ | ⟨g, cq, cur, rfl, hgB, hcur, hcq, hcm, hcsz, htk⟩⟩ := id hown
    ·exact absurd (List.eq_nil_of_length_eq_zero hn) hM0
    ·have hH := holdV_own hcur hcsz htk
     have hdl : d.length = M.length := by rw [← hd]; simp
     rw [← hd] at hH
     have hB0 := hbw.size
     have H1 := Lib.hid (sort_vals g (cq * 2) cq d wr hH (by omega))
     rw [hdl] at H1
     have HS2 := Lib.hid hspec
     have HCm := Lib.hid hcm
     have HGB := Lib.hid hgB
     clear hown hcur htk hcsz hspec hH hcm hgB hB0
     go_wp2_with fail
     refine H1.out.mono ?_
     rintro e w1 ⟨rfl, hH1, hb1⟩
     have hB1 : Below w.heap.size w w1 := hbw.trans (hb1.mono HGB.out)
     have hSl : ((d.mergeSort leV).map (·.1)).toArray.size = M.length := by
      rw [List.size_toArray, List.length_map, List.length_mergeSort, hdl]
     have hcl : (compact ((d.mergeSort leV).map (·.1))).length ≤ ((d.mergeSort leV).map (·.1)).length := compact_length_le _
     have H2 := Lib.hid (compact_vals g (cq * 2) cq ((d.mergeSort leV).map (·.1)).toArray w1 hH1 (by omega) (by omega))
     have HE : RowKit.Hid (compactUpTo ((d.mergeSort leV).map (·.1)).toArray ((d.mergeSort leV).map (·.1)).toArray.size = R) := Lib.hid (by rw [← HR.out, ← HS2.out]; rfl)
     have hRl : R.length ≤ M.length := by rw [← HR.out, ← HS2.out]; rw [List.size_toArray] at hSl; omega
     rw [HE.out, hSl] at H2
     clear hH1 HE hSl hcl hb1
     go_wp2_with fail
     refine H2.out.mono ?_
     rintro e w2 ⟨rfl, hH2, hb2⟩
     have hB2 : Below w.heap.size w w2 := hB1.trans (hb2.mono HGB.out)
     have hO := HoldV.owns hH2 HGB.out (show R.length ≤ cq by omega) HCm.out rfl
     clear hH2 hb2 H2 H1
     go_wp2_with fail
     go_ret
     exact ⟨_, rfl, hO, hB2⟩
end Go.Proofs.Ytldcbapjiflblaa
