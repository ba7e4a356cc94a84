/-
  value.Sorted walked: any values in order. No conditions.
-/
import Derived.Test.YtdfegfagedeilaaGreatDoorXxVsS
namespace Go.Proofs.YtdfegfagedeilaaGreatDoor
open Go.RowKit Go.Lib Go.Sort
theorem aGo (L : List bZ) (k : Nat) (hk : k < L.length) : (L.take (k + 1)).filter okV = (L.take k).filter okV ++ (if okV (L.getD k aN) then [L.getD k aN] else []) := by
 have e : L.take (k + 1) = L.take k ++ [L.getD k aN] := by
  rw [List.take_add_one];simp [hk]
 rw [e, List.filter_append];congr 1;simp only [List.filter_cons, List.filter_nil]
theorem aOb {w w1 : World} {B size n : Nat} {e : TypeId} {v : Value} {xs : List Value} (h : w.ownsRow B e size v n xs) (hb : Below w.heap.size w w1) : w1.ownsRow B e size v n xs := by
 obtain ⟨h1, h2 | ⟨g, cap, cur, hv, hB, hw, hrest⟩⟩ := h
 ·exact ⟨h1, .inl h2⟩
 ·exact ⟨h1, .inr ⟨g, cap, cur, hv, hB, by rw [hb.block g (Array.getElem?_eq_some_iff.1 hw).1]; exact hw, hrest⟩⟩
theorem aUc (L : List bZ) (x : bZ) : aJ L ++ [.int .i64 x.1, .int .i64 x.2] = aJ (L ++ [x]) := by simp [aJ, aZ]
theorem dO (a b : Int) : ∀ u ∈ ([.int .i64 a, .int .i64 b] : List Value), u.oneCell' = true := by
 intro u hu;simp at hu;rcases hu with rfl | rfl <;> rfl
set_option maxRecDepth 100000 in
set_option maxHeartbeats 4000000 in
theorem bUx (w : World) (p : Option Addr) (c : Nat) (L : List bZ) (h : lF w p L) (hL : L.length ≤ 100000) :
  Calls Tryz.prog 84 #[.slice p L.length c] w fun e w' => ∃ v', e = .returned v' ∧ w'.ownsRow w.heap.size 57 2 v' (cH L).length (aJ (cH L)) ∧ Below w.heap.size w w' := by
 have HX := lhid h;clear h;obtain ⟨R, hR⟩ : ∃ R, cH L = R := ⟨_, rfl⟩;rw [hR];have HR := lhid hR;clear hR;obtain ⟨i1, hj, hj0, hj1, hj2⟩ := info_parts aCx;go_enter Tryz.func84, Tryz.ntmps84;go_wp2_with fail
 go_loopw [3, 8] (fun out i wr => ∃ k : Nat, k ≤ L.length ∧ i = .int .i64 k ∧ wr.ownsRow w.heap.size 57 2 out ((L.take k).filter okV).length (aJ ((L.take k).filter okV)) ∧ Below w.heap.size w wr) (fun _ i _ => L.length - (RowKit.intOf i).toNat)
 case atStart => exact ⟨0, Nat.zero_le _, rfl, World.ownsRow_nil _ _ _ _, Below.refl _ _⟩
 case round =>
  obtain ⟨k, hk, rfl, hown, hbw⟩ := hrel
  have hflen : ((L.take k).filter okV).length ≤ 100000 := by
   have h1 := List.length_filter_le okV (L.take k);rw [List.length_take] at h1;omega
  by_cases hlt : k < L.length
  ·obtain ⟨gl, rfl, b0, b1⟩ := HX.out k hlt;have a0 := cell_later hbw b0;have a1 := cell_later hbw b1;have hnx := aGo L k hlt;obtain ⟨⟨x1, x2⟩, hx⟩ : ∃ x, L.getD k aN = x := ⟨_, rfl⟩;rw [hx] at a0 a1 hnx;dsimp only at a0 a1;obtain ⟨M, hM⟩ : ∃ M, (L.take k).filter okV = M := ⟨_, rfl⟩;rw [hM] at hown hnx hflen;have HM := lhid (wR x1 x2);have HBX := lhid (Blk.new wr 57 [.int .i64 x1, .int .i64 x2]);have HBo := lhid (hbw.alloc hbw.size (.cells #[.int .i64 x1, .int .i64 x2] 57));have HOo := lhid (hown.alloc (.cells #[.int .i64 x1, .int .i64 x2] 57));clear hx hM b0 b1 hown hbw;obtain ⟨b, hb⟩ : ∃ b, okV (x1, x2) = b := ⟨_, rfl⟩;rw [hb] at hnx;rw [show kW x1 x2 = b from hb] at HM;clear hb;(go_upto_region 5 with fail);obtain ⟨W1, hW1⟩ : ∃ q, wr.alloc (.cells #[.int .i64 x1, .int .i64 x2] 57) = q := ⟨_, rfl⟩;rw [hW1] at HBX HBo HOo ⊢;clear hW1;have y0 := HBX.out.cell 0 rfl;have y1 := HBX.out.cell 1 rfl;(go_wp2_with fail);refine (HM.out _).mono ?_;rintro e w1 ⟨rfl, hb1, -⟩;have HB1 := lhid (aB HBo.out hb1);have HO1 := lhid (aOb HOo.out hb1);have HX1 := lhid (HBX.out.later hb1);clear y0 y1 hb1
   cases b with
   | false =>
    simp only [Bool.false_eq_true, if_false, List.append_nil] at hnx;have HN := lhid hnx;clear hnx;(go_wp2_with fail);go_roundw
    case rel => exact ⟨k + 1, by omega, by go_num, by rw [HN.out]; exact HO1.out, HB1.out⟩
    case measure => simp [RowKit.intOf]; omega
   | true =>
    simp only [if_true] at hnx;have HN := lhid hnx;clear hnx;have y0 := HX1.out.cell 0 rfl;have y1 := HX1.out.cell 1 rfl;have hown1 := HO1.out;have hbw1 := HB1.out;(go_wp2_with (at_builtin; refine wpList_append_own _ rfl _ _ 27 rfl w.heap.size 57 i1 (.agg #[.int .i64 0, .int .i64 0]) 2 16 Tryz.underlying27 hj hj0 hj1 hj2 rfl (by decide) _ _ _ rfl (hown1.alloc _) ⟨w1.heap.size, 0, none⟩ 1 1 [.int .i64 x1, .int .i64 x2] rfl rfl (dB w1 [.int .i64 x1, .int .i64 x2] _ _ rfl) (dO _ _) (by unfold maxLen; omega) (by omega) (by have := hbw1.size; simp; omega) ?_));intro v' w4 hown4 hgrow hnil;have hb4 : Below w.heap.size w w4 := (hbw1.alloc hbw1.size _).grown hgrow (by have := hbw1.size; simp; omega) (fun k hk => (hown1.lt k hk).1)
    have HO : Hid (w4.ownsRow w.heap.size 57 2 v' (M ++ [(x1, x2)]).length (aJ (M ++ [(x1, x2)]))) := lhid (by
     rw [← aUc, List.length_append]
     exact hown4)
    clear hown4 hgrow hnil hown1 hbw1 y0 y1;(go_wp2_with fail);go_roundw
    case rel => exact ⟨k + 1, by omega, by go_num, by rw [HN.out]; exact HO.out, hb4⟩
    case measure => simp [RowKit.intOf]; omega
  ·have hke : k = L.length := (by omega);subst hke;rw [List.take_length] at hown hflen;have hmem : ∀ y, y ∈ L.filter okV ↔ y ∈ L ∧ okV y = true := fun y => List.mem_filter;obtain ⟨M, hM⟩ : ∃ M, L.filter okV = M := ⟨_, rfl⟩;rw [hM] at hown hflen hmem;clear hM;obtain ⟨d, hd⟩ := aHt M (fun x hx => ((hmem x).1 hx).2);have hspec := aTq d L (by rw [hd]; exact hmem);by_cases hM0 : M = []
   ·subst hM0
    have hd0 : d = [] := by
     cases d with
     | nil => rfl
     | cons a t => exact absurd hd (by simp)
    subst hd0;have hsn : R = [] := (by rw [← HR.out, ← hspec]; simp [compact, compactUpTo]);have hfo := hown;obtain ⟨q, cq, hv, -⟩ := qR hown rfl;subst hv;have H1 := lhid (AnyF.slices_SortFunc_none Tryz.laysSortV q cq (.func (.func 102) #[] #[]));have H2 := lhid (aGb q cq);have HF := lhid hfo;clear hspec hown hmem hfo;(go_wp2_with fail);refine (H1.out _).mono ?_;rintro e w1 ⟨rfl, rfl⟩;(go_wp2_with fail);refine (H2.out _).mono ?_;rintro e w1 ⟨rfl, rfl⟩;(go_wp2_with fail);go_ret;rw [hsn];exact ⟨_, rfl, HF.out, hbw⟩
   ·obtain ⟨-, ⟨-, hn⟩ | ⟨g, cq, cur, rfl, hgB, hcur, hcq, hcm, hcsz, htk⟩⟩ := id hown
    ·exact absurd (List.eq_nil_of_length_eq_zero hn) hM0
    ·have hH := aXj hcur hcsz htk;have hdl : d.length = M.length := (by rw [← hd]; simp);rw [← hd] at hH;have hB0 := hbw.size;have H1 := lhid (bAg g (cq * 2) cq d wr hH (by omega));rw [hdl] at H1;have HS2 := lhid hspec;have HCm := lhid hcm;have HGB := lhid hgB;clear hown hcur htk hcsz hspec hH hcm hgB hB0;(go_wp2_with fail);refine H1.out.mono ?_;rintro e w1 ⟨rfl, hH1, hb1⟩;have hB1 : Below w.heap.size w w1 := hbw.trans (hb1.mono HGB.out)
     have hSl : ((d.mergeSort leV).map (·.1)).toArray.size = M.length := by
      rw [List.size_toArray, List.length_map, List.length_mergeSort, hdl]
     have hcl : (compact ((d.mergeSort leV).map (·.1))).length ≤ ((d.mergeSort leV).map (·.1)).length := compact_length_le _;have H2 := lhid (aJq g (cq * 2) cq ((d.mergeSort leV).map (·.1)).toArray w1 hH1 (by omega) (by omega));have HE : Hid (compactUpTo ((d.mergeSort leV).map (·.1)).toArray ((d.mergeSort leV).map (·.1)).toArray.size = R) := lhid (by rw [← HR.out, ← HS2.out]; rfl);have hRl : R.length ≤ M.length := (by rw [← HR.out, ← HS2.out]; rw [List.size_toArray] at hSl; omega);rw [HE.out, hSl] at H2;clear hH1 HE hSl hcl hb1;(go_wp2_with fail);refine H2.out.mono ?_;rintro e w2 ⟨rfl, hH2, hb2⟩;have hB2 : Below w.heap.size w w2 := hB1.trans (hb2.mono HGB.out);have hO := kA.owns hH2 HGB.out (show R.length ≤ cq by omega) HCm.out rfl;clear hH2 hb2 H2 H1;(go_wp2_with fail);go_ret;exact ⟨_, rfl, hO, hB2⟩
end Go.Proofs.YtdfegfagedeilaaGreatDoor
