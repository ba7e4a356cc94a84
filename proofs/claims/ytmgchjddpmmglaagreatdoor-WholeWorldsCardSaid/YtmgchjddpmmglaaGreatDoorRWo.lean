/-
  The walks of layer 11's reference (hist): which transactions are so, the reads that were lost, whether two lists of places are the same. No conditions.
  The walks of layer 11's statements (hist): the sample; the chapter's example. No conditions but that unicode/utf8's two tables are as their initialisers lay them.
-/
import Derived.Test.YtmgchjddpmmglaaGreatDoorRWn
namespace Go.Proofs.YtmgchjddpmmglaaGreatDoor
section
open Go.RowKit Go.Lib
set_option maxRecDepth 100000 in
set_option maxHeartbeats 4000000 in
theorem rinfos_any (v0 v1 v2 : Value) (h : HistM) (w : World) (h0 : Texts w v0 h.1) (h1 : Texts w v1 h.2.1) (h2 : TxnsS w v2 h.2.2) (hm : Modst h) :
  Calls Tryz.prog 95 #[.agg #[v0, v1, v2]] w fun e w' => ∃ v', e = .returned v' ∧ IntsS w' v' (idxs (infosP) h.2.2 h.2.2.length) ∧ Below w.heap.size w w' := by
 obtain ⟨p2, c2, rfl, hp⟩ := h2
 obtain ⟨p0, c0, rfl, -⟩ := h0
 obtain ⟨p1, c1, rfl, -⟩ := h1
 have HX := Lib.hid hp
 have m3 : h.2.2.length ≤ 1000 := hm.2.2.1
 obtain ⟨i0, hi, hz0, hz1, hz2⟩ := info_parts info_i64
 have b0 := Blk.new w 25 [.slice p0 h.1.length c0, .slice p1 h.2.1.length c1, .slice p2 h.2.2.length c2]
 have hb0 : Below w.heap.size w (w.alloc (.cells #[.slice p0 h.1.length c0, .slice p1 h.2.1.length c1, .slice p2 h.2.2.length c2] 25)) := (Below.refl _ w).alloc (Nat.le_refl _) _
 have HB0 := Lib.hid hb0
 have B0 := Lib.hid b0
 have hown0 := World.ownsRow_made (base := w.heap.size + 1) (size := 1) (e := 3) (w.alloc (.cells #[.slice p0 h.1.length c0, .slice p1 h.2.1.length c1, .slice p2 h.2.2.length c2] 25)) #[] 0 (by simp) (Nat.zero_le _) rfl
 have hbs0 : Below (w.heap.size + 1) (w.alloc (.cells #[.slice p0 h.1.length c0, .slice p1 h.2.1.length c1, .slice p2 h.2.2.length c2] 25)) ((w.alloc (.cells #[.slice p0 h.1.length c0, .slice p1 h.2.1.length c1, .slice p2 h.2.2.length c2] 25)).alloc (.cells #[] 3)) := (Below.refl _ _).alloc (by simp) _
 simp only [World.size_alloc] at hown0
 clear hp hm b0 hb0
 go_enter Tryz.func95, Tryz.ntmps95
 go_wp2_with fail
 have hS0 : (w.alloc (.cells #[.slice p0 h.1.length c0, .slice p1 h.2.1.length c1, .slice p2 h.2.2.length c2] 25)).heap.size = w.heap.size + 1 := World.size_alloc _ _
 have HS0 := Lib.hid hS0
 clear hS0
 generalize (w.alloc (.cells #[.slice p0 h.1.length c0, .slice p1 h.2.1.length c1, .slice p2 h.2.2.length c2] 25)) = W0 at *
 go_loopw [3, 4] (fun l i wr => ∃ k : Nat, k ≤ h.2.2.length ∧ i = .int .i64 k ∧ wr.ownsRow (w.heap.size + 1) 3 1 l (idxs (infosP) h.2.2 k).length (vints (idxs (infosP) h.2.2 k)) ∧ Below (w.heap.size + 1) W0 wr) (fun _ i _ => h.2.2.length - (RowKit.intOf i).toNat)
 case atStart => exact ⟨0, Nat.zero_le _, rfl, hown0, hbs0⟩
 case round =>
  obtain ⟨k, hk, rfl, hown, hbw⟩ := hrel
  have hsz := hbw.size
  rw [HS0.out] at hsz
  have x2 := (B0.out.below hbw (by omega)).cell 2 rfl
  by_cases hk1 : k < h.2.2.length
  ·obtain ⟨g, sv, rfl, a1, a2, a3, -⟩ := HX.out k hk1
   have hbwx := HB0.out.trans (hbw.mono (by omega))
   have a1' := cell_later hbwx a1
   have a2' := cell_later hbwx a2
   have hnx := idxs_next (infosP) h.2.2 k
   have hil := idxs_len (infosP) h.2.2 k
   obtain ⟨I, hI⟩ : ∃ I, idxs (infosP) h.2.2 k = I := ⟨_, rfl⟩
   rw [hI] at hown hnx hil
   obtain ⟨t, ht⟩ : ∃ t, h.2.2.getD k noTxn = t := ⟨_, rfl⟩
   rw [ht] at a1' a2' hnx
   obtain ⟨t1, t2, t3⟩ := t
   simp only at a1' a2' hnx
   have HN : RowKit.Hid ((infosP) (t1, t2, t3) = true → idxs (infosP) h.2.2 (k + 1) = I ++ [(k : Int)]) := Lib.hid (fun e => by rw [hnx, if_pos e])
   have HF : RowKit.Hid ((infosP) (t1, t2, t3) = false → idxs (infosP) h.2.2 (k + 1) = I) := Lib.hid (fun e => by rw [hnx, if_neg (by rw [e]; exact Bool.false_ne_true)])
   clear a1 a2 a3 ht hI hnx hbwx
   by_cases hc : t2 = 3
   ·have hcb : ((infosP) (t1, t2, t3)) = true := beq_iff_eq.2 hc
    have HN2 := Lib.hid (HN.out hcb)
    have hcc : (t2 == 3) = true := beq_iff_eq.2 hc
    clear hcb hc HN HF
    go_wp2_with (at_builtin; refine wpList_append_own _ rfl _ _ 56 rfl (w.heap.size + 1) 3 i0 (.int .i64 0) 1 8 Tryz.underlying56 hi hz0 hz1 hz2 rfl (by decide) _ _ _ rfl (hown.alloc _) ⟨wr.heap.size, 0, none⟩ 1 1 [.int .i64 (k : Nat)] rfl rfl (news_int _ _ _) (ones_int _) (by unfold maxLen; omega) (by omega) (by simp; omega) ?_)
    intro v4 w4 hown4 hgrow hnil
    have hb4 : Below (w.heap.size + 1) W0 w4 := (hbw.alloc (by omega) _).grown hgrow (by simp; omega) (fun k hk => (hown.lt k hk).1)
    have HO : RowKit.Hid (w4.ownsRow (w.heap.size + 1) 3 1 v4 (idxs (infosP) h.2.2 (k + 1)).length (vints (idxs (infosP) h.2.2 (k + 1)))) := Lib.hid (by rw [HN2.out, ← vints_snoc, List.length_append]; exact hown4)
    clear hown4 hgrow hnil hown hbw
    go_wp2_with fail
    go_roundw
    case rel => exact ⟨k + 1, by omega, by go_num, HO.out, hb4⟩
    case measure => simp [RowKit.intOf]; omega
   ·have hcb : ((infosP) (t1, t2, t3)) = false := beq_eq_false_iff_ne.2 hc
    have HN2 := Lib.hid (HF.out hcb)
    have hcc : (t2 == 3) = false := beq_eq_false_iff_ne.2 hc
    clear hcb hc HN HF
    go_wp2_with fail
    go_roundw
    case rel => exact ⟨k + 1, by omega, by go_num, by rw [HN2.out]; exact hown, hbw⟩
    case measure => simp [RowKit.intOf]; omega
  ·have hke : k = h.2.2.length := by omega
   subst hke
   have HO := Lib.hid (own_intsI hown)
   have hbwx := HB0.out.trans (hbw.mono (by omega))
   clear hown
   go_wp2_with fail
   go_ret
   exact ⟨_, rfl, HO.out, hbwx⟩
set_option maxRecDepth 100000 in
set_option maxHeartbeats 4000000 in
theorem rlost_any (v0 v1 v2 : Value) (h : HistM) (w : World) (h0 : Texts w v0 h.1) (h1 : Texts w v1 h.2.1) (h2 : TxnsS w v2 h.2.2) (hm : Modst h) :
  Calls Tryz.prog 28 #[.agg #[v0, v1, v2]] w fun e w' => ∃ v', e = .returned v' ∧ PlacesS w' v' (lostI (itH h.2.2 h.2.2.length)) ∧ Below w.heap.size w w' := by
 obtain ⟨p2, c2, rfl, hp⟩ := h2
 obtain ⟨p0, c0, rfl, -⟩ := h0
 obtain ⟨p1, c1, rfl, -⟩ := h1
 have HX := Lib.hid hp
 have HM := Lib.hid hm
 have m3 : h.2.2.length ≤ 1000 := hm.2.2.1
 have HN0 := Lib.hid (itH_len h.2.2 hm.2.2.2.2.2 h.2.2.length (Nat.le_refl _))
 obtain ⟨i0, hi, hz0, hz1, hz2⟩ := info_parts info_place
 have b0 := Blk.new w 25 [.slice p0 h.1.length c0, .slice p1 h.2.1.length c1, .slice p2 h.2.2.length c2]
 have hb0 : Below w.heap.size w (w.alloc (.cells #[.slice p0 h.1.length c0, .slice p1 h.2.1.length c1, .slice p2 h.2.2.length c2] 25)) := (Below.refl _ w).alloc (Nat.le_refl _) _
 have HB0 := Lib.hid hb0
 have B0 := Lib.hid b0
 have hown0 := World.ownsRow_made (base := w.heap.size + 1) (size := 2) (e := 38) (w.alloc (.cells #[.slice p0 h.1.length c0, .slice p1 h.2.1.length c1, .slice p2 h.2.2.length c2] 25)) #[] 0 (by simp) (Nat.zero_le _) rfl
 have hbs0 : Below (w.heap.size + 1) (w.alloc (.cells #[.slice p0 h.1.length c0, .slice p1 h.2.1.length c1, .slice p2 h.2.2.length c2] 25)) ((w.alloc (.cells #[.slice p0 h.1.length c0, .slice p1 h.2.1.length c1, .slice p2 h.2.2.length c2] 25)).alloc (.cells #[] 38)) := (Below.refl _ _).alloc (by simp) _
 simp only [World.size_alloc] at hown0
 clear hp hm b0 hb0
 go_enter Tryz.func28, Tryz.ntmps28
 go_wp2_with fail
 have hS0 : (w.alloc (.cells #[.slice p0 h.1.length c0, .slice p1 h.2.1.length c1, .slice p2 h.2.2.length c2] 25)).heap.size = w.heap.size + 1 := World.size_alloc _ _
 have HS0 := Lib.hid hS0
 clear hS0
 generalize (w.alloc (.cells #[.slice p0 h.1.length c0, .slice p1 h.2.1.length c1, .slice p2 h.2.2.length c2] 25)) = W0 at *
 go_loopw [3, 4] (fun l i wr => ∃ k : Nat, k ≤ h.2.2.length ∧ i = .int .i64 k ∧ wr.ownsRow (w.heap.size + 1) 38 2 l (lostI (itH h.2.2 k)).length (placesCells (lostI (itH h.2.2 k))) ∧ Below (w.heap.size + 1) W0 wr) (fun _ i _ => h.2.2.length - (RowKit.intOf i).toNat)
 case atStart => exact ⟨0, Nat.zero_le _, rfl, hown0, hbs0⟩
 case round =>
  obtain ⟨k, hk, rfl, hown, hbw⟩ := hrel
  have hsz := hbw.size
  rw [HS0.out] at hsz
  have x2 := (B0.out.below hbw (by omega)).cell 2 rfl
  obtain ⟨wo, rfl⟩ : ∃ wo : World, wo = wr := ⟨_, rfl⟩
  by_cases hk1 : k < h.2.2.length
  ·obtain ⟨g, sv, rfl, a1, a2, a3, ⟨p3, c3, rfl, -, ho⟩⟩ := HX.out k hk1
   have HO := Lib.hid ho
   have HS := Lib.hid (itH_succ h.2.2 k)
   have HLT := Lib.hid (fun j => it_lt h.2.2 k j hk1)
   have hm4 : (h.2.2.getD k noTxn).2.2.length ≤ 1000 := HM.out.2.2.2.2.2 _ (by
    have : h.2.2.getD k noTxn = h.2.2[k] := by simp [hk1]
    rw [this]
    exact List.getElem_mem hk1)
   obtain ⟨tl, htl⟩ : ∃ tl, (h.2.2.getD k noTxn).2.2 = tl := ⟨_, rfl⟩
   rw [htl] at a3 HO HS HLT hm4
   obtain ⟨P0, hP0⟩ : ∃ P0, itH h.2.2 k = P0 := ⟨_, rfl⟩
   rw [hP0] at hown HS HLT
   have A3 := Lib.hid a3
   clear a1 a2 a3 ho htl hP0
   go_wp2_with fail
   go_loopw [3, 5] (fun l j wr => ∃ m : Nat, m ≤ tl.length ∧ j = .int .i64 m ∧ wr.ownsRow (w.heap.size + 1) 38 2 l (lostI (P0 ++ itT k tl m)).length (placesCells (lostI (P0 ++ itT k tl m))) ∧ Below (w.heap.size + 1) W0 wr) (fun _ j _ => tl.length - (RowKit.intOf j).toNat)
   case atStart => exact ⟨0, Nat.zero_le _, rfl, by simpa [itT] using hown, hbw⟩
   case round =>
    obtain ⟨m, hml, rfl, hown, hbw⟩ := hrel
    have hsz := hbw.size
    rw [HS0.out] at hsz
    have x2 := (B0.out.below hbw (by omega)).cell 2 rfl
    have hbwx := HB0.out.trans (hbw.mono (by omega))
    have a3' := cell_later hbwx A3.out
    by_cases hm1 : m < tl.length
    ·obtain ⟨g2, rfl, q0, q1, q2, q3⟩ := HO.out m hm1
     have q2' := cell_later hbwx q2
     have hls := lostI_snoc (P0 ++ itT k tl m) ((k, m), tl.getD m noOp)
     have hlt := HLT.out m hm1
     have hll := lostI_len (P0 ++ itT k tl m)
     have hn0 := HN0.out
     rw [List.append_assoc, ← itT_succ] at hls
     obtain ⟨o, ho⟩ : ∃ o, tl.getD m noOp = o := ⟨_, rfl⟩
     rw [ho] at q2' hls
     obtain ⟨ow, ok, od, on⟩ := o
     simp only at q2' hls
     obtain ⟨I, hI⟩ : ∃ I, lostI (P0 ++ itT k tl m) = I := ⟨_, rfl⟩
     rw [hI] at hown hls hll
     have hIl : I.length ≤ 1000000 := by omega
     have HN : RowKit.Hid (od = 2 → lostI (P0 ++ itT k tl (m + 1)) = I ++ [(k, m)]) := Lib.hid (fun e => by rw [hls, if_pos (beq_iff_eq.2 e)])
     have HF : RowKit.Hid (od ≠ 2 → lostI (P0 ++ itT k tl (m + 1)) = I) := Lib.hid (fun e => by rw [hls, if_neg (by rw [beq_eq_false_iff_ne.2 e]; exact Bool.false_ne_true)])
     clear q0 q1 q2 q3 ho hI hls hll hlt hn0 hbwx
     by_cases hc : od = 2
     ·have HN2 := Lib.hid (HN.out hc)
      subst hc
      clear HN HF
      go_wp2_with (at_builtin; refine wpList_append_own _ rfl _ _ 43 rfl (w.heap.size + 1) 38 i0 (.agg #[.int .i64 0, .int .i64 0]) 2 16 Tryz.underlying43 hi hz0 hz1 hz2 rfl (by decide) _ _ _ rfl (hown.alloc _) ⟨wr.heap.size, 0, none⟩ 1 1 [.int .i64 (k : Nat), .int .i64 (m : Nat)] rfl rfl (news_lit _ _ _ _ rfl) (by intro u hu; simp at hu; rcases hu with rfl | rfl <;> rfl) (by unfold maxLen; omega) (by omega) (by simp; omega) ?_)
      intro v4 w4 hown4 hgrow hnil
      have hb4 : Below (w.heap.size + 1) W0 w4 := (hbw.alloc (by omega) _).grown hgrow (by simp; omega) (fun k hk => (hown.lt k hk).1)
      have HO4 : RowKit.Hid (w4.ownsRow (w.heap.size + 1) 38 2 v4 (lostI (P0 ++ itT k tl (m + 1))).length (placesCells (lostI (P0 ++ itT k tl (m + 1))))) := Lib.hid (by rw [HN2.out, List.length_append, placesCells, List.flatMap_append]; exact hown4)
      clear hown4 hgrow hnil hown hbw
      go_wp2_with fail
      go_roundw
      case rel => exact ⟨m + 1, by omega, by go_num, HO4.out, hb4⟩
      case measure => simp [RowKit.intOf]; omega
     ·have HN2 := Lib.hid (HF.out hc)
      have hcc : (od == 2) = false := beq_eq_false_iff_ne.2 hc
      clear hc HN HF
      go_wp2_with fail
      go_roundw
      case rel => exact ⟨m + 1, by omega, by go_num, by rw [HN2.out]; exact hown, hbw⟩
      case measure => simp [RowKit.intOf]; omega
    ·obtain rfl : m = tl.length := by omega
     have HOW := Lib.hid hown
     clear hown hbwx
     go_wp2_with fail
     go_roundw
     case rel => exact ⟨k + 1, by omega, by go_num, by rw [HS.out]; exact HOW.out, hbw⟩
     case measure => simp [RowKit.intOf]; omega
  ·have hke : k = h.2.2.length := by omega
   subst hke
   have HO := Lib.hid (own_places hown)
   have hbwx := HB0.out.trans (hbw.mono (by omega))
   clear hown
   go_wp2_with fail
   go_ret
   exact ⟨_, rfl, HO.out, hbwx⟩
end
section
open Go.RowKit Go.Lib
theorem rmay_v {w : World} {v : Value} {h : HistM} (hv : HistV w v h) (hm : Modst h) : Calls Tryz.prog 27 #[v] w fun e w' => e = .returned (.int .i64 (errH h)) ∧ Below w.heap.size w w' := by
 obtain ⟨v0, v1, v2, rfl, h0, h1, h2⟩ := hv
 exact rmay_any v0 v1 v2 h w h0 h1 h2 hm
theorem infos_v {w : World} {v : Value} {h : HistM} (hv : HistV w v h) (hm : Modst h) (hT : Lib.Utf8Tabs 1 2 w) : Calls Tryz.prog 93 #[v] w fun e w' => ∃ v', e = .returned v' ∧ IntsS w' v' (whereL infosP h) ∧ Below w.heap.size w w' := by
 obtain ⟨v0, v1, v2, rfl, h0, h1, h2⟩ := hv
 exact infos_any v0 v1 v2 h w h0 h1 h2 hm hT
theorem lost_v {w : World} {v : Value} {h : HistM} (hv : HistV w v h) (hm : Modst h) (hT : Lib.Utf8Tabs 1 2 w) : Calls Tryz.prog 94 #[v] w fun e w' => ∃ v', e = .returned v' ∧ PlacesS w' v' (lostL h) ∧ Below w.heap.size w w' := by
 obtain ⟨v0, v1, v2, rfl, h0, h1, h2⟩ := hv
 exact lost_any v0 v1 v2 h w h0 h1 h2 hm hT
theorem rinfos_v {w : World} {v : Value} {h : HistM} (hv : HistV w v h) (hm : Modst h) : Calls Tryz.prog 95 #[v] w fun e w' => ∃ v', e = .returned v' ∧ IntsS w' v' (idxs infosP h.2.2 h.2.2.length) ∧ Below w.heap.size w w' := by
 obtain ⟨v0, v1, v2, rfl, h0, h1, h2⟩ := hv
 exact rinfos_any v0 v1 v2 h w h0 h1 h2 hm
theorem rlost_v {w : World} {v : Value} {h : HistM} (hv : HistV w v h) (hm : Modst h) : Calls Tryz.prog 28 #[v] w fun e w' => ∃ v', e = .returned v' ∧ PlacesS w' v' (lostI (itH h.2.2 h.2.2.length)) ∧ Below w.heap.size w w' := by
 obtain ⟨v0, v1, v2, rfl, h0, h1, h2⟩ := hv
 exact rlost_any v0 v1 v2 h w h0 h1 h2 hm
end
end Go.Proofs.YtmgchjddpmmglaaGreatDoor
