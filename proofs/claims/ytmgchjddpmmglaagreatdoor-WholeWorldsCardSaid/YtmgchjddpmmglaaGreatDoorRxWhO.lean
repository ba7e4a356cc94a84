/-
  Layer 17's reference (whole): who committed; two histories stored into their boxes. No conditions.
-/
import Derived.Test.YtmgchjddpmmglaaGreatDoorRxWhE
namespace Go.Proofs.YtmgchjddpmmglaaGreatDoor
open Go.RowKit Go.Lib
set_option maxRecDepth 100000 in
set_option maxHeartbeats 4000000 in
theorem rcommitted_any {w : World} {v : Value} {h : HistM} (hv : HistV w v h) (hm : Modst h) :
  Calls Tryz.prog 50 #[v] w fun e w' => ∃ v', e = .returned v' ∧ IntsS w' v' (idxs okP h.2.2 h.2.2.length) ∧ Below w.heap.size w w' := by
 obtain ⟨v0, v1, v2, rfl, ⟨p0, c0, rfl, -⟩, ⟨p1, c1, rfl, -⟩, ⟨p2, c2, rfl, k2⟩⟩ := hv
 have HX := Lib.hid k2
 have m3 : h.2.2.length ≤ 1000 := hm.2.2.1
 have HAL := Lib.hid ((Below.refl w.heap.size w).alloc (Nat.le_refl _) (.cells #[.slice p0 h.1.length c0, .slice p1 h.2.1.length c1, .slice p2 h.2.2.length c2] 25))
 have HBX := Lib.hid (Blk.new w 25 [.slice p0 h.1.length c0, .slice p1 h.2.1.length c1, .slice p2 h.2.2.length c2])
 obtain ⟨j0, hj, hj0, hj1, hj2⟩ := info_parts info_i64
 clear hm k2
 go_enter Tryz.func50, Tryz.ntmps50
 go_upto_region 1 with fail
 obtain ⟨W1, hW1⟩ : ∃ q, w.alloc (.cells #[.slice p0 h.1.length c0, .slice p1 h.2.1.length c1, .slice p2 h.2.2.length c2] 25) = q := ⟨_, rfl⟩
 rw [hW1] at HAL HBX ⊢
 clear hW1
 have HR0 : RowKit.Hid ((W1.alloc (.cells #[] 3)).ownsRow W1.heap.size 3 1 (.slice (some ⟨W1.heap.size, 0, none⟩) 0 0) 0 []) := Lib.hid (World.ownsRow_made (base := W1.heap.size) (size := 1) (e := 3) W1 #[] 0 (Nat.le_refl _) (Nat.zero_le _) rfl)
 have HA0 := Lib.hid ((Below.refl W1.heap.size W1).alloc (Nat.le_refl _) (.cells #[] 3))
 have HFin := Lib.hid (fun w' (hb : Below W1.heap.size W1 w') => below_next HAL.out hb)
 go_wp2_with fail
 go_loopw [3, 4] (fun l i wr => ∃ k : Nat, k ≤ h.2.2.length ∧ i = .int .i64 k ∧ wr.ownsRow W1.heap.size 3 1 l (idxs okP h.2.2 k).length (vints (idxs okP h.2.2 k)) ∧ Below W1.heap.size W1 wr) (fun _ i _ => h.2.2.length - (RowKit.intOf i).toNat)
 case atStart => exact ⟨0, Nat.zero_le _, rfl, HR0.out, HA0.out⟩
 case round =>
  obtain ⟨k, hk, rfl, hrow, hbw⟩ := hrel
  have x2 := (HBX.out.later hbw).cell 2 rfl
  by_cases hk1 : k < h.2.2.length
  ·have hb0 := HFin.out _ hbw
   obtain ⟨g, sv, rfl, a1, a2, a3, a4⟩ := HX.out k hk1
   have a2 := cell_later hb0 a2
   have hnx := idxs_next okP h.2.2 k
   have hll := committedI_len h.2.2 k
   obtain ⟨⟨ts, tf, tl⟩, htt⟩ : ∃ q, h.2.2.getD k noTxn = q := ⟨_, rfl⟩
   rw [htt] at a2 hnx
   dsimp only at a2
   have hip : okP (ts, tf, tl) = (tf == 1) := rfl
   rw [hip] at hnx
   have HRw := Lib.hid hrow
   have HBw := Lib.hid hbw
   have HNx := Lib.hid hnx
   clear hrow hbw hnx htt hip hb0 a1 a3 a4
   by_cases h1 : tf = 1
   ·subst h1
    have HN2 : RowKit.Hid (idxs okP h.2.2 (k + 1) = idxs okP h.2.2 k ++ [(k : Int)]) := Lib.hid HNx.out
    clear HNx
    obtain ⟨p9, c9, rfl⟩ := owns_form HRw.out
    go_wp2_with (at_builtin; refine wpList_append_own _ rfl _ _ 56 rfl W1.heap.size 3 j0 (.int .i64 0) 1 8 Tryz.underlying56 hj hj0 hj1 hj2 rfl (by decide) _ _ _ rfl (HRw.out.alloc _) ⟨wr.heap.size, 0, none⟩ 1 1 [.int .i64 (k : Nat)] rfl rfl (news_lit _ _ _ _ (by simp)) (ones_int _) (by unfold maxLen; omega) (by omega) (by have := HBw.out.size; simp; omega) ?_)
    intro v4 w4 hown4 hgrow hnil
    have hA := HBw.out.alloc HBw.out.size (.cells #[.int .i64 (k : Nat)] 3)
    have hR := HRw.out.alloc (.cells #[.int .i64 (k : Nat)] 3)
    have HB4 := Lib.hid (hA.grown hgrow hA.size (fun q hq => (hR.lt q hq).1))
    have HO4 : RowKit.Hid (w4.ownsRow W1.heap.size 3 1 v4 (idxs okP h.2.2 (k + 1)).length (vints (idxs okP h.2.2 (k + 1)))) := Lib.hid (by rw [HN2.out, ← vints_snoc, List.length_append]; exact hown4)
    clear hown4 hgrow hnil hA hR
    go_wp2_with fail
    go_roundw
    case rel => exact ⟨k + 1, by omega, by go_num, HO4.out, HB4.out⟩
    case measure => simp [RowKit.intOf]; omega
   ·have h1b : (tf == 1) = false := by simpa using h1
    have HN2 : RowKit.Hid (idxs okP h.2.2 (k + 1) = idxs okP h.2.2 k) := Lib.hid (by rw [HNx.out, if_neg (by rw [h1b]; exact Bool.false_ne_true)])
    clear HNx
    go_wp2_with fail
    go_roundw
    case rel => exact ⟨k + 1, by omega, by go_num, by rw [HN2.out]; exact HRw.out, HBw.out⟩
    case measure => simp [RowKit.intOf]; omega
  ·have hke : k = h.2.2.length := by omega
   subst hke
   have HRw := Lib.hid hrow
   obtain ⟨p9, c9, rfl⟩ := owns_form hrow
   clear hrow
   go_wp2_with fail
   go_ret
   exact ⟨_, rfl, own_intsI HRw.out, HFin.out _ hbw⟩
theorem hists_stored {w W1 w2 : World} {x0 x1 x2 y0 y1 y2 : Value} {h g : HistM} {p0 p1 p2 r0 r1 r2 : Option Addr} {n0 n1 n2 c0 c1 c2 k0 k1 k2 e0 e1 e2 : Nat} (hb1 : Below w.heap.size w W1) (hB : Blk W1 w.heap.size 25 [x0, x1, x2]) (hx : ∀ x ∈ [x0, x1, x2], ∃ p n c, x = Value.slice p n c) (hU : Blk W1 (w.heap.size + 1) 25 [y0, y1, y2]) (hy : ∀ x ∈ [y0, y1, y2], ∃ p n c, x = Value.slice p n c) (hb : Below W1.heap.size W1 w2)
  (hv : HistV w2 (.agg #[.slice p0 n0 c0, .slice p1 n1 c1, .slice p2 n2 c2]) h) (ha : HistA w2 (.agg #[.slice p0 n0 c0, .slice p1 n1 c1, .slice p2 n2 c2]) h) (gv : HistV w2 (.agg #[.slice r0 k0 e0, .slice r1 k1 e1, .slice r2 k2 e2]) g) (ga : HistA w2 (.agg #[.slice r0 k0 e0, .slice r1 k1 e1, .slice r2 k2 e2]) g) :
  ∃ WZ, ((((((w2.setCell ⟨w.heap.size, 0, none⟩ (.slice p0 n0 c0)).setCell ⟨w.heap.size, 1, none⟩ (.slice p1 n1 c1)).setCell ⟨w.heap.size, 2, none⟩ (.slice p2 n2 c2)).setCell ⟨w.heap.size + 1, 0, none⟩ (.slice r0 k0 e0)).setCell ⟨w.heap.size + 1, 1, none⟩ (.slice r1 k1 e1)).setCell ⟨w.heap.size + 1, 2, none⟩ (.slice r2 k2 e2)) = WZ ∧
  Blk WZ w.heap.size 25 [.slice p0 n0 c0, .slice p1 n1 c1, .slice p2 n2 c2] ∧ Blk WZ (w.heap.size + 1) 25 [.slice r0 k0 e0, .slice r1 k1 e1, .slice r2 k2 e2] ∧
  HistV WZ (.agg #[.slice p0 n0 c0, .slice p1 n1 c1, .slice p2 n2 c2]) h ∧ HistA WZ (.agg #[.slice p0 n0 c0, .slice p1 n1 c1, .slice p2 n2 c2]) h ∧ HistV WZ (.agg #[.slice r0 k0 e0, .slice r1 k1 e1, .slice r2 k2 e2]) g ∧ HistA WZ (.agg #[.slice r0 k0 e0, .slice r1 k1 e1, .slice r2 k2 e2]) g ∧ Below w.heap.size w WZ := by
 have s0 : SlBox w2 w.heap.size 25 [x0, x1, x2] := ⟨hB.later hb, hx⟩
 have s1 := s0.set 0 p0 n0 c0
 have s2 := s1.set 1 p1 n1 c1
 have s3 := s2.set 2 p2 n2 c2
 have hne : w.heap.size + 1 ≠ w.heap.size := by omega
 have u0 := (((hU.later hb).far (a := ⟨w.heap.size, 0, none⟩) hne (.slice p0 n0 c0)).far (a := ⟨w.heap.size, 1, none⟩) hne (.slice p1 n1 c1)).far (a := ⟨w.heap.size, 2, none⟩) hne (.slice p2 n2 c2)
 have t0 : SlBox _ (w.heap.size + 1) 25 [y0, y1, y2] := ⟨u0, hy⟩
 have t1 := t0.set 0 r0 k0 e0
 have t2 := t1.set 1 r1 k1 e1
 have t3 := t2.set 2 r2 k2 e2
 have hne2 : w.heap.size ≠ w.heap.size + 1 := by omega
 have kv := fun {v : Value} {h : HistM} (hv : HistV w2 v h) => histV_box t2 2 (.slice r2 k2 e2) (histV_box t1 1 (.slice r1 k1 e1) (histV_box t0 0 (.slice r0 k0 e0) (histV_box s2 2 (.slice p2 n2 c2) (histV_box s1 1 (.slice p1 n1 c1) (histV_box s0 0 (.slice p0 n0 c0) hv)))))
 have ka := fun {v : Value} {h : HistM} (hv : HistA w2 v h) => histA_box t2 2 (.slice r2 k2 e2) (histA_box t1 1 (.slice r1 k1 e1) (histA_box t0 0 (.slice r0 k0 e0) (histA_box s2 2 (.slice p2 n2 c2) (histA_box s1 1 (.slice p1 n1 c1) (histA_box s0 0 (.slice p0 n0 c0) hv)))))
 refine ⟨_, rfl, ((s3.1.far (a := ⟨w.heap.size + 1, 0, none⟩) hne2 _).far (a := ⟨w.heap.size + 1, 1, none⟩) hne2 _).far (a := ⟨w.heap.size + 1, 2, none⟩) hne2 _, t3.1, kv hv, ka ha, kv gv, ka ga, ?_⟩
 exact ((((((below_next hb1 hb).setCell (by show w.heap.size ≤ w.heap.size; omega) _).setCell (by show w.heap.size ≤ w.heap.size; omega) _).setCell (by show w.heap.size ≤ w.heap.size; omega) _).setCell (by show w.heap.size ≤ w.heap.size + 1; omega) _).setCell (by show w.heap.size ≤ w.heap.size + 1; omega) _).setCell (by show w.heap.size ≤ w.heap.size + 1; omega) _
end Go.Proofs.YtmgchjddpmmglaaGreatDoor
