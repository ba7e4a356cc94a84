/-
  Layer 13's reference (inner), walked. No conditions.
-/
import Derived.Test.YtmgchjddpmmglaaGreatDoorQIb
import Derived.Test.YtmgchjddpmmglaaGreatDoorQxInP
import Derived.Test.YtmgchjddpmmglaaGreatDoorQxInK
namespace Go.Proofs.YtmgchjddpmmglaaGreatDoor
open Go.RowKit Go.Lib
attribute [local go_sem] Later.cell Later.frozen
def thereP (h : HistM) (t o : Int) : Bool := decide (0 ≤ o ∧ o < ((opsI h t).length : Int))
set_option maxRecDepth 100000 in
set_option maxHeartbeats 4000000 in
theorem rraw_any (t : TxnM) (sv : Value) (many key : Int) (w : World) (hs : OpsS w sv t.2.2) (hl : t.2.2.length ≤ 1000) :
  Calls Tryz.prog 84 #[.agg #[.int .i64 t.1, .int .i64 t.2.1, sv], .int .i64 many, .int .i64 key] w fun e w' => e = .returned (.tuple #[.agg #[.int .i64 (rawO key (t.2.2.take many.toNat)).1.1, .int .i64 (rawO key (t.2.2.take many.toNat)).1.2], .bool (rawO key (t.2.2.take many.toNat)).2]) ∧ Below w.heap.size w w' := by
 obtain ⟨ps, cs, rfl, -, ho⟩ := hs
 obtain ⟨ts, tf, tl⟩ := t
 dsimp only at ho hl ⊢
 have HO := Lib.hid ho
 have b0 := ((Blk.new w 47 [.int .i64 ts, .int .i64 tf, .slice ps tl.length cs]).alloc (.cells #[.int .i64 0, .int .i64 0] 49)).alloc (.cells #[.int .i64 0, .int .i64 0] 49)
 have b1 := (Blk.new (w.alloc (.cells #[.int .i64 ts, .int .i64 tf, .slice ps tl.length cs] 47)) 49 [.int .i64 0, .int .i64 0]).alloc (.cells #[.int .i64 0, .int .i64 0] 49)
 have b2 := Blk.new ((w.alloc (.cells #[.int .i64 ts, .int .i64 tf, .slice ps tl.length cs] 47)).alloc (.cells #[.int .i64 0, .int .i64 0] 49)) 49 [.int .i64 0, .int .i64 0]
 have hal := (((Below.refl w.heap.size w).alloc (Nat.le_refl _) (.cells #[.int .i64 ts, .int .i64 tf, .slice ps tl.length cs] 47)).alloc (by simp) (.cells #[.int .i64 0, .int .i64 0] 49)).alloc (by simp; omega) (.cells #[.int .i64 0, .int .i64 0] 49)
 simp only [World.size_alloc] at b1 b2
 clear ho
 go_enter Tryz.func84, Tryz.ntmps84
 go_wp2_with fail
 obtain ⟨W0, hW0⟩ : ∃ W0, ((w.alloc (.cells #[.int .i64 ts, .int .i64 tf, .slice ps tl.length cs] 47)).alloc (.cells #[.int .i64 0, .int .i64 0] 49)).alloc (.cells #[.int .i64 0, .int .i64 0] 49) = W0 := ⟨_, rfl⟩
 rw [hW0] at b0 b1 b2 hal
 try rw [hW0]
 have hz := b2.lt
 have B0 := Lib.hid b0
 have B1 := Lib.hid b1
 have HAL := Lib.hid hal
 clear b0 b1 hal hW0
 go_loopw [9, 10] (fun s i wr => ∃ k : Nat, k ≤ tl.length ∧ k ≤ many.toNat ∧ i = .int .i64 k ∧ s = .bool (rawO key (tl.take k)).2 ∧ Blk wr (w.heap.size + 1 + 1) 49 [.int .i64 (rawO key (tl.take k)).1.1, .int .i64 (rawO key (tl.take k)).1.2] ∧ Below (w.heap.size + 1 + 1) W0 wr) (fun _ i _ => tl.length - (RowKit.intOf i).toNat)
 case atStart => exact ⟨0, Nat.zero_le _, Nat.zero_le _, rfl, rfl, b2, Below.refl _ _⟩
 case round =>
  obtain ⟨k, hk, hkm, rfl, rfl, hbv, hbw⟩ := hrel
  have x2 := (B0.out.below hbw (by omega)).cell 2 rfl
  have HB0 := Lib.hid (HAL.out.trans (hbw.mono (by omega)))
  have HBW := Lib.hid hbw
  have HBV := Lib.hid hbv
  have hwz := (B0.out.below hbw (by omega)).lt
  clear hbw hbv
  by_cases hc : k < tl.length ∧ k < many.toNat
  ·obtain ⟨hc1, hc2⟩ := hc
   have hc3 : (k : Int) < many := by omega
   obtain ⟨g, rfl, a1, a2, a3, a4⟩ := HO.out k hc1
   have a1 := cell_later HB0.out (cell_later (Below.refl _ _) a1)
   have a2 := cell_later HB0.out a2
   have a3 := cell_later HB0.out a3
   have a4 := cell_later HB0.out a4
   have hnx := raw_next key tl k hc1
   obtain ⟨⟨ow, ok, od, on⟩, hoo⟩ : ∃ q, tl.getD k noOp = q := ⟨_, rfl⟩
   rw [hoo] at a1 a2 a3 a4 hnx
   dsimp only at a1 a2 a3 a4 hnx
   obtain ⟨⟨⟨gk, gn⟩, gb⟩, hg⟩ : ∃ r, rawO key (tl.take k) = r := ⟨_, rfl⟩
   rw [hg] at hnx HBV ⊢
   dsimp only at HBV ⊢
   have HNx := Lib.hid hnx
   have r0 := HBV.out.cell 0 rfl
   have r1 := HBV.out.cell 1 rfl
   have f0 := HBV.out.frozen 0
   have f1 := HBV.out.frozen 1
   clear hnx hoo hg
   cases ow with
   | false =>
    go_wp2_with fail
    go_roundw
    case rel => exact ⟨k + 1, by omega, by omega, by go_num, by rw [HNx.out]; rfl, by rw [HNx.out]; exact HBV.out, HBW.out⟩
    case measure => simp [RowKit.intOf]; omega
   | true =>
    by_cases hk2 : ok = key
    ·have hw : wrO key (true, ok, od, on) = true := by unfold wrO; simp [hk2]
     have HNy := Lib.hid (HNx.out.trans (if_pos hw))
     subst hk2
     clear HNx hw
     go_wp2_with fail
     go_roundw
     case rel => exact ⟨k + 1, by omega, by omega, by go_num, by rw [HNy.out], by rw [HNy.out]; exact store2 HBV.out _ _, below_two_sets HBW.out (Nat.le_refl _) _ _⟩
     case measure => simp [RowKit.intOf]; omega
    ·have hw : wrO key (true, ok, od, on) = false := by unfold wrO; simp [hk2]
     have HNy := Lib.hid (HNx.out.trans (if_neg (by rw [hw]; exact Bool.false_ne_true)))
     clear HNx hw
     go_wp2_with fail
     go_roundw
     case rel => exact ⟨k + 1, by omega, by omega, by go_num, by rw [HNy.out], by rw [HNy.out]; exact HBV.out, HBW.out⟩
     case measure => simp [RowKit.intOf]; omega
  ·have he : tl.take k = tl.take many.toNat := by
    by_cases e : k = tl.length
    ·rw [e, List.take_length, List.take_of_length_le (by omega)]
    ·rw [show k = many.toNat by omega]
   have HE := Lib.hid he
   obtain ⟨⟨⟨gk, gn⟩, gb⟩, hg⟩ : ∃ r, rawO key (tl.take k) = r := ⟨_, rfl⟩
   rw [hg] at HBV ⊢
   dsimp only at HBV ⊢
   have HG : RowKit.Hid (rawO key (tl.take many.toNat) = ((gk, gn), gb)) := Lib.hid (by rw [← he]; exact hg)
   have HB1 := Lib.hid (B1.out.below HBW.out (by omega))
   have r0 := HBV.out.cell 0 rfl
   have r1 := HBV.out.cell 1 rfl
   have q0 := HB1.out.cell 0 rfl
   have q1 := HB1.out.cell 1 rfl
   have f0 := HB1.out.frozen 0
   have f1 := HB1.out.frozen 1
   clear hg he
   by_cases h1 : (k : Int) < many
   ·have h2 : ¬ ((k : Int) < (tl.length : Int)) := by omega
    go_wp2_with fail
    refine bodyPost_ret (results_ct Tryz.results84 _ _ _ _ _ rfl (load_val (store2 HB1.out _ _))) rfl ?_
    exact ⟨by rw [HG.out] <;> rfl, below_two_sets HB0.out (by omega) _ _⟩
   ·go_wp2_with fail
    refine bodyPost_ret (results_ct Tryz.results84 _ _ _ _ _ rfl (load_val (store2 HB1.out _ _))) rfl ?_
    exact ⟨by rw [HG.out] <;> rfl, below_two_sets HB0.out (by omega) _ _⟩
theorem rraw_at (t : TxnM) (sv : Value) (k : Nat) (key : Int) (w : World) (hs : OpsS w sv t.2.2) (hl : t.2.2.length ≤ 1000) :
  Calls Tryz.prog 84 #[.agg #[.int .i64 t.1, .int .i64 t.2.1, sv], .int .i64 (k : Nat), .int .i64 key] w fun e w' => e = .returned (.tuple #[.agg #[.int .i64 (rawO key (t.2.2.take k)).1.1, .int .i64 (rawO key (t.2.2.take k)).1.2], .bool (rawO key (t.2.2.take k)).2]) ∧ Below w.heap.size w w' := by
 have h := rraw_any t sv (k : Int) key w hs hl
 rwa [Int.toNat_natCast] at h
set_option maxRecDepth 100000 in
set_option maxHeartbeats 4000000 in
theorem rthere_any {w : World} {v : Value} {h : HistM} (t o : Int) (hv : HistV w v h) (hm : Modst h) :
  Calls Tryz.prog 88 #[v, .agg #[.int .i64 t, .int .i64 o]] w fun e w' => e = .returned (.bool (thereP h t o)) ∧ Below w.heap.size w w' := by
 have HMay := Lib.hid (fun w' (hb : Below w.heap.size w w') => rmay_v (hv.below hb) hm)
 have H0 := Lib.hid hv
 obtain ⟨v0, v1, v2, rfl, ⟨p0, c0, rfl, -⟩, ⟨p1, c1, rfl, -⟩, ⟨p2, c2, rfl, k2⟩⟩ := hv
 have hb0 := ((Below.refl w.heap.size w).alloc (Nat.le_refl _) (.cells #[.slice p0 h.1.length c0, .slice p1 h.2.1.length c1, .slice p2 h.2.2.length c2] 25)).alloc (by simp) (.cells #[.int .i64 t, .int .i64 o] 38)
 have HB0 := Lib.hid hb0
 have b0 := (Blk.new w 25 [.slice p0 h.1.length c0, .slice p1 h.2.1.length c1, .slice p2 h.2.2.length c2]).alloc (.cells #[.int .i64 t, .int .i64 o] 38)
 have b1 := Blk.new (w.alloc (.cells #[.slice p0 h.1.length c0, .slice p1 h.2.1.length c1, .slice p2 h.2.2.length c2] 25)) 38 [.int .i64 t, .int .i64 o]
 simp only [World.size_alloc] at b1
 have x0 := b0.cell 0 rfl
 have x1 := b0.cell 1 rfl
 have x2 := b0.cell 2 rfl
 have y0 := b1.cell 0 rfl
 have y1 := b1.cell 1 rfl
 have hl0 : w.heap.size < w.heap.size + 1 + 1 := by omega
 have hl1 : w.heap.size < ((w.alloc (.cells #[.slice p0 h.1.length c0, .slice p1 h.2.1.length c1, .slice p2 h.2.2.length c2] 25)).alloc (.cells #[.int .i64 t, .int .i64 o] 38)).heap.size := b0.lt
 have hl2 : w.heap.size + 1 < w.heap.size + 1 + 1 := by omega
 have hl3 : w.heap.size + 1 < ((w.alloc (.cells #[.slice p0 h.1.length c0, .slice p1 h.2.1.length c1, .slice p2 h.2.2.length c2] 25)).alloc (.cells #[.int .i64 t, .int .i64 o] 38)).heap.size := b1.lt
 have HX := Lib.hid k2
 clear hm b0 b1 hb0 k2 H0
 cases hmm : mayH h with
 | false =>
  rw [err_no hmm] at HMay
  have HR : RowKit.Hid (thereP h t o = false) := Lib.hid (by unfold thereP; rw [opsI_no hmm]; exact decide_eq_false (by simp))
  clear hmm
  go_enter Tryz.func88, Tryz.ntmps88
  go_wp2_with fail
  refine wp_region_later (by kernel_rfl) (by kernel_rfl) ?_
  repeat (go_big_quiet_step (first | (go_at_call 27; exact Later.call (HMay.out _ (HB0.out.trans ((Later.h _).mono HB0.out.size))))))
  refine wpQuiet_nil ?_
  intro _ hw'
  obtain ⟨⟨w3, hb3⟩, hw''⟩ := hw'
  have hw3 : w3 = _ := hw''.symm
  subst hw3
  try dsimp only at hb3
  go_wp2_with fail
  go_ret
  exact ⟨by rw [HR.out] <;> rfl, HB0.out.trans (hb3.mono HB0.out.size)⟩
 | true =>
  rw [err_yes hmm] at HMay
  by_cases g1 : 0 ≤ t
  ·have d1 : decide (0 ≤ t) = true := decide_eq_true g1
   by_cases g2 : t < (h.2.2.length : Int)
   ·have d2 : decide (t < (h.2.2.length : Int)) = true := decide_eq_true g2
    obtain ⟨a, rfl⟩ := Int.eq_ofNat_of_zero_le g1
    have ha : a < h.2.2.length := by omega
    obtain ⟨g, sv, rfl, -, -, a3, a4⟩ := HX.out a ha
    obtain ⟨p3, c3, rfl, -⟩ := a4
    have hgl : g < w.heap.size := World.block_lt_of_cell? w ⟨g, a * 3 + 2, none⟩ a3
    have hgl2 : g < w.heap.size + 1 + 1 := by omega
    have hgl3 : g < ((w.alloc (.cells #[.slice p0 h.1.length c0, .slice p1 h.2.1.length c1, .slice (some ⟨g, 0, none⟩) h.2.2.length c2] 25)).alloc (.cells #[.int .i64 (a : Nat), .int .i64 o] 38)).heap.size := by have := HB0.out.size; omega
    have q3 := cell_later HB0.out a3
    have hlen : opsI h a = (h.2.2.getD a noTxn).2.2 := opsI_yes hmm a ha
    by_cases g3 : 0 ≤ o
    ·have d3 : decide (0 ≤ o) = true := decide_eq_true g3
     have hR : thereP h a o = decide (o < (((h.2.2.getD a noTxn).2.2).length : Int)) := by unfold thereP; rw [hlen]; simp [g3]
     generalize (h.2.2.getD a noTxn).2.2.length = n3 at *
     have HR := Lib.hid hR
     clear hR hlen hmm a3 HX
     go_enter Tryz.func88, Tryz.ntmps88
     go_wp2_with fail
     refine wp_region_later (by kernel_rfl) (by kernel_rfl) ?_
     repeat (go_big_quiet_step (first | (go_at_call 27; exact Later.call (HMay.out _ (HB0.out.trans ((Later.h _).mono HB0.out.size))))))
     refine wpQuiet_nil ?_
     intro _ hw'
     obtain ⟨⟨w3, hb3⟩, hw''⟩ := hw'
     have hw3 : w3 = _ := hw''.symm
     subst hw3
     try dsimp only at hb3
     go_wp2_with fail
     go_ret
     exact ⟨by rw [HR.out] <;> rfl, HB0.out.trans (hb3.mono HB0.out.size)⟩
    ·have d3 : decide (0 ≤ o) = false := decide_eq_false g3
     have HR : RowKit.Hid (thereP h a o = false) := Lib.hid (by unfold thereP; exact decide_eq_false (by omega))
     clear hlen hmm a3 HX
     go_enter Tryz.func88, Tryz.ntmps88
     go_wp2_with fail
     refine wp_region_later (by kernel_rfl) (by kernel_rfl) ?_
     repeat (go_big_quiet_step (first | (go_at_call 27; exact Later.call (HMay.out _ (HB0.out.trans ((Later.h _).mono HB0.out.size))))))
     refine wpQuiet_nil ?_
     intro _ hw'
     obtain ⟨⟨w3, hb3⟩, hw''⟩ := hw'
     have hw3 : w3 = _ := hw''.symm
     subst hw3
     try dsimp only at hb3
     go_wp2_with fail
     go_ret
     exact ⟨by rw [HR.out] <;> rfl, HB0.out.trans (hb3.mono HB0.out.size)⟩
   ·have d2 : decide (t < (h.2.2.length : Int)) = false := decide_eq_false g2
    have HR : RowKit.Hid (thereP h t o = false) := Lib.hid (by unfold thereP; rw [opsI_high t (by omega)]; exact decide_eq_false (by simp))
    clear hmm
    go_enter Tryz.func88, Tryz.ntmps88
    go_wp2_with fail
    refine wp_region_later (by kernel_rfl) (by kernel_rfl) ?_
    repeat (go_big_quiet_step (first | (go_at_call 27; exact Later.call (HMay.out _ (HB0.out.trans ((Later.h _).mono HB0.out.size))))))
    refine wpQuiet_nil ?_
    intro _ hw'
    obtain ⟨⟨w3, hb3⟩, hw''⟩ := hw'
    have hw3 : w3 = _ := hw''.symm
    subst hw3
    try dsimp only at hb3
    go_wp2_with fail
    go_ret
    exact ⟨by rw [HR.out] <;> rfl, HB0.out.trans (hb3.mono HB0.out.size)⟩
  ·have d1 : decide (0 ≤ t) = false := decide_eq_false g1
   have HR : RowKit.Hid (thereP h t o = false) := Lib.hid (by unfold thereP; rw [opsI_low t (by omega)]; exact decide_eq_false (by simp))
   clear hmm
   go_enter Tryz.func88, Tryz.ntmps88
   go_wp2_with fail
   refine wp_region_later (by kernel_rfl) (by kernel_rfl) ?_
   repeat (go_big_quiet_step (first | (go_at_call 27; exact Later.call (HMay.out _ (HB0.out.trans ((Later.h _).mono HB0.out.size))))))
   refine wpQuiet_nil ?_
   intro _ hw'
   obtain ⟨⟨w3, hb3⟩, hw''⟩ := hw'
   have hw3 : w3 = _ := hw''.symm
   subst hw3
   try dsimp only at hb3
   go_wp2_with fail
   go_ret
   exact ⟨by rw [HR.out] <;> rfl, HB0.out.trans (hb3.mono HB0.out.size)⟩
theorem there_yes {h : HistM} {t o : Int} (hy : thereP h t o = true) : ∃ a k : Nat, t = (a : Int) ∧ o = (k : Int) ∧ mayH h = true ∧ a < h.2.2.length ∧ opsI h t = (h.2.2.getD a noTxn).2.2 ∧ k < (h.2.2.getD a noTxn).2.2.length := by
 unfold thereP at hy
 rw [decide_eq_true_eq] at hy
 obtain ⟨h0, h1⟩ := hy
 by_cases hm : mayH h = true
 ·by_cases g1 : t < 0
  ·rw [opsI_low t g1] at h1; simp at h1; omega
  ·by_cases g2 : (h.2.2.length : Int) ≤ t
   ·rw [opsI_high t g2] at h1; simp at h1; omega
   ·obtain ⟨a, rfl⟩ := Int.eq_ofNat_of_zero_le (show (0 : Int) ≤ t by omega)
    obtain ⟨k, rfl⟩ := Int.eq_ofNat_of_zero_le h0
    have ha : a < h.2.2.length := by omega
    have e := opsI_yes hm a ha
    refine ⟨a, k, rfl, rfl, hm, ha, e, ?_⟩
    rw [e] at h1
    omega
 ·rw [opsI_no (by simpa using hm)] at h1
  simp at h1
  omega
set_option maxRecDepth 100000 in
set_option maxHeartbeats 4000000 in
theorem rown13_any {w : World} {v : Value} {h : HistM} (t o : Int) (hv : HistV w v h) (hm : Modst h) :
  Calls Tryz.prog 38 #[v, .agg #[.int .i64 t, .int .i64 o]] w fun e w' => e = .returned (.tuple #[.agg #[.int .i64 (ownP h t o).1.1, .int .i64 (ownP h t o).1.2], .bool (ownP h t o).2]) ∧ Below w.heap.size w w' := by
 have H0 := Lib.hid hv
 obtain ⟨v0, v1, v2, rfl, ⟨p0, c0, rfl, -⟩, ⟨p1, c1, rfl, -⟩, ⟨p2, c2, rfl, k2⟩⟩ := hv
 have hal := (((Below.refl w.heap.size w).alloc (Nat.le_refl _) (.cells #[.slice p0 h.1.length c0, .slice p1 h.2.1.length c1, .slice p2 h.2.2.length c2] 25)).alloc (by simp) (.cells #[.int .i64 t, .int .i64 o] 38)).alloc (by simp; omega) (.cells #[.int .i64 0, .int .i64 0] 49)
 have HTh := Lib.hid (rthere_any t o (H0.out.below hal) hm)
 have hbx := ((Blk.new w 25 [.slice p0 h.1.length c0, .slice p1 h.2.1.length c1, .slice p2 h.2.2.length c2]).alloc (.cells #[.int .i64 t, .int .i64 o] 38)).alloc (.cells #[.int .i64 0, .int .i64 0] 49)
 have hpx := (Blk.new (w.alloc (.cells #[.slice p0 h.1.length c0, .slice p1 h.2.1.length c1, .slice p2 h.2.2.length c2] 25)) 38 [.int .i64 t, .int .i64 o]).alloc (.cells #[.int .i64 0, .int .i64 0] 49)
 have hvx := Blk.new ((w.alloc (.cells #[.slice p0 h.1.length c0, .slice p1 h.2.1.length c1, .slice p2 h.2.2.length c2] 25)).alloc (.cells #[.int .i64 t, .int .i64 o] 38)) 49 [.int .i64 0, .int .i64 0]
 simp only [World.size_alloc] at hpx hvx
 have b00 := hbx.cell 0 rfl
 have b01 := hbx.cell 1 rfl
 have b02 := hbx.cell 2 rfl
 have b10 := hpx.cell 0 rfl
 have b11 := hpx.cell 1 rfl
 have HBX := Lib.hid hbx
 have HPX := Lib.hid hpx
 have HVX := Lib.hid hvx
 have HX := Lib.hid k2
 have HAL := Lib.hid hal
 have HMod := Lib.hid hm
 clear hal hm H0 hbx hpx hvx k2
 go_enter Tryz.func38, Tryz.ntmps38
 go_wp2_with fail
 refine HTh.out.mono ?_
 rintro e w1 ⟨rfl, hb1⟩
 have HB1 := Lib.hid (below_next HAL.out hb1)
 have hx1 := HBX.out.later hb1
 have hp1 := HPX.out.later hb1
 have HV1 := Lib.hid (HVX.out.later hb1)
 have x2 := hx1.cell 2 rfl
 have y0 := hp1.cell 0 rfl
 have y1 := hp1.cell 1 rfl
 have xl := hx1.lt
 have yl := hp1.lt
 clear hb1 HTh HBX HPX HVX HAL hx1 hp1 b00 b01 b02 b10 b11
 cases hth : thereP h t o with
 | false =>
  have r0 := HV1.out.cell 0 rfl
  have r1 := HV1.out.cell 1 rfl
  have f0 := HV1.out.frozen 0
  have f1 := HV1.out.frozen 1
  have HE : RowKit.Hid (ownP h t o = noGot) := Lib.hid (by unfold thereP at hth; rw [decide_eq_false_iff_not] at hth; exact if_neg hth)
  clear hth
  go_wp2_with fail
  refine bodyPost_ret (results_ct Tryz.results38 _ _ _ _ _ rfl (load_val (store2 HV1.out _ _))) rfl ?_
  exact ⟨by rw [HE.out] <;> rfl, below_two_sets HB1.out (by omega) _ _⟩
 | true =>
  obtain ⟨a, k, rfl, rfl, hmm, ha, hop, hk⟩ := there_yes hth
  have hE : ownP h a k = rawO ((h.2.2.getD a noTxn).2.2.getD k noOp).2.1 ((h.2.2.getD a noTxn).2.2.take k) := by unfold ownP; rw [hop, if_pos (by omega), Int.toNat_natCast]
  obtain ⟨g, sv, rfl, a1, a2, a3, a4⟩ := HX.out a ha
  have htl : (h.2.2.getD a noTxn).2.2.length ≤ 1000 := by rw [← hop]; exact opsI_len HMod.out _
  have a1 := cell_later HB1.out a1
  have a2 := cell_later HB1.out a2
  have a3 := cell_later HB1.out a3
  have a4 := a4.below HB1.out
  obtain ⟨⟨ts, tf, tl⟩, htt⟩ : ∃ q, h.2.2.getD a noTxn = q := ⟨_, rfl⟩
  rw [htt] at a1 a2 a4 hk hE htl
  dsimp only at a1 a2 a4 hk hE htl
  have HOps0 := Lib.hid (fun w' (hb : Below w1.heap.size w1 w') => a4.below hb)
  obtain ⟨p3, c3, rfl, hcap, hops⟩ := a4
  obtain ⟨go, rfl, -, b2, -, -⟩ := hops k hk
  have HOps := HOps0
  obtain ⟨ok, hok⟩ : ∃ q, (tl.getD k noOp).2.1 = q := ⟨_, rfl⟩
  rw [hok] at b2 hE
  obtain ⟨⟨⟨gk, gn⟩, gb⟩, hg⟩ : ∃ r, rawO ok (tl.take k) = r := ⟨_, rfl⟩
  rw [hg] at hE
  have HE := Lib.hid hE
  have HG := Lib.hid hg
  have HS : RowKit.Hid (∀ w', Below w1.heap.size w1 w' → w'.cell? ⟨w.heap.size, 2, none⟩ = some (.slice (some ⟨g, 0, none⟩) h.2.2.length c2) ∧ w'.cell? ⟨w.heap.size + 1, 0, none⟩ = some (.int .i64 (a : Nat)) ∧ w'.cell? ⟨w.heap.size + 1, 1, none⟩ = some (.int .i64 (k : Nat)) ∧ w'.cell? ⟨g, a * 3, none⟩ = some (.int .i64 ts) ∧ w'.cell? ⟨g, a * 3 + 1, none⟩ = some (.int .i64 tf) ∧ w'.cell? ⟨g, a * 3 + 2, none⟩ = some (.slice (some ⟨go, 0, none⟩) tl.length c3) ∧ w'.cell? ⟨go, k * 4 + 1, none⟩ = some (.int .i64 ok) ∧ Below w1.heap.size w1 w') := Lib.hid (fun w' hb => ⟨cell_later hb x2, cell_later hb y0, cell_later hb y1, cell_later hb a1, cell_later hb a2, cell_later hb a3, cell_later hb b2, hb⟩)
  clear hE hg hok hops hcap htt hop hmm hth x2 y0 y1 a1 a2 a3 b2 HOps0
  go_wp2_with fail
  refine wp_region_keep (fun w' => w'.cell? ⟨w.heap.size, 2, none⟩ = some (.slice (some ⟨g, 0, none⟩) h.2.2.length c2) ∧ w'.cell? ⟨w.heap.size + 1, 0, none⟩ = some (.int .i64 (a : Nat)) ∧ w'.cell? ⟨w.heap.size + 1, 1, none⟩ = some (.int .i64 (k : Nat)) ∧ w'.cell? ⟨g, a * 3, none⟩ = some (.int .i64 ts) ∧ w'.cell? ⟨g, a * 3 + 1, none⟩ = some (.int .i64 tf) ∧ w'.cell? ⟨g, a * 3 + 2, none⟩ = some (.slice (some ⟨go, 0, none⟩) tl.length c3) ∧ w'.cell? ⟨go, k * 4 + 1, none⟩ = some (.int .i64 ok) ∧ Below w1.heap.size w1 w') [23] (by kernel_rfl) ?_
  have hB0 : Below (w1).heap.size (w1) (w1).drew := Below.drew (Below.refl _ _)
  have hS0 := HS.out _ hB0
  refine wfr 0 (v := ?_) rfl ?_ ?_
  rotate_left
  ·intro w' hw';go_simp;try with_reducible rfl
  try simp only [Act.put, sq]
  refine wtk 1 25 (v := ?_) rfl ?_ hS0 ?_
  rotate_left
  ·intro w' hw';(try dsimp only at hw');go_simp;try with_reducible rfl
  try simp only [Act.put, sq]
  refine wfr 2 (v := ?_) rfl ?_ ?_
  rotate_left
  ·intro w' hw';go_simp;try with_reducible rfl
  try simp only [Act.put, sq]
  refine wtk 3 25 (v := ?_) rfl ?_ hS0 ?_
  rotate_left
  ·intro w' hw';(try dsimp only at hw');go_simp;try with_reducible rfl
  try simp only [Act.put, sq]
  refine wfr 4 (v := ?_) rfl ?_ ?_
  rotate_left
  ·intro w' hw';go_simp;try with_reducible rfl
  try simp only [Act.put, sq]
  refine wtk 5 25 (v := ?_) rfl ?_ hS0 ?_
  rotate_left
  ·intro w' hw';(try dsimp only at hw');go_simp;try with_reducible rfl
  try simp only [Act.put, sq]
  refine wfr 6 (v := ?_) rfl ?_ ?_
  rotate_left
  ·intro w' hw';go_simp;try with_reducible rfl
  try simp only [Act.put, sq]
  refine wtk 7 25 (v := ?_) rfl ?_ hS0 ?_
  rotate_left
  ·intro w' hw';(try dsimp only at hw');go_simp;try with_reducible rfl
  try simp only [Act.put, sq]
  refine wfr 8 (v := ?_) rfl ?_ ?_
  rotate_left
  ·intro w' hw';go_simp;try with_reducible rfl
  try simp only [Act.put, sq]
  refine wtk 9 25 (v := ?_) rfl ?_ hS0 ?_
  rotate_left
  ·intro w' hw';(try dsimp only at hw');go_simp;try with_reducible rfl
  try simp only [Act.put, sq]
  refine wfr 10 (v := ?_) rfl ?_ ?_
  rotate_left
  ·intro w' hw';go_simp;try with_reducible rfl
  try simp only [Act.put, sq]
  refine wtk 11 25 (v := ?_) rfl ?_ hS0 ?_
  rotate_left
  ·intro w' hw';(try dsimp only at hw');go_simp;try with_reducible rfl
  try simp only [Act.put, sq]
  refine wfr 12 (v := ?_) rfl ?_ ?_
  rotate_left
  ·intro w' hw';go_simp;try with_reducible rfl
  try simp only [Act.put, sq]
  refine wfr 13 (v := ?_) rfl ?_ ?_
  rotate_left
  ·intro w' hw';go_simp;try with_reducible rfl
  try simp only [Act.put, sq]
  refine wtk 14 25 (v := ?_) rfl ?_ hS0 ?_
  rotate_left
  ·intro w' hw';(try dsimp only at hw');go_simp;try with_reducible rfl
  try simp only [Act.put, sq]
  refine won 15 rfl fun K hK => ?_
  go_simp
  refine hK.out _ _ (fun _ h => h) ?_
  clear hK K
  try simp only [Act.put, sq]
  refine won 16 rfl fun K hK => ?_
  go_simp
  refine hK.out _ _ (fun _ h => h) ?_
  clear hK K
  try simp only [Act.put, sq]
  refine won 17 rfl fun K hK => ?_
  go_simp
  refine hK.out _ _ (fun _ h => h) ?_
  clear hK K
  try simp only [Act.put, sq]
  refine won 18 rfl fun K hK => ?_
  go_simp
  refine hK.out _ _ (fun _ h => h) ?_
  clear hK K
  try simp only [Act.put, sq]
  refine won 19 rfl fun K hK => ?_
  go_simp
  refine hK.out _ _ (fun _ h => h) ?_
  clear hK K
  try simp only [Act.put, sq]
  refine won 20 rfl fun K hK => ?_
  go_simp
  refine (rraw_at (ts, tf, tl) (.slice (some ⟨go, 0, none⟩) tl.length c3) k ok _ (HOps.out _ hB0) htl).mono ?_
  rintro e w1 ⟨he, hb1⟩
  have hB1 := below_next hB0 hb1
  have hS1 := HS.out _ hB1
  rw [HG.out] at he
  dsimp only at he
  subst he
  refine hK.out _ _ (fun _ _ => hS1) ?_
  clear hK K hS0
  try simp only [Act.put, sq]
  refine wfr 21 (v := ?_) rfl ?_ ?_
  rotate_left
  ·intro w' hw';go_simp;try with_reducible rfl
  try simp only [Act.put, sq]
  refine won 22 rfl fun K hK => ?_
  go_simp
  refine hK.out _ _ (fun _ h => h) ?_
  clear hK K
  try simp only [Act.put, sq]
  have hvk := HV1.out.later hB1
  have r0 := hvk.cell 0 rfl
  have r1 := hvk.cell 1 rfl
  have f0 := hvk.frozen 0
  have f1 := hvk.frozen 1
  have HVk := Lib.hid hvk
  clear hvk
  refine won 23 rfl fun K hK => ?_
  go_simp
  refine hK.out _ _ (fun h => absurd h (by decide)) ?_
  clear hK K
  try simp only [Act.put, sq]
  refine won 24 rfl fun K hK => ?_
  go_simp
  refine hK.out _ _ (fun _ h => h) ?_
  clear hK K
  try simp only [Act.put, sq]
  refine wpAnyM_done (by kernel_rfl) ?_ _
  try simp only [Act.put, sq]
  go_wp2_with fail
  refine bodyPost_ret (results_ct Tryz.results38 _ _ _ _ _ rfl (load_val (store2 HVk.out _ _))) rfl ?_
  exact ⟨by rw [HE.out] <;> rfl, below_two_sets (below_next HB1.out hB1) (by omega) _ _⟩
set_option maxRecDepth 100000 in
set_option maxHeartbeats 4000000 in
theorem router13_any {w : World} {v : Value} {h : HistM} (t o : Int) (hv : HistV w v h) (hm : Modst h) :
  Calls Tryz.prog 40 #[v, .agg #[.int .i64 t, .int .i64 o]] w fun e w' => e = .returned (.bool (outerP h t o)) ∧ Below w.heap.size w w' := by
 have HTh := Lib.hid (fun w' (hb : Below w.heap.size w w') => rthere_any t o (hv.below hb) hm)
 have HOw := Lib.hid (fun w' (hb : Below w.heap.size w w') => rown13_any t o (hv.below hb) hm)
 have H0 := Lib.hid hv
 obtain ⟨v0, v1, v2, rfl, ⟨p0, c0, rfl, -⟩, ⟨p1, c1, rfl, -⟩, ⟨p2, c2, rfl, k2⟩⟩ := hv
 have hb0 := ((Below.refl w.heap.size w).alloc (Nat.le_refl _) (.cells #[.slice p0 h.1.length c0, .slice p1 h.2.1.length c1, .slice p2 h.2.2.length c2] 25)).alloc (by simp) (.cells #[.int .i64 t, .int .i64 o] 38)
 have HB0 := Lib.hid hb0
 have b0 := (Blk.new w 25 [.slice p0 h.1.length c0, .slice p1 h.2.1.length c1, .slice p2 h.2.2.length c2]).alloc (.cells #[.int .i64 t, .int .i64 o] 38)
 have b1 := Blk.new (w.alloc (.cells #[.slice p0 h.1.length c0, .slice p1 h.2.1.length c1, .slice p2 h.2.2.length c2] 25)) 38 [.int .i64 t, .int .i64 o]
 simp only [World.size_alloc] at b1
 have x0 := b0.cell 0 rfl
 have x1 := b0.cell 1 rfl
 have x2 := b0.cell 2 rfl
 have y0 := b1.cell 0 rfl
 have y1 := b1.cell 1 rfl
 have hl0 : w.heap.size < w.heap.size + 1 + 1 := by omega
 have hl1 : w.heap.size < ((w.alloc (.cells #[.slice p0 h.1.length c0, .slice p1 h.2.1.length c1, .slice p2 h.2.2.length c2] 25)).alloc (.cells #[.int .i64 t, .int .i64 o] 38)).heap.size := b0.lt
 have hl2 : w.heap.size + 1 < w.heap.size + 1 + 1 := by omega
 have hl3 : w.heap.size + 1 < ((w.alloc (.cells #[.slice p0 h.1.length c0, .slice p1 h.2.1.length c1, .slice p2 h.2.2.length c2] 25)).alloc (.cells #[.int .i64 t, .int .i64 o] 38)).heap.size := b1.lt
 have HX := Lib.hid k2
 have HK0 := Lib.hid b0
 have HK1 := Lib.hid b1
 clear hb0 b0 b1 k2 H0
 cases hth : thereP h t o with
 | false =>
  rw [hth] at HTh
  have HR : RowKit.Hid (outerP h t o = false) := Lib.hid (by unfold thereP at hth; rw [decide_eq_false_iff_not] at hth; exact if_neg hth)
  clear hth HOw
  go_enter Tryz.func40, Tryz.ntmps40
  go_wp2_with fail
  refine wp_region_later (by kernel_rfl) (by kernel_rfl) ?_
  repeat (go_big_quiet_step (first | (go_at_call 88; exact Later.call (HTh.out _ (HB0.out.trans ((Later.h _).mono HB0.out.size))))))
  refine wpQuiet_nil ?_
  intro _ hw'
  obtain ⟨⟨w3, hb3⟩, hw''⟩ := hw'
  have hw3 : w3 = _ := hw''.symm
  subst hw3
  try dsimp only at hb3
  go_wp2_with fail
  go_ret
  exact ⟨by rw [HR.out] <;> rfl, HB0.out.trans (hb3.mono HB0.out.size)⟩
 | true =>
  rw [hth] at HTh
  obtain ⟨a, k, rfl, rfl, hmm, ha, hop, hk⟩ := there_yes hth
  have hE : outerP h a k = (!((h.2.2.getD a noTxn).2.2.getD k noOp).1 && !(ownP h a k).2) := by unfold outerP ownP; rw [hop, if_pos (by omega), if_pos (by omega), Int.toNat_natCast]
  obtain ⟨g, sv, rfl, a1, a2, a3, a4⟩ := HX.out a ha
  obtain ⟨⟨ts, tf, tl⟩, htt⟩ : ∃ q, h.2.2.getD a noTxn = q := ⟨_, rfl⟩
  rw [htt] at a4 hk hE
  dsimp only at a4 hk hE
  obtain ⟨p3, c3, rfl, hcap, hops⟩ := a4
  obtain ⟨go, rfl, b2, -, -, -⟩ := hops k hk
  obtain ⟨ow, how⟩ : ∃ q, (tl.getD k noOp).1 = q := ⟨_, rfl⟩
  rw [how] at b2 hE
  obtain ⟨⟨⟨gk, gn⟩, gb⟩, hg⟩ : ∃ r, ownP h a k = r := ⟨_, rfl⟩
  rw [hg] at hE HOw
  dsimp only at hE HOw
  have HE := Lib.hid hE
  have hgl : g < w.heap.size := World.block_lt_of_cell? w ⟨g, a * 3 + 2, none⟩ a3
  have hgl2 : g < w.heap.size + 1 + 1 := by omega
  have hgl3 : g < ((w.alloc (.cells #[.slice p0 h.1.length c0, .slice p1 h.2.1.length c1, .slice (some ⟨g, 0, none⟩) h.2.2.length c2] 25)).alloc (.cells #[.int .i64 (a : Nat), .int .i64 (k : Nat)] 38)).heap.size := by have := HB0.out.size; omega
  have hol : go < w.heap.size := World.block_lt_of_cell? w ⟨go, k * 4, none⟩ b2
  have hol2 : go < w.heap.size + 1 + 1 := by omega
  have hol3 : go < ((w.alloc (.cells #[.slice p0 h.1.length c0, .slice p1 h.2.1.length c1, .slice (some ⟨g, 0, none⟩) h.2.2.length c2] 25)).alloc (.cells #[.int .i64 (a : Nat), .int .i64 (k : Nat)] 38)).heap.size := by have := HB0.out.size; omega
  have q3 := cell_later HB0.out a3
  have q4 := cell_later HB0.out b2
  clear hE hg how hops hcap htt hop hmm hth a1 a2 a3 b2 HX
  cases ow with
  | true =>
   go_enter Tryz.func40, Tryz.ntmps40
   go_wp2_with fail
   refine wp_region_later (by kernel_rfl) (by kernel_rfl) ?_
   repeat (go_big_quiet_step (first | (go_at_call 88; exact Later.call (HTh.out _ (HB0.out.trans ((Later.h _).mono HB0.out.size))))))
   refine wpQuiet_nil ?_
   intro _ hw'
   obtain ⟨⟨w3, hb3⟩, hw''⟩ := hw'
   have hw3 : w3 = _ := hw''.symm
   subst hw3
   try dsimp only at hb3
   go_wp2_with fail
   go_ret
   exact ⟨by rw [HE.out] <;> rfl, HB0.out.trans (hb3.mono HB0.out.size)⟩
  | false =>
   go_enter Tryz.func40, Tryz.ntmps40
   go_wp2_with fail
   refine wp_region_later (by kernel_rfl) (by kernel_rfl) ?_
   repeat (go_big_quiet_step (first | (go_at_call 88; exact Later.call (HTh.out _ (HB0.out.trans ((Later.h _).mono HB0.out.size))))))
   refine wpQuiet_nil ?_
   intro _ hw'
   obtain ⟨⟨w3, hb3⟩, hw''⟩ := hw'
   have hw3 : w3 = _ := hw''.symm
   subst hw3
   try dsimp only at hb3
   have HB3 := Lib.hid (HB0.out.trans (hb3.mono HB0.out.size))
   have k30 := HK0.out.later hb3
   have k31 := HK1.out.later hb3
   have z0 := k30.cell 0 rfl
   have z1 := k30.cell 1 rfl
   have z2 := k30.cell 2 rfl
   have s0 := k31.cell 0 rfl
   have s1 := k31.cell 1 rfl
   clear x0 x1 x2 y0 y1 q3 q4 k30 k31 HTh
   go_wp2_with fail
   refine (HOw.out _ HB3.out).mono ?_
   rintro e w4 ⟨rfl, hb4⟩
   have HB4 := Lib.hid (below_next HB3.out hb4)
   clear hb4
   go_wp2_with fail
   go_ret
   exact ⟨by rw [HE.out] <;> rfl, HB4.out.alloc HB4.out.size _⟩
set_option maxRecDepth 100000 in
set_option maxHeartbeats 4000000 in
theorem rleaves13_any {w : World} {v : Value} {h : HistM} (t key : Int) (hv : HistV w v h) (hm : Modst h) :
  Calls Tryz.prog 30 #[v, .int .i64 t, .int .i64 key] w fun e w' => e = .returned (.tuple #[.agg #[.int .i64 (rawO key (opsI h t)).1.1, .int .i64 (rawO key (opsI h t)).1.2], .bool (rawO key (opsI h t)).2]) ∧ Below w.heap.size w w' := by
 have H0 := Lib.hid hv
 obtain ⟨v0, v1, v2, rfl, ⟨p0, c0, rfl, -⟩, ⟨p1, c1, rfl, -⟩, ⟨p2, c2, rfl, k2⟩⟩ := hv
 have hal := ((Below.refl w.heap.size w).alloc (Nat.le_refl _) (.cells #[.slice p0 h.1.length c0, .slice p1 h.2.1.length c1, .slice p2 h.2.2.length c2] 25)).alloc (by simp) (.cells #[.int .i64 0, .int .i64 0] 49)
 have HMay := Lib.hid (rmay_v (H0.out.below hal) hm)
 have hbx := (Blk.new w 25 [.slice p0 h.1.length c0, .slice p1 h.2.1.length c1, .slice p2 h.2.2.length c2]).alloc (.cells #[.int .i64 0, .int .i64 0] 49)
 have hvx := Blk.new (w.alloc (.cells #[.slice p0 h.1.length c0, .slice p1 h.2.1.length c1, .slice p2 h.2.2.length c2] 25)) 49 [.int .i64 0, .int .i64 0]
 simp only [World.size_alloc] at hvx
 have HBX := Lib.hid hbx
 have HVX := Lib.hid hvx
 have HX := Lib.hid k2
 have HAL := Lib.hid hal
 have HMod := Lib.hid hm
 clear hal hm H0 hbx hvx k2
 go_enter Tryz.func30, Tryz.ntmps30
 go_wp2_with fail
 refine HMay.out.mono ?_
 rintro e w1 ⟨rfl, hb1⟩
 have HB1 := Lib.hid (below_next HAL.out hb1)
 have hx1 := HBX.out.later hb1
 have HV1 := Lib.hid (HVX.out.later hb1)
 have x2 := hx1.cell 2 rfl
 have xl := hx1.lt
 clear hb1 HMay HBX HVX HAL hx1
 have r0 := HV1.out.cell 0 rfl
 have r1 := HV1.out.cell 1 rfl
 have f0 := HV1.out.frozen 0
 have f1 := HV1.out.frozen 1
 have HNo : RowKit.Hid (opsI h t = [] → rawO key (opsI h t) = noGot) := Lib.hid (fun e => by rw [e]; rfl)
 cases hmm : mayH h with
 | false =>
  have HE := Lib.hid (HNo.out (opsI_no hmm t))
  rw [err_no hmm]
  clear hmm HNo
  go_wp2_with fail
  refine bodyPost_ret (results_ct Tryz.results30 _ _ _ _ _ rfl (load_val (store2 HV1.out _ _))) rfl ?_
  exact ⟨by rw [HE.out] <;> rfl, below_two_sets HB1.out (by omega) _ _⟩
 | true =>
  rw [err_yes hmm]
  by_cases g1 : t < 0
  ·have HE := Lib.hid (HNo.out (opsI_low t g1))
   clear hmm HNo
   go_wp2_with fail
   refine bodyPost_ret (results_ct Tryz.results30 _ _ _ _ _ rfl (load_val (store2 HV1.out _ _))) rfl ?_
   exact ⟨by rw [HE.out] <;> rfl, below_two_sets HB1.out (by omega) _ _⟩
  ·by_cases g2 : (h.2.2.length : Int) ≤ t
   ·have HE := Lib.hid (HNo.out (opsI_high t g2))
    clear hmm HNo
    go_wp2_with fail
    refine bodyPost_ret (results_ct Tryz.results30 _ _ _ _ _ rfl (load_val (store2 HV1.out _ _))) rfl ?_
    exact ⟨by rw [HE.out] <;> rfl, below_two_sets HB1.out (by omega) _ _⟩
   ·obtain ⟨a, rfl⟩ := Int.eq_ofNat_of_zero_le (show (0 : Int) ≤ t by omega)
    have ha : a < h.2.2.length := by omega
    have hop := opsI_yes hmm a ha
    obtain ⟨g, sv, rfl, a1, a2, a3, a4⟩ := HX.out a ha
    have htl : (h.2.2.getD a noTxn).2.2.length ≤ 1000 := by rw [← hop]; exact opsI_len HMod.out _
    have a1 := cell_later HB1.out a1
    have a2 := cell_later HB1.out a2
    have a3 := cell_later HB1.out a3
    have a4 := a4.below HB1.out
    obtain ⟨⟨ts, tf, tl⟩, htt⟩ : ∃ q, h.2.2.getD a noTxn = q := ⟨_, rfl⟩
    rw [htt] at a1 a2 a4 hop htl
    dsimp only at a1 a2 a4 hop htl
    have HOps := Lib.hid (fun w' (hb : Below w1.heap.size w1 w') => a4.below hb)
    obtain ⟨p3, c3, rfl, hcap, hops⟩ := a4
    obtain ⟨⟨⟨gk, gn⟩, gb⟩, hg⟩ : ∃ r, rawO key (tl.take tl.length) = r := ⟨_, rfl⟩
    have HE : RowKit.Hid (rawO key (opsI h (a : Int)) = ((gk, gn), gb)) := Lib.hid (by rw [hop, ← hg, List.take_length])
    have HG := Lib.hid hg
    have HS : RowKit.Hid (∀ w', Below w1.heap.size w1 w' → w'.cell? ⟨w.heap.size, 2, none⟩ = some (.slice (some ⟨g, 0, none⟩) h.2.2.length c2) ∧ w'.cell? ⟨g, a * 3, none⟩ = some (.int .i64 ts) ∧ w'.cell? ⟨g, a * 3 + 1, none⟩ = some (.int .i64 tf) ∧ w'.cell? ⟨g, a * 3 + 2, none⟩ = some (.slice p3 tl.length c3) ∧ Below w1.heap.size w1 w') := Lib.hid (fun w' hb => ⟨cell_later hb x2, cell_later hb a1, cell_later hb a2, cell_later hb a3, hb⟩)
    clear hg hops hcap htt hop hmm a1 a2 a3 r0 r1 f0 f1 HNo
    go_wp2_with fail
    refine wp_region_keep (fun w' => w'.cell? ⟨w.heap.size, 2, none⟩ = some (.slice (some ⟨g, 0, none⟩) h.2.2.length c2) ∧ w'.cell? ⟨g, a * 3, none⟩ = some (.int .i64 ts) ∧ w'.cell? ⟨g, a * 3 + 1, none⟩ = some (.int .i64 tf) ∧ w'.cell? ⟨g, a * 3 + 2, none⟩ = some (.slice p3 tl.length c3) ∧ Below w1.heap.size w1 w') [16] (by kernel_rfl) ?_
    have hB0 : Below (w1).heap.size (w1) (w1).drew := Below.drew (Below.refl _ _)
    have hS0 := HS.out _ hB0
    refine wfr 0 (v := ?_) rfl ?_ ?_
    rotate_left
    ·intro w' hw';go_simp;try with_reducible rfl
    try simp only [Act.put, sq]
    refine wtk 1 18 (v := ?_) rfl ?_ hS0 ?_
    rotate_left
    ·intro w' hw';(try dsimp only at hw');go_simp;try with_reducible rfl
    try simp only [Act.put, sq]
    refine wfr 2 (v := ?_) rfl ?_ ?_
    rotate_left
    ·intro w' hw';go_simp;try with_reducible rfl
    try simp only [Act.put, sq]
    refine wfr 3 (v := ?_) rfl ?_ ?_
    rotate_left
    ·intro w' hw';go_simp;try with_reducible rfl
    try simp only [Act.put, sq]
    refine wtk 4 18 (v := ?_) rfl ?_ hS0 ?_
    rotate_left
    ·intro w' hw';(try dsimp only at hw');go_simp;try with_reducible rfl
    try simp only [Act.put, sq]
    refine wfr 5 (v := ?_) rfl ?_ ?_
    rotate_left
    ·intro w' hw';go_simp;try with_reducible rfl
    try simp only [Act.put, sq]
    refine wtk 6 18 (v := ?_) rfl ?_ hS0 ?_
    rotate_left
    ·intro w' hw';(try dsimp only at hw');go_simp;try with_reducible rfl
    try simp only [Act.put, sq]
    refine wfr 7 (v := ?_) rfl ?_ ?_
    rotate_left
    ·intro w' hw';go_simp;try with_reducible rfl
    try simp only [Act.put, sq]
    refine wfr 8 (v := ?_) rfl ?_ ?_
    rotate_left
    ·intro w' hw';go_simp;try with_reducible rfl
    try simp only [Act.put, sq]
    refine wfr 9 (v := ?_) rfl ?_ ?_
    rotate_left
    ·intro w' hw';go_simp;try with_reducible rfl
    try simp only [Act.put, sq]
    refine wtk 10 18 (v := ?_) rfl ?_ hS0 ?_
    rotate_left
    ·intro w' hw';(try dsimp only at hw');go_simp;try with_reducible rfl
    try simp only [Act.put, sq]
    refine wfr 11 (v := ?_) rfl ?_ ?_
    rotate_left
    ·intro w' hw';go_simp;try with_reducible rfl
    try simp only [Act.put, sq]
    refine won 12 rfl fun K hK => ?_
    go_simp
    refine hK.out _ _ (fun _ h => h) ?_
    clear hK K
    try simp only [Act.put, sq]
    refine won 13 rfl fun K hK => ?_
    go_simp
    refine (rraw_at (ts, tf, tl) (.slice p3 tl.length c3) tl.length key _ (HOps.out _ hB0) htl).mono ?_
    rintro e w1 ⟨he, hb1⟩
    have hB1 := below_next hB0 hb1
    have hS1 := HS.out _ hB1
    rw [HG.out] at he
    dsimp only at he
    subst he
    refine hK.out _ _ (fun _ _ => hS1) ?_
    clear hK K hS0
    try simp only [Act.put, sq]
    refine wfr 14 (v := ?_) rfl ?_ ?_
    rotate_left
    ·intro w' hw';go_simp;try with_reducible rfl
    try simp only [Act.put, sq]
    refine won 15 rfl fun K hK => ?_
    go_simp
    refine hK.out _ _ (fun _ h => h) ?_
    clear hK K
    try simp only [Act.put, sq]
    have hvk := HV1.out.later hB1
    have r0 := hvk.cell 0 rfl
    have r1 := hvk.cell 1 rfl
    have f0 := hvk.frozen 0
    have f1 := hvk.frozen 1
    have HVk := Lib.hid hvk
    clear hvk
    refine won 16 rfl fun K hK => ?_
    go_simp
    refine hK.out _ _ (fun h => absurd h (by decide)) ?_
    clear hK K
    try simp only [Act.put, sq]
    refine won 17 rfl fun K hK => ?_
    go_simp
    refine hK.out _ _ (fun _ h => h) ?_
    clear hK K
    try simp only [Act.put, sq]
    refine wpAnyM_done (by kernel_rfl) ?_ _
    try simp only [Act.put, sq]
    go_wp2_with fail
    refine bodyPost_ret (results_ct Tryz.results30 _ _ _ _ _ rfl (load_val (store2 HVk.out _ _))) rfl ?_
    exact ⟨by rw [HE.out] <;> rfl, below_two_sets (below_next HB1.out hB1) (by omega) _ _⟩
end Go.Proofs.YtmgchjddpmmglaaGreatDoor
