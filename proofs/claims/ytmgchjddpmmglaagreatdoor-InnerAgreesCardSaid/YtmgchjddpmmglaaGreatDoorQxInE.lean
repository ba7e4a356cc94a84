/-
  Layer 13 (inner), the program: who writes a key. No conditions but that unicode/utf8's two tables are as their initialisers lay them.
-/
import Derived.Test.YtmgchjddpmmglaaGreatDoorQxHistVa
import Derived.Test.YtmgchjddpmmglaaGreatDoorQxInP
namespace Go.Proofs.YtmgchjddpmmglaaGreatDoor
open Go.RowKit Go.Lib
set_option maxRecDepth 100000 in
set_option maxHeartbeats 1000000 in
theorem wrs11_any (o : OpM) (key : Int) (B : Nat) (w : World) (hs : w.cell? ⟨B, 0, none⟩ = some (.int .i64 key)) :
  Calls Tryz.prog 87 #[.agg #[.bool o.1, .int .i64 o.2.1, .int .i64 o.2.2.1, .int .i64 o.2.2.2], .pointer (some ⟨B, 0, none⟩)] w fun e w' => e = .returned (.bool (wrO key o)) ∧ Below w.heap.size w w' := by
 have hB : B < w.heap.size := World.block_lt_of_cell? w ⟨B, 0, none⟩ hs
 obtain ⟨ow, ok, ov⟩ := o
 cases ow with
 | false =>
  have hE : wrO key (false, ok, ov) = false := rfl
  rw [hE]
  clear hE
  go_enter Tryz.func87, Tryz.ntmps87
  go_wp2
  go_ret
  exact ⟨rfl, by go_grown⟩
 | true =>
  have hE : wrO key (true, ok, ov) = (ok == key) := by unfold wrO; simp
  rw [hE]
  clear hE
  go_enter Tryz.func87, Tryz.ntmps87
  go_wp2
  go_ret
  exact ⟨by first | rfl | simp, by go_grown⟩
set_option maxRecDepth 100000 in
set_option maxHeartbeats 2000000 in
theorem ixops_any (v : Value) (L : List OpM) (key : Int) (B : Nat) (w : World) (hs : w.cell? ⟨B, 0, none⟩ = some (.int .i64 key)) (hv : OpsS w v L) (hL : L.length ≤ 1000) :
  Calls Tryz.prog 140 #[v, .func (.func 87) #[] #[.pointer (some ⟨B, 0, none⟩)]] w fun e w' => ∃ i : Int, e = .returned (.int .i64 i) ∧ decide (0 ≤ i) = L.any (wrO key) ∧ Below w.heap.size w w' := by
 obtain ⟨p, c, rfl, -, hp⟩ := hv
 have HX := Lib.hid hp
 have H3 := Lib.hid hs
 have en := enters_of Tryz.func87 (by kernel_rfl) rfl
 have HYes : RowKit.Hid (∀ k : Nat, k < L.length → wrO key (L.getD k noOp) = true → decide ((0 : Int) ≤ (k : Int)) = L.any (wrO key)) := Lib.hid (fun k hk hf => by
  have : L.any (wrO key) = true := by
   rw [List.any_eq_true]
   refine ⟨L.getD k noOp, ?_, hf⟩
   have : L.getD k noOp = L[k] := by simp [hk]
   rw [this]
   exact List.getElem_mem hk
  rw [this]
  simp)
 have HNo : RowKit.Hid ((∀ k : Nat, k < L.length → wrO key (L.getD k noOp) = false) → decide ((0 : Int) ≤ -1) = L.any (wrO key)) := Lib.hid (fun h => by
  have : L.any (wrO key) = false := by
   rw [List.any_eq_false]
   intro x hx
   obtain ⟨k, hk, e⟩ := List.getElem_of_mem hx
   have := h k hk
   simpa [hk, e] using this
  rw [this]
  rfl)
 generalize L.any (wrO key) = R at *
 clear hp hs
 go_enter Tryz.func140, Tryz.ntmps140
 go_wp2_with fail
 go_loopw [8] (fun i wr => ∃ k : Nat, k ≤ L.length ∧ i = .int .i64 k ∧ (∀ j, j < k → wrO key (L.getD j noOp) = false) ∧ Below w.heap.size w wr) (fun i _ => L.length - (RowKit.intOf i).toNat)
 case atStart => exact ⟨0, Nat.zero_le _, rfl, fun j hj => absurd hj (Nat.not_lt_zero j), Below.refl _ _⟩
 case round =>
  obtain ⟨k, hk, rfl, hn, hbw⟩ := hrel
  have HN := Lib.hid hn
  clear hn
  by_cases hk1 : k < L.length
  ·obtain ⟨g, rfl, a1, a2, a3, a4⟩ := HX.out k hk1
   have a1' := cell_later hbw a1
   have a2' := cell_later hbw a2
   have a3' := cell_later hbw a3
   have a4' := cell_later hbw a4
   have HM := Lib.hid (wrs11_any (L.getD k noOp) key B wr (cell_later hbw H3.out))
   have HY := Lib.hid (HYes.out k hk1)
   have HK : RowKit.Hid (wrO key (L.getD k noOp) = false → ∀ j, j < k + 1 → wrO key (L.getD j noOp) = false) := Lib.hid (fun h j hj => by
    by_cases hjk : j < k
    ·exact HN.out j hjk
    ·obtain rfl : j = k := by omega
     exact h)
   obtain ⟨b, hb⟩ : ∃ b, wrO key (L.getD k noOp) = b := ⟨_, rfl⟩
   rw [hb] at HM HY HK
   obtain ⟨t, ht⟩ : ∃ t, L.getD k noOp = t := ⟨_, rfl⟩
   rw [ht] at HM a1' a2' a3' a4'
   obtain ⟨t1, t2, t3, t4⟩ := t
   simp only at HM a1' a2' a3' a4'
   clear a1 a2 a3 a4 hb ht
   cases b with
   | true =>
    go_wp2_with (first | (go_at_call 87; refine HM.out.mono ?_; rintro e w1 ⟨rfl, hb1⟩))
    go_ret
    exact ⟨_, rfl, HY.out trivial, below_next hbw hb1⟩
   | false =>
    go_wp2_with (first | (go_at_call 87; refine HM.out.mono ?_; rintro e w1 ⟨rfl, hb1⟩))
    go_roundw
    case rel => exact ⟨k + 1, by omega, by go_num, HK.out trivial, below_next hbw hb1⟩
    case measure => simp [RowKit.intOf]; omega
  ·have hke : k = L.length := by omega
   subst hke
   have H1 := Lib.hid (HNo.out HN.out)
   go_wp2_with fail
   go_ret
   exact ⟨_, rfl, H1.out, hbw⟩
set_option maxRecDepth 100000 in
set_option maxHeartbeats 1000000 in
theorem cfops_any (v : Value) (L : List OpM) (key : Int) (B : Nat) (w : World) (hs : w.cell? ⟨B, 0, none⟩ = some (.int .i64 key)) (hv : OpsS w v L) (hL : L.length ≤ 1000) :
  Calls Tryz.prog 86 #[v, .func (.func 87) #[] #[.pointer (some ⟨B, 0, none⟩)]] w fun e w' => e = .returned (.bool (L.any (wrO key))) ∧ Below w.heap.size w w' := by
 have H1 := Lib.hid (ixops_any v L key B w hs hv hL)
 generalize L.any (wrO key) = R at *
 clear hs hv hL
 go_enter Tryz.func86, Tryz.ntmps86
 go_wp2_with fail
 refine H1.out.mono ?_
 rintro e w1 ⟨i, rfl, hi, hb1⟩
 have HI := Lib.hid hi
 clear hi
 go_wp2_with fail
 go_ret
 refine ⟨?_, hb1⟩
 rw [← HI.out]
 rfl
set_option maxRecDepth 100000 in
set_option maxHeartbeats 2000000 in
theorem wr1_any (t : TxnM) (sv : Value) (key : Int) (B : Nat) (w : World) (hs : w.cell? ⟨B, 0, none⟩ = some (.int .i64 key)) (hv : OpsS w sv t.2.2) (hL : t.2.2.length ≤ 1000) :
  Calls Tryz.prog 85 #[.agg #[.int .i64 t.1, .int .i64 t.2.1, sv], .pointer (some ⟨B, 0, none⟩)] w fun e w' => e = .returned (.bool (writesP key t)) ∧ Below w.heap.size w w' := by
 have hal := (Below.refl w.heap.size w).alloc (Nat.le_refl _) (.cells #[.int .i64 t.1, .int .i64 t.2.1, sv] 47)
 have HC := Lib.hid (cfops_any sv t.2.2 key B _ (cell_later hal hs) (hv.below hal) hL)
 have HA := Lib.hid hal
 obtain ⟨p, c, rfl, -⟩ := hv
 obtain ⟨ts, tf, tl⟩ := t
 dsimp only at HC HA ⊢
 clear hs hal hL
 by_cases hf : tf = 2
 ·subst hf
  have hE : writesP key (ts, 2, tl) = false := rfl
  rw [hE]
  clear hE HC
  go_enter Tryz.func85, Tryz.ntmps85
  go_wp2_with fail
  go_ret
  exact ⟨rfl, HA.out⟩
 ·have hf2 : (tf == 2) = false := beq_eq_false_iff_ne.2 hf
  have hE : writesP key (ts, tf, tl) = tl.any (wrO key) := by unfold writesP; simp [bne, hf2]
  rw [hE]
  obtain ⟨R, hR⟩ : ∃ R, tl.any (wrO key) = R := ⟨_, rfl⟩
  rw [hR] at HC ⊢
  clear hE hR
  go_enter Tryz.func85, Tryz.ntmps85
  go_wp2_with fail
  refine HC.out.mono ?_
  rintro e w1 ⟨rfl, hb1⟩
  go_wp2_with fail
  go_ret
  have hn2 : (tf != 2) = true := by simp [bne, hf2]
  exact ⟨by simp [hn2], below_next HA.out hb1⟩
def writersL (h : HistM) (key : Int) : List Int := whereL (writesP key) h
set_option maxRecDepth 100000 in
set_option maxHeartbeats 4000000 in
theorem writers13_any {w : World} {v : Value} {h : HistM} (key : Int) (hv : HistV w v h) (hm : Modst h) (hT : Lib.Utf8Tabs 1 2 w) :
  Calls Tryz.prog 34 #[v, .int .i64 key] w fun e w' => ∃ v', e = .returned v' ∧ IntsS w' v' (writersL h key) ∧ Below w.heap.size w w' := by
 have H0 := Lib.hid hv
 obtain ⟨v0, v1, v2, rfl, ⟨p0, c0, rfl, -⟩, ⟨p1, c1, rfl, -⟩, ⟨p2, c2, rfl, k2⟩⟩ := hv
 have hal := ((Below.refl w.heap.size w).alloc (Nat.le_refl _) (.cells #[.slice p0 h.1.length c0, .slice p1 h.2.1.length c1, .slice p2 h.2.2.length c2] 25)).alloc (by simp) (.cells #[.int .i64 key] 3)
 have HMay := Lib.hid (hmay_v (H0.out.below hal) hm (Utf8Tabs_below hT hal))
 have hbx := (Blk.new w 25 [.slice p0 h.1.length c0, .slice p1 h.2.1.length c1, .slice p2 h.2.2.length c2]).alloc (.cells #[.int .i64 key] 3)
 have hkx := Blk.new (w.alloc (.cells #[.slice p0 h.1.length c0, .slice p1 h.2.1.length c1, .slice p2 h.2.2.length c2] 25)) 3 [.int .i64 key]
 simp only [World.size_alloc] at hkx
 have HBx := Lib.hid hbx
 have HKx := Lib.hid hkx
 have HX := Lib.hid k2
 have HAL := Lib.hid hal
 have HMod := Lib.hid hm
 have m3 : h.2.2.length ≤ 1000 := hm.2.2.1
 obtain ⟨i0, hi, hz0, hz1, hz2⟩ := info_parts info_i64
 have en := enters_of Tryz.func85 (by kernel_rfl) rfl
 clear hT hal hm H0 k2 hbx hkx
 go_enter Tryz.func34, Tryz.ntmps34
 go_wp2_with fail
 refine HMay.out.mono ?_
 rintro e w1 ⟨rfl, hb1⟩
 clear HMay
 have HB1 := Lib.hid (below_next HAL.out hb1)
 have hx1 := HBx.out.later hb1
 have o2 := hx1.cell 2 rfl
 have olt := hx1.lt
 have HK1 := Lib.hid (HKx.out.later hb1)
 clear hb1 HAL HBx HKx hx1
 cases hmm : mayH h with
 | false =>
  have HE : RowKit.Hid (writersL h key = []) := Lib.hid (whereL_no _ hmm)
  rw [err_no hmm]
  clear hmm
  go_wp2_with fail
  go_ret
  exact ⟨_, rfl, by rw [HE.out]; exact ints_none _, HB1.out⟩
 | true =>
  have HE : RowKit.Hid (writersL h key = idxs (writesP key) h.2.2 h.2.2.length) := Lib.hid (whereL_yes _ hmm)
  rw [err_yes hmm]
  clear hmm
  go_wp2_with fail
  go_loopw [6, 16] (fun l i wr => ∃ k : Nat, k ≤ h.2.2.length ∧ i = .int .i64 k ∧ wr.ownsRow w1.heap.size 3 1 l (idxs (writesP key) h.2.2 k).length (vints (idxs (writesP key) h.2.2 k)) ∧ Below w1.heap.size w1 wr) (fun _ i _ => h.2.2.length - (RowKit.intOf i).toNat)
  case atStart => exact ⟨0, Nat.zero_le _, rfl, World.ownsRow_nil _ _ _ _, Below.refl _ _⟩
  case round =>
   obtain ⟨k, hk, rfl, hown, hbw⟩ := hrel
   by_cases hk1 : k < h.2.2.length
   ·obtain ⟨g, sv, rfl, a1, a2, a3, a4⟩ := HX.out k hk1
    have hb0 := HB1.out.trans (hbw.mono HB1.out.size)
    have a1' := cell_later hb0 a1
    have a2' := cell_later hb0 a2
    have a3' := cell_later hb0 a3
    have a4' := a4.below hb0
    have hnx := idxs_next (writesP key) h.2.2 k
    have hil := idxs_len (writesP key) h.2.2 k
    have htl : (h.2.2.getD k noTxn).2.2.length ≤ 1000 := HMod.out.2.2.2.2.2 _ (by rw [show h.2.2.getD k noTxn = h.2.2[k] by simp [hk1]]; exact List.getElem_mem hk1)
    obtain ⟨I, hI⟩ : ∃ I, idxs (writesP key) h.2.2 k = I := ⟨_, rfl⟩
    rw [hI] at hown hnx hil
    obtain ⟨t, ht⟩ : ∃ t, h.2.2.getD k noTxn = t := ⟨_, rfl⟩
    rw [ht] at a1' a2' a4' hnx htl
    have hal := (Below.refl wr.heap.size wr).alloc (Nat.le_refl _) (.cells #[.int .i64 t.1, .int .i64 t.2.1, sv] 47)
    have hbx := hbw.alloc hbw.size (.cells #[.int .i64 t.1, .int .i64 t.2.1, sv] 47)
    have HC := Lib.hid (wr1_any t sv key (w.heap.size + 1) (wr.alloc (.cells #[.int .i64 t.1, .int .i64 t.2.1, sv] 47)) (cell_later hal (cell_later hbw (HK1.out.cell 0 rfl))) (a4'.below hal) htl)
    obtain ⟨p3, c3, rfl, -⟩ := a4'
    obtain ⟨t1, t2, t3⟩ := t
    dsimp only at a1' a2' a3' hnx HC hbx
    have HBX := Lib.hid hbx
    obtain ⟨b, hb⟩ : ∃ b, writesP key (t1, t2, t3) = b := ⟨_, rfl⟩
    rw [hb] at hnx HC
    have HN : RowKit.Hid ((b = true → idxs (writesP key) h.2.2 (k + 1) = I ++ [(k : Int)]) ∧ (b = false → idxs (writesP key) h.2.2 (k + 1) = I)) := Lib.hid ⟨fun e => by rw [hnx, if_pos e], fun e => by rw [hnx, if_neg (by rw [e]; exact Bool.false_ne_true)]⟩
    clear a1 a2 a3 a4 ht hI hb hnx hbx hal htl hb0 hbw
    cases b with
    | false =>
     go_wp2_with fail
     refine HC.out.mono ?_
     rintro e w3 ⟨rfl, hb3⟩
     have hown3 := owns_later (hown.alloc _) hb3
     have hbw3 := below_next HBX.out hb3
     clear hb3 hown
     go_wp2_with fail
     go_roundw
     case rel => exact ⟨k + 1, by omega, by go_num, by rw [HN.out.2 (by trivial)]; exact hown3, hbw3⟩
     case measure => simp [RowKit.intOf]; omega
    | true =>
     go_wp2_with fail
     refine HC.out.mono ?_
     rintro e w3 ⟨rfl, hb3⟩
     have hown3 := owns_later (hown.alloc _) hb3
     have hbw3 := below_next HBX.out hb3
     clear hb3 hown
     go_wp2_with (at_builtin; refine wpList_append_own _ rfl _ _ 56 rfl w1.heap.size 3 i0 (.int .i64 0) 1 8 Tryz.underlying56 hi hz0 hz1 hz2 rfl (by decide) _ _ _ rfl (hown3.alloc _) ⟨w3.heap.size, 0, none⟩ 1 1 [.int .i64 (k : Nat)] rfl rfl (news_int _ _ _) (ones_int _) (by unfold maxLen; omega) (by omega) (by have := hbw3.size; simp; omega) ?_)
     intro v4 w4 hown4 hgrow hnil
     have hb4 : Below w1.heap.size w1 w4 := (hbw3.alloc hbw3.size _).grown hgrow (by have := hbw3.size; simp; omega) (fun k hk => (hown3.lt k hk).1)
     have HO : RowKit.Hid (w4.ownsRow w1.heap.size 3 1 v4 (idxs (writesP key) h.2.2 (k + 1)).length (vints (idxs (writesP key) h.2.2 (k + 1)))) := Lib.hid (by rw [HN.out.1 (by trivial), ← vints_snoc, List.length_append]; exact hown4)
     clear hown4 hgrow hnil hown3 hbw3
     go_wp2_with fail
     go_roundw
     case rel => exact ⟨k + 1, by omega, by go_num, HO.out, hb4⟩
     case measure => simp [RowKit.intOf]; omega
   ·have hke : k = h.2.2.length := by omega
    subst hke
    have HO := Lib.hid (own_intsI hown)
    clear hown
    go_wp2_with fail
    go_ret
    exact ⟨_, rfl, by rw [HE.out]; exact HO.out, HB1.out.trans (hbw.mono HB1.out.size)⟩
end Go.Proofs.YtmgchjddpmmglaaGreatDoor
