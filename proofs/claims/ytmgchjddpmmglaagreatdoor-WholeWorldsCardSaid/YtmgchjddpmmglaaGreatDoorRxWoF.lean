/-
  Layer 16 (world): who committed in a world, the program's answer and the document's, walked. No conditions but that unicode/utf8's two tables are as their initialisers lay them (the program's).
-/
import Derived.Test.YtmgchjddpmmglaaGreatDoorRxWoB
import Derived.Test.YtmgchjddpmmglaaGreatDoorRxWoE
namespace Go.Proofs.YtmgchjddpmmglaaGreatDoor
open Go.RowKit Go.Lib
set_option maxRecDepth 100000 in
set_option maxHeartbeats 4000000 in
theorem commits16_any {w : World} {v : Value} {h : HistM} {pb : Option Addr} {cb : Nat} (c : List Bool) (hv : HistV w v h) (hm : Modst h) (hb : HasBools w pb c) (hcb : c.length ≤ cb ∧ cb ≤ maxLen) (hc : c.length = (h.2.2.filter infosP).length) :
  Calls Tryz.prog 110 #[v, .slice pb c.length cb] w fun e w' => ∃ v', e = .returned v' ∧ w'.ownsRow w.heap.size 4 1 v' h.2.2.length (bools (commitsG h.2.2 c)) ∧ Below w.heap.size w w' := by
 obtain ⟨v0, v1, v2, rfl, ⟨p0, c0, rfl, -⟩, ⟨p1, c1, rfl, -⟩, ⟨p2, c2, rfl, k2⟩⟩ := hv
 have HX := Lib.hid k2
 have HC := Lib.hid hb
 have HLe := Lib.hid hc
 obtain ⟨hcb1, hcb2⟩ := hcb
 unfold maxLen at hcb2
 have m3 : h.2.2.length ≤ 1000 := hm.2.2.1
 obtain ⟨i0, hi, hz0, hz1, hz2⟩ := info_parts info_truth
 have mk1 : ∀ W : World, (Instr.makeSlice 61 (.int .i64 (h.2.2.length : Int)) (.int .i64 (h.2.2.length : Int))).run Tryz.prog W = .ok (.slice (some ⟨W.heap.size, 0, none⟩) h.2.2.length h.2.2.length) (W.alloc (.cells (madeCells (Value.cells (.bool false)) (h.2.2.length * 1)) 4)) := fun W => by
  have hr := run_make (P := Tryz.prog) W 61 4 i0 (.bool false) Tryz.underlying61 hi hz0 .i64 .i64 h.2.2.length h.2.2.length (by omega) (Int.le_refl _) (by rw [hz2]; omega) (by omega)
  rw [hz1] at hr
  simpa only [Int.toNat_natCast] using hr
 have HAL := Lib.hid ((Below.refl w.heap.size w).alloc (Nat.le_refl _) (.cells #[.slice p0 h.1.length c0, .slice p1 h.2.1.length c1, .slice p2 h.2.2.length c2] 25))
 have HBX := Lib.hid (Blk.new w 25 [.slice p0 h.1.length c0, .slice p1 h.2.1.length c1, .slice p2 h.2.2.length c2])
 have x2 := HBX.out.cell 2 rfl
 clear k2 hb hm hc hi hz0 hz1 hz2
 go_enter Tryz.func110, Tryz.ntmps110
 go_upto_region 1 with fail
 obtain ⟨W1, hW1⟩ : ∃ q, w.alloc (.cells #[.slice p0 h.1.length c0, .slice p1 h.2.1.length c1, .slice p2 h.2.2.length c2] 25) = q := ⟨_, rfl⟩
 rw [hW1] at HAL HBX x2 ⊢
 clear hW1
 have hr0 : (W1.alloc (.cells (madeCells #[.bool false] h.2.2.length) 4)).ownsRow W1.heap.size 4 1 (.slice (some ⟨W1.heap.size, 0, none⟩) h.2.2.length h.2.2.length) h.2.2.length (bools (comK h.2.2 c 0)) := by
  have h1 := World.ownsRow_lit (base := W1.heap.size) (e := 4) (size := 1) W1 (madeCells (Value.cells (.bool false)) (h.2.2.length * 1)) h.2.2.length (Nat.le_refl _) (by unfold maxLen; omega) (by rw [size_madeCells])
  rw [made_bools, Nat.mul_one] at h1
  rw [comK_zero]
  exact h1
 have HR0 := Lib.hid hr0
 have HA0 := Lib.hid ((Below.refl W1.heap.size W1).alloc (Nat.le_refl _) (.cells (madeCells #[.bool false] h.2.2.length) 4))
 have x3 := (HBX.out.later HA0.out).cell 2 rfl
 have HFin := Lib.hid (fun w' (hb : Below W1.heap.size W1 w') => below_next HAL.out hb)
 have hw1 : w.heap.size < W1.heap.size := HBX.out.lt
 clear hr0
 go_wp2_with fail
 clear x2 x3 mk1
 go_loopw [1, 15] (fun f i wr => ∃ k : Nat, k ≤ h.2.2.length ∧ i = .int .i64 k ∧ (∃ q, f = .slice q (c.length - nI h.2.2 k) (cb - nI h.2.2 k) ∧ (nI h.2.2 k < c.length → ∃ g, pb = some ⟨g, 0, none⟩ ∧ q = some ⟨g, nI h.2.2 k, none⟩)) ∧ wr.ownsRow W1.heap.size 4 1 (.slice (some ⟨W1.heap.size, 0, none⟩) h.2.2.length h.2.2.length) h.2.2.length (bools (comK h.2.2 c k)) ∧ Below W1.heap.size W1 wr) (fun _ i _ => h.2.2.length - (RowKit.intOf i).toNat)
 case atStart => exact ⟨0, Nat.zero_le _, rfl, ⟨_, rfl, fun hh => by obtain ⟨g, e, -⟩ := HC.out 0 hh; exact ⟨g, e, e⟩⟩, HR0.out, HA0.out⟩
 case round =>
  obtain ⟨k, hk, rfl, hf, hrow, hbw⟩ := hrel
  by_cases hk1 : k < h.2.2.length
  ·have hb0 := HFin.out _ hbw
   obtain ⟨g, sv, rfl, a1, a2, a3, a4⟩ := HX.out k hk1
   have a1 := cell_later hb0 a1
   have a2 := cell_later hb0 a2
   have a3 := cell_later hb0 a3
   have hnx := nI_next h.2.2 k hk1
   have hlt := nI_lt h.2.2 k hk1
   have hcn := comK_next h.2.2 c k hk1
   have hcs := comK_same h.2.2 c k hk1
   have hct : comT h.2.2 c k = if (h.2.2.getD k noTxn).2.1 = 1 then true else if (h.2.2.getD k noTxn).2.1 = 3 then c.getD (nI h.2.2 k) false else false := rfl
   obtain ⟨⟨ts, tf, tl⟩, htt⟩ : ∃ q, h.2.2.getD k noTxn = q := ⟨_, rfl⟩
   rw [htt] at a1 a2 a4 hnx hlt hct
   dsimp only at a1 a2 a4 hct
   obtain ⟨p3, c3, rfl, -, -⟩ := a4
   have hip : infosP (ts, tf, tl) = (tf == 3) := by unfold infosP; rfl
   rw [hip] at hnx hlt
   have hkl : k < (comK h.2.2 c k).length := by rw [comK_len _ _ _ hk]; exact hk1
   have r0 : wr.cell? ⟨W1.heap.size, k, none⟩ = some (.bool ((comK h.2.2 c k).getD k false)) := by rw [hrow.cellAt k (by omega)]; exact bools_at _ _ hkl
   have r1 := hrow.frozenAt k
   have hlw : W1.heap.size < wr.heap.size := (hrow.lt W1.heap.size rfl).2
   have HRw := Lib.hid (hrow.alloc (.cells #[.int .i64 ts, .int .i64 tf, .slice p3 tl.length c3] 47))
   have HBw := Lib.hid (hbw.alloc hbw.size (.cells #[.int .i64 ts, .int .i64 tf, .slice p3 tl.length c3] 47))
   have HBr := Lib.hid hbw
   have HRr := Lib.hid hrow
   have HNx := Lib.hid hnx
   have HLt := Lib.hid hlt
   have HCn := Lib.hid hcn
   have HCs := Lib.hid hcs
   have HCt := Lib.hid hct
   have HF := Lib.hid hf
   clear hrow hbw hnx hlt hcn hcs hct htt hip hb0 hkl hf
   by_cases h1 : tf = 1
   ·subst h1
    have HE : RowKit.Hid (bools (comK h.2.2 c (k + 1)) = (bools (comK h.2.2 c k)).set k (.bool true)) := Lib.hid (by rw [HCn.out, HCt.out, bools_set]; rfl)
    have HN2 : RowKit.Hid (nI h.2.2 (k + 1) = nI h.2.2 k) := Lib.hid HNx.out
    clear HCn HCs HCt HNx HLt
    go_wp2_with fail
    go_roundw
    case rel => exact ⟨k + 1, by omega, by go_num, by rw [HN2.out]; exact HF.out, by rw [HE.out]; exact ((HRr.out.stored k (.bool true)).1).alloc _, (HBr.out.setCell (p := ⟨W1.heap.size, k, none⟩) (Nat.le_refl _) _).alloc (by have := HBr.out.size; simpa using this) _⟩
    case measure => simp [RowKit.intOf]; omega
   ·have h1b : (tf == 1) = false := by simpa using h1
    by_cases h3 : tf = 3
    ·subst h3
     have hn : nI h.2.2 k < c.length := by rw [HLe.out]; exact HLt.out rfl
     obtain ⟨q, hfe, hq⟩ := HF.out
     obtain ⟨gc, rfl, rfl⟩ := hq hn
     obtain ⟨gc', e', hcc⟩ := HC.out _ hn
     cases e'
     have hcc := cell_later (HFin.out _ HBr.out) hcc
     have hgcl := World.block_lt_of_cell? wr ⟨gc, nI h.2.2 k, none⟩ hcc
     dsimp only at hgcl
     obtain ⟨b, hb⟩ : ∃ b, c.getD (nI h.2.2 k) false = b := ⟨_, rfl⟩
     rw [hb] at hcc HCt
     have HE : RowKit.Hid (bools (comK h.2.2 c (k + 1)) = (bools (comK h.2.2 c k)).set k (.bool b)) := Lib.hid (by rw [HCn.out, HCt.out, bools_set]; rfl)
     have HN2 : RowKit.Hid (nI h.2.2 (k + 1) = nI h.2.2 k + 1) := Lib.hid HNx.out
     obtain ⟨n, hn2⟩ : ∃ n, nI h.2.2 k = n := ⟨_, rfl⟩
     rw [hn2] at hcc HN2 hn hfe
     subst hfe
     obtain ⟨md, hmd⟩ : ∃ md, c.length = n + md + 1 := ⟨c.length - n - 1, by omega⟩
     obtain ⟨dd, hdd⟩ : ∃ dd, cb = n + dd + 1 := ⟨cb - n - 1, by omega⟩
     rw [show c.length - n = md + 1 by omega, show cb - n = dd + 1 by omega]
     have HMd := Lib.hid (show c.length - (n + 1) = md by omega)
     have HDd := Lib.hid (show cb - (n + 1) = dd by omega)
     have hmd2 : md ≤ dd := by omega
     have hdd2 : dd ≤ 9223372036854775807 := by omega
     clear HCn HCs HCt HNx HLt HF hb hn2 hn hmd hdd hq
     go_wp2_with fail
     go_roundw
     case rel => exact ⟨k + 1, by omega, by go_num, ⟨_, by rw [HN2.out, HMd.out, HDd.out], fun hh => ⟨gc, rfl, by
      rw [HN2.out] at hh ⊢
      have hz : ¬ dd = 0 := by have := HMd.out; omega
      first | rfl | (rw [if_neg hz]; first | rfl | simp) | simp [hz]⟩⟩, by rw [HE.out]; exact ((HRr.out.stored k (.bool b)).1).alloc _, (HBr.out.setCell (p := ⟨W1.heap.size, k, none⟩) (Nat.le_refl _) _).alloc (by have := HBr.out.size; simpa using this) _⟩
     case measure => simp [RowKit.intOf]; omega
    ·have h3b : (tf == 3) = false := by simpa using h3
     have HE : RowKit.Hid (comK h.2.2 c (k + 1) = comK h.2.2 c k) := Lib.hid (HCs.out (by rw [HCt.out, if_neg h1, if_neg h3]))
     have HN2 : RowKit.Hid (nI h.2.2 (k + 1) = nI h.2.2 k) := Lib.hid (by rw [HNx.out, if_neg (by rw [h3b]; exact Bool.false_ne_true)])
     clear HCn HCs HCt HNx HLt
     go_wp2_with fail
     go_roundw
     case rel => exact ⟨k + 1, by omega, by go_num, by rw [HN2.out]; exact HF.out, by rw [HE.out]; exact HRw.out, HBw.out⟩
     case measure => simp [RowKit.intOf]; omega
  ·have hke : k = h.2.2.length := by omega
   subst hke
   rw [comK_all] at hrow
   have HRw := Lib.hid hrow
   clear hrow hf
   go_wp2_with fail
   go_ret
   exact ⟨_, rfl, owns_base HRw.out (by omega), HFin.out _ hbw⟩
set_option maxRecDepth 100000 in
set_option maxHeartbeats 4000000 in
theorem Commits16_any {w : World} {v u : Value} {h : HistM} {m : WorldM} (hv : HistV w v h) (hu : WorldV w u m) (hm : Modst h) (h50 : m.1.length ≤ 1000000 ∧ m.2.length ≤ 1000000) (hw : mayW h m = true) (hT : Lib.Utf8Tabs 1 2 w) :
  Calls Tryz.prog 63 #[v, u] w fun e w' => ∃ v', e = .returned v' ∧ w'.ownsRow w.heap.size 4 1 v' h.2.2.length (bools (commitsG h.2.2 m.1)) ∧ Below w.heap.size w w' := by
 have H0 := Lib.hid hv
 have U0 := Lib.hid hu
 obtain ⟨v0, v1, v2, rfl, ⟨p0, c0, rfl, -⟩, ⟨p1, c1, rfl, -⟩, ⟨p2, c2, rfl, -⟩⟩ := hv
 obtain ⟨pb, cb, pv, cv, rfl, hb, -, hcb, -⟩ := worldV_form hu
 have hal := ((Below.refl w.heap.size w).alloc (Nat.le_refl _) (.cells #[.slice p0 h.1.length c0, .slice p1 h.2.1.length c1, .slice p2 h.2.2.length c2] 25)).alloc (by simp) (.cells #[.slice pb m.1.length cb, .slice pv m.2.length cv] 64)
 have hbx := (Blk.new w 25 [.slice p0 h.1.length c0, .slice p1 h.2.1.length c1, .slice p2 h.2.2.length c2]).alloc (.cells #[.slice pb m.1.length cb, .slice pv m.2.length cv] 64)
 have hbw := Blk.new (w.alloc (.cells #[.slice p0 h.1.length c0, .slice p1 h.2.1.length c1, .slice p2 h.2.2.length c2] 25)) 64 [.slice pb m.1.length cb, .slice pv m.2.length cv]
 simp only [World.size_alloc] at hbw
 have HMy := Lib.hid (mayw16_any (H0.out.below hal) (U0.out.below hal) hm h50 (Utf8Tabs_below hT hal))
 rw [hw] at HMy
 have HCo := Lib.hid (fun w' (hb' : Below w.heap.size w w') => commits16_any m.1 (H0.out.below hb') hm (hb.below hb') hcb ((mayW_iff h m).1 hw).c)
 have HAL := Lib.hid hal
 have HBX := Lib.hid hbx
 have HBW := Lib.hid hbw
 clear hT hm h50 hw hal hbx hbw hb hcb hu
 go_enter Tryz.func63, Tryz.ntmps63
 go_wp2_with fail
 refine HMy.out.mono ?_
 rintro e w1 ⟨rfl, hb1⟩
 have HB1 := Lib.hid (below_next HAL.out hb1)
 have HX1 := Lib.hid (HBX.out.later hb1)
 have HW1 := Lib.hid (HBW.out.later hb1)
 have x0 := HX1.out.cell 0 rfl
 have x1 := HX1.out.cell 1 rfl
 have x2 := HX1.out.cell 2 rfl
 have y0 := HW1.out.cell 0 rfl
 have hsz : w.heap.size ≤ w1.heap.size := HB1.out.size
 clear hb1 HMy HAL HBX HBW
 go_wp2_with fail
 refine (HCo.out _ HB1.out).mono ?_
 rintro e w2 ⟨v2, rfl, hr2, hb2⟩
 have HR2 := Lib.hid (owns_base hr2 hsz)
 have HB2 := Lib.hid (below_next HB1.out hb2)
 clear hr2 hb2
 obtain ⟨p9, c9, rfl⟩ := owns_form HR2.out
 go_wp2_with fail
 go_ret
 exact ⟨_, rfl, HR2.out, HB2.out⟩
set_option maxRecDepth 100000 in
set_option maxHeartbeats 4000000 in
theorem rcommits16_any {w : World} {v u : Value} {h : HistM} {m : WorldM} (hv : HistV w v h) (hu : WorldV w u m) (hm : Modst h) (h50 : m.1.length ≤ 1000000 ∧ m.2.length ≤ 1000000) (hc : m.1.length = (h.2.2.filter infosP).length) :
  Calls Tryz.prog 66 #[v, u] w fun e w' => ∃ v', e = .returned v' ∧ w'.ownsRow w.heap.size 4 1 v' h.2.2.length (bools (commitsG h.2.2 m.1)) ∧ Below w.heap.size w w' := by
 obtain ⟨v0, v1, v2, rfl, ⟨p0, c0, rfl, -⟩, ⟨p1, c1, rfl, -⟩, ⟨p2, c2, rfl, k2⟩⟩ := hv
 obtain ⟨pb, cb, pv, cv, rfl, hb, -, hcb, -⟩ := worldV_form hu
 have HX := Lib.hid k2
 have HC := Lib.hid hb
 have HLe := Lib.hid hc
 have h51 := h50.1
 have m3 : h.2.2.length ≤ 1000 := hm.2.2.1
 obtain ⟨i0, hi, hz0, hz1, hz2⟩ := info_parts info_truth
 have hal := ((Below.refl w.heap.size w).alloc (Nat.le_refl _) (.cells #[.slice p0 h.1.length c0, .slice p1 h.2.1.length c1, .slice p2 h.2.2.length c2] 25)).alloc (by simp) (.cells #[.slice pb m.1.length cb, .slice pv m.2.length cv] 64)
 have hbx := (Blk.new w 25 [.slice p0 h.1.length c0, .slice p1 h.2.1.length c1, .slice p2 h.2.2.length c2]).alloc (.cells #[.slice pb m.1.length cb, .slice pv m.2.length cv] 64)
 have hbw := Blk.new (w.alloc (.cells #[.slice p0 h.1.length c0, .slice p1 h.2.1.length c1, .slice p2 h.2.2.length c2] 25)) 64 [.slice pb m.1.length cb, .slice pv m.2.length cv]
 simp only [World.size_alloc] at hbw
 have HAL := Lib.hid hal
 have HBX := Lib.hid hbx
 have HBW := Lib.hid hbw
 clear hm h50 hal hbx hbw hb hcb hu hc k2
 go_enter Tryz.func66, Tryz.ntmps66
 go_upto_region 1 with fail
 obtain ⟨W1, hW1⟩ : ∃ q, (w.alloc (.cells #[.slice p0 h.1.length c0, .slice p1 h.2.1.length c1, .slice p2 h.2.2.length c2] 25)).alloc (.cells #[.slice pb m.1.length cb, .slice pv m.2.length cv] 64) = q := ⟨_, rfl⟩
 rw [hW1] at HAL HBX HBW ⊢
 clear hW1
 have HR0 : RowKit.Hid ((W1.alloc (.cells #[] 4)).ownsRow W1.heap.size 4 1 (.slice (some ⟨W1.heap.size, 0, none⟩) 0 0) 0 []) := Lib.hid (World.ownsRow_made (base := W1.heap.size) (size := 1) (e := 4) W1 #[] 0 (Nat.le_refl _) (Nat.zero_le _) rfl)
 have HA0 := Lib.hid ((Below.refl W1.heap.size W1).alloc (Nat.le_refl _) (.cells #[] 4))
 have HFin := Lib.hid (fun w' (hb : Below W1.heap.size W1 w') => below_next HAL.out hb)
 have hw1 : w.heap.size ≤ W1.heap.size := HAL.out.size
 go_wp2_with fail
 go_loopw [5, 6, 7] (fun o n i wr => ∃ k : Nat, k ≤ h.2.2.length ∧ i = .int .i64 k ∧ n = .int .i64 (nI h.2.2 k) ∧ wr.ownsRow W1.heap.size 4 1 o k (bools ((commitsG h.2.2 m.1).take k)) ∧ Below W1.heap.size W1 wr) (fun _ _ i _ => h.2.2.length - (RowKit.intOf i).toNat)
 case atStart => exact ⟨0, Nat.zero_le _, rfl, rfl, HR0.out, HA0.out⟩
 case round =>
  obtain ⟨k, hk, rfl, rfl, hrow, hbw⟩ := hrel
  have x2 := (HBX.out.later hbw).cell 2 rfl
  by_cases hk1 : k < h.2.2.length
  ·have hb0 := HFin.out _ hbw
   obtain ⟨g, sv, rfl, a1, a2, a3, a4⟩ := HX.out k hk1
   have a1 := cell_later hb0 a1
   have a2 := cell_later hb0 a2
   have y0 := (HBW.out.later hbw).cell 0 rfl
   have hnx := nI_next h.2.2 k hk1
   have hlt := nI_lt h.2.2 k hk1
   have hle := nI_le h.2.2 k
   have hcn := commits_next h.2.2 m.1 k hk1
   have hct : comT h.2.2 m.1 k = if (h.2.2.getD k noTxn).2.1 = 1 then true else if (h.2.2.getD k noTxn).2.1 = 3 then m.1.getD (nI h.2.2 k) false else false := rfl
   obtain ⟨⟨ts, tf, tl⟩, htt⟩ : ∃ q, h.2.2.getD k noTxn = q := ⟨_, rfl⟩
   rw [htt] at a1 a2 hnx hlt hct
   dsimp only at a1 a2 hct
   have hip : infosP (ts, tf, tl) = (tf == 3) := by unfold infosP; rfl
   rw [hip] at hnx hlt
   have HRw := Lib.hid hrow
   have HBw := Lib.hid hbw
   have HNx := Lib.hid hnx
   have HCn := Lib.hid hcn
   have HCt := Lib.hid hct
   have hni : nI h.2.2 k ≤ 1000000 := by rw [← HLe.out] at hle; omega
   clear a3 a4 hrow hbw hnx hcn hct htt hip hb0 hle
   by_cases h1 : tf = 1
   ·subst h1
    have HE : RowKit.Hid ((commitsG h.2.2 m.1).take (k + 1) = (commitsG h.2.2 m.1).take k ++ [true]) := Lib.hid (by rw [HCn.out, HCt.out]; rfl)
    have HN2 : RowKit.Hid (nI h.2.2 (k + 1) = nI h.2.2 k) := Lib.hid HNx.out
    clear HCn HCt HNx hlt y0
    obtain ⟨p9, c9, rfl⟩ := owns_form HRw.out
    go_wp2_with (at_builtin; refine wpList_append_own _ rfl _ _ 61 rfl W1.heap.size 4 i0 (.bool false) 1 1 Tryz.underlying61 hi hz0 hz1 hz2 rfl (by decide) _ _ _ rfl (HRw.out.alloc _) ⟨wr.heap.size, 0, none⟩ 1 1 [.bool true] rfl rfl (news_lit _ _ _ _ (by simp)) (by intro u hu; simp at hu; subst hu; rfl) (by unfold maxLen; omega) (by omega) (by have := HBw.out.size; simp; omega) ?_)
    intro v4 w4 hown4 hgrow hnil
    have HB4 := Lib.hid ((HBw.out.alloc HBw.out.size (.cells #[.bool true] 4)).grown hgrow (by have := HBw.out.size; simp; omega) (fun q hq => ((HRw.out.alloc (.cells #[.bool true] 4)).lt q hq).1))
    have HO4 : RowKit.Hid (w4.ownsRow W1.heap.size 4 1 v4 (k + 1) (bools ((commitsG h.2.2 m.1).take (k + 1)))) := Lib.hid (by rw [HE.out, show bools ((commitsG h.2.2 m.1).take k ++ [true]) = bools ((commitsG h.2.2 m.1).take k) ++ [.bool true] by simp [bools]]; exact hown4)
    clear hown4 hgrow hnil
    go_wp2_with fail
    go_roundw
    case rel => exact ⟨k + 1, by omega, by go_num, by rw [HN2.out] <;> first | rfl | go_num, HO4.out, HB4.out⟩
    case measure => simp [RowKit.intOf]; omega
   ·have h1b : (tf == 1) = false := by simpa using h1
    by_cases h3 : tf = 3
    ·subst h3
     have hn : nI h.2.2 k < m.1.length := by rw [HLe.out]; exact hlt rfl
     obtain ⟨gc, rfl, hcc⟩ := HC.out _ hn
     have hcc := cell_later (HFin.out _ HBw.out) hcc
     obtain ⟨b, hb⟩ : ∃ b, m.1.getD (nI h.2.2 k) false = b := ⟨_, rfl⟩
     rw [hb] at hcc HCt
     have HE : RowKit.Hid ((commitsG h.2.2 m.1).take (k + 1) = (commitsG h.2.2 m.1).take k ++ [b]) := Lib.hid (by rw [HCn.out, HCt.out]; rfl)
     have HN2 : RowKit.Hid (nI h.2.2 (k + 1) = nI h.2.2 k + 1) := Lib.hid HNx.out
     obtain ⟨n, hn2⟩ : ∃ n, nI h.2.2 k = n := ⟨_, rfl⟩
     rw [hn2] at hcc HN2 hn hni
     try rw [hn2]
     clear HCn HCt HNx hlt hb hn2
     obtain ⟨p9, c9, rfl⟩ := owns_form HRw.out
     go_wp2_with (at_builtin; refine wpList_append_own _ rfl _ _ 61 rfl W1.heap.size 4 i0 (.bool false) 1 1 Tryz.underlying61 hi hz0 hz1 hz2 rfl (by decide) _ _ _ rfl (HRw.out.alloc _) ⟨wr.heap.size, 0, none⟩ 1 1 [.bool b] rfl rfl (news_lit _ _ _ _ (by simp)) (by intro u hu; simp at hu; subst hu; rfl) (by unfold maxLen; omega) (by omega) (by have := HBw.out.size; simp; omega) ?_)
     intro v4 w4 hown4 hgrow hnil
     have HB4 := Lib.hid ((HBw.out.alloc HBw.out.size (.cells #[.bool b] 4)).grown hgrow (by have := HBw.out.size; simp; omega) (fun q hq => ((HRw.out.alloc (.cells #[.bool b] 4)).lt q hq).1))
     have HO4 : RowKit.Hid (w4.ownsRow W1.heap.size 4 1 v4 (k + 1) (bools ((commitsG h.2.2 m.1).take (k + 1)))) := Lib.hid (by rw [HE.out, show bools ((commitsG h.2.2 m.1).take k ++ [b]) = bools ((commitsG h.2.2 m.1).take k) ++ [.bool b] by simp [bools]]; exact hown4)
     clear hown4 hgrow hnil
     go_wp2_with fail
     go_roundw
     case rel => exact ⟨k + 1, by omega, by go_num, by rw [HN2.out] <;> first | rfl | go_num, HO4.out, HB4.out⟩
     case measure => simp [RowKit.intOf]; omega
    ·have h3b : (tf == 3) = false := by simpa using h3
     have HE : RowKit.Hid ((commitsG h.2.2 m.1).take (k + 1) = (commitsG h.2.2 m.1).take k ++ [false]) := Lib.hid (by rw [HCn.out, HCt.out, if_neg h1, if_neg h3])
     have HN2 : RowKit.Hid (nI h.2.2 (k + 1) = nI h.2.2 k) := Lib.hid (by rw [HNx.out, if_neg (by rw [h3b]; exact Bool.false_ne_true)])
     clear HCn HCt HNx hlt y0
     obtain ⟨p9, c9, rfl⟩ := owns_form HRw.out
     go_wp2_with (at_builtin; refine wpList_append_own _ rfl _ _ 61 rfl W1.heap.size 4 i0 (.bool false) 1 1 Tryz.underlying61 hi hz0 hz1 hz2 rfl (by decide) _ _ _ rfl (HRw.out.alloc _) ⟨wr.heap.size, 0, none⟩ 1 1 [.bool false] rfl rfl (news_lit _ _ _ _ (by simp)) (by intro u hu; simp at hu; subst hu; rfl) (by unfold maxLen; omega) (by omega) (by have := HBw.out.size; simp; omega) ?_)
     intro v4 w4 hown4 hgrow hnil
     have HB4 := Lib.hid ((HBw.out.alloc HBw.out.size (.cells #[.bool false] 4)).grown hgrow (by have := HBw.out.size; simp; omega) (fun q hq => ((HRw.out.alloc (.cells #[.bool false] 4)).lt q hq).1))
     have HO4 : RowKit.Hid (w4.ownsRow W1.heap.size 4 1 v4 (k + 1) (bools ((commitsG h.2.2 m.1).take (k + 1)))) := Lib.hid (by rw [HE.out, show bools ((commitsG h.2.2 m.1).take k ++ [false]) = bools ((commitsG h.2.2 m.1).take k) ++ [.bool false] by simp [bools]]; exact hown4)
     clear hown4 hgrow hnil
     go_wp2_with fail
     go_roundw
     case rel => exact ⟨k + 1, by omega, by go_num, by rw [HN2.out] <;> first | rfl | go_num, HO4.out, HB4.out⟩
     case measure => simp [RowKit.intOf]; omega
  ·have hke : k = h.2.2.length := by omega
   subst hke
   rw [commits_all] at hrow
   have HRw := Lib.hid hrow
   obtain ⟨p9, c9, rfl⟩ := owns_form hrow
   clear hrow
   go_wp2_with fail
   go_ret
   exact ⟨_, rfl, owns_base HRw.out hw1, HFin.out _ hbw⟩
end Go.Proofs.YtmgchjddpmmglaaGreatDoor
