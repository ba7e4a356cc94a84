/-
  Layer 16 (world): who committed in a world, the program's answer and the document's, walked. No conditions but that unicode/utf8's two tables are as their initialisers lay them (the program's).
  Layer 5 (value) in plain words: values in order, as the program makes them (sorted, then no two alike) and as the reference does (put in one by one); no program in sight. No conditions.
  The law ValueSorts walked: values in order, and which one of any two is ahead, are as the document says. No conditions.
  Layer 16 (world) in plain words: worlds counted up like digits; each next one is the next in number; no program in sight. No conditions.
  Layer 16 (world) in plain words: how many worlds there are, counted at most to a million: over all fates, and transaction by transaction; no program in sight. No conditions.
  Layers 15 and 16 (writer, world) in plain words: what a lost read may have read, what is tried, the first world, the next one, how many there are; no program in sight. No conditions.
  Maps of the call's own from numbers to values, in plain words. No conditions.
  Maps of the call's own from numbers of 64 bits to numbers, in plain words. No conditions.
  Layer 16 (world) in plain words: counting up, place by place from the last one; who is a world that is tried; no program in sight. No conditions.
-/
import Derived.Test.YtdfegfagedeilaaGreatDoorVxWoB
import Derived.Lib.LazyBuf
import Derived.Maps.RangeWalk
namespace Go.Proofs.YtdfegfagedeilaaGreatDoor
section
open Go.RowKit Go.Lib
set_option maxRecDepth 100000 in
set_option maxHeartbeats 4000000 in
theorem bUc {w : World} {v : Value} {h : aI} {pb : Option Addr} {cb : Nat} (c : List Bool) (hv : cJ w v h) (hm : cU h) (hb : jA w pb c) (hcb : c.length ≤ cb ∧ cb ≤ maxLen) (hc : c.length = (h.2.2.filter aP).length) :
  Calls Tryz.prog 45 #[v, .slice pb c.length cb] w fun e w' => ∃ v', e = .returned v' ∧ w'.ownsRow w.heap.size 4 1 v' h.2.2.length (bG (aL h.2.2 c)) ∧ Below w.heap.size w w' := by
 obtain ⟨v0, v1, v2, rfl, ⟨p0, c0, rfl, -⟩, ⟨p1, c1, rfl, -⟩, ⟨p2, c2, rfl, k2⟩⟩ := hv;have HX := lhid k2;have HC := lhid hb;have HLe := lhid hc;obtain ⟨hcb1, hcb2⟩ := hcb;unfold maxLen at hcb2;have m3 : h.2.2.length ≤ 1000 := hm.2.2.1;obtain ⟨i0, hi, hz0, hz1, hz2⟩ := info_parts oB
 have mk1 : ∀ W : World, (Instr.makeSlice 26 (.int .i64 (h.2.2.length : Int)) (.int .i64 (h.2.2.length : Int))).run Tryz.prog W = .ok (.slice (some ⟨W.heap.size, 0, none⟩) h.2.2.length h.2.2.length) (W.alloc (.cells (madeCells (Value.cells (.bool false)) (h.2.2.length * 1)) 4)) := fun W => by
  have hr := run_make (P := Tryz.prog) W 26 4 i0 (.bool false) Tryz.underlying26 hi hz0 .i64 .i64 h.2.2.length h.2.2.length (by omega) (Int.le_refl _) (by rw [hz2]; omega) (by omega);rw [hz1] at hr;simpa only [Int.toNat_natCast] using hr
 have HAL := lhid ((Below.refl w.heap.size w).alloc (Nat.le_refl _) (.cells #[.slice p0 h.1.length c0, .slice p1 h.2.1.length c1, .slice p2 h.2.2.length c2] 25));have HBX := lhid (Blk.new w 25 [.slice p0 h.1.length c0, .slice p1 h.2.1.length c1, .slice p2 h.2.2.length c2]);have x2 := HBX.out.cell 2 rfl;clear k2 hb hm hc hi hz0 hz1 hz2;go_enter Tryz.func45, Tryz.ntmps45;(go_upto_region 1 with fail);obtain ⟨W1, hW1⟩ : ∃ q, w.alloc (.cells #[.slice p0 h.1.length c0, .slice p1 h.2.1.length c1, .slice p2 h.2.2.length c2] 25) = q := ⟨_, rfl⟩;rw [hW1] at HAL HBX x2 ⊢;clear hW1
 have hr0 : (W1.alloc (.cells (madeCells #[.bool false] h.2.2.length) 4)).ownsRow W1.heap.size 4 1 (.slice (some ⟨W1.heap.size, 0, none⟩) h.2.2.length h.2.2.length) h.2.2.length (bG (oQ h.2.2 c 0)) := by
  have h1 := World.ownsRow_lit (base := W1.heap.size) (e := 4) (size := 1) W1 (madeCells (Value.cells (.bool false)) (h.2.2.length * 1)) h.2.2.length (Nat.le_refl _) (by unfold maxLen; omega) (by rw [size_madeCells]);rw [sJ, Nat.mul_one] at h1;rw [aWt];exact h1
 have HR0 := lhid hr0;have HA0 := lhid ((Below.refl W1.heap.size W1).alloc (Nat.le_refl _) (.cells (madeCells #[.bool false] h.2.2.length) 4));have x3 := (HBX.out.later HA0.out).cell 2 rfl;have HFin := lhid (fun w' (hb : Below W1.heap.size W1 w') => aB HAL.out hb);have hw1 : w.heap.size < W1.heap.size := HBX.out.lt;clear hr0;(go_wp2_with fail);clear x2 x3 mk1
 go_loopw [1, 15] (fun f i wr => ∃ k : Nat, k ≤ h.2.2.length ∧ i = .int .i64 k ∧ (∃ q, f = .slice q (c.length - nI h.2.2 k) (cb - nI h.2.2 k) ∧ (nI h.2.2 k < c.length → ∃ g, pb = some ⟨g, 0, none⟩ ∧ q = some ⟨g, nI h.2.2 k, none⟩)) ∧ wr.ownsRow W1.heap.size 4 1 (.slice (some ⟨W1.heap.size, 0, none⟩) h.2.2.length h.2.2.length) h.2.2.length (bG (oQ h.2.2 c k)) ∧ Below W1.heap.size W1 wr) (fun _ i _ => h.2.2.length - (RowKit.intOf i).toNat)
 case atStart => exact ⟨0, Nat.zero_le _, rfl, ⟨_, rfl, fun hh => by obtain ⟨g, e, -⟩ := HC.out 0 hh; exact ⟨g, e, e⟩⟩, HR0.out, HA0.out⟩
 case round =>
  obtain ⟨k, hk, rfl, hf, hrow, hbw⟩ := hrel;by_cases hk1 : k < h.2.2.length
  ·have hb0 := HFin.out _ hbw;obtain ⟨g, sv, rfl, a1, a2, a3, a4⟩ := HX.out k hk1;have a1 := cell_later hb0 a1;have a2 := cell_later hb0 a2;have a3 := cell_later hb0 a3;have hnx := aKc h.2.2 k hk1;have hlt := bJz h.2.2 k hk1;have hcn := aWq h.2.2 c k hk1;have hcs := aWs h.2.2 c k hk1;have hct : yE h.2.2 c k = if (h.2.2.getD k aM).2.1 = 1 then true else if (h.2.2.getD k aM).2.1 = 3 then c.getD (nI h.2.2 k) false else false := rfl;obtain ⟨⟨ts, tf, tl⟩, htt⟩ : ∃ q, h.2.2.getD k aM = q := ⟨_, rfl⟩;rw [htt] at a1 a2 a4 hnx hlt hct;dsimp only at a1 a2 a4 hct;obtain ⟨p3, c3, rfl, -, -⟩ := a4;have hip : aP (ts, tf, tl) = (tf == 3) := (by unfold aP; rfl);rw [hip] at hnx hlt;have hkl : k < (oQ h.2.2 c k).length := (by rw [bCb _ _ _ hk]; exact hk1);have r0 : wr.cell? ⟨W1.heap.size, k, none⟩ = some (.bool ((oQ h.2.2 c k).getD k false)) := (by rw [hrow.cellAt k (by omega)]; exact aBt _ _ hkl);have r1 := hrow.frozenAt k;have hlw : W1.heap.size < wr.heap.size := (hrow.lt W1.heap.size rfl).2;have HRw := lhid (hrow.alloc (.cells #[.int .i64 ts, .int .i64 tf, .slice p3 tl.length c3] 67));have HBw := lhid (hbw.alloc hbw.size (.cells #[.int .i64 ts, .int .i64 tf, .slice p3 tl.length c3] 67));have HBr := lhid hbw;have HRr := lhid hrow;have HNx := lhid hnx;have HLt := lhid hlt;have HCn := lhid hcn;have HCs := lhid hcs;have HCt := lhid hct;have HF := lhid hf;clear hrow hbw hnx hlt hcn hcs hct htt hip hb0 hkl hf;by_cases h1 : tf = 1
   ·subst h1;have HE : Hid (bG (oQ h.2.2 c (k + 1)) = (bG (oQ h.2.2 c k)).set k (.bool true)) := lhid (by rw [HCn.out, HCt.out, yC]; rfl);have HN2 : Hid (nI h.2.2 (k + 1) = nI h.2.2 k) := lhid HNx.out;clear HCn HCs HCt HNx HLt;(go_wp2_with fail);go_roundw
    case rel => exact ⟨k + 1, by omega, by go_num, by rw [HN2.out]; exact HF.out, by rw [HE.out]; exact ((HRr.out.stored k (.bool true)).1).alloc _, (HBr.out.setCell (p := ⟨W1.heap.size, k, none⟩) (Nat.le_refl _) _).alloc (by have := HBr.out.size; simpa using this) _⟩
    case measure => simp [RowKit.intOf]; omega
   ·have h1b : (tf == 1) = false := (by simpa using h1);by_cases h3 : tf = 3
    ·subst h3;have hn : nI h.2.2 k < c.length := (by rw [HLe.out]; exact HLt.out rfl);obtain ⟨q, hfe, hq⟩ := HF.out;obtain ⟨gc, rfl, rfl⟩ := hq hn;obtain ⟨gc', e', hcc⟩ := HC.out _ hn;cases e';have hcc := cell_later (HFin.out _ HBr.out) hcc;have hgcl := World.block_lt_of_cell? wr ⟨gc, nI h.2.2 k, none⟩ hcc;dsimp only at hgcl;obtain ⟨b, hb⟩ : ∃ b, c.getD (nI h.2.2 k) false = b := ⟨_, rfl⟩;rw [hb] at hcc HCt;have HE : Hid (bG (oQ h.2.2 c (k + 1)) = (bG (oQ h.2.2 c k)).set k (.bool b)) := lhid (by rw [HCn.out, HCt.out, yC]; rfl);have HN2 : Hid (nI h.2.2 (k + 1) = nI h.2.2 k + 1) := lhid HNx.out;obtain ⟨n, hn2⟩ : ∃ n, nI h.2.2 k = n := ⟨_, rfl⟩;rw [hn2] at hcc HN2 hn hfe;subst hfe;obtain ⟨md, hmd⟩ : ∃ md, c.length = n + md + 1 := ⟨c.length - n - 1, by omega⟩;obtain ⟨dd, hdd⟩ : ∃ dd, cb = n + dd + 1 := ⟨cb - n - 1, by omega⟩;rw [show c.length - n = md + 1 by omega, show cb - n = dd + 1 by omega];have HMd := lhid (show c.length - (n + 1) = md by omega);have HDd := lhid (show cb - (n + 1) = dd by omega);have hmd2 : md ≤ dd := (by omega);have hdd2 : dd ≤ 9223372036854775807 := (by omega);clear HCn HCs HCt HNx HLt HF hb hn2 hn hmd hdd hq;(go_wp2_with fail);go_roundw
     case rel => exact ⟨k + 1, by omega, by go_num, ⟨_, by rw [HN2.out, HMd.out, HDd.out], fun hh => ⟨gc, rfl, by
      rw [HN2.out] at hh ⊢;have hz : ¬ dd = 0 := by have := HMd.out; omega
      first | rfl | (rw [if_neg hz]; first | rfl | simp) | simp [hz]⟩⟩, by rw [HE.out]; exact ((HRr.out.stored k (.bool b)).1).alloc _, (HBr.out.setCell (p := ⟨W1.heap.size, k, none⟩) (Nat.le_refl _) _).alloc (by have := HBr.out.size; simpa using this) _⟩
     case measure => simp [RowKit.intOf]; omega
    ·have h3b : (tf == 3) = false := (by simpa using h3);have HE : Hid (oQ h.2.2 c (k + 1) = oQ h.2.2 c k) := lhid (HCs.out (by rw [HCt.out, if_neg h1, if_neg h3]));have HN2 : Hid (nI h.2.2 (k + 1) = nI h.2.2 k) := lhid (by rw [HNx.out, if_neg (by rw [h3b]; exact Bool.false_ne_true)]);clear HCn HCs HCt HNx HLt;(go_wp2_with fail);go_roundw
     case rel => exact ⟨k + 1, by omega, by go_num, by rw [HN2.out]; exact HF.out, by rw [HE.out]; exact HRw.out, HBw.out⟩
     case measure => simp [RowKit.intOf]; omega
  ·have hke : k = h.2.2.length := (by omega);subst hke;rw [bCa] at hrow;have HRw := lhid hrow;clear hrow hf;(go_wp2_with fail);go_ret;exact ⟨_, rfl, cQ HRw.out (by omega), HFin.out _ hbw⟩
set_option maxRecDepth 100000 in
set_option maxHeartbeats 4000000 in
theorem bUl {w : World} {v u : Value} {h : aI} {m : bK} (hv : cJ w v h) (hu : lI w u m) (hm : cU h) (h50 : m.1.length ≤ 1000000 ∧ m.2.length ≤ 1000000) (hw : kX h m = true) (hT : Lib.Utf8Tabs 1 2 w) :
  Calls Tryz.prog 18 #[v, u] w fun e w' => ∃ v', e = .returned v' ∧ w'.ownsRow w.heap.size 4 1 v' h.2.2.length (bG (aL h.2.2 m.1)) ∧ Below w.heap.size w w' := by
 have H0 := lhid hv;have U0 := lhid hu;obtain ⟨v0, v1, v2, rfl, ⟨p0, c0, rfl, -⟩, ⟨p1, c1, rfl, -⟩, ⟨p2, c2, rfl, -⟩⟩ := hv;obtain ⟨pb, cb, pv, cv, rfl, hb, -, hcb, -⟩ := lY hu;have hal := ((Below.refl w.heap.size w).alloc (Nat.le_refl _) (.cells #[.slice p0 h.1.length c0, .slice p1 h.2.1.length c1, .slice p2 h.2.2.length c2] 25)).alloc (by simp) (.cells #[.slice pb m.1.length cb, .slice pv m.2.length cv] 29);have hbx := (Blk.new w 25 [.slice p0 h.1.length c0, .slice p1 h.2.1.length c1, .slice p2 h.2.2.length c2]).alloc (.cells #[.slice pb m.1.length cb, .slice pv m.2.length cv] 29);have hbw := Blk.new (w.alloc (.cells #[.slice p0 h.1.length c0, .slice p1 h.2.1.length c1, .slice p2 h.2.2.length c2] 25)) 29 [.slice pb m.1.length cb, .slice pv m.2.length cv];simp only [World.size_alloc] at hbw;have HMy := lhid (bTz (H0.out.below hal) (U0.out.below hal) hm h50 (Utf8Tabs_below hT hal));rw [hw] at HMy;have HCo := lhid (fun w' (hb' : Below w.heap.size w w') => bUc m.1 (H0.out.below hb') hm (hb.below hb') hcb ((jP h m).1 hw).c);have HAL := lhid hal;have HBX := lhid hbx;have HBW := lhid hbw;clear hT hm h50 hw hal hbx hbw hb hcb hu;go_enter Tryz.func18, Tryz.ntmps18;(go_wp2_with fail);refine HMy.out.mono ?_;rintro e w1 ⟨rfl, hb1⟩;have HB1 := lhid (aB HAL.out hb1);have HX1 := lhid (HBX.out.later hb1);have HW1 := lhid (HBW.out.later hb1);have x0 := HX1.out.cell 0 rfl;have x1 := HX1.out.cell 1 rfl;have x2 := HX1.out.cell 2 rfl;have y0 := HW1.out.cell 0 rfl;have hsz : w.heap.size ≤ w1.heap.size := HB1.out.size;clear hb1 HMy HAL HBX HBW;(go_wp2_with fail);refine (HCo.out _ HB1.out).mono ?_;rintro e w2 ⟨v2, rfl, hr2, hb2⟩;have HR2 := lhid (cQ hr2 hsz);have HB2 := lhid (aB HB1.out hb2);clear hr2 hb2;obtain ⟨p9, c9, rfl⟩ := aF HR2.out;(go_wp2_with fail);go_ret;exact ⟨_, rfl, HR2.out, HB2.out⟩
set_option maxRecDepth 100000 in
set_option maxHeartbeats 4000000 in
theorem bUa {w : World} {v u : Value} {h : aI} {m : bK} (hv : cJ w v h) (hu : lI w u m) (hm : cU h) (h50 : m.1.length ≤ 1000000 ∧ m.2.length ≤ 1000000) (hc : m.1.length = (h.2.2.filter aP).length) :
  Calls Tryz.prog 22 #[v, u] w fun e w' => ∃ v', e = .returned v' ∧ w'.ownsRow w.heap.size 4 1 v' h.2.2.length (bG (aL h.2.2 m.1)) ∧ Below w.heap.size w w' := by
 obtain ⟨v0, v1, v2, rfl, ⟨p0, c0, rfl, -⟩, ⟨p1, c1, rfl, -⟩, ⟨p2, c2, rfl, k2⟩⟩ := hv;obtain ⟨pb, cb, pv, cv, rfl, hb, -, hcb, -⟩ := lY hu;have HX := lhid k2;have HC := lhid hb;have HLe := lhid hc;have h51 := h50.1;have m3 : h.2.2.length ≤ 1000 := hm.2.2.1;obtain ⟨i0, hi, hz0, hz1, hz2⟩ := info_parts oB;have hal := ((Below.refl w.heap.size w).alloc (Nat.le_refl _) (.cells #[.slice p0 h.1.length c0, .slice p1 h.2.1.length c1, .slice p2 h.2.2.length c2] 25)).alloc (by simp) (.cells #[.slice pb m.1.length cb, .slice pv m.2.length cv] 29);have hbx := (Blk.new w 25 [.slice p0 h.1.length c0, .slice p1 h.2.1.length c1, .slice p2 h.2.2.length c2]).alloc (.cells #[.slice pb m.1.length cb, .slice pv m.2.length cv] 29);have hbw := Blk.new (w.alloc (.cells #[.slice p0 h.1.length c0, .slice p1 h.2.1.length c1, .slice p2 h.2.2.length c2] 25)) 29 [.slice pb m.1.length cb, .slice pv m.2.length cv];simp only [World.size_alloc] at hbw;have HAL := lhid hal;have HBX := lhid hbx;have HBW := lhid hbw;clear hm h50 hal hbx hbw hb hcb hu hc k2;go_enter Tryz.func22, Tryz.ntmps22;(go_upto_region 1 with fail);obtain ⟨W1, hW1⟩ : ∃ q, (w.alloc (.cells #[.slice p0 h.1.length c0, .slice p1 h.2.1.length c1, .slice p2 h.2.2.length c2] 25)).alloc (.cells #[.slice pb m.1.length cb, .slice pv m.2.length cv] 29) = q := ⟨_, rfl⟩;rw [hW1] at HAL HBX HBW ⊢;clear hW1;have HR0 : Hid ((W1.alloc (.cells #[] 4)).ownsRow W1.heap.size 4 1 (.slice (some ⟨W1.heap.size, 0, none⟩) 0 0) 0 []) := lhid (World.ownsRow_made (base := W1.heap.size) (size := 1) (e := 4) W1 #[] 0 (Nat.le_refl _) (Nat.zero_le _) rfl);have HA0 := lhid ((Below.refl W1.heap.size W1).alloc (Nat.le_refl _) (.cells #[] 4));have HFin := lhid (fun w' (hb : Below W1.heap.size W1 w') => aB HAL.out hb);have hw1 : w.heap.size ≤ W1.heap.size := HAL.out.size;go_wp2_with fail
 go_loopw [5, 6, 7] (fun o n i wr => ∃ k : Nat, k ≤ h.2.2.length ∧ i = .int .i64 k ∧ n = .int .i64 (nI h.2.2 k) ∧ wr.ownsRow W1.heap.size 4 1 o k (bG ((aL h.2.2 m.1).take k)) ∧ Below W1.heap.size W1 wr) (fun _ _ i _ => h.2.2.length - (RowKit.intOf i).toNat)
 case atStart => exact ⟨0, Nat.zero_le _, rfl, rfl, HR0.out, HA0.out⟩
 case round =>
  obtain ⟨k, hk, rfl, rfl, hrow, hbw⟩ := hrel;have x2 := (HBX.out.later hbw).cell 2 rfl;by_cases hk1 : k < h.2.2.length
  ·have hb0 := HFin.out _ hbw;obtain ⟨g, sv, rfl, a1, a2, a3, a4⟩ := HX.out k hk1;have a1 := cell_later hb0 a1;have a2 := cell_later hb0 a2;have y0 := (HBW.out.later hbw).cell 0 rfl;have hnx := aKc h.2.2 k hk1;have hlt := bJz h.2.2 k hk1;have hle := bJy h.2.2 k;have hcn := sC h.2.2 m.1 k hk1;have hct : yE h.2.2 m.1 k = if (h.2.2.getD k aM).2.1 = 1 then true else if (h.2.2.getD k aM).2.1 = 3 then m.1.getD (nI h.2.2 k) false else false := rfl;obtain ⟨⟨ts, tf, tl⟩, htt⟩ : ∃ q, h.2.2.getD k aM = q := ⟨_, rfl⟩;rw [htt] at a1 a2 hnx hlt hct;dsimp only at a1 a2 hct;have hip : aP (ts, tf, tl) = (tf == 3) := (by unfold aP; rfl);rw [hip] at hnx hlt;have HRw := lhid hrow;have HBw := lhid hbw;have HNx := lhid hnx;have HCn := lhid hcn;have HCt := lhid hct;have hni : nI h.2.2 k ≤ 1000000 := (by rw [← HLe.out] at hle; omega);clear a3 a4 hrow hbw hnx hcn hct htt hip hb0 hle;by_cases h1 : tf = 1
   ·subst h1;have HE : Hid ((aL h.2.2 m.1).take (k + 1) = (aL h.2.2 m.1).take k ++ [true]) := lhid (by rw [HCn.out, HCt.out]; rfl);have HN2 : Hid (nI h.2.2 (k + 1) = nI h.2.2 k) := lhid HNx.out;clear HCn HCt HNx hlt y0;obtain ⟨p9, c9, rfl⟩ := aF HRw.out;(go_wp2_with (at_builtin; refine wpList_append_own _ rfl _ _ 26 rfl W1.heap.size 4 i0 (.bool false) 1 1 Tryz.underlying26 hi hz0 hz1 hz2 rfl (by decide) _ _ _ rfl (HRw.out.alloc _) ⟨wr.heap.size, 0, none⟩ 1 1 [.bool true] rfl rfl (dB _ _ _ _ (by simp)) (by intro u hu; simp at hu; subst hu; rfl) (by unfold maxLen; omega) (by omega) (by have := HBw.out.size; simp; omega) ?_));intro v4 w4 hown4 hgrow hnil;have HB4 := lhid ((HBw.out.alloc HBw.out.size (.cells #[.bool true] 4)).grown hgrow (by have := HBw.out.size; simp; omega) (fun q hq => ((HRw.out.alloc (.cells #[.bool true] 4)).lt q hq).1));have HO4 : Hid (w4.ownsRow W1.heap.size 4 1 v4 (k + 1) (bG ((aL h.2.2 m.1).take (k + 1)))) := lhid (by rw [HE.out, show bG ((aL h.2.2 m.1).take k ++ [true]) = bG ((aL h.2.2 m.1).take k) ++ [.bool true] by simp [bG]]; exact hown4);clear hown4 hgrow hnil;(go_wp2_with fail);go_roundw
    case rel => exact ⟨k + 1, by omega, by go_num, by rw [HN2.out] <;> first | rfl | go_num, HO4.out, HB4.out⟩
    case measure => simp [RowKit.intOf]; omega
   ·have h1b : (tf == 1) = false := (by simpa using h1);by_cases h3 : tf = 3
    ·subst h3;have hn : nI h.2.2 k < m.1.length := (by rw [HLe.out]; exact hlt rfl);obtain ⟨gc, rfl, hcc⟩ := HC.out _ hn;have hcc := cell_later (HFin.out _ HBw.out) hcc;obtain ⟨b, hb⟩ : ∃ b, m.1.getD (nI h.2.2 k) false = b := ⟨_, rfl⟩;rw [hb] at hcc HCt;have HE : Hid ((aL h.2.2 m.1).take (k + 1) = (aL h.2.2 m.1).take k ++ [b]) := lhid (by rw [HCn.out, HCt.out]; rfl);have HN2 : Hid (nI h.2.2 (k + 1) = nI h.2.2 k + 1) := lhid HNx.out;obtain ⟨n, hn2⟩ : ∃ n, nI h.2.2 k = n := ⟨_, rfl⟩;rw [hn2] at hcc HN2 hn hni;(try rw [hn2]);clear HCn HCt HNx hlt hb hn2;obtain ⟨p9, c9, rfl⟩ := aF HRw.out;(go_wp2_with (at_builtin; refine wpList_append_own _ rfl _ _ 26 rfl W1.heap.size 4 i0 (.bool false) 1 1 Tryz.underlying26 hi hz0 hz1 hz2 rfl (by decide) _ _ _ rfl (HRw.out.alloc _) ⟨wr.heap.size, 0, none⟩ 1 1 [.bool b] rfl rfl (dB _ _ _ _ (by simp)) (by intro u hu; simp at hu; subst hu; rfl) (by unfold maxLen; omega) (by omega) (by have := HBw.out.size; simp; omega) ?_));intro v4 w4 hown4 hgrow hnil;have HB4 := lhid ((HBw.out.alloc HBw.out.size (.cells #[.bool b] 4)).grown hgrow (by have := HBw.out.size; simp; omega) (fun q hq => ((HRw.out.alloc (.cells #[.bool b] 4)).lt q hq).1));have HO4 : Hid (w4.ownsRow W1.heap.size 4 1 v4 (k + 1) (bG ((aL h.2.2 m.1).take (k + 1)))) := lhid (by rw [HE.out, show bG ((aL h.2.2 m.1).take k ++ [b]) = bG ((aL h.2.2 m.1).take k) ++ [.bool b] by simp [bG]]; exact hown4);clear hown4 hgrow hnil;(go_wp2_with fail);go_roundw
     case rel => exact ⟨k + 1, by omega, by go_num, by rw [HN2.out] <;> first | rfl | go_num, HO4.out, HB4.out⟩
     case measure => simp [RowKit.intOf]; omega
    ·have h3b : (tf == 3) = false := (by simpa using h3);have HE : Hid ((aL h.2.2 m.1).take (k + 1) = (aL h.2.2 m.1).take k ++ [false]) := lhid (by rw [HCn.out, HCt.out, if_neg h1, if_neg h3]);have HN2 : Hid (nI h.2.2 (k + 1) = nI h.2.2 k) := lhid (by rw [HNx.out, if_neg (by rw [h3b]; exact Bool.false_ne_true)]);clear HCn HCt HNx hlt y0;obtain ⟨p9, c9, rfl⟩ := aF HRw.out;(go_wp2_with (at_builtin; refine wpList_append_own _ rfl _ _ 26 rfl W1.heap.size 4 i0 (.bool false) 1 1 Tryz.underlying26 hi hz0 hz1 hz2 rfl (by decide) _ _ _ rfl (HRw.out.alloc _) ⟨wr.heap.size, 0, none⟩ 1 1 [.bool false] rfl rfl (dB _ _ _ _ (by simp)) (by intro u hu; simp at hu; subst hu; rfl) (by unfold maxLen; omega) (by omega) (by have := HBw.out.size; simp; omega) ?_));intro v4 w4 hown4 hgrow hnil;have HB4 := lhid ((HBw.out.alloc HBw.out.size (.cells #[.bool false] 4)).grown hgrow (by have := HBw.out.size; simp; omega) (fun q hq => ((HRw.out.alloc (.cells #[.bool false] 4)).lt q hq).1));have HO4 : Hid (w4.ownsRow W1.heap.size 4 1 v4 (k + 1) (bG ((aL h.2.2 m.1).take (k + 1)))) := lhid (by rw [HE.out, show bG ((aL h.2.2 m.1).take k ++ [false]) = bG ((aL h.2.2 m.1).take k) ++ [.bool false] by simp [bG]]; exact hown4);clear hown4 hgrow hnil;(go_wp2_with fail);go_roundw
     case rel => exact ⟨k + 1, by omega, by go_num, by rw [HN2.out] <;> first | rfl | go_num, HO4.out, HB4.out⟩
     case measure => simp [RowKit.intOf]; omega
  ·have hke : k = h.2.2.length := (by omega);subst hke;rw [zQ] at hrow;have HRw := lhid hrow;obtain ⟨p9, c9, rfl⟩ := aF hrow;clear hrow;(go_wp2_with fail);go_ret;exact ⟨_, rfl, cQ HRw.out hw1, HFin.out _ hbw⟩
end
section
open Go.Lib
abbrev bZ := Int × Int
def okV (a : bZ) : Bool := kW a.1 a.2
def ltV (a b : bZ) : Bool := if a.1 = b.1 then a.1 == 1 && decide (a.2 < b.2) else decide (a.1 < b.1)
theorem uU (a b : bZ) : ltV a b = true ↔ a.1 < b.1 ∨ (a.1 = b.1 ∧ a.1 = 1 ∧ a.2 < b.2) := by
 unfold ltV;by_cases h : a.1 = b.1
 ·rw [if_pos h];simp only [Bool.and_eq_true, beq_iff_eq, decide_eq_true_eq];omega
 ·rw [if_neg h];simp only [decide_eq_true_eq];omega
theorem mS (a : bZ) : ltV a a = false := by
 rw [Bool.eq_false_iff, ne_eq, uU];omega
theorem uW (a b c : bZ) (h1 : ltV a b = true) (h2 : ltV b c = true) : ltV a c = true := by
 rw [uU] at *;omega
theorem aVj (a : bZ) : okV a = true ↔ a.1 = 1 ∨ (a.1 = 0 ∨ a.1 = 2) ∧ a.2 = 0 := by
 unfold okV kW;simp only [Bool.or_eq_true, Bool.and_eq_true, beq_iff_eq]
theorem uV (a b : bZ) (ha : okV a = true) (hb : okV b = true) (h1 : ltV a b = false) (h2 : ltV b a = false) : a = b := by
 rw [Bool.eq_false_iff, ne_eq, uU] at h1 h2;rw [aVj] at ha hb;obtain ⟨a1, a2⟩ := a;obtain ⟨b1, b2⟩ := b;simp only at *;have e1 : a1 = b1 := (by omega);subst e1;have e2 : a2 = b2 := (by omega);rw [e2]
theorem aSd (a b c : bZ) (h1 : ltV a b = false) (h2 : ltV b c = false) : ltV a c = false := by
 rw [Bool.eq_false_iff, ne_eq, uU] at *;omega
def pM (x : bZ) : List bZ → List bZ
 | [] => [x]
 | y :: r => if ltV y x then y :: pM x r else if y = x then y :: r else x :: y :: r
theorem xE (x y : bZ) : ∀ r, y ∈ pM x r ↔ y = x ∨ y ∈ r
 | [] => by simp [pM]
 | z :: r => by
  unfold pM;split
  ·rw [List.mem_cons, xE x y r, List.mem_cons];constructor
   ·rintro (h | h | h)
    ·exact .inr (.inl h)
    ·exact .inl h
    ·exact .inr (.inr h)
   ·rintro (h | h | h)
    ·exact .inr (.inl h)
    ·exact .inl h
    ·exact .inr (.inr h)
  ·split
   ·rename_i h;subst h;simp
   ·simp
theorem zV (x : bZ) (hx : okV x = true) : ∀ r, (∀ y ∈ r, okV y = true) → r.Pairwise (fun a b => ltV a b = true) → (pM x r).Pairwise (fun a b => ltV a b = true)
 | [], _, _ => by simp [pM]
 | y :: r, hn, hs => by
  have hy := hn y (List.mem_cons_self ..);rw [List.pairwise_cons] at hs;unfold pM;split
  ·rename_i h;rw [List.pairwise_cons];refine ⟨fun z hz => ?_, zV x hx r (fun z hz => hn z (List.mem_cons_of_mem _ hz)) hs.2⟩;rcases (xE x z r).1 hz with e | e
   ·subst e; exact h
   ·exact hs.1 z e
  ·rename_i h;split
   ·rw [List.pairwise_cons]; exact hs
   ·rename_i he
    have hxy : ltV x y = true := by
     cases hq : ltV x y with
     | true => rfl
     | false => exact absurd (uV y x hy hx (by simpa using h) hq) he
    rw [List.pairwise_cons, List.pairwise_cons];refine ⟨fun z hz => ?_, hs⟩;rcases List.mem_cons.1 hz with e | e
    ·subst e; exact hxy
    ·exact uW x y z hxy (hs.1 z e)
def kO (x : bZ) (r : List bZ) : Nat := (r.takeWhile (fun y => ltV y x)).length
theorem aUx (x : bZ) : ∀ r : List bZ, kO x r ≤ r.length ∧ (∀ j, j < kO x r → ltV (r.getD j (0, 0)) x = true) ∧
  (kO x r < r.length → ltV (r.getD (kO x r) (0, 0)) x = false) ∧
  pM x r = if kO x r < r.length ∧ r.getD (kO x r) (0, 0) = x then r else r.take (kO x r) ++ x :: r.drop (kO x r)
 | [] => by simp [kO, pM]
 | y :: r => by
  obtain ⟨h1, h2, h3, h4⟩ := aUx x r;by_cases h : ltV y x = true
  ·have e : kO x (y :: r) = kO x r + 1 := (by simp [kO, h]);rw [e];refine ⟨by simpa using h1, ?_, ?_, ?_⟩
   ·intro j hj
    cases j with
    | zero => exact h
    | succ j => exact h2 j (by omega)
   ·intro hl;exact h3 (by simpa using hl)
   ·unfold pM;rw [if_pos h, h4];by_cases hc : kO x r < r.length ∧ r.getD (kO x r) (0, 0) = x
    ·rw [if_pos hc, if_pos (by simpa using hc)]
    ·rw [if_neg hc, if_neg (by simpa using hc)];simp
  ·have h' : ltV y x = false := (by simpa using h);have e : kO x (y :: r) = 0 := (by simp [kO, h']);rw [e];refine ⟨Nat.zero_le _, fun j hj => absurd hj (Nat.not_lt_zero j), fun _ => h', ?_⟩;unfold pM;rw [if_neg h];simp
def cH (L : List bZ) : List bZ := L.foldl (fun out x => if okV x then pM x out else out) []
theorem bMl (L : List bZ) : ∀ out : List bZ, (∀ y ∈ out, okV y = true) → out.Pairwise (fun a b => ltV a b = true) →
  (L.foldl (fun out x => if okV x then pM x out else out) out).Pairwise (fun a b => ltV a b = true) ∧
  ∀ y, y ∈ L.foldl (fun out x => if okV x then pM x out else out) out ↔ y ∈ out ∨ (y ∈ L ∧ okV y = true) := by
 induction L with
 | nil => intro out _ hs; exact ⟨hs, by simp⟩
 | cons x L ih =>
  intro out hn hs;rw [List.foldl_cons];by_cases h : okV x = true
  ·rw [if_pos h];obtain ⟨h1, h2⟩ := ih (pM x out) (fun y hy => by rcases (xE x y out).1 hy with e | e; (subst e; exact h); exact hn y e) (zV x h out hn hs);refine ⟨h1, fun y => ?_⟩;rw [h2, xE, List.mem_cons];constructor
   ·rintro ((e | e) | ⟨e, e'⟩)
    ·subst e; exact .inr ⟨.inl rfl, h⟩
    ·exact .inl e
    ·exact .inr ⟨.inr e, e'⟩
   ·rintro (e | ⟨e | e, e'⟩)
    ·exact .inl (.inr e)
    ·exact .inl (.inl e)
    ·exact .inr ⟨e, e'⟩
  ·rw [if_neg h];obtain ⟨h1, h2⟩ := ih out hn hs;refine ⟨h1, fun y => ?_⟩;rw [h2, List.mem_cons];constructor
   ·rintro (e | ⟨e, e'⟩)
    ·exact .inl e
    ·exact .inr ⟨.inr e, e'⟩
   ·rintro (e | ⟨e | e, e'⟩)
    ·exact .inl e
    ·subst e; exact absurd e' h
    ·exact .inr ⟨e, e'⟩
theorem kZ (L : List bZ) : (cH L).Pairwise (fun a b => ltV a b = true) ∧ ∀ y, y ∈ cH L ↔ y ∈ L ∧ okV y = true := by
 obtain ⟨h1, h2⟩ := bMl L [] (by simp) List.Pairwise.nil;exact ⟨h1, fun y => by rw [cH, h2]; simp⟩
theorem uF (L : List bZ) : (cH L).length ≤ L.length := by
 have key : ∀ (L out : List bZ), (L.foldl (fun out x => if okV x then pM x out else out) out).length ≤ out.length + L.length := by
  intro L
  induction L with
  | nil => intro out; simp
  | cons x L ih =>
   intro out;rw [List.foldl_cons, List.length_cons]
   have hi : ∀ r : List bZ, (pM x r).length ≤ r.length + 1 := by
    intro r
    induction r with
    | nil => simp [pM]
    | cons y r ihr =>
     unfold pM;split
     ·rw [List.length_cons, List.length_cons]; omega
     ·split <;> simp
   split
   ·have := ih (pM x out);have := hi out;omega
   ·have := ih out;omega
 have := key L [];simpa [cH] using this
theorem aVu (A B : List bZ) (hA : A.Pairwise (fun a b => ltV a b = true)) (hB : B.Pairwise (fun a b => ltV a b = true)) (h : ∀ x, x ∈ A ↔ x ∈ B) : A = B := by
 induction A generalizing B with
 | nil =>
  cases B with
  | nil => rfl
  | cons b B => exact absurd ((h b).2 (List.mem_cons_self ..)) (by simp)
 | cons a A ih =>
  cases B with
  | nil => exact absurd ((h a).1 (List.mem_cons_self ..)) (by simp)
  | cons b B =>
   rw [List.pairwise_cons] at hA hB
   have hab : a = b := by
    rcases List.mem_cons.1 ((h a).1 (List.mem_cons_self ..)) with e | e
    ·exact e
    ·rcases List.mem_cons.1 ((h b).2 (List.mem_cons_self ..)) with e2 | e2
     ·exact e2.symm
     ·have := uW a b a (hA.1 b e2) (hB.1 a e);rw [mS] at this;cases this
   subst hab;rw [ih B hA.2 hB.2 fun x => ?_];constructor
   ·intro hx;rcases List.mem_cons.1 ((h x).1 (List.mem_cons_of_mem _ hx)) with e | e
    ·subst e;have := hA.1 x hx;rw [mS] at this;cases this
    ·exact e
   ·intro hx;rcases List.mem_cons.1 ((h x).2 (List.mem_cons_of_mem _ hx)) with e | e
    ·subst e;have := hB.1 x hx;rw [mS] at this;cases this
    ·exact e
theorem aKq (L M : List bZ) (h : ∀ x, x ∈ L ↔ x ∈ M) : cH L = cH M := by
 obtain ⟨a1, a2⟩ := kZ L;obtain ⟨b1, b2⟩ := kZ M;exact aVu _ _ a1 b1 fun x => by rw [a2, b2, h]
theorem zR (d : Array bZ) (hn : ∀ j, j < d.size → okV d[j]! = true) (hs : ∀ i j, i < j → j < d.size → ltV d[j]! d[i]! = false) :
  ∀ m, m ≤ d.size → (compactUpTo d m).Pairwise (fun a b => ltV a b = true) ∧ (∀ j, j < m → d[j]! ∈ compactUpTo d m) ∧ (∀ y ∈ compactUpTo d m, ∃ j, j < m ∧ y = d[j]!)
 | 0, _ => ⟨by simp [compactUpTo], by simp, by simp [compactUpTo]⟩
 | m + 1, hm => by
  obtain ⟨h1, h2, h3⟩ := zR d hn hs m (by omega);rw [compactUpTo_succ]
  cases hk : keeps d m with
  | true =>
   simp only [if_true];refine ⟨?_, ?_, ?_⟩
   ·rw [List.pairwise_append];refine ⟨h1, by simp, ?_⟩;intro a ha b hb;obtain rfl : b = d[m]! := (by simpa using hb);obtain ⟨j, hj, rfl⟩ := h3 a ha
    have hne : d[j]! ≠ d[m]! := by
     intro e;unfold keeps at hk;simp only [decide_eq_true_eq] at hk;rcases hk with hk | hk
     ·omega
     ·have hjm : d[m - 1]! = d[m]! := by
       by_cases hj1 : j = m - 1
       ·rw [← hj1]; exact e
       ·have a1 := hs j (m - 1) (by omega) (by omega);have a2 := hs (m - 1) m (by omega) (by omega);rw [e] at a1;exact uV _ _ (hn _ (by omega)) (hn _ (by omega)) a1 a2
      exact hk hjm.symm
    have a := hs j m hj (by omega)
    cases hl : ltV d[j]! d[m]! with
    | true => rfl
    | false => exact absurd (uV _ _ (hn _ (by omega)) (hn _ (by omega)) hl a) hne
   ·intro j hj;by_cases hjm : j < m
    ·exact List.mem_append_left _ (h2 j hjm)
    ·obtain rfl : j = m := (by omega);exact List.mem_append_right _ (by simp)
   ·intro y hy;rcases List.mem_append.1 hy with hy | hy
    ·obtain ⟨j, hj, e⟩ := h3 y hy;exact ⟨j, by omega, e⟩
    ·exact ⟨m, by omega, by simpa using hy⟩
  | false =>
   simp only [Bool.false_eq_true, if_false, List.append_nil];refine ⟨h1, ?_, fun y hy => by obtain ⟨j, hj, e⟩ := h3 y hy; exact ⟨j, by omega, e⟩⟩;intro j hj;by_cases hjm : j < m
   ·exact h2 j hjm
   ·obtain rfl : j = m := (by omega);unfold keeps at hk;simp only [decide_eq_false_iff_not, not_or, ne_eq, Classical.not_not] at hk;rw [hk.2];exact h2 (j - 1) (by omega)
theorem aAm (S L : List bZ) (hm : ∀ y, y ∈ S ↔ y ∈ L ∧ okV y = true) (hs : S.Pairwise (fun a b => ltV b a = false)) : compact S = cH L := by
 have hget : ∀ j, j < S.toArray.size → S.toArray[j]! ∈ S := fun j hj => by
  have hj' : j < S.length := (by simpa using hj);have : S.toArray[j]! = S[j] := (by simp [hj']);rw [this];exact List.getElem_mem hj'
 obtain ⟨h1, h2, h3⟩ := zR S.toArray (fun j hj => ((hm _).1 (hget j hj)).2) (fun i j hij hj => by
  have hj' : j < S.length := (by simpa using hj);have e1 : S.toArray[j]! = S[j] := (by simp [hj']);have e2 : S.toArray[i]! = S[i] := (by simp [show i < S.length by omega]);rw [e1, e2]
  exact List.pairwise_iff_getElem.1 hs i j (by omega) hj' hij) S.length (by simp)
 obtain ⟨g1, g2⟩ := kZ L;refine aVu _ _ h1 g1 fun x => ?_;rw [g2, ← hm];constructor
 ·intro hx;obtain ⟨j, hj, rfl⟩ := h3 x hx;exact hget j (by simpa using hj)
 ·intro hx;obtain ⟨j, hj, e⟩ := List.getElem_of_mem hx;have := h2 j hj;have e1 : S.toArray[j]! = S[j] := (by simp [hj]);rw [e1, e] at this;exact this
end
section
open Go.RowKit Go.Lib
set_option maxRecDepth 100000 in
set_option maxHeartbeats 4000000 in
theorem bVa (w : World) (p q : Option Addr) (c d : Nat) (L : List bZ) (h1 : lF w p L) (h2 : lF w q L) (hL : L.length ≤ 1000) : Calls Tryz.prog 24 #[.slice p L.length c, .slice q L.length d] w fun e w' => e = .returned (.bool true) ∧ Below w.heap.size w w' := by
 have H1 := lhid h1;have H2 := lhid h2;clear h1 h2;go_enter Tryz.func24, Tryz.ntmps24;go_wp2_with fail
 go_loopw [5] (fun i wr => ∃ k : Nat, k ≤ L.length ∧ i = .int .i64 k ∧ Below w.heap.size w wr) (fun i _ => L.length - (RowKit.intOf i).toNat)
 case atStart => exact ⟨0, Nat.zero_le _, rfl, Below.refl _ _⟩
 case round =>
  obtain ⟨i, hi, rfl, hbw⟩ := hrel;by_cases hlt : i < L.length
  ·obtain ⟨gl, rfl, a0, a1⟩ := H1.out i hlt;obtain ⟨gm, rfl, b0, b1⟩ := H2.out i hlt;obtain ⟨⟨x1, x2⟩, hx⟩ : ∃ x, L.getD i aN = x := ⟨_, rfl⟩;rw [hx] at a0 a1 b0 b1;dsimp only at a0 a1 b0 b1;have HS : Hid (∀ w', Below wr.heap.size wr w' → w'.cell? ⟨gl, i * 2, none⟩ = some (.int .i64 x1) ∧ w'.cell? ⟨gl, i * 2 + 1, none⟩ = some (.int .i64 x2) ∧ w'.cell? ⟨gm, i * 2, none⟩ = some (.int .i64 x1) ∧ w'.cell? ⟨gm, i * 2 + 1, none⟩ = some (.int .i64 x2) ∧ Below wr.heap.size wr w') := lhid (fun w' hb => ⟨cell_later (aB hbw hb) a0, cell_later (aB hbw hb) a1, cell_later (aB hbw hb) b0, cell_later (aB hbw hb) b1, hb⟩);clear hx a0 a1 b0 b1;(go_wp2_with fail);refine wpk HS [] (by kernel_rfl) fun hB0 hS0 => ?_;refine wF 0 ?_;refine wF 1 ?_;refine wF 2 ?_;refine wT 3 9 hS0 ?_;refine wF 4 ?_;refine wO 5 ?_;refine wO 6 ?_;refine wO 7 ?_;refine wO 8 ?_;refine wD ?_;clear hS0 HS;(go_wp2_with fail);go_roundw
   case rel => exact ⟨i + 1, by omega, by go_num, aB hbw hB0⟩
   case measure => simp [RowKit.intOf]; omega
  ·have hke : i = L.length := (by omega);subst hke;(go_wp2_with fail);go_ret;exact ⟨rfl, hbw⟩
end
section
def atW {α : Type} [BEq α] (t : List α) (v : α) : Nat := t.findIdx (· == v)
section
variable {α : Type}
def dI : List (List α) → Nat
 | [] => 1
 | t :: ts => t.length * dI ts
def InV : List (List α) → List α → Prop
 | [], [] => True
 | t :: ts, v :: vs => v ∈ t ∧ InV ts vs
 | _, _ => False
theorem InV.len : ∀ {ts : List (List α)} {vs : List α}, InV ts vs → vs.length = ts.length
 | [], [], _ => rfl
 | _ :: _, _ :: _, h => by rw [List.length_cons, List.length_cons, InV.len h.2]
theorem InV.first (d : α) : ∀ {ts : List (List α)}, (∀ t ∈ ts, t ≠ []) → InV ts (ts.map fun t => t.getD 0 d)
 | [], _ => trivial
 | t :: ts, h => by
  refine ⟨?_, InV.first d fun t ht => h t (List.mem_cons_of_mem _ ht)⟩;have h1 : 0 < t.length := List.length_pos_iff.2 (h t (List.mem_cons_self ..));show t.getD 0 d ∈ t;rw [show t.getD 0 d = t[0] by simp [h1]];exact List.getElem_mem h1
end
section
variable {α : Type} [BEq α] [LawfulBEq α]
theorem zN {t : List α} {v : α} : atW t v < t.length ↔ v ∈ t := by
 unfold atW;rw [List.findIdx_lt_length];constructor
 ·rintro ⟨x, hx, e⟩;rw [← eq_of_beq e];exact hx
 ·intro h;exact ⟨v, h, beq_self_eq_true v⟩
theorem aJo {t : List α} {v : α} (d : α) (h : v ∈ t) : t.getD (atW t v) d = v := by
 have h1 := zN.2 h;have h2 : (t[atW t v] == v) = true := List.findIdx_getElem (p := (· == v)) (w := h1);rw [show t.getD (atW t v) d = t[atW t v] by simp [h1]];exact eq_of_beq h2
def upV (d : α) : List (List α) → List α → List α × Bool
 | t :: ts, v :: vs => if (upV d ts vs).2 then (v :: (upV d ts vs).1, true) else if atW t v + 1 < t.length then (t.getD (atW t v + 1) d :: (upV d ts vs).1, true) else (t.getD 0 d :: (upV d ts vs).1, false)
 | _, _ => ([], false)
end
def upF : List Bool → List Bool × Bool
 | [] => ([], false)
 | c :: cs => if (upF cs).2 then (c :: (upF cs).1, true) else if c then (false :: (upF cs).1, false) else (true :: (upF cs).1, true)
theorem sT : ∀ c : List Bool, (upF c).1.length = c.length
 | [] => rfl
 | c :: cs => by
  unfold upF;have := sT cs;by_cases h : (upF cs).2 = true
  ·rw [if_pos h, List.length_cons, List.length_cons, this]
  ·rw [if_neg h];cases c <;> simp [this]
section
variable {α : Type}
end
section
variable {α : Type} [BEq α] [LawfulBEq α]
def goE (d : α) (T : List Bool → List (List α)) (c : List Bool) (vs : List α) : (List Bool × List α) × Bool :=
 if (upV d (T c) vs).2 then ((c, (upV d (T c) vs).1), true) else if (upF c).2 then (((upF c).1, (T (upF c).1).map fun t => t.getD 0 d), true) else (([], []), false)
end
end
section
def nN (n : Nat) : Nat := min n 1000000
theorem bGy (a b : Nat) : nN (nN a * b) = nN (a * b) := by
 unfold nN;by_cases h : a ≤ 1000000
 ·rw [Nat.min_eq_left h]
 ·have h1 : min a 1000000 = 1000000 := (by omega);rw [h1];rcases Nat.eq_zero_or_pos b with rfl | hb
  ·simp
  ·have e1 : 1000000 ≤ 1000000 * b := Nat.le_mul_of_pos_right _ hb;have e2 : 1000000 ≤ a * b := Nat.le_trans (by omega : 1000000 ≤ a) (Nat.le_mul_of_pos_right _ hb);rw [Nat.min_eq_right e1, Nat.min_eq_right e2]
theorem bLz (a b : Nat) : nN (a * nN b) = nN (a * b) := by rw [Nat.mul_comm, bGy, Nat.mul_comm]
theorem bMa (a s : Nat) (ha : 0 < a) : nN (a * (nN s + 1)) = nN (a * (s + 1)) := by
 by_cases h : s ≤ 1000000
 ·rw [show nN s = s by unfold nN; omega]
 ·have h1 : nN s = 1000000 := (by unfold nN; omega);rw [h1];have e1 : 1000000 ≤ a * (1000000 + 1) := Nat.le_trans (by omega) (Nat.le_mul_of_pos_left _ ha);have e2 : 1000000 ≤ a * (s + 1) := Nat.le_trans (by omega : 1000000 ≤ s + 1) (Nat.le_mul_of_pos_left _ ha);unfold nN;rw [Nat.min_eq_right e1, Nat.min_eq_right e2]
def aVz (x : Int × Nat) : Nat := if x.1 = 1 then x.2 else if x.1 = 3 then x.2 + 1 else 1
def aVo (l : List (Int × Nat)) : Nat := (l.map aVz).prod
end
section
open Go.RowKit Go.Lib
def tQ (key : Int) (t : bB) : Option aR := if (t.2.1 != 2) && (dL key t.2.2).2 then some (dL key t.2.2).1 else none
def dW (T : List bB) (x : Nat) (key : Int) (k : Nat) : List aR := ((List.range k).filter fun i => i != x).filterMap fun i => tQ key (T.getD i aM)
theorem aDd (T : List bB) (x : Nat) (key : Int) (k : Nat) : dW T x key (k + 1) = dW T x key k ++ (if k = x then [] else (tQ key (T.getD k aM)).toList) := by
 unfold dW;rw [List.range_succ, List.filter_append, List.filterMap_append];congr 1;by_cases h : k = x
 ·subst h;simp
 ·rw [if_neg h];have : (k != x) = true := (by simpa using h);simp only [List.filter_cons, this, if_true, List.filter_nil]
  cases hq : tQ key (T.getD k aM) with
  | none => rw [List.filterMap_cons_none (by exact hq)]; rfl
  | some v => rw [List.filterMap_cons_some (by exact hq)]; rfl
theorem aNa (key : Int) (t : bB) (v : aR) : tQ key t = some v ↔ dU key t = true ∧ v = (dL key t.2.2).1 := by
 unfold tQ dU;rw [bIu];by_cases h : ((t.2.1 != 2) && t.2.2.any (wrO key)) = true
 ·rw [if_pos h];constructor
  ·intro e;injection e with e;exact ⟨h, e.symm⟩
  ·rintro ⟨-, rfl⟩;rfl
 ·rw [if_neg h];constructor
  ·intro e;cases e
  ·rintro ⟨e, -⟩;exact absurd e h
theorem aYl (T : List bB) (x : Nat) (key : Int) (k : Nat) (v : aR) : v ∈ dW T x key k ↔ ∃ i, i < k ∧ i ≠ x ∧ dU key (T.getD i aM) = true ∧ v = (dL key (T.getD i aM).2.2).1 := by
 unfold dW;rw [List.mem_filterMap];constructor
 ·rintro ⟨i, hi, e⟩;rw [List.mem_filter, List.mem_range] at hi;obtain ⟨e1, e2⟩ := (aNa _ _ _).1 e;exact ⟨i, hi.1, by simpa using hi.2, e1, e2⟩
 ·rintro ⟨i, h1, h2, h3, h4⟩;exact ⟨i, by rw [List.mem_filter, List.mem_range]; exact ⟨h1, by simpa using h2⟩, (aNa _ _ _).2 ⟨h3, h4⟩⟩
theorem yT (T : List bB) (x : Nat) (key : Int) (k : Nat) : (dW T x key k).length ≤ k := by
 induction k with
 | zero => simp [dW]
 | succ k ih =>
  rw [aDd, List.length_append]
  have : (if k = x then [] else (tQ key (T.getD k aM)).toList).length ≤ 1 := by
   split
   ·simp
   ·cases tQ key (T.getD k aM) <;> simp
  omega
def aEb (h : aI) (p : dK) : OpM := (h.2.2.getD p.1 aM).2.2.getD p.2 cG
def gW (h : aI) (p : dK) : Int := (aEb h p).2.1
def jE (h : aI) (p : dK) : List aR := cH (aN :: dW h.2.2 p.1 (gW h p) h.2.2.length)
def jK (T : List bB) (key n : Int) : Bool := T.any fun t => t.2.2.any fun o => wrO key o && o.2.2.2 == n
theorem zL (T : List bB) (key n : Int) : jK T key n = true ↔ ∃ o ∈ T.flatMap (·.2.2), wrO key o = true ∧ o.2.2.2 = n := by
 unfold jK;rw [List.any_eq_true];constructor
 ·rintro ⟨t, ht, h⟩;obtain ⟨o, ho, h2⟩ := List.any_eq_true.1 h;rw [Bool.and_eq_true, beq_iff_eq] at h2;exact ⟨o, List.mem_flatMap.2 ⟨t, ht, ho⟩, h2⟩
 ·rintro ⟨o, ho, h2⟩;obtain ⟨t, ht, ho⟩ := List.mem_flatMap.1 ho;exact ⟨t, ht, List.any_eq_true.2 ⟨o, ho, by rw [Bool.and_eq_true, beq_iff_eq]; exact h2⟩⟩
theorem wH {α : Type} [DecidableEq α] {l m : List α} (hd : l.Nodup) (hs : ∀ x ∈ l, x ∈ m) : l.length ≤ m.length := by
 induction l generalizing m with
 | nil => exact Nat.zero_le _
 | cons a l ih =>
  rw [List.nodup_cons] at hd;have ha := hs a (List.mem_cons_self ..);have h1 := ih hd.2 (m := m.erase a) (fun x hx => (List.mem_erase_of_ne (fun (e : x = a) => hd.1 (by rw [← e]; exact hx))).2 (hs x (List.mem_cons_of_mem _ hx)));rw [List.length_erase_of_mem ha] at h1;have := List.length_pos_of_mem ha;rw [List.length_cons];omega
theorem bCt (T : List bB) (key : Int) : ∃ n : Nat, n ≤ (T.flatMap (·.2.2)).length ∧ jK T key (n : Int) = false := by
 refine Classical.byContradiction fun hno => ?_
 have h1 : ∀ n : Nat, n ≤ (T.flatMap (·.2.2)).length → jK T key (n : Int) = true := fun n hn => by
  cases hq : jK T key (n : Int) with
  | true => rfl
  | false => exact absurd ⟨n, hn, hq⟩ hno
 have h2 : ((List.range ((T.flatMap (·.2.2)).length + 1)).map fun n : Nat => (n : Int)).Nodup := by
  rw [List.nodup_iff_pairwise_ne, List.pairwise_map];exact List.pairwise_lt_range.imp fun {a b} hab e => by omega
 have h3 := wH (m := (T.flatMap (·.2.2)).map fun o => o.2.2.2) h2 (fun x hx => by
  obtain ⟨n, hn, rfl⟩ := List.mem_map.1 hx;obtain ⟨o, ho, -, e⟩ := (zL T key n).1 (h1 n (by have := List.mem_range.1 hn; omega))
  exact List.mem_map.2 ⟨o, ho, e⟩)
 rw [List.length_map, List.length_range, List.length_map] at h3;omega
def lT (T : List bB) (key : Int) : Nat → Nat → Nat
 | 0, k => k
 | m + 1, k => if jK T key (k : Int) then lT T key m (k + 1) else k
def kI (T : List bB) (key : Int) : Nat := lT T key ((T.flatMap (·.2.2)).length) 0
theorem aCs (T : List bB) (key : Int) : ∀ m k, (∃ n : Nat, k ≤ n ∧ n ≤ k + m ∧ jK T key (n : Int) = false) → jK T key (lT T key m k : Nat) = false ∧ k ≤ lT T key m k ∧ lT T key m k ≤ k + m ∧ ∀ j : Nat, k ≤ j → j < lT T key m k → jK T key (j : Int) = true
 | 0, k, ⟨n, h1, h2, h3⟩ => by
  obtain rfl : n = k := (by omega);exact ⟨h3, Nat.le_refl _, Nat.le_refl _, fun j hj hk => by simp only [lT] at hk; omega⟩
 | m + 1, k, ⟨n, h1, h2, h3⟩ => by
  unfold lT
  cases hw : jK T key (k : Int) with
  | false =>
   rw [if_neg (by simp)];exact ⟨hw, Nat.le_refl _, by omega, fun j hj hk => by omega⟩
  | true =>
   rw [if_pos rfl];have hkn : n ≠ k := fun e => (by rw [e, hw] at h3; cases h3);obtain ⟨i1, i2, i3, i4⟩ := aCs T key m (k + 1) ⟨n, by omega, by omega, h3⟩;refine ⟨i1, by omega, by omega, fun j hj hk => ?_⟩;by_cases e : j = k
   ·rw [e]; exact hw
   ·exact i4 j (by omega) hk
theorem oA (T : List bB) (key : Int) : jK T key (kI T key : Nat) = false ∧ kI T key ≤ (T.flatMap (·.2.2)).length ∧ ∀ j : Nat, j < kI T key → jK T key (j : Int) = true := by
 obtain ⟨n, hn, hw⟩ := bCt T key;obtain ⟨h1, -, h3, h4⟩ := aCs T key ((T.flatMap (·.2.2)).length) 0 ⟨n, Nat.zero_le _, by omega, hw⟩;exact ⟨h1, by unfold kI; omega, fun j hj => h4 j (Nat.zero_le _) hj⟩
theorem aXa (T : List bB) (key : Int) (n : Nat) (h : jK T key (n : Int) = false) (hb : ∀ j : Nat, j < n → jK T key (j : Int) = true) : kI T key = n := by
 obtain ⟨h1, -, h3⟩ := oA T key;rcases Nat.lt_trichotomy (kI T key) n with q | q | q
 ·rw [hb _ q] at h1; cases h1
 ·exact q
 ·rw [h3 _ q] at h; cases h
def tJ (h : aI) (key : Int) : aR := (1, (kI h.2.2 key : Nat))
def nB (h : aI) (p : dK) (c : Bool) : List aR := if c then (if (nE h p.1 p.2).2 then [(nE h p.1 p.2).1] else jE h p) ++ [tJ h (gW h p)] else [aN]
def bD (h : aI) (f : List Bool) : List (List aR) := (cY h).map fun p => nB h p ((aL h.2.2 f).getD p.1 false)
theorem qU (h : aI) (f : List Bool) : (bD h f).length = (cY h).length := by simp [bD]
def sA (h : aI) (f : List Bool) : bK := (f, (bD h f).map fun t => t.getD 0 aN)
def oW (h : aI) : bK := sA h (List.replicate (cA aP h).length false)
def nX (h : aI) (w : bK) : Prop := kX h w = true ∧ InV (bD h w.1) w.2
open Classical in
noncomputable def mB (h : aI) (w : bK) : bK × Bool := if nX h w then goE aN (bD h) w.1 w.2 else (([], []), false)
theorem aTz (h : aI) (p : dK) (c : Bool) : nB h p c ≠ [] := by
 unfold nB;cases c <;> simp
theorem size_append {α : Type} : ∀ a b : List (List α), dI (a ++ b) = dI a * dI b
 | [], b => by simp [dI]
 | t :: a, b => by rw [List.cons_append, dI, dI, size_append a b, Nat.mul_assoc]
theorem aSc (a b : List vW) : bY (a ++ b) = bY a ++ bY b := by simp [bY]
def zX (T : List bB) (i : Nat) : List dK := bY (itT i (T.getD i aM).2.2 (T.getD i aM).2.2.length)
theorem aYn {T : List bB} {i : Nat} {p : dK} (h : p ∈ zX T i) : p.1 = i := by
 unfold zX bY at h;obtain ⟨x, hx, rfl⟩ := List.mem_map.1 h;have h1 := (List.mem_filter.1 hx).1;unfold itT at h1;obtain ⟨k, -, rfl⟩ := List.mem_map.1 h1;rfl
theorem aYo (T : List bB) (n : Nat) : bY (itH T (n + 1)) = bY (itH T n) ++ zX T n := by
 rw [oD, aSc];rfl
def bFz (h : aI) (i : Nat) : Nat := dI ((zX h.2.2 i).map fun p => nB h p true)
def aFt (h : aI) : List (Int × Nat) := (List.range h.2.2.length).map fun i => ((h.2.2.getD i aM).2.1, bFz h i)
def bMy (h : aI) : Nat := if cZ h then nN (aVo (aFt h)) else 0
end
section
open Go.RowKit Go.Lib Go.Maps Go.WideMaps
def vG (v : Value) : Option (DataW Unit × List MemPlace) :=
 match v with
 | .agg cs => match cs.toList with
  | [.int .i64 a, .int .i64 b] => some (.agg [.lit (.int .i64 a), .lit (.int .i64 b)], [])
  | _ => none
 | _ => none
def zI (x : aR) : DataW Unit := .agg [.lit (.int .i64 x.1), .lit (.int .i64 x.2)]
def uI (x : aR) : Value := .agg #[.int .i64 x.1, .int .i64 x.2]
theorem bFv (x : aR) : vG (uI x) = some (zI x, []) := rfl
theorem aVy {v : Value} {y : DataW Unit × List MemPlace} (h : vG v = some y) : ∃ x : aR, v = uI x ∧ y = (zI x, []) := by
 unfold vG at h;split at h
 ·rename_i cs;split at h
  ·rename_i a b hl;injection h with h;refine ⟨(a, b), ?_, h.symm⟩;unfold uI;rw [show cs = #[Value.int .i64 a, Value.int .i64 b] from Array.toList_inj.1 hl]
  ·cases h
 ·cases h
theorem bFu {x y : aR} (h : zI x = zI y) : x = y := by
 unfold zI at h;injection h with h;injection h with h1 h2;injection h1 with h1;injection h1 with _ h1;injection h2 with h2 _;injection h2 with h2;injection h2 with _ h2;exact Prod.ext h1 h2
def qX (w : World) (b : Nat) (ks : List Int) (f : Int → aR) : Prop :=
 ∃ D : DataW Unit, w.ownsMap Tryz.prog 3 vG b ks.length D ∧ Maps.size D = ks.length ∧ (∀ j : Int, (Lit.int .i64 j).wf = true → Maps.has D (.int .i64 j) = decide (j ∈ ks)) ∧ ∀ j z, j ∈ ks → D.atKey (.int .i64 j) z = zI (f j)
theorem qX.at {w w' : World} {b : Nat} {ks : List Int} {f : Int → aR} (h : qX w b ks f) (e : w'.heap[b]? = w.heap[b]?) : qX w' b ks f := by
 obtain ⟨D, ⟨es, clock, hb, r⟩, h2⟩ := h;exact ⟨D, ⟨es, clock, e.trans hb, r⟩, h2⟩
theorem qX.lt {w : World} {b : Nat} {ks : List Int} {f : Int → aR} (h : qX w b ks f) : b < w.heap.size := by
 obtain ⟨D, h1, -⟩ := h;exact h1.lt
theorem qX.later {w w' : World} {b : Nat} {ks : List Int} {f : Int → aR} (h : qX w b ks f) (hb : Below w.heap.size w w') : qX w' b ks f := h.at (hb.block b h.lt)
theorem bFw (w : World) (f : Int → aR) : qX (w.alloc (.map #[] 0)) w.heap.size [] f :=
 ⟨.map [], World.ownsMap_made w _ _ _, rfl, fun j _ => by simp [Maps.has], fun j z hj => absurd hj List.not_mem_nil⟩
set_option maxRecDepth 10000 in
theorem bFx {w : World} {b : Nat} {ks : List Int} {f : Int → aR} (h : qX w b ks f) (hn : ks.length < 1000000) (k : Int) (hk : k ∉ ks) (h1k : -9223372036854775808 ≤ k) (h2k : k ≤ 9223372036854775807) (x : aR) :
  ∃ w', (Instr.mapUpdate 107 (.map (some b)) (.int .i64 k) (uI x)).run Tryz.prog w = .ok () w' ∧ qX w' b (ks ++ [k]) (fun j => if j = k then x else f j) ∧ w.mapTurned w' b := by
 obtain ⟨D, h1, h2, h3, h4⟩ := h;have hkw : (Lit.int .i64 k).wf = true := WalkArith.wf_i64 (by omega);obtain ⟨w', r1, r2, r3⟩ := h1.store (int_keyed Tryz.underlying3) Tryz.underlying107 (by unfold maxLen; omega) (keyOf_int_mk Tryz.underlying3 hkw) (bFv x);have hK : WideAt.IsKeyLit (.int .i64 k) := trivial;refine ⟨w', r1, ⟨_, by rw [List.length_append]; exact r2, ?_, fun j hj => ?_, fun j z hj => ?_⟩, r3⟩
 ·rw [size_put (h1.tidy (int_keyed Tryz.underlying3)), h3 k hkw, h2, if_neg (by simpa using hk)];simp
 ·by_cases e : j = k
  ·subst e;rw [has_put_same h1.isMap hK];simp
  ·rw [has_put_other (by intro h; cases h; exact e rfl), h3 j hj];simp [e]
 ·dsimp only;by_cases e : j = k
  ·subst e;rw [if_pos rfl];exact atKey_put_same h1.isMap hK _ _
  ·rw [if_neg e, atKey_put_other (by intro h; cases h; exact e rfl)];exact h4 j z (by simpa [e] using hj)
theorem qX.congr {w : World} {b : Nat} {ks : List Int} {f g : Int → aR} (h : qX w b ks f) (hfg : ∀ j ∈ ks, f j = g j) : qX w b ks g := by
 obtain ⟨D, h1, h2, h3, h4⟩ := h;exact ⟨D, h1, h2, h3, fun j z hj => by rw [h4 j z hj, hfg j hj]⟩
end
section
open Go.RowKit Go.Lib Go.Maps Go.WideMaps
def dJ (w : World) (b n : Nat) (f : Int → Int) : Prop :=
 ∃ D : DataW Unit, w.ownsMap Tryz.prog 2 (plainElem Tryz.prog 3) b n D ∧ ∀ k, (Lit.int .i64 k).wf = true → D.atKey (.int .i64 k) (.lit (.int .i64 0)) = .lit (.int .i64 (f k))
theorem bBj (w : World) : (zeroValue 3).run Tryz.prog w = .ok (.int .i64 0) w := by kernel_rfl
theorem dJ.at {w w' : World} {b n : Nat} {f : Int → Int} (h : dJ w b n f) (e : w'.heap[b]? = w.heap[b]?) : dJ w' b n f := by
 obtain ⟨D, ⟨es, clock, hb, r⟩, h2⟩ := h;exact ⟨D, ⟨es, clock, e.trans hb, r⟩, h2⟩
theorem dJ.lt {w : World} {b n : Nat} {f : Int → Int} (h : dJ w b n f) : b < w.heap.size := by
 obtain ⟨D, h1, -⟩ := h;exact h1.lt
theorem dJ.later {w w' : World} {b n : Nat} {f : Int → Int} (h : dJ w b n f) (hb : Below w.heap.size w w') : dJ w' b n f := h.at (hb.block b h.lt)
theorem dJ.kept {w w' : World} {row : Option Nat} {b n : Nat} {f : Int → Int} (h : dJ w b n f) (hg : w.grownBy w' row) (hne : some b ≠ row) : dJ w' b n f := h.at (hg.block b h.lt hne)
theorem dJ.alloc {w : World} {b n : Nat} {f : Int → Int} (h : dJ w b n f) (o : Obj) : dJ (w.alloc o) b n f := h.kept (World.grownBy_alloc w o none) (by simp)
theorem aRk (w : World) : dJ (w.alloc (.map #[] 0)) w.heap.size 0 (fun _ => 0) :=
 ⟨.map [], World.ownsMap_made w _ _ _, fun k _ => by simp [DataW.atKey]⟩
theorem dJ.row {w : World} {b n base size m : Nat} {f : Int → Int} {e : TypeId} {v : Value} {xs : List Value} (h : dJ w b n f) (ho : w.ownsRow base e size v m xs) : v.ownBlock ≠ some b := by
 intro he;obtain ⟨D, ⟨es, clock, hb, r⟩, h2⟩ := h;rcases ho.2 with ⟨rfl, -⟩ | ⟨g, cap, cur, rfl, -, hw, -⟩
 ·cases he
 ·have e1 : g = b := (by simpa [Value.ownBlock] using he);subst e1;rw [hw] at hb;cases hb
set_option maxRecDepth 10000 in
theorem zU {w : World} {b n : Nat} {f : Int → Int} (h : dJ w b n f) (k : Int) (h1k : -9223372036854775808 ≤ k) (h2k : k ≤ 9223372036854775807) : (Instr.lookup 112 (.map (some b)) (.int .i64 k) false).run Tryz.prog w = .ok (.int .i64 (f k)) w := by
 obtain ⟨D, h1, h2⟩ := h;have hk : (Lit.int .i64 k).wf = true := WalkArith.wf_i64 (by omega);obtain ⟨c, hr, hat, -⟩ := h1.lookup_int (int_keyed Tryz.underlying2) Tryz.underlying112 Tryz.underlying3 (bBj w) (keyOf_int_mk Tryz.underlying2 hk)
 have e : f k = c := by
  have := (h2 k hk).symm.trans hat;injection this with this;injection this
 rw [e];exact hr
set_option maxRecDepth 10000 in
theorem aRl {w : World} {b n : Nat} {f : Int → Int} (h : dJ w b n f) (hn : n < maxLen) (k c : Int) (h1k : -9223372036854775808 ≤ k) (h2k : k ≤ 9223372036854775807) (h1c : -9223372036854775808 ≤ c) (h2c : c ≤ 9223372036854775807) :
  ∃ w', (Instr.mapUpdate 112 (.map (some b)) (.int .i64 k) (.int .i64 c)).run Tryz.prog w = .ok () w' ∧ dJ w' b (n + 1) (fun j => if j = k then c else f j) ∧ w.mapTurned w' b := by
 obtain ⟨D, h1, h2⟩ := h;have hk : (Lit.int .i64 k).wf = true := WalkArith.wf_i64 (by omega);obtain ⟨w', r1, r2, r3⟩ := h1.store (int_keyed Tryz.underlying2) Tryz.underlying112 hn (keyOf_int_mk Tryz.underlying2 hk) (plainElem_int Tryz.underlying3 (WalkArith.wf_i64 (n := c) (by omega)));refine ⟨w', r1, ⟨_, r2, fun j hj => ?_⟩, r3⟩;dsimp only;by_cases e : j = k
 ·subst e;rw [if_pos rfl];exact atKey_put_same h1.isMap (show WideAt.IsKeyLit (.int .i64 j) from trivial) _ _
 ·rw [if_neg e];rw [atKey_put_other (by intro h; cases h; exact e rfl)];exact h2 j hj
theorem dJ.turn {w w' : World} {b b' n : Nat} {f : Int → Int} (h : dJ w b n f) (ht : w.mapTurned w' b') (hne : b ≠ b') : dJ w' b n f := h.kept ht.grown (by simpa using hne)
end
section
theorem nQ {α : Type} (L : List α) (d : α) (k : Nat) (hk : k < L.length) : L.drop k = L.getD k d :: L.drop (k + 1) := by
 rw [show L.getD k d = L[k] by simp [hk]];exact List.drop_eq_getElem_cons hk
theorem vD {α : Type} (L : List α) (d : α) (k : Nat) (hk : k < L.length) : L.take (k + 1) = L.take k ++ [L.getD k d] := by
 rw [List.take_add_one];simp [hk]
theorem aIu {α : Type} (A X : List α) (y z : α) : (A ++ y :: X).set A.length z = A ++ z :: X := by
 rw [List.set_append];simp
def stL (ts : List (List aR)) (vs : List aR) (k : Nat) : List aR := vs.take k ++ (upV aN (ts.drop k) (vs.drop k)).1
def upB (ts : List (List aR)) (vs : List aR) (k : Nat) : Bool := (upV aN (ts.drop k) (vs.drop k)).2
theorem aVw (t : List aR) (ts : List (List aR)) (v : aR) (vs : List aR) : upV aN (t :: ts) (v :: vs) = if (upV aN ts vs).2 then (v :: (upV aN ts vs).1, true) else if atW t v + 1 < t.length then (t.getD (atW t v + 1) aN :: (upV aN ts vs).1, true) else (t.getD 0 aN :: (upV aN ts vs).1, false) := rfl
theorem aPs {ts : List (List aR)} {vs : List aR} (hl : vs.length = ts.length) {k : Nat} (hk : k < ts.length) (hb : upB ts vs (k + 1) = false) (hin : vs.getD k aN ∈ ts.getD k []) :
  stL ts vs k = (stL ts vs (k + 1)).set k ((ts.getD k []).getD ((atW (ts.getD k []) (vs.getD k aN) + 1) % (ts.getD k []).length) aN) ∧ upB ts vs k = decide (0 < (atW (ts.getD k []) (vs.getD k aN) + 1) % (ts.getD k []).length) := by
 have hkv : k < vs.length := (by omega);have h1 := zN.2 hin;unfold stL upB at *;rw [nQ ts [] k hk, nQ vs aN k hkv, aVw, hb, vD vs aN k hkv];obtain ⟨X, hX⟩ : ∃ X, (upV aN (ts.drop (k + 1)) (vs.drop (k + 1))).1 = X := ⟨_, rfl⟩;rw [hX];have hA : (vs.take k).length = k := by rw [List.length_take]; omega
 have hs : ∀ z, (vs.take k ++ [vs.getD k aN] ++ X).set k z = vs.take k ++ z :: X := fun z => by
  have := aIu (vs.take k) X (vs.getD k aN) z;rw [hA] at this;rw [List.append_assoc];exact this
 rw [if_neg (by simp), hs];by_cases h2 : atW (ts.getD k []) (vs.getD k aN) + 1 < (ts.getD k []).length
 ·rw [if_pos h2, Nat.mod_eq_of_lt h2];exact ⟨rfl, by simp⟩
 ·rw [if_neg h2, show atW (ts.getD k []) (vs.getD k aN) + 1 = (ts.getD k []).length by omega, Nat.mod_self];exact ⟨rfl, by simp⟩
theorem aPq {ts : List (List aR)} {vs : List aR} (hl : vs.length = ts.length) : ∀ {k : Nat}, k ≤ ts.length → upB ts vs k = true → upV aN ts vs = (stL ts vs k, true)
 | 0, _, h => by
  unfold stL upB at *;rw [List.drop_zero, List.drop_zero] at *;rw [List.take_zero, List.nil_append];exact Prod.ext rfl h
 | k + 1, hk, h => by
  have hkv : k < vs.length := (by omega);have hkt : k < ts.length := by omega
  have h0 : upB ts vs k = true ∧ stL ts vs k = stL ts vs (k + 1) := by
   unfold stL upB at *;rw [nQ ts [] k hkt, nQ vs aN k hkv, aVw, h, vD vs aN k hkv];exact ⟨rfl, by simp⟩
  rw [← h0.2];exact aPq hl (by omega) h0.1
theorem vE {ts : List (List aR)} {vs : List aR} (hl : vs.length = ts.length) : stL ts vs ts.length = vs ∧ upB ts vs ts.length = false := by
 unfold stL upB;rw [List.drop_length, ← hl, List.drop_length, List.take_length];exact ⟨List.append_nil _, rfl⟩
def stF (c : List Bool) (k : Nat) : List Bool := c.take k ++ (upF (c.drop k)).1
def fB (c : List Bool) (k : Nat) : Bool := (upF (c.drop k)).2
theorem aPn (c : Bool) (cs : List Bool) : upF (c :: cs) = if (upF cs).2 then (c :: (upF cs).1, true) else if c then (false :: (upF cs).1, false) else (true :: (upF cs).1, true) := rfl
theorem bFt {c : List Bool} {k : Nat} (hk : k < c.length) (hb : fB c (k + 1) = false) :
  stF c k = (stF c (k + 1)).set k (!c.getD k false) ∧ fB c k = (!c.getD k false) ∧ (stF c (k + 1)).getD k false = c.getD k false := by
 unfold stF fB at *;rw [nQ c false k hk, aPn, hb, vD c false k hk];obtain ⟨X, hX⟩ : ∃ X, (upF (c.drop (k + 1))).1 = X := ⟨_, rfl⟩;rw [hX];have hA : (c.take k).length = k := by rw [List.length_take]; omega
 have hs : ∀ z, (c.take k ++ [c.getD k false] ++ X).set k z = c.take k ++ z :: X := fun z => by
  have := aIu (c.take k) X (c.getD k false) z;rw [hA] at this;rw [List.append_assoc];exact this
 have hg : (c.take k ++ [c.getD k false] ++ X).getD k false = c.getD k false := by
  rw [List.append_assoc, List.getD_eq_getElem?_getD, List.getElem?_append_right (by omega), hA];simp
 rw [if_neg (by simp), hs];refine ⟨?_, ?_, hg⟩
 ·cases c.getD k false <;> rfl
 ·cases c.getD k false <;> rfl
theorem aPo {c : List Bool} : ∀ {k : Nat}, k ≤ c.length → fB c k = true → upF c = (stF c k, true)
 | 0, _, h => by
  unfold stF fB at *;rw [List.drop_zero] at *;rw [List.take_zero, List.nil_append];exact Prod.ext rfl h
 | k + 1, hk, h => by
  have hkt : k < c.length := by omega
  have h0 : fB c k = true ∧ stF c k = stF c (k + 1) := by
   unfold stF fB at *;rw [nQ c false k hkt, aPn, h, vD c false k hkt];exact ⟨rfl, by simp⟩
  rw [← h0.2];exact aPo (by omega) h0.1
theorem zH (c : List Bool) : stF c c.length = c ∧ fB c c.length = false := by
 unfold stF fB;rw [List.drop_length, List.take_length];exact ⟨List.append_nil _, rfl⟩
theorem aJx : ∀ {ts : List (List aR)} {vs : List aR}, vs.length = ts.length → (InV ts vs ↔ ∀ i, i < ts.length → vs.getD i aN ∈ ts.getD i [])
 | [], [], _ => ⟨fun _ i hi => absurd hi (Nat.not_lt_zero i), fun _ => trivial⟩
 | [], _ :: _, h => by cases h
 | _ :: _, [], h => by cases h
 | t :: ts, v :: vs, h => by
  have ih := aJx (ts := ts) (vs := vs) (by simpa using h);constructor
  ·rintro ⟨h1, h2⟩ i hi
   cases i with
   | zero => exact h1
   | succ i => exact ih.1 h2 i (by simpa using hi)
  ·intro h1;exact ⟨h1 0 (by simp), ih.2 fun i hi => h1 (i + 1) (by simpa using hi)⟩
theorem aVd {h : aI} {w : bK} (hn : ¬ nX h w) : mB h w = (([], []), false) := by
 unfold mB;rw [if_neg hn]
theorem bDs {h : aI} {w : bK} (hn : nX h w) : mB h w = goE aN (bD h) w.1 w.2 := by
 unfold mB;rw [if_pos hn]
end
end Go.Proofs.YtdfegfagedeilaaGreatDoor
