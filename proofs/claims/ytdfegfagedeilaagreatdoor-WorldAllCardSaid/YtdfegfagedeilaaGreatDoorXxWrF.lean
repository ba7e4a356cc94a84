/-
  Layer 15 (writer), the program: a number that no write of a key has, walked. No conditions but that unicode/utf8's two tables are as their initialisers lay them.
-/
import Derived.Test.YtdfegfagedeilaaGreatDoorXLm
namespace Go.Proofs.YtdfegfagedeilaaGreatDoor
open Go.RowKit Go.Lib Go.Maps
def aAk (f : Int → Int) (l : List OpM) (key : Int) : Prop := ∀ x, 0 ≤ f x ∧ f x ≤ l.length ∧ (0 < f x ↔ ∃ o ∈ l, wrO key o = true ∧ o.2.2.2 = x)
theorem aAk.start (key : Int) : aAk (fun _ => 0) [] key := fun _ => ⟨Int.le_refl _, Int.le_refl _, ⟨fun (h : (0 : Int) < 0) => absurd h (Int.lt_irrefl 0), fun ⟨_, h, _⟩ => absurd h List.not_mem_nil⟩⟩
theorem aAk.same {f : Int → Int} {l : List OpM} {key : Int} (h : aAk f l key) (o : OpM) (ho : wrO key o = false) : aAk f (l ++ [o]) key := fun x => by
 obtain ⟨h1, h2, h3⟩ := h x;refine ⟨h1, by rw [List.length_append]; simp; omega, h3.trans ⟨fun ⟨q, hq, e⟩ => ⟨q, List.mem_append_left _ hq, e⟩, fun ⟨q, hq, e⟩ => ?_⟩⟩;rcases List.mem_append.1 hq with hq | hq
 ·exact ⟨q, hq, e⟩
 ·obtain rfl : q = o := (by simpa using hq);rw [ho] at e;cases e.1
theorem aAk.more {f : Int → Int} {l : List OpM} {key : Int} (h : aAk f l key) (o : OpM) (ho : wrO key o = true) : aAk (fun j => if j = o.2.2.2 then f o.2.2.2 + 1 else f j) (l ++ [o]) key := fun x => by
 obtain ⟨h1, h2, h3⟩ := h x;dsimp only;by_cases e : x = o.2.2.2
 ·rw [if_pos e, ← e];refine ⟨by omega, by rw [List.length_append]; simp; omega, fun _ => ⟨o, by simp, ho, e.symm⟩, fun _ => by omega⟩
 ·rw [if_neg e];refine ⟨h1, by rw [List.length_append]; simp; omega, h3.trans ⟨fun ⟨q, hq, e⟩ => ⟨q, List.mem_append_left _ hq, e⟩, fun ⟨q, hq, e2⟩ => ?_⟩⟩;rcases List.mem_append.1 hq with hq | hq
  ·exact ⟨q, hq, e2⟩
  ·obtain rfl : q = o := (by simpa using hq);exact absurd e2.2.symm e
theorem zT (T : List bB) (n : Nat) (hn : n < T.length) : (T.take (n + 1)).flatMap (·.2.2) = (T.take n).flatMap (·.2.2) ++ (T.getD n aM).2.2 := by
 rw [List.take_add_one, List.flatMap_append];congr 1;simp [hn]
theorem sF (T : List bB) (hT : ∀ t ∈ T, t.2.2.length ≤ 20) : ∀ n, n ≤ T.length → ((T.take n).flatMap (·.2.2)).length ≤ n * 20
 | 0, _ => by simp
 | n + 1, hn => by
  rw [zT T n (by omega), List.length_append];have h1 := sF T hT n (by omega)
  have h2 := hT (T.getD n aM) (by
   rw [show T.getD n aM = T[n] by simp [show n < T.length by omega]]
   exact List.getElem_mem _)
  omega
set_option maxRecDepth 100000 in
set_option maxHeartbeats 4000000 in
theorem aMk {w : World} {v : Value} {h : aI} (key : Int) (hv : cJ w v h) (hm : cU h) (hmm : cZ h = true) (hk0 : 0 ≤ key) (hk1 : key < h.2.1.length) (hN : ∀ o ∈ bU h, -9223372036854775808 ≤ o.2.2.2 ∧ o.2.2.2 ≤ 9223372036854775807) (hT : Lib.Utf8Tabs 1 2 w) :
  Calls Tryz.prog 65 #[v, .int .i64 key] w fun e w' => e = .returned (.agg #[.int .i64 1, .int .i64 (kI h.2.2 key : Nat)]) ∧ Below w.heap.size w w' := by
 have H0 := lhid hv;obtain ⟨v0, v1, v2, rfl, ⟨p0, c0, rfl, -⟩, ⟨p1, c1, rfl, -⟩, ⟨p2, c2, rfl, k2⟩⟩ := hv;have hal := ((Below.refl w.heap.size w).alloc (Nat.le_refl _) (.cells #[.slice p0 h.1.length c0, .slice p1 h.2.1.length c1, .slice p2 h.2.2.length c2] 25)).alloc (by simp) (.cells #[.int .i64 0, .int .i64 0] 57);have hbx := (Blk.new w 25 [.slice p0 h.1.length c0, .slice p1 h.2.1.length c1, .slice p2 h.2.2.length c2]).alloc (.cells #[.int .i64 0, .int .i64 0] 57);have hvx := Blk.new (w.alloc (.cells #[.slice p0 h.1.length c0, .slice p1 h.2.1.length c1, .slice p2 h.2.2.length c2] 25)) 57 [.int .i64 0, .int .i64 0];simp only [World.size_alloc] at hvx;have hmy := bUd (H0.out.below hal) hm (Utf8Tabs_below hT hal);rw [kT hmm] at hmy;have HMy := lhid hmy;have hMH := (dA h).1 hmm;have h40 : h.2.2.length ≤ 40 := hMH.n2
 have HT20 : Hid (∀ t ∈ h.2.2, t.2.2.length ≤ 20) := lhid (fun t ht => by
  have := hMH.txn t ht;unfold bQ at this;simp only [Bool.and_eq_true, decide_eq_true_eq] at this
  exact this.2.2.2)
 have HFl := lhid (sF h.2.2 HT20.out);have HFs := lhid (oA h.2.2 key);have HWi := lhid (zL h.2.2 key);have HF1 := lhid (aXa h.2.2 key);have hrm := @run_makeMap Tryz.prog;have d1 : decide (key < 0) = false := (by simp; omega);have d2 : decide (key ≥ (h.2.1.length : Int)) = false := (by simp; omega);have HX := lhid k2
 have HNn := lhid (fun n (hn : n < h.2.2.length) o (ho : o ∈ (h.2.2.getD n aM).2.2) => hN o (List.mem_flatMap.2 ⟨_, (by
  rw [show h.2.2.getD n aM = h.2.2[n] by simp [hn]]
  exact List.getElem_mem hn : h.2.2.getD n aM ∈ h.2.2), ho⟩))
 have HAL := lhid hal;have HBX := lhid hbx;have HVX := lhid hvx;clear H0 hm hT hal hbx hvx hmy hMH k2 hN;go_enter Tryz.func65, Tryz.ntmps65;(go_wp2_with fail);refine HMy.out.mono ?_;rintro e w1 ⟨rfl, hb1⟩;have HB1 := lhid (aB HAL.out hb1);have HBX1 := lhid (HBX.out.later hb1);have HVX1 := lhid (HVX.out.later hb1);have hbe : w.heap.size ≤ w1.heap.size := HB1.out.size;have hv1 : w.heap.size + 1 < w1.heap.size := HVX1.out.lt;have HB2 := lhid (HB1.out.alloc hbe (.map #[] 0));have HBX2 := lhid (HBX1.out.alloc (.map #[] 0));have HVX2 := lhid (HVX1.out.alloc (.map #[] 0));have HM2 := lhid (aRk w1);have y1 := HBX1.out.cell 1 rfl;clear hb1 HMy HAL HBX HVX HB1 HBX1 HVX1;(go_upto_region 4 with fail);clear y1;obtain ⟨W2, hW2⟩ : ∃ q, w1.alloc (.map #[] 0) = q := ⟨_, rfl⟩;rw [hW2] at HB2 HBX2 HVX2 HM2;(try rw [hW2]);obtain ⟨bm, hbm⟩ : ∃ q, w1.heap.size = q := ⟨_, rfl⟩;obtain ⟨gv, hgv⟩ : ∃ q, w.heap.size + 1 = q := ⟨_, rfl⟩;obtain ⟨gh, hgh⟩ : ∃ q, w.heap.size = q := ⟨_, rfl⟩;rw [hbm] at HM2;(try simp only [hbm]);rw [hgv] at HVX2;(try simp only [hgv]);rw [hgh] at HBX2;try simp only [hgh]
 have HNe : Hid (gh < bm ∧ gv < bm ∧ w.heap.size ≤ bm ∧ w.heap.size ≤ gv ∧ bm < W2.heap.size) := lhid (by
  have h1 := HM2.out.lt
  omega)
 clear hrm hW2 hbm hgv hgh hbe hv1;have x2 := HBX2.out.cell 2 rfl;(go_wp2_with fail);clear x2
 go_loopw [30] (fun i wr => ∃ n : Nat, n ≤ h.2.2.length ∧ i = .int .i64 n ∧ (∃ c f, dJ wr bm c f ∧ c ≤ ((h.2.2.take n).flatMap (·.2.2)).length ∧ aAk f ((h.2.2.take n).flatMap (·.2.2)) key) ∧ W2.grownBy wr (some bm)) (fun i _ => h.2.2.length - (RowKit.intOf i).toNat)
 case atStart => exact ⟨0, Nat.zero_le _, rfl, ⟨0, _, HM2.out, Nat.zero_le _, aAk.start key⟩, ⟨rfl, rfl, rfl, Nat.le_refl _, fun _ _ _ => rfl⟩⟩
 case round =>
  obtain ⟨n, hn, rfl, ⟨c, f, him, hc, hcw⟩, hgr⟩ := hrel;by_cases hlt : n < h.2.2.length
  ·obtain ⟨g, sv, rfl, a1, a2, a3, a4⟩ := HX.out n hlt
   have HBr : Hid (Below w.heap.size w wr) := lhid (HB2.out.grown hgr HB2.out.size (fun q hq => by
    injection hq with hq;have := HNe.out
    omega))
   have hfl1 := HFl.out (n + 1) hlt;have hfn := zT h.2.2 n hlt;have b1 := cell_later HBr.out a1;have b2 := cell_later HBr.out a2;have b3 := cell_later HBr.out a3;have hnn := HNn.out n hlt;obtain ⟨⟨ts, tf, tl⟩, ht⟩ : ∃ q, h.2.2.getD n aM = q := ⟨_, rfl⟩;rw [ht] at b1 b2 a4 hfn hnn;dsimp only at b1 b2 a4 hfn hnn;obtain ⟨L0, hL0⟩ : ∃ L0, (h.2.2.take n).flatMap (·.2.2) = L0 := ⟨_, rfl⟩;rw [hL0] at hc hcw hfn;rw [hfn] at hfl1;rw [List.length_append] at hfl1;have HFn := lhid hfn;have HIm := lhid him;have HCw := lhid hcw;have HGr := lhid hgr;obtain ⟨p3, c3, rfl, -, ho⟩ := a4;have HO := lhid (fun w' (hb : Below w.heap.size w w') => ho.below hb);have HNt := lhid hnn;have HA3 := lhid ((Below.refl wr.heap.size wr).alloc (Nat.le_refl _) (.cells #[.int .i64 ts, .int .i64 tf, .slice p3 tl.length c3] 67));have HTx := lhid (Blk.new wr 67 [.int .i64 ts, .int .i64 tf, .slice p3 tl.length c3]);have HIm3 := lhid (HIm.out.alloc (.cells #[.int .i64 ts, .int .i64 tf, .slice p3 tl.length c3] 67));clear a1 a2 a3 hnn hL0 hfn him hcw hgr ho HIm ht;(go_upto_region 7 with fail);obtain ⟨W3, hW3⟩ : ∃ q, wr.alloc (.cells #[.int .i64 ts, .int .i64 tf, .slice p3 tl.length c3] 67) = q := ⟨_, rfl⟩;rw [hW3] at HA3 HTx HIm3;(try rw [hW3]);clear hW3;have t2 := HTx.out.cell 2 rfl;have HG3 := lhid (HGr.out.trans (kQ HA3.out (row := some bm)));clear b1 b2 b3 HGr;(go_wp2_with fail);clear t2;obtain ⟨wo, rfl⟩ : ∃ q, q = wr := ⟨_, rfl⟩
   go_loopw [37] (fun i wx => ∃ m : Nat, m ≤ tl.length ∧ i = .int .i64 m ∧ (∃ c f, dJ wx bm c f ∧ c ≤ (L0 ++ tl.take m).length ∧ aAk f (L0 ++ tl.take m) key) ∧ W2.grownBy wx (some bm)) (fun i _ => tl.length - (RowKit.intOf i).toNat)
   case atStart => exact ⟨0, Nat.zero_le _, rfl, ⟨c, f, HIm3.out, by simp; omega, by simpa using HCw.out⟩, HG3.out⟩
   case round =>
    obtain ⟨m, hml, rfl, ⟨c', f', him', hc', hcw'⟩, hgr'⟩ := hrel;by_cases hlm : m < tl.length
    ·have HBx : Hid (Below w.heap.size w wr) := lhid (HB2.out.grown hgr' HB2.out.size (fun q hq => by
      injection hq with hq;have := HNe.out
      omega))
     obtain ⟨go, rfl, q0, q1, q2, q3⟩ := HO.out wr HBx.out m hlm;have hts := aIz tl m hlm
     have hno := HNt.out (tl.getD m cG) (by
      rw [show tl.getD m cG = tl[m] by simp [hlm]]
      exact List.getElem_mem hlm)
     obtain ⟨⟨o1, o2, o3, o4⟩, hop⟩ : ∃ q, tl.getD m cG = q := ⟨_, rfl⟩;rw [hop] at q0 q1 q2 q3 hts hno;dsimp only at q0 q1 q2 q3 hno
     have hll : (L0 ++ tl.take m).length ≤ 800 := by
      rw [List.length_append, List.length_take];omega
     obtain ⟨L1, hL1⟩ : ∃ L1, L0 ++ tl.take m = L1 := ⟨_, rfl⟩;have hL2 : L0 ++ tl.take (m + 1) = L1 ++ [(o1, o2, o3, o4)] := (by rw [hts, ← List.append_assoc, hL1]);rw [hL1] at hc' hcw' hll;have HL2 := lhid hL2;have HIm5 := lhid (him'.alloc (.cells #[.bool o1, .int .i64 o2, .int .i64 o3, .int .i64 o4] 82));have HCw5 := lhid hcw';have HA5 := lhid ((Below.refl wr.heap.size wr).alloc (Nat.le_refl _) (.cells #[.bool o1, .int .i64 o2, .int .i64 o3, .int .i64 o4] 82));have HOx := lhid (Blk.new wr 82 [.bool o1, .int .i64 o2, .int .i64 o3, .int .i64 o4]);have HG5 := lhid (hgr'.trans (kQ HA5.out (row := some bm)));clear hts hop hL1 hL2 him' hcw' hgr' HBx;(go_upto_region 10 with fail);obtain ⟨W5, hW5⟩ : ∃ q, wr.alloc (.cells #[.bool o1, .int .i64 o2, .int .i64 o3, .int .i64 o4] 82) = q := ⟨_, rfl⟩;rw [hW5] at HIm5 HA5 HOx HG5;(try rw [hW5]);clear hW5 q0 q1 q2 q3;have t0 := HOx.out.cell 0 rfl;have t1 := HOx.out.cell 1 rfl;have t3 := HOx.out.cell 3 rfl
     cases o1 with
     | false =>
      have HCn := lhid (HCw5.out.same (false, o2, o3, o4) rfl);(go_wp2_with fail);go_roundw
      case rel => exact ⟨m + 1, by omega, by go_num, ⟨c', f', HIm5.out, by rw [HL2.out, List.length_append]; omega, by rw [HL2.out]; exact HCn.out⟩, HG5.out⟩
      case measure => simp [RowKit.intOf]; omega
     | true =>
      by_cases hke : o2 = key
      ·have e0 : (o2 == key) = true := (by simpa using hke);have HCn := lhid (HCw5.out.more (true, o2, o3, o4) (by unfold wrO; simp [hke]));have hfo := HCw5.out o4;have hlk := zU HIm5.out o4 hno.1 hno.2;obtain ⟨W6, hput, him6, htn⟩ := aRl HIm5.out (by unfold maxLen; omega) o4 (f' o4 + 1) hno.1 hno.2 (by omega) (by omega);obtain ⟨z, hz⟩ : ∃ z, f' o4 = z := ⟨_, rfl⟩;rw [hz] at hlk hput hfo;have e1 : IntKind.i64.wrap (z + 1) = z + 1 := by rw [IntKind.wrap_i64]; omega
       have HCm : Hid (aAk (fun j => if j = o4 then z + 1 else f' j) (L1 ++ [(true, o2, o3, o4)]) key) := lhid (by
        have h9 := HCn.out;dsimp only at h9;rw [hz] at h9
        exact h9)
       have HIm6 : Hid (dJ W6 bm (c' + 1) (fun j => if j = o4 then z + 1 else f' j)) := lhid (by
        rw [hz] at him6
        exact him6)
       have HG6 := lhid (HG5.out.trans htn.grown);clear hke him6 htn HCn hz hfo;(go_wp2_with fail);go_roundw
       case rel => exact ⟨m + 1, by omega, by go_num, ⟨c' + 1, _, HIm6.out, by rw [HL2.out, List.length_append]; simp; omega, by rw [HL2.out]; exact HCm.out⟩, HG6.out⟩
       case measure => simp [RowKit.intOf]; omega
      ·have e0 : (o2 == key) = false := (by simpa using hke);have HCn := lhid (HCw5.out.same (true, o2, o3, o4) (by unfold wrO; simp [hke]));clear hke;(go_wp2_with fail);go_roundw
       case rel => exact ⟨m + 1, by omega, by go_num, ⟨c', f', HIm5.out, by rw [HL2.out, List.length_append]; omega, by rw [HL2.out]; exact HCn.out⟩, HG5.out⟩
       case measure => simp [RowKit.intOf]; omega
    ·have hme : m = tl.length := (by omega);subst hme;rw [List.take_length] at hc' hcw';have HIm4 := lhid him';have HCw4 := lhid hcw';have HG4 := lhid hgr';clear him' hcw' hgr';(go_wp2_with fail);go_roundw
     case rel => exact ⟨n + 1, by omega, by go_num, ⟨c', f', HIm4.out, by rw [HFn.out]; exact hc', by rw [HFn.out]; exact HCw4.out⟩, HG4.out⟩
     case measure => simp [RowKit.intOf]; omega
  ·have hne : n = h.2.2.length := (by omega);subst hne;rw [List.take_length] at hc hcw;have HCw := lhid hcw;have HGr := lhid hgr
   have HVr := lhid (HVX2.out.kept hgr (fun e => by
    injection e with e;have := HNe.out
    omega))
   have HBr : Hid (Below w.heap.size w wr) := lhid (HB2.out.grown hgr HB2.out.size (fun q hq => by
    injection hq with hq;have := HNe.out
    omega))
   have HLk := lhid (fun m (h1 : (0 : Int) ≤ m) (h2 : m ≤ 100000) => zU him m (by omega) (by omega));have HFb := lhid HFs.out.2.1
   have hfb : kI h.2.2 key ≤ 800 := by
    have h1 := HFs.out.2.1;have h2 := HFl.out h.2.2.length (Nat.le_refl _);rw [List.take_length] at h2;omega
   have HPos : Hid (∀ m : Nat, m ≤ kI h.2.2 key → (0 < f (m : Int) ↔ m < kI h.2.2 key)) := lhid (fun m hmf => by
    rw [(HCw.out (m : Int)).2.2];have hw := HWi.out (m : Int);rw [show (∃ o ∈ h.2.2.flatMap (·.2.2), wrO key o = true ∧ o.2.2.2 = (m : Int)) ↔ jK h.2.2 key (m : Int) = true from hw.symm];constructor
    ·intro hq;refine Nat.lt_of_le_of_ne hmf fun e => ?_;rw [e, HFs.out.1] at hq;cases hq
    ·intro hq
     exact HFs.out.2.2 m hq)
   obtain ⟨N, hNq⟩ : ∃ N, kI h.2.2 key = N := ⟨_, rfl⟩;rw [hNq] at hfb HPos;have HNq := lhid hNq;clear hc hcw him hgr hNq HFb;(go_wp2_with fail);obtain ⟨wo, rfl⟩ : ∃ q, q = wr := ⟨_, rfl⟩
   go_loopw [10] (fun i wx => ∃ m : Nat, m ≤ N ∧ i = .int .i64 m ∧ wx = wo) (fun i _ => N - (RowKit.intOf i).toNat)
   case atStart => exact ⟨0, Nat.zero_le _, rfl, rfl⟩
   case round =>
    obtain ⟨m, hmN, rfl, rfl⟩ := hrel;have hlk := HLk.out (m : Int) (by omega) (by omega);have hps := HPos.out m hmN;obtain ⟨z, hz⟩ : ∃ z, f (m : Int) = z := ⟨_, rfl⟩;rw [hz] at hlk hps;clear hz;by_cases hlt2 : m < N
    ·have hz0 : 0 < z := hps.2 hlt2;have e0 : decide (z > 0) = true := decide_eq_true hz0;clear hps hz0;(go_wp2_with fail);go_roundw
     case rel => exact ⟨m + 1, by omega, by go_num, by first | rfl | trivial⟩
     case measure => simp [RowKit.intOf]; omega
    ·have hmN2 : m = N := (by omega);subst hmN2;have hz0 : ¬ 0 < z := fun q => hlt2 (hps.1 q);have e0 : decide (z > 0) = false := decide_eq_false hz0;have r0 := HVr.out.cell 0 rfl;have r1 := HVr.out.cell 1 rfl;have f0 := HVr.out.frozen 0;have f1 := HVr.out.frozen 1;have HFin := lhid (aU HBr.out (by have := HNe.out; omega : w.heap.size ≤ gv) (.int .i64 1) (.int .i64 (m : Nat)));clear hps hz0 hlt2;(go_wp2_with fail);refine bodyPost_ret (bS Tryz.results65 _ _ _ _ _ rfl (kC (dQ HVr.out _ _))) rfl ?_;exact ⟨by rw [HNq.out] <;> rfl, HFin.out⟩
end Go.Proofs.YtdfegfagedeilaaGreatDoor
