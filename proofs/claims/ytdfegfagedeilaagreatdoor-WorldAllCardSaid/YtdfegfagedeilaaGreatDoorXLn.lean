/-
  Layer 16 (world), the program: what is tried at all places, walked. No conditions but that unicode/utf8's two tables are as their initialisers lay them.
  Layer 16 (world), the program: the first world with some fates, walked. No conditions but that unicode/utf8's two tables are as their initialisers lay them.
  Layer 16 (world), the program: what is tried at all places, of any world; the first world; walked. No conditions but that unicode/utf8's two tables are as their initialisers lay them.
  slices.Clone at truths and at values, slices.Index at values, walked. No conditions.
  Layer 15 (writer), the document: has some write of a key that number; a number that none has; walked. No conditions.
  Layer 16 (world): what WorldNext and WorldAll share: how long worlds are. No conditions.
-/
import Derived.Test.YtdfegfagedeilaaGreatDoorXxWlA
import Derived.Test.YtdfegfagedeilaaGreatDoorXxWrR
namespace Go.Proofs.YtdfegfagedeilaaGreatDoor
section
open Go.RowKit Go.Lib
theorem aMv : (Tryz.prog.info? 27).map (fun i => (i.zero, i.size, i.bytes)) = some (some (.slice none 0 0), 1, 24) := by kernel_rfl
theorem aDn {h : aI} (hmm : cZ h = true) : (cY h).length ≤ 800 := by
 rw [kF hmm];have h1 := yX (itH h.2.2 h.2.2.length);have h2 : (itH h.2.2 h.2.2.length).length = (h.2.2.flatMap (·.2.2)).length := (by rw [← mR, List.length_map]);have hMH := (dA h).1 hmm
 have h3 := sF h.2.2 (fun t ht => by
  have := hMH.txn t ht;unfold bQ at this;simp only [Bool.and_eq_true, decide_eq_true_eq] at this
  exact this.2.2.2) h.2.2.length (Nat.le_refl _)
 rw [List.take_length] at h3;have h4 := hMH.n2;omega
theorem zY {α : Type} (L : List α) (d : α) (n : Nat) (h : n < L.length) : L.take (n + 1) = L.take n ++ [L.getD n d] := by
 rw [List.take_add_one];simp [h]
set_option maxRecDepth 100000 in
set_option maxHeartbeats 4000000 in
theorem uG {w : World} {v : Value} {h : aI} {pb : Option Addr} {cb : Nat} (f : List Bool) (hv : cJ w v h) (hm : cU h) (hmm : cZ h = true) (hN : ∀ o ∈ bU h, -9223372036854775808 ≤ o.2.2.2 ∧ o.2.2.2 ≤ 9223372036854775807) (hb : jA w pb f) (hcb : f.length ≤ cb ∧ cb ≤ maxLen) (hf : f.length = (h.2.2.filter aP).length) (hT : Lib.Utf8Tabs 1 2 w) :
  Calls Tryz.prog 31 #[v, .slice pb f.length cb] w fun e w' => ∃ v', e = .returned v' ∧ kH w' v' (bD h f) ∧ Below w.heap.size w w' := by
 have H0 := lhid hv;obtain ⟨v0, v1, v2, rfl, ⟨p0, c0, rfl, -⟩, ⟨p1, c1, rfl, -⟩, ⟨p2, c2, rfl, -⟩⟩ := hv;have hal := (Below.refl w.heap.size w).alloc (Nat.le_refl _) (.cells #[.slice p0 h.1.length c0, .slice p1 h.2.1.length c1, .slice p2 h.2.2.length c2] 25);have hbx := Blk.new w 25 [.slice p0 h.1.length c0, .slice p1 h.2.1.length c1, .slice p2 h.2.2.length c2];have HCo := lhid (bUc f (H0.out.below hal) hm (hb.below hal) hcb hf);have HLo := lhid (fun w' (hb : Below w.heap.size w w') => bUz (H0.out.below hb) hm (Utf8Tabs_below hT hb));have HTr0 := lhid (fun p (hp : p ∈ cY h) c w' (hb : Below w.heap.size w w') => bAs p c (H0.out.below hb) hm hmm (aDo hmm hp) hN (Utf8Tabs_below hT hb));have hl8 := aDn hmm;have HPl := lhid (fun p (hp : p ∈ cY h) => (aDo hmm hp).lt);have h1000 := hm.2.2.1;obtain ⟨CC, hCC⟩ : ∃ q, aL h.2.2 f = q := ⟨_, rfl⟩;have HLL : Hid (bD h f = (cY h).map fun p => nB h p (CC.getD p.1 false)) := lhid (by rw [← hCC]; rfl);have HCL : Hid (h.2.2.length = CC.length) := lhid (by rw [← hCC, lR]);rw [hCC] at HCo;obtain ⟨LP, hLP⟩ : ∃ q, cY h = q := ⟨_, rfl⟩;rw [hLP] at HLo HTr0 hl8 HPl HLL;obtain ⟨LL, hLL⟩ : ∃ q, bD h f = q := ⟨_, rfl⟩;rw [hLL] at HLL;have HLn : Hid (LL.length = LP.length) := lhid (by rw [HLL.out, List.length_map]);have HEq := lhid hLL;have HAL := lhid hal;have HBX := lhid hbx;obtain ⟨i1, hj, hj0, hj1, hj2⟩ := info_parts aMv;clear H0 hm hal hbx hb hcb hf hT hN hCC hLP hLL;go_enter Tryz.func31, Tryz.ntmps31;(go_wp2_with fail);refine HCo.out.mono ?_;rintro e w1 ⟨v1, rfl, hr1, hb1⟩;have HB1 := lhid (aB HAL.out hb1);have HBX1 := lhid (HBX.out.later hb1);obtain ⟨pc, cc, rfl, hcc, hhc⟩ := qO hr1 HCL.out;have HHc := lhid hhc;have hgs := HBX1.out.lt;clear hr1 hb1 HCo HAL HBX hcc hhc;obtain ⟨gh, hgh⟩ : ∃ q, w.heap.size = q := ⟨_, rfl⟩;have HGh := lhid hgh;(try simp only [hgh]);rw [hgh] at HBX1 hgs;have x0 := HBX1.out.cell 0 rfl;have x1 := HBX1.out.cell 1 rfl;have x2 := HBX1.out.cell 2 rfl;clear hgh;(go_wp2_with fail);refine (HLo.out _ HB1.out).mono ?_;rintro e w2 ⟨v2, rfl, hpl, hb2⟩;have HB2 := lhid (aB HB1.out hb2);have HBX2 := lhid (HBX1.out.later hb2);have HHc2 := lhid (HHc.out.below hb2);obtain ⟨pp, cp, rfl, hpp⟩ := hpl;have HPp := lhid hpp;clear hb2 hpp HLo HB1 HBX1 HHc x0 x1 x2 hgs;(go_wp2_with fail);obtain ⟨W3, hW3⟩ : ∃ q, w2 = q := ⟨_, rfl⟩;rw [hW3] at HB2 HBX2 HHc2 HPp ⊢;clear hW3
 go_loopw [6, 15] (fun l i wr => ∃ n : Nat, n ≤ LP.length ∧ i = .int .i64 n ∧ (∃ vs, wr.ownsRow W3.heap.size 27 1 l n vs ∧ lA wr vs (LL.take n)) ∧ Below W3.heap.size W3 wr) (fun _ i _ => LP.length - (RowKit.intOf i).toNat)
 case atStart => exact ⟨0, Nat.zero_le _, rfl, ⟨[], World.ownsRow_nil W3 _ _ _, lA.nil W3⟩, Below.refl _ _⟩
 case round =>
  obtain ⟨n, hn, rfl, ⟨vs, hrw, hvl⟩, hbw⟩ := hrel;obtain ⟨pl, cl, rfl⟩ := aF hrw;by_cases hlt : n < LP.length
  ·obtain ⟨gp, rfl, q1, q2⟩ := HPp.out n hlt;have q1 := cell_later hbw q1;have q2 := cell_later hbw q2;have hmem := wB LP n (0, 0) hlt
   have hnx : LL.take (n + 1) = LL.take n ++ [nB h (LP.getD n (0, 0)) (CC.getD (LP.getD n (0, 0)).1 false)] := by
    rw [zY LL [] n (by rw [HLn.out]; exact hlt), HLL.out];simp [hlt]
   have hTr1 := HTr0.out (LP.getD n (0, 0)) hmem (CC.getD (LP.getD n (0, 0)).1 false);have htn := HPl.out (LP.getD n (0, 0)) hmem;have hpos : 0 < (nB h (LP.getD n (0, 0)) (CC.getD (LP.getD n (0, 0)).1 false)).length := List.length_pos_iff.2 (aTz _ _ _);obtain ⟨⟨t, k⟩, hp⟩ : ∃ q, LP.getD n (0, 0) = q := ⟨_, rfl⟩;rw [hp] at q1 q2 hnx hTr1 htn hpos;dsimp only at q1 q2 hnx hTr1 htn hpos;have htc : t < CC.length := (by rw [← HCL.out]; exact htn);obtain ⟨gc, rfl, hcc⟩ := HHc2.out t htc;obtain ⟨cb, hcb⟩ : ∃ q, CC.getD t false = q := ⟨_, rfl⟩;rw [hcb] at hcc hnx hTr1 hpos;obtain ⟨TL, hTL⟩ : ∃ q, nB h (t, k) cb = q := ⟨_, rfl⟩;rw [hTL] at hnx hTr1 hpos;have HPos := lhid hpos;have HNx := lhid hnx;have HTr1 := lhid hTr1;have HCc := lhid hcc;have HBw := lhid hbw;have RW1 := lhid (hrw.alloc (.cells #[.int .i64 (t : Nat), .int .i64 (k : Nat)] 70));have VL1 := lhid (hvl.below ((Below.refl wr.heap.size wr).alloc (Nat.le_refl _) (.cells #[.int .i64 (t : Nat), .int .i64 (k : Nat)] 70)));have HB50 := lhid (hbw.alloc hbw.size (.cells #[.int .i64 (t : Nat), .int .i64 (k : Nat)] 70));have HPx0 := lhid (Blk.new wr 70 [.int .i64 (t : Nat), .int .i64 (k : Nat)]);clear hmem hp hcb hTL hnx hTr1 hcc hrw hvl hbw hpos;(go_upto_region 6 with fail);obtain ⟨W5, hW5⟩ : ∃ q, wr.alloc (.cells #[.int .i64 (t : Nat), .int .i64 (k : Nat)] 70) = q := ⟨_, rfl⟩;rw [hW5] at RW1 VL1 HB50 HPx0 ⊢;obtain ⟨gb, hgb⟩ : ∃ q, wr.heap.size = q := ⟨_, rfl⟩;rw [hgb] at HPx0;(try simp only [hgb]);have RW0 := RW1;have VL0 := VL1;have HB5 := HB50;have HTr := lhid (fun w' (hb : Below W5.heap.size W5 w') => HTr1.out w' (aB HB2.out (aB HB5.out hb)))
   have HS : Hid (∀ w', Below W5.heap.size W5 w' → w'.cell? ⟨gh, 0, none⟩ = some (.slice p0 h.1.length c0) ∧ w'.cell? ⟨gh, 1, none⟩ = some (.slice p1 h.2.1.length c1) ∧ w'.cell? ⟨gh, 2, none⟩ = some (.slice p2 h.2.2.length c2) ∧ w'.cell? ⟨gb, 0, none⟩ = some (.int .i64 (t : Nat)) ∧ w'.cell? ⟨gb, 1, none⟩ = some (.int .i64 (k : Nat)) ∧ w'.cell? ⟨gc, t, none⟩ = some (.bool cb) ∧ Below W5.heap.size W5 w') := lhid (fun w' hb => by
    have hbb := aB HB5.out hb
    exact ⟨(HBX2.out.later hbb).cell 0 rfl, (HBX2.out.later hbb).cell 1 rfl, (HBX2.out.later hbb).cell 2 rfl, (HPx0.out.later hb).cell 0 rfl, (HPx0.out.later hb).cell 1 rfl, cell_later hbb HCc.out, hb⟩)
   clear hW5 hgb RW1 VL1 HB50 HTr1 q1 q2 HBw HPx0;refine wpk HS [10] (by kernel_rfl) fun hB0 _ => ?_;have RW := lhid (aS RW0.out hB0);have VL := lhid (VL0.out.below hB0);obtain ⟨wd, hwd⟩ : ∃ q, (W5).drew = q := ⟨_, rfl⟩;rw [hwd] at hB0 RW VL ⊢;clear hwd;refine wF 0 ?_;refine wT 1 12 (HS.out _ hB0) ?_;refine wT 2 12 (HS.out _ hB0) ?_;refine wF 3 ?_;refine wO 4 ?_;have hSn := HS.out _ hB0;refine wO 5 ?_;clear hSn;refine wO 6 ?_;have hSn := HS.out _ hB0;refine wO 7 ?_;clear hSn;refine won 8 rfl fun K hK => ?_;go_simp;refine (HTr.out _ hB0).mono ?_;rintro e wb1 ⟨vt, rfl, ht1, hc1⟩;have VT := lhid (aIk ht1 rfl HPos.out);obtain ⟨pt, ct, rfl⟩ := aF ht1;clear ht1;have hB1 := aB hB0 hc1;replace RW := lhid (aS RW.out hc1);replace VL := lhid (VL.out.below hc1);refine hK.out _ _ (fun _ _ => HS.out _ hB1) ?_;clear hK K hc1;(try simp only [Act.put, sq]);refine won 9 rfl fun K hK => ?_;go_simp;have hA2 := hB1.alloc hB1.size (.cells #[.slice pt TL.length ct] 27);have FB := lhid (Blk.new wb1 27 [.slice pt TL.length ct]);replace RW := lhid (RW.out.alloc (.cells #[.slice pt TL.length ct] 27));replace VL := lhid (VL.out.below ((Below.refl _ _).alloc (Nat.le_refl _) (.cells #[.slice pt TL.length ct] 27)));replace VT := lhid (VT.out.below ((Below.refl _ _).alloc (Nat.le_refl _) (.cells #[.slice pt TL.length ct] 27)));refine hK.out _ _ (fun _ _ => HS.out _ hA2) ?_;clear hK K;(try simp only [Act.put, sq]);obtain ⟨wa2, hwa2⟩ : ∃ q, wb1.alloc (.cells #[.slice pt TL.length ct] 27) = q := ⟨_, rfl⟩;obtain ⟨gb2, hgb2⟩ : ∃ q, wb1.heap.size = q := ⟨_, rfl⟩;have hlt2 : W5.heap.size ≤ gb2 := (by rw [← hgb2]; exact hB1.size);simp only [hwa2, hgb2] at hA2 RW VL VT FB ⊢;clear hwa2 hgb2;refine won 10 rfl fun K hK => ?_;refine aY (by rfl) _ _ 46 (by rfl) W3.heap.size 27 i1 (.slice none 0 0) 1 24 Tryz.underlying46 hj hj0 hj1 hj2 rfl (by decide) (.slice pl n cl) n vs (by rfl) RW.out ⟨gb2, 0, none⟩ 1 1 [.slice pt TL.length ct] (by rfl) rfl (fun q u hq => by rw [Addr.add_lit, Nat.zero_add]; exact FB.out.cell q hq) (by intro u hu; simp at hu; subst hu; rfl) (by unfold maxLen; omega) (by omega) (Nat.le_trans HB5.out.size hA2.size) ?_;intro v3 wa3 hown3 hg3 hat3;have HA3 := lhid ((HB5.out.trans (hA2.mono HB5.out.size)).grown hg3 (Nat.le_trans HB5.out.size hA2.size) (fun q hq => (RW.out.lt q hq).1));have HO : Hid (wa3.ownsRow W3.heap.size 27 1 v3 (n + 1) (vs ++ [.slice pt TL.length ct])) := lhid hown3
   have HL : Hid (lA wa3 (vs ++ [.slice pt TL.length ct]) (LL.take (n + 1))) := lhid (by
    rw [HNx.out]
    exact (VL.out.grown RW.out (by decide) hg3).snoc (VT.out.grown RW.out (by decide) hg3))
   obtain ⟨p9, c9, rfl⟩ := aF hown3;clear hown3 hg3 hat3 RW FB VL VT;refine hK.out _ _ (fun h => absurd h (by decide)) ?_;clear hK K;(try simp only [Act.put, sq]);refine wO 11 ?_;refine wD ?_;(go_wp2_with fail);go_roundw
   case rel => exact ⟨n + 1, by omega, by go_num, ⟨_, HO.out, HL.out⟩, HA3.out⟩
   case measure => simp [RowKit.intOf]; omega
  ·have hne : n = LP.length := (by omega);subst hne
   have hvl2 : lA wr vs LL := by
    have e1 := HLn.out;rw [show LL.take LP.length = LL by rw [← e1, List.take_length]] at hvl;exact hvl
   have hts := aZj hrw HLn.out.symm hvl2;have HTs : Hid (kH wr (.slice pl LP.length cl) (bD h f)) := lhid (by rw [HEq.out]; exact hts);have HBw := lhid hbw;clear hrw hvl hvl2 hts hbw;(go_wp2_with fail);go_ret;exact ⟨_, rfl, HTs.out, aB HB2.out HBw.out⟩
end
section
open Go.RowKit Go.Lib
def sE (LL : List (List aR)) (n : Nat) : List aR := (LL.take n).map fun t => t.getD 0 aN
theorem jC (w : World) (x i : Nat) (u : Value) : w.grownBy (w.setCell ⟨x, i, none⟩ u) (some x) := ⟨rfl, rfl, rfl, by simp, fun k hk hne => Below.heap_setCell _ _ _ _ (fun e => hne (congrArg some e))⟩
theorem aPl (h : aI) (f : List Bool) (n : Nat) (hn : n < (bD h f).length) : (bD h f).getD n [] ≠ [] := by
 unfold bD at *;rw [List.length_map] at hn;rw [show ((cY h).map fun p => nB h p ((aL h.2.2 f).getD p.1 false)).getD n [] = nB h (cY h)[n] ((aL h.2.2 f).getD (cY h)[n].1 false) by simp [hn]];exact aTz _ _ _
set_option maxRecDepth 100000 in
set_option maxHeartbeats 4000000 in
theorem zO {w : World} {v : Value} {h : aI} {pb : Option Addr} {cb : Nat} (f : List Bool) (hv : cJ w v h) (hm : cU h) (hmm : cZ h = true) (hN : ∀ o ∈ bU h, -9223372036854775808 ≤ o.2.2.2 ∧ o.2.2.2 ≤ 9223372036854775807) (hb : jA w pb f) (hcb : f.length ≤ cb ∧ cb ≤ maxLen) (hf : f.length = (h.2.2.filter aP).length) (hT : Lib.Utf8Tabs 1 2 w) :
  Calls Tryz.prog 29 #[v, .slice pb f.length cb] w fun e w' => ∃ v', e = .returned (.agg #[.slice pb f.length cb, v']) ∧ w'.ownsRow w.heap.size 57 2 v' (cY h).length (aJ (sA h f).2) ∧ Below w.heap.size w w' := by
 have H0 := lhid hv;obtain ⟨v0, v1, v2, rfl, ⟨p0, c0, rfl, -⟩, ⟨p1, c1, rfl, -⟩, ⟨p2, c2, rfl, -⟩⟩ := hv;have hal := (((Below.refl w.heap.size w).alloc (Nat.le_refl _) (.cells #[.slice p0 h.1.length c0, .slice p1 h.2.1.length c1, .slice p2 h.2.2.length c2] 25)).alloc (by simp) (.cells #[.slice none 0 0, .slice none 0 0] 29)).alloc (by simp; omega) (.cells #[.slice pb f.length cb, .slice none 0 0] 29);have hbx := ((Blk.new w 25 [.slice p0 h.1.length c0, .slice p1 h.2.1.length c1, .slice p2 h.2.2.length c2]).alloc (.cells #[.slice none 0 0, .slice none 0 0] 29)).alloc (.cells #[.slice pb f.length cb, .slice none 0 0] 29);have hrx := (Blk.new (w.alloc (.cells #[.slice p0 h.1.length c0, .slice p1 h.2.1.length c1, .slice p2 h.2.2.length c2] 25)) 29 [.slice none 0 0, .slice none 0 0]).alloc (.cells #[.slice pb f.length cb, .slice none 0 0] 29);have hwx := Blk.new ((w.alloc (.cells #[.slice p0 h.1.length c0, .slice p1 h.2.1.length c1, .slice p2 h.2.2.length c2] 25)).alloc (.cells #[.slice none 0 0, .slice none 0 0] 29)) 29 [.slice pb f.length cb, .slice none 0 0];simp only [World.size_alloc] at hrx hwx;have HTr := lhid (uG f (H0.out.below hal) hm hmm hN (hb.below hal) hcb hf (Utf8Tabs_below hT hal));have HBg : Hid ((sA h f).2 = (bD h f).map fun t => t.getD 0 aN) := lhid rfl;have HLn : Hid ((cY h).length = (bD h f).length) := lhid (qU h f).symm;have HNe := lhid (aPl h f);have hl8 := aDn hmm;rw [HLn.out] at hl8;obtain ⟨LL, hLL⟩ : ∃ q, bD h f = q := ⟨_, rfl⟩;rw [hLL] at HTr HBg HLn HNe hl8;have HAL := lhid hal;have HBX := lhid hbx;have HRX := lhid hrx;have HWX := lhid hwx;obtain ⟨i1, hj, hj0, hj1, hj2⟩ := info_parts oC;clear H0 hm hal hbx hrx hwx hb hcb hf hT hN hLL;go_enter Tryz.func29, Tryz.ntmps29;(go_upto_region 2 with fail);obtain ⟨W1, hW1⟩ : ∃ q, ((w.alloc (.cells #[.slice p0 h.1.length c0, .slice p1 h.2.1.length c1, .slice p2 h.2.2.length c2] 25)).alloc (.cells #[.slice none 0 0, .slice none 0 0] 29)).alloc (.cells #[.slice pb f.length cb, .slice none 0 0] 29) = q := ⟨_, rfl⟩;rw [hW1] at HAL HBX HRX HWX HTr ⊢;clear hW1;obtain ⟨gh, hgh⟩ : ∃ q, w.heap.size = q := ⟨_, rfl⟩;obtain ⟨gr, hgr0⟩ : ∃ q, gh + 1 = q := ⟨_, rfl⟩;obtain ⟨gw, hgw0⟩ : ∃ q, gr + 1 = q := ⟨_, rfl⟩;have HG : Hid (w.heap.size ≤ gr ∧ w.heap.size ≤ gw ∧ gr ≠ gw ∧ gh < gw) := lhid (by omega);(try simp only [hgh, hgr0, hgw0]);(try simp only [hgh, hgr0, hgw0] at HBX HRX HWX);clear hgh hgr0 hgw0;have x0 := HBX.out.cell 0 rfl;have x1 := HBX.out.cell 1 rfl;have x2 := HBX.out.cell 2 rfl;(go_wp2_with fail);refine HTr.out.mono ?_;rintro e w2 ⟨vt, rfl, ht2, hb2⟩;have HT2 := lhid ht2;have HB2 := lhid (aB HAL.out hb2);have HRX2 := lhid (HRX.out.later hb2);have HWX2 := lhid (HWX.out.later hb2);have hgl : gw < W1.heap.size := HWX.out.lt;have HGl : Hid (gw < w2.heap.size ∧ gr < w2.heap.size) := lhid ⟨Nat.lt_of_lt_of_le hgl hb2.size, HRX2.out.lt⟩;obtain ⟨pt, ct, rfl, -⟩ := ht2.form;obtain ⟨W2, rfl⟩ : ∃ q, q = w2 := ⟨_, rfl⟩;clear ht2 hb2 HTr HAL HBX HRX HWX x0 x1 x2 hgl;go_wp2_with fail
 go_loopw [14] (fun i wr => ∃ n : Nat, n ≤ LL.length ∧ i = .int .i64 n ∧ (∃ lv, wr.ownsRow W2.heap.size 57 2 lv n (aJ (sE LL n)) ∧ Blk wr gw 29 [.slice pb f.length cb, lv]) ∧ W2.grownBy wr (some gw)) (fun i _ => LL.length - (RowKit.intOf i).toNat)
 case atStart => exact ⟨0, Nat.zero_le _, rfl, ⟨.slice none 0 0, World.ownsRow_nil _ _ _ _, HWX2.out⟩, ⟨rfl, rfl, rfl, Nat.le_refl _, fun _ _ _ => rfl⟩⟩
 case round =>
  obtain ⟨n, hn, rfl, ⟨lv, hrw, hgw⟩, hgr⟩ := hrel;obtain ⟨pl, cl, rfl⟩ := aF hrw;by_cases hlt : n < LL.length
  ·have hts := HT2.out.block HWX2.out (by decide) (by decide) hgr;obtain ⟨gt, ct', u, eq, hcu, hvt⟩ := hts.get n hlt;injection eq with eq _ _;subst eq
   obtain ⟨gu, cu, rfl, -, hvu⟩ := hvt.at
   have hne := HNe.out n hlt
   have hnx : sE LL (n + 1) = sE LL n ++ [(LL.getD n []).getD 0 aN] := by
    unfold sE;rw [zY LL [] n hlt, List.map_append];rfl
   obtain ⟨TL, hTL⟩ : ∃ q, LL.getD n [] = q := ⟨_, rfl⟩;rw [hTL] at hvu hne hnx hvt;(try rw [hTL] at hcu);have hpos : 0 < TL.length := List.length_pos_iff.2 hne;obtain ⟨q1, q2⟩ := hvu 0 hpos;rw [Nat.zero_mul] at q1 q2;rw [Nat.zero_add] at q2;obtain ⟨⟨xa, xb⟩, hx⟩ : ∃ q, TL.getD 0 aN = q := ⟨_, rfl⟩;rw [hx] at q1 q2 hnx;dsimp only at q1 q2;obtain ⟨VL, hVL⟩ : ∃ q, sE LL n = q := ⟨_, rfl⟩;rw [hVL] at hnx hrw;have HNx := lhid hnx;have HGr := lhid hgr;have RW0 := lhid hrw;have GW0 := lhid hgw;have HS : Hid (∀ w', Below wr.heap.size wr w' → w'.cell? ⟨gw, 1, none⟩ = some (.slice pl n cl) ∧ w'.cell? ⟨gu, 0, none⟩ = some (.int .i64 xa) ∧ w'.cell? ⟨gu, 1, none⟩ = some (.int .i64 xb) ∧ Below wr.heap.size wr w') := lhid (fun w' hb => ⟨(GW0.out.later hb).cell 1 rfl, cell_later hb q1, cell_later hb q2, hb⟩);clear hts hvt hvu hne hnx hTL hx hVL hgr hrw hgw q1 q2;(go_upto_region 5 with fail);refine wpk HS [6, 8] (by kernel_rfl) fun hB0 _ => ?_;have RW := lhid (aS RW0.out hB0);have GW := lhid (GW0.out.later hB0);obtain ⟨wd, hwd⟩ : ∃ q, (wr).drew = q := ⟨_, rfl⟩;rw [hwd] at hB0 RW GW ⊢;clear hwd;refine wF 0 ?_;refine wT 1 9 (HS.out _ hB0) ?_;refine wO 2 ?_;refine wO 3 ?_;have hSn := HS.out _ hB0;refine wO 4 ?_;clear hSn;refine won 5 rfl fun K hK => ?_;go_simp;have hA1 := hB0.alloc hB0.size (.cells #[.int .i64 xa, .int .i64 xb] 57);have FB := lhid (Blk.new wd 57 [.int .i64 xa, .int .i64 xb]);replace RW := lhid (RW.out.alloc (.cells #[.int .i64 xa, .int .i64 xb] 57));replace GW := lhid (GW.out.alloc (.cells #[.int .i64 xa, .int .i64 xb] 57));refine hK.out _ _ (fun _ _ => HS.out _ hA1) ?_;clear hK K;(try simp only [Act.put, sq]);obtain ⟨wa1, hwa1⟩ : ∃ q, wd.alloc (.cells #[.int .i64 xa, .int .i64 xb] 57) = q := ⟨_, rfl⟩;obtain ⟨gb1, hgb1⟩ : ∃ q, wd.heap.size = q := ⟨_, rfl⟩;have hlt1 : wr.heap.size ≤ gb1 := (by rw [← hgb1]; exact hB0.size);simp only [hwa1, hgb1] at hA1 RW GW FB ⊢;clear hwa1 hgb1;refine won 6 rfl fun K hK => ?_;refine aY (by rfl) _ _ 27 (by rfl) W2.heap.size 57 i1 (.agg #[.int .i64 0, .int .i64 0]) 2 16 Tryz.underlying27 hj hj0 hj1 hj2 rfl (by decide) (.slice pl n cl) n (aJ VL) (by rfl) RW.out ⟨gb1, 0, none⟩ 1 1 [.int .i64 xa, .int .i64 xb] (by rfl) rfl (fun q u hq => by rw [Addr.add_lit, Nat.zero_add]; exact FB.out.cell q hq) (dO _ _) (by unfold maxLen; omega) (by omega) (Nat.le_trans HGr.out.size hA1.size) ?_;intro v2 wa2 hown2 hg2 hat2;have HGA := lhid (aXc (HGr.out.trans (kQ hA1)) hg2 (fun q hq => (RW.out.lt q hq).1));have GB := lhid (tG GW.out RW.out (by decide) hg2)
   have HO : Hid (wa2.ownsRow W2.heap.size 57 2 v2 (n + 1) (aJ (VL ++ [(xa, xb)]))) := lhid (by
    rw [← nP]
    exact hown2)
   obtain ⟨p9, c9, rfl⟩ := aF hown2;clear hown2 hg2 hat2 RW GW FB;refine hK.out _ _ (fun h => absurd h (by decide)) ?_;clear hK K;(try simp only [Act.put, sq]);refine wO 7 ?_;refine won 8 rfl fun K hK => ?_;have q1 := GB.out.cell 1 rfl;have f1 := GB.out.frozen 1;go_simp;refine hK.out _ _ (fun h => absurd h (by decide)) ?_;clear hK K q1 f1;(try simp only [Act.put, sq]);refine wD ?_;have HO9 := lhid (aD HO.out GB.out (by decide) 1 (.slice p9 (n + 1) c9));have HB9 := lhid (GB.out.set 1 (.slice p9 (n + 1) c9));have HG9 := lhid (HGA.out.trans (jC wa2 gw 1 (.slice p9 (n + 1) c9)));rw [← HNx.out] at HO9;clear HO GB HGA;(go_wp2_with fail);go_roundw
   case rel => exact ⟨n + 1, by omega, by go_num, ⟨_, HO9.out, HB9.out⟩, HG9.out⟩
   case measure => simp [RowKit.intOf]; omega
  ·have hne : n = LL.length := (by omega);subst hne;rw [show sE LL LL.length = LL.map (fun t => t.getD 0 aN) by unfold sE; rw [List.take_length]] at hrw
   have HRw : Hid (wr.ownsRow w.heap.size 57 2 (.slice pl LL.length cl) (cY h).length (aJ (sA h f).2)) := lhid (by
    rw [HBg.out, HLn.out]
    exact cQ hrw HB2.out.size)
   have HGw := lhid hgw;have HGx := lhid (HRX2.out.kept hgr (fun e => HG.out.2.2.1 (by injection e)))
   have HBr := lhid (HB2.out.grown hgr HB2.out.size (fun q hq => by
    injection hq with hq;have := HG.out
    omega))
   have g0 := hgw.cell 0 rfl;have g1 := hgw.cell 1 rfl;have r0 := HGx.out.cell 0 rfl;have r1 := HGx.out.cell 1 rfl;have f0 := HGx.out.frozen 0;have f1 := HGx.out.frozen 1;clear hrw hgw hgr;(go_wp2_with fail);refine bodyPost_ret (bS Tryz.results29 _ _ _ _ _ rfl (bO (dQ HGx.out _ _))) rfl ?_;exact ⟨_, rfl, aD (aD HRw.out HGx.out (by decide) 0 _) (HGx.out.set 0 _) (by decide) 1 _, aU HBr.out HG.out.1 _ _⟩
end
section
open Go.RowKit Go.Lib
def yM (h : aI) : bK := if cZ h = true then oW h else ([], [])
theorem aRb {h : aI} (hm : cZ h = true) : yM h = oW h := by unfold yM; rw [if_pos hm]
theorem aWz {h : aI} (hm : cZ h = false) : yM h = ([], []) := by unfold yM; rw [if_neg (by rw [hm]; simp)]
theorem aSk {base : Nat} (W : World) (n : Nat) (hn : n ≤ 1000) (hb : base ≤ W.heap.size) : (W.alloc (.cells (madeCells #[.bool false] n) 4)).ownsRow base 4 1 (.slice (some ⟨W.heap.size, 0, none⟩) n n) n (bG (List.replicate n false)) := by
 have h1 := World.ownsRow_lit (base := base) (e := 4) (size := 1) W (madeCells (Value.cells (.bool false)) (n * 1)) n hb (by unfold maxLen; omega) (by rw [size_madeCells]);rw [sJ, Nat.mul_one] at h1;exact h1
theorem aKa (n : Nat) (hn : n ≤ 1000) (W : World) : (Instr.makeSlice 26 (.int .i64 (n : Int)) (.int .i64 (n : Int))).run Tryz.prog W = .ok (.slice (some ⟨W.heap.size, 0, none⟩) n n) (W.alloc (.cells (madeCells #[.bool false] n) 4)) := by
 obtain ⟨i0, hi, hz0, hz1, hz2⟩ := info_parts oB;have hr := run_make (P := Tryz.prog) W 26 4 i0 (.bool false) Tryz.underlying26 hi hz0 .i64 .i64 n n (by omega) (Int.le_refl _) (by rw [hz2]; omega) (by omega);rw [hz1, Nat.mul_one] at hr;simp only [Int.toNat_natCast] at hr;exact hr
theorem aZg {w : World} {base n c : Nat} {e : TypeId} {p : Option Addr} {L : List Bool} (h : w.ownsRow base e 1 (.slice p n c) n (bG L)) (hn : n = L.length) : jA w p L := by
 obtain ⟨p', c', e1, -, hh⟩ := qO h hn;injection e1 with e1 _ _;subst e1;exact hh
theorem aKl {w : World} {base n c : Nat} {e : TypeId} {p : Option Addr} {L : List Bool} (h : w.ownsRow base e 1 (.slice p n c) n (bG L)) (hn : n = L.length) : qW w (.slice p n c) L := qO h hn
set_option maxRecDepth 100000 in
set_option maxHeartbeats 4000000 in
theorem bJn {w : World} {v : Value} {h : aI} (hv : cJ w v h) (hm : cU h) (hN : ∀ o ∈ bU h, -9223372036854775808 ≤ o.2.2.2 ∧ o.2.2.2 ≤ 9223372036854775807) (hT : Lib.Utf8Tabs 1 2 w) :
  Calls Tryz.prog 8 #[v] w fun e w' => ∃ v', e = .returned (.tuple #[v', .int .i64 (tI h)]) ∧ lI w' v' (yM h) ∧ Below w.heap.size w w' := by
 have H0 := lhid hv;obtain ⟨v0, v1, v2, rfl, ⟨p0, c0, rfl, -⟩, ⟨p1, c1, rfl, -⟩, ⟨p2, c2, rfl, -⟩⟩ := hv;have hal := ((Below.refl w.heap.size w).alloc (Nat.le_refl _) (.cells #[.slice p0 h.1.length c0, .slice p1 h.2.1.length c1, .slice p2 h.2.2.length c2] 25)).alloc (by simp) (.cells #[.slice none 0 0, .slice none 0 0] 29);have hbx := (Blk.new w 25 [.slice p0 h.1.length c0, .slice p1 h.2.1.length c1, .slice p2 h.2.2.length c2]).alloc (.cells #[.slice none 0 0, .slice none 0 0] 29);have hrx := Blk.new (w.alloc (.cells #[.slice p0 h.1.length c0, .slice p1 h.2.1.length c1, .slice p2 h.2.2.length c2] 25)) 29 [.slice none 0 0, .slice none 0 0];simp only [World.size_alloc] at hrx;have HMy := lhid (bUd (H0.out.below hal) hm (Utf8Tabs_below hT hal));have HIn0 := lhid (fun w' (hb : Below w.heap.size w w') => bVb (H0.out.below hb) hm (Utf8Tabs_below hT hb))
 have hn16 : (cA aP h).length ≤ 1000 := by
  have h1 := hm.2.2.1;unfold cA;split
  ·have := xC aP h.2.2 h.2.2.length;omega
  ·simp
 have HLb : Hid ((cY h).length = (oW h).2.length) := lhid (by
  show _ = ((bD h _).map fun t => t.getD 0 aN).length
  rw [List.length_map, qU])
 have HBg0 : Hid (cZ h = true → ∀ w', Below w.heap.size w w' → ∀ p c, jA w' p (List.replicate (cA aP h).length false) → (cA aP h).length ≤ c ∧ c ≤ maxLen → Calls Tryz.prog 29 #[.agg #[.slice p0 h.1.length c0, .slice p1 h.2.1.length c1, .slice p2 h.2.2.length c2], .slice p (cA aP h).length c] w' fun e w2 => ∃ v', e = .returned (.agg #[.slice p (cA aP h).length c, v']) ∧ w2.ownsRow w'.heap.size 57 2 v' (cY h).length (aJ (oW h).2) ∧ Below w'.heap.size w' w2) := lhid (fun hmm w' hb p c hh hc => by
  have := zO (List.replicate (cA aP h).length false) (H0.out.below hb) hm hmm hN hh (by simpa using hc) (by rw [List.length_replicate, jZ _ hmm, uR]) (Utf8Tabs_below hT hb);rw [List.length_replicate] at this
  exact this)
 have HFi : Hid (cZ h = true → yM h = (List.replicate (cA aP h).length false, (oW h).2)) := lhid (fun hmm => by rw [aRb hmm]; rfl);obtain ⟨nn, hnn⟩ : ∃ q, (cA aP h).length = q := ⟨_, rfl⟩;rw [hnn] at HBg0 HFi hn16;have HIn1 : Hid (∀ w', Below w.heap.size w w' → Calls Tryz.prog 30 #[.agg #[.slice p0 h.1.length c0, .slice p1 h.2.1.length c1, .slice p2 h.2.2.length c2]] w' fun e w2 => ∃ v', e = .returned v' ∧ (∃ p c, v' = .slice p nn c) ∧ Below w'.heap.size w' w2) := lhid (fun w' hb => (HIn0.out w' hb).mono fun e w2 ⟨v', h1, h2, h3⟩ => ⟨v', h1, (by obtain ⟨p, c, h4, -⟩ := h2; exact ⟨p, c, by rw [h4, hnn]⟩), h3⟩);have hmk := aKa nn hn16;have HAL := lhid hal;have HBX := lhid hbx;have HRX := lhid hrx;clear H0 hm hal hbx hrx hT hN HIn0 hnn;go_enter Tryz.func8, Tryz.ntmps8;(go_upto_region 1 with fail);obtain ⟨W1, hW1⟩ : ∃ q, (w.alloc (.cells #[.slice p0 h.1.length c0, .slice p1 h.2.1.length c1, .slice p2 h.2.2.length c2] 25)).alloc (.cells #[.slice none 0 0, .slice none 0 0] 29) = q := ⟨_, rfl⟩;rw [hW1] at HAL HBX HRX HMy ⊢;clear hW1;obtain ⟨gh, hgh⟩ : ∃ q, w.heap.size = q := ⟨_, rfl⟩;obtain ⟨gr, hgr0⟩ : ∃ q, gh + 1 = q := ⟨_, rfl⟩;have HG : Hid (w.heap.size ≤ gr ∧ gh < gr) := lhid (by omega);(try simp only [hgh, hgr0]);(try simp only [hgh, hgr0] at HBX HRX);clear hgh hgr0;have x0 := HBX.out.cell 0 rfl;have x1 := HBX.out.cell 1 rfl;have x2 := HBX.out.cell 2 rfl
 cases hmm : cZ h with
 | false =>
  rw [pH hmm] at HMy;clear HBg0 HIn1 HFi HLb hmk hn16;(go_wp2_with fail);refine HMy.out.mono ?_;rintro e w1 ⟨rfl, hb1⟩;have HB1 := lhid (aB HAL.out hb1);have HR1 := lhid (HRX.out.later hb1);have r0 := HR1.out.cell 0 rfl;have r1 := HR1.out.cell 1 rfl;have f0 := HR1.out.frozen 0;have f1 := HR1.out.frozen 1;clear hb1 HMy HAL HBX HRX x0 x1 x2;(go_wp2_with fail);refine bodyPost_ret (cM Tryz.results8 _ _ _ _ _ rfl (bO (dQ HR1.out _ _))) rfl ?_;exact ⟨_, by rw [pH hmm] <;> rfl, by rw [aWz hmm]; exact aVg _, aU HB1.out HG.out.1 _ _⟩
 | true =>
  rw [kT hmm] at HMy;(go_wp2_with fail);refine HMy.out.mono ?_;rintro e w1 ⟨rfl, hb1⟩;have HB1 := lhid (aB HAL.out hb1);have HBX1 := lhid (HBX.out.later hb1);have HRX1 := lhid (HRX.out.later hb1);have HIn := lhid (fun w' (hb : Below w1.heap.size w1 w') => HIn1.out w' (aB HB1.out hb));have HBg := lhid (fun w' (hb : Below w1.heap.size w1 w') p c (hh : jA w' p (List.replicate nn false)) (hc : nn ≤ c ∧ c ≤ maxLen) => HBg0.out hmm w' (aB HB1.out hb) p c hh hc);have HFi9 := lhid (HFi.out hmm);have HS : Hid (∀ w', Below w1.heap.size w1 w' → w'.cell? ⟨gh, 0, none⟩ = some (.slice p0 h.1.length c0) ∧ w'.cell? ⟨gh, 1, none⟩ = some (.slice p1 h.2.1.length c1) ∧ w'.cell? ⟨gh, 2, none⟩ = some (.slice p2 h.2.2.length c2) ∧ Below w1.heap.size w1 w') := lhid (fun w' hb => ⟨(HBX1.out.later hb).cell 0 rfl, (HBX1.out.later hb).cell 1 rfl, (HBX1.out.later hb).cell 2 rfl, hb⟩);clear hb1 HMy HAL HBX HRX HBX1 x0 x1 x2 HIn1 HBg0 HFi;have HFi := HFi9;clear HFi9;(go_upto_region 4 with fail);refine wpk HS [6] (by kernel_rfl) fun hB0 _ => ?_;obtain ⟨wd, hwd⟩ : ∃ q, (w1).drew = q := ⟨_, rfl⟩;rw [hwd] at hB0 ⊢;clear hwd;refine wT 0 8 (HS.out _ hB0) ?_;have hSn := HS.out _ hB0;refine wO 1 ?_;clear hSn;refine won 2 rfl fun K hK => ?_;go_simp;refine (HIn.out _ hB0).mono ?_;rintro e wb1 ⟨vi, rfl, ⟨pi, ci, rfl⟩, hc1⟩;have hB1 := aB hB0 hc1;refine hK.out _ _ (fun _ _ => HS.out _ hB1) ?_;clear hK K hc1;(try simp only [Act.put, sq]);refine wO 3 ?_;refine won 4 rfl fun K hK => ?_;go_simp;have hA2 := hB1.alloc hB1.size (.cells (madeCells #[.bool false] nn) 4);have MB := lhid (aSk wb1 nn hn16 (Nat.le_trans HB1.out.size hB1.size));refine hK.out _ _ (fun _ _ => HS.out _ hA2) ?_;clear hK K;(try simp only [Act.put, sq]);obtain ⟨wa2, hwa2⟩ : ∃ q, wb1.alloc (.cells (madeCells #[.bool false] nn) 4) = q := ⟨_, rfl⟩;obtain ⟨gb2, hgb2⟩ : ∃ q, wb1.heap.size = q := ⟨_, rfl⟩;have hlt2 : w1.heap.size ≤ gb2 := (by rw [← hgb2]; exact hB1.size);simp only [hwa2, hgb2] at hA2 MB ⊢;clear hwa2 hgb2;refine won 5 rfl fun K hK => ?_;go_simp;refine (HBg.out _ hA2 _ _ (aZg MB.out (by simp)) ⟨Nat.le_refl _, by unfold maxLen; omega⟩).mono ?_;rintro e wb3 ⟨vl, rfl, hl3, hc3⟩;have VB := lhid (cQ hl3 (Nat.le_trans HB1.out.size hA2.size));obtain ⟨pl, cl, rfl⟩ := aF hl3;clear hl3;have hB3 := aB hA2 hc3;replace MB := lhid (aS MB.out hc3);refine hK.out _ _ (fun _ _ => HS.out _ hB3) ?_;clear hK K hc3;(try simp only [Act.put, sq]);refine won 6 rfl fun K hK => ?_;have HG4 := lhid (HRX1.out.later hB3);have r0 := HG4.out.cell 0 rfl;have r1 := HG4.out.cell 1 rfl;have f0 := HG4.out.frozen 0;have f1 := HG4.out.frozen 1;go_simp;refine hK.out _ _ (fun h => absurd h (by decide)) ?_;clear hK K r0 r1 f0 f1;(try simp only [Act.put, sq]);refine wO 7 ?_;refine wD ?_;have HB9 := lhid (aU (aB HB1.out hB3) HG.out.1 (.slice (some ⟨gb2, 0, none⟩) nn nn) (.slice pl (cY h).length cl));have HM9 := lhid (aD (aD MB.out HG4.out (by decide) 0 (.slice (some ⟨gb2, 0, none⟩) nn nn)) (HG4.out.set 0 _) (by decide) 1 (.slice pl (cY h).length cl));have HV9 := lhid (aD (aD VB.out HG4.out (by decide) 0 (.slice (some ⟨gb2, 0, none⟩) nn nn)) (HG4.out.set 0 _) (by decide) 1 (.slice pl (cY h).length cl));(go_wp2_with fail);refine bodyPost_ret (cM Tryz.results8 _ _ _ _ _ rfl (bO (dQ HG4.out _ _))) rfl ?_;refine ⟨_, by rw [kT hmm] <;> rfl, ?_, HB9.out⟩;rw [HFi.out];exact ⟨_, _, rfl, aKl HM9.out (by simp), qR HV9.out HLb.out⟩
end
section
open Go.RowKit Go.Lib
theorem aCt {w : World} {a : Addr} {L : List Bool} (hp : jA w (some a) L) : ∀ (j : Nat) (u : Value), (bG L)[j]? = some u → w.cell? (a.add j) = some u := by
 intro j u hj
 have hjl : j < L.length := by
  have := (List.getElem?_eq_some_iff.1 hj).1;simpa [bG] using this
 obtain ⟨g, hg, hc⟩ := hp j hjl;obtain rfl : a = ⟨g, 0, none⟩ := (by simpa using hg);rw [Addr.add_lit, Nat.zero_add, hc, ← hj];simp [bG, hjl]
theorem aGk {w : World} {a : Addr} {L : List aR} (hp : lF w (some a) L) : ∀ (j : Nat) (u : Value), (aJ L)[j]? = some u → w.cell? (a.add j) = some u := by
 intro j u hj;have hjl := (List.getElem?_eq_some_iff.1 hj).1;rw [bC] at hjl;have e1 : j = j / 2 * 2 + j % 2 := (by omega);obtain ⟨g, hg, h1, h2⟩ := hp (j / 2) (by omega);obtain rfl : a = ⟨g, 0, none⟩ := (by simpa using hg);rw [Addr.add_lit, Nat.zero_add];rcases Nat.mod_two_eq_zero_or_one j with q | q
 ·rw [q] at e1;rw [e1, aJ, kB aZ 2 (fun _ => rfl) aN L (j / 2) 0 (by omega) (by omega)] at hj;rw [e1, ← hj];exact h1
 ·rw [q] at e1;rw [e1, aJ, kB aZ 2 (fun _ => rfl) aN L (j / 2) 1 (by omega) (by omega)] at hj;rw [e1, ← hj];exact h2
set_option maxRecDepth 100000 in
set_option maxHeartbeats 2000000 in
theorem aBw (w : World) (v : Value) (L : List Bool) (hv : qW w v L) (hL : L.length ≤ 1000000) :
  Calls Tryz.prog 33 #[v] w fun e w' => ∃ v', e = .returned v' ∧ w'.ownsRow w.heap.size 4 1 v' L.length (bG L) ∧ Below w.heap.size w w' := by
 obtain ⟨p, c, rfl, -, hp⟩ := hv;obtain ⟨i0, hi, hz0, hz1, hz2⟩ := info_parts oB
 cases p with
 | none =>
  have hL0 : L = [] := by
   cases L with
   | nil => rfl
   | cons a r => obtain ⟨g, hg, -⟩ := hp 0 (by simp); cases hg
  subst hL0;have hq := run_eql_slice_nil (P := Tryz.prog) w 26 4 none 0 c Tryz.underlying26;clear hp;go_enter Tryz.func33, Tryz.ntmps33;(go_wp2_with fail);go_ret;exact ⟨_, rfl, World.ownsRow_nil _ _ _ _, Below.refl _ _⟩
 | some a =>
  have hq := run_eql_slice_nil (P := Tryz.prog) w 26 4 (some a) L.length c Tryz.underlying26;have HNews := lhid (aCt hp);clear hp;go_enter Tryz.func33, Tryz.ntmps33;(go_wp2_with (at_builtin; refine wpList_append_own _ rfl _ _ 26 rfl w.heap.size 4 i0 (.bool false) 1 1 Tryz.underlying26 hi hz0 hz1 hz2 rfl (by decide) _ 0 [] rfl (World.ownsRow_made w #[] 0 (Nat.le_refl _) (Nat.zero_le _) rfl) a L.length c (bG L) rfl (by simp [bG]) (fun j u hj => lQ _ (HNews.out j u hj)) (lK L) (by unfold maxLen; omega) (by omega) (by simp) ?_));intro v' w4 hown4 hgrow hnil;have hb4 : Below w.heap.size w w4 := ((Below.refl _ _).alloc (Nat.le_refl _) _).grown hgrow (by simp) (fun k hk => by simp [Value.ownBlock] at hk; omega);have HO : Hid (w4.ownsRow w.heap.size 4 1 v' L.length (bG L)) := lhid (by simpa using hown4);clear hown4 hgrow hnil;(go_wp2_with fail);go_ret;exact ⟨_, rfl, HO.out, hb4⟩
set_option maxRecDepth 100000 in
set_option maxHeartbeats 2000000 in
theorem vZ (w : World) (v : Value) (L : List aR) (hv : oS w v L) (hL : L.length ≤ 1000000) :
  Calls Tryz.prog 34 #[v] w fun e w' => ∃ v', e = .returned v' ∧ w'.ownsRow w.heap.size 57 2 v' L.length (aJ L) ∧ Below w.heap.size w w' := by
 obtain ⟨p, c, rfl, -, hp⟩ := hv;obtain ⟨i0, hi, hz0, hz1, hz2⟩ := info_parts oC
 cases p with
 | none =>
  have hL0 : L = [] := by
   cases L with
   | nil => rfl
   | cons a r => obtain ⟨g, hg, -⟩ := hp 0 (by simp); cases hg
  subst hL0;have hq := run_eql_slice_nil (P := Tryz.prog) w 27 57 none 0 c Tryz.underlying27;clear hp;go_enter Tryz.func34, Tryz.ntmps34;(go_wp2_with fail);go_ret;exact ⟨_, rfl, World.ownsRow_nil _ _ _ _, Below.refl _ _⟩
 | some a =>
  have hq := run_eql_slice_nil (P := Tryz.prog) w 27 57 (some a) L.length c Tryz.underlying27;have HNews := lhid (aGk hp);clear hp;go_enter Tryz.func34, Tryz.ntmps34;(go_wp2_with (at_builtin; refine wpList_append_own _ rfl _ _ 27 rfl w.heap.size 57 i0 (.agg #[.int .i64 0, .int .i64 0]) 2 16 Tryz.underlying27 hi hz0 hz1 hz2 rfl (by decide) _ 0 [] rfl (World.ownsRow_made w #[] 0 (Nat.le_refl _) (Nat.zero_le _) rfl) a L.length c (aJ L) rfl (bC L) (fun j u hj => lQ _ (HNews.out j u hj)) (bJ L) (by unfold maxLen; omega) (by omega) (by simp) ?_));intro v' w4 hown4 hgrow hnil;have hb4 : Below w.heap.size w w4 := ((Below.refl _ _).alloc (Nat.le_refl _) _).grown hgrow (by simp) (fun k hk => by simp [Value.ownBlock] at hk; omega);have HO : Hid (w4.ownsRow w.heap.size 57 2 v' L.length (aJ L)) := lhid (by simpa using hown4);clear hown4 hgrow hnil;(go_wp2_with fail);go_ret;exact ⟨_, rfl, HO.out, hb4⟩
def aJw (L : List aR) (x : aR) : Int := if x ∈ L then (atW L x : Nat) else -1
theorem bHp {L : List aR} {x : aR} {n : Nat} (hn : n < L.length) (hb : ∀ j, j < n → L.getD j aN ≠ x) (he : L.getD n aN = x) : aJw L x = (n : Nat) := by
 have hm : x ∈ L := by
  rw [← he, show L.getD n aN = L[n] by simp [hn]];exact List.getElem_mem hn
 have h1 := zN.2 hm;have h2 := aJo aN hm
 have h3 : ¬ n < atW L x := fun q => by
  have h4 := List.not_of_lt_findIdx (p := (· == x)) q;rw [show L.getD n aN = L[n] by simp [hn]] at he;simp [he] at h4
 have h5 : ¬ atW L x < n := fun q => hb _ q h2;unfold aJw;rw [if_pos hm];have : atW L x = n := (by omega);rw [this]
theorem bHq {L : List aR} {x : aR} (h : ∀ j, j < L.length → L.getD j aN ≠ x) : aJw L x = -1 := by
 unfold aJw;rw [if_neg fun hm => h _ (zN.2 hm) (aJo aN hm)]
set_option maxRecDepth 100000 in
set_option maxHeartbeats 2000000 in
theorem aRn (w : World) (p : Option Addr) (c : Nat) (L : List aR) (x : aR) (hp : lF w p L) (hL : L.length ≤ 100000) :
  Calls Tryz.prog 32 #[.slice p L.length c, .agg #[.int .i64 x.1, .int .i64 x.2]] w fun e w' => e = .returned (.int .i64 (aJw L x)) ∧ Below w.heap.size w w' := by
 have HV := lhid hp;have HAt := lhid (fun n (hn : n < L.length) hb he => bHp (x := x) hn hb he);have HNo := lhid (fun h => bHq (L := L) (x := x) h);obtain ⟨iw, hiw⟩ : ∃ q, aJw L x = q := ⟨_, rfl⟩;rw [hiw] at HAt HNo ⊢;obtain ⟨x1, x2⟩ := x;dsimp only;have HAL := lhid ((Below.refl w.heap.size w).alloc (Nat.le_refl _) (.cells #[.int .i64 x1, .int .i64 x2] 57));have HBX := lhid (Blk.new w 57 [.int .i64 x1, .int .i64 x2]);clear hp hiw;go_enter Tryz.func32, Tryz.ntmps32;(go_wp2_with fail);obtain ⟨W1, hW1⟩ : ∃ q, w.alloc (.cells #[.int .i64 x1, .int .i64 x2] 57) = q := ⟨_, rfl⟩;rw [hW1] at HAL HBX ⊢;obtain ⟨gx, hgx⟩ : ∃ q, w.heap.size = q := ⟨_, rfl⟩;rw [hgx] at HBX;(try simp only [hgx]);have HGx := lhid hgx;clear hW1 hgx
 go_loopw [8] (fun i wr => ∃ n : Nat, n ≤ L.length ∧ i = .int .i64 n ∧ (∀ j, j < n → L.getD j aN ≠ (x1, x2)) ∧ Below W1.heap.size W1 wr) (fun i _ => L.length - (RowKit.intOf i).toNat)
 case atStart => exact ⟨0, Nat.zero_le _, rfl, fun j hj => absurd hj (Nat.not_lt_zero j), Below.refl _ _⟩
 case round =>
  obtain ⟨n, hn, rfl, hbf, hbw⟩ := hrel;have HBf := lhid hbf;by_cases hlt : n < L.length
  ·obtain ⟨g, rfl, q1, q2⟩ := HV.out n hlt;have q1 := cell_later (aB HAL.out hbw) q1;have q2 := cell_later (aB HAL.out hbw) q2;have hat := HAt.out n hlt hbf;obtain ⟨⟨y1, y2⟩, hy⟩ : ∃ q, L.getD n aN = q := ⟨_, rfl⟩;rw [hy] at q1 q2 hat;dsimp only at q1 q2;have HY := lhid hy;have HAt1 := lhid hat;have HBw := lhid hbw;have HS : Hid (∀ w', Below wr.heap.size wr w' → w'.cell? ⟨gx, 0, none⟩ = some (.int .i64 x1) ∧ w'.cell? ⟨gx, 1, none⟩ = some (.int .i64 x2) ∧ w'.cell? ⟨g, n * 2, none⟩ = some (.int .i64 y1) ∧ w'.cell? ⟨g, n * 2 + 1, none⟩ = some (.int .i64 y2) ∧ Below wr.heap.size wr w') := lhid (fun w' hb => ⟨(HBX.out.later (aB hbw hb)).cell 0 rfl, (HBX.out.later (aB hbw hb)).cell 1 rfl, cell_later hb q1, cell_later hb q2, hb⟩);clear hat hy hbf hbw q1 q2;by_cases hxy : (x1, x2) = ((y1, y2) : Int × Int)
   ·have e1 : x1 = y1 := congrArg Prod.fst hxy;have e2 : x2 = y2 := congrArg Prod.snd hxy;subst e1;subst e2;have HR := lhid (HAt1.out rfl);clear hxy;(go_upto_region 4 with fail);refine wpk HS [] (by kernel_rfl) fun hB0 hS0 => ?_;refine wT 0 6 hS0 ?_;refine wF 1 ?_;refine wO 2 ?_;refine wO 3 ?_;refine wO 4 ?_;refine wO 5 ?_;refine wD ?_;(go_wp2_with fail);go_ret;exact ⟨by rw [HR.out] <;> rfl, aB HAL.out (aB HBw.out hB0)⟩
   ·have hbn : ∀ j, j < n + 1 → L.getD j aN ≠ (x1, x2) := fun j hj => by
     by_cases e : j = n
     ·rw [e, HY.out];exact fun q => hxy q.symm
     ·exact HBf.out j (by omega)
    have HBn := lhid hbn;clear hbn;by_cases e1 : x1 = y1
    ·have e2 : ¬ x2 = y2 := fun b => hxy (by rw [e1, b]);subst e1;clear hxy;(go_upto_region 4 with fail);refine wpk HS [] (by kernel_rfl) fun hB0 hS0 => ?_;refine wT 0 6 hS0 ?_;refine wF 1 ?_;refine wO 2 ?_;refine wO 3 ?_;refine wO 4 ?_;refine wO 5 ?_;refine wD ?_;(go_wp2_with fail);go_roundw
     case rel => exact ⟨n + 1, by omega, by go_num, HBn.out, aB HBw.out hB0⟩
     case measure => simp [RowKit.intOf]; omega
    ·clear hxy;(go_upto_region 4 with fail);refine wpk HS [] (by kernel_rfl) fun hB0 hS0 => ?_;refine wT 0 6 hS0 ?_;refine wF 1 ?_;refine wO 2 ?_;refine wO 3 ?_;refine wO 4 ?_;refine wO 5 ?_;refine wD ?_;(go_wp2_with fail);go_roundw
     case rel => exact ⟨n + 1, by omega, by go_num, HBn.out, aB HBw.out hB0⟩
     case measure => simp [RowKit.intOf]; omega
  ·have hne : n = L.length := (by omega);subst hne;have HR := lhid (HNo.out hbf);have HBw := lhid hbw;clear hbf hbw;(go_wp2_with fail);go_ret;exact ⟨by rw [HR.out] <;> rfl, aB HAL.out HBw.out⟩
end
section
open Go.RowKit Go.Lib
theorem wC {α : Type} (L : List α) (i : Nat) (d : α) (h : i < L.length) : L.getD i d ∈ L := by
 rw [show L.getD i d = L[i] by simp [h]];exact List.getElem_mem h
def aAo (key n : Int) (o : OpM) : Bool := wrO key o && o.2.2.2 == n
theorem aJl (T : List bB) (key n : Int) : jK T key n = T.any fun t => t.2.2.any (aAo key n) := rfl
theorem bHn {T : List bB} {key n : Int} {i j : Nat} (hi : i < T.length) (hj : j < (T.getD i aM).2.2.length) (h : aAo key n ((T.getD i aM).2.2.getD j cG) = true) : jK T key n = true := by
 rw [aJl, List.any_eq_true];exact ⟨_, wC T i aM hi, List.any_eq_true.2 ⟨_, wC _ j cG hj, h⟩⟩
theorem bHm {l : List OpM} {key n : Int} (h : ∀ j, j < l.length → aAo key n (l.getD j cG) = false) : l.any (aAo key n) = false := by
 rw [List.any_eq_false];intro o ho;obtain ⟨j, hj, rfl⟩ := List.getElem_of_mem ho;have := h j hj;rw [show l.getD j cG = l[j] by simp [hj]] at this;rw [this];simp
theorem bKn {T : List bB} {key n : Int} (h : ∀ i, i < T.length → (T.getD i aM).2.2.any (aAo key n) = false) : jK T key n = false := by
 rw [aJl, List.any_eq_false];intro t ht;obtain ⟨i, hi, rfl⟩ := List.getElem_of_mem ht;have := h i hi;rw [show T.getD i aM = T[i] by simp [hi]] at this;rw [this];simp
def bJs (T : List bB) (key n : Int) (i : Nat) : Prop := ∀ j, j < i → (T.getD j aM).2.2.any (aAo key n) = false
def bJq (l : List OpM) (key n : Int) (i : Nat) : Prop := ∀ j, j < i → aAo key n (l.getD j cG) = false
set_option maxRecDepth 100000 in
set_option maxHeartbeats 4000000 in
theorem aFb {w : World} {v : Value} {h : aI} (key n : Int) (hv : cJ w v h) (hm : cU h) :
  Calls Tryz.prog 73 #[v, .int .i64 key, .int .i64 n] w fun e w' => e = .returned (.bool (jK h.2.2 key n)) ∧ Below w.heap.size w w' := by
 obtain ⟨v0, v1, v2, rfl, ⟨p0, c0, rfl, -⟩, ⟨p1, c1, rfl, -⟩, ⟨p2, c2, rfl, k2⟩⟩ := hv;have HX := lhid k2;have h1000 : h.2.2.length ≤ 1000 := hm.2.2.1;have HTl := lhid (fun i (hi : i < h.2.2.length) => hm.2.2.2.2.2 _ (wC h.2.2 i aM hi));have HYes := lhid (fun i j hi hj hh => bHn (T := h.2.2) (key := key) (n := n) (i := i) (j := j) hi hj hh);have HNo := lhid (fun hh => bKn (T := h.2.2) (key := key) (n := n) hh);obtain ⟨B, hB⟩ : ∃ q, jK h.2.2 key n = q := ⟨_, rfl⟩;rw [hB] at HYes HNo ⊢;have HAL := lhid ((Below.refl w.heap.size w).alloc (Nat.le_refl _) (.cells #[.slice p0 h.1.length c0, .slice p1 h.2.1.length c1, .slice p2 h.2.2.length c2] 25));have HBX := lhid (Blk.new w 25 [.slice p0 h.1.length c0, .slice p1 h.2.1.length c1, .slice p2 h.2.2.length c2]);clear k2 hm hB;go_enter Tryz.func73, Tryz.ntmps73;(go_wp2_with fail);obtain ⟨W1, hW1⟩ : ∃ q, w.alloc (.cells #[.slice p0 h.1.length c0, .slice p1 h.2.1.length c1, .slice p2 h.2.2.length c2] 25) = q := ⟨_, rfl⟩;rw [hW1] at HAL HBX ⊢;obtain ⟨gh, hgh⟩ : ∃ q, w.heap.size = q := ⟨_, rfl⟩;rw [hgh] at HBX;(try simp only [hgh]);have HG := lhid hgh;clear hW1 hgh
 go_loopw [7] (fun i wr => ∃ a : Nat, a ≤ h.2.2.length ∧ i = .int .i64 a ∧ bJs h.2.2 key n a ∧ Below W1.heap.size W1 wr) (fun i _ => h.2.2.length - (RowKit.intOf i).toNat)
 case atStart => exact ⟨0, Nat.zero_le _, rfl, fun j hj => absurd hj (Nat.not_lt_zero j), Below.refl _ _⟩
 case round =>
  obtain ⟨a, ha, rfl, hnt, hbw⟩ := hrel;have HNt := lhid hnt;have HBw := lhid hbw;have x2 := (HBX.out.later hbw).cell 2 rfl;by_cases hlt : a < h.2.2.length
  ·obtain ⟨g, sv, rfl, -, -, a3, a4⟩ := HX.out a hlt;have HA3 := lhid a3;have htl := HTl.out a hlt;have HYa := lhid (fun j => HYes.out a j hlt)
   have HNx : Hid ((h.2.2.getD a aM).2.2.any (aAo key n) = false → bJs h.2.2 key n (a + 1)) := lhid (fun q j hj => by
    by_cases e : j = a
    ·rw [e]; exact q
    ·exact HNt.out j (by omega))
   obtain ⟨⟨ts, tf, tl⟩, ht⟩ : ∃ q, h.2.2.getD a aM = q := ⟨_, rfl⟩;rw [ht] at a4 htl HYa HNx;dsimp only at a4 htl HYa HNx;obtain ⟨p3, c3, rfl, -, ho⟩ := a4;have HO := lhid ho;clear hnt ht a3 ho hbw;(go_wp2_with fail);clear x2;obtain ⟨wo, rfl⟩ : ∃ q, q = wr := ⟨_, rfl⟩
   go_loopw [8] (fun i wx => ∃ m : Nat, m ≤ tl.length ∧ i = .int .i64 m ∧ bJq tl key n m ∧ Below W1.heap.size W1 wx) (fun i _ => tl.length - (RowKit.intOf i).toNat)
   case atStart => exact ⟨0, Nat.zero_le _, rfl, fun j hj => absurd hj (Nat.not_lt_zero j), HBw.out⟩
   case round =>
    obtain ⟨m, hml, rfl, hno, hbx⟩ := hrel;have HNo1 := lhid hno;have x2 := (HBX.out.later hbx).cell 2 rfl;have y3 := cell_later (aB HAL.out hbx) HA3.out;by_cases hlm : m < tl.length
    ·obtain ⟨go, rfl, q0, q1, q2, q3⟩ := HO.out m hlm;have q0 := cell_later (aB HAL.out hbx) q0;have q1 := cell_later (aB HAL.out hbx) q1;have q2 := cell_later (aB HAL.out hbx) q2;have q3 := cell_later (aB HAL.out hbx) q3;have hY := HYa.out m hlm
     have HNx1 : Hid (aAo key n (tl.getD m cG) = false → bJq tl key n (m + 1)) := lhid (fun q j hj => by
      by_cases e : j = m
      ·rw [e]; exact q
      ·exact HNo1.out j (by omega))
     obtain ⟨⟨o1, o2, o3, o4⟩, hop⟩ : ∃ q, tl.getD m cG = q := ⟨_, rfl⟩;rw [hop] at q0 q1 q2 q3 hY HNx1;dsimp only at q0 q1 q2 q3;have HY := lhid hY;have HB5 := lhid (hbx.alloc hbx.size (.cells #[.bool o1, .int .i64 o2, .int .i64 o3, .int .i64 o4] 82));have HOx := lhid (Blk.new wr 82 [.bool o1, .int .i64 o2, .int .i64 o3, .int .i64 o4]);clear hno hbx hop hY;(go_upto_region 8 with fail);obtain ⟨W5, hW5⟩ : ∃ q, wr.alloc (.cells #[.bool o1, .int .i64 o2, .int .i64 o3, .int .i64 o4] 82) = q := ⟨_, rfl⟩;rw [hW5] at HB5 HOx;(try rw [hW5]);clear hW5 q0 q1 q2 q3 x2 y3;have t0 := HOx.out.cell 0 rfl;have t1 := HOx.out.cell 1 rfl;have t3 := HOx.out.cell 3 rfl
     cases o1 with
     | false =>
      have HN2 := lhid (HNx1.out rfl);clear HY HNx1;(go_wp2_with fail);go_roundw
      case rel => exact ⟨m + 1, by omega, by go_num, HN2.out, HB5.out⟩
      case measure => simp [RowKit.intOf]; omega
     | true =>
      by_cases hke : o2 = key
      ·have e0 : (o2 == key) = true := (by simpa using hke);by_cases hkn : o4 = n
       ·have e1 : (o4 == n) = true := (by simpa using hkn);have HY2 := lhid (HY.out (by unfold aAo wrO; simp [hke, hkn]));clear hke hkn HNx1;(go_wp2_with fail);go_ret;exact ⟨by rw [HY2.out] <;> rfl, aB HAL.out HB5.out⟩
       ·have e1 : (o4 == n) = false := (by simpa using hkn);have HN2 := lhid (HNx1.out (by unfold aAo; simp [hkn]));clear hke hkn HY HNx1;(go_wp2_with fail);go_roundw
        case rel => exact ⟨m + 1, by omega, by go_num, HN2.out, HB5.out⟩
        case measure => simp [RowKit.intOf]; omega
      ·have e0 : (o2 == key) = false := (by simpa using hke);have HN2 := lhid (HNx1.out (by unfold aAo wrO; simp [hke]));clear hke HY HNx1;(go_wp2_with fail);go_roundw
       case rel => exact ⟨m + 1, by omega, by go_num, HN2.out, HB5.out⟩
       case measure => simp [RowKit.intOf]; omega
    ·have hme : m = tl.length := (by omega);subst hme;have HN2 := lhid (HNx.out (bHm hno));have HBx := lhid hbx;clear hno hbx;(go_wp2_with fail);go_roundw
     case rel => exact ⟨a + 1, by omega, by go_num, HN2.out, HBx.out⟩
     case measure => simp [RowKit.intOf]; omega
  ·have hne : a = h.2.2.length := (by omega);subst hne;have HF := lhid (HNo.out hnt);clear hnt hbw;(go_wp2_with fail);go_ret;exact ⟨by rw [HF.out] <;> rfl, aB HAL.out HBw.out⟩
set_option maxRecDepth 100000 in
set_option maxHeartbeats 4000000 in
theorem bIx {w : World} {v : Value} {h : aI} (key : Int) (hv : cJ w v h) (hm : cU h) (hmm : cZ h = true) (hk0 : 0 ≤ key) (hk1 : key < h.2.1.length) :
  Calls Tryz.prog 50 #[v, .int .i64 key] w fun e w' => e = .returned (.agg #[.int .i64 1, .int .i64 (kI h.2.2 key : Nat)]) ∧ Below w.heap.size w w' := by
 have H0 := lhid hv;obtain ⟨v0, v1, v2, rfl, ⟨p0, c0, rfl, -⟩, ⟨p1, c1, rfl, -⟩, ⟨p2, c2, rfl, -⟩⟩ := hv;have hal := ((Below.refl w.heap.size w).alloc (Nat.le_refl _) (.cells #[.slice p0 h.1.length c0, .slice p1 h.2.1.length c1, .slice p2 h.2.2.length c2] 25)).alloc (by simp) (.cells #[.int .i64 0, .int .i64 0] 57);have hbx := (Blk.new w 25 [.slice p0 h.1.length c0, .slice p1 h.2.1.length c1, .slice p2 h.2.2.length c2]).alloc (.cells #[.int .i64 0, .int .i64 0] 57);have hvx := Blk.new (w.alloc (.cells #[.slice p0 h.1.length c0, .slice p1 h.2.1.length c1, .slice p2 h.2.2.length c2] 25)) 57 [.int .i64 0, .int .i64 0];simp only [World.size_alloc] at hvx;have hmy := bUk (H0.out.below hal) hm;rw [kT hmm] at hmy;have HMy := lhid hmy;have HWr := lhid (fun n w' (hb : Below w.heap.size w w') => aFb key n (H0.out.below hb) hm);have HFs := lhid (oA h.2.2 key);have hMH := (dA h).1 hmm
 have hfb : kI h.2.2 key ≤ 800 := by
  have h1 := (oA h.2.2 key).2.1
  have h3 := sF h.2.2 (fun t ht => by
   have := hMH.txn t ht;unfold bQ at this;simp only [Bool.and_eq_true, decide_eq_true_eq] at this
   exact this.2.2.2) h.2.2.length (Nat.le_refl _)
  rw [List.take_length] at h3;have h4 := hMH.n2;omega
 have d1 : decide (key < 0) = false := (by simp; omega);have d2 : decide (key ≥ (h.2.1.length : Int)) = false := (by simp; omega);obtain ⟨N, hNq⟩ : ∃ N, kI h.2.2 key = N := ⟨_, rfl⟩;rw [hNq] at hfb HFs ⊢;have HAL := lhid hal;have HBX := lhid hbx;have HVX := lhid hvx;clear H0 hm hal hbx hvx hmy hMH hNq;go_enter Tryz.func50, Tryz.ntmps50;(go_upto_region 1 with fail);obtain ⟨W1, hW1⟩ : ∃ q, (w.alloc (.cells #[.slice p0 h.1.length c0, .slice p1 h.2.1.length c1, .slice p2 h.2.2.length c2] 25)).alloc (.cells #[.int .i64 0, .int .i64 0] 57) = q := ⟨_, rfl⟩;rw [hW1] at HAL HBX HVX HMy ⊢;clear hW1;obtain ⟨gh, hgh⟩ : ∃ q, w.heap.size = q := ⟨_, rfl⟩;obtain ⟨gv, hgv⟩ : ∃ q, gh + 1 = q := ⟨_, rfl⟩;have HGv : Hid (w.heap.size ≤ gv) := lhid (by omega);(try simp only [hgh, hgv]);(try simp only [hgh, hgv] at HBX HVX);clear hgh hgv;have x0 := HBX.out.cell 0 rfl;have x1 := HBX.out.cell 1 rfl;have x2 := HBX.out.cell 2 rfl;(go_wp2_with fail);refine HMy.out.mono ?_;rintro e w1 ⟨rfl, hb1⟩;have HB1 := lhid (aB HAL.out hb1);have HBX1 := lhid (HBX.out.later hb1);have HVX1 := lhid (HVX.out.later hb1);clear hb1 HMy HAL HBX HVX x0 x1 x2;have x1 := HBX1.out.cell 1 rfl;(go_wp2_with fail);clear x1
 go_loopw [5] (fun i wr => ∃ m : Nat, m ≤ N ∧ i = .int .i64 m ∧ Below w1.heap.size w1 wr) (fun i _ => N - (RowKit.intOf i).toNat)
 case atStart => exact ⟨0, Nat.zero_le _, rfl, Below.refl _ _⟩
 case round =>
  obtain ⟨m, hmN, rfl, hbw⟩ := hrel;have HBw := lhid hbw;have x0 := (HBX1.out.later hbw).cell 0 rfl;have x1 := (HBX1.out.later hbw).cell 1 rfl;have x2 := (HBX1.out.later hbw).cell 2 rfl;have hwr := HWr.out (m : Int) _ (aB HB1.out hbw);by_cases hlt : m < N
  ·rw [HFs.out.2.2 m hlt] at hwr;have HW := lhid hwr;clear hwr hbw;(go_wp2_with fail);refine HW.out.mono ?_;rintro e w2 ⟨rfl, hb2⟩;have HB2 := lhid (aB HBw.out hb2);clear hb2 HW x0 x1 x2;(go_wp2_with fail);go_roundw
   case rel => exact ⟨m + 1, by omega, by go_num, HB2.out⟩
   case measure => simp [RowKit.intOf]; omega
  ·have hme : m = N := (by omega);subst hme;rw [HFs.out.1] at hwr;have HW := lhid hwr;clear hwr hbw;(go_wp2_with fail);refine HW.out.mono ?_;rintro e w2 ⟨rfl, hb2⟩;have HB2 := lhid (aB HBw.out hb2);have HV2 := lhid (HVX1.out.later HB2.out);clear hb2 HW x0 x1 x2;have r0 := HV2.out.cell 0 rfl;have r1 := HV2.out.cell 1 rfl;have f0 := HV2.out.frozen 0;have f1 := HV2.out.frozen 1;(go_wp2_with fail);refine bodyPost_ret (bS Tryz.results50 _ _ _ _ _ rfl (kC (dQ HV2.out _ _))) rfl ?_;exact ⟨rfl, aU (aB HB1.out HB2.out) HGv.out _ _⟩
end
section
open Go.RowKit Go.Lib
theorem bVu {h : aI} (hm : cU h) {m : bK} (ht : nX h m) : m.1.length ≤ 1000 ∧ m.2.length ≤ 1000 := by
 obtain ⟨h0, h1, h2⟩ := pC ht;have h3 := aDn h0;have h4 := hm.2.2.1
 have h5 : (cA aP h).length ≤ h.2.2.length := by
  have e : (cA aP h).length = (h.2.2.filter aP).length := h1.symm.trans ((jP h m).1 ht.1).c;rw [e];exact List.length_filter_le _ _
 omega
end
end Go.Proofs.YtdfegfagedeilaaGreatDoor
