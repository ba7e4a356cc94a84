/-
  Layer 15 (writer), the program: what a lost read may have read, walked. No conditions but that unicode/utf8's two tables are as their initialisers lay them.
-/
import Derived.Test.YtdfegfagedeilaaGreatDoorXxVsT
import Derived.Test.YtdfegfagedeilaaGreatDoorXLm
import Derived.Test.YtdfegfagedeilaaGreatDoorXxWrA
namespace Go.Proofs.YtdfegfagedeilaaGreatDoor
open Go.RowKit Go.Lib Go.Maps
theorem oC : (Tryz.prog.info? 57).map (fun i => (i.zero, i.size, i.bytes)) = some (some (.agg #[.int .i64 0, .int .i64 0]), 2, 16) := by kernel_rfl
theorem nP (L : List aR) (x : aR) : aJ L ++ [.int .i64 x.1, .int .i64 x.2] = aJ (L ++ [x]) := by simp [aJ, aZ]
def aBg (ks : List Int) (f : Int → aR) (left : Lit → Bool) (A : List aR) : Prop := ∀ x, x ∈ A ↔ (x = aN ∨ ∃ j ∈ ks, left (.int .i64 j) = false ∧ x = f j)
theorem aBg.start {ks : List Int} {f : Int → aR} {left : Lit → Bool} (h : ∀ j ∈ ks, left (.int .i64 j) = true) : aBg ks f left [aN] := fun x => by
 rw [List.mem_singleton];refine ⟨fun e => .inl e, ?_⟩;rintro (e | ⟨j, hj, h1, -⟩)
 ·exact e
 ·rw [h j hj] at h1;cases h1
theorem aBg.step {ks : List Int} {f : Int → aR} {left : Lit → Bool} {A : List aR} (h : aBg ks f left A) (i : Int) (hi : i ∈ ks) : aBg ks f (fun z => left z && !z.sameKey (.int .i64 i)) (A ++ [f i]) := fun x => by
 rw [List.mem_append, List.mem_singleton, h x];constructor
 ·rintro ((e | ⟨j, hj, h1, e⟩) | e)
  ·exact .inl e
  ·exact .inr ⟨j, hj, by dsimp only; rw [h1]; rfl, e⟩
  ·exact .inr ⟨i, hi, by simp [Lit.sameKey], e⟩
 ·rintro (e | ⟨j, hj, h1, e⟩)
  ·exact .inl (.inl e)
  ·by_cases hji : j = i
   ·subst hji;exact .inr e
   ·refine .inl (.inr ⟨j, hj, ?_, e⟩)
    cases hl : left (.int .i64 j) with
    | false => rfl
    | true =>
     dsimp only at h1;rw [hl] at h1;simp [Lit.sameKey, hji] at h1
theorem aBg.all {h : aI} (hmm : cZ h = true) {t : Nat} {key : Int} {left : Lit → Bool} {A : List aR} (hA : aBg (nJ h t key) (qK h key) left A) (hl : ∀ z, left z = false) : cH A = cH (aN :: dW h.2.2 t key h.2.2.length) :=
 aKq _ _ fun x => by
  rw [hA x, List.mem_cons, aXx hmm];constructor
  ·rintro (e | ⟨j, hj, -, e⟩)
   ·exact .inl e
   ·exact .inr ⟨j, hj, e⟩
  ·rintro (e | ⟨j, hj, e⟩)
   ·exact .inl e
   ·exact .inr ⟨j, hj, hl _, e⟩
theorem wM {P : Program} {kt : TypeId} {R : Value → Option (DataW Unit × List MemPlace)} {w : World} {b r n base size m cnt : Nat} {D : DataW Unit} {left : Lit → Bool} {e : TypeId} {v : Value} {xs : List Value} (h : w.ranges P kt R b r n D left cnt) (ho : w.ownsRow base e size v m xs) : v.ownBlock ≠ some r ∧ v.ownBlock ≠ some b := by
 obtain ⟨es, clock, since, seen, c0, hb, _, _, _, hr, _⟩ := h;rcases ho.2 with ⟨rfl, -⟩ | ⟨g, cap, cur, rfl, -, hw, -⟩
 ·exact ⟨by simp [Value.ownBlock], by simp [Value.ownBlock]⟩
 ·refine ⟨fun he => ?_, fun he => ?_⟩
  ·have e1 : g = r := (by simpa [Value.ownBlock] using he);subst e1;rw [hw] at hr;cases hr
  ·have e1 : g = b := (by simpa [Value.ownBlock] using he);subst e1;rw [hw] at hb;cases hb
theorem pW {w w' : World} {base size n : Nat} {e : TypeId} {v : Value} {xs : List Value} {row : Option Nat} (h : w.ownsRow base e size v n xs) (hg : w.grownBy w' row) (hne : ∀ k, v.ownBlock = some k → row ≠ some k) : w'.ownsRow base e size v n xs := by
 refine h.kept hg ?_
 cases hv : v.ownBlock with
 | none =>
  rcases h.2 with ⟨rfl, -⟩ | ⟨g, cap, cur, rfl, -⟩
  ·exact .inl rfl
  ·cases hv
 | some k => exact .inr (fun e => hne k hv e.symm)
def bBm (ks : List Int) (left : Lit → Bool) : Prop := ∀ j : Int, (Lit.int .i64 j).wf = true → left (.int .i64 j) = true → j ∈ ks
set_option maxRecDepth 100000 in
set_option maxHeartbeats 4000000 in
theorem aKw {w : World} {v : Value} {h : aI} (t k : Nat) (hv : cJ w v h) (hm : cU h) (hmm : cZ h = true) (ht : t < h.2.2.length) (hk : k < (h.2.2.getD t aM).2.2.length) (hr : (aEb h (t, k)).1 = false) (hT : Lib.Utf8Tabs 1 2 w) :
  Calls Tryz.prog 63 #[v, .agg #[.int .i64 (t : Nat), .int .i64 (k : Nat)]] w fun e w' => ∃ v', e = .returned v' ∧ w'.ownsRow w.heap.size 57 2 v' (jE h (t, k)).length (aJ (jE h (t, k))) ∧ Below w.heap.size w w' := by
 have H0 := lhid hv;obtain ⟨v0, v1, v2, rfl, ⟨p0, c0, rfl, -⟩, ⟨p1, c1, rfl, -⟩, ⟨p2, c2, rfl, -⟩⟩ := hv;have hal := ((Below.refl w.heap.size w).alloc (Nat.le_refl _) (.cells #[.slice p0 h.1.length c0, .slice p1 h.2.1.length c1, .slice p2 h.2.2.length c2] 25)).alloc (by simp) (.cells #[.int .i64 (t : Nat), .int .i64 (k : Nat)] 70);have hbx := (Blk.new w 25 [.slice p0 h.1.length c0, .slice p1 h.2.1.length c1, .slice p2 h.2.2.length c2]).alloc (.cells #[.int .i64 (t : Nat), .int .i64 (k : Nat)] 70);have hpx := Blk.new (w.alloc (.cells #[.slice p0 h.1.length c0, .slice p1 h.2.1.length c1, .slice p2 h.2.2.length c2] 25)) 70 [.int .i64 (t : Nat), .int .i64 (k : Nat)];simp only [World.size_alloc] at hpx;have hrd := aPz t k (H0.out.below hal) hm hmm ht hk (Utf8Tabs_below hT hal);have HOt := lhid (fun w' (hb : Below w.heap.size w w') => aKk t (gW h (t, k)) (H0.out.below hb) hm (Utf8Tabs_below hT hb))
 have HKl : Hid ((nJ h t (gW h (t, k))).length ≤ 1000) := lhid (by
  have h1 : (nJ h t (gW h (t, k))).length ≤ (jF h (gW h (t, k))).length := List.length_filter_le _ _
  have h2 := wH (m := (List.range h.2.2.length).map fun n : Nat => (n : Int)) ((xW h (gW h (t, k))).imp fun {a b} hab e => by omega) (fun x hx => by
   have := sY hx
   exact List.mem_map.2 ⟨x.toNat, List.mem_range.2 (by omega), by omega⟩)
  rw [List.length_map, List.length_range] at h2;have := hm.2.2.1
  omega)
 have HAll := lhid (fun left A (hA : aBg (nJ h t (gW h (t, k))) (qK h (gW h (t, k))) left A) hl => aBg.all hmm hA hl);have h1000 : h.2.2.length ≤ 1000 := hm.2.2.1;have HVl : Hid (jE h (t, k) = cH (aN :: dW h.2.2 t (gW h (t, k)) h.2.2.length)) := lhid rfl;have hko : gW h (t, k) = (aEb h (t, k)).2.1 := rfl;obtain ⟨⟨o1, o2, o3, o4⟩, hop⟩ : ∃ q, aEb h (t, k) = q := ⟨_, rfl⟩;rw [hop] at hko hr hrd;dsimp only at hko hr hrd;subst hr;rw [hko] at HOt HKl HAll HVl;unfold bKa at hrd;dsimp only at hrd;have HRd := lhid hrd;have HAL := lhid hal;have HBX := lhid hbx;have HPX := lhid hpx;obtain ⟨i1, hj, hj0, hj1, hj2⟩ := info_parts oC;clear H0 hm hT hal hbx hpx hrd hko hop;go_enter Tryz.func63, Tryz.ntmps63;(go_wp2_with fail);refine HRd.out.mono ?_;rintro e w1 ⟨rfl, hb1⟩;have HB1 := lhid (aB HAL.out hb1);have HBX1 := lhid (HBX.out.later hb1);have HPX1 := lhid (HPX.out.later hb1);clear hb1 HRd HAL HBX HPX;have hbe : w.heap.size ≤ w1.heap.size := HB1.out.size;have HA2 := lhid ((HB1.out.alloc hbe (.cells #[.bool false, .int .i64 o2, .int .i64 o3, .int .i64 o4] 82)).alloc (by simp; omega) (.cells #[.int .i64 0, .int .i64 0] 57));have HOx := lhid ((Blk.new w1 82 [.bool false, .int .i64 o2, .int .i64 o3, .int .i64 o4]).alloc (.cells #[.int .i64 0, .int .i64 0] 57));have HBX2 := lhid ((HBX1.out.alloc (.cells #[.bool false, .int .i64 o2, .int .i64 o3, .int .i64 o4] 82)).alloc (.cells #[.int .i64 0, .int .i64 0] 57));have HPX2 := lhid ((HPX1.out.alloc (.cells #[.bool false, .int .i64 o2, .int .i64 o3, .int .i64 o4] 82)).alloc (.cells #[.int .i64 0, .int .i64 0] 57));have HR2 := lhid (World.ownsRow_lit (base := w.heap.size) (size := 2) (e := 57) (w1.alloc (.cells #[.bool false, .int .i64 o2, .int .i64 o3, .int .i64 o4] 82)) #[.int .i64 0, .int .i64 0] 1 (by simp; omega) (by unfold maxLen; omega) rfl);(go_upto_region 5 with fail);obtain ⟨W2, hW2⟩ : ∃ q, (w1.alloc (.cells #[.bool false, .int .i64 o2, .int .i64 o3, .int .i64 o4] 82)).alloc (.cells #[.int .i64 0, .int .i64 0] 57) = q := ⟨_, rfl⟩;rw [hW2] at HA2 HOx HBX2 HPX2 HR2;(try rw [hW2]);simp only [World.size_alloc] at HR2;(try simp only [World.size_alloc]);obtain ⟨gl, hgl⟩ : ∃ q, w1.heap.size + 1 = q := ⟨_, rfl⟩;obtain ⟨gx, hgx⟩ : ∃ q, w1.heap.size = q := ⟨_, rfl⟩;obtain ⟨gp, hgp⟩ : ∃ q, w.heap.size + 1 = q := ⟨_, rfl⟩;obtain ⟨gh, hgh⟩ : ∃ q, w.heap.size = q := ⟨_, rfl⟩;(try simp only [hgl] at HR2);(try simp only [hgl]);(try simp only [hgx] at HOx);(try simp only [hgx]);(try simp only [hgp] at HPX2);(try simp only [hgp]);rw [hgh] at HBX2;have HGh := lhid hgh;(try simp only [hgh]);clear hW2 hgl hgx hgp hgh hbe HBX1 HPX1 HB1;have HO2 := lhid (HOt.out W2 HA2.out);have x0 := HBX2.out.cell 0 rfl;have x1 := HBX2.out.cell 1 rfl;have x2 := HBX2.out.cell 2 rfl;have y0 := HPX2.out.cell 0 rfl;have z1 := HOx.out.cell 1 rfl;(go_wp2_with fail);refine HO2.out.mono ?_;rintro e w3 ⟨bm, rfl, hvm, hbm, hb3⟩;have HA3 := lhid (aB HA2.out hb3);have HR3 := lhid (aS HR2.out hb3);obtain ⟨D, hown, hsz, hhas, hat⟩ := hvm;have HHs := lhid hhas;have HAt := lhid hat;have HSz := lhid hsz;have hbl := hown.lt;clear hb3 HO2 x0 x1 x2 y0 z1 HOt HR2 HA2 HOx HBX2 HPX2 hsz hhas hat
 go_wp2_with (first
  | (at_range; refine wpList_range_own _ rfl _ 107 rfl 3 57 (int_keyed Tryz.underlying3) Tryz.underlying107 _ bm _ _ rfl hown ?_; intro w4 hrg0 hg0 hs0)
  | go_in)
 go_frame
 obtain ⟨r, hr0⟩ : ∃ q, w3.heap.size = q := ⟨_, rfl⟩;have HRg := lhid hrg0;have HG0 := lhid hg0;have HA4 := lhid (HA3.out.grown hg0 HA3.out.size (fun j hj => by cases hj));have HR4 := lhid (pW HR3.out hg0 (fun q _ h2 => by cases h2));have hbr : w.heap.size ≤ r := (by rw [← hr0]; exact HA3.out.size);(try simp only [hr0]);rw [hr0] at HRg;clear hrg0 hg0 hs0 hr0
 go_loopw [7] (fun l wr => ∃ (left : Lit → Bool) (cnt : Nat) (A : List aR), wr.ranges Tryz.prog 3 vG bm r (nJ h t o2).length D left cnt ∧ bBm (nJ h t o2) left ∧ wr.ownsRow w.heap.size 57 2 l A.length (aJ A) ∧ aBg (nJ h t o2) (qK h o2) left A ∧ A.length + cnt ≤ (nJ h t o2).length + 1 ∧ Below w.heap.size w wr) (fun _ wr => wr.rangeLeft bm r)
 case atStart =>
  refine ⟨_, _, [aN], HRg.out, fun j hj hl => ?_, HR4.out, aBg.start fun j hj => ?_, by rw [HSz.out, List.length_singleton]; omega, HA4.out⟩
  ·rw [HHs.out j hj] at hl;exact of_decide_eq_true hl
  ·have hjw := sY (List.mem_filter.1 hj).1;rw [HHs.out j (WalkArith.wf_i64 (by omega))];exact decide_eq_true hj
 case round =>
  obtain ⟨left, cnt, A, hrg, hst, hrow, hgot, hcn, hbw⟩ := hrel;have HSt := lhid hst;have HGt := lhid hgot;have HBw := lhid hbw;have HRw := lhid hrow;have hkl := HKl.out;have hal9 : A.length ≤ 1001 := (by omega);have HCn := lhid hcn;obtain ⟨pl, cl, rfl⟩ := aF hrow;clear hst hgot hbw hrow hcn
  go_wp2_with (first
   | (at_next; refine wpList_next_ranges _ rfl _ rfl 3 (int_keyed Tryz.underlying3) vG (Value.int .i64) uI (fun key kl hk9 => by
     obtain ⟨x, e, -, -⟩ := Maps.keyOf_int_inv Tryz.underlying3 hk9
     exact ⟨x, e⟩) (fun v y hv9 => by
     obtain ⟨x, e, -⟩ := aVy hv9
     exact ⟨x, e⟩) bm r _ _ _ _ rfl hrg ?_ ?_)
   | go_in)
  ·intro hc0 hl0;have hS := HAll.out left A HGt.out hl0;obtain ⟨pq, cq, eq, -, hhv⟩ := qR HRw.out rfl;injection eq with eq1 eq2 eq3;subst eq1;have HS5 := lhid (bUx wr pl cl A hhv (by omega));rw [hS, ← HVl.out] at HS5;clear hS hc0 hl0 eq2 eq3 hhv;(go_wp2_with fail);refine HS5.out.mono ?_;rintro e w6 ⟨v', rfl, hs, hb6⟩;have HSo := lhid (cQ hs HBw.out.size);have HB6 := lhid (aB HBw.out hb6);obtain ⟨ps, cs, rfl⟩ := aF hs;clear hs hb6 HS5;(go_wp2_with fail);go_ret;exact ⟨_, rfl, HSo.out, HB6.out⟩
  ·intro x c1 c2 kl ya yb w5 cnt1 hwx hlx hwc hatx hrg1 hlt hg1 hs1 hen;obtain ⟨c, hcc⟩ : ∃ c : aR, (c1, c2) = c := ⟨_, rfl⟩;rw [hcc] at hwc hen;obtain ⟨x', e1, e2, hwf⟩ := Maps.keyOf_int_inv Tryz.underlying3 hwx;injection e1 with _ e1;subst e1;subst e2;have hxk : x ∈ nJ h t o2 := HSt.out x hwf hlx
   have hcx : qK h o2 x = c := by
    have h1 := hatx .nil;rw [HAt.out x .nil hxk] at h1;obtain ⟨c', e3, e4⟩ := aVy hwc
    have e5 : c' = c := by
     unfold uI at e3;injection e3 with e3;have e6 := congrArg Array.toList e3;simp at e6;exact Prod.ext e6.1.symm e6.2.symm
    subst e5;injection e4 with e4 _;rw [e4] at h1;exact bFu h1
   have HG5 := lhid (HGt.out.step x hxk);rw [hcx] at HG5
   have HS5 : Hid (bBm (nJ h t o2) (fun z => left z && !z.sameKey (.int .i64 x))) := lhid (fun j hj hl => HSt.out j hj (by
    rw [Bool.and_eq_true] at hl
    exact hl.1))
   have HB5 := lhid (HBw.out.grown hg1 HBw.out.size (fun q hq => by
    injection hq with hq
    omega))
   have HR5 := lhid (pW HRw.out hg1 (fun q h1 h2 => by
    rw [← h2] at h1
    exact (wM hrg HRw.out).1 h1))
   have HRg1 := lhid hrg1;have HRg9 := lhid hrg;have HLt := lhid hlt;have hcl : A.length + 1 + cnt1 ≤ (nJ h t o2).length + 1 := (by have := HCn.out; omega);subst hcc;unfold uI at hen;dsimp only at hen;have HBx := lhid (Blk.new w5 57 [.int .i64 c1, .int .i64 c2]);have HR6 := lhid (HR5.out.alloc (.cells #[.int .i64 c1, .int .i64 c2] 57));have HRg6 := lhid (HRg1.out.alloc (.cells #[.int .i64 c1, .int .i64 c2] 57));have HB6 := lhid (HB5.out.alloc HB5.out.size (.cells #[.int .i64 c1, .int .i64 c2] 57));clear hatx hwc hxk hcx hg1 hrg1 hlt hs1 hrg;(go_upto_region 8 with fail);obtain ⟨W6, hW6⟩ : ∃ q, w5.alloc (.cells #[.int .i64 c1, .int .i64 c2] 57) = q := ⟨_, rfl⟩;rw [hW6] at HBx HR6 HRg6 HB6;(try rw [hW6]);clear hW6 hen;have y0 := HBx.out.cell 0 rfl;have y1 := HBx.out.cell 1 rfl;have hr7 := HR6.out.alloc (.cells #[.int .i64 c1, .int .i64 c2] 57);have hg7 := HRg6.out.alloc (.cells #[.int .i64 c1, .int .i64 c2] 57);have HR7 := lhid hr7;have HRg7 := lhid hg7;have HB7 := lhid (HB6.out.alloc HB6.out.size (.cells #[.int .i64 c1, .int .i64 c2] 57));clear hr7 hg7;go_wp2_with (at_builtin; refine wpList_append_own _ rfl _ _ 27 rfl w.heap.size 57 i1 (.agg #[.int .i64 0, .int .i64 0]) 2 16 Tryz.underlying27 hj hj0 hj1 hj2 rfl (by decide) _ _ _ rfl HR7.out ⟨W6.heap.size, 0, none⟩ 1 1 [.int .i64 c1, .int .i64 c2] rfl rfl (dB W6 [.int .i64 c1, .int .i64 c2] _ _ rfl) (dO _ _) ?_ ?_ HB7.out.size ?_)
   ·unfold maxLen;omega
   ·omega
   intro v' w8 hown8 hgr8 hnil8;have HRg8 := lhid (HRg7.out.kept hgr8 (fun e => (wM HRg7.out HR7.out).2 e.symm) (fun e => (wM HRg7.out HR7.out).1 e.symm));have HB8 := lhid (HB7.out.grown hgr8 HB7.out.size (fun q hq => (HR7.out.lt q hq).1))
   have HO8 : Hid (w8.ownsRow w.heap.size 57 2 v' (A ++ [(c1, c2)]).length (aJ (A ++ [(c1, c2)]))) := lhid (by
    rw [← nP, List.length_append]
    exact hown8)
   obtain ⟨p8, c8, rfl⟩ := aF hown8;clear hown8 hgr8 hnil8 y0 y1 HR7 HRg7;(go_wp2_with fail);go_roundw
   case rel => exact ⟨_, cnt1, A ++ [(c1, c2)], HRg8.out, HS5.out, HO8.out, HG5.out, by rw [List.length_append, List.length_singleton]; omega, HB8.out⟩
   case measure => rw [HRg8.out.left_eq, HRg9.out.left_eq]; exact HLt.out
end Go.Proofs.YtdfegfagedeilaaGreatDoor
