/-
  The walks of layer 11's reference (hist): which transactions are so, the reads that were lost, whether two lists of places are the same. No conditions.
  The walks of layer 11's statements (hist): the sample; the chapter's example. No conditions but that unicode/utf8's two tables are as their initialisers lay them.
  slices.Backward at a transaction's operations: what it hands on to any loop's body that keeps what lay; in plain words which one is met first. No conditions.
  Layer 13 (inner), the program: the last write's value of a key, among operations. No conditions.
  Layer 13 (inner), the program: a transaction's operations, own values, what is left. No conditions but that unicode/utf8's two tables are as their initialisers lay them.
  Layer 13 (inner), the program: who writes a key. No conditions but that unicode/utf8's two tables are as their initialisers lay them.
  Maps of the call's own from numbers to numbers, in plain words. No conditions.
  Layer 14 (erase), the program: a history without its lost reads. No conditions but that unicode/utf8's two tables are as their initialisers lay them.
-/
import Derived.Test.YtdfegfagedeilaaGreatDoorVTj
namespace Go.Proofs.YtdfegfagedeilaaGreatDoor
section
open Go.RowKit Go.Lib
set_option maxRecDepth 100000 in
set_option maxHeartbeats 4000000 in
theorem aTg (v0 v1 v2 : Value) (h : aI) (w : World) (h0 : bF w v0 h.1) (h1 : bF w v1 h.2.1) (h2 : kM w v2 h.2.2) (hm : cU h) :
  Calls Tryz.prog 26 #[.agg #[v0, v1, v2]] w fun e w' => ∃ v', e = .returned v' ∧ qC w' v' (jH (aP) h.2.2 h.2.2.length) ∧ Below w.heap.size w w' := by
 obtain ⟨p2, c2, rfl, hp⟩ := h2;obtain ⟨p0, c0, rfl, -⟩ := h0;obtain ⟨p1, c1, rfl, -⟩ := h1;have HX := lhid hp;have m3 : h.2.2.length ≤ 1000 := hm.2.2.1;obtain ⟨i0, hi, hz0, hz1, hz2⟩ := info_parts xD;have b0 := Blk.new w 25 [.slice p0 h.1.length c0, .slice p1 h.2.1.length c1, .slice p2 h.2.2.length c2];have hb0 : Below w.heap.size w (w.alloc (.cells #[.slice p0 h.1.length c0, .slice p1 h.2.1.length c1, .slice p2 h.2.2.length c2] 25)) := (Below.refl _ w).alloc (Nat.le_refl _) _;have HB0 := lhid hb0;have B0 := lhid b0;have hown0 := World.ownsRow_made (base := w.heap.size + 1) (size := 1) (e := 3) (w.alloc (.cells #[.slice p0 h.1.length c0, .slice p1 h.2.1.length c1, .slice p2 h.2.2.length c2] 25)) #[] 0 (by simp) (Nat.zero_le _) rfl;have hbs0 : Below (w.heap.size + 1) (w.alloc (.cells #[.slice p0 h.1.length c0, .slice p1 h.2.1.length c1, .slice p2 h.2.2.length c2] 25)) ((w.alloc (.cells #[.slice p0 h.1.length c0, .slice p1 h.2.1.length c1, .slice p2 h.2.2.length c2] 25)).alloc (.cells #[] 3)) := (Below.refl _ _).alloc (by simp) _;simp only [World.size_alloc] at hown0;clear hp hm b0 hb0;go_enter Tryz.func26, Tryz.ntmps26;(go_wp2_with fail);have hS0 : (w.alloc (.cells #[.slice p0 h.1.length c0, .slice p1 h.2.1.length c1, .slice p2 h.2.2.length c2] 25)).heap.size = w.heap.size + 1 := World.size_alloc _ _;have HS0 := lhid hS0;clear hS0;generalize (w.alloc (.cells #[.slice p0 h.1.length c0, .slice p1 h.2.1.length c1, .slice p2 h.2.2.length c2] 25)) = W0 at *
 go_loopw [3, 4] (fun l i wr => ∃ k : Nat, k ≤ h.2.2.length ∧ i = .int .i64 k ∧ wr.ownsRow (w.heap.size + 1) 3 1 l (jH (aP) h.2.2 k).length (mG (jH (aP) h.2.2 k)) ∧ Below (w.heap.size + 1) W0 wr) (fun _ i _ => h.2.2.length - (RowKit.intOf i).toNat)
 case atStart => exact ⟨0, Nat.zero_le _, rfl, hown0, hbs0⟩
 case round =>
  obtain ⟨k, hk, rfl, hown, hbw⟩ := hrel;have hsz := hbw.size;rw [HS0.out] at hsz;have x2 := (B0.out.below hbw (by omega)).cell 2 rfl;by_cases hk1 : k < h.2.2.length
  ·obtain ⟨g, sv, rfl, a1, a2, a3, -⟩ := HX.out k hk1;have hbwx := HB0.out.trans (hbw.mono (by omega));have a1' := cell_later hbwx a1;have a2' := cell_later hbwx a2;have hnx := uQ (aP) h.2.2 k;have hil := xC (aP) h.2.2 k;obtain ⟨I, hI⟩ : ∃ I, jH (aP) h.2.2 k = I := ⟨_, rfl⟩;rw [hI] at hown hnx hil;obtain ⟨t, ht⟩ : ∃ t, h.2.2.getD k aM = t := ⟨_, rfl⟩;rw [ht] at a1' a2' hnx;obtain ⟨t1, t2, t3⟩ := t;simp only at a1' a2' hnx;have HN : Hid ((aP) (t1, t2, t3) = true → jH (aP) h.2.2 (k + 1) = I ++ [(k : Int)]) := lhid (fun e => by rw [hnx, if_pos e]);have HF : Hid ((aP) (t1, t2, t3) = false → jH (aP) h.2.2 (k + 1) = I) := lhid (fun e => by rw [hnx, if_neg (by rw [e]; exact Bool.false_ne_true)]);clear a1 a2 a3 ht hI hnx hbwx;by_cases hc : t2 = 3
   ·have hcb : ((aP) (t1, t2, t3)) = true := beq_iff_eq.2 hc;have HN2 := lhid (HN.out hcb);have hcc : (t2 == 3) = true := beq_iff_eq.2 hc;clear hcb hc HN HF;(go_wp2_with (at_builtin; refine wpList_append_own _ rfl _ _ 49 rfl (w.heap.size + 1) 3 i0 (.int .i64 0) 1 8 Tryz.underlying49 hi hz0 hz1 hz2 rfl (by decide) _ _ _ rfl (hown.alloc _) ⟨wr.heap.size, 0, none⟩ 1 1 [.int .i64 (k : Nat)] rfl rfl (aDx _ _ _) (aEa _) (by unfold maxLen; omega) (by omega) (by simp; omega) ?_));intro v4 w4 hown4 hgrow hnil;have hb4 : Below (w.heap.size + 1) W0 w4 := (hbw.alloc (by omega) _).grown hgrow (by simp; omega) (fun k hk => (hown.lt k hk).1);have HO : Hid (w4.ownsRow (w.heap.size + 1) 3 1 v4 (jH (aP) h.2.2 (k + 1)).length (mG (jH (aP) h.2.2 (k + 1)))) := lhid (by rw [HN2.out, ← wQ, List.length_append]; exact hown4);clear hown4 hgrow hnil hown hbw;(go_wp2_with fail);go_roundw
    case rel => exact ⟨k + 1, by omega, by go_num, HO.out, hb4⟩
    case measure => simp [RowKit.intOf]; omega
   ·have hcb : ((aP) (t1, t2, t3)) = false := beq_eq_false_iff_ne.2 hc;have HN2 := lhid (HF.out hcb);have hcc : (t2 == 3) = false := beq_eq_false_iff_ne.2 hc;clear hcb hc HN HF;(go_wp2_with fail);go_roundw
    case rel => exact ⟨k + 1, by omega, by go_num, by rw [HN2.out]; exact hown, hbw⟩
    case measure => simp [RowKit.intOf]; omega
  ·have hke : k = h.2.2.length := (by omega);subst hke;have HO := lhid (bUb hown);have hbwx := HB0.out.trans (hbw.mono (by omega));clear hown;(go_wp2_with fail);go_ret;exact ⟨_, rfl, HO.out, hbwx⟩
set_option maxRecDepth 100000 in
set_option maxHeartbeats 4000000 in
theorem aZz (v0 v1 v2 : Value) (h : aI) (w : World) (h0 : bF w v0 h.1) (h1 : bF w v1 h.2.1) (h2 : kM w v2 h.2.2) (hm : cU h) :
  Calls Tryz.prog 27 #[.agg #[v0, v1, v2]] w fun e w' => ∃ v', e = .returned v' ∧ nK w' v' (bY (itH h.2.2 h.2.2.length)) ∧ Below w.heap.size w w' := by
 obtain ⟨p2, c2, rfl, hp⟩ := h2;obtain ⟨p0, c0, rfl, -⟩ := h0;obtain ⟨p1, c1, rfl, -⟩ := h1;have HX := lhid hp;have HM := lhid hm;have m3 : h.2.2.length ≤ 1000 := hm.2.2.1;have HN0 := lhid (aBb h.2.2 hm.2.2.2.2.2 h.2.2.length (Nat.le_refl _));obtain ⟨i0, hi, hz0, hz1, hz2⟩ := info_parts aCw;have b0 := Blk.new w 25 [.slice p0 h.1.length c0, .slice p1 h.2.1.length c1, .slice p2 h.2.2.length c2];have hb0 : Below w.heap.size w (w.alloc (.cells #[.slice p0 h.1.length c0, .slice p1 h.2.1.length c1, .slice p2 h.2.2.length c2] 25)) := (Below.refl _ w).alloc (Nat.le_refl _) _;have HB0 := lhid hb0;have B0 := lhid b0;have hown0 := World.ownsRow_made (base := w.heap.size + 1) (size := 2) (e := 70) (w.alloc (.cells #[.slice p0 h.1.length c0, .slice p1 h.2.1.length c1, .slice p2 h.2.2.length c2] 25)) #[] 0 (by simp) (Nat.zero_le _) rfl;have hbs0 : Below (w.heap.size + 1) (w.alloc (.cells #[.slice p0 h.1.length c0, .slice p1 h.2.1.length c1, .slice p2 h.2.2.length c2] 25)) ((w.alloc (.cells #[.slice p0 h.1.length c0, .slice p1 h.2.1.length c1, .slice p2 h.2.2.length c2] 25)).alloc (.cells #[] 70)) := (Below.refl _ _).alloc (by simp) _;simp only [World.size_alloc] at hown0;clear hp hm b0 hb0;go_enter Tryz.func27, Tryz.ntmps27;(go_wp2_with fail);have hS0 : (w.alloc (.cells #[.slice p0 h.1.length c0, .slice p1 h.2.1.length c1, .slice p2 h.2.2.length c2] 25)).heap.size = w.heap.size + 1 := World.size_alloc _ _;have HS0 := lhid hS0;clear hS0;generalize (w.alloc (.cells #[.slice p0 h.1.length c0, .slice p1 h.2.1.length c1, .slice p2 h.2.2.length c2] 25)) = W0 at *
 go_loopw [3, 4] (fun l i wr => ∃ k : Nat, k ≤ h.2.2.length ∧ i = .int .i64 k ∧ wr.ownsRow (w.heap.size + 1) 70 2 l (bY (itH h.2.2 k)).length (gJ (bY (itH h.2.2 k))) ∧ Below (w.heap.size + 1) W0 wr) (fun _ i _ => h.2.2.length - (RowKit.intOf i).toNat)
 case atStart => exact ⟨0, Nat.zero_le _, rfl, hown0, hbs0⟩
 case round =>
  obtain ⟨k, hk, rfl, hown, hbw⟩ := hrel;have hsz := hbw.size;rw [HS0.out] at hsz;have x2 := (B0.out.below hbw (by omega)).cell 2 rfl;obtain ⟨wo, rfl⟩ : ∃ wo : World, wo = wr := ⟨_, rfl⟩;by_cases hk1 : k < h.2.2.length
  ·obtain ⟨g, sv, rfl, a1, a2, a3, ⟨p3, c3, rfl, -, ho⟩⟩ := HX.out k hk1;have HO := lhid ho;have HS := lhid (oD h.2.2 k);have HLT := lhid (fun j => bMo h.2.2 k j hk1)
   have hm4 : (h.2.2.getD k aM).2.2.length ≤ 1000 := HM.out.2.2.2.2.2 _ (by
    have : h.2.2.getD k aM = h.2.2[k] := (by simp [hk1]);rw [this]
    exact List.getElem_mem hk1)
   obtain ⟨tl, htl⟩ : ∃ tl, (h.2.2.getD k aM).2.2 = tl := ⟨_, rfl⟩;rw [htl] at a3 HO HS HLT hm4;obtain ⟨P0, hP0⟩ : ∃ P0, itH h.2.2 k = P0 := ⟨_, rfl⟩;rw [hP0] at hown HS HLT;have A3 := lhid a3;clear a1 a2 a3 ho htl hP0;go_wp2_with fail
   go_loopw [3, 5] (fun l j wr => ∃ m : Nat, m ≤ tl.length ∧ j = .int .i64 m ∧ wr.ownsRow (w.heap.size + 1) 70 2 l (bY (P0 ++ itT k tl m)).length (gJ (bY (P0 ++ itT k tl m))) ∧ Below (w.heap.size + 1) W0 wr) (fun _ j _ => tl.length - (RowKit.intOf j).toNat)
   case atStart => exact ⟨0, Nat.zero_le _, rfl, by simpa [itT] using hown, hbw⟩
   case round =>
    obtain ⟨m, hml, rfl, hown, hbw⟩ := hrel;have hsz := hbw.size;rw [HS0.out] at hsz;have x2 := (B0.out.below hbw (by omega)).cell 2 rfl;have hbwx := HB0.out.trans (hbw.mono (by omega));have a3' := cell_later hbwx A3.out;by_cases hm1 : m < tl.length
    ·obtain ⟨g2, rfl, q0, q1, q2, q3⟩ := HO.out m hm1;have q2' := cell_later hbwx q2;have hls := aDm (P0 ++ itT k tl m) ((k, m), tl.getD m cG);have hlt := HLT.out m hm1;have hll := yX (P0 ++ itT k tl m);have hn0 := HN0.out;rw [List.append_assoc, ← xF] at hls;obtain ⟨o, ho⟩ : ∃ o, tl.getD m cG = o := ⟨_, rfl⟩;rw [ho] at q2' hls;obtain ⟨ow, ok, od, on⟩ := o;simp only at q2' hls;obtain ⟨I, hI⟩ : ∃ I, bY (P0 ++ itT k tl m) = I := ⟨_, rfl⟩;rw [hI] at hown hls hll;have hIl : I.length ≤ 1000000 := (by omega);have HN : Hid (od = 2 → bY (P0 ++ itT k tl (m + 1)) = I ++ [(k, m)]) := lhid (fun e => by rw [hls, if_pos (beq_iff_eq.2 e)]);have HF : Hid (od ≠ 2 → bY (P0 ++ itT k tl (m + 1)) = I) := lhid (fun e => by rw [hls, if_neg (by rw [beq_eq_false_iff_ne.2 e]; exact Bool.false_ne_true)]);clear q0 q1 q2 q3 ho hI hls hll hlt hn0 hbwx;by_cases hc : od = 2
     ·have HN2 := lhid (HN.out hc);subst hc;clear HN HF;(go_wp2_with (at_builtin; refine wpList_append_own _ rfl _ _ 51 rfl (w.heap.size + 1) 70 i0 (.agg #[.int .i64 0, .int .i64 0]) 2 16 Tryz.underlying51 hi hz0 hz1 hz2 rfl (by decide) _ _ _ rfl (hown.alloc _) ⟨wr.heap.size, 0, none⟩ 1 1 [.int .i64 (k : Nat), .int .i64 (m : Nat)] rfl rfl (dB _ _ _ _ rfl) (by intro u hu; simp at hu; rcases hu with rfl | rfl <;> rfl) (by unfold maxLen; omega) (by omega) (by simp; omega) ?_));intro v4 w4 hown4 hgrow hnil;have hb4 : Below (w.heap.size + 1) W0 w4 := (hbw.alloc (by omega) _).grown hgrow (by simp; omega) (fun k hk => (hown.lt k hk).1);have HO4 : Hid (w4.ownsRow (w.heap.size + 1) 70 2 v4 (bY (P0 ++ itT k tl (m + 1))).length (gJ (bY (P0 ++ itT k tl (m + 1))))) := lhid (by rw [HN2.out, List.length_append, gJ, List.flatMap_append]; exact hown4);clear hown4 hgrow hnil hown hbw;(go_wp2_with fail);go_roundw
      case rel => exact ⟨m + 1, by omega, by go_num, HO4.out, hb4⟩
      case measure => simp [RowKit.intOf]; omega
     ·have HN2 := lhid (HF.out hc);have hcc : (od == 2) = false := beq_eq_false_iff_ne.2 hc;clear hc HN HF;(go_wp2_with fail);go_roundw
      case rel => exact ⟨m + 1, by omega, by go_num, by rw [HN2.out]; exact hown, hbw⟩
      case measure => simp [RowKit.intOf]; omega
    ·obtain rfl : m = tl.length := (by omega);have HOW := lhid hown;clear hown hbwx;(go_wp2_with fail);go_roundw
     case rel => exact ⟨k + 1, by omega, by go_num, by rw [HS.out]; exact HOW.out, hbw⟩
     case measure => simp [RowKit.intOf]; omega
  ·have hke : k = h.2.2.length := (by omega);subst hke;have HO := lhid (aEm hown);have hbwx := HB0.out.trans (hbw.mono (by omega));clear hown;(go_wp2_with fail);go_ret;exact ⟨_, rfl, HO.out, hbwx⟩
end
section
open Go.RowKit Go.Lib
theorem bUk {w : World} {v : Value} {h : aI} (hv : cJ w v h) (hm : cU h) : Calls Tryz.prog 12 #[v] w fun e w' => e = .returned (.int .i64 (tI h)) ∧ Below w.heap.size w w' := by
 obtain ⟨v0, v1, v2, rfl, h0, h1, h2⟩ := hv;exact bFb v0 v1 v2 h w h0 h1 h2 hm
theorem bVb {w : World} {v : Value} {h : aI} (hv : cJ w v h) (hm : cU h) (hT : Lib.Utf8Tabs 1 2 w) : Calls Tryz.prog 30 #[v] w fun e w' => ∃ v', e = .returned v' ∧ qC w' v' (cA aP h) ∧ Below w.heap.size w w' := by
 obtain ⟨v0, v1, v2, rfl, h0, h1, h2⟩ := hv;exact aXs v0 v1 v2 h w h0 h1 h2 hm hT
theorem bUz {w : World} {v : Value} {h : aI} (hv : cJ w v h) (hm : cU h) (hT : Lib.Utf8Tabs 1 2 w) : Calls Tryz.prog 42 #[v] w fun e w' => ∃ v', e = .returned v' ∧ nK w' v' (cY h) ∧ Below w.heap.size w w' := by
 obtain ⟨v0, v1, v2, rfl, h0, h1, h2⟩ := hv;exact bDl v0 v1 v2 h w h0 h1 h2 hm hT
theorem bUv {w : World} {v : Value} {h : aI} (hv : cJ w v h) (hm : cU h) : Calls Tryz.prog 26 #[v] w fun e w' => ∃ v', e = .returned v' ∧ qC w' v' (jH aP h.2.2 h.2.2.length) ∧ Below w.heap.size w w' := by
 obtain ⟨v0, v1, v2, rfl, h0, h1, h2⟩ := hv;exact aTg v0 v1 v2 h w h0 h1 h2 hm
theorem bUp {w : World} {v : Value} {h : aI} (hv : cJ w v h) (hm : cU h) : Calls Tryz.prog 27 #[v] w fun e w' => ∃ v', e = .returned v' ∧ nK w' v' (bY (itH h.2.2 h.2.2.length)) ∧ Below w.heap.size w w' := by
 obtain ⟨v0, v1, v2, rfl, h0, h1, h2⟩ := hv;exact aZz v0 v1 v2 h w h0 h1 h2 hm
end
section
open Go.RowKit Go.Shelf Go.Lib
abbrev aGx := Nat × OpM
def bHd (x : aGx) : Array Value := #[.int .i64 (x.1 : Nat), .agg #[.bool x.2.1, .int .i64 x.2.2.1, .int .i64 x.2.2.2.1, .int .i64 x.2.2.2.2]]
def itB (l : List OpM) (k : Nat) : List aGx := (List.range k).map fun j => (l.length - 1 - j, l.getD (l.length - 1 - j) cG)
theorem tM (l : List OpM) (k : Nat) : itB l (k + 1) = itB l k ++ [(l.length - 1 - k, l.getD (l.length - 1 - k) cG)] := by simp [itB, List.range_succ]
theorem aBa (l : List OpM) (k : Nat) : (itB l k).length = k := by simp [itB]
theorem aDa (l : List OpM) (k m : Nat) (h : k ≤ m) : itB l k <+: itB l m := by
 induction m with
 | zero =>
  obtain rfl : k = 0 := (by omega);exact List.prefix_rfl
 | succ m ih =>
  by_cases hk : k ≤ m
  ·rw [tM];exact (ih hk).trans (List.prefix_append _ _)
  ·obtain rfl : k = m + 1 := (by omega);exact List.prefix_rfl
theorem bDd (l : List OpM) (pre : List aGx) (h : pre <+: itB l l.length) : pre = itB l pre.length := by
 have h1 := aDa l pre.length l.length (by have := h.length_le; rwa [aBa] at this);exact (List.prefix_of_prefix_length_le h h1 (by rw [aBa]; exact Nat.le_refl _)).eq_of_length (by rw [aBa])
theorem aEs (key : Int) (l : List OpM) : ∀ k, k ≤ l.length → (∀ x ∈ itB l k, wrO key x.2 = false) → dL key l = dL key (l.take (l.length - k))
 | 0, _, _ => by rw [Nat.sub_zero, List.take_length]
 | k + 1, hk, h => by
  rw [aEs key l k (by omega) (fun x hx => h x (by rw [tM]; exact List.mem_append_left _ hx))];have e : l.length - k = (l.length - (k + 1)) + 1 := (by omega);have h2 := h (l.length - 1 - k, l.getD (l.length - 1 - k) cG) (by rw [tM]; simp);rw [show l.length - 1 - k = l.length - (k + 1) by omega] at h2;rw [e, xK key l _ (by omega), if_neg (by rw [h2]; exact Bool.false_ne_true)]
theorem bEx (key : Int) (l : List OpM) (h : ∀ x ∈ itB l l.length, wrO key x.2 = false) : dL key l = vI := by
 rw [aEs key l l.length (Nat.le_refl _) h, Nat.sub_self, List.take_zero, bIw]
theorem bIv (key : Int) (l : List OpM) (pre : List aGx) (x : aGx) (hp : pre ++ [x] <+: itB l l.length) (h : ∀ y ∈ pre, wrO key y.2 = false) (hx : wrO key x.2 = true) : dL key l = (x.2.2.2, true) := by
 have e := bDd l _ hp;have hl := hp.length_le;rw [List.length_append, List.length_singleton, aBa] at hl;rw [List.length_append, List.length_singleton, tM] at e;obtain ⟨e1, e2⟩ := List.append_inj' e rfl;injection e2 with e2;rw [e1] at h;rw [aEs key l pre.length (by omega) h];have e3 : l.length - pre.length = (l.length - 1 - pre.length) + 1 := (by omega);rw [e3, xK key l _ (by omega)];rw [e2] at hx ⊢;rw [if_pos hx]
attribute [local go_sem] Oper.semAt_some
set_option maxHeartbeats 1000000 in
theorem bGw (F : Fence) (n : Nat) (hF : F.fn 105) (hro : F.round = none) (p : Option Addr) (m c : Nat) (w : World) :
  CallsIn F n Tryz.prog 105 #[.slice p m c] w fun e w' => e = .returned (.func (.func 127) #[] #[.pointer (some ⟨w.heap.size, 0, none⟩)]) ∧ w' = w.alloc (.cells #[.slice p m c] 65) := by
 refine callsIn_of_wp Tryz.func105 rfl hF ?_ hro;simp only [Tryz.ntmps105, List.size_toArray, List.length_cons, List.length_nil, Nat.reduceAdd, Nat.reduceSub, Array.replicate_succ, Array.replicate_zero, List.push_toArray, List.append_toArray, List.nil_append, List.cons_append]
 gi_wp2
 go_ret;exact ⟨rfl, rfl⟩
set_option maxRecDepth 100000 in
set_option maxHeartbeats 4000000 in
theorem bBv (F : Fence) (n : Nat) (hF : F.fn 127) (hro : F.round = none) (hn : 1 ≤ n) (l B : Nat) (w0 : World) (p : Option Addr) (c : Nat) (L : List OpM) (hL : L.length ≤ 1000) (ho : pF w0 p L)
  (J Jx : List aGx → World → Prop)
  (hA : ∀ pre W o, J pre W → J pre (W.alloc o))
  (hY : ∀ pre x W, J pre W → pre ++ [x] <+: itB L L.length → YieldAt F (n - 1) Tryz.prog l (bHd x) W fun e W' =>
   (e = .returned (.bool true) ∧ J (pre ++ [x]) W' ∧ Below w0.heap.size W W') ∨ (e = .returned (.bool false) ∧ Jx (pre ++ [x]) W'))
  (W : World) (hbW : Below w0.heap.size w0 W) (h3 : W.cell? ⟨B, 0, none⟩ = some (.slice p L.length c)) (hfr : ∀ W', Below w0.heap.size w0 W' → W'.cell? ⟨B, 0, none⟩ = some (.slice p L.length c)) (h0 : J [] W) :
  CallsIn F n Tryz.prog 127 #[.func (.yield l) #[] #[], .pointer (some ⟨B, 0, none⟩)] W fun e W' => (∃ v, e = .returned v) ∧
   ((∃ ys, ys = itB L L.length ∧ J ys W') ∨ (∃ pre, pre <+: itB L L.length ∧ Jx pre W')) := by
 have HX := lhid ho;have HY := lhid hY;have HA := lhid hA;have HFR := lhid hfr;clear ho hY hA hfr;refine callsIn_of_wp Tryz.func127 rfl hF ?_ hro;simp only [Tryz.ntmps127, List.size_toArray, List.length_cons, List.length_nil, Nat.reduceAdd, Nat.reduceSub, Array.replicate_succ, Array.replicate_zero, List.push_toArray, List.append_toArray, List.nil_append, List.cons_append];have e0 : IntKind.i64.wrap ((L.length : Int) - 1) = (L.length : Int) - 1 := by rw [IntKind.wrap_i64]; omega
 gi_wp2
 gi_loopw [3] (fun i wr => ∃ k : Nat, k ≤ L.length ∧ i = .int .i64 ((L.length : Int) - 1 - k) ∧ J (itB L k) wr ∧ Below w0.heap.size w0 wr) (fun i _ => (RowKit.intOf i + 1).toNat)
 case atStart => exact ⟨0, Nat.zero_le _, by simp, by simpa [itB] using h0, hbW⟩
 case round =>
  obtain ⟨k, hk, rfl, hJk, hbk⟩ := hrel;have y3 := HFR.out _ hbk;by_cases hlt : k < L.length
  ·obtain ⟨g2, rfl, b1, b2, b3, b4⟩ := HX.out (L.length - 1 - k) (by omega);have b1' := cell_later hbk b1;have b2' := cell_later hbk b2;have b3' := cell_later hbk b3;have b4' := cell_later hbk b4;have HS2 := lhid (tM L k);have hpf := aDa L (k + 1) L.length hlt;have ei : ((L.length : Int) - 1 - k) = ((L.length - 1 - k : Nat) : Int) := (by omega);obtain ⟨j, hj⟩ : ∃ j, L.length - 1 - k = j := ⟨_, rfl⟩;rw [hj] at b1' b2' b3' b4' HS2 ei;rw [ei];obtain ⟨o, ho⟩ : ∃ o, L.getD j cG = o := ⟨_, rfl⟩;rw [ho] at b1' b2' b3' b4' HS2;rw [HS2.out] at hpf;obtain ⟨ow, ok, od, on⟩ := o;simp only at b1' b2' b3' b4' HS2 hpf;have HPf := lhid hpf;have EI := lhid ei;have HJ := lhid hj;clear b1 b2 b3 b4 ho;have hjl : j < L.length := (by omega);have hge : decide ((0 : Int) ≤ (j : Int)) = true := decide_eq_true (by omega);have ew : IntKind.i64.wrap ((j : Int) - 1) = (j : Int) - 1 := (by rw [IntKind.wrap_i64]; omega);obtain ⟨fn, tmps, assign, body, hy, hR⟩ := HY.out _ (j, (ow, ok, od, on)) wr hJk hpf;simp only [bHd] at hy;clear hpf ei hj
   gi_wp2
   refine hR.mono ?_;rintro e W3 (⟨rfl, hJ3, hk3⟩ | ⟨rfl, hJx3⟩)
   ·gi_wp2
    go_roundw
    case rel => exact ⟨k + 1, by omega, by have h1 := EI.out; go_num, by rw [HS2.out]; exact hJ3, hbk.trans hk3⟩
    case measure => simp [RowKit.intOf]
   ·gi_wp2
    refine bodyPost_ret (results_none rfl _ _ _) rfl ?_;exact ⟨⟨_, rfl⟩, .inr ⟨_, HPf.out, hJx3⟩⟩
  ·obtain rfl : k = L.length := (by omega);have hge : decide ((0 : Int) ≤ (L.length : Int) - 1 - (L.length : Nat)) = false := decide_eq_false (by omega)
   gi_wp2
   go_end0
   exact ⟨⟨_, rfl⟩, .inl ⟨_, rfl, hJk⟩⟩
theorem aQm (F : Fence) (n : Nat) (hF : F.fn 127) (hro : F.round = none) (hn : 1 ≤ n) (B : Nat) (w : World) (p : Option Addr) (c : Nat) (L : List OpM) (hL : L.length ≤ 1000) (ho : pF w p L) (h3 : w.cell? ⟨B, 0, none⟩ = some (.slice p L.length c)) :
  SeqStopsK F n Tryz.prog 127 #[.pointer (some ⟨B, 0, none⟩)] bHd (Below w.heap.size) (fun ys => ys = itB L L.length) (fun pre => pre <+: itB L L.length) (itB L L.length).length w := fun l J Jx W hW hJ _ hY h0 => by
 refine (bBv F n hF hro hn l B w p c L hL ho J Jx (fun pre W o h => hJ pre W _ none h (World.grownBy_alloc W o none) (fun r e => by cases e)) (fun pre x W' hj hpf => hY pre x W' hj (aIo hpf)) W hW (cell_later hW h3) (fun W' hb => cell_later hb h3) h0).mono ?_;rintro e W' ⟨he, h⟩;exact ⟨he, h.elim (fun ⟨ys, h1, h2⟩ => .inl ⟨ys, h1, h2⟩) (fun ⟨pre, h1, h2⟩ => .inr ⟨pre, h1, h2⟩)⟩
end
section
open Go.RowKit Go.Shelf Go.Lib
attribute [local go_sem] Oper.semAt_some
theorem aHu {w : World} {b : Nat} {x : Value} (h : Blk w b 4 [x]) : (loadVar 4 ⟨b, 0, none⟩).run Tryz.prog w = .ok x w := by
 have h0 := h.cell 0 rfl;simp [go_sem, h0]
theorem yQ {B : Nat} {w : World} (b i : Nat) (v : Value) (h : b < B) : KeepsFrom B w (w.setCell ⟨b, i, none⟩ v) :=
 KeepsFrom.of_grownBy (row := some b) ⟨rfl, rfl, rfl, by simp [World.setCell], fun k _ hk => Below.heap_setCell w _ v k (fun e => hk (by rw [e]))⟩ (fun j e => by cases e; exact h)
set_option maxRecDepth 100000 in
set_option maxHeartbeats 4000000 in
theorem aMz (p : Option Addr) (c : Nat) (L : List OpM) (key : Int) (w : World) (hL : L.length ≤ 1000) (ho : pF w p L) :
  Calls Tryz.prog 86 #[.slice p L.length c, .int .i64 key] w fun e w' => e = .returned (.tuple #[.agg #[.int .i64 (dL key L).1.1, .int .i64 (dL key L).1.2], .bool (dL key L).2]) ∧ Below w.heap.size w w' := by
 refine (callsIn_wide (n := 10)).1 ?_;refine callsIn_of_wp_marks Tryz.func86 rfl trivial ?_ rfl;simp only [Tryz.ntmps86, List.size_toArray, List.length_cons, List.length_nil, Nat.reduceAdd, Nat.reduceSub, Array.replicate_succ, Array.replicate_zero, List.push_toArray, List.append_toArray, List.nil_append, List.cons_append]
 gi_wp2_with fail
 refine ⟨trivial, (bGw Fence.wide 9 trivial rfl _ _ _ _).mono ?_⟩;rintro e w1 ⟨rfl, rfl⟩
 gi_wp2_with fail
 have b0 := (((Blk.new w 3 [.int .i64 key]).alloc (.cells #[.int .i64 0, .int .i64 0] 57)).alloc (.cells #[.bool false] 4)).alloc (.cells #[.slice p L.length c] 65);have b1 := ((Blk.new (w.alloc (.cells #[.int .i64 key] 3)) 57 [.int .i64 0, .int .i64 0]).alloc (.cells #[.bool false] 4)).alloc (.cells #[.slice p L.length c] 65);have b2 := (Blk.new ((w.alloc (.cells #[.int .i64 key] 3)).alloc (.cells #[.int .i64 0, .int .i64 0] 57)) 4 [.bool false]).alloc (.cells #[.slice p L.length c] 65);have b3 := Blk.new (((w.alloc (.cells #[.int .i64 key] 3)).alloc (.cells #[.int .i64 0, .int .i64 0] 57)).alloc (.cells #[.bool false] 4)) 65 [.slice p L.length c];have hal := ((((Below.refl w.heap.size w).alloc (Nat.le_refl _) (.cells #[.int .i64 key] 3)).alloc (by simp) (.cells #[.int .i64 0, .int .i64 0] 57)).alloc (by simp; omega) (.cells #[.bool false] 4)).alloc (by simp; omega) (.cells #[.slice p L.length c] 65);simp only [World.size_alloc] at b1 b2 b3;obtain ⟨W1, hW1⟩ : ∃ W1, (((w.alloc (.cells #[.int .i64 key] 3)).alloc (.cells #[.int .i64 0, .int .i64 0] 57)).alloc (.cells #[.bool false] 4)).alloc (.cells #[.slice p L.length c] 65) = W1 := ⟨_, rfl⟩;rw [hW1] at b0 b1 b2 b3 hal ⊢;have hz : w.heap.size + 1 + 1 + 1 < W1.heap.size := b3.lt;have B0 := lhid b0;have B1 := lhid b1;have B2 := lhid b2;have HAL := lhid hal;have HSt := lhid (aQm Fence.wide 9 trivial rfl (by omega) (w.heap.size + 1 + 1 + 1) W1 p c L hL (ho.below hal) (b3.cell 0 rfl));clear hW1 b0 b1 b2 b3 hal ho
 refine wpIn_rangeFunc_ownH rfl (by omega) (gf := 127) (lb := #[.pointer (some ⟨w.heap.size + 1 + 1 + 1, 0, none⟩)]) rfl trivial (enters_of Tryz.func127 (by kernel_rfl) rfl)
  HSt.out belowK_t (belowK_b (Nat.le_refl _)) (Below.refl _ _) (fun _ => rfl)
  (fun pre W => (∀ x ∈ pre, wrO key x.2 = false) ∧ Below W1.heap.size W1 W)
  (fun c pre W => (c = .ret ∧ ∃ q x, pre = q ++ [x] ∧ (∀ y ∈ q, wrO key y.2 = false) ∧ wrO key x.2 = true ∧ Blk W (w.heap.size + 1) 57 [.int .i64 x.2.2.2.1, .int .i64 x.2.2.2.2] ∧ Blk W (w.heap.size + 1 + 1) 4 [.bool true]) ∧ Below w.heap.size w W)
  (OwnFrom.and (fun s A B row hs hg hr => hs) (ownFrom_below (Nat.le_refl _) (Nat.le_refl _)))
  (fun c => OwnFrom.and (fun s A B row hs hg hr => by
    obtain ⟨e, q, x, h1, h2, h3, h4, h5⟩ := hs;have hne : ∀ b, b < W1.heap.size → some b ≠ row := fun b hb e => by have := (hr b e.symm).1; omega
    exact ⟨e, q, x, h1, h2, h3, h4.kept hg (hne _ (by omega)), h5.kept hg (hne _ (by omega))⟩) (ownFrom_below (Nat.le_refl _) (by omega)))
  ⟨(fun x hx => by cases hx), Below.refl _ _⟩
  (fun x a' W => ∃ Bx, W1.heap.size ≤ Bx ∧ Blk W Bx 82 [.bool x.2.1, .int .i64 x.2.2.1, .int .i64 x.2.2.2.1, .int .i64 x.2.2.2.2] ∧ a' = { tmps := #[.slice p L.length c, .int .i64 key, undef, .pointer (some ⟨w.heap.size, 0, none⟩), .pointer (some ⟨w.heap.size + 1, 0, none⟩), .pointer (some ⟨w.heap.size + 1 + 1, 0, none⟩), undef, .pointer (some ⟨Bx, 0, none⟩), .slice p L.length c, .func (.func 127) #[] #[.pointer (some ⟨w.heap.size + 1 + 1 + 1, 0, none⟩)], .int .i64 (x.1 : Nat), .agg #[.bool x.2.1, .int .i64 x.2.2.1, .int .i64 x.2.2.2.1, .int .i64 x.2.2.2.2], undef, undef, undef, undef, undef, undef, undef, undef, undef, undef, undef], defers := [] })
  (fun x a' _ X Y row hs hg hr => by
   obtain ⟨Bx, r1, r2, r3⟩ := hs
   exact ⟨Bx, r1, r2.kept hg (fun e => by obtain ⟨-, o, ho, hc⟩ := hr Bx e.symm; have r2' : X.heap[Bx]? = some _ := r2; rw [r2'] at ho; cases ho; cases hc), r3⟩)
  ?assign ?body ?done ?stop
 case assign =>
  rintro l pre x W K ⟨q1, hB⟩ hK;simp only [bHd]
  gi_wp2
  exact hK _ _ ((KeepsOthers.alloc _ _).from _) ((Below.refl _ W).alloc hB.size _) ⟨q1, hB.alloc hB.size _⟩ ⟨W.heap.size, hB.size, Blk.new W _ [_, _, _, _], rfl⟩
 case body =>
  rintro l pre ⟨j, ow, ok, od, on⟩ a' W hl - ⟨q1, hB⟩ ⟨Bx, hBx, bX, rfl⟩ hlt2;dsimp only at bX ⊢;have z0 := bX.cell 0 rfl;have z1 := bX.cell 1 rfl;have z2 := bX.cell 2 rfl;have z3 := bX.cell 3 rfl;have zl := bX.lt;have kc := (B0.out.later hB).cell 0 rfl;have HV := lhid (B1.out.later hB);have HT := lhid (B2.out.later hB);have HB := lhid hB;have Q1 := lhid q1;clear bX q1 hB
  cases ow with
  | false =>
   gi_wp2_with fail
   exact ⟨nD (Below.refl _ _), Below.refl _ _, (fun y hy => by
    rcases List.mem_append.1 hy with hy | hy
    ·exact Q1.out y hy
    ·obtain rfl : y = _ := by simpa using hy
     rfl), HB.out⟩
  | true =>
   by_cases hk : ok = key
   ·subst hk;have r0 := HV.out.cell 0 rfl;have r1 := HV.out.cell 1 rfl;have f0 := HV.out.frozen 0;have f1 := HV.out.frozen 1;have s0 := HT.out.cell 0 rfl;have sf := HT.out.frozen 0
    gi_wp2_with fail
    have hb1 := (((HAL.out.trans (HB.out.mono (by omega))).setCell (p := ⟨w.heap.size + 1, 0, none⟩) (by show w.heap.size ≤ w.heap.size + 1; omega) (.int .i64 od)).setCell (p := ⟨w.heap.size + 1, 1, none⟩) (by show w.heap.size ≤ w.heap.size + 1; omega) (.int .i64 on)).setCell (p := ⟨w.heap.size + 1 + 1, 0, none⟩) (by show w.heap.size ≤ w.heap.size + 1 + 1; omega) (.bool true);refine ⟨((yQ (w.heap.size + 1) 0 _ (by omega)).trans (yQ (w.heap.size + 1) 1 _ (by omega))).trans (yQ (w.heap.size + 1 + 1) 0 _ (by omega)), ⟨rfl, pre, _, rfl, Q1.out, ?_, ?_, ?_⟩, hb1⟩
    ·show (true && ok == ok) = true;simp
    ·exact (dQ HV.out _ _).far (by show w.heap.size + 1 ≠ w.heap.size + 1 + 1; omega) _
    ·exact ((HT.out.far (by show w.heap.size + 1 + 1 ≠ w.heap.size + 1; omega) _).far (by show w.heap.size + 1 + 1 ≠ w.heap.size + 1; omega) _).set 0 _
   ·have hk2 : (ok == key) = false := beq_eq_false_iff_ne.2 hk
    gi_wp2_with fail
    exact ⟨nD (Below.refl _ _), Below.refl _ _, (fun y hy => by
     rcases List.mem_append.1 hy with hy | hy
     ·exact Q1.out y hy
     ·obtain rfl : y = _ := by simpa using hy
      exact hk2), HB.out⟩
 case done =>
  rintro Dd xs W hD hS ⟨q1, hB⟩ hd;have hraw : dL key L = vI := bEx key L (by rw [← hS]; exact q1);have HV := lhid (B1.out.later hB);have HT := lhid (B2.out.later hB);have HB := lhid hB;have HD := lhid hd;have r0 := HV.out.cell 0 rfl;have r1 := HV.out.cell 1 rfl;have f0 := HV.out.frozen 0;have f1 := HV.out.frozen 1;have s0 := HT.out.cell 0 rfl;have sf := HT.out.frozen 0;have HR := lhid hraw;clear q1 hB hS hd hraw
  gi_wp2_with fail
  have hb1 := (((HAL.out.trans (HB.out.mono (by omega))).setCell (p := ⟨w.heap.size + 1, 0, none⟩) (by show w.heap.size ≤ w.heap.size + 1; omega) (.int .i64 0)).setCell (p := ⟨w.heap.size + 1, 1, none⟩) (by show w.heap.size ≤ w.heap.size + 1; omega) (.int .i64 0)).setCell (p := ⟨w.heap.size + 1 + 1, 0, none⟩) (by show w.heap.size ≤ w.heap.size + 1 + 1; omega) (.bool false)
  have hd2 : (((W.setCell ⟨w.heap.size + 1, 0, none⟩ (.int .i64 0)).setCell ⟨w.heap.size + 1, 1, none⟩ (.int .i64 0)).setCell ⟨w.heap.size + 1 + 1, 0, none⟩ (.bool false)).heap[Dd]? = some (.deferred (some [])) := by
   rw [Below.heap_setCell _ _ _ _ (by show Dd ≠ w.heap.size + 1 + 1; omega), Below.heap_setCell _ _ _ _ (by show Dd ≠ w.heap.size + 1; omega), Below.heap_setCell _ _ _ _ (by show Dd ≠ w.heap.size + 1; omega)];exact HD.out
  have hv := sB ((dQ HV.out (.int .i64 0) (.int .i64 0)).far (a := ⟨w.heap.size + 1 + 1, 0, none⟩) (by show w.heap.size + 1 ≠ w.heap.size + 1 + 1; omega) (.bool false)) (l := Dd) (by omega) (.deferred none);have ht := sB (((HT.out.far (a := ⟨w.heap.size + 1, 0, none⟩) (by show w.heap.size + 1 + 1 ≠ w.heap.size + 1; omega) (.int .i64 0)).far (a := ⟨w.heap.size + 1, 1, none⟩) (by show w.heap.size + 1 + 1 ≠ w.heap.size + 1; omega) (.int .i64 0)).set 0 (.bool false)) (l := Dd) (by omega) (.deferred none);refine ⟨by simp, .inl ⟨_, _, rfl, run_takeDeferred hd2, ?_⟩⟩;exact ⟨_, aEv Tryz.results86 _ _ _ _ _ _ _ rfl rfl (kC hv) (aHu ht), by rw [HR.out] <;> rfl, hb1.trans (belowK_b (w := W1) (by omega) _ Dd _ _ hD hd2 rfl rfl)⟩
 case stop =>
  rintro Dd c2 pre W hD hpf ⟨⟨rfl, q, x, rfl, h2, h3, h4, h5⟩, hB⟩ hd;have hraw := bIv key L q x hpf h2 h3;have HB := lhid hB;have HD := lhid hd;have HR := lhid hraw;clear hB hraw h2 h3 hpf hd;have hv := sB h4 (l := Dd) (by omega) (.deferred none);have ht := sB h5 (l := Dd) (by omega) (.deferred none)
  gi_wp2_with fail
  refine ⟨by simp, .inl ⟨_, _, rfl, run_takeDeferred HD.out, ?_⟩⟩;exact ⟨_, aEv Tryz.results86 _ _ _ _ _ _ _ rfl rfl (kC hv) (aHu ht), by rw [HR.out] <;> rfl, HB.out.trans (belowK_b (w := W1) (by omega) _ Dd _ _ hD HD.out rfl rfl)⟩
end
section
open Go.RowKit Go.Lib
theorem aEl (w : World) : qF w (.slice none 0 0) [] := ⟨none, 0, rfl, Nat.le_refl _, fun j hj => absurd hj (Nat.not_lt_zero j)⟩
theorem aMo {w : World} {p : Option Addr} {L : List OpM} (h : pF w p L) (k : Nat) : pF w p (L.take k) := fun j hj => by
 have hj' : j < L.length := (by rw [List.length_take] at hj; omega);have hk : j < k := (by rw [List.length_take] at hj; omega);have e : (L.take k).getD j cG = L.getD j cG := (by simp [hk]);rw [e];exact h j hj'
theorem bHu (p : Option Addr) (c m : Nat) (L : List OpM) (key : Int) (w : World) (hm : L.length = m) (hL : m ≤ 1000) (ho : pF w p L) :
  Calls Tryz.prog 86 #[.slice p m c, .int .i64 key] w fun e w' => e = .returned (.tuple #[.agg #[.int .i64 (dL key L).1.1, .int .i64 (dL key L).1.2], .bool (dL key L).2]) ∧ Below w.heap.size w w' := by
 subst hm;exact aMz p c L key w hL ho
set_option maxRecDepth 100000 in
set_option maxHeartbeats 2000000 in
theorem aJc {w : World} {v : Value} {h : aI} (i : Int) (hv : cJ w v h) (hm : cU h) (hT : Lib.Utf8Tabs 1 2 w) :
  Calls Tryz.prog 85 #[v, .int .i64 i] w fun e w' => ∃ sv, e = .returned sv ∧ qF w' sv (lL h i) ∧ Below w.heap.size w w' := by
 have H0 := lhid hv;obtain ⟨v0, v1, v2, rfl, ⟨p0, c0, rfl, -⟩, ⟨p1, c1, rfl, -⟩, ⟨p2, c2, rfl, k2⟩⟩ := hv;have hal := (Below.refl w.heap.size w).alloc (Nat.le_refl _) (.cells #[.slice p0 h.1.length c0, .slice p1 h.2.1.length c1, .slice p2 h.2.2.length c2] 25);have HMay := lhid (bUd (H0.out.below hal) hm (Utf8Tabs_below hT hal));have HBx := lhid (Blk.new w 25 [.slice p0 h.1.length c0, .slice p1 h.2.1.length c1, .slice p2 h.2.2.length c2]);have HX := lhid k2;have HAL := lhid hal;clear hT hal hm H0 k2;go_enter Tryz.func85, Tryz.ntmps85;(go_wp2_with fail);refine HMay.out.mono ?_;rintro e w1 ⟨rfl, hb1⟩;clear HMay;have hbw1 := aB HAL.out hb1;have hx1 := HBx.out.later hb1;have o2 := hx1.cell 2 rfl;have olt := hx1.lt;clear hb1 HAL HBx hx1
 cases hmm : cZ h with
 | false =>
  have HE := lhid (aKj hmm i);rw [pH hmm];clear hmm;(go_wp2_with fail);go_ret;exact ⟨_, rfl, by rw [HE.out]; exact aEl _, hbw1⟩
 | true =>
  rw [kT hmm];by_cases g1 : i < 0
  ·have HE := lhid (aEk (h := h) i g1);clear hmm;(go_wp2_with fail);go_ret;exact ⟨_, rfl, by rw [HE.out]; exact aEl _, hbw1⟩
  ·by_cases g2 : (h.2.2.length : Int) ≤ i
   ·have HE := lhid (vB (h := h) i g2);clear hmm;(go_wp2_with fail);go_ret;exact ⟨_, rfl, by rw [HE.out]; exact aEl _, hbw1⟩
   ·obtain ⟨k, rfl⟩ : ∃ k : Nat, i = (k : Int) := ⟨i.toNat, by omega⟩;have hk : k < h.2.2.length := (by omega);have HE := lhid (qN hmm k hk);obtain ⟨g, sv, rfl, -, -, a3, a4⟩ := HX.out k hk;have a3' := cell_later hbw1 a3;have A4 := lhid (a4.below hbw1);clear hmm a3 a4 g1 g2;(go_wp2_with fail);go_ret;exact ⟨_, rfl, by rw [HE.out]; exact A4.out, hbw1⟩
set_option maxRecDepth 100000 in
set_option maxHeartbeats 4000000 in
theorem bVk {w : World} {v : Value} {h : aI} (t o : Int) (hv : cJ w v h) (hm : cU h) (hT : Lib.Utf8Tabs 1 2 w) :
  Calls Tryz.prog 64 #[v, .agg #[.int .i64 t, .int .i64 o]] w fun e w' => e = .returned (.tuple #[.agg #[.int .i64 (nE h t o).1.1, .int .i64 (nE h t o).1.2], .bool (nE h t o).2]) ∧ Below w.heap.size w w' := by
 have H0 := lhid hv;obtain ⟨v0, v1, v2, rfl, ⟨p0, c0, rfl, -⟩, ⟨p1, c1, rfl, -⟩, ⟨p2, c2, rfl, -⟩⟩ := hv;have hal := (((Below.refl w.heap.size w).alloc (Nat.le_refl _) (.cells #[.slice p0 h.1.length c0, .slice p1 h.2.1.length c1, .slice p2 h.2.2.length c2] 25)).alloc (by simp) (.cells #[.int .i64 t, .int .i64 o] 70)).alloc (by simp; omega) (.cells #[.int .i64 0, .int .i64 0] 57);have HTx := lhid (aJc t (H0.out.below hal) hm (Utf8Tabs_below hT hal));have hpx := (Blk.new (w.alloc (.cells #[.slice p0 h.1.length c0, .slice p1 h.2.1.length c1, .slice p2 h.2.2.length c2] 25)) 70 [.int .i64 t, .int .i64 o]).alloc (.cells #[.int .i64 0, .int .i64 0] 57);have hvx := Blk.new ((w.alloc (.cells #[.slice p0 h.1.length c0, .slice p1 h.2.1.length c1, .slice p2 h.2.2.length c2] 25)).alloc (.cells #[.int .i64 t, .int .i64 o] 70)) 57 [.int .i64 0, .int .i64 0];simp only [World.size_alloc] at hpx hvx;have HPX := lhid hpx;have HVX := lhid hvx;have HAL := lhid hal;have hlen := aEj hm t;clear hT hal hm H0 hpx hvx;go_enter Tryz.func64, Tryz.ntmps64;(go_wp2_with fail);refine HTx.out.mono ?_;rintro e w1 ⟨sv, rfl, ⟨ps, cs, rfl, hcap, ho⟩, hb1⟩;have HB1 := lhid (aB HAL.out hb1);have hp1 := HPX.out.later hb1;have HV1 := lhid (HVX.out.later hb1);have q1 := hp1.cell 1 rfl;have plt := hp1.lt;have HP1 := lhid hp1;have HO := lhid ho;have hP : nE h t o = if 0 ≤ o ∧ o < ((lL h t).length : Int) then dL ((lL h t).getD o.toNat cG).2.1 ((lL h t).take o.toNat) else vI := rfl;obtain ⟨L, hL⟩ : ∃ L, lL h t = L := ⟨_, rfl⟩;rw [hL] at hP HO hlen hcap ⊢;have HP := lhid hP;clear hb1 HTx HPX HVX HAL hp1 ho hP hL;have r0 := HV1.out.cell 0 rfl;have r1 := HV1.out.cell 1 rfl;have f0 := HV1.out.frozen 0;have f1 := HV1.out.frozen 1;by_cases g1 : o < 0
 ·have HE : Hid (nE h t o = vI) := lhid (by rw [HP.out, if_neg (by omega)]);(go_wp2_with fail);refine bodyPost_ret (cM Tryz.results64 _ _ _ _ _ rfl (kC (dQ HV1.out _ _))) rfl ?_;exact ⟨by rw [HE.out] <;> rfl, aU HB1.out (by omega) _ _⟩
 ·by_cases g2 : (L.length : Int) ≤ o
  ·have HE : Hid (nE h t o = vI) := lhid (by rw [HP.out, if_neg (by omega)]);(go_wp2_with fail);refine bodyPost_ret (cM Tryz.results64 _ _ _ _ _ rfl (kC (dQ HV1.out _ _))) rfl ?_;exact ⟨by rw [HE.out] <;> rfl, aU HB1.out (by omega) _ _⟩
  ·obtain ⟨k, rfl⟩ : ∃ k : Nat, o = (k : Int) := ⟨o.toNat, by omega⟩;have hk : k < L.length := (by omega);have hkc : k ≤ cs := (by omega);have hE : nE h t k = dL (L.getD k cG).2.1 (L.take k) := (by rw [HP.out, if_pos (by omega), Int.toNat_natCast]);obtain ⟨g, rfl, -, a2, -, -⟩ := HO.out k hk;have HOt := lhid (fun w' (hb : Below w1.heap.size w1 w') => aMo (HO.out.below hb) k);obtain ⟨ok, hok⟩ : ∃ q, (L.getD k cG).2.1 = q := ⟨_, rfl⟩;rw [hok] at a2 hE;obtain ⟨⟨⟨gk, gn⟩, gb⟩, hg⟩ : ∃ r, dL ok (L.take k) = r := ⟨_, rfl⟩;rw [hg] at hE;have HG := lhid hg;have HE := lhid hE;clear hg;have HS : Hid (∀ w', Below w1.heap.size w1 w' → w'.cell? ⟨w.heap.size + 1, 1, none⟩ = some (.int .i64 (k : Nat)) ∧ w'.cell? ⟨g, k * 4 + 1, none⟩ = some (.int .i64 ok) ∧ Below w1.heap.size w1 w') := lhid (fun w' hb => ⟨cell_later hb q1, cell_later hb a2, hb⟩);clear hE hok a2 r0 r1 f0 f1;(go_wp2_with fail);refine wpk HS [13] (by kernel_rfl) fun hB0 hS0 => ?_;refine wF 0 ?_;refine wF 1 ?_;refine wT 2 15 hS0 ?_;refine wF 3 ?_;refine wF 4 ?_;refine wO 5 ?_;refine wO 6 ?_;refine wO 7 ?_;refine wO 8 ?_;refine wO 9 ?_;refine won 10 rfl fun K hK => ?_;go_simp;refine (bHu (some ⟨g, 0, none⟩) _ k (L.take k) ok _ (by rw [List.length_take]; omega) (by omega) (HOt.out _ hB0)).mono ?_;rintro e w1 ⟨he, hb1⟩;have hB1 := aB hB0 hb1;have hS1 := HS.out _ hB1;rw [HG.out] at he;dsimp only at he;subst he;refine hK.out _ _ (fun _ _ => hS1) ?_;clear hK K hS0;(try simp only [Act.put, sq]);refine wF 11 ?_;refine wO 12 ?_;have hvk := HV1.out.later hB1;have r0 := hvk.cell 0 rfl;have r1 := hvk.cell 1 rfl;have f0 := hvk.frozen 0;have f1 := hvk.frozen 1;have HVk := lhid hvk;clear hvk;refine wL 13 ?_;refine wO 14 ?_;refine wD ?_;(go_wp2_with fail);refine bodyPost_ret (cM Tryz.results64 _ _ _ _ _ rfl (kC (dQ HVk.out _ _))) rfl ?_;exact ⟨by rw [HE.out] <;> rfl, aU (aB HB1.out hB1) (by omega) _ _⟩
set_option maxRecDepth 100000 in
set_option maxHeartbeats 4000000 in
theorem bUo {w : World} {v : Value} {h : aI} (i key : Int) (hv : cJ w v h) (hm : cU h) (hT : Lib.Utf8Tabs 1 2 w) :
  Calls Tryz.prog 100 #[v, .int .i64 i, .int .i64 key] w fun e w' => e = .returned (.tuple #[.agg #[.int .i64 (dL key (lL h i)).1.1, .int .i64 (dL key (lL h i)).1.2], .bool (dL key (lL h i)).2]) ∧ Below w.heap.size w w' := by
 have H0 := lhid hv;obtain ⟨v0, v1, v2, rfl, ⟨p0, c0, rfl, -⟩, ⟨p1, c1, rfl, -⟩, ⟨p2, c2, rfl, -⟩⟩ := hv;have hal := ((Below.refl w.heap.size w).alloc (Nat.le_refl _) (.cells #[.slice p0 h.1.length c0, .slice p1 h.2.1.length c1, .slice p2 h.2.2.length c2] 25)).alloc (by simp) (.cells #[.int .i64 0, .int .i64 0] 57);have HTx := lhid (aJc i (H0.out.below hal) hm (Utf8Tabs_below hT hal));have hvx := Blk.new (w.alloc (.cells #[.slice p0 h.1.length c0, .slice p1 h.2.1.length c1, .slice p2 h.2.2.length c2] 25)) 57 [.int .i64 0, .int .i64 0];simp only [World.size_alloc] at hvx;have HVX := lhid hvx;have HAL := lhid hal;have HLen := lhid (aEj hm i);clear hT hal hm H0 hvx;go_enter Tryz.func100, Tryz.ntmps100;(go_wp2_with fail);refine HTx.out.mono ?_;rintro e w1 ⟨sv, rfl, ⟨ps, cs, rfl, hcap, ho⟩, hb1⟩;have HB1 := lhid (aB HAL.out hb1);have HV1 := lhid (HVX.out.later hb1);have HO := lhid ho;clear hb1 HTx HVX HAL ho;(go_wp2_with fail);refine (aMz ps cs (lL h i) key w1 HLen.out HO.out).mono ?_;rintro e w2 ⟨he, hb2⟩;obtain ⟨⟨⟨gk, gn⟩, gb⟩, hg⟩ : ∃ r, dL key (lL h i) = r := ⟨_, rfl⟩;rw [hg] at he;dsimp only at he;subst he;have HG := lhid hg;clear hg;have HB2 := lhid (aB HB1.out hb2);have HV2 := lhid (HV1.out.later hb2);have r0 := HV2.out.cell 0 rfl;have r1 := HV2.out.cell 1 rfl;have f0 := HV2.out.frozen 0;have f1 := HV2.out.frozen 1;clear hb2 HB1 HV1;(go_wp2_with fail);refine bodyPost_ret (cM Tryz.results100 _ _ _ _ _ rfl (kC (dQ HV2.out _ _))) rfl ?_;exact ⟨by rw [HG.out] <;> rfl, aU HB2.out (by omega) _ _⟩
end
section
open Go.RowKit Go.Lib
set_option maxRecDepth 100000 in
set_option maxHeartbeats 1000000 in
theorem bBg (o : OpM) (key : Int) (B : Nat) (w : World) (hs : w.cell? ⟨B, 0, none⟩ = some (.int .i64 key)) :
  Calls Tryz.prog 123 #[.agg #[.bool o.1, .int .i64 o.2.1, .int .i64 o.2.2.1, .int .i64 o.2.2.2], .pointer (some ⟨B, 0, none⟩)] w fun e w' => e = .returned (.bool (wrO key o)) ∧ Below w.heap.size w w' := by
 have hB : B < w.heap.size := World.block_lt_of_cell? w ⟨B, 0, none⟩ hs;obtain ⟨ow, ok, ov⟩ := o
 cases ow with
 | false =>
  have hE : wrO key (false, ok, ov) = false := rfl;rw [hE];clear hE;go_enter Tryz.func123, Tryz.ntmps123
  go_wp2
  go_ret;exact ⟨rfl, by go_grown⟩
 | true =>
  have hE : wrO key (true, ok, ov) = (ok == key) := (by unfold wrO; simp);rw [hE];clear hE;go_enter Tryz.func123, Tryz.ntmps123
  go_wp2
  go_ret;exact ⟨by first | rfl | simp, by go_grown⟩
set_option maxRecDepth 100000 in
set_option maxHeartbeats 2000000 in
theorem aXv (v : Value) (L : List OpM) (key : Int) (B : Nat) (w : World) (hs : w.cell? ⟨B, 0, none⟩ = some (.int .i64 key)) (hv : qF w v L) (hL : L.length ≤ 1000) :
  Calls Tryz.prog 141 #[v, .func (.func 123) #[] #[.pointer (some ⟨B, 0, none⟩)]] w fun e w' => ∃ i : Int, e = .returned (.int .i64 i) ∧ decide (0 ≤ i) = L.any (wrO key) ∧ Below w.heap.size w w' := by
 obtain ⟨p, c, rfl, -, hp⟩ := hv;have HX := lhid hp;have H3 := lhid hs;have en := enters_of Tryz.func123 (by kernel_rfl) rfl
 have HYes : Hid (∀ k : Nat, k < L.length → wrO key (L.getD k cG) = true → decide ((0 : Int) ≤ (k : Int)) = L.any (wrO key)) := lhid (fun k hk hf => by
  have : L.any (wrO key) = true := by
   rw [List.any_eq_true];refine ⟨L.getD k cG, ?_, hf⟩;have : L.getD k cG = L[k] := (by simp [hk]);rw [this];exact List.getElem_mem hk
  rw [this]
  simp)
 have HNo : Hid ((∀ k : Nat, k < L.length → wrO key (L.getD k cG) = false) → decide ((0 : Int) ≤ -1) = L.any (wrO key)) := lhid (fun h => by
  have : L.any (wrO key) = false := by
   rw [List.any_eq_false];intro x hx;obtain ⟨k, hk, e⟩ := List.getElem_of_mem hx;have := h k hk;simpa [hk, e] using this
  rw [this]
  rfl)
 generalize L.any (wrO key) = R at *;clear hp hs;go_enter Tryz.func141, Tryz.ntmps141;go_wp2_with fail
 go_loopw [8] (fun i wr => ∃ k : Nat, k ≤ L.length ∧ i = .int .i64 k ∧ (∀ j, j < k → wrO key (L.getD j cG) = false) ∧ Below w.heap.size w wr) (fun i _ => L.length - (RowKit.intOf i).toNat)
 case atStart => exact ⟨0, Nat.zero_le _, rfl, fun j hj => absurd hj (Nat.not_lt_zero j), Below.refl _ _⟩
 case round =>
  obtain ⟨k, hk, rfl, hn, hbw⟩ := hrel;have HN := lhid hn;clear hn;by_cases hk1 : k < L.length
  ·obtain ⟨g, rfl, a1, a2, a3, a4⟩ := HX.out k hk1;have a1' := cell_later hbw a1;have a2' := cell_later hbw a2;have a3' := cell_later hbw a3;have a4' := cell_later hbw a4;have HM := lhid (bBg (L.getD k cG) key B wr (cell_later hbw H3.out));have HY := lhid (HYes.out k hk1)
   have HK : Hid (wrO key (L.getD k cG) = false → ∀ j, j < k + 1 → wrO key (L.getD j cG) = false) := lhid (fun h j hj => by
    by_cases hjk : j < k
    ·exact HN.out j hjk
    ·obtain rfl : j = k := by omega
     exact h)
   obtain ⟨b, hb⟩ : ∃ b, wrO key (L.getD k cG) = b := ⟨_, rfl⟩;rw [hb] at HM HY HK;obtain ⟨t, ht⟩ : ∃ t, L.getD k cG = t := ⟨_, rfl⟩;rw [ht] at HM a1' a2' a3' a4';obtain ⟨t1, t2, t3, t4⟩ := t;simp only at HM a1' a2' a3' a4';clear a1 a2 a3 a4 hb ht
   cases b with
   | true =>
    (go_wp2_with (first | (go_at_call 123; refine HM.out.mono ?_; rintro e w1 ⟨rfl, hb1⟩)));go_ret;exact ⟨_, rfl, HY.out trivial, aB hbw hb1⟩
   | false =>
    (go_wp2_with (first | (go_at_call 123; refine HM.out.mono ?_; rintro e w1 ⟨rfl, hb1⟩)));go_roundw
    case rel => exact ⟨k + 1, by omega, by go_num, HK.out trivial, aB hbw hb1⟩
    case measure => simp [RowKit.intOf]; omega
  ·have hke : k = L.length := (by omega);subst hke;have H1 := lhid (HNo.out HN.out);(go_wp2_with fail);go_ret;exact ⟨_, rfl, H1.out, hbw⟩
set_option maxRecDepth 100000 in
set_option maxHeartbeats 1000000 in
theorem aWm (v : Value) (L : List OpM) (key : Int) (B : Nat) (w : World) (hs : w.cell? ⟨B, 0, none⟩ = some (.int .i64 key)) (hv : qF w v L) (hL : L.length ≤ 1000) :
  Calls Tryz.prog 122 #[v, .func (.func 123) #[] #[.pointer (some ⟨B, 0, none⟩)]] w fun e w' => e = .returned (.bool (L.any (wrO key))) ∧ Below w.heap.size w w' := by
 have H1 := lhid (aXv v L key B w hs hv hL);generalize L.any (wrO key) = R at *;clear hs hv hL;go_enter Tryz.func122, Tryz.ntmps122;(go_wp2_with fail);refine H1.out.mono ?_;rintro e w1 ⟨i, rfl, hi, hb1⟩;have HI := lhid hi;clear hi;(go_wp2_with fail);go_ret;refine ⟨?_, hb1⟩;rw [← HI.out];rfl
set_option maxRecDepth 100000 in
set_option maxHeartbeats 2000000 in
theorem bJl (t : bB) (sv : Value) (key : Int) (B : Nat) (w : World) (hs : w.cell? ⟨B, 0, none⟩ = some (.int .i64 key)) (hv : qF w sv t.2.2) (hL : t.2.2.length ≤ 1000) :
  Calls Tryz.prog 121 #[.agg #[.int .i64 t.1, .int .i64 t.2.1, sv], .pointer (some ⟨B, 0, none⟩)] w fun e w' => e = .returned (.bool (dU key t)) ∧ Below w.heap.size w w' := by
 have hal := (Below.refl w.heap.size w).alloc (Nat.le_refl _) (.cells #[.int .i64 t.1, .int .i64 t.2.1, sv] 67);have HC := lhid (aWm sv t.2.2 key B _ (cell_later hal hs) (hv.below hal) hL);have HA := lhid hal;obtain ⟨p, c, rfl, -⟩ := hv;obtain ⟨ts, tf, tl⟩ := t;dsimp only at HC HA ⊢;clear hs hal hL;by_cases hf : tf = 2
 ·subst hf;have hE : dU key (ts, 2, tl) = false := rfl;rw [hE];clear hE HC;go_enter Tryz.func121, Tryz.ntmps121;(go_wp2_with fail);go_ret;exact ⟨rfl, HA.out⟩
 ·have hf2 : (tf == 2) = false := beq_eq_false_iff_ne.2 hf;have hE : dU key (ts, tf, tl) = tl.any (wrO key) := (by unfold dU; simp [bne, hf2]);rw [hE];obtain ⟨R, hR⟩ : ∃ R, tl.any (wrO key) = R := ⟨_, rfl⟩;rw [hR] at HC ⊢;clear hE hR;go_enter Tryz.func121, Tryz.ntmps121;(go_wp2_with fail);refine HC.out.mono ?_;rintro e w1 ⟨rfl, hb1⟩;(go_wp2_with fail);go_ret;have hn2 : (tf != 2) = true := (by simp [bne, hf2]);exact ⟨by simp [hn2], aB HA.out hb1⟩
def jF (h : aI) (key : Int) : List Int := cA (dU key) h
set_option maxRecDepth 100000 in
set_option maxHeartbeats 4000000 in
theorem bUm {w : World} {v : Value} {h : aI} (key : Int) (hv : cJ w v h) (hm : cU h) (hT : Lib.Utf8Tabs 1 2 w) :
  Calls Tryz.prog 99 #[v, .int .i64 key] w fun e w' => ∃ v', e = .returned v' ∧ qC w' v' (jF h key) ∧ Below w.heap.size w w' := by
 have H0 := lhid hv;obtain ⟨v0, v1, v2, rfl, ⟨p0, c0, rfl, -⟩, ⟨p1, c1, rfl, -⟩, ⟨p2, c2, rfl, k2⟩⟩ := hv;have hal := ((Below.refl w.heap.size w).alloc (Nat.le_refl _) (.cells #[.slice p0 h.1.length c0, .slice p1 h.2.1.length c1, .slice p2 h.2.2.length c2] 25)).alloc (by simp) (.cells #[.int .i64 key] 3);have HMay := lhid (bUd (H0.out.below hal) hm (Utf8Tabs_below hT hal));have hbx := (Blk.new w 25 [.slice p0 h.1.length c0, .slice p1 h.2.1.length c1, .slice p2 h.2.2.length c2]).alloc (.cells #[.int .i64 key] 3);have hkx := Blk.new (w.alloc (.cells #[.slice p0 h.1.length c0, .slice p1 h.2.1.length c1, .slice p2 h.2.2.length c2] 25)) 3 [.int .i64 key];simp only [World.size_alloc] at hkx;have HBx := lhid hbx;have HKx := lhid hkx;have HX := lhid k2;have HAL := lhid hal;have HMod := lhid hm;have m3 : h.2.2.length ≤ 1000 := hm.2.2.1;obtain ⟨i0, hi, hz0, hz1, hz2⟩ := info_parts xD;have en := enters_of Tryz.func121 (by kernel_rfl) rfl;clear hT hal hm H0 k2 hbx hkx;go_enter Tryz.func99, Tryz.ntmps99;(go_wp2_with fail);refine HMay.out.mono ?_;rintro e w1 ⟨rfl, hb1⟩;clear HMay;have HB1 := lhid (aB HAL.out hb1);have hx1 := HBx.out.later hb1;have o2 := hx1.cell 2 rfl;have olt := hx1.lt;have HK1 := lhid (HKx.out.later hb1);clear hb1 HAL HBx HKx hx1
 cases hmm : cZ h with
 | false =>
  have HE : Hid (jF h key = []) := lhid (aJk _ hmm);rw [pH hmm];clear hmm;(go_wp2_with fail);go_ret;exact ⟨_, rfl, by rw [HE.out]; exact yP _, HB1.out⟩
 | true =>
  have HE : Hid (jF h key = jH (dU key) h.2.2 h.2.2.length) := lhid (jZ _ hmm);rw [kT hmm];clear hmm;go_wp2_with fail
  go_loopw [6, 16] (fun l i wr => ∃ k : Nat, k ≤ h.2.2.length ∧ i = .int .i64 k ∧ wr.ownsRow w1.heap.size 3 1 l (jH (dU key) h.2.2 k).length (mG (jH (dU key) h.2.2 k)) ∧ Below w1.heap.size w1 wr) (fun _ i _ => h.2.2.length - (RowKit.intOf i).toNat)
  case atStart => exact ⟨0, Nat.zero_le _, rfl, World.ownsRow_nil _ _ _ _, Below.refl _ _⟩
  case round =>
   obtain ⟨k, hk, rfl, hown, hbw⟩ := hrel;by_cases hk1 : k < h.2.2.length
   ·obtain ⟨g, sv, rfl, a1, a2, a3, a4⟩ := HX.out k hk1;have hb0 := HB1.out.trans (hbw.mono HB1.out.size);have a1' := cell_later hb0 a1;have a2' := cell_later hb0 a2;have a3' := cell_later hb0 a3;have a4' := a4.below hb0;have hnx := uQ (dU key) h.2.2 k;have hil := xC (dU key) h.2.2 k;have htl : (h.2.2.getD k aM).2.2.length ≤ 1000 := HMod.out.2.2.2.2.2 _ (by rw [show h.2.2.getD k aM = h.2.2[k] by simp [hk1]]; exact List.getElem_mem hk1);obtain ⟨I, hI⟩ : ∃ I, jH (dU key) h.2.2 k = I := ⟨_, rfl⟩;rw [hI] at hown hnx hil;obtain ⟨t, ht⟩ : ∃ t, h.2.2.getD k aM = t := ⟨_, rfl⟩;rw [ht] at a1' a2' a4' hnx htl;have hal := (Below.refl wr.heap.size wr).alloc (Nat.le_refl _) (.cells #[.int .i64 t.1, .int .i64 t.2.1, sv] 67);have hbx := hbw.alloc hbw.size (.cells #[.int .i64 t.1, .int .i64 t.2.1, sv] 67);have HC := lhid (bJl t sv key (w.heap.size + 1) (wr.alloc (.cells #[.int .i64 t.1, .int .i64 t.2.1, sv] 67)) (cell_later hal (cell_later hbw (HK1.out.cell 0 rfl))) (a4'.below hal) htl);obtain ⟨p3, c3, rfl, -⟩ := a4';obtain ⟨t1, t2, t3⟩ := t;dsimp only at a1' a2' a3' hnx HC hbx;have HBX := lhid hbx;obtain ⟨b, hb⟩ : ∃ b, dU key (t1, t2, t3) = b := ⟨_, rfl⟩;rw [hb] at hnx HC;have HN : Hid ((b = true → jH (dU key) h.2.2 (k + 1) = I ++ [(k : Int)]) ∧ (b = false → jH (dU key) h.2.2 (k + 1) = I)) := lhid ⟨fun e => by rw [hnx, if_pos e], fun e => by rw [hnx, if_neg (by rw [e]; exact Bool.false_ne_true)]⟩;clear a1 a2 a3 a4 ht hI hb hnx hbx hal htl hb0 hbw
    cases b with
    | false =>
     (go_wp2_with fail);refine HC.out.mono ?_;rintro e w3 ⟨rfl, hb3⟩;have hown3 := aS (hown.alloc _) hb3;have hbw3 := aB HBX.out hb3;clear hb3 hown;(go_wp2_with fail);go_roundw
     case rel => exact ⟨k + 1, by omega, by go_num, by rw [HN.out.2 (by trivial)]; exact hown3, hbw3⟩
     case measure => simp [RowKit.intOf]; omega
    | true =>
     (go_wp2_with fail);refine HC.out.mono ?_;rintro e w3 ⟨rfl, hb3⟩;have hown3 := aS (hown.alloc _) hb3;have hbw3 := aB HBX.out hb3;clear hb3 hown;(go_wp2_with (at_builtin; refine wpList_append_own _ rfl _ _ 49 rfl w1.heap.size 3 i0 (.int .i64 0) 1 8 Tryz.underlying49 hi hz0 hz1 hz2 rfl (by decide) _ _ _ rfl (hown3.alloc _) ⟨w3.heap.size, 0, none⟩ 1 1 [.int .i64 (k : Nat)] rfl rfl (aDx _ _ _) (aEa _) (by unfold maxLen; omega) (by omega) (by have := hbw3.size; simp; omega) ?_));intro v4 w4 hown4 hgrow hnil;have hb4 : Below w1.heap.size w1 w4 := (hbw3.alloc hbw3.size _).grown hgrow (by have := hbw3.size; simp; omega) (fun k hk => (hown3.lt k hk).1);have HO : Hid (w4.ownsRow w1.heap.size 3 1 v4 (jH (dU key) h.2.2 (k + 1)).length (mG (jH (dU key) h.2.2 (k + 1)))) := lhid (by rw [HN.out.1 (by trivial), ← wQ, List.length_append]; exact hown4);clear hown4 hgrow hnil hown3 hbw3;(go_wp2_with fail);go_roundw
     case rel => exact ⟨k + 1, by omega, by go_num, HO.out, hb4⟩
     case measure => simp [RowKit.intOf]; omega
   ·have hke : k = h.2.2.length := (by omega);subst hke;have HO := lhid (bUb hown);clear hown;(go_wp2_with fail);go_ret;exact ⟨_, rfl, by rw [HE.out]; exact HO.out, HB1.out.trans (hbw.mono HB1.out.size)⟩
end
section
open Go.RowKit Go.Lib Go.Maps Go.WideMaps
def mW (w : World) (b n : Nat) (f : Int → Int) : Prop :=
 ∃ D : DataW Unit, w.ownsMap Tryz.prog 3 (plainElem Tryz.prog 3) b n D ∧ ∀ k, (Lit.int .i64 k).wf = true → D.atKey (.int .i64 k) (.lit (.int .i64 0)) = .lit (.int .i64 (f k))
theorem bJm (w : World) : (zeroValue 3).run Tryz.prog w = .ok (.int .i64 0) w := by kernel_rfl
theorem mW.at {w w' : World} {b n : Nat} {f : Int → Int} (h : mW w b n f) (e : w'.heap[b]? = w.heap[b]?) : mW w' b n f := by
 obtain ⟨D, ⟨es, clock, hb, r⟩, h2⟩ := h;exact ⟨D, ⟨es, clock, e.trans hb, r⟩, h2⟩
theorem mW.lt {w : World} {b n : Nat} {f : Int → Int} (h : mW w b n f) : b < w.heap.size := by
 obtain ⟨D, h1, -⟩ := h;exact h1.lt
theorem mW.later {w w' : World} {b n : Nat} {f : Int → Int} (h : mW w b n f) (hb : Below w.heap.size w w') : mW w' b n f := h.at (hb.block b h.lt)
theorem mW.kept {w w' : World} {row : Option Nat} {b n : Nat} {f : Int → Int} (h : mW w b n f) (hg : w.grownBy w' row) (hne : some b ≠ row) : mW w' b n f := h.at (hg.block b h.lt hne)
theorem mW.alloc {w : World} {b n : Nat} {f : Int → Int} (h : mW w b n f) (o : Obj) : mW (w.alloc o) b n f := h.kept (World.grownBy_alloc w o none) (by simp)
theorem bMm (w : World) : mW (w.alloc (.map #[] 0)) w.heap.size 0 (fun _ => 0) :=
 ⟨.map [], World.ownsMap_made w _ _ _, fun k _ => by simp [DataW.atKey]⟩
theorem mW.row {w : World} {b n base size m : Nat} {f : Int → Int} {e : TypeId} {v : Value} {xs : List Value} (h : mW w b n f) (ho : w.ownsRow base e size v m xs) : v.ownBlock ≠ some b := by
 intro he;obtain ⟨D, ⟨es, clock, hb, r⟩, h2⟩ := h;rcases ho.2 with ⟨rfl, -⟩ | ⟨g, cap, cur, rfl, -, hw, -⟩
 ·cases he
 ·have e1 : g = b := (by simpa [Value.ownBlock] using he);subst e1;rw [hw] at hb;cases hb
set_option maxRecDepth 10000 in
theorem bLn {w : World} {b n : Nat} {f : Int → Int} (h : mW w b n f) (k : Int) (h1k : -9223372036854775808 ≤ k) (h2k : k ≤ 9223372036854775807) : (Instr.lookup 68 (.map (some b)) (.int .i64 k) false).run Tryz.prog w = .ok (.int .i64 (f k)) w := by
 obtain ⟨D, h1, h2⟩ := h;have hk : (Lit.int .i64 k).wf = true := WalkArith.wf_i64 (by omega);obtain ⟨c, hr, hat, -⟩ := h1.lookup_int (int_keyed Tryz.underlying3) Tryz.underlying68 Tryz.underlying3 (bJm w) (keyOf_int_mk Tryz.underlying3 hk)
 have e : f k = c := by
  have := (h2 k hk).symm.trans hat;injection this with this;injection this
 rw [e];exact hr
set_option maxRecDepth 10000 in
theorem bMn {w : World} {b n : Nat} {f : Int → Int} (h : mW w b n f) (hn : n < maxLen) (k c : Int) (h1k : -9223372036854775808 ≤ k) (h2k : k ≤ 9223372036854775807) (h1c : -9223372036854775808 ≤ c) (h2c : c ≤ 9223372036854775807) :
  ∃ w', (Instr.mapUpdate 68 (.map (some b)) (.int .i64 k) (.int .i64 c)).run Tryz.prog w = .ok () w' ∧ mW w' b (n + 1) (fun j => if j = k then c else f j) ∧ w.mapTurned w' b := by
 obtain ⟨D, h1, h2⟩ := h;have hk : (Lit.int .i64 k).wf = true := WalkArith.wf_i64 (by omega);obtain ⟨w', r1, r2, r3⟩ := h1.store (int_keyed Tryz.underlying3) Tryz.underlying68 hn (keyOf_int_mk Tryz.underlying3 hk) (plainElem_int Tryz.underlying3 (WalkArith.wf_i64 (n := c) (by omega)));refine ⟨w', r1, ⟨_, r2, fun j hj => ?_⟩, r3⟩;dsimp only;by_cases e : j = k
 ·subst e;rw [if_pos rfl];exact atKey_put_same h1.isMap (show WideAt.IsKeyLit (.int .i64 j) from trivial) _ _
 ·rw [if_neg e];rw [atKey_put_other (by intro h; cases h; exact e rfl)];exact h2 j hj
theorem mW.turn {w w' : World} {b b' n : Nat} {f : Int → Int} (h : mW w b n f) (ht : w.mapTurned w' b') (hne : b ≠ b') : mW w' b n f := h.kept ht.grown (by simpa using hne)
theorem Blk.turn {w w' : World} {B b : Nat} {t : TypeId} {cs : List Value} (h : Blk w B t cs) (ht : w.mapTurned w' b) : Blk w' B t cs := h.kept ht.grown (by
 intro e;obtain ⟨es, clock, es', clock', hb, -⟩ := ht;have h' : w.heap[B]? = some (.cells cs.toArray t (0, 0)) := h;have e1 : B = b := (by simpa using e);subst e1;rw [h'] at hb
 cases hb)
end
section
open Go.RowKit Go.Lib
theorem mW.far {w : World} {b n : Nat} {f : Int → Int} (h : mW w b n f) {a : Addr} {t : TypeId} {cs : List Value} (hB : Blk w a.block t cs) (u : Value) : mW (w.setCell a u) b n f := h.at (Below.heap_setCell w a u b (by
 intro e;obtain ⟨D, ⟨es, clock, hb, r⟩, h2⟩ := h;have h' : w.heap[a.block]? = some (.cells cs.toArray t (0, 0)) := hB;rw [e, h'] at hb
 cases hb))
end
end Go.Proofs.YtdfegfagedeilaaGreatDoor
