/-
  Layer 16 (world), the program: whether a world of a history may be, walked. No conditions but that unicode/utf8's two tables are as their initialisers lay them.
-/
import Derived.Test.YtdfegfagedeilaaGreatDoorXLj
namespace Go.Proofs.YtdfegfagedeilaaGreatDoor
open Go.RowKit Go.Lib
set_option maxRecDepth 100000 in
set_option maxHeartbeats 2000000 in
theorem bBd (x : aR) (w : World) :
  Calls Tryz.prog 47 #[.agg #[.int .i64 x.1, .int .i64 x.2]] w fun e w' => e = .returned (.bool (!cF x)) ∧ Below w.heap.size w w' := by
 obtain ⟨k, n⟩ := x;by_cases hk : k = 1
 ·subst hk;have hE : cF (1, n) = true := rfl;rw [hE];clear hE;go_enter Tryz.func47, Tryz.ntmps47
  go_wp2
  go_ret;exact ⟨rfl, by go_grown⟩
 ·by_cases h0 : k = 0
  ·subst h0;by_cases hn : n = 0
   ·subst hn;have hE : cF (0, 0) = true := rfl;rw [hE];clear hE hk;go_enter Tryz.func47, Tryz.ntmps47
    go_wp2
    go_ret;exact ⟨rfl, by go_grown⟩
   ·have hE : cF (0, n) = false := (by unfold cF; simpa using hn);rw [hE];have hn2 : (n == 0) = false := (by simpa using hn);clear hE hk;go_enter Tryz.func47, Tryz.ntmps47
    go_wp2
    go_ret;exact ⟨by first | rfl | simp [hn], by go_grown⟩
  ·have hE : cF (k, n) = false := (by unfold cF; simp [hk, h0]);rw [hE];have hk2 : (k == 1) = false := (by simpa using hk);have h02 : (k == 0) = false := (by simpa using h0);clear hE;go_enter Tryz.func47, Tryz.ntmps47
   go_wp2
   go_ret;exact ⟨by first | rfl | simp [hk], by go_grown⟩
set_option maxRecDepth 100000 in
set_option maxHeartbeats 2000000 in
theorem aRt (v : Value) (L : List aR) (w : World) (hv : oS w v L) (hL : L.length ≤ 1000000) :
  Calls Tryz.prog 68 #[v, .func (.func 47) #[] #[]] w fun e w' => ∃ i : Int, e = .returned (.int .i64 i) ∧ decide (0 ≤ i) = !(L.all cF) ∧ Below w.heap.size w w' := by
 obtain ⟨p, c, rfl, -, hp⟩ := hv;have HX := lhid hp;have en := enters_of Tryz.func47 (by kernel_rfl) rfl
 have HYes : Hid (∀ k : Nat, k < L.length → cF (L.getD k aN) = false → decide ((0 : Int) ≤ (k : Int)) = !(L.all cF)) := lhid (fun k hk hf => by
  have : L.all cF = false := by
   rw [List.all_eq_false];refine ⟨L.getD k aN, ?_, by rw [hf]; exact Bool.false_ne_true⟩;have : L.getD k aN = L[k] := (by simp [hk]);rw [this];exact List.getElem_mem hk
  rw [this]
  simp)
 have HNo : Hid ((∀ k : Nat, k < L.length → cF (L.getD k aN) = true) → decide ((0 : Int) ≤ -1) = !(L.all cF)) := lhid (fun h => by
  have : L.all cF = true := by
   rw [List.all_eq_true];intro x hx;obtain ⟨k, hk, e⟩ := List.getElem_of_mem hx;have := h k hk;simpa [hk, e] using this
  rw [this]
  rfl)
 generalize (!(L.all cF)) = R at *;clear hp;go_enter Tryz.func68, Tryz.ntmps68;go_wp2_with fail
 go_loopw [8] (fun i wr => ∃ k : Nat, k ≤ L.length ∧ i = .int .i64 k ∧ (∀ j, j < k → cF (L.getD j aN) = true) ∧ Below w.heap.size w wr) (fun i _ => L.length - (RowKit.intOf i).toNat)
 case atStart => exact ⟨0, Nat.zero_le _, rfl, fun j hj => absurd hj (Nat.not_lt_zero j), Below.refl _ _⟩
 case round =>
  obtain ⟨k, hk, rfl, hn, hbw⟩ := hrel;have HN := lhid hn;clear hn;by_cases hk1 : k < L.length
  ·obtain ⟨g, rfl, b0, b1⟩ := HX.out k hk1;have a0 := cell_later hbw b0;have a1 := cell_later hbw b1;have HM := lhid (bBd (L.getD k aN) wr);have HY := lhid (HYes.out k hk1)
   have HK : Hid (cF (L.getD k aN) = true → ∀ j, j < k + 1 → cF (L.getD j aN) = true) := lhid (fun h j hj => by
    by_cases hjk : j < k
    ·exact HN.out j hjk
    ·obtain rfl : j = k := by omega
     exact h)
   obtain ⟨b, hb⟩ : ∃ b, cF (L.getD k aN) = b := ⟨_, rfl⟩;rw [hb] at HM HY HK;obtain ⟨⟨t1, t2⟩, ht⟩ : ∃ t, L.getD k aN = t := ⟨_, rfl⟩;rw [ht] at HM a0 a1;simp only at HM a0 a1;clear b0 b1 hb ht
   cases b with
   | false =>
    (go_wp2_with (first | (go_at_call 47; refine HM.out.mono ?_; rintro e w1 ⟨rfl, hb1⟩)));go_ret;exact ⟨_, rfl, HY.out trivial, aB hbw hb1⟩
   | true =>
    (go_wp2_with (first | (go_at_call 47; refine HM.out.mono ?_; rintro e w1 ⟨rfl, hb1⟩)));go_roundw
    case rel => exact ⟨k + 1, by omega, by go_num, HK.out trivial, aB hbw hb1⟩
    case measure => simp [RowKit.intOf]; omega
  ·have hke : k = L.length := (by omega);subst hke;have H1 := lhid (HNo.out HN.out);(go_wp2_with fail);go_ret;exact ⟨_, rfl, H1.out, hbw⟩
set_option maxRecDepth 100000 in
set_option maxHeartbeats 2000000 in
theorem aQo (v : Value) (L : List aR) (w : World) (hv : oS w v L) (hL : L.length ≤ 1000000) :
  Calls Tryz.prog 46 #[v, .func (.func 47) #[] #[]] w fun e w' => e = .returned (.bool (!(L.all cF))) ∧ Below w.heap.size w w' := by
 have H1 := lhid (aRt v L w hv hL);generalize (!(L.all cF)) = R at *;clear hv hL;go_enter Tryz.func46, Tryz.ntmps46;(go_wp2_with fail);refine H1.out.mono ?_;rintro e w1 ⟨i, rfl, hi, hb1⟩;have HI := lhid hi;clear hi;(go_wp2_with fail);go_ret;refine ⟨?_, hb1⟩;rw [← HI.out];rfl
theorem aVb {h : aI} {m : bK} (hm : cZ h = false) : kX h m = false := by unfold kX; rw [hm]; rfl
theorem aNo {h : aI} {m : bK} (hm : m.1.length ≠ (cA aP h).length) : kX h m = false := by unfold kX; simp [hm]
theorem aNp {h : aI} {m : bK} (hm : m.2.length ≠ (cY h).length) : kX h m = false := by unfold kX; simp [hm]
theorem aNn {h : aI} {m : bK} (hm : cZ h = true) (h1 : m.1.length = (cA aP h).length) (h2 : m.2.length = (cY h).length) : kX h m = m.2.all cF := by unfold kX; rw [hm, h1, h2]; simp
set_option maxRecDepth 100000 in
set_option maxHeartbeats 2000000 in
theorem bTz {w : World} {v u : Value} {h : aI} {m : bK} (hv : cJ w v h) (hu : lI w u m) (hm : cU h) (h50 : m.1.length ≤ 1000000 ∧ m.2.length ≤ 1000000) (hT : Lib.Utf8Tabs 1 2 w) :
  Calls Tryz.prog 20 #[v, u] w fun e w' => e = .returned (.bool (kX h m)) ∧ Below w.heap.size w w' := by
 have H0 := lhid hv;obtain ⟨v0, v1, v2, rfl, ⟨p0, c0, rfl, -⟩, ⟨p1, c1, rfl, -⟩, ⟨p2, c2, rfl, -⟩⟩ := hv;obtain ⟨pb, cb, pv, cv, rfl, hb, hvv, -, hcv⟩ := lY hu;obtain ⟨h51, h52⟩ := h50;have hal := ((Below.refl w.heap.size w).alloc (Nat.le_refl _) (.cells #[.slice p0 h.1.length c0, .slice p1 h.2.1.length c1, .slice p2 h.2.2.length c2] 25)).alloc (by simp) (.cells #[.slice pb m.1.length cb, .slice pv m.2.length cv] 29);have hbx := (Blk.new w 25 [.slice p0 h.1.length c0, .slice p1 h.2.1.length c1, .slice p2 h.2.2.length c2]).alloc (.cells #[.slice pb m.1.length cb, .slice pv m.2.length cv] 29);have hbw := Blk.new (w.alloc (.cells #[.slice p0 h.1.length c0, .slice p1 h.2.1.length c1, .slice p2 h.2.2.length c2] 25)) 29 [.slice pb m.1.length cb, .slice pv m.2.length cv];simp only [World.size_alloc] at hbw;have HMo := lhid hm;have HVa := lhid hvv;have HCv := lhid hcv;have HAL := lhid hal;have HBX := lhid hbx;have HBW := lhid hbw;have HT := lhid hT;clear hT hm hal hbx hbw hb hvv hcv hu;go_enter Tryz.func20, Tryz.ntmps20;(go_upto_region 1 with fail);obtain ⟨W1, hW1⟩ : ∃ q, (w.alloc (.cells #[.slice p0 h.1.length c0, .slice p1 h.2.1.length c1, .slice p2 h.2.2.length c2] 25)).alloc (.cells #[.slice pb m.1.length cb, .slice pv m.2.length cv] 29) = q := ⟨_, rfl⟩;rw [hW1] at HAL HBX HBW ⊢;clear hW1;have HV1 := lhid (H0.out.below HAL.out);have HVa1 := lhid (HVa.out.below HAL.out);have HMy := lhid (fun w' (hb : Below W1.heap.size W1 w') => bUd (HV1.out.below hb) HMo.out (Utf8Tabs_below HT.out (aB HAL.out hb)));have HIn := lhid (fun w' (hb : Below W1.heap.size W1 w') => bVb (HV1.out.below hb) HMo.out (Utf8Tabs_below HT.out (aB HAL.out hb)));have HLo := lhid (fun w' (hb : Below W1.heap.size W1 w') => bUz (HV1.out.below hb) HMo.out (Utf8Tabs_below HT.out (aB HAL.out hb)));have HS : Hid (∀ w', Below W1.heap.size W1 w' → w'.cell? ⟨w.heap.size, 0, none⟩ = some (.slice p0 h.1.length c0) ∧ w'.cell? ⟨w.heap.size, 1, none⟩ = some (.slice p1 h.2.1.length c1) ∧ w'.cell? ⟨w.heap.size, 2, none⟩ = some (.slice p2 h.2.2.length c2) ∧ w'.cell? ⟨w.heap.size + 1, 0, none⟩ = some (.slice pb m.1.length cb) ∧ w'.cell? ⟨w.heap.size + 1, 1, none⟩ = some (.slice pv m.2.length cv) ∧ Below W1.heap.size W1 w') := lhid (fun w' hb => ⟨(HBX.out.later hb).cell 0 rfl, (HBX.out.later hb).cell 1 rfl, (HBX.out.later hb).cell 2 rfl, (HBW.out.later hb).cell 0 rfl, (HBW.out.later hb).cell 1 rfl, hb⟩);have HFin := lhid (fun w' (hb : Below W1.heap.size W1 w') => aB HAL.out hb);clear HMo H0 HVa
 cases hmm : cZ h with
 | false =>
  have HEr := lhid (pH hmm);have HE := lhid (@aVb h m hmm);clear hmm;refine wpk HS [] (by kernel_rfl) fun hB0 hS0 => ?_;refine wO 0 ?_;refine won 1 rfl fun K hK => ?_;go_simp;refine (HMy.out _ hB0).mono ?_;rintro e w1 ⟨he, hb1⟩;have hB1 := aB hB0 hb1;have hS1 := HS.out _ hB1;rw [HEr.out] at he;subst he;refine hK.out _ _ (fun _ _ => hS1) ?_;clear hK K hS0;(try simp only [Act.put, sq]);refine wO 2 ?_;refine wO 3 ?_;refine wU 4 ?_;refine wU 5 ?_;refine wU 6 ?_;refine wO 7 ?_;refine wO 8 ?_;refine wO 9 ?_;refine wO 10 ?_;refine wO 11 ?_;refine wO 12 ?_;refine wU 13 ?_;refine wU 14 ?_;refine wU 15 ?_;refine wO 16 ?_;refine wO 17 ?_;refine wO 18 ?_;refine wO 19 ?_;refine wO 20 ?_;refine wD ?_;(go_wp2_with fail);go_ret;exact ⟨by rw [HE.out] <;> rfl, HFin.out _ hB1⟩
 | true =>
  have HEr := lhid (kT hmm);have HMM := lhid hmm;have HWh : Hid (cA aP h = jH aP h.2.2 h.2.2.length) := lhid (jZ _ hmm);have HWl : Hid (cY h = bY (itH h.2.2 h.2.2.length)) := lhid (kF hmm);obtain ⟨n1, hn1⟩ : ∃ n, (cA aP h).length = n := ⟨_, rfl⟩;obtain ⟨n2, hn2⟩ : ∃ n, (cY h).length = n := ⟨_, rfl⟩;have HN1 := lhid hn1;have HN2 := lhid hn2;clear hmm hn1 hn2;by_cases h1 : m.1.length = n1
  ·have H1 := lhid h1;have h1b : ((m.1.length : Int) == (n1 : Int)) = true := beq_iff_eq.2 (by omega);have h1c : ((m.1.length : Int) != (n1 : Int)) = false := (by simp [h1]);clear h1;refine wpk HS [] (by kernel_rfl) fun hB0 hS0 => ?_;refine wO 0 ?_;refine won 1 rfl fun K hK => ?_;go_simp;refine (HMy.out _ hB0).mono ?_;rintro e w1 ⟨he, hb1⟩;have hB1 := aB hB0 hb1;have hS1 := HS.out _ hB1;rw [HEr.out] at he;subst he;refine hK.out _ _ (fun _ _ => hS1) ?_;clear hK K hS0;(try simp only [Act.put, sq]);refine wO 2 ?_;refine wO 3 ?_;refine wF 4 ?_;refine wT 5 21 hS1 ?_;refine wF 6 ?_;refine wO 7 ?_;refine won 8 rfl fun K hK => ?_;go_simp;refine (HIn.out _ hB1).mono ?_;rintro e w2 ⟨vi, rfl, hi, hb2⟩;have hB2 := aB hB1 hb2;have hS2 := HS.out _ hB2;obtain ⟨pi, ci, rfl, -⟩ := hi;rw [HN1.out];refine hK.out _ _ (fun _ _ => hS2) ?_;clear hK K hS1;(try simp only [Act.put, sq]);refine wO 9 ?_;refine wO 10 ?_;refine wO 11 ?_;refine wO 12 ?_;refine wF 13 ?_;refine wT 14 21 hS2 ?_;refine wF 15 ?_;refine wO 16 ?_;refine won 17 rfl fun K hK => ?_;go_simp;refine (HLo.out _ hB2).mono ?_;rintro e w3 ⟨vj, rfl, hj, hb3⟩;have hB3 := aB hB2 hb3;have hS3 := HS.out _ hB3;obtain ⟨pj, cj, rfl, -⟩ := hj;rw [HN2.out];refine hK.out _ _ (fun _ _ => hS3) ?_;clear hK K hS2;(try simp only [Act.put, sq]);refine wO 18 ?_;refine wO 19 ?_;refine wO 20 ?_;refine wD ?_;by_cases h2 : m.2.length = n2
   ·have HE := lhid (aNn HMM.out (H1.out.trans HN1.out.symm) (h2.trans HN2.out.symm));have h2b : ((m.2.length : Int) == (n2 : Int)) = true := beq_iff_eq.2 (by omega);have h2c : ((m.2.length : Int) != (n2 : Int)) = false := (by simp [h2]);subst h2;have HB3 := lhid hB3;have y1 := (HS.out _ hB3).2.2.2.2.1;have HVs : Hid (oS w3 (.slice pv m.2.length cv) m.2) := lhid ⟨pv, cv, rfl, HCv.out, HVa1.out.below hB3⟩;clear hS3 h1b h1c h2b h2c;(go_wp2_with fail);refine (aQo _ m.2 _ HVs.out (by omega)).mono ?_;rintro e w4 ⟨rfl, hb4⟩;(go_wp2_with fail);go_ret;exact ⟨by rw [HE.out]; simp, HFin.out _ (aB HB3.out hb4)⟩
   ·have HE := lhid (@aNp h m (fun e => h2 (e.trans HN2.out)));have h2b : ((m.2.length : Int) == (n2 : Int)) = false := beq_eq_false_iff_ne.2 (fun e => h2 (by omega));have h2c : ((m.2.length : Int) != (n2 : Int)) = true := bne_iff_ne.2 (fun e => h2 (by omega));clear h2;(go_wp2_with fail);go_ret;exact ⟨by rw [HE.out] <;> rfl, HFin.out _ hB3⟩
  ·have HE := lhid (@aNo h m (fun e => h1 (e.trans HN1.out)));have h1b : ((m.1.length : Int) == (n1 : Int)) = false := beq_eq_false_iff_ne.2 (fun e => h1 (by omega));have h1c : ((m.1.length : Int) != (n1 : Int)) = true := bne_iff_ne.2 (fun e => h1 (by omega));clear h1;refine wpk HS [] (by kernel_rfl) fun hB0 hS0 => ?_;refine wO 0 ?_;refine won 1 rfl fun K hK => ?_;go_simp;refine (HMy.out _ hB0).mono ?_;rintro e w1 ⟨he, hb1⟩;have hB1 := aB hB0 hb1;have hS1 := HS.out _ hB1;rw [HEr.out] at he;subst he;refine hK.out _ _ (fun _ _ => hS1) ?_;clear hK K hS0;(try simp only [Act.put, sq]);refine wO 2 ?_;refine wO 3 ?_;refine wF 4 ?_;refine wT 5 21 hS1 ?_;refine wF 6 ?_;refine wO 7 ?_;refine won 8 rfl fun K hK => ?_;go_simp;refine (HIn.out _ hB1).mono ?_;rintro e w2 ⟨vi, rfl, hi, hb2⟩;have hB2 := aB hB1 hb2;have hS2 := HS.out _ hB2;obtain ⟨pi, ci, rfl, -⟩ := hi;rw [HN1.out];refine hK.out _ _ (fun _ _ => hS2) ?_;clear hK K hS1;(try simp only [Act.put, sq]);refine wO 9 ?_;refine wO 10 ?_;refine wO 11 ?_;refine wO 12 ?_;refine wU 13 ?_;refine wU 14 ?_;refine wU 15 ?_;refine wO 16 ?_;refine wO 17 ?_;refine wO 18 ?_;refine wO 19 ?_;refine wO 20 ?_;refine wD ?_;(go_wp2_with fail);go_ret;exact ⟨by rw [HE.out] <;> rfl, HFin.out _ hB2⟩
end Go.Proofs.YtdfegfagedeilaaGreatDoor
