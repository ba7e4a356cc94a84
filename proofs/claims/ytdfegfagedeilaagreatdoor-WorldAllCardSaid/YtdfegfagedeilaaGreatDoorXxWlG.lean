/-
  Layer 16 (world), the program: counting up, and what it counts, walked. No conditions.
-/
import Derived.Test.YtdfegfagedeilaaGreatDoorXLn
namespace Go.Proofs.YtdfegfagedeilaaGreatDoor
open Go.RowKit Go.Lib
theorem dM.blk {w : World} {gl c n : Nat} {L : List aR} (h : dM w (.slice (some ⟨gl, 0, none⟩) n c) L) : ∃ cur : Array Value, Blk w gl 57 cur.toList ∧ n = L.length ∧ (n ≤ c ∧ c ≤ maxLen) ∧ ∀ (q : Nat) (u : Value), (aJ L)[q]? = some u → cur[q]? = some u := by
 obtain ⟨g, c', cur, e, h1, h2, h3⟩ := h;injection e with e1 e2 e3;injection e1 with e1;injection e1 with e1;subst e1 e2 e3;exact ⟨cur, h2, rfl, h1, h3⟩
theorem dM.spots {w : World} {gl c n : Nat} {L : List aR} (h : dM w (.slice (some ⟨gl, 0, none⟩) n c) L) (k : Nat) (hk : k < L.length) : ∃ z0 z1, w.cell? ⟨gl, k * 2, none⟩ = some z0 ∧ w.cell? ⟨gl, k * 2 + 1, none⟩ = some z1 ∧ w.frozen? ⟨gl, k * 2, none⟩ = false ∧ w.frozen? ⟨gl, k * 2 + 1, none⟩ = false := by
 obtain ⟨cur, hb, -, -, h3⟩ := h.blk;have e1 := h3 _ _ (pD L (k * 2) (by omega));have e2 := h3 _ _ (pD L (k * 2 + 1) (by omega));exact ⟨_, _, hb.cell _ (by rw [Array.getElem?_toList]; exact e1), hb.cell _ (by rw [Array.getElem?_toList]; exact e2), hb.frozen _, hb.frozen _⟩
theorem dM.put {w : World} {gl c n : Nat} {L : List aR} (h : dM w (.slice (some ⟨gl, 0, none⟩) n c) L) (k : Nat) (hk : k < L.length) (x : aR) : dM ((w.setCell ⟨gl, k * 2, none⟩ (.int .i64 x.1)).setCell ⟨gl, k * 2 + 1, none⟩ (.int .i64 x.2)) (.slice (some ⟨gl, 0, none⟩) n c) (L.set k x) := by
 obtain ⟨cur, hb, hn, hc, h3⟩ := h.blk;have hb2 := (hb.set (k * 2) (.int .i64 x.1)).set (k * 2 + 1) (.int .i64 x.2);refine ⟨gl, c, _, by rw [List.length_set, ← hn], by rw [List.length_set, ← hn]; exact hc, hb2, fun q u hq => ?_⟩;have hql := (List.getElem?_eq_some_iff.1 hq).1;rw [bC, List.length_set] at hql;have e0 := pD (L.set k x) q (by rw [List.length_set]; exact hql);rw [hq] at e0;injection e0 with e0;have e1 := h3 _ _ (pD L q hql)
 have hqc : q < cur.toList.length := by
  have := (Array.getElem?_eq_some_iff.1 e1).1;simpa using this
 show ((cur.toList.set (k * 2) _).set (k * 2 + 1) _).toArray[q]? = some u;rw [List.getElem?_toArray, List.getElem?_set, List.getElem?_set]
 have hd : (L.set k x).getD (q / 2) (0, 0) = if q / 2 = k then x else L.getD (q / 2) (0, 0) := by
  rw [List.getD_eq_getElem?_getD, List.getElem?_set];by_cases e : k = q / 2
  ·subst e;rw [if_pos rfl, if_pos hk, if_pos rfl];rfl
  ·rw [if_neg e, if_neg (fun q => e q.symm)];rfl
 rw [hd] at e0;rw [Array.getElem?_toList, List.length_set];by_cases h1 : k * 2 + 1 = q
 ·rw [if_pos h1, if_pos (by omega), e0, if_neg (by omega), if_pos (by omega)]
 ·rw [if_neg h1];by_cases h2 : k * 2 = q
  ·rw [if_pos h2, if_pos (by omega), e0, if_pos (by omega), if_pos (by omega)]
  ·have h4 : ¬ q / 2 = k := (by omega);rw [if_neg h2, e1, e0];simp only [if_neg h4]
set_option maxRecDepth 100000 in
set_option maxHeartbeats 4000000 in
theorem aSb (w : World) (k a ga gt go gat gl N ca cl Q : Nat) (cv vt : Value) (LL : List (List aR)) (L : List aR) (ha : w.cell? ⟨ga, 0, none⟩ = some (.slice (some ⟨gat, 0, none⟩) N ca)) (hat : w.cell? ⟨gat, k, none⟩ = some (.int .i64 (a : Nat))) (ht : w.cell? ⟨gt, 0, none⟩ = some vt) (hts : kH w vt LL) (hgo : Blk w go 29 [cv, .slice (some ⟨gl, 0, none⟩) Q cl]) (hlv : dM w (.slice (some ⟨gl, 0, none⟩) Q cl) L)
  (hkN : k < N) (hkL : k < LL.length) (hkQ : k < L.length) (hne : LL.getD k [] ≠ []) (hal : a < (LL.getD k []).length) (hbig : (LL.getD k []).length ≤ 100000) :
  Calls Tryz.prog 35 #[.int .i64 (k : Nat), .pointer (some ⟨ga, 0, none⟩), .pointer (some ⟨gt, 0, none⟩), .pointer (some ⟨go, 0, none⟩)] w fun e w' => e = .returned (.bool (decide (0 < (a + 1) % (LL.getD k []).length))) ∧ dM w' (.slice (some ⟨gl, 0, none⟩) Q cl) (L.set k ((LL.getD k []).getD ((a + 1) % (LL.getD k []).length) aN)) ∧ w.grownBy w' (some gl) := by
 obtain ⟨gtr, ct, u, rfl, hu, hvt⟩ := hts.get k hkL;have hp1 : 0 < (LL.getD k []).length := List.length_pos_iff.2 hne;obtain ⟨TL, hTL⟩ : ∃ q, LL.getD k [] = q := ⟨_, rfl⟩;rw [hTL] at hvt hne hal hbig hp1 ⊢
 obtain ⟨gu, cu, rfl, -, hvu⟩ := hvt.at
 obtain ⟨M, hM⟩ : ∃ q, LL.length = q := ⟨_, rfl⟩;rw [hM] at ht hkL;have hqT : (a + 1) % TL.length < TL.length := Nat.mod_lt _ hp1;have hwrap : IntKind.i64.wrap ((a : Int) + 1) = (a : Int) + 1 := by rw [IntKind.wrap_i64]; omega
 have hrem : ((a : Int) + 1).tmod (TL.length : Int) = (((a + 1) % TL.length : Nat) : Int) := by
  rw [Int.tmod_eq_emod_of_nonneg (by omega)];rfl
 obtain ⟨q, hq⟩ : ∃ q, (a + 1) % TL.length = q := ⟨_, rfl⟩;rw [hq] at hqT hrem ⊢;obtain ⟨x1, x2⟩ := hvu q hqT;obtain ⟨⟨xa, xb⟩, hx⟩ : ∃ z, TL.getD q aN = z := ⟨_, rfl⟩;rw [hx] at x1 x2 ⊢;dsimp only at x1 x2;obtain ⟨-, -, hQ, -, -⟩ := hlv.blk;have hkQ2 : k < Q := (by omega);clear hQ;have HkL := lhid hkQ;have HLv0 := lhid hlv;have HGo := lhid hgo;have HX1 := lhid x1;have HX2 := lhid x2;have HT := lhid ht;have HU := lhid hu;have HS : Hid (∀ w', Below w.heap.size w w' → w'.cell? ⟨ga, 0, none⟩ = some (.slice (some ⟨gat, 0, none⟩) N ca) ∧ w'.cell? ⟨gat, k, none⟩ = some (.int .i64 (a : Nat)) ∧ w'.cell? ⟨gt, 0, none⟩ = some (.slice (some ⟨gtr, 0, none⟩) M ct) ∧ w'.cell? ⟨gtr, k, none⟩ = some (.slice (some ⟨gu, 0, none⟩) TL.length cu) ∧ Below w.heap.size w w') := lhid (fun w' hb => ⟨cell_later hb ha, cell_later hb hat, cell_later hb ht, cell_later hb hu, hb⟩);clear ha hat ht hts hgo hlv hvt hu hvu x1 x2 hTL hM hx hq;go_enter Tryz.func35, Tryz.ntmps35;(go_upto_region 1 with fail);refine wpk HS [] (by kernel_rfl) fun hB0 hS0 => ?_;refine wT 0 12 hS0 ?_;refine wF 1 ?_;refine wF 2 ?_;refine wT 3 12 hS0 ?_;refine wF 4 ?_;refine wT 5 12 hS0 ?_;refine wO 6 ?_;refine wO 7 ?_;refine wO 8 ?_;refine wO 9 ?_;refine wO 10 ?_;refine wO 11 ?_;refine wD ?_;obtain ⟨w1, hw1⟩ : ∃ q, w.drew = q := ⟨_, rfl⟩;rw [hw1] at hB0;(try rw [hw1]);have HB0 := lhid hB0;have HLv := lhid (HLv0.out.later hB0)
 have HS2 : Hid (∀ w', Below w1.heap.size w1 w' → w'.cell? ⟨gt, 0, none⟩ = some (.slice (some ⟨gtr, 0, none⟩) M ct) ∧ w'.cell? ⟨gtr, k, none⟩ = some (.slice (some ⟨gu, 0, none⟩) TL.length cu) ∧ w'.cell? ⟨go, 1, none⟩ = some (.slice (some ⟨gl, 0, none⟩) Q cl) ∧ w'.cell? ⟨gu, q * 2, none⟩ = some (.int .i64 xa) ∧ w'.cell? ⟨gu, q * 2 + 1, none⟩ = some (.int .i64 xb) ∧ Below w1.heap.size w1 w') := lhid (fun w' hb => by
  have hbb := aB HB0.out hb
  exact ⟨cell_later hbb HT.out, cell_later hbb HU.out, (HGo.out.later hbb).cell 1 rfl, cell_later hbb HX1.out, cell_later hbb HX2.out, hb⟩)
 clear hw1 hB0 hS0 HS HX1 HX2 HT HU HLv0;have HS := HS2;clear HS2;(go_upto_region 2 with fail);refine wpk HS [11] (by kernel_rfl) fun hB0 hS0 => ?_;obtain ⟨wd, hwd⟩ : ∃ q, w1.drew = q := ⟨_, rfl⟩;rw [hwd] at hB0 hS0;(try simp only [hwd]);clear hwd;refine wF 0 ?_;refine wT 1 12 hS0 ?_;refine wF 2 ?_;refine wT 3 12 hS0 ?_;refine wF 4 ?_;refine wF 5 ?_;refine wT 6 12 hS0 ?_;refine wO 7 ?_;refine wO 8 ?_;refine wO 9 ?_;refine wO 10 ?_;have HLz := lhid (HLv.out.later hB0);obtain ⟨z0, z1, s0, s1, f0, f1⟩ := HLz.out.spots k HkL.out;refine wL 11 ?_;clear s0 s1 f0 f1;refine wD ?_;have HP := lhid (HLz.out.put k HkL.out (xa, xb));have HG := lhid ((kQ (HB0.out.trans (hB0.mono HB0.out.size)) (row := some gl)).trans ((jC _ gl (k * 2) (.int .i64 xa)).trans (jC _ gl (k * 2 + 1) (.int .i64 xb))));(go_wp2_with fail);go_ret;exact ⟨by first | rfl | (congr 2; simp), HP.out, HG.out⟩
def jM (w : World) (v : Value) (L : List Bool) : Prop := ∃ g c cur, v = .slice (some ⟨g, 0, none⟩) L.length c ∧ (L.length ≤ c ∧ c ≤ maxLen) ∧ w.heap[g]? = some (Obj.cells cur 4 (0, 0)) ∧ ∀ (q : Nat) (u : Value), (bG L)[q]? = some u → cur[q]? = some u
theorem jM.later {w w' : World} {v : Value} {L : List Bool} (h : jM w v L) (hb : Below w.heap.size w w') : jM w' v L := by
 obtain ⟨g, c, cur, e, h1, h2, h3⟩ := h;exact ⟨g, c, cur, e, h1, (hb.block g (Array.getElem?_eq_some_iff.1 h2).1).trans h2, h3⟩
theorem jM.blk {w : World} {gl c n : Nat} {L : List Bool} (h : jM w (.slice (some ⟨gl, 0, none⟩) n c) L) : ∃ cur : Array Value, Blk w gl 4 cur.toList ∧ n = L.length ∧ (n ≤ c ∧ c ≤ maxLen) ∧ ∀ (q : Nat) (u : Value), (bG L)[q]? = some u → cur[q]? = some u := by
 obtain ⟨g, c', cur, e, h1, h2, h3⟩ := h;injection e with e1 e2 e3;injection e1 with e1;injection e1 with e1;subst e1 e2 e3;exact ⟨cur, h2, rfl, h1, h3⟩
theorem jM.spot {w : World} {gl c n : Nat} {L : List Bool} (h : jM w (.slice (some ⟨gl, 0, none⟩) n c) L) (k : Nat) (hk : k < L.length) : w.cell? ⟨gl, k, none⟩ = some (.bool (L.getD k false)) ∧ w.frozen? ⟨gl, k, none⟩ = false := by
 obtain ⟨cur, hb, -, -, h3⟩ := h.blk;have e1 := h3 _ _ (aBt L k hk);exact ⟨hb.cell _ (by rw [Array.getElem?_toList]; exact e1), hb.frozen _⟩
theorem jM.has {w : World} {gl c n : Nat} {L : List Bool} (h : jM w (.slice (some ⟨gl, 0, none⟩) n c) L) : jA w (some ⟨gl, 0, none⟩) L := fun j hj => ⟨gl, rfl, (h.spot j hj).1⟩
theorem jM.put {w : World} {gl c n : Nat} {L : List Bool} (h : jM w (.slice (some ⟨gl, 0, none⟩) n c) L) (k : Nat) (b : Bool) : jM (w.setCell ⟨gl, k, none⟩ (.bool b)) (.slice (some ⟨gl, 0, none⟩) n c) (L.set k b) := by
 obtain ⟨cur, hb, hn, hc, h3⟩ := h.blk;have hb2 := hb.set k (.bool b);refine ⟨gl, c, _, by rw [List.length_set, ← hn], by rw [List.length_set, ← hn]; exact hc, hb2, fun q u hq => ?_⟩;have hql := (List.getElem?_eq_some_iff.1 hq).1;rw [gD, List.length_set] at hql;rw [yC, List.getElem?_set] at hq;have e1 := h3 _ _ (aBt L q hql)
 have hqc : q < cur.toList.length := by
  have := (Array.getElem?_eq_some_iff.1 e1).1;simpa using this
 show (cur.toList.set k _).toArray[q]? = some u;rw [List.getElem?_toArray, List.getElem?_set, Array.getElem?_toList];by_cases h1 : k = q
 ·subst h1;rw [if_pos rfl, if_pos (by rw [gD]; exact hql)] at hq;rw [if_pos rfl, if_pos hqc];exact hq
 ·rw [if_neg h1] at hq ⊢;exact h3 _ _ hq
theorem aSu {w : World} {base n : Nat} {v : Value} {L : List Bool} (h : w.ownsRow base 4 1 v n (bG L)) (hn : n = L.length) (h0 : 0 < n) : jM w v L := by
 subst hn;have h3 := h;rcases h.2 with ⟨-, h1⟩ | ⟨g, cap, cur, rfl, -, hw, h1, h2, -⟩
 ·omega
 ·refine ⟨g, cap, cur, rfl, ⟨h1, h2⟩, hw, fun q u hq => ?_⟩;have hl := (List.getElem?_eq_some_iff.1 hq).1;rw [gD] at hl;have h4 := h3.cellAt q (by omega);rw [hq] at h4;simpa [World.cell?, hw] using h4
set_option maxRecDepth 100000 in
set_option maxHeartbeats 4000000 in
theorem aQz (w : World) (k go gc Q cl : Nat) (lv : Value) (L : List Bool) (b : Bool) (hgo : Blk w go 29 [.slice (some ⟨gc, 0, none⟩) Q cl, lv]) (hrb : jM w (.slice (some ⟨gc, 0, none⟩) Q cl) L) (hk : k < L.length) (hb : L.getD k false = b) :
  Calls Tryz.prog 37 #[.int .i64 (k : Nat), .pointer (some ⟨go, 0, none⟩)] w fun e w' => e = .returned (.bool (!b)) ∧ jM w' (.slice (some ⟨gc, 0, none⟩) Q cl) (L.set k (!b)) ∧ w.grownBy w' (some gc) := by
 have hne : go ≠ gc := fun e => by
  subst e;obtain ⟨cur, h1, -⟩ := hrb.blk;have h2 := hgo;unfold Blk at h1 h2;rw [h1] at h2;injection h2 with h2;injection h2 with _ h2;exact absurd h2 (by decide)
 obtain ⟨x1, -⟩ := hrb.spot k hk;rw [hb] at x1;obtain ⟨-, -, hQ, -, -⟩ := hrb.blk;have hkQ : k < Q := (by omega);have HNe := lhid hne;have HLk := lhid hk;have HRb := lhid hrb;have HGo := lhid hgo;have HS : Hid (∀ w', Below w.heap.size w w' → w'.cell? ⟨go, 0, none⟩ = some (.slice (some ⟨gc, 0, none⟩) Q cl) ∧ w'.cell? ⟨gc, k, none⟩ = some (.bool b) ∧ Below w.heap.size w w') := lhid (fun w' hb => ⟨(HGo.out.later hb).cell 0 rfl, cell_later hb x1, hb⟩);clear hgo hrb hk hb hne x1 hQ;go_enter Tryz.func37, Tryz.ntmps37;(go_upto_region 1 with fail);refine wpk HS [10] (by kernel_rfl) fun hB0 hS0 => ?_;obtain ⟨wd, hwd⟩ : ∃ q, w.drew = q := ⟨_, rfl⟩;rw [hwd] at hB0 hS0;(try simp only [hwd]);clear hwd;refine wF 0 ?_;refine wT 1 11 hS0 ?_;refine wF 2 ?_;refine wF 3 ?_;refine wT 4 11 hS0 ?_;refine wO 5 ?_;refine wO 6 ?_;refine wO 7 ?_;refine wO 8 ?_;refine wO 9 ?_;have HLz := lhid (HRb.out.later hB0);obtain ⟨s0, f0⟩ := HLz.out.spot k HLk.out;refine wL 10 ?_;clear s0 f0;refine wD ?_;have HP := lhid (HLz.out.put k (!b));have HG := lhid ((kQ hB0 (row := some gc)).trans (jC _ gc k (.bool (!b))));have y0 := ((HGo.out.later hB0).far (a := ⟨gc, k, none⟩) HNe.out (.bool (!b))).cell 0 rfl
 have y1 : (wd.setCell ⟨gc, k, none⟩ (.bool (!b))).cell? ⟨gc, k, none⟩ = some (.bool (!b)) := by
  have h1 := (HP.out.spot k (by rw [List.length_set]; exact HLk.out)).1;rw [h1];have h2 := HLk.out;simp [h2]
 (go_wp2_with fail);go_ret;exact ⟨by first | rfl | simp, HP.out, HG.out⟩
def aAt (Q I : World → Prop) (e : Ending) (w' : World) : Prop := ∃ b, e = .returned (.bool b) ∧ (b = true → Q w') ∧ (b = false → I w')
set_option maxRecDepth 100000 in
set_option maxHeartbeats 4000000 in
theorem bAx (w : World) (N : Nat) (hN : N ≤ 1000) (pa pt po : Value) (Inv : Nat → World → Prop) (Q : World → Prop) (h0 : Inv N w) (hs : ∀ k wr, k < N → Inv (k + 1) wr → Calls Tryz.prog 35 #[.int .i64 (k : Nat), pa, pt, po] wr (aAt Q (Inv k))) :
  Calls Tryz.prog 36 #[.int .i64 (N : Nat), .func (.func 35) #[] #[pa, pt, po]] w (aAt Q (Inv 0)) := by
 have en := enters_of Tryz.func35 (by kernel_rfl) rfl;have HS := lhid hs;have H0 := lhid h0;clear hs h0;go_enter Tryz.func36, Tryz.ntmps36;go_wp2_with fail
 go_loopw [5] (fun i wr => ∃ k : Nat, k ≤ N ∧ i = .int .i64 ((k : Int) - 1) ∧ Inv k wr) (fun i _ => (RowKit.intOf i + 1).toNat)
 case atStart => exact ⟨N, Nat.le_refl _, by go_num, H0.out⟩
 case round =>
  obtain ⟨k, hk, rfl, hinv⟩ := hrel
  cases k with
  | zero =>
   have HI := lhid hinv;clear hinv;(go_wp2_with fail);go_ret;exact ⟨false, rfl, fun h => (by cases h), fun _ => HI.out⟩
  | succ k =>
   have HC := lhid (HS.out k wr (by omega) hinv);clear hinv;rw [show (((k + 1 : Nat) : Int) - 1) = ((k : Nat) : Int) by omega];go_wp2_with (first | (go_at_call 35; refine HC.out.mono ?_; rintro e w1 ⟨b, rfl, hq1, hq2⟩))
   ·rename_i hb;have HQ := lhid (hq1 hb);clear hq1 hq2;go_ret;exact ⟨true, rfl, fun _ => HQ.out, fun h => (by cases h)⟩
   ·rename_i hb;have HQ := lhid (hq2 (by simpa using hb));clear hq1 hq2;go_roundw
    case rel => exact ⟨k, by omega, by go_num, HQ.out⟩
    case measure => simp [RowKit.intOf] <;> omega
set_option maxRecDepth 100000 in
set_option maxHeartbeats 4000000 in
theorem bAw (w : World) (N : Nat) (hN : N ≤ 1000) (po : Value) (Inv : Nat → World → Prop) (Q : World → Prop) (h0 : Inv N w) (hs : ∀ k wr, k < N → Inv (k + 1) wr → Calls Tryz.prog 37 #[.int .i64 (k : Nat), po] wr (aAt Q (Inv k))) :
  Calls Tryz.prog 36 #[.int .i64 (N : Nat), .func (.func 37) #[] #[po]] w (aAt Q (Inv 0)) := by
 have en := enters_of Tryz.func37 (by kernel_rfl) rfl;have HS := lhid hs;have H0 := lhid h0;clear hs h0;go_enter Tryz.func36, Tryz.ntmps36;go_wp2_with fail
 go_loopw [5] (fun i wr => ∃ k : Nat, k ≤ N ∧ i = .int .i64 ((k : Int) - 1) ∧ Inv k wr) (fun i _ => (RowKit.intOf i + 1).toNat)
 case atStart => exact ⟨N, Nat.le_refl _, by go_num, H0.out⟩
 case round =>
  obtain ⟨k, hk, rfl, hinv⟩ := hrel
  cases k with
  | zero =>
   have HI := lhid hinv;clear hinv;(go_wp2_with fail);go_ret;exact ⟨false, rfl, fun h => (by cases h), fun _ => HI.out⟩
  | succ k =>
   have HC := lhid (HS.out k wr (by omega) hinv);clear hinv;rw [show (((k + 1 : Nat) : Int) - 1) = ((k : Nat) : Int) by omega];go_wp2_with (first | (go_at_call 37; refine HC.out.mono ?_; rintro e w1 ⟨b, rfl, hq1, hq2⟩))
   ·rename_i hb;have HQ := lhid (hq1 hb);clear hq1 hq2;go_ret;exact ⟨true, rfl, fun _ => HQ.out, fun h => (by cases h)⟩
   ·rename_i hb;have HQ := lhid (hq2 (by simpa using hb));clear hq1 hq2;go_roundw
    case rel => exact ⟨k, by omega, by go_num, HQ.out⟩
    case measure => simp [RowKit.intOf] <;> omega
end Go.Proofs.YtdfegfagedeilaaGreatDoor
