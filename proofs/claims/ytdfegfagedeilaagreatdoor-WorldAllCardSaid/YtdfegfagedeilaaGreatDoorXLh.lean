/-
  Layer 12 (show): Parse, walked. Conditions: unicode/utf8's two tables, event.words and bytealg.MaxLen hold what their initialisers lay; texts of at most 1,000,000 bytes.
  The walks of layer 11 (hist): a history in memory; whether an operation, a transaction, the tables may be. No conditions but that unicode/utf8's two tables are as their initialisers lay them.
  The walks of layer 11 (hist), the program: whether the tables may be, whether all transactions may be. No conditions but that unicode/utf8's two tables are as their initialisers lay them.
  The iterator of layer 11 (hist): all operations of a history, with their places: what it hands on to any loop's body that keeps what lay. No conditions.
  The walk of layer 11 (hist), the program: whether each session has a transaction, and each key an operation. No conditions.
  Layer 13 (inner) in plain words: a transaction's own values, outer reads, what it leaves, bad reads, writers; no program in sight. No conditions.
  Layer 11's reference in plain words: numbers marked as used. No conditions.
  The laws of layer 4 (cell) walked: each returns true, whatever it is given. No conditions.
-/
import Derived.Test.YtdfegfagedeilaaGreatDoorXxPaX
namespace Go.Proofs.YtdfegfagedeilaaGreatDoor
section
open Go.RowKit Go.Lib
theorem aVp {w : World} {b : Nat} {v0 v1 v2 : Value} (tmps : Array Value) (v3 v4 : Value) (h : Blk w b 25 [v0, v1, v2]) (h2 : tmps.getD 2 undef = .pointer (some ⟨b, 0, none⟩)) (h3 : tmps.getD 3 undef = v3) (h4 : tmps.getD 4 undef = v4) :
  (results Tryz.f44 tmps).run Tryz.prog w = .ok (.tuple #[.agg #[v0, v1, v2], v3, v4]) w := by
 have hr : w.rangeAt b 0 [v0, v1, v2] := fun j v hj => (by rw [Nat.zero_add]; exact h.cell j hj);have hl := run_loadVar_mid (P := Tryz.prog) w b 0 25 [v0, v1, v2] _ hr Tryz.underlying25 rfl (by kernel_rfl);rw [← h3, ← h4];exact uB Tryz.results44 tmps _ w _ _ h2 hl
theorem bBw {w : World} {gr : Nat} {v0 v1 v2 : Value} {h : aI} (hB : aBk w gr 25 [.slice none 0 0, .slice none 0 0, .slice none 0 0]) (hv : cJ w (.agg #[v0, v1, v2]) h) :
  cJ (((w.setCell ⟨gr, 0, none⟩ v0).setCell ⟨gr, 1, none⟩ v1).setCell ⟨gr, 2, none⟩ v2) (.agg #[v0, v1, v2]) h := by
 obtain ⟨q0, c0, q1, c1, q2, c2, e⟩ := bTy hv;injection e with e;have e' : [v0, v1, v2] = [.slice q0 h.1.length c0, .slice q1 h.2.1.length c1, .slice q2 h.2.2.length c2] := congrArg Array.toList e;injection e' with e0 e';injection e' with e1 e';injection e' with e2 _;subst e0 e1 e2;have b1 := hB.set 0 q0 h.1.length c0;have b2 := b1.set 1 q1 h.2.1.length c1;exact bTv b2 2 _ (bTv b1 1 _ (bTv hB 0 _ hv))
set_option maxRecDepth 100000 in
set_option maxHeartbeats 2000000 in
theorem bUu (l : List UInt8) (hl : l.length ≤ 1000000) (w : World) (hT : Lib.Utf8Tabs 1 2 w) (hm : HasMax w) (hE : EvTab w) :
  Calls Tryz.prog 44 #[.string (bs l)] w fun e w' => ∃ hv, e = .returned (.tuple #[hv, .int .i64 (wJ l).2.1, .int .i64 (wJ l).2.2]) ∧ cJ w' hv (wJ l).1 ∧ Below w.heap.size w w' := by
 have hal := (Below.refl w.heap.size w).alloc (Nat.le_refl _) (.cells #[.slice none 0 0, .slice none 0 0, .slice none 0 0] 25);have HLg := lhid (bHx l hl (w.alloc (.cells #[.slice none 0 0, .slice none 0 0, .slice none 0 0] 25)) (Utf8Tabs_below hT hal) (hm.below hal) (hE.below hal));have HT := lhid hT;have HG := lhid (aIp l);have HSh := lhid (aTc l);have HErr := lhid (fun (L : List aV) n e (h : mL l = (L, n, e)) (he : e ≠ 0) => aOd h he);have HOk := lhid (fun (L : List aV) n (h : mL l = (L, n, 0)) => aSv h);have HAL := lhid hal;have HR1 := lhid (Blk.new w 25 [.slice none 0 0, .slice none 0 0, .slice none 0 0]);obtain ⟨⟨L, n, er⟩, hr⟩ : ∃ r, mL l = r := ⟨_, rfl⟩;rw [hr] at HLg HG HSh HErr HOk;clear hr hT hm hE hal;go_enter Tryz.func44, Tryz.ntmps44;(go_wp2_with fail);refine HLg.out.mono ?_;rintro e w1 ⟨v, rfl, hev, hb1⟩;have hbw1 := aB HAL.out hb1;have HR2 := lhid (HR1.out.later hb1);have HB1 := lhid hbw1;clear hb1 HLg HR1 HAL;dsimp only at hev HG HSh ⊢;obtain ⟨gr, hgr⟩ : ∃ g, w.heap.size = g := ⟨_, rfl⟩;rw [hgr] at HR2 HB1;(try simp only [hgr]);by_cases her : er = 0
 ·subst her;have hP := HOk.out _ _ rfl;have HH := lhid (aRg v L hev HG.out.1 HSh.out (Utf8Tabs_below HT.out (show Below w.heap.size w w1 by rw [hgr]; exact HB1.out)));obtain ⟨⟨h, n', e'⟩, hh⟩ : ∃ r, sZ L = r := ⟨_, rfl⟩;rw [hh] at HH hP;have HP := lhid hP;clear hh hev HErr HOk hP;(go_wp2_with fail);refine HH.out.mono ?_;rintro e w2 ⟨hv, rfl, hhv, hb2⟩;(try dsimp only at hhv);have HR3 := lhid (HR2.out.later hb2);have hb3 : Below gr w w2 := HB1.out.trans (hb2.mono (by have := HB1.out.size; omega));obtain ⟨p0, c0, p1, c1, p2, c2, rfl⟩ := bTy hhv;have HS := lhid (bBw (gr := gr) ⟨HR3.out, by intro x hx; simp at hx; exact ⟨none, 0, 0, hx⟩⟩ hhv);have r0 := HR3.out.cell 0 rfl;have r1 := HR3.out.cell 1 rfl;have r2 := HR3.out.cell 2 rfl;have f0 := HR3.out.frozen 0;have f1 := HR3.out.frozen 1;have f2 := HR3.out.frozen 2;have HRS := lhid (((HR3.out.set 0 (.slice p0 h.1.length c0)).set 1 (.slice p1 h.2.1.length c1)).set 2 (.slice p2 h.2.2.length c2));have HB3 := lhid (((hb3.setCell (p := ⟨gr, 0, none⟩) (Nat.le_refl _) (.slice p0 h.1.length c0)).setCell (p := ⟨gr, 1, none⟩) (Nat.le_refl _) (.slice p1 h.2.1.length c1)).setCell (p := ⟨gr, 2, none⟩) (Nat.le_refl _) (.slice p2 h.2.2.length c2));clear hhv hb2 hb3 HH;go_wp21;rw [HP.out];refine bodyPost_ret (aVp _ _ _ HRS.out rfl rfl rfl) rfl ⟨_, rfl, HS.out, ?_⟩;rw [hgr];exact HB3.out
 ·have hfb : (er != 0) = true := (by simpa using her);have HE := lhid (HErr.out _ _ _ rfl her);have r0 := HR2.out.cell 0 rfl;have r1 := HR2.out.cell 1 rfl;have r2 := HR2.out.cell 2 rfl;have f0 := HR2.out.frozen 0;have f1 := HR2.out.frozen 1;have f2 := HR2.out.frozen 2;have HRS := lhid (((HR2.out.set 0 (.slice none 0 0)).set 1 (.slice none 0 0)).set 2 (.slice none 0 0));have hb3 := HB1.out;clear her hev HErr HOk;go_wp21;rw [HE.out];refine bodyPost_ret (aVp _ _ _ HRS.out rfl rfl rfl) rfl ⟨_, rfl, aCu _, ?_⟩;rw [hgr];exact ((hb3.setCell (Nat.le_refl _) _).setCell (Nat.le_refl _) _).setCell (Nat.le_refl _) _
end
section
open Go.RowKit Go.Lib
section
attribute [local go_sem] aJn oU wY aAw oT qZ
set_option maxHeartbeats 2000000 in
theorem bFy (k n : Int) (w : World) :
  Calls Tryz.prog 78 #[.agg #[.int .i64 k, .int .i64 n]] w fun e w' => e = .returned (.bool (kW k n)) ∧ Below w.heap.size w w' := by
 rcases qL k n with ⟨rfl, h⟩ | ⟨rfl, rfl, h⟩ | ⟨rfl, rfl, h⟩ | ⟨rfl, h1, h2, h⟩ | ⟨rfl, h1, h2, h⟩ | ⟨h1, h2, h3, h4, h⟩ <;> rw [h] <;> clear h
 all_goals
  go_enter Tryz.func78, Tryz.ntmps78
  go_wp2
  go_ret;exact ⟨rfl, by go_grown⟩
set_option maxHeartbeats 2000000 in
theorem bAb (k n : Int) (w : World) :
  Calls Tryz.prog 62 #[.agg #[.int .i64 k, .int .i64 n]] w fun e w' => e = .returned (.bool (kW k n)) ∧ Below w.heap.size w w' := by
 rcases qL k n with ⟨rfl, h⟩ | ⟨rfl, rfl, h⟩ | ⟨rfl, rfl, h⟩ | ⟨rfl, h1, h2, h⟩ | ⟨rfl, h1, h2, h⟩ | ⟨h1, h2, h3, h4, h⟩ <;> rw [h] <;> clear h
 all_goals
  go_enter Tryz.func62, Tryz.ntmps62
  go_wp2
  go_ret;exact ⟨rfl, by go_grown⟩
end
set_option maxHeartbeats 1000000 in
theorem aFu (n : Int) (p : Option Addr) (m c : Nat) (w : World) :
  Calls Tryz.prog 76 #[.int .i64 n, .slice p m c] w fun e w' => e = .returned (.bool (dV n m)) ∧ w = w' := by
 unfold dV;by_cases h : 0 ≤ n
 ·have e1 : decide (0 ≤ n) = true := decide_eq_true h;rw [e1, Bool.true_and];go_enter Tryz.func76, Tryz.ntmps76
  go_wp2
  go_ret;exact ⟨rfl, rfl⟩
 ·have e1 : decide (0 ≤ n) = false := decide_eq_false h;rw [e1, Bool.false_and];go_enter Tryz.func76, Tryz.ntmps76
  go_wp2
  go_ret;exact ⟨rfl, rfl⟩
set_option maxRecDepth 100000 in
set_option maxHeartbeats 2000000 in
theorem bJd (v0 v1 v2 sv : Value) (S : List (List UInt8)) (t : bB) (w : World) (h0 : bF w v0 S) (hs : qF w sv t.2.2) :
  Calls Tryz.prog 54 #[.agg #[v0, v1, v2], .agg #[.int .i64 t.1, .int .i64 t.2.1, sv]] w fun e w' => e = .returned (.bool (bQ S.length t)) ∧ Below w.heap.size w w' := by
 obtain ⟨p0, c0, rfl, -⟩ := h0;obtain ⟨ps, cs, rfl, -⟩ := hs;obtain ⟨s, f, l⟩ := t;simp only [bQ];have HW := lhid (aFu s p0 S.length c0);generalize l.length = q;generalize dV s S.length = I at *
 cases I with
 | false =>
  go_enter Tryz.func54, Tryz.ntmps54;(go_wp2_with (first | (go_at_call 76; refine (HW.out _).mono ?_; rintro e w1 ⟨rfl, rfl⟩)));go_ret;exact ⟨rfl, by go_grown⟩
 | true =>
  by_cases h1 : 1 ≤ f
  ·have e1 : decide (1 ≤ f) = true := decide_eq_true h1;by_cases h2 : f ≤ 3
   ·have e2 : decide (f ≤ 3) = true := decide_eq_true h2;rw [e1, e2];go_enter Tryz.func54, Tryz.ntmps54;(go_wp2_with (first | (go_at_call 76; refine (HW.out _).mono ?_; rintro e w1 ⟨rfl, rfl⟩)));go_ret;exact ⟨by simp; try omega, by go_grown⟩
   ·have e2 : decide (f ≤ 3) = false := decide_eq_false h2;rw [e1, e2];go_enter Tryz.func54, Tryz.ntmps54;(go_wp2_with (first | (go_at_call 76; refine (HW.out _).mono ?_; rintro e w1 ⟨rfl, rfl⟩)));go_ret;exact ⟨rfl, by go_grown⟩
  ·have e1 : decide (1 ≤ f) = false := decide_eq_false h1;rw [e1];go_enter Tryz.func54, Tryz.ntmps54;(go_wp2_with (first | (go_at_call 76; refine (HW.out _).mono ?_; rintro e w1 ⟨rfl, rfl⟩)));go_ret;exact ⟨rfl, by go_grown⟩
theorem aHa {w w2 : World} {A B : Obj} (h : Below (w.heap.size + 1 + 1) ((w.alloc A).alloc B) w2) : Below w.heap.size w w2 :=
 aB (((Below.refl _ _).alloc (Nat.le_refl _) A).alloc (by simp) B) (by simpa using h)
set_option maxRecDepth 100000 in
set_option maxHeartbeats 2000000 in
theorem bKw (v0 v1 v2 : Value) (K : List (List UInt8)) (o : OpM) (w : World) (h1 : bF w v1 K) :
  Calls Tryz.prog 56 #[.agg #[v0, v1, v2], .agg #[.bool o.1, .int .i64 o.2.1, .int .i64 o.2.2.1, .int .i64 o.2.2.2]] w fun e w' => e = .returned (.bool (jS K.length o)) ∧ Below w.heap.size w w' := by
 obtain ⟨p1, c1, rfl, -⟩ := h1;obtain ⟨b, k, kd, n⟩ := o;simp only [jS];have HW := lhid (aFu k p1 K.length c1);have HM := lhid (bFy kd n);generalize dV k K.length = I at *;generalize kW kd n = M at *
 cases I with
 | false =>
  go_enter Tryz.func56, Tryz.ntmps56;(go_wp2_with (first | (go_at_call 76; refine (HW.out _).mono ?_; rintro e w1 ⟨rfl, rfl⟩)));go_ret;exact ⟨rfl, by go_grown⟩
 | true =>
  cases M with
  | false =>
   go_enter Tryz.func56, Tryz.ntmps56;(go_wp2_with (first | (go_at_call 76; refine (HW.out _).mono ?_; rintro e w1 ⟨rfl, rfl⟩) | (go_at_call 78; refine (HM.out _).mono ?_; rintro e w2 ⟨rfl, hb2⟩)));go_ret;exact ⟨rfl, bel⟩
  | true =>
   have ext : ∀ (w2 : World) (hb2 : Below (w.heap.size + 1 + 1) ((w.alloc (.cells #[v0, .slice p1 K.length c1, v2] 25)).alloc (.cells #[.bool b, .int .i64 k, .int .i64 kd, .int .i64 n] 82)) w2), w2.cell? ⟨w.heap.size + 1, 0, none⟩ = some (.bool b) ∧ w2.cell? ⟨w.heap.size + 1, 2, none⟩ = some (.int .i64 kd) := fun w2 hb2 => by
    have e0 := hb2.cell (p := ⟨w.heap.size + 1, 0, none⟩) (by show w.heap.size + 1 < w.heap.size + 1 + 1; omega);have e2 := hb2.cell (p := ⟨w.heap.size + 1, 2, none⟩) (by show w.heap.size + 1 < w.heap.size + 1 + 1; omega);rw [e0, e2];have hr := heap_alloc_new (w.alloc (.cells #[v0, .slice p1 K.length c1, v2] 25)) (.cells #[.bool b, .int .i64 k, .int .i64 kd, .int .i64 n] 82);rw [show (w.alloc (.cells #[v0, .slice p1 K.length c1, v2] 25)).heap.size = w.heap.size + 1 by simp] at hr;exact ⟨by rw [cell_of_row _ _ 0 _ _ (0, 0) hr]; rfl, by rw [cell_of_row _ _ 2 _ _ (0, 0) hr]; rfl⟩
   cases b with
   | false =>
    go_enter Tryz.func56, Tryz.ntmps56;(go_wp2_with (first | (go_at_call 76; refine (HW.out _).mono ?_; rintro e w1 ⟨rfl, rfl⟩) | (go_at_call 78; refine (HM.out _).mono ?_; rintro e w2 ⟨rfl, hb2⟩; try simp at hb2; obtain ⟨x1, x2⟩ := ext w2 hb2)));go_ret;exact ⟨rfl, aHa hb2⟩
   | true =>
    go_enter Tryz.func56, Tryz.ntmps56;(go_wp2_with (first | (go_at_call 76; refine (HW.out _).mono ?_; rintro e w1 ⟨rfl, rfl⟩) | (go_at_call 78; refine (HM.out _).mono ?_; rintro e w2 ⟨rfl, hb2⟩; try simp at hb2; obtain ⟨x1, x2⟩ := ext w2 hb2)));go_ret;exact ⟨by simp, aHa hb2⟩
end
section
open Go.RowKit Go.Lib
def cU (h : aI) : Prop := h.1.length ≤ 1000 ∧ h.2.1.length ≤ 1000 ∧ h.2.2.length ≤ 1000 ∧ (∀ x ∈ h.1, x.length ≤ 1000000) ∧ (∀ x ∈ h.2.1, x.length ≤ 1000000) ∧ ∀ t ∈ h.2.2, t.2.2.length ≤ 1000
def nG (w : World) (B : Nat) (v0 v1 v2 : Value) : Prop := w.cell? ⟨B, 0, none⟩ = some v0 ∧ w.cell? ⟨B, 1, none⟩ = some v1 ∧ w.cell? ⟨B, 2, none⟩ = some v2
theorem nG.below {w w' : World} {B : Nat} {v0 v1 v2 : Value} (h : nG w B v0 v1 v2) (hb : Below w.heap.size w w') : nG w' B v0 v1 v2 := ⟨cell_later hb h.1, cell_later hb h.2.1, cell_later hb h.2.2⟩
theorem qT (w : World) (v0 v1 v2 : Value) (t : TypeId) : nG (w.alloc (.cells #[v0, v1, v2] t)) w.heap.size v0 v1 v2 := by
 have hr := heap_alloc_new w (.cells #[v0, v1, v2] t);exact ⟨by rw [cell_of_row _ _ 0 _ _ (0, 0) hr]; rfl, by rw [cell_of_row _ _ 1 _ _ (0, 0) hr]; rfl, by rw [cell_of_row _ _ 2 _ _ (0, 0) hr]; rfl⟩
set_option maxRecDepth 100000 in
set_option maxHeartbeats 2000000 in
theorem aXd (v0 v1 v2 : Value) (h : aI) (w : World) (h0 : bF w v0 h.1) (h1 : bF w v1 h.2.1) (h2 : kM w v2 h.2.2) (hm : cU h) (hT : Lib.Utf8Tabs 1 2 w) :
  Calls Tryz.prog 51 #[.agg #[v0, v1, v2]] w fun e w' => e = .returned (.bool (mV h)) ∧ Below w.heap.size w w' := by
 obtain ⟨m1, m2, -, m3, m4, -⟩ := hm;have H1 := lhid (fun w' (hw : bF w' v0 h.1) hT' => aKu w' v0 h.1 hw (by omega) m3 hT');have H2 := lhid (fun w' (hw : bF w' v1 h.2.1) hT' => aKu w' v1 h.2.1 hw (by omega) m4 hT');have HT := lhid hT;have T0 := lhid h0;have T1 := lhid h1;obtain ⟨p0, c0, e0, -⟩ := h0;obtain ⟨p1, c1, e1, -⟩ := h1;obtain ⟨p2, c2, e2, -⟩ := h2;unfold mV;generalize h.1.length = n0 at *;generalize h.2.1.length = n1 at *;generalize h.2.2.length = n2 at *;generalize isT h.1 = I at *;generalize isT h.2.1 = J at *;have E0 := lhid e0;have E1 := lhid e1;have E2 := lhid e2;clear e0 e1 e2;have hal := (Below.refl w.heap.size w).alloc (Nat.le_refl _) (.cells #[v0, v1, v2] 25);have h3 := qT w v0 v1 v2 25;have HA := lhid hal;have H3 := lhid h3;clear m3 m4 hT hal h3
 cases I with
 | false =>
  go_enter Tryz.func51, Tryz.ntmps51;(go_wp2_with fail);refine (H1.out _ (T0.out.below HA.out) (Utf8Tabs_below HT.out HA.out)).mono ?_;rintro e w1 ⟨rfl, hb1⟩;(go_wp2_with fail);go_ret;exact ⟨rfl, aB HA.out hb1⟩
 | true =>
  cases J with
  | false =>
   go_enter Tryz.func51, Tryz.ntmps51;(go_wp2_with fail);refine (H1.out _ (T0.out.below HA.out) (Utf8Tabs_below HT.out HA.out)).mono ?_;rintro e w1 ⟨rfl, hb1⟩;obtain ⟨q0, q1, q2⟩ := H3.out.below hb1;have hbw := aB HA.out hb1;clear hb1;(go_wp2_with fail);refine (H2.out _ (T1.out.below hbw) (Utf8Tabs_below HT.out hbw)).mono ?_;rintro e w2 ⟨rfl, hb2⟩;(go_wp2_with fail);go_ret;exact ⟨rfl, aB hbw hb2⟩
  | true =>
   by_cases c1 : n0 ≤ 20
   ·by_cases c2 : n1 ≤ 40
    ·have d1 : decide (n0 ≤ 20) = true := decide_eq_true c1;have i1 : decide ((n0 : Int) ≤ 20) = true := decide_eq_true (by omega);have d2 : decide (n1 ≤ 40) = true := decide_eq_true c2;have i2 : decide ((n1 : Int) ≤ 40) = true := decide_eq_true (by omega);rw [d1, d2];go_enter Tryz.func51, Tryz.ntmps51;(go_wp2_with fail);refine (H1.out _ (T0.out.below HA.out) (Utf8Tabs_below HT.out HA.out)).mono ?_;rintro e w1 ⟨rfl, hb1⟩;obtain ⟨q0, q1, q2⟩ := H3.out.below hb1;have hbw := aB HA.out hb1;have H4 := lhid (H3.out.below hb1);clear hb1;(go_wp2_with fail);refine (H2.out _ (T1.out.below hbw) (Utf8Tabs_below HT.out hbw)).mono ?_;rintro e w2 ⟨rfl, hb2⟩;obtain ⟨r0, r1, r2⟩ := H4.out.below hb2;have e0 := E0.out;have e1 := E1.out;have e2 := E2.out;subst e0 e1 e2;have hbw2 := aB hbw hb2;clear hb2 q0 q1 q2 hbw;(go_wp2_with fail);go_ret;exact ⟨by simp; try omega, hbw2⟩
    ·have d1 : decide (n0 ≤ 20) = true := decide_eq_true c1;have i1 : decide ((n0 : Int) ≤ 20) = true := decide_eq_true (by omega);have d2 : decide (n1 ≤ 40) = false := decide_eq_false c2;have i2 : decide ((n1 : Int) ≤ 40) = false := decide_eq_false (by omega);rw [d1, d2];go_enter Tryz.func51, Tryz.ntmps51;(go_wp2_with fail);refine (H1.out _ (T0.out.below HA.out) (Utf8Tabs_below HT.out HA.out)).mono ?_;rintro e w1 ⟨rfl, hb1⟩;obtain ⟨q0, q1, q2⟩ := H3.out.below hb1;have hbw := aB HA.out hb1;have H4 := lhid (H3.out.below hb1);clear hb1;(go_wp2_with fail);refine (H2.out _ (T1.out.below hbw) (Utf8Tabs_below HT.out hbw)).mono ?_;rintro e w2 ⟨rfl, hb2⟩;obtain ⟨r0, r1, r2⟩ := H4.out.below hb2;have e0 := E0.out;have e1 := E1.out;have e2 := E2.out;subst e0 e1 e2;have hbw2 := aB hbw hb2;clear hb2 q0 q1 q2 hbw;(go_wp2_with fail);go_ret;exact ⟨rfl, hbw2⟩
   ·have d1 : decide (n0 ≤ 20) = false := decide_eq_false c1;have i1 : decide ((n0 : Int) ≤ 20) = false := decide_eq_false (by omega);rw [d1];go_enter Tryz.func51, Tryz.ntmps51;(go_wp2_with fail);refine (H1.out _ (T0.out.below HA.out) (Utf8Tabs_below HT.out HA.out)).mono ?_;rintro e w1 ⟨rfl, hb1⟩;obtain ⟨q0, q1, q2⟩ := H3.out.below hb1;have hbw := aB HA.out hb1;have H4 := lhid (H3.out.below hb1);clear hb1;(go_wp2_with fail);refine (H2.out _ (T1.out.below hbw) (Utf8Tabs_below HT.out hbw)).mono ?_;rintro e w2 ⟨rfl, hb2⟩;obtain ⟨r0, r1, r2⟩ := H4.out.below hb2;have e0 := E0.out;have e1 := E1.out;have e2 := E2.out;subst e0 e1 e2;have hbw2 := aB hbw hb2;clear hb2 q0 q1 q2 hbw;(go_wp2_with fail);go_ret;exact ⟨rfl, hbw2⟩
set_option maxRecDepth 100000 in
set_option maxHeartbeats 1000000 in
theorem bDn (v0 v1 v2 sv : Value) (S : List (List UInt8)) (t : bB) (B : Nat) (w : World) (hB : nG w B v0 v1 v2) (h0 : bF w v0 S) (hs : qF w sv t.2.2) :
  Calls Tryz.prog 53 #[.agg #[.int .i64 t.1, .int .i64 t.2.1, sv], .pointer (some ⟨B, 0, none⟩)] w fun e w' => e = .returned (.bool (!bQ S.length t)) ∧ Below w.heap.size w w' := by
 have H1 := lhid (fun w' (a : bF w' v0 S) (b : qF w' sv t.2.2) => bJd v0 v1 v2 sv S t w' a b);have hal := (Below.refl w.heap.size w).alloc (Nat.le_refl _) (.cells #[.int .i64 t.1, .int .i64 t.2.1, sv] 67);have HA := lhid hal;have T0 := lhid h0;have TS := lhid hs;obtain ⟨q0, q1, q2⟩ := hB.below hal;obtain ⟨a, b, l⟩ := t;simp only at H1 TS HA ⊢;clear h0 hs hB hal;go_enter Tryz.func53, Tryz.ntmps53;(go_wp2_with fail);refine (H1.out _ (T0.out.below HA.out) (TS.out.below HA.out)).mono ?_;rintro e w1 ⟨rfl, hb1⟩;(go_wp2_with fail);go_ret;exact ⟨rfl, aB HA.out hb1⟩
set_option maxRecDepth 100000 in
set_option maxHeartbeats 2000000 in
theorem aGn (v0 v1 v2 v : Value) (S : List (List UInt8)) (L : List bB) (B : Nat) (w : World) (hB : nG w B v0 v1 v2) (h0 : bF w v0 S) (hv : kM w v L) (hL : L.length ≤ 1000) :
  Calls Tryz.prog 75 #[v, .func (.func 53) #[] #[.pointer (some ⟨B, 0, none⟩)]] w fun e w' => ∃ i : Int, e = .returned (.int .i64 i) ∧ decide (0 ≤ i) = !(L.all (bQ S.length)) ∧ Below w.heap.size w w' := by
 obtain ⟨p, c, rfl, hp⟩ := hv;have HX := lhid hp;have H3 := lhid hB;have T0 := lhid h0;have en := enters_of Tryz.func53 (by kernel_rfl) rfl
 have HYes : Hid (∀ k : Nat, k < L.length → bQ S.length (L.getD k aM) = false → decide ((0 : Int) ≤ (k : Int)) = !(L.all (bQ S.length))) := lhid (fun k hk hf => by
  have : L.all (bQ S.length) = false := by
   rw [List.all_eq_false];refine ⟨L.getD k aM, ?_, by rw [hf]; exact Bool.false_ne_true⟩;have : L.getD k aM = L[k] := (by simp [hk]);rw [this];exact List.getElem_mem hk
  rw [this]
  simp)
 have HNo : Hid ((∀ k : Nat, k < L.length → bQ S.length (L.getD k aM) = true) → decide ((0 : Int) ≤ -1) = !(L.all (bQ S.length))) := lhid (fun h => by
  have : L.all (bQ S.length) = true := by
   rw [List.all_eq_true];intro x hx;obtain ⟨k, hk, e⟩ := List.getElem_of_mem hx;have := h k hk;simpa [hk, e] using this
  rw [this]
  rfl)
 generalize (!(L.all (bQ S.length))) = R at *;clear hp hB h0;go_enter Tryz.func75, Tryz.ntmps75;go_wp2_with fail
 go_loopw [8] (fun i wr => ∃ k : Nat, k ≤ L.length ∧ i = .int .i64 k ∧ (∀ j, j < k → bQ S.length (L.getD j aM) = true) ∧ Below w.heap.size w wr) (fun i _ => L.length - (RowKit.intOf i).toNat)
 case atStart => exact ⟨0, Nat.zero_le _, rfl, fun j hj => absurd hj (Nat.not_lt_zero j), Below.refl _ _⟩
 case round =>
  obtain ⟨k, hk, rfl, hn, hbw⟩ := hrel;have HN := lhid hn;clear hn;by_cases hk1 : k < L.length
  ·obtain ⟨g, sv, rfl, a1, a2, a3, a4⟩ := HX.out k hk1;have a1' := cell_later hbw a1;have a2' := cell_later hbw a2;have a3' := cell_later hbw a3;have HM := lhid (bDn v0 v1 v2 sv S (L.getD k aM) B wr (H3.out.below hbw) (T0.out.below hbw) (a4.below hbw));have HY := lhid (HYes.out k hk1)
   have HK : Hid (bQ S.length (L.getD k aM) = true → ∀ j, j < k + 1 → bQ S.length (L.getD j aM) = true) := lhid (fun h j hj => by
    by_cases hjk : j < k
    ·exact HN.out j hjk
    ·obtain rfl : j = k := by omega
     exact h)
   obtain ⟨b, hb⟩ : ∃ b, bQ S.length (L.getD k aM) = b := ⟨_, rfl⟩;rw [hb] at HM HY HK;obtain ⟨t, ht⟩ : ∃ t, L.getD k aM = t := ⟨_, rfl⟩;rw [ht] at HM a1' a2';obtain ⟨t1, t2, t3⟩ := t;simp only at HM a1' a2';clear a1 a2 a3 a4 hb ht
   cases b with
   | false =>
    (go_wp2_with (first | (go_at_call 53; refine HM.out.mono ?_; rintro e w1 ⟨rfl, hb1⟩)));go_ret;exact ⟨_, rfl, HY.out trivial, aB hbw hb1⟩
   | true =>
    (go_wp2_with (first | (go_at_call 53; refine HM.out.mono ?_; rintro e w1 ⟨rfl, hb1⟩)));go_roundw
    case rel => exact ⟨k + 1, by omega, by go_num, HK.out trivial, aB hbw hb1⟩
    case measure => simp [RowKit.intOf]; omega
  ·have hke : k = L.length := (by omega);subst hke;have H1 := lhid (HNo.out HN.out);(go_wp2_with fail);go_ret;exact ⟨_, rfl, H1.out, hbw⟩
set_option maxRecDepth 100000 in
set_option maxHeartbeats 1000000 in
theorem yF (v0 v1 v2 v : Value) (S : List (List UInt8)) (L : List bB) (B : Nat) (w : World) (hB : nG w B v0 v1 v2) (h0 : bF w v0 S) (hv : kM w v L) (hL : L.length ≤ 1000) :
  Calls Tryz.prog 52 #[v, .func (.func 53) #[] #[.pointer (some ⟨B, 0, none⟩)]] w fun e w' => e = .returned (.bool (!(L.all (bQ S.length)))) ∧ Below w.heap.size w w' := by
 have H1 := lhid (aGn v0 v1 v2 v S L B w hB h0 hv hL);generalize (!(L.all (bQ S.length))) = R at *;clear hB h0 hv hL;go_enter Tryz.func52, Tryz.ntmps52;(go_wp2_with fail);refine H1.out.mono ?_;rintro e w1 ⟨i, rfl, hi, hb1⟩;have HI := lhid hi;clear hi;(go_wp2_with fail);go_ret;refine ⟨?_, hb1⟩;rw [← HI.out];rfl
end
section
open Go.RowKit Go.Shelf Go.Lib
abbrev vW := (Nat × Nat) × OpM
def aWw (x : vW) : Array Value := #[.agg #[.int .i64 (x.1.1 : Nat), .int .i64 (x.1.2 : Nat)], .agg #[.bool x.2.1, .int .i64 x.2.2.1, .int .i64 x.2.2.2.1, .int .i64 x.2.2.2.2]]
def itT (i : Nat) (l : List OpM) (k : Nat) : List vW := (List.range k).map fun j => ((i, j), l.getD j cG)
def itH (L : List bB) (i : Nat) : List vW := (List.range i).flatMap fun a => itT a (L.getD a aM).2.2 (L.getD a aM).2.2.length
theorem xF (i : Nat) (l : List OpM) (k : Nat) : itT i l (k + 1) = itT i l k ++ [((i, k), l.getD k cG)] := by simp [itT, List.range_succ]
theorem oD (L : List bB) (i : Nat) : itH L (i + 1) = itH L i ++ itT i (L.getD i aM).2.2 (L.getD i aM).2.2.length := by simp [itH, List.range_succ]
theorem aRs (i : Nat) (l : List OpM) (k m : Nat) (h : k ≤ m) : itT i l k <+: itT i l m := by
 induction m with
 | zero =>
  obtain rfl : k = 0 := (by omega);exact List.prefix_rfl
 | succ m ih =>
  by_cases hk : k ≤ m
  ·rw [xF];exact (ih hk).trans (List.prefix_append _ _)
  ·obtain rfl : k = m + 1 := (by omega);exact List.prefix_rfl
theorem aRq (L : List bB) (i m : Nat) (h : i ≤ m) : itH L i <+: itH L m := by
 induction m with
 | zero =>
  obtain rfl : i = 0 := (by omega);exact List.prefix_rfl
 | succ m ih =>
  by_cases hk : i ≤ m
  ·rw [oD];exact (ih hk).trans (List.prefix_append _ _)
  ·obtain rfl : i = m + 1 := (by omega);exact List.prefix_rfl
theorem aHo (L : List bB) (i k : Nat) (hi : i < L.length) (hk : k ≤ (L.getD i aM).2.2.length) : itH L i ++ itT i (L.getD i aM).2.2 k <+: itH L L.length := by
 refine List.IsPrefix.trans ?_ (aRq L (i + 1) L.length hi);rw [oD];exact List.prefix_append_right_inj _ |>.2 (aRs i _ k _ hk)
theorem bMo (L : List bB) (i k : Nat) (hi : i < L.length) (hk : k < (L.getD i aM).2.2.length) : (itH L i ++ itT i (L.getD i aM).2.2 k).length < (itH L L.length).length := by
 have h := (aHo L i (k + 1) hi hk).length_le;rw [xF, ← List.append_assoc, List.length_append] at h;simp only [List.length_cons, List.length_nil] at h;omega
attribute [local go_sem] Oper.semAt_some
set_option maxHeartbeats 1000000 in
theorem aSs (F : Fence) (n : Nat) (hF : F.fn 55) (hro : F.round = none) (v0 v1 v2 : Value) (w : World) :
  CallsIn F n Tryz.prog 55 #[.agg #[v0, v1, v2]] w fun e w' => e = .returned (.func (.func 77) #[] #[.pointer (some ⟨w.heap.size, 0, none⟩)]) ∧ w' = w.alloc (.cells #[v0, v1, v2] 25) := by
 refine callsIn_of_wp Tryz.func55 rfl hF ?_ hro;simp only [Tryz.ntmps55, List.size_toArray, List.length_cons, List.length_nil, Nat.reduceAdd, Nat.reduceSub, Array.replicate_succ, Array.replicate_zero, List.push_toArray, List.append_toArray, List.nil_append, List.cons_append]
 gi_wp2
 go_ret;exact ⟨rfl, rfl⟩
set_option maxRecDepth 100000 in
set_option maxHeartbeats 4000000 in
theorem bIm (F : Fence) (n : Nat) (hF : F.fn 77) (hro : F.round = none) (hn : 1 ≤ n) (l B : Nat) (w0 : World) (v0 v1 v2 : Value) (L : List bB) (hL : L.length ≤ 1000) (ht : kM w0 v2 L) (hLo : ∀ t ∈ L, t.2.2.length ≤ 1000)
  (J Jx : List vW → World → Prop)
  (hA : ∀ pre W o, J pre W → J pre (W.alloc o))
  (hY : ∀ pre x W, J pre W → pre ++ [x] <+: itH L L.length → YieldAt F (n - 1) Tryz.prog l (aWw x) W fun e W' =>
   (e = .returned (.bool true) ∧ J (pre ++ [x]) W' ∧ Below w0.heap.size W W') ∨ (e = .returned (.bool false) ∧ Jx (pre ++ [x]) W'))
  (W : World) (hbW : Below w0.heap.size w0 W) (h3 : nG W B v0 v1 v2) (h0 : J [] W) :
  CallsIn F n Tryz.prog 77 #[.func (.yield l) #[] #[], .pointer (some ⟨B, 0, none⟩)] W fun e W' => (∃ v, e = .returned v) ∧
   ((∃ ys, ys = itH L L.length ∧ J ys W') ∨ (∃ pre, pre <+: itH L L.length ∧ Jx pre W')) := by
 obtain ⟨p, c, rfl, hp⟩ := ht;have HX := lhid hp;have HY := lhid hY;have HA := lhid hA;have HLo := lhid hLo;obtain ⟨q0, q1, q2⟩ := h3;clear hp hY hA hLo;refine callsIn_of_wp Tryz.func77 rfl hF ?_ hro;simp only [Tryz.ntmps77, List.size_toArray, List.length_cons, List.length_nil, Nat.reduceAdd, Nat.reduceSub, Array.replicate_succ, Array.replicate_zero, List.push_toArray, List.append_toArray, List.nil_append, List.cons_append]
 gi_wp2
 gi_loopw [10] (fun i wr => ∃ k : Nat, k ≤ L.length ∧ i = .int .i64 k ∧ J (itH L k) wr ∧ Below w0.heap.size w0 wr) (fun i _ => L.length - (RowKit.intOf i).toNat)
 case atStart => exact ⟨0, Nat.zero_le _, rfl, h0, hbW⟩
 case round =>
  obtain ⟨i, hi, rfl, hJs, hbw⟩ := hrel;by_cases hlt : i < L.length
  ·obtain ⟨g, sv, rfl, a1, a2, a3, ⟨p2, c2, rfl, -, hops⟩⟩ := HX.out i hlt;have a1' := cell_later hbw a1;have a2' := cell_later hbw a2;have a3' := cell_later hbw a3
   have hm : (L.getD i aM).2.2.length ≤ 1000 := HLo.out _ (by
    have : L.getD i aM = L[i] := (by simp [hlt]);rw [this]
    exact List.getElem_mem hlt)
   have HO := lhid hops;have HS := lhid (oD L i);have HP := lhid (fun k => aHo L i k hlt);obtain ⟨t, htt⟩ : ∃ t, L.getD i aM = t := ⟨_, rfl⟩;rw [htt] at a1' a2' a3' hm HO HS HP;obtain ⟨ts, tf, tl⟩ := t;simp only at a1' a2' a3' hm HO HS HP;obtain ⟨pre0, hpre0⟩ : ∃ q, itH L i = q := ⟨_, rfl⟩;rw [hpre0] at hJs HS HP;clear a1 a2 a3 hops htt hpre0
   gi_wp2
   gi_loopw [18] (fun j ws => ∃ k : Nat, k ≤ tl.length ∧ j = .int .i64 k ∧ J (pre0 ++ itT i tl k) ws ∧ Below w0.heap.size w0 ws) (fun j _ => tl.length - (RowKit.intOf j).toNat)
   case atStart => exact ⟨0, Nat.zero_le _, rfl, by simpa [itT] using HA.out _ _ _ hJs, hbw.alloc hbw.size _⟩
   case round =>
    obtain ⟨k, hk, rfl, hJk, hbk⟩ := hrel;by_cases hlt2 : k < tl.length
    ·obtain ⟨g2, rfl, b1, b2, b3, b4⟩ := HO.out k hlt2;have b1' := cell_later hbk b1;have b2' := cell_later hbk b2;have b3' := cell_later hbk b3;have b4' := cell_later hbk b4;have HS2 := lhid (xF i tl k);have hpf := HP.out (k + 1) hlt2;obtain ⟨o, ho⟩ : ∃ o, tl.getD k cG = o := ⟨_, rfl⟩;rw [ho] at b1' b2' b3' b4' HS2;rw [HS2.out, ← List.append_assoc] at hpf;obtain ⟨ow, ok, od, on⟩ := o;simp only at b1' b2' b3' b4' HS2 hpf;have HPf := lhid hpf;clear b1 b2 b3 b4 ho;have hbk2 := hbk.alloc hbk.size (.cells #[.bool ow, .int .i64 ok, .int .i64 od, .int .i64 on] 82);obtain ⟨fn, tmps, assign, body, hy, hR⟩ := HY.out _ ((i, k), (ow, ok, od, on)) (wr.alloc (.cells #[.bool ow, .int .i64 ok, .int .i64 od, .int .i64 on] 82)) (HA.out _ _ _ hJk) hpf;simp only [aWw] at hy;clear hpf
     gi_wp2
     refine hR.mono ?_;rintro e W3 (⟨rfl, hJ3, hk3⟩ | ⟨rfl, hJx3⟩)
     ·gi_wp2
      go_roundw
      case rel => exact ⟨k + 1, by omega, by go_num, by rw [HS2.out, ← List.append_assoc]; exact hJ3, hbk2.trans hk3⟩
      case measure => simp [RowKit.intOf]; omega
     ·gi_wp2
      refine bodyPost_ret (results_none rfl _ _ _) rfl ?_;exact ⟨⟨_, rfl⟩, .inr ⟨_, HPf.out, hJx3⟩⟩
    ·obtain rfl : k = tl.length := by omega
     gi_wp2
     go_roundw
     case rel => exact ⟨i + 1, by omega, by go_num, by rw [HS.out]; exact hJk, hbk⟩
     case measure => simp [RowKit.intOf]; omega
  ·obtain rfl : i = L.length := by omega
   gi_wp2
   go_end0
   exact ⟨⟨_, rfl⟩, .inl ⟨_, rfl, hJs⟩⟩
theorem aIo {α : Type} {a : List α} {x : α} {b : List α} (h : a ++ [x] <+: b) : a.length < b.length := by
 have := h.length_le;rw [List.length_append] at this;simp only [List.length_cons, List.length_nil] at this;omega
theorem aTa {α : Type} {a : List α} {x : α} {b : List α} (h : a ++ [x] <+: b) : x ∈ b := h.subset (by simp)
theorem zB (p : vW → Prop) (F : Fence) (n : Nat) (hF : F.fn 77) (hro : F.round = none) (hn : 1 ≤ n) (B : Nat) (w0 : World) (v0 v1 v2 : Value) (L : List bB) (hL : L.length ≤ 1000) (ht : kM w0 v2 L) (hLo : ∀ t ∈ L, t.2.2.length ≤ 1000)
  (hp : ∀ x ∈ itH L L.length, p x) (w : World) (hbw : Below w0.heap.size w0 w) (h3 : nG w B v0 v1 v2) :
  SeqStopsK F n Tryz.prog 77 #[.pointer (some ⟨B, 0, none⟩)] (fun x : { x : vW // p x } => aWw x.1) (Below w0.heap.size) (fun ys => ys.map (·.1) = itH L L.length) (fun pre => pre.map (·.1) <+: itH L L.length) (itH L L.length).length w := fun l J Jx W hW hJ _ hY h0 => by
 refine (bIm F n hF hro hn l B w0 v0 v1 v2 L hL ht hLo (fun pre W => ∃ q : List { x : vW // p x }, q.map (·.1) = pre ∧ J q W) (fun pre W => ∃ q : List { x : vW // p x }, q.map (·.1) = pre ∧ Jx q W)
  (fun pre W o ⟨q, e, h⟩ => ⟨q, e, hJ q W _ none h (World.grownBy_alloc W o none) (fun r e => by cases e)⟩) ?_ W (aB hbw hW) (h3.below hW) ⟨[], rfl, h0⟩).mono ?_
 ·rintro pre x W' ⟨q, rfl, hj⟩ hpf;obtain ⟨fn, tmps, assign, body, hy, hR⟩ := hY q ⟨x, hp x (aTa hpf)⟩ W' hj (by have := aIo hpf; simpa using this);refine ⟨fn, tmps, assign, body, hy, hR.mono ?_⟩;rintro e W3 (⟨he, h1, h2⟩ | ⟨he, h1⟩)
  ·exact .inl ⟨he, ⟨_, by simp, h1⟩, h2⟩
  ·exact .inr ⟨he, ⟨_, by simp, h1⟩⟩
 ·rintro e W' ⟨he, ⟨ys, rfl, q, hq, hj⟩ | ⟨pre, hpf, q, rfl, hj⟩⟩
  ·exact ⟨he, .inl ⟨q, hq, hj⟩⟩
  ·exact ⟨he, .inr ⟨q, hpf, hj⟩⟩
end
section
open Go.RowKit Go.Shelf Go.Lib
attribute [local go_sem] Oper.semAt_some
def wV (D : DataW Unit) (l : List Int) : Prop := Maps.Tidy D ∧ Maps.size D = (dY l).length ∧ ∀ x : Int, (Lit.int .i64 x).wf = true → Maps.has D (.int .i64 x) = l.contains x
theorem aPm (l : List Int) (x : Int) : (dY (l ++ [x])).length = if l.contains x then (dY l).length else (dY l).length + 1 := by
 by_cases h : l.contains x = true
 ·rw [if_pos h];have hx : x ∈ l := (by simpa using h);apply Nat.le_antisymm
  ·refine nS _ _ (jX _) fun y hy => ?_;rw [dZ] at hy ⊢;rcases List.mem_append.1 hy with h | h
   ·exact h
   ·obtain rfl : y = x := (by simpa using h);exact hx
  ·refine nS _ _ (jX _) fun y hy => ?_;rw [dZ] at hy ⊢;exact List.mem_append_left _ hy
 ·rw [if_neg h];have hx : x ∉ l := (by simpa using h);have hn : (x :: dY l).Nodup := List.nodup_cons.2 ⟨fun h => hx ((dZ _ _).1 h), jX l⟩;apply Nat.le_antisymm
  ·have := nS _ (x :: dY l) (jX (l ++ [x])) fun y hy => by
    rw [dZ] at hy;rcases List.mem_append.1 hy with h | h
    ·exact List.mem_cons_of_mem _ ((dZ _ _).2 h)
    ·obtain rfl : y = x := (by simpa using h);exact List.mem_cons_self ..
   simpa using this
  ·have := nS (x :: dY l) (dY (l ++ [x])) hn fun y hy => by
    rw [dZ];rcases List.mem_cons.1 hy with h | h
    ·subst h; simp
    ·exact List.mem_append_left _ ((dZ _ _).1 h)
   simpa using this
theorem aMw : wV (.map []) [] := ⟨⟨[], rfl, by simp⟩, rfl, fun _ _ => rfl⟩
theorem aMx {D : DataW Unit} {l : List Int} (h : wV D l) (x : Int) (hx : (Lit.int .i64 x).wf = true) (d : DataW Unit) : wV (D.put (.int .i64 x) d) (l ++ [x]) := by
 obtain ⟨h1, h2, h3⟩ := h;have hk : WideAt.IsKeyLit (.int .i64 x) := (by trivial);refine ⟨h1.put hk d, ?_, ?_⟩
 ·rw [Maps.size_put h1, h3 x hx, h2, aPm]
 ·intro y hy;by_cases e : y = x
  ·subst e;rw [Maps.has_put_same h1.isMap hk];simp
  ·rw [Maps.has_put_other (by intro e2; cases e2; exact e rfl), h3 y hy];simp [e]
def pA (L : List bB) (k : Nat) : List Int := (L.take k).map (·.1)
theorem aFc (L : List bB) (k : Nat) (hk : k < L.length) : pA L (k + 1) = pA L k ++ [(L.getD k aM).1] := by
 unfold pA;rw [List.take_add_one, List.map_append];congr 1;simp [hk]
theorem mR (L : List bB) : (itH L L.length).map (·.2) = L.flatMap (·.2.2) := by
 have h1 : ∀ (i : Nat) (l : List OpM), (itT i l l.length).map (·.2) = l := by
  intro i l;apply List.ext_getElem
  ·simp [itT]
  ·intro n h1 h2;simp [itT, h2]
 have h2 : ∀ n, n ≤ L.length → (itH L n).map (·.2) = (L.take n).flatMap (·.2.2) := by
  intro n
  induction n with
  | zero => intro _; simp [itH]
  | succ n ih =>
   intro hn;rw [oD, List.map_append, ih (by omega), h1, List.take_add_one, List.flatMap_append];congr 1;simp [show n < L.length by omega]
 have := h2 L.length (Nat.le_refl _)
 rwa [List.take_length] at this
theorem aBb (L : List bB) (hL : ∀ t ∈ L, t.2.2.length ≤ 1000) : ∀ n, n ≤ L.length → (itH L n).length ≤ n * 1000
 | 0, _ => by simp [itH]
 | n + 1, h => by
  have ih := aBb L hL n (by omega)
  have hm := hL (L.getD n aM) (by
   have : L.getD n aM = L[n] := (by simp [show n < L.length by omega]);rw [this]
   exact List.getElem_mem (by omega))
  rw [oD, List.length_append];have : (itT n (L.getD n aM).2.2 (L.getD n aM).2.2.length).length = (L.getD n aM).2.2.length := (by simp [itT]);omega
theorem aQd (w : World) : (zeroValue 3).run Tryz.prog w = .ok (.int .i64 0) w := by kernel_rfl
theorem pB {w w' : World} {B : Nat} {row : Option Nat} {v0 v1 v2 : Value} (h : nG w B v0 v1 v2) (hg : w.grownBy w' row) (hne : some B ≠ row) : nG w' B v0 v1 v2 :=
 ⟨hg.cell h.1 hne, hg.cell h.2.1 hne, hg.cell h.2.2 hne⟩
theorem lX {w : World} {B : Nat} {v0 v1 v2 : Value} (h : nG w B v0 v1 v2) (o : Obj) : nG (w.alloc o) B v0 v1 v2 := pB h (World.grownBy_alloc w o none) (by simp)
set_option maxRecDepth 100000 in
set_option maxHeartbeats 4000000 in
theorem bJj (F : Fence) (n : Nat) (hF : F.fn 57) (hF2 : F.fn 55) (hF3 : F.fn 77) (hro : F.round = none) (hn : 3 ≤ n) (v0 v1 v2 : Value) (h : aI) (w : World) (h0 : bF w v0 h.1) (h1 : bF w v1 h.2.1) (h2 : kM w v2 h.2.2) (hm : cU h)
  (hs : ∀ t ∈ h.2.2, 0 ≤ t.1 ∧ t.1 < h.1.length) (hk : ∀ o ∈ bU h, 0 ≤ o.2.1 ∧ o.2.1 < h.2.1.length) :
  CallsIn F n Tryz.prog 57 #[.agg #[v0, v1, v2]] w fun e w' => e = .returned (.bool (xU h)) ∧ Below w.heap.size w w' := by
 have h1n : 1 ≤ n := (by omega);obtain ⟨m1, m2, m3, -, -, m4⟩ := hm;have T0 := lhid h0;have T1 := lhid h1;have T2 := lhid h2;obtain ⟨p2, c2, rfl, hp⟩ := h2;obtain ⟨p0, c0, rfl, -⟩ := h0;obtain ⟨p1, c1, rfl, -⟩ := h1;have HX := lhid hp;have HM4 := lhid m4;have HS := lhid hs;have HK := lhid hk;clear hp m4 hs hk;have hmm := @run_makeMap Tryz.prog;have hm1 := World.ownsMap_made (w.alloc (.cells #[.slice p0 h.1.length c0, .slice p1 h.2.1.length c1, .slice p2 h.2.2.length c2] 25)) Tryz.prog 3 (plainElem (H := Unit) Tryz.prog 3);have hm2 := World.ownsMap_made ((w.alloc (.cells #[.slice p0 h.1.length c0, .slice p1 h.2.1.length c1, .slice p2 h.2.2.length c2] 25)).alloc (.map #[] 0)) Tryz.prog 3 (plainElem (H := Unit) Tryz.prog 3);refine callsIn_of_wp_marks Tryz.func57 rfl hF ?_ hro;simp only [Tryz.ntmps57, List.size_toArray, List.length_cons, List.length_nil, Nat.reduceAdd, Nat.reduceSub, Array.replicate_succ, Array.replicate_zero, List.push_toArray, List.append_toArray, List.nil_append, List.cons_append]
 gi_wp2
 have t0 := lX (lX (lX (qT w (.slice p0 h.1.length c0) (.slice p1 h.2.1.length c1) (.slice p2 h.2.2.length c2) 25) (.map #[] 0)) (.map #[] 0)) (.cells #[.map (some (w.heap.size + 1 + 1))] 68);have b0 := Boxed.new (((w.alloc (.cells #[.slice p0 h.1.length c0, .slice p1 h.2.1.length c1, .slice p2 h.2.2.length c2] 25)).alloc (.map #[] 0)).alloc (.map #[] 0)) 68 (.map (some (w.heap.size + 1 + 1)))
 have hB0 : Below w.heap.size w ((((w.alloc (.cells #[.slice p0 h.1.length c0, .slice p1 h.2.1.length c1, .slice p2 h.2.2.length c2] 25)).alloc (.map #[] 0)).alloc (.map #[] 0)).alloc (.cells #[.map (some (w.heap.size + 1 + 1))] 68)) :=
  ((((Below.refl _ w).alloc (Nat.le_refl _) _).alloc (by simp) _).alloc (by simp; omega) _).alloc (by simp; omega) _
 simp only [World.size_alloc] at hm1 hm2 b0;replace hm1 := (hm1.alloc (.map #[] 0)).alloc (.cells #[.map (some (w.heap.size + 1 + 1))] 68);replace hm2 := hm2.alloc (.cells #[.map (some (w.heap.size + 1 + 1))] 68);obtain ⟨W0, hW0⟩ : ∃ W0, (((w.alloc (.cells #[.slice p0 h.1.length c0, .slice p1 h.2.1.length c1, .slice p2 h.2.2.length c2] 25)).alloc (.map #[] 0)).alloc (.map #[] 0)).alloc (.cells #[.map (some (w.heap.size + 1 + 1))] 68) = W0 := ⟨_, rfl⟩;rw [hW0] at t0 b0 hB0 hm1 hm2 ⊢;clear hW0 hmm
 gi_loopw [14] (fun i wr => ∃ (k : Nat) (D : DataW Unit), k ≤ h.2.2.length ∧ i = .int .i64 k ∧ wr.ownsMap Tryz.prog 3 (plainElem (H := Unit) Tryz.prog 3) (w.heap.size + 1) k D ∧ wV D (pA h.2.2 k) ∧
   wr.ownsMap Tryz.prog 3 (plainElem (H := Unit) Tryz.prog 3) (w.heap.size + 1 + 1) 0 (.map []) ∧ Boxed wr (w.heap.size + 1 + 1 + 1) 68 (.map (some (w.heap.size + 1 + 1))) ∧ nG wr w.heap.size (.slice p0 h.1.length c0) (.slice p1 h.2.1.length c1) (.slice p2 h.2.2.length c2) ∧ Below w.heap.size w wr)
  (fun i _ => h.2.2.length - (RowKit.intOf i).toNat)
 case atStart => exact ⟨0, _, Nat.zero_le _, rfl, hm1, aMw, hm2, b0, t0, hB0⟩
 case round =>
  obtain ⟨k, D, hk, rfl, o1, k1, o2, bx, th, hbw⟩ := hrel;by_cases hlt : k < h.2.2.length
  ·obtain ⟨g, sv, rfl, a1, a2, a3, ⟨p3, c3, rfl, -⟩⟩ := HX.out k hlt;have a1' := cell_later hbw a1;have a2' := cell_later hbw a2;have a3' := cell_later hbw a3
   have hrange := HS.out (h.2.2.getD k aM) (by
    have : h.2.2.getD k aM = h.2.2[k] := (by simp [hlt]);rw [this]
    exact List.getElem_mem hlt)
   have HN := lhid (aFc h.2.2 k hlt);obtain ⟨t, ht⟩ : ∃ t, h.2.2.getD k aM = t := ⟨_, rfl⟩;rw [ht] at a1' a2' a3' hrange HN;obtain ⟨ts, tf, tl⟩ := t;simp only at a1' a2' a3' hrange HN;have hwf : (Lit.int .i64 ts).wf = true := WalkArith.wf_i64 (by omega);have hkey := Maps.keyOf_int_mk Tryz.underlying3 hwf;have HK1 := lhid (fun d => aMx k1 ts hwf d);clear a1 a2 a3 ht k1;have o1' := o1.alloc (.cells #[.int .i64 ts, .int .i64 tf, .slice p3 tl.length c3] 67)
   gi_wp2_with (first
    | (gi_at_lookup; refine wpListIn_lookup_own_int _ rfl _ _ 68 rfl 3 3 .i64 (Maps.int_keyed Tryz.underlying3) Tryz.underlying68 Tryz.underlying3 (aQd _) (w.heap.size + 1) k _ rfl o1' _ _ rfl hkey ?_; intro c hat hwc)
    | (gi_at_mapUpdate; refine wpListIn_mapUpdate_own _ rfl _ _ _ 68 rfl 3 3 (Maps.int_keyed Tryz.underlying3) Tryz.underlying68 _ (w.heap.size + 1) k _ rfl o1' (by unfold maxLen; omega) _ _ _ rfl rfl hkey _ [] (plainElem_int Tryz.underlying3 (wrap64_wf _)) ?_; intro w1 hown1 hgrow1))
   go_roundw
   case rel =>
    have g2 : ∀ {b : Nat}, b ≠ w.heap.size + 1 → some b ≠ some (w.heap.size + 1) := fun h e => h (Option.some.inj e)
    exact ⟨k + 1, _, by omega, by go_num, hown1, by rw [HN.out]; exact HK1.out _, (o2.alloc _).kept hgrow1 (g2 (by omega)), (bx.alloc _).kept hgrow1 (g2 (by omega)), pB (lX th _) hgrow1 (g2 (by omega)),
     (hbw.alloc hbw.size _).grown hgrow1 (by have := hbw.size; simp; omega) (fun j e => by cases e; omega)⟩
   case measure => simp [RowKit.intOf]; omega
  ·have hke : k = h.2.2.length := (by omega);have e1 : pA h.2.2 k = h.2.2.map (·.1) := (by rw [hke, pA, List.take_length]);rw [e1] at k1;have HK1 := lhid k1;obtain ⟨th0, th1, th2⟩ := id th;clear e1 k1
   gi_wp2_with (gi_at_call 55; refine (aSs F (n - 1) hF2 hro _ _ _ _).mono ?_; rintro e w' ⟨rfl, rfl⟩)
   have hp : ∀ x ∈ itH h.2.2 h.2.2.length, (Lit.int .i64 x.2.2.1).wf = true := fun x hx => by
    have h5 : x.2 ∈ bU h := by
     show x.2 ∈ h.2.2.flatMap (·.2.2);rw [← mR];exact List.mem_map_of_mem hx
    have := HK.out _ h5;exact WalkArith.wf_i64 (by omega)
   have t1 := qT wr (.slice p0 h.1.length c0) (.slice p1 h.2.1.length c1) (.slice p2 h.2.2.length c2) 25;have o1' := o1.alloc (.cells #[.slice p0 h.1.length c0, .slice p1 h.2.1.length c1, .slice p2 h.2.2.length c2] 25);have o2' := o2.alloc (.cells #[.slice p0 h.1.length c0, .slice p1 h.2.1.length c1, .slice p2 h.2.2.length c2] 25);have bx' := bx.alloc (.cells #[.slice p0 h.1.length c0, .slice p1 h.2.1.length c1, .slice p2 h.2.2.length c2] 25);have th' := lX th (.cells #[.slice p0 h.1.length c0, .slice p1 h.2.1.length c1, .slice p2 h.2.2.length c2] 25);have hb' := hbw.alloc hbw.size (.cells #[.slice p0 h.1.length c0, .slice p1 h.2.1.length c1, .slice p2 h.2.2.length c2] 25);have hsz : w.heap.size + 1 + 1 + 1 < wr.heap.size := bx.lt;have hsz1 : (wr.alloc (.cells #[.slice p0 h.1.length c0, .slice p1 h.2.1.length c1, .slice p2 h.2.2.length c2] 25)).heap.size = wr.heap.size + 1 := (by simp);obtain ⟨W1, hW1⟩ : ∃ W1, wr.alloc (.cells #[.slice p0 h.1.length c0, .slice p1 h.2.1.length c1, .slice p2 h.2.2.length c2] 25) = W1 := ⟨_, rfl⟩;rw [hW1] at t1 o1' o2' bx' th' hb' hsz1 ⊢;clear hW1 o1 o2 bx th th0 th1 th2 hm1 hm2 b0 t0 hB0
   refine wpIn_rangeFunc_ownH hro h1n (gf := 77) (lb := #[.pointer (some ⟨wr.heap.size, 0, none⟩)]) rfl hF3 (enters_of Tryz.func77 (by kernel_rfl) rfl)
    (zB (fun x => (Lit.int .i64 x.2.2.1).wf = true) F (n - 1) hF3 hro (by omega) wr.heap.size w _ _ _ h.2.2 m3 T2.out HM4.out hp W1 hb' t1) belowK_t (belowK_b (by omega)) (Below.refl _ _) (fun _ => rfl)
    (fun pre W => ((∃ D2 : DataW Unit, W.ownsMap Tryz.prog 3 (plainElem (H := Unit) Tryz.prog 3) (w.heap.size + 1 + 1) pre.length D2 ∧ wV D2 (pre.map fun x => x.1.2.2.1)) ∧ W.ownsMap Tryz.prog 3 (plainElem (H := Unit) Tryz.prog 3) (w.heap.size + 1) k D ∧
     Boxed W (w.heap.size + 1 + 1 + 1) 68 (.map (some (w.heap.size + 1 + 1))) ∧ nG W w.heap.size (.slice p0 h.1.length c0) (.slice p1 h.2.1.length c1) (.slice p2 h.2.2.length c2)) ∧ Below w.heap.size w W)
    (fun _ _ _ => False)
    (OwnFrom.and (fun s A B row hs hg hr => by
      obtain ⟨⟨D2, q1, q2⟩, q3, q4, q5⟩ := hs;have hne : ∀ b, b < W1.heap.size → some b ≠ row := fun b hb e => by have := (hr b e.symm).1; omega
      exact ⟨⟨D2, q1.kept hg (hne _ (by omega)), q2⟩, q3.kept hg (hne _ (by omega)), q4.kept hg (hne _ (by omega)), pB q5 hg (hne _ (by omega))⟩) (ownFrom_below (Nat.le_refl _) (by omega)))
    (fun _ _ _ _ _ hs _ _ => hs)
    ⟨⟨⟨_, o2', aMw⟩, o1', bx', th'⟩, hb'⟩
    (fun x a' W => ∃ Bx, w.heap.size + 1 + 1 + 1 < Bx ∧ W.heap[Bx]? = some (.cells #[.bool x.1.2.1, .int .i64 x.1.2.2.1, .int .i64 x.1.2.2.2.1, .int .i64 x.1.2.2.2.2] 82 (0, 0)) ∧ a' = { tmps := #[.agg #[.slice p0 h.1.length c0, .slice p1 h.2.1.length c1, .slice p2 h.2.2.length c2], .pointer (some ⟨w.heap.size, 0, none⟩), .bool false, .map (some (w.heap.size + 1)), .pointer (some ⟨w.heap.size + 1 + 1 + 1, 0, none⟩), undef, u6, undef, .pointer (some ⟨Bx, 0, none⟩), .map (some (w.heap.size + 1)), .map (some (w.heap.size + 1 + 1)), .pointer (some ⟨w.heap.size, 2, none⟩), .slice p2 h.2.2.length c2, .int .i64 (h.2.2.length : Nat), .int .i64 (h.2.2.length : Nat), .bool false, u16, u17, u18, u19, u20, u21, u22, u23, .agg #[.slice p0 h.1.length c0, .slice p1 h.2.1.length c1, .slice p2 h.2.2.length c2], .func (.func 77) #[] #[.pointer (some ⟨wr.heap.size, 0, none⟩)], .agg #[.int .i64 (x.1.1.1 : Nat), .int .i64 (x.1.1.2 : Nat)], .agg #[.bool x.1.2.1, .int .i64 x.1.2.2.1, .int .i64 x.1.2.2.2.1, .int .i64 x.1.2.2.2.2], undef, undef, undef, undef, undef, undef, undef, undef, undef, undef, undef, undef, undef, undef, undef, undef, undef, undef, undef], defers := [] })
    (fun x a' _ X Y row hs hg hr => by
     obtain ⟨Bx, r1, r2, r3⟩ := hs
     exact ⟨Bx, r1, (hg.block Bx (Array.getElem?_eq_some_iff.1 r2).1 (fun e => by obtain ⟨-, o, ho, hc⟩ := hr Bx e.symm; rw [r2] at ho; cases ho; cases hc)).trans r2, r3⟩)
    ?assign ?body ?done ?stop
   case assign =>
    rintro l pre x W K ⟨⟨⟨D2, q1, q2⟩, q3, q4, q5⟩, hB⟩ hK;simp only [aWw]
    gi_wp2
    exact hK _ _ ((KeepsOthers.alloc _ _).from _) ((Below.refl _ W).alloc hB.size _) ⟨⟨⟨D2, q1.alloc _, q2⟩, q3.alloc _, q4.alloc _, lX q5 _⟩, hB.alloc hB.size _⟩ ⟨W.heap.size, q4.lt, heap_alloc_new W _, rfl⟩
   case body =>
    rintro l pre x a' W hl - ⟨⟨⟨D2, q1, q2⟩, q3, q4, q5⟩, hB⟩ ⟨Bx, hBx, bX, rfl⟩ hlt2;have cB := q4.cell;have cX : W.cell? ⟨Bx, 1, none⟩ = some (.int .i64 x.1.2.2.1) := (by rw [cell_of_row W Bx 1 _ _ (0, 0) bX]; rfl);have hkey := Maps.keyOf_int_mk Tryz.underlying3 x.2;have hN := aBb h.2.2 HM4.out h.2.2.length (Nat.le_refl _);have hK2 := lhid (fun d => aMx q2 _ x.2 d);clear q2
    gi_wp2_with (first
     | (gi_at_lookup; refine wpListIn_lookup_own_int _ rfl _ _ 68 rfl 3 3 .i64 (Maps.int_keyed Tryz.underlying3) Tryz.underlying68 Tryz.underlying3 (aQd _) (w.heap.size + 1 + 1) pre.length _ rfl q1 _ _ rfl hkey ?_; intro c hat hwc)
     | (gi_at_mapUpdate; refine wpListIn_mapUpdate_own _ rfl _ _ _ 68 rfl 3 3 (Maps.int_keyed Tryz.underlying3) Tryz.underlying68 _ (w.heap.size + 1 + 1) pre.length _ rfl q1 (by unfold maxLen; omega) _ _ _ rfl rfl hkey _ [] (plainElem_int Tryz.underlying3 (wrap64_wf _)) ?_; intro w1 hown1 hgrow1))
    have g2 : ∀ {b : Nat}, b ≠ w.heap.size + 1 + 1 → some b ≠ some (w.heap.size + 1 + 1) := fun h e => h (Option.some.inj e);have hgb : ∀ {A : World}, Below w.heap.size A W → Below w.heap.size A w1 := fun hA => hA.grown hgrow1 hB.size (fun j e => by cases e; omega);exact ⟨KeepsFrom.of_grownBy hgrow1 (fun j e => by cases e; omega), hgb (Below.refl _ _), ⟨⟨_, by rw [List.length_append]; exact hown1, by rw [List.map_append]; exact hK2.out _⟩, q3.kept hgrow1 (g2 (by omega)), q4.kept hgrow1 (g2 (by omega)), pB q5 hgrow1 (g2 (by omega))⟩, hgb hB⟩
   case done =>
    rintro Dd xs W hD hS ⟨⟨⟨D2, q1, q2⟩, q3, q4, q5⟩, hB⟩ hd;have l1 := q3.len Tryz.underlying68 3;have l2 := q1.len Tryz.underlying68 3;have e1 : Maps.size D = (dY (h.2.2.map (·.1))).length := HK1.out.2.1
    have e2 : Maps.size D2 = (dY ((bU h).map (·.2.1))).length := by
     rw [q2.2.1];congr 2;have h5 := congrArg (List.map (fun x : vW => x.2.2.1)) hS;rw [List.map_map] at h5;rw [show bU h = h.2.2.flatMap (·.2.2) from rfl, ← mR, List.map_map];exact h5
    have u1 := aFm h.1.length (h.2.2.map (·.1)) (fun x hx => by
     obtain ⟨t, ht, rfl⟩ := List.mem_map.1 hx
     exact HS.out t ht)
    have u2 := aFm h.2.1.length ((bU h).map (·.2.1)) (fun x hx => by
     obtain ⟨o, ho, rfl⟩ := List.mem_map.1 hx
     exact HK.out o ho)
    rw [← e1] at u1;rw [← e2] at u2;obtain ⟨N1, hN1⟩ : ∃ N1, Maps.size D = N1 := ⟨_, rfl⟩;obtain ⟨N2, hN2⟩ : ∃ N2, Maps.size D2 = N2 := ⟨_, rfl⟩;rw [hN1] at l1 u1;rw [hN2] at l2 u2;have hfin : xU h = (decide (N1 = h.1.length) && decide (N2 = h.2.1.length)) := (by rw [u1, u2]; rfl);have HU := lhid hfin;have HD := lhid hd;have HDB : Hid (Below w.heap.size w (W.putObj Dd (.deferred none))) := lhid (hB.trans (belowK_b (w := W1) (by omega) W Dd _ _ hD hd rfl rfl));obtain ⟨q50, q51, q52⟩ := q5;have cB := q4.cell;clear e1 e2 u1 u2 hN1 hN2 hfin hd hS q1 q2 q3 q4 hB;by_cases g1 : N1 = h.1.length
    ·have f1 : ((N1 : Int) == (h.1.length : Int)) = true := (by rw [g1]; exact beq_self_eq_true _);have t1' : decide (N1 = h.1.length) = true := (by simpa using g1);rw [t1', Bool.true_and] at HU;clear g1 t1';by_cases g2 : N2 = h.2.1.length
     ·have f2 : ((N2 : Int) == (h.2.1.length : Int)) = true := (by rw [g2]; exact beq_self_eq_true _);have t2' : decide (N2 = h.2.1.length) = true := (by simpa using g2);rw [t2'] at HU;clear g2 t2'
      gi_wp2
      refine ⟨by simp, .inl ⟨_, _, rfl, run_takeDeferred HD.out, ?_⟩⟩;exact ⟨_, results_tmp rfl _ _ _, by rw [HU.out]; rfl, HDB.out⟩
     ·have f2 : ((N2 : Int) == (h.2.1.length : Int)) = false := (by rw [beq_eq_false_iff_ne]; omega);have t2' : decide (N2 = h.2.1.length) = false := (by simpa using g2);rw [t2'] at HU;clear g2 t2'
      gi_wp2
      refine ⟨by simp, .inl ⟨_, _, rfl, run_takeDeferred HD.out, ?_⟩⟩;exact ⟨_, results_tmp rfl _ _ _, by rw [HU.out]; rfl, HDB.out⟩
    ·have f1 : ((N1 : Int) == (h.1.length : Int)) = false := (by rw [beq_eq_false_iff_ne]; omega);have t1' : decide (N1 = h.1.length) = false := (by simpa using g1);rw [t1', Bool.false_and] at HU;clear g1 t1'
     gi_wp2
     refine ⟨by simp, .inl ⟨_, _, rfl, run_takeDeferred HD.out, ?_⟩⟩;exact ⟨_, results_tmp rfl _ _ _, by rw [HU.out]; rfl, HDB.out⟩
   case stop =>
    rintro D' c pre W _ _ h' _;exact h'.elim
end
section
open Go.RowKit Go.Lib
abbrev bGs := (Int × Int) × Bool
def vI : bGs := ((0, 0), false)
def wrO (key : Int) (o : OpM) : Bool := o.1 && o.2.1 == key
def dL (key : Int) (l : List OpM) : bGs := l.foldl (fun r o => if wrO key o then (o.2.2, true) else r) vI
theorem bIw (key : Int) : dL key [] = vI := rfl
theorem bEy (key : Int) (l : List OpM) (o : OpM) : dL key (l ++ [o]) = if wrO key o then (o.2.2, true) else dL key l := by
 unfold dL;rw [List.foldl_append];rfl
theorem aIz (l : List OpM) (k : Nat) (hk : k < l.length) : l.take (k + 1) = l.take k ++ [l.getD k cG] := by
 rw [List.take_succ_eq_append_getElem hk];congr 2;simp [hk]
theorem xK (key : Int) (l : List OpM) (k : Nat) (hk : k < l.length) : dL key (l.take (k + 1)) = if wrO key (l.getD k cG) then ((l.getD k cG).2.2, true) else dL key (l.take k) := by
 rw [aIz l k hk, bEy]
theorem bEw (key : Int) : ∀ (l : List OpM) (r : bGs), (l.foldl (fun r o => if wrO key o then (o.2.2, true) else r) r).2 = (r.2 || l.any (wrO key))
 | [], r => by simp
 | o :: l, r => by
  rw [List.foldl_cons, bEw key l, List.any_cons];by_cases h : wrO key o = true
  ·rw [if_pos h, h];simp
  ·have h' : wrO key o = false := (by simpa using h);rw [if_neg h, h', Bool.false_or]
theorem bIu (key : Int) (l : List OpM) : (dL key l).2 = l.any (wrO key) := by
 unfold dL;rw [bEw];rfl
def lL (h : aI) (i : Int) : List OpM := if cZ h && (decide (0 ≤ i) && decide (i < h.2.2.length)) then (h.2.2.getD i.toNat aM).2.2 else []
def nE (h : aI) (t o : Int) : bGs := if 0 ≤ o ∧ o < (lL h t).length then dL ((lL h t).getD o.toNat cG).2.1 ((lL h t).take o.toNat) else vI
def dU (key : Int) (t : bB) : Bool := t.2.1 != 2 && t.2.2.any (wrO key)
theorem qN {h : aI} (hm : cZ h = true) (k : Nat) (hk : k < h.2.2.length) : lL h (k : Int) = (h.2.2.getD k aM).2.2 := by
 unfold lL;rw [hm, decide_eq_true (by omega : (0 : Int) ≤ (k : Int)), decide_eq_true (by omega : (k : Int) < (h.2.2.length : Int))];rfl
theorem aKj {h : aI} (hm : cZ h = false) (i : Int) : lL h i = [] := by simp [lL, hm]
theorem aEk {h : aI} (i : Int) (hi : i < 0) : lL h i = [] := by
 unfold lL;rw [decide_eq_false (by omega : ¬ (0 : Int) ≤ i)];simp
theorem vB {h : aI} (i : Int) (hi : (h.2.2.length : Int) ≤ i) : lL h i = [] := by
 unfold lL;rw [decide_eq_false (by omega : ¬ i < (h.2.2.length : Int))];simp
theorem aEj {h : aI} (hm : cU h) (i : Int) : (lL h i).length ≤ 1000 := by
 unfold lL;split
 ·rename_i hc;simp at hc;have hk : i.toNat < h.2.2.length := (by omega);have e : h.2.2.getD i.toNat aM = h.2.2[i.toNat] := (by simp [hk]);rw [e];exact hm.2.2.2.2.2 _ (List.getElem_mem hk)
 ·exact Nat.zero_le _
end
section
def dC (U : List Bool) (ks : List Int) : List Bool := ks.foldl (fun U k => U.set k.toNat true) U
theorem aDs (U : List Bool) (ks : List Int) (k : Int) : dC U (ks ++ [k]) = (dC U ks).set k.toNat true := by simp [dC]
theorem aYt (U : List Bool) (ks ls : List Int) : dC U (ks ++ ls) = dC (dC U ks) ls := by simp [dC]
theorem jO (ks : List Int) : ∀ U : List Bool, (dC U ks).length = U.length := by
 induction ks with
 | nil => intro U; rfl
 | cons k ks ih => intro U; show (dC (U.set k.toNat true) ks).length = _; rw [ih, List.length_set]
theorem aYu (ks : List Int) : ∀ (U : List Bool) (i : Nat), i < U.length → (dC U ks).getD i false = (U.getD i false || (ks.map Int.toNat).contains i) := by
 induction ks with
 | nil => intro U i _; simp [dC]
 | cons k ks ih =>
  intro U i hi;show (dC (U.set k.toNat true) ks).getD i false = _;rw [ih _ _ (by rw [List.length_set]; exact hi)];rw [List.map_cons, List.contains_cons];by_cases e : i = k.toNat
  ·subst e;simp [hi]
  ·have e' : (i == k.toNat) = false := (by simpa using e);rw [e', Bool.false_or];congr 1;simp [List.getD, Ne.symm e]
theorem bBp (U : List Bool) : U.all id = (List.range U.length).all fun i => U.getD i false := by
 rw [Bool.eq_iff_iff, List.all_eq_true, List.all_eq_true];constructor
 ·intro h i hi;have hi' := List.mem_range.1 hi;have : U.getD i false = U[i] := (by simp [hi']);rw [this];exact h _ (List.getElem_mem hi')
 ·intro h x hx;obtain ⟨i, hi, rfl⟩ := List.getElem_of_mem hx;have := h i (List.mem_range.2 hi);simpa [hi] using this
theorem aHy (m : Nat) (ks : List Int) (hk : ∀ x ∈ ks, 0 ≤ x ∧ x < (m : Int)) : (dC (List.replicate m false) ks).all id = mU m ks := by
 rw [bBp, jO, List.length_replicate];unfold mU;rw [Bool.eq_iff_iff, List.all_eq_true, List.all_eq_true]
 have key : ∀ i, i < m → ((dC (List.replicate m false) ks).getD i false = true ↔ ks.contains (i : Int) = true) := by
  intro i hi;rw [aYu _ _ _ (by simpa using hi)];have : (List.replicate m false).getD i false = false := (by simp [List.getD, hi]);rw [this, Bool.false_or, List.contains_iff_mem, List.contains_iff_mem, List.mem_map];constructor
  ·rintro ⟨x, hx, e⟩;have := hk x hx;have e2 : x = (i : Int) := (by omega);rw [← e2]; exact hx
  ·intro hx;exact ⟨_, hx, by simp⟩
 exact ⟨fun h i hi => (key i (List.mem_range.1 hi)).1 (h i hi), fun h i hi => (key i (List.mem_range.1 hi)).2 (h i hi)⟩
def qY (U : List Bool) (k : Nat) : Bool := (U.take k).all id
theorem aGy (U : List Bool) (k : Nat) (h : k < U.length) : qY U (k + 1) = (qY U k && U.getD k false) := by
 unfold qY;rw [List.take_add_one, List.all_append];congr 1;simp [h]
theorem aLo (U : List Bool) : qY U U.length = U.all id := by unfold qY; rw [List.take_length]
def tP (l : List OpM) (k : Nat) : List Int := (l.take k).map (·.2.1)
theorem aRu (l : List OpM) (k : Nat) (h : k < l.length) : tP l (k + 1) = tP l k ++ [(l.getD k cG).2.1] := by
 unfold tP;rw [List.take_add_one, List.map_append];congr 1;simp [h]
def aDb (L : List bB) (k : Nat) : List Int := ((L.take k).flatMap (·.2.2)).map (·.2.1)
theorem aRv (L : List bB) (k : Nat) (h : k < L.length) : aDb L (k + 1) = aDb L k ++ (L.getD k aM).2.2.map (·.2.1) := by
 unfold aDb;rw [List.take_add_one, List.flatMap_append, List.map_append];congr 1;simp [h]
def lC (h : aI) (t : bB) : Bool := bQ h.1.length t && t.2.2.all (jS h.2.1.length)
theorem aNq (h : aI) : cZ h = (mV h && (h.2.2.all (lC h) && xU h)) := by
 have e : (h.2.2.all (bQ h.1.length) && ((bU h).all (jS h.2.1.length))) = h.2.2.all (lC h) := by
  unfold bU lC;generalize h.2.2 = L
  induction L with
  | nil => rfl
  | cons t L ih =>
   rw [List.flatMap_cons, List.all_cons, List.all_cons, List.all_append, ← ih];cases bQ h.1.length t <;> cases t.2.2.all (jS h.2.1.length) <;> simp
 unfold cZ;rw [← Bool.and_assoc (h.2.2.all (bQ h.1.length)), e]
end
section
open Go.RowKit
attribute [local go_sem] aJn oU wY pG aQk aAw oT yA qZ
attribute [local go_sem] cR.cell cR.frozen
attribute [local go_sem ↓] Go.wp_at_zero Go.wp_at_succ
def aHq (k n k' n' : Int) : Bool := if k = k' then k == 1 && decide (n < n') else decide (k < k')
set_option maxHeartbeats 1000000 in
theorem aOs (k n k' n' : Int) (w : World) :
  Calls Tryz.prog 93 #[.agg #[.int .i64 k, .int .i64 n], .agg #[.int .i64 k', .int .i64 n']] w fun e w' => e = .returned (.bool (aHq k n k' n')) ∧ Below w.heap.size w w' := by
 by_cases h1 : k = k'
 ·subst h1;have e1 : aHq k n k n' = (k == 1 && decide (n < n')) := (by simp [aHq]);rw [e1]; clear e1;by_cases h2 : k = 1
  ·subst h2;go_enter Tryz.func93, Tryz.ntmps93
   go_wp2
   go_ret;exact ⟨by simp, by go_grown⟩
  ·have h2' : (k == 1) = false := (by simpa using h2);clear h2;go_enter Tryz.func93, Tryz.ntmps93
   go_wp2
   go_ret;exact ⟨by simp; intro hk; exact absurd hk (by simpa using h2'), by go_grown⟩
 ·have e1 : aHq k n k' n' = decide (k < k') := (by simp [aHq, h1]);have h1' : (k != k') = true := (by simpa using h1);rw [e1]; clear e1 h1;go_enter Tryz.func93, Tryz.ntmps93
  go_wp2
  go_ret;exact ⟨by simp, by go_grown⟩
end
end Go.Proofs.YtdfegfagedeilaaGreatDoor
