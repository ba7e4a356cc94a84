/-
  Layer 13 (inner), the program: who writes a key. No conditions but that unicode/utf8's two tables are as their initialisers lay them.
  Layer 5 (value) in plain words: values in order, as the program makes them (sorted, then no two alike) and as the reference does (put in one by one); no program in sight. No conditions.
  Layer 17 (whole): what stands while a history is made whole; the clone of operations. No conditions.
  Layer 16 (world) in plain words: worlds counted up like digits; each next one is the next in number; no program in sight. No conditions.
  Layer 16 (world) in plain words: how many worlds there are, counted at most to a million: over all fates, and transaction by transaction; no program in sight. No conditions.
  Layers 15 and 16 (writer, world) in plain words: what a lost read may have read, what is tried, the first world, the next one, how many there are; no program in sight. No conditions.
-/
import Derived.Test.YtdfegfagedeilaaGreatDoorXLi
namespace Go.Proofs.YtdfegfagedeilaaGreatDoor
section
open Go.RowKit Go.Lib
set_option maxRecDepth 100000 in
set_option maxHeartbeats 1000000 in
theorem bBg (o : OpM) (key : Int) (B : Nat) (w : World) (hs : w.cell? ⟨B, 0, none⟩ = some (.int .i64 key)) :
  Calls Tryz.prog 123 #[.agg #[.bool o.1, .int .i64 o.2.1, .int .i64 o.2.2.1, .int .i64 o.2.2.2], .pointer (some ⟨B, 0, none⟩)] w fun e w' => e = .returned (.bool (wrO key o)) ∧ Below w.heap.size w w' := by
 have hB : B < w.heap.size := World.block_lt_of_cell? w ⟨B, 0, none⟩ hs;obtain ⟨ow, ok, ov⟩ := o
 cases ow with
 | false =>
  have hE : wrO key (false, ok, ov) = false := rfl;rw [hE];clear hE;go_enter Tryz.func123, Tryz.ntmps123
  go_wp2
  go_ret;exact ⟨rfl, by go_grown⟩
 | true =>
  have hE : wrO key (true, ok, ov) = (ok == key) := (by unfold wrO; simp);rw [hE];clear hE;go_enter Tryz.func123, Tryz.ntmps123
  go_wp2
  go_ret;exact ⟨by first | rfl | simp, by go_grown⟩
set_option maxRecDepth 100000 in
set_option maxHeartbeats 2000000 in
theorem aXv (v : Value) (L : List OpM) (key : Int) (B : Nat) (w : World) (hs : w.cell? ⟨B, 0, none⟩ = some (.int .i64 key)) (hv : qF w v L) (hL : L.length ≤ 1000) :
  Calls Tryz.prog 141 #[v, .func (.func 123) #[] #[.pointer (some ⟨B, 0, none⟩)]] w fun e w' => ∃ i : Int, e = .returned (.int .i64 i) ∧ decide (0 ≤ i) = L.any (wrO key) ∧ Below w.heap.size w w' := by
 obtain ⟨p, c, rfl, -, hp⟩ := hv;have HX := lhid hp;have H3 := lhid hs;have en := enters_of Tryz.func123 (by kernel_rfl) rfl
 have HYes : Hid (∀ k : Nat, k < L.length → wrO key (L.getD k cG) = true → decide ((0 : Int) ≤ (k : Int)) = L.any (wrO key)) := lhid (fun k hk hf => by
  have : L.any (wrO key) = true := by
   rw [List.any_eq_true];refine ⟨L.getD k cG, ?_, hf⟩;have : L.getD k cG = L[k] := (by simp [hk]);rw [this];exact List.getElem_mem hk
  rw [this]
  simp)
 have HNo : Hid ((∀ k : Nat, k < L.length → wrO key (L.getD k cG) = false) → decide ((0 : Int) ≤ -1) = L.any (wrO key)) := lhid (fun h => by
  have : L.any (wrO key) = false := by
   rw [List.any_eq_false];intro x hx;obtain ⟨k, hk, e⟩ := List.getElem_of_mem hx;have := h k hk;simpa [hk, e] using this
  rw [this]
  rfl)
 generalize L.any (wrO key) = R at *;clear hp hs;go_enter Tryz.func141, Tryz.ntmps141;go_wp2_with fail
 go_loopw [8] (fun i wr => ∃ k : Nat, k ≤ L.length ∧ i = .int .i64 k ∧ (∀ j, j < k → wrO key (L.getD j cG) = false) ∧ Below w.heap.size w wr) (fun i _ => L.length - (RowKit.intOf i).toNat)
 case atStart => exact ⟨0, Nat.zero_le _, rfl, fun j hj => absurd hj (Nat.not_lt_zero j), Below.refl _ _⟩
 case round =>
  obtain ⟨k, hk, rfl, hn, hbw⟩ := hrel;have HN := lhid hn;clear hn;by_cases hk1 : k < L.length
  ·obtain ⟨g, rfl, a1, a2, a3, a4⟩ := HX.out k hk1;have a1' := cell_later hbw a1;have a2' := cell_later hbw a2;have a3' := cell_later hbw a3;have a4' := cell_later hbw a4;have HM := lhid (bBg (L.getD k cG) key B wr (cell_later hbw H3.out));have HY := lhid (HYes.out k hk1)
   have HK : Hid (wrO key (L.getD k cG) = false → ∀ j, j < k + 1 → wrO key (L.getD j cG) = false) := lhid (fun h j hj => by
    by_cases hjk : j < k
    ·exact HN.out j hjk
    ·obtain rfl : j = k := by omega
     exact h)
   obtain ⟨b, hb⟩ : ∃ b, wrO key (L.getD k cG) = b := ⟨_, rfl⟩;rw [hb] at HM HY HK;obtain ⟨t, ht⟩ : ∃ t, L.getD k cG = t := ⟨_, rfl⟩;rw [ht] at HM a1' a2' a3' a4';obtain ⟨t1, t2, t3, t4⟩ := t;simp only at HM a1' a2' a3' a4';clear a1 a2 a3 a4 hb ht
   cases b with
   | true =>
    (go_wp2_with (first | (go_at_call 123; refine HM.out.mono ?_; rintro e w1 ⟨rfl, hb1⟩)));go_ret;exact ⟨_, rfl, HY.out trivial, aB hbw hb1⟩
   | false =>
    (go_wp2_with (first | (go_at_call 123; refine HM.out.mono ?_; rintro e w1 ⟨rfl, hb1⟩)));go_roundw
    case rel => exact ⟨k + 1, by omega, by go_num, HK.out trivial, aB hbw hb1⟩
    case measure => simp [RowKit.intOf]; omega
  ·have hke : k = L.length := (by omega);subst hke;have H1 := lhid (HNo.out HN.out);(go_wp2_with fail);go_ret;exact ⟨_, rfl, H1.out, hbw⟩
set_option maxRecDepth 100000 in
set_option maxHeartbeats 1000000 in
theorem aWm (v : Value) (L : List OpM) (key : Int) (B : Nat) (w : World) (hs : w.cell? ⟨B, 0, none⟩ = some (.int .i64 key)) (hv : qF w v L) (hL : L.length ≤ 1000) :
  Calls Tryz.prog 122 #[v, .func (.func 123) #[] #[.pointer (some ⟨B, 0, none⟩)]] w fun e w' => e = .returned (.bool (L.any (wrO key))) ∧ Below w.heap.size w w' := by
 have H1 := lhid (aXv v L key B w hs hv hL);generalize L.any (wrO key) = R at *;clear hs hv hL;go_enter Tryz.func122, Tryz.ntmps122;(go_wp2_with fail);refine H1.out.mono ?_;rintro e w1 ⟨i, rfl, hi, hb1⟩;have HI := lhid hi;clear hi;(go_wp2_with fail);go_ret;refine ⟨?_, hb1⟩;rw [← HI.out];rfl
set_option maxRecDepth 100000 in
set_option maxHeartbeats 2000000 in
theorem bJl (t : bB) (sv : Value) (key : Int) (B : Nat) (w : World) (hs : w.cell? ⟨B, 0, none⟩ = some (.int .i64 key)) (hv : qF w sv t.2.2) (hL : t.2.2.length ≤ 1000) :
  Calls Tryz.prog 121 #[.agg #[.int .i64 t.1, .int .i64 t.2.1, sv], .pointer (some ⟨B, 0, none⟩)] w fun e w' => e = .returned (.bool (dU key t)) ∧ Below w.heap.size w w' := by
 have hal := (Below.refl w.heap.size w).alloc (Nat.le_refl _) (.cells #[.int .i64 t.1, .int .i64 t.2.1, sv] 67);have HC := lhid (aWm sv t.2.2 key B _ (cell_later hal hs) (hv.below hal) hL);have HA := lhid hal;obtain ⟨p, c, rfl, -⟩ := hv;obtain ⟨ts, tf, tl⟩ := t;dsimp only at HC HA ⊢;clear hs hal hL;by_cases hf : tf = 2
 ·subst hf;have hE : dU key (ts, 2, tl) = false := rfl;rw [hE];clear hE HC;go_enter Tryz.func121, Tryz.ntmps121;(go_wp2_with fail);go_ret;exact ⟨rfl, HA.out⟩
 ·have hf2 : (tf == 2) = false := beq_eq_false_iff_ne.2 hf;have hE : dU key (ts, tf, tl) = tl.any (wrO key) := (by unfold dU; simp [bne, hf2]);rw [hE];obtain ⟨R, hR⟩ : ∃ R, tl.any (wrO key) = R := ⟨_, rfl⟩;rw [hR] at HC ⊢;clear hE hR;go_enter Tryz.func121, Tryz.ntmps121;(go_wp2_with fail);refine HC.out.mono ?_;rintro e w1 ⟨rfl, hb1⟩;(go_wp2_with fail);go_ret;have hn2 : (tf != 2) = true := (by simp [bne, hf2]);exact ⟨by simp [hn2], aB HA.out hb1⟩
def jF (h : aI) (key : Int) : List Int := cA (dU key) h
set_option maxRecDepth 100000 in
set_option maxHeartbeats 4000000 in
theorem bUm {w : World} {v : Value} {h : aI} (key : Int) (hv : cJ w v h) (hm : cU h) (hT : Lib.Utf8Tabs 1 2 w) :
  Calls Tryz.prog 99 #[v, .int .i64 key] w fun e w' => ∃ v', e = .returned v' ∧ qC w' v' (jF h key) ∧ Below w.heap.size w w' := by
 have H0 := lhid hv;obtain ⟨v0, v1, v2, rfl, ⟨p0, c0, rfl, -⟩, ⟨p1, c1, rfl, -⟩, ⟨p2, c2, rfl, k2⟩⟩ := hv;have hal := ((Below.refl w.heap.size w).alloc (Nat.le_refl _) (.cells #[.slice p0 h.1.length c0, .slice p1 h.2.1.length c1, .slice p2 h.2.2.length c2] 25)).alloc (by simp) (.cells #[.int .i64 key] 3);have HMay := lhid (bUd (H0.out.below hal) hm (Utf8Tabs_below hT hal));have hbx := (Blk.new w 25 [.slice p0 h.1.length c0, .slice p1 h.2.1.length c1, .slice p2 h.2.2.length c2]).alloc (.cells #[.int .i64 key] 3);have hkx := Blk.new (w.alloc (.cells #[.slice p0 h.1.length c0, .slice p1 h.2.1.length c1, .slice p2 h.2.2.length c2] 25)) 3 [.int .i64 key];simp only [World.size_alloc] at hkx;have HBx := lhid hbx;have HKx := lhid hkx;have HX := lhid k2;have HAL := lhid hal;have HMod := lhid hm;have m3 : h.2.2.length ≤ 1000 := hm.2.2.1;obtain ⟨i0, hi, hz0, hz1, hz2⟩ := info_parts xD;have en := enters_of Tryz.func121 (by kernel_rfl) rfl;clear hT hal hm H0 k2 hbx hkx;go_enter Tryz.func99, Tryz.ntmps99;(go_wp2_with fail);refine HMay.out.mono ?_;rintro e w1 ⟨rfl, hb1⟩;clear HMay;have HB1 := lhid (aB HAL.out hb1);have hx1 := HBx.out.later hb1;have o2 := hx1.cell 2 rfl;have olt := hx1.lt;have HK1 := lhid (HKx.out.later hb1);clear hb1 HAL HBx HKx hx1
 cases hmm : cZ h with
 | false =>
  have HE : Hid (jF h key = []) := lhid (aJk _ hmm);rw [pH hmm];clear hmm;(go_wp2_with fail);go_ret;exact ⟨_, rfl, by rw [HE.out]; exact yP _, HB1.out⟩
 | true =>
  have HE : Hid (jF h key = jH (dU key) h.2.2 h.2.2.length) := lhid (jZ _ hmm);rw [kT hmm];clear hmm;go_wp2_with fail
  go_loopw [6, 16] (fun l i wr => ∃ k : Nat, k ≤ h.2.2.length ∧ i = .int .i64 k ∧ wr.ownsRow w1.heap.size 3 1 l (jH (dU key) h.2.2 k).length (mG (jH (dU key) h.2.2 k)) ∧ Below w1.heap.size w1 wr) (fun _ i _ => h.2.2.length - (RowKit.intOf i).toNat)
  case atStart => exact ⟨0, Nat.zero_le _, rfl, World.ownsRow_nil _ _ _ _, Below.refl _ _⟩
  case round =>
   obtain ⟨k, hk, rfl, hown, hbw⟩ := hrel;by_cases hk1 : k < h.2.2.length
   ·obtain ⟨g, sv, rfl, a1, a2, a3, a4⟩ := HX.out k hk1;have hb0 := HB1.out.trans (hbw.mono HB1.out.size);have a1' := cell_later hb0 a1;have a2' := cell_later hb0 a2;have a3' := cell_later hb0 a3;have a4' := a4.below hb0;have hnx := uQ (dU key) h.2.2 k;have hil := xC (dU key) h.2.2 k;have htl : (h.2.2.getD k aM).2.2.length ≤ 1000 := HMod.out.2.2.2.2.2 _ (by rw [show h.2.2.getD k aM = h.2.2[k] by simp [hk1]]; exact List.getElem_mem hk1);obtain ⟨I, hI⟩ : ∃ I, jH (dU key) h.2.2 k = I := ⟨_, rfl⟩;rw [hI] at hown hnx hil;obtain ⟨t, ht⟩ : ∃ t, h.2.2.getD k aM = t := ⟨_, rfl⟩;rw [ht] at a1' a2' a4' hnx htl;have hal := (Below.refl wr.heap.size wr).alloc (Nat.le_refl _) (.cells #[.int .i64 t.1, .int .i64 t.2.1, sv] 67);have hbx := hbw.alloc hbw.size (.cells #[.int .i64 t.1, .int .i64 t.2.1, sv] 67);have HC := lhid (bJl t sv key (w.heap.size + 1) (wr.alloc (.cells #[.int .i64 t.1, .int .i64 t.2.1, sv] 67)) (cell_later hal (cell_later hbw (HK1.out.cell 0 rfl))) (a4'.below hal) htl);obtain ⟨p3, c3, rfl, -⟩ := a4';obtain ⟨t1, t2, t3⟩ := t;dsimp only at a1' a2' a3' hnx HC hbx;have HBX := lhid hbx;obtain ⟨b, hb⟩ : ∃ b, dU key (t1, t2, t3) = b := ⟨_, rfl⟩;rw [hb] at hnx HC;have HN : Hid ((b = true → jH (dU key) h.2.2 (k + 1) = I ++ [(k : Int)]) ∧ (b = false → jH (dU key) h.2.2 (k + 1) = I)) := lhid ⟨fun e => by rw [hnx, if_pos e], fun e => by rw [hnx, if_neg (by rw [e]; exact Bool.false_ne_true)]⟩;clear a1 a2 a3 a4 ht hI hb hnx hbx hal htl hb0 hbw
    cases b with
    | false =>
     (go_wp2_with fail);refine HC.out.mono ?_;rintro e w3 ⟨rfl, hb3⟩;have hown3 := aS (hown.alloc _) hb3;have hbw3 := aB HBX.out hb3;clear hb3 hown;(go_wp2_with fail);go_roundw
     case rel => exact ⟨k + 1, by omega, by go_num, by rw [HN.out.2 (by trivial)]; exact hown3, hbw3⟩
     case measure => simp [RowKit.intOf]; omega
    | true =>
     (go_wp2_with fail);refine HC.out.mono ?_;rintro e w3 ⟨rfl, hb3⟩;have hown3 := aS (hown.alloc _) hb3;have hbw3 := aB HBX.out hb3;clear hb3 hown;(go_wp2_with (at_builtin; refine wpList_append_own _ rfl _ _ 49 rfl w1.heap.size 3 i0 (.int .i64 0) 1 8 Tryz.underlying49 hi hz0 hz1 hz2 rfl (by decide) _ _ _ rfl (hown3.alloc _) ⟨w3.heap.size, 0, none⟩ 1 1 [.int .i64 (k : Nat)] rfl rfl (aDx _ _ _) (aEa _) (by unfold maxLen; omega) (by omega) (by have := hbw3.size; simp; omega) ?_));intro v4 w4 hown4 hgrow hnil;have hb4 : Below w1.heap.size w1 w4 := (hbw3.alloc hbw3.size _).grown hgrow (by have := hbw3.size; simp; omega) (fun k hk => (hown3.lt k hk).1);have HO : Hid (w4.ownsRow w1.heap.size 3 1 v4 (jH (dU key) h.2.2 (k + 1)).length (mG (jH (dU key) h.2.2 (k + 1)))) := lhid (by rw [HN.out.1 (by trivial), ← wQ, List.length_append]; exact hown4);clear hown4 hgrow hnil hown3 hbw3;(go_wp2_with fail);go_roundw
     case rel => exact ⟨k + 1, by omega, by go_num, HO.out, hb4⟩
     case measure => simp [RowKit.intOf]; omega
   ·have hke : k = h.2.2.length := (by omega);subst hke;have HO := lhid (bUb hown);clear hown;(go_wp2_with fail);go_ret;exact ⟨_, rfl, by rw [HE.out]; exact HO.out, HB1.out.trans (hbw.mono HB1.out.size)⟩
end
section
open Go.Lib
abbrev bZ := Int × Int
def okV (a : bZ) : Bool := kW a.1 a.2
def ltV (a b : bZ) : Bool := if a.1 = b.1 then a.1 == 1 && decide (a.2 < b.2) else decide (a.1 < b.1)
theorem uU (a b : bZ) : ltV a b = true ↔ a.1 < b.1 ∨ (a.1 = b.1 ∧ a.1 = 1 ∧ a.2 < b.2) := by
 unfold ltV;by_cases h : a.1 = b.1
 ·rw [if_pos h];simp only [Bool.and_eq_true, beq_iff_eq, decide_eq_true_eq];omega
 ·rw [if_neg h];simp only [decide_eq_true_eq];omega
theorem mS (a : bZ) : ltV a a = false := by
 rw [Bool.eq_false_iff, ne_eq, uU];omega
theorem uW (a b c : bZ) (h1 : ltV a b = true) (h2 : ltV b c = true) : ltV a c = true := by
 rw [uU] at *;omega
theorem aVj (a : bZ) : okV a = true ↔ a.1 = 1 ∨ (a.1 = 0 ∨ a.1 = 2) ∧ a.2 = 0 := by
 unfold okV kW;simp only [Bool.or_eq_true, Bool.and_eq_true, beq_iff_eq]
theorem uV (a b : bZ) (ha : okV a = true) (hb : okV b = true) (h1 : ltV a b = false) (h2 : ltV b a = false) : a = b := by
 rw [Bool.eq_false_iff, ne_eq, uU] at h1 h2;rw [aVj] at ha hb;obtain ⟨a1, a2⟩ := a;obtain ⟨b1, b2⟩ := b;simp only at *;have e1 : a1 = b1 := (by omega);subst e1;have e2 : a2 = b2 := (by omega);rw [e2]
theorem aSd (a b c : bZ) (h1 : ltV a b = false) (h2 : ltV b c = false) : ltV a c = false := by
 rw [Bool.eq_false_iff, ne_eq, uU] at *;omega
def pM (x : bZ) : List bZ → List bZ
 | [] => [x]
 | y :: r => if ltV y x then y :: pM x r else if y = x then y :: r else x :: y :: r
theorem xE (x y : bZ) : ∀ r, y ∈ pM x r ↔ y = x ∨ y ∈ r
 | [] => by simp [pM]
 | z :: r => by
  unfold pM;split
  ·rw [List.mem_cons, xE x y r, List.mem_cons];constructor
   ·rintro (h | h | h)
    ·exact .inr (.inl h)
    ·exact .inl h
    ·exact .inr (.inr h)
   ·rintro (h | h | h)
    ·exact .inr (.inl h)
    ·exact .inl h
    ·exact .inr (.inr h)
  ·split
   ·rename_i h;subst h;simp
   ·simp
theorem zV (x : bZ) (hx : okV x = true) : ∀ r, (∀ y ∈ r, okV y = true) → r.Pairwise (fun a b => ltV a b = true) → (pM x r).Pairwise (fun a b => ltV a b = true)
 | [], _, _ => by simp [pM]
 | y :: r, hn, hs => by
  have hy := hn y (List.mem_cons_self ..);rw [List.pairwise_cons] at hs;unfold pM;split
  ·rename_i h;rw [List.pairwise_cons];refine ⟨fun z hz => ?_, zV x hx r (fun z hz => hn z (List.mem_cons_of_mem _ hz)) hs.2⟩;rcases (xE x z r).1 hz with e | e
   ·subst e; exact h
   ·exact hs.1 z e
  ·rename_i h;split
   ·rw [List.pairwise_cons]; exact hs
   ·rename_i he
    have hxy : ltV x y = true := by
     cases hq : ltV x y with
     | true => rfl
     | false => exact absurd (uV y x hy hx (by simpa using h) hq) he
    rw [List.pairwise_cons, List.pairwise_cons];refine ⟨fun z hz => ?_, hs⟩;rcases List.mem_cons.1 hz with e | e
    ·subst e; exact hxy
    ·exact uW x y z hxy (hs.1 z e)
def kO (x : bZ) (r : List bZ) : Nat := (r.takeWhile (fun y => ltV y x)).length
theorem aUx (x : bZ) : ∀ r : List bZ, kO x r ≤ r.length ∧ (∀ j, j < kO x r → ltV (r.getD j (0, 0)) x = true) ∧
  (kO x r < r.length → ltV (r.getD (kO x r) (0, 0)) x = false) ∧
  pM x r = if kO x r < r.length ∧ r.getD (kO x r) (0, 0) = x then r else r.take (kO x r) ++ x :: r.drop (kO x r)
 | [] => by simp [kO, pM]
 | y :: r => by
  obtain ⟨h1, h2, h3, h4⟩ := aUx x r;by_cases h : ltV y x = true
  ·have e : kO x (y :: r) = kO x r + 1 := (by simp [kO, h]);rw [e];refine ⟨by simpa using h1, ?_, ?_, ?_⟩
   ·intro j hj
    cases j with
    | zero => exact h
    | succ j => exact h2 j (by omega)
   ·intro hl;exact h3 (by simpa using hl)
   ·unfold pM;rw [if_pos h, h4];by_cases hc : kO x r < r.length ∧ r.getD (kO x r) (0, 0) = x
    ·rw [if_pos hc, if_pos (by simpa using hc)]
    ·rw [if_neg hc, if_neg (by simpa using hc)];simp
  ·have h' : ltV y x = false := (by simpa using h);have e : kO x (y :: r) = 0 := (by simp [kO, h']);rw [e];refine ⟨Nat.zero_le _, fun j hj => absurd hj (Nat.not_lt_zero j), fun _ => h', ?_⟩;unfold pM;rw [if_neg h];simp
def cH (L : List bZ) : List bZ := L.foldl (fun out x => if okV x then pM x out else out) []
theorem bMl (L : List bZ) : ∀ out : List bZ, (∀ y ∈ out, okV y = true) → out.Pairwise (fun a b => ltV a b = true) →
  (L.foldl (fun out x => if okV x then pM x out else out) out).Pairwise (fun a b => ltV a b = true) ∧
  ∀ y, y ∈ L.foldl (fun out x => if okV x then pM x out else out) out ↔ y ∈ out ∨ (y ∈ L ∧ okV y = true) := by
 induction L with
 | nil => intro out _ hs; exact ⟨hs, by simp⟩
 | cons x L ih =>
  intro out hn hs;rw [List.foldl_cons];by_cases h : okV x = true
  ·rw [if_pos h];obtain ⟨h1, h2⟩ := ih (pM x out) (fun y hy => by rcases (xE x y out).1 hy with e | e; (subst e; exact h); exact hn y e) (zV x h out hn hs);refine ⟨h1, fun y => ?_⟩;rw [h2, xE, List.mem_cons];constructor
   ·rintro ((e | e) | ⟨e, e'⟩)
    ·subst e; exact .inr ⟨.inl rfl, h⟩
    ·exact .inl e
    ·exact .inr ⟨.inr e, e'⟩
   ·rintro (e | ⟨e | e, e'⟩)
    ·exact .inl (.inr e)
    ·exact .inl (.inl e)
    ·exact .inr ⟨e, e'⟩
  ·rw [if_neg h];obtain ⟨h1, h2⟩ := ih out hn hs;refine ⟨h1, fun y => ?_⟩;rw [h2, List.mem_cons];constructor
   ·rintro (e | ⟨e, e'⟩)
    ·exact .inl e
    ·exact .inr ⟨.inr e, e'⟩
   ·rintro (e | ⟨e | e, e'⟩)
    ·exact .inl e
    ·subst e; exact absurd e' h
    ·exact .inr ⟨e, e'⟩
theorem kZ (L : List bZ) : (cH L).Pairwise (fun a b => ltV a b = true) ∧ ∀ y, y ∈ cH L ↔ y ∈ L ∧ okV y = true := by
 obtain ⟨h1, h2⟩ := bMl L [] (by simp) List.Pairwise.nil;exact ⟨h1, fun y => by rw [cH, h2]; simp⟩
theorem uF (L : List bZ) : (cH L).length ≤ L.length := by
 have key : ∀ (L out : List bZ), (L.foldl (fun out x => if okV x then pM x out else out) out).length ≤ out.length + L.length := by
  intro L
  induction L with
  | nil => intro out; simp
  | cons x L ih =>
   intro out;rw [List.foldl_cons, List.length_cons]
   have hi : ∀ r : List bZ, (pM x r).length ≤ r.length + 1 := by
    intro r
    induction r with
    | nil => simp [pM]
    | cons y r ihr =>
     unfold pM;split
     ·rw [List.length_cons, List.length_cons]; omega
     ·split <;> simp
   split
   ·have := ih (pM x out);have := hi out;omega
   ·have := ih out;omega
 have := key L [];simpa [cH] using this
theorem aVu (A B : List bZ) (hA : A.Pairwise (fun a b => ltV a b = true)) (hB : B.Pairwise (fun a b => ltV a b = true)) (h : ∀ x, x ∈ A ↔ x ∈ B) : A = B := by
 induction A generalizing B with
 | nil =>
  cases B with
  | nil => rfl
  | cons b B => exact absurd ((h b).2 (List.mem_cons_self ..)) (by simp)
 | cons a A ih =>
  cases B with
  | nil => exact absurd ((h a).1 (List.mem_cons_self ..)) (by simp)
  | cons b B =>
   rw [List.pairwise_cons] at hA hB
   have hab : a = b := by
    rcases List.mem_cons.1 ((h a).1 (List.mem_cons_self ..)) with e | e
    ·exact e
    ·rcases List.mem_cons.1 ((h b).2 (List.mem_cons_self ..)) with e2 | e2
     ·exact e2.symm
     ·have := uW a b a (hA.1 b e2) (hB.1 a e);rw [mS] at this;cases this
   subst hab;rw [ih B hA.2 hB.2 fun x => ?_];constructor
   ·intro hx;rcases List.mem_cons.1 ((h x).1 (List.mem_cons_of_mem _ hx)) with e | e
    ·subst e;have := hA.1 x hx;rw [mS] at this;cases this
    ·exact e
   ·intro hx;rcases List.mem_cons.1 ((h x).2 (List.mem_cons_of_mem _ hx)) with e | e
    ·subst e;have := hB.1 x hx;rw [mS] at this;cases this
    ·exact e
theorem aKq (L M : List bZ) (h : ∀ x, x ∈ L ↔ x ∈ M) : cH L = cH M := by
 obtain ⟨a1, a2⟩ := kZ L;obtain ⟨b1, b2⟩ := kZ M;exact aVu _ _ a1 b1 fun x => by rw [a2, b2, h]
theorem zR (d : Array bZ) (hn : ∀ j, j < d.size → okV d[j]! = true) (hs : ∀ i j, i < j → j < d.size → ltV d[j]! d[i]! = false) :
  ∀ m, m ≤ d.size → (compactUpTo d m).Pairwise (fun a b => ltV a b = true) ∧ (∀ j, j < m → d[j]! ∈ compactUpTo d m) ∧ (∀ y ∈ compactUpTo d m, ∃ j, j < m ∧ y = d[j]!)
 | 0, _ => ⟨by simp [compactUpTo], by simp, by simp [compactUpTo]⟩
 | m + 1, hm => by
  obtain ⟨h1, h2, h3⟩ := zR d hn hs m (by omega);rw [compactUpTo_succ]
  cases hk : keeps d m with
  | true =>
   simp only [if_true];refine ⟨?_, ?_, ?_⟩
   ·rw [List.pairwise_append];refine ⟨h1, by simp, ?_⟩;intro a ha b hb;obtain rfl : b = d[m]! := (by simpa using hb);obtain ⟨j, hj, rfl⟩ := h3 a ha
    have hne : d[j]! ≠ d[m]! := by
     intro e;unfold keeps at hk;simp only [decide_eq_true_eq] at hk;rcases hk with hk | hk
     ·omega
     ·have hjm : d[m - 1]! = d[m]! := by
       by_cases hj1 : j = m - 1
       ·rw [← hj1]; exact e
       ·have a1 := hs j (m - 1) (by omega) (by omega);have a2 := hs (m - 1) m (by omega) (by omega);rw [e] at a1;exact uV _ _ (hn _ (by omega)) (hn _ (by omega)) a1 a2
      exact hk hjm.symm
    have a := hs j m hj (by omega)
    cases hl : ltV d[j]! d[m]! with
    | true => rfl
    | false => exact absurd (uV _ _ (hn _ (by omega)) (hn _ (by omega)) hl a) hne
   ·intro j hj;by_cases hjm : j < m
    ·exact List.mem_append_left _ (h2 j hjm)
    ·obtain rfl : j = m := (by omega);exact List.mem_append_right _ (by simp)
   ·intro y hy;rcases List.mem_append.1 hy with hy | hy
    ·obtain ⟨j, hj, e⟩ := h3 y hy;exact ⟨j, by omega, e⟩
    ·exact ⟨m, by omega, by simpa using hy⟩
  | false =>
   simp only [Bool.false_eq_true, if_false, List.append_nil];refine ⟨h1, ?_, fun y hy => by obtain ⟨j, hj, e⟩ := h3 y hy; exact ⟨j, by omega, e⟩⟩;intro j hj;by_cases hjm : j < m
   ·exact h2 j hjm
   ·obtain rfl : j = m := (by omega);unfold keeps at hk;simp only [decide_eq_false_iff_not, not_or, ne_eq, Classical.not_not] at hk;rw [hk.2];exact h2 (j - 1) (by omega)
theorem aAm (S L : List bZ) (hm : ∀ y, y ∈ S ↔ y ∈ L ∧ okV y = true) (hs : S.Pairwise (fun a b => ltV b a = false)) : compact S = cH L := by
 have hget : ∀ j, j < S.toArray.size → S.toArray[j]! ∈ S := fun j hj => by
  have hj' : j < S.length := (by simpa using hj);have : S.toArray[j]! = S[j] := (by simp [hj']);rw [this];exact List.getElem_mem hj'
 obtain ⟨h1, h2, h3⟩ := zR S.toArray (fun j hj => ((hm _).1 (hget j hj)).2) (fun i j hij hj => by
  have hj' : j < S.length := (by simpa using hj);have e1 : S.toArray[j]! = S[j] := (by simp [hj']);have e2 : S.toArray[i]! = S[i] := (by simp [show i < S.length by omega]);rw [e1, e2]
  exact List.pairwise_iff_getElem.1 hs i j (by omega) hj' hij) S.length (by simp)
 obtain ⟨g1, g2⟩ := kZ L;refine aVu _ _ h1 g1 fun x => ?_;rw [g2, ← hm];constructor
 ·intro hx;obtain ⟨j, hj, rfl⟩ := h3 x hx;exact hget j (by simpa using hj)
 ·intro hx;obtain ⟨j, hj, e⟩ := List.getElem_of_mem hx;have := h2 j hj;have e1 : S.toArray[j]! = S[j] := (by simp [hj]);rw [e1, e] at this;exact this
end
section
open Go.RowKit Go.Lib
def dH (v u : Value) : Prop := ∀ k, v.ownBlock = some k → u.ownBlock = some k → False
theorem dH.flip {v u : Value} (h : dH v u) : dH u v := fun k h1 h2 => h k h2 h1
theorem dH.new {w : World} {base size n : Nat} {e : TypeId} {v : Value} {xs : List Value} (h : w.ownsRow base e size v n xs) (a b : Nat) : dH v (.slice (some ⟨w.heap.size, 0, none⟩) a b) := fun k h1 h2 => by
 have h3 : w.heap.size = k := (by simpa [Value.ownBlock] using h2);have := (h.lt k h1).2;omega
theorem dH.grow {w : World} {base size n : Nat} {e : TypeId} {v v' u : Value} {xs : List Value} (h : dH v u) (hat : v'.ownBlock = v.ownBlock ∨ v'.ownBlock = some w.heap.size) (hu : w.ownsRow base e size u n xs) : dH v' u := fun k h1 h2 => by
 rcases hat with e | e
 ·exact h k (e ▸ h1) h2
 ·rw [e] at h1;have h3 : w.heap.size = k := (by simpa using h1);have := (hu.lt k h2).2;omega
end
section
def atW {α : Type} [BEq α] (t : List α) (v : α) : Nat := t.findIdx (· == v)
section
variable {α : Type}
def dI : List (List α) → Nat
 | [] => 1
 | t :: ts => t.length * dI ts
def InV : List (List α) → List α → Prop
 | [], [] => True
 | t :: ts, v :: vs => v ∈ t ∧ InV ts vs
 | _, _ => False
theorem InV.len : ∀ {ts : List (List α)} {vs : List α}, InV ts vs → vs.length = ts.length
 | [], [], _ => rfl
 | _ :: _, _ :: _, h => by rw [List.length_cons, List.length_cons, InV.len h.2]
theorem InV.first (d : α) : ∀ {ts : List (List α)}, (∀ t ∈ ts, t ≠ []) → InV ts (ts.map fun t => t.getD 0 d)
 | [], _ => trivial
 | t :: ts, h => by
  refine ⟨?_, InV.first d fun t ht => h t (List.mem_cons_of_mem _ ht)⟩;have h1 : 0 < t.length := List.length_pos_iff.2 (h t (List.mem_cons_self ..));show t.getD 0 d ∈ t;rw [show t.getD 0 d = t[0] by simp [h1]];exact List.getElem_mem h1
end
section
variable {α : Type} [BEq α] [LawfulBEq α]
theorem zN {t : List α} {v : α} : atW t v < t.length ↔ v ∈ t := by
 unfold atW;rw [List.findIdx_lt_length];constructor
 ·rintro ⟨x, hx, e⟩;rw [← eq_of_beq e];exact hx
 ·intro h;exact ⟨v, h, beq_self_eq_true v⟩
theorem aJo {t : List α} {v : α} (d : α) (h : v ∈ t) : t.getD (atW t v) d = v := by
 have h1 := zN.2 h;have h2 : (t[atW t v] == v) = true := List.findIdx_getElem (p := (· == v)) (w := h1);rw [show t.getD (atW t v) d = t[atW t v] by simp [h1]];exact eq_of_beq h2
theorem bJv {t : List α} (hn : t.Nodup) (k : Nat) (hk : k < t.length) : atW t t[k] = k := by
 have h1 : atW t t[k] < t.length := zN.2 (List.getElem_mem hk);have h2 : (t[atW t t[k]] == t[k]) = true := List.findIdx_getElem (p := (· == t[k])) (w := h1);exact (List.getElem_inj hn).1 (eq_of_beq h2)
def lB : List (List α) → List α → Nat
 | t :: ts, v :: vs => atW t v * dI ts + lB ts vs
 | _, _ => 0
theorem vC : ∀ {ts : List (List α)} {vs : List α}, InV ts vs → lB ts vs < dI ts
 | [], [], _ => by simp [lB, dI]
 | t :: ts, v :: vs, h => by
  have h1 := zN.2 h.1;have h2 := vC h.2;show atW t v * dI ts + lB ts vs < t.length * dI ts;have h3 : (atW t v + 1) * dI ts ≤ t.length * dI ts := Nat.mul_le_mul_right _ h1;rw [Nat.add_mul, Nat.one_mul] at h3;omega
def upV (d : α) : List (List α) → List α → List α × Bool
 | t :: ts, v :: vs => if (upV d ts vs).2 then (v :: (upV d ts vs).1, true) else if atW t v + 1 < t.length then (t.getD (atW t v + 1) d :: (upV d ts vs).1, true) else (t.getD 0 d :: (upV d ts vs).1, false)
 | _, _ => ([], false)
theorem sP (d : α) : ∀ {ts : List (List α)}, (∀ t ∈ ts, t ≠ [] ∧ t.Nodup) → lB ts (ts.map fun t => t.getD 0 d) = 0
 | [], _ => rfl
 | t :: ts, h => by
  have h0 := h t (List.mem_cons_self ..);have h1 : 0 < t.length := List.length_pos_iff.2 h0.1;show atW t (t.getD 0 d) * dI ts + lB ts (ts.map fun t => t.getD 0 d) = 0;rw [show t.getD 0 d = t[0] by simp [h1], bJv h0.2 0 h1, sP d fun t ht => h t (List.mem_cons_of_mem _ ht)];simp
theorem aVx (d : α) : ∀ {ts : List (List α)} {vs : List α}, (∀ t ∈ ts, t ≠ [] ∧ t.Nodup) → InV ts vs →
  ((upV d ts vs).2 = true → InV ts (upV d ts vs).1 ∧ lB ts (upV d ts vs).1 = lB ts vs + 1) ∧ ((upV d ts vs).2 = false → (upV d ts vs).1 = (ts.map fun t => t.getD 0 d) ∧ lB ts vs + 1 = dI ts)
 | [], [], _, _ => ⟨fun h => (by cases h), fun _ => ⟨rfl, rfl⟩⟩
 | t :: ts, v :: vs, h, hin => by
  have h0 := h t (List.mem_cons_self ..);have hts : ∀ t ∈ ts, t ≠ [] ∧ t.Nodup := fun t ht => h t (List.mem_cons_of_mem _ ht);obtain ⟨i1, i2⟩ := aVx d hts hin.2;have hr := vC hin.2;have hf := sP d hts;have hfi := InV.first d (ts := ts) fun t ht => (hts t ht).1;unfold upV;by_cases hb : (upV d ts vs).2 = true
  ·rw [if_pos hb];refine ⟨fun _ => ?_, fun e => by cases e⟩;obtain ⟨k1, k2⟩ := i1 hb;exact ⟨⟨hin.1, k1⟩, by show _ * _ + lB ts _ = _ * _ + lB ts vs + 1; rw [k2]; omega⟩
  ·have hb' : (upV d ts vs).2 = false := (by simpa using hb);obtain ⟨k1, k2⟩ := i2 hb';rw [if_neg hb];by_cases hk : atW t v + 1 < t.length
   ·rw [if_pos hk];refine ⟨fun _ => ?_, fun e => by cases e⟩;have e1 : t.getD (atW t v + 1) d = t[atW t v + 1] := (by simp [hk]);refine ⟨⟨by show t.getD _ d ∈ t; rw [e1]; exact List.getElem_mem hk, by rw [k1]; exact hfi⟩, ?_⟩;show atW t (t.getD (atW t v + 1) d) * dI ts + lB ts (upV d ts vs).1 = atW t v * dI ts + lB ts vs + 1;rw [e1, bJv h0.2 _ hk, k1, hf, Nat.add_mul];omega
   ·rw [if_neg hk];refine ⟨fun e => (by cases e), fun _ => ⟨by rw [k1]; rfl, ?_⟩⟩;have h1 := zN.2 hin.1;show atW t v * dI ts + lB ts vs + 1 = t.length * dI ts;have : t.length = atW t v + 1 := (by omega);rw [this, Nat.add_mul];omega
end
def gX : List Bool → Nat
 | [] => 0
 | c :: cs => (if c then 2 ^ cs.length else 0) + gX cs
def upF : List Bool → List Bool × Bool
 | [] => ([], false)
 | c :: cs => if (upF cs).2 then (c :: (upF cs).1, true) else if c then (false :: (upF cs).1, false) else (true :: (upF cs).1, true)
theorem sT : ∀ c : List Bool, (upF c).1.length = c.length
 | [] => rfl
 | c :: cs => by
  unfold upF;have := sT cs;by_cases h : (upF cs).2 = true
  ·rw [if_pos h, List.length_cons, List.length_cons, this]
  ·rw [if_neg h];cases c <;> simp [this]
theorem uA : ∀ c : List Bool, gX c < 2 ^ c.length
 | [] => by simp [gX]
 | c :: cs => by
  have := uA cs;unfold gX;rw [List.length_cons, Nat.pow_succ];split <;> omega
theorem aPp : ∀ c : List Bool, ((upF c).2 = true → gX (upF c).1 = gX c + 1) ∧ ((upF c).2 = false → gX (upF c).1 = 0 ∧ gX c + 1 = 2 ^ c.length)
 | [] => ⟨fun h => (by cases h), fun _ => ⟨rfl, rfl⟩⟩
 | c :: cs => by
  obtain ⟨h1, h2⟩ := aPp cs;have hl := sT cs;unfold upF;by_cases h : (upF cs).2 = true
  ·rw [if_pos h];refine ⟨fun _ => ?_, fun e => by cases e⟩;have := h1 h;simp only [gX, hl];omega
  ·have h' : (upF cs).2 = false := (by simpa using h);obtain ⟨k1, k2⟩ := h2 h';rw [if_neg h]
   cases c with
   | true =>
    rw [if_pos rfl];refine ⟨fun e => (by cases e), fun _ => ?_⟩;simp only [gX, hl, k1, List.length_cons, Nat.pow_succ];simp;omega
   | false =>
    rw [if_neg (by simp)];refine ⟨fun _ => ?_, fun e => by cases e⟩;simp only [gX, hl, k1];simp;omega
theorem zC : ∀ {c d : List Bool}, c.length = d.length → gX c = gX d → c = d
 | [], [], _, _ => rfl
 | [], _ :: _, h, _ => by simp at h
 | _ :: _, [], h, _ => by simp at h
 | c :: cs, d :: ds, h, e => by
  have hl : cs.length = ds.length := (by simpa using h);have h1 := uA cs;have h2 := uA ds;simp only [gX, hl] at e h1;have hcd : c = d := (by cases c <;> cases d <;> simp at e ⊢ <;> omega);subst hcd;rw [zC hl (by omega)]
def qG : Nat → Nat → List Bool
 | 0, _ => []
 | m + 1, k => decide (2 ^ m ≤ k) :: qG m (if 2 ^ m ≤ k then k - 2 ^ m else k)
theorem yB : ∀ m k, (qG m k).length = m
 | 0, _ => rfl
 | m + 1, k => by rw [qG, List.length_cons, yB]
theorem vY : ∀ m k, k < 2 ^ m → gX (qG m k) = k
 | 0, k, h => by simp [gX, qG] at *; omega
 | m + 1, k, h => by
  rw [Nat.pow_succ] at h;unfold qG gX;rw [yB];by_cases hk : 2 ^ m ≤ k
  ·rw [if_pos (by simpa using hk), if_pos hk, vY m _ (by omega)];omega
  ·rw [if_neg (by simpa using hk), if_neg hk, vY m _ (by omega)];omega
theorem wN (c : List Bool) : qG c.length (gX c) = c :=
 zC (yB _ _) (vY _ _ (uA c))
theorem aTb (m : Nat) : gX (List.replicate m false) = 0 := by
 induction m with
 | zero => rfl
 | succ m ih => simp [List.replicate_succ, gX, ih]
section
variable {α : Type}
def nZ (m : Nat) (T : List Bool → List (List α)) (k : Nat) : Nat := ((List.range k).map fun j => dI (T (qG m j))).sum
theorem nM (m : Nat) (T : List Bool → List (List α)) (k : Nat) : nZ m T (k + 1) = nZ m T k + dI (T (qG m k)) := by
 unfold nZ;rw [List.range_succ, List.map_append, List.sum_append];simp
theorem aBo (m : Nat) (T : List Bool → List (List α)) {j k : Nat} (h : j ≤ k) : nZ m T j ≤ nZ m T k := by
 induction k with
 | zero =>
  obtain rfl : j = 0 := (by omega);exact Nat.le_refl _
 | succ k ih =>
  by_cases e : j = k + 1
  ·rw [e]; exact Nat.le_refl _
  ·rw [nM];have := ih (by omega);omega
def aQj (m : Nat) (T : List Bool → List (List α)) : Nat := nZ m T (2 ^ m)
end
section
variable {α : Type} [BEq α] [LawfulBEq α]
def pV (T : List Bool → List (List α)) (c : List Bool) (vs : List α) : Nat := nZ c.length T (gX c) + lB (T c) vs
def goE (d : α) (T : List Bool → List (List α)) (c : List Bool) (vs : List α) : (List Bool × List α) × Bool :=
 if (upV d (T c) vs).2 then ((c, (upV d (T c) vs).1), true) else if (upF c).2 then (((upF c).1, (T (upF c).1).map fun t => t.getD 0 d), true) else (([], []), false)
theorem bMz (T : List Bool → List (List α)) (c : List Bool) (vs : List α) (h : InV (T c) vs) : pV T c vs < aQj c.length T := by
 unfold pV aQj;have h1 := vC h;have h2 := uA c;have h3 := aBo c.length T (show gX c + 1 ≤ 2 ^ c.length from h2);rw [nM, wN] at h3;omega
theorem aUu (d : α) (T : List Bool → List (List α)) (hT : ∀ c, ∀ t ∈ T c, t ≠ [] ∧ t.Nodup) (c : List Bool) (vs : List α) (h : InV (T c) vs) :
  ((goE d T c vs).2 = true → (goE d T c vs).1.1.length = c.length ∧ InV (T (goE d T c vs).1.1) (goE d T c vs).1.2 ∧ pV T (goE d T c vs).1.1 (goE d T c vs).1.2 = pV T c vs + 1) ∧ ((goE d T c vs).2 = false → pV T c vs + 1 = aQj c.length T) := by
 obtain ⟨h1, h2⟩ := aVx d (hT c) h;obtain ⟨f1, f2⟩ := aPp c;unfold goE;by_cases hb : (upV d (T c) vs).2 = true
 ·rw [if_pos hb];obtain ⟨k1, k2⟩ := h1 hb;refine ⟨fun _ => ⟨rfl, k1, ?_⟩, fun e => by cases e⟩;show nZ c.length T (gX c) + lB (T c) (upV d (T c) vs).1 = nZ c.length T (gX c) + lB (T c) vs + 1;rw [k2];omega
 ·have hb' : (upV d (T c) vs).2 = false := (by simpa using hb);obtain ⟨-, k2⟩ := h2 hb';rw [if_neg hb]
  have hnext : nZ c.length T (gX c + 1) = pV T c vs + 1 := by
   rw [nM, wN];unfold pV;omega
  by_cases hf : (upF c).2 = true
  ·rw [if_pos hf];refine ⟨fun _ => ⟨sT c, InV.first d fun t ht => (hT _ t ht).1, ?_⟩, fun e => by cases e⟩;show nZ (upF c).1.length T (gX (upF c).1) + lB _ _ = _;rw [sP d (hT _), sT, f1 hf, hnext]
  ·have hf' : (upF c).2 = false := (by simpa using hf);obtain ⟨-, k3⟩ := f2 hf';rw [if_neg hf];refine ⟨fun e => (by cases e), fun _ => ?_⟩;unfold aQj;rw [← k3, hnext]
theorem aZa (d : α) (T : List Bool → List (List α)) (hT : ∀ c, ∀ t ∈ T c, t ≠ [] ∧ t.Nodup) (m : Nat) : pV T (List.replicate m false) ((T (List.replicate m false)).map fun t => t.getD 0 d) = 0 := by
 unfold pV;rw [sP d (hT _), aTb];rfl
end
end
section
def oJ : Nat → (List Bool → Nat) → Nat
 | 0, f => f []
 | m + 1, f => oJ m (fun c => f (false :: c)) + oJ m (fun c => f (true :: c))
theorem aPj (m : Nat) (k : Nat) : ∀ (f : List Bool → Nat), oJ m (fun c => k * f c) = k * oJ m f := by
 induction m with
 | zero => intro f; rfl
 | succ m ih =>
  intro f;simp only [oJ];rw [ih, ih, Nat.mul_add]
theorem oM (m : Nat) : ∀ (f g : List Bool → Nat), (∀ c, c.length = m → f c = g c) → oJ m f = oJ m g := by
 induction m with
 | zero => intro f g h; exact h [] rfl
 | succ m ih =>
  intro f g h;simp only [oJ];rw [ih _ _ (fun c hc => h (false :: c) (by simp [hc])), ih _ _ (fun c hc => h (true :: c) (by simp [hc]))]
theorem bAm (a b : Nat) (f : Nat → Nat) : ((List.range (a + b)).map f).sum = ((List.range a).map f).sum + ((List.range b).map fun j => f (a + j)).sum := by
 induction b with
 | zero => simp
 | succ b ih =>
  rw [show a + (b + 1) = a + b + 1 by omega, List.range_succ, List.map_append, List.sum_append, ih, List.range_succ (n := b), List.map_append, List.sum_append];simp;omega
theorem zE : ∀ (m : Nat) (f : List Bool → Nat), ((List.range (2 ^ m)).map fun j => f (qG m j)).sum = oJ m f
 | 0, f => by simp [oJ, qG]
 | m + 1, f => by
  rw [show 2 ^ (m + 1) = 2 ^ m + 2 ^ m by rw [Nat.pow_succ]; omega, bAm];simp only [oJ];rw [← zE m (fun c => f (false :: c)), ← zE m (fun c => f (true :: c))];congr 2
  ·refine List.map_congr_left fun j hj => ?_;have hj' : j < 2 ^ m := List.mem_range.1 hj;simp only [qG];rw [if_neg (by omega), decide_eq_false (by omega)]
  ·refine List.map_congr_left fun j _ => ?_;simp only [qG];rw [if_pos (by omega), decide_eq_true (by omega), show 2 ^ m + j - 2 ^ m = j by omega]
theorem bGu {α : Type} (m : Nat) (T : List Bool → List (List α)) : aQj m T = oJ m (fun c => dI (T c)) := zE m (fun c => dI (T c))
def nN (n : Nat) : Nat := min n 1000000
theorem bGy (a b : Nat) : nN (nN a * b) = nN (a * b) := by
 unfold nN;by_cases h : a ≤ 1000000
 ·rw [Nat.min_eq_left h]
 ·have h1 : min a 1000000 = 1000000 := (by omega);rw [h1];rcases Nat.eq_zero_or_pos b with rfl | hb
  ·simp
  ·have e1 : 1000000 ≤ 1000000 * b := Nat.le_mul_of_pos_right _ hb;have e2 : 1000000 ≤ a * b := Nat.le_trans (by omega : 1000000 ≤ a) (Nat.le_mul_of_pos_right _ hb);rw [Nat.min_eq_right e1, Nat.min_eq_right e2]
theorem bLz (a b : Nat) : nN (a * nN b) = nN (a * b) := by rw [Nat.mul_comm, bGy, Nat.mul_comm]
theorem bMa (a s : Nat) (ha : 0 < a) : nN (a * (nN s + 1)) = nN (a * (s + 1)) := by
 by_cases h : s ≤ 1000000
 ·rw [show nN s = s by unfold nN; omega]
 ·have h1 : nN s = 1000000 := (by unfold nN; omega);rw [h1];have e1 : 1000000 ≤ a * (1000000 + 1) := Nat.le_trans (by omega) (Nat.le_mul_of_pos_left _ ha);have e2 : 1000000 ≤ a * (s + 1) := Nat.le_trans (by omega : 1000000 ≤ s + 1) (Nat.le_mul_of_pos_left _ ha);unfold nN;rw [Nat.min_eq_right e1, Nat.min_eq_right e2]
def lW : List (Int × Nat) → List Bool → Nat
 | [], _ => 1
 | (f, s) :: r, c => if f = 1 then s * lW r c else if f = 3 then (if c.headD false then s else 1) * lW r c.tail else lW r c
def aVz (x : Int × Nat) : Nat := if x.1 = 1 then x.2 else if x.1 = 3 then x.2 + 1 else 1
def aVo (l : List (Int × Nat)) : Nat := (l.map aVz).prod
theorem aIy : ∀ l : List (Int × Nat), oJ (l.filter fun x => x.1 == 3).length (lW l) = aVo l
 | [] => rfl
 | (f, s) :: r => by
  have ih := aIy r;unfold aVo at *;rw [List.map_cons, List.prod_cons, List.filter_cons];by_cases h1 : f = 1
  ·subst h1;rw [if_neg (by simp), oM _ _ (fun c => s * lW r c) (fun c _ => by simp [lW]), aPj, ih];simp [aVz]
  ·by_cases h3 : f = 3
   ·subst h3;rw [if_pos (by simp), List.length_cons];simp only [oJ];rw [oM _ (fun c => lW ((3, s) :: r) (false :: c)) (lW r) (fun c _ => by simp [lW]), oM _ (fun c => lW ((3, s) :: r) (true :: c)) (fun c => s * lW r c) (fun c _ => by simp [lW]), aPj, ih];simp only [aVz];rw [if_neg (by decide), if_pos trivial, Nat.add_mul];omega
   ·rw [if_neg (by simp [h3]), oM _ _ (lW r) (fun c _ => by simp [lW, h1, h3]), ih];simp [aVz, h1, h3]
end
section
open Go.RowKit Go.Lib
def tQ (key : Int) (t : bB) : Option aR := if (t.2.1 != 2) && (dL key t.2.2).2 then some (dL key t.2.2).1 else none
def dW (T : List bB) (x : Nat) (key : Int) (k : Nat) : List aR := ((List.range k).filter fun i => i != x).filterMap fun i => tQ key (T.getD i aM)
theorem aDd (T : List bB) (x : Nat) (key : Int) (k : Nat) : dW T x key (k + 1) = dW T x key k ++ (if k = x then [] else (tQ key (T.getD k aM)).toList) := by
 unfold dW;rw [List.range_succ, List.filter_append, List.filterMap_append];congr 1;by_cases h : k = x
 ·subst h;simp
 ·rw [if_neg h];have : (k != x) = true := (by simpa using h);simp only [List.filter_cons, this, if_true, List.filter_nil]
  cases hq : tQ key (T.getD k aM) with
  | none => rw [List.filterMap_cons_none (by exact hq)]; rfl
  | some v => rw [List.filterMap_cons_some (by exact hq)]; rfl
theorem aNa (key : Int) (t : bB) (v : aR) : tQ key t = some v ↔ dU key t = true ∧ v = (dL key t.2.2).1 := by
 unfold tQ dU;rw [bIu];by_cases h : ((t.2.1 != 2) && t.2.2.any (wrO key)) = true
 ·rw [if_pos h];constructor
  ·intro e;injection e with e;exact ⟨h, e.symm⟩
  ·rintro ⟨-, rfl⟩;rfl
 ·rw [if_neg h];constructor
  ·intro e;cases e
  ·rintro ⟨e, -⟩;exact absurd e h
theorem aYl (T : List bB) (x : Nat) (key : Int) (k : Nat) (v : aR) : v ∈ dW T x key k ↔ ∃ i, i < k ∧ i ≠ x ∧ dU key (T.getD i aM) = true ∧ v = (dL key (T.getD i aM).2.2).1 := by
 unfold dW;rw [List.mem_filterMap];constructor
 ·rintro ⟨i, hi, e⟩;rw [List.mem_filter, List.mem_range] at hi;obtain ⟨e1, e2⟩ := (aNa _ _ _).1 e;exact ⟨i, hi.1, by simpa using hi.2, e1, e2⟩
 ·rintro ⟨i, h1, h2, h3, h4⟩;exact ⟨i, by rw [List.mem_filter, List.mem_range]; exact ⟨h1, by simpa using h2⟩, (aNa _ _ _).2 ⟨h3, h4⟩⟩
theorem yT (T : List bB) (x : Nat) (key : Int) (k : Nat) : (dW T x key k).length ≤ k := by
 induction k with
 | zero => simp [dW]
 | succ k ih =>
  rw [aDd, List.length_append]
  have : (if k = x then [] else (tQ key (T.getD k aM)).toList).length ≤ 1 := by
   split
   ·simp
   ·cases tQ key (T.getD k aM) <;> simp
  omega
def aEb (h : aI) (p : dK) : OpM := (h.2.2.getD p.1 aM).2.2.getD p.2 cG
def gW (h : aI) (p : dK) : Int := (aEb h p).2.1
def jE (h : aI) (p : dK) : List aR := cH (aN :: dW h.2.2 p.1 (gW h p) h.2.2.length)
def jK (T : List bB) (key n : Int) : Bool := T.any fun t => t.2.2.any fun o => wrO key o && o.2.2.2 == n
theorem zL (T : List bB) (key n : Int) : jK T key n = true ↔ ∃ o ∈ T.flatMap (·.2.2), wrO key o = true ∧ o.2.2.2 = n := by
 unfold jK;rw [List.any_eq_true];constructor
 ·rintro ⟨t, ht, h⟩;obtain ⟨o, ho, h2⟩ := List.any_eq_true.1 h;rw [Bool.and_eq_true, beq_iff_eq] at h2;exact ⟨o, List.mem_flatMap.2 ⟨t, ht, ho⟩, h2⟩
 ·rintro ⟨o, ho, h2⟩;obtain ⟨t, ht, ho⟩ := List.mem_flatMap.1 ho;exact ⟨t, ht, List.any_eq_true.2 ⟨o, ho, by rw [Bool.and_eq_true, beq_iff_eq]; exact h2⟩⟩
theorem wH {α : Type} [DecidableEq α] {l m : List α} (hd : l.Nodup) (hs : ∀ x ∈ l, x ∈ m) : l.length ≤ m.length := by
 induction l generalizing m with
 | nil => exact Nat.zero_le _
 | cons a l ih =>
  rw [List.nodup_cons] at hd;have ha := hs a (List.mem_cons_self ..);have h1 := ih hd.2 (m := m.erase a) (fun x hx => (List.mem_erase_of_ne (fun (e : x = a) => hd.1 (by rw [← e]; exact hx))).2 (hs x (List.mem_cons_of_mem _ hx)));rw [List.length_erase_of_mem ha] at h1;have := List.length_pos_of_mem ha;rw [List.length_cons];omega
theorem bCt (T : List bB) (key : Int) : ∃ n : Nat, n ≤ (T.flatMap (·.2.2)).length ∧ jK T key (n : Int) = false := by
 refine Classical.byContradiction fun hno => ?_
 have h1 : ∀ n : Nat, n ≤ (T.flatMap (·.2.2)).length → jK T key (n : Int) = true := fun n hn => by
  cases hq : jK T key (n : Int) with
  | true => rfl
  | false => exact absurd ⟨n, hn, hq⟩ hno
 have h2 : ((List.range ((T.flatMap (·.2.2)).length + 1)).map fun n : Nat => (n : Int)).Nodup := by
  rw [List.nodup_iff_pairwise_ne, List.pairwise_map];exact List.pairwise_lt_range.imp fun {a b} hab e => by omega
 have h3 := wH (m := (T.flatMap (·.2.2)).map fun o => o.2.2.2) h2 (fun x hx => by
  obtain ⟨n, hn, rfl⟩ := List.mem_map.1 hx;obtain ⟨o, ho, -, e⟩ := (zL T key n).1 (h1 n (by have := List.mem_range.1 hn; omega))
  exact List.mem_map.2 ⟨o, ho, e⟩)
 rw [List.length_map, List.length_range, List.length_map] at h3;omega
def lT (T : List bB) (key : Int) : Nat → Nat → Nat
 | 0, k => k
 | m + 1, k => if jK T key (k : Int) then lT T key m (k + 1) else k
def kI (T : List bB) (key : Int) : Nat := lT T key ((T.flatMap (·.2.2)).length) 0
theorem aCs (T : List bB) (key : Int) : ∀ m k, (∃ n : Nat, k ≤ n ∧ n ≤ k + m ∧ jK T key (n : Int) = false) → jK T key (lT T key m k : Nat) = false ∧ k ≤ lT T key m k ∧ lT T key m k ≤ k + m ∧ ∀ j : Nat, k ≤ j → j < lT T key m k → jK T key (j : Int) = true
 | 0, k, ⟨n, h1, h2, h3⟩ => by
  obtain rfl : n = k := (by omega);exact ⟨h3, Nat.le_refl _, Nat.le_refl _, fun j hj hk => by simp only [lT] at hk; omega⟩
 | m + 1, k, ⟨n, h1, h2, h3⟩ => by
  unfold lT
  cases hw : jK T key (k : Int) with
  | false =>
   rw [if_neg (by simp)];exact ⟨hw, Nat.le_refl _, by omega, fun j hj hk => by omega⟩
  | true =>
   rw [if_pos rfl];have hkn : n ≠ k := fun e => (by rw [e, hw] at h3; cases h3);obtain ⟨i1, i2, i3, i4⟩ := aCs T key m (k + 1) ⟨n, by omega, by omega, h3⟩;refine ⟨i1, by omega, by omega, fun j hj hk => ?_⟩;by_cases e : j = k
   ·rw [e]; exact hw
   ·exact i4 j (by omega) hk
theorem oA (T : List bB) (key : Int) : jK T key (kI T key : Nat) = false ∧ kI T key ≤ (T.flatMap (·.2.2)).length ∧ ∀ j : Nat, j < kI T key → jK T key (j : Int) = true := by
 obtain ⟨n, hn, hw⟩ := bCt T key;obtain ⟨h1, -, h3, h4⟩ := aCs T key ((T.flatMap (·.2.2)).length) 0 ⟨n, Nat.zero_le _, by omega, hw⟩;exact ⟨h1, by unfold kI; omega, fun j hj => h4 j (Nat.zero_le _) hj⟩
theorem aXa (T : List bB) (key : Int) (n : Nat) (h : jK T key (n : Int) = false) (hb : ∀ j : Nat, j < n → jK T key (j : Int) = true) : kI T key = n := by
 obtain ⟨h1, -, h3⟩ := oA T key;rcases Nat.lt_trichotomy (kI T key) n with q | q | q
 ·rw [hb _ q] at h1; cases h1
 ·exact q
 ·rw [h3 _ q] at h; cases h
def tJ (h : aI) (key : Int) : aR := (1, (kI h.2.2 key : Nat))
def nB (h : aI) (p : dK) (c : Bool) : List aR := if c then (if (nE h p.1 p.2).2 then [(nE h p.1 p.2).1] else jE h p) ++ [tJ h (gW h p)] else [aN]
def bD (h : aI) (f : List Bool) : List (List aR) := (cY h).map fun p => nB h p ((aL h.2.2 f).getD p.1 false)
theorem qU (h : aI) (f : List Bool) : (bD h f).length = (cY h).length := by simp [bD]
def sA (h : aI) (f : List Bool) : bK := (f, (bD h f).map fun t => t.getD 0 aN)
def oW (h : aI) : bK := sA h (List.replicate (cA aP h).length false)
def nX (h : aI) (w : bK) : Prop := kX h w = true ∧ InV (bD h w.1) w.2
open Classical in
noncomputable def mB (h : aI) (w : bK) : bK × Bool := if nX h w then goE aN (bD h) w.1 w.2 else (([], []), false)
theorem aOo (key : Int) (l : List OpM) (h : (dL key l).2 = true) : ∃ o ∈ l, wrO key o = true ∧ (dL key l).1 = o.2.2 := by
 have key2 : ∀ k, k ≤ l.length → (dL key (l.take k)).2 = true → ∃ o ∈ l, wrO key o = true ∧ (dL key (l.take k)).1 = o.2.2 := by
  intro k
  induction k with
  | zero => intro _ h; simp [dL, vI] at h
  | succ k ih =>
   intro hk h;rw [xK key l k (by omega)] at h ⊢;by_cases hw : wrO key (l.getD k cG) = true
   ·rw [if_pos hw];refine ⟨l.getD k cG, ?_, hw, rfl⟩;rw [show l.getD k cG = l[k] by simp [show k < l.length by omega]];exact List.getElem_mem _
   ·rw [if_neg hw] at h ⊢;exact ih (by omega) h
 have := key2 l.length (Nat.le_refl _);rw [List.take_length] at this;exact this h
theorem aYk {key : Int} {t : bB} {v : aR} (h : tQ key t = some v) : ∃ o ∈ t.2.2, wrO key o = true ∧ v = o.2.2 := by
 unfold tQ at h;split at h
 ·rename_i hc;rw [Bool.and_eq_true] at hc;obtain ⟨o, ho, h1, h2⟩ := aOo key t.2.2 hc.2;injection h with h;exact ⟨o, ho, h1, by rw [← h, h2]⟩
 ·cases h
def xY (h : aI) (key : Int) (v : aR) : Prop := v.1 = 1 ∧ jK h.2.2 key v.2 = true
theorem aQa {h : aI} (hm : qD h) {key : Int} {o : OpM} (ho : o ∈ bU h) (hw : wrO key o = true) : xY h key o.2.2 := by
 have h1 := hm.op o ho;unfold jS at h1;simp only [Bool.and_eq_true, Bool.or_eq_true, Bool.not_eq_true', beq_iff_eq] at h1;have hw' := hw;unfold wrO at hw';rw [Bool.and_eq_true] at hw';refine ⟨?_, (zL _ _ _).2 ⟨o, ho, hw, rfl⟩⟩;rcases h1.2.2 with q | q
 ·rw [hw'.1] at q; cases q
 ·exact q
theorem aNb {h : aI} (hm : qD h) {x : Nat} {key : Int} {v : aR} (hv : v ∈ dW h.2.2 x key h.2.2.length) : xY h key v := by
 unfold dW at hv;obtain ⟨i, hi, e⟩ := List.mem_filterMap.1 hv;have hi' : i < h.2.2.length := List.mem_range.1 (List.mem_filter.1 hi).1;obtain ⟨o, ho, hw, rfl⟩ := aYk e;refine aQa hm (o := o) (List.mem_flatMap.2 ⟨_, ?_, ho⟩) hw;rw [show h.2.2.getD i aM = h.2.2[i] by simp [hi']];exact List.getElem_mem hi'
theorem aIm {h : aI} (hm : qD h) {p : dK} (hp : (nE h p.1 p.2).2 = true) : xY h (gW h p) (nE h p.1 p.2).1 := by
 have hmb : cZ h = true := (dA h).2 hm;unfold nE at hp ⊢;by_cases hc : (0 : Int) ≤ (p.2 : Int) ∧ (p.2 : Int) < ((lL h (p.1 : Int)).length : Int)
 ·have hc' : (0 : Int) ≤ (p.2 : Int) ∧ (p.2 : Int) < (lL h (p.1 : Int)).length := hc;rw [if_pos hc'] at hp ⊢
  have hlt : p.1 < h.2.2.length := by
   refine Classical.byContradiction fun q => ?_;rw [vB (p.1 : Int) (by omega)] at hc;simp at hc;omega
  have e1 : lL h (p.1 : Int) = (h.2.2.getD p.1 aM).2.2 := qN hmb p.1 hlt;have e2 : (((p.2 : Nat) : Int)).toNat = p.2 := (by simp);rw [e1, e2] at hp ⊢;obtain ⟨o, ho, hw, e⟩ := aOo _ _ hp;rw [e];refine aQa hm (o := o) (List.mem_flatMap.2 ⟨_, ?_, List.mem_of_mem_take ho⟩) hw;rw [show h.2.2.getD p.1 aM = h.2.2[p.1] by simp [hlt]];exact List.getElem_mem hlt
 ·rw [if_neg hc] at hp;cases hp
theorem aAj {h : aI} {key : Int} {v : aR} (hv : xY h key v) : v ≠ tJ h key := fun e => by
 have h1 := (oA h.2.2 key).1;have h2 := hv.2;rw [e] at h2;rw [show (tJ h key).2 = ((kI h.2.2 key : Nat) : Int) from rfl, h1] at h2;cases h2
theorem aQb {h : aI} {key : Int} {v : aR} (hv : xY h key v) : cF v = true := by
 unfold cF;rw [hv.1];rfl
theorem bCu (h : aI) (key : Int) : cF (tJ h key) = true := rfl
theorem aFo {h : aI} (hm : qD h) {p : dK} {v : aR} (hv : v ∈ jE h p) : v = aN ∨ xY h (gW h p) v := by
 have h1 := ((kZ _).2 v).1 hv;rcases List.mem_cons.1 h1.1 with e | e
 ·exact .inl e
 ·exact .inr (aNb hm e)
theorem aKx (h : aI) (p : dK) : (jE h p).Nodup := (kZ _).1.imp fun {a b} hab e => by
 subst e;rw [mS] at hab;cases hab
theorem aTz (h : aI) (p : dK) (c : Bool) : nB h p c ≠ [] := by
 unfold nB;cases c <;> simp
theorem bLj {h : aI} (hm : qD h) (p : dK) (c : Bool) : ∀ v ∈ nB h p c, cF v = true := by
 intro v hv;unfold nB at hv
 cases c with
 | false =>
  obtain rfl : v = aN := (by simpa using hv);rfl
 | true =>
  rw [if_pos rfl] at hv;rcases List.mem_append.1 hv with hv | hv
  ·by_cases ho : (nE h p.1 p.2).2 = true
   ·rw [if_pos ho] at hv;obtain rfl : v = (nE h p.1 p.2).1 := (by simpa using hv);exact aQb (aIm hm ho)
   ·rw [if_neg ho] at hv;rcases aFo hm hv with rfl | q
    ·rfl
    ·exact aQb q
  ·obtain rfl : v = tJ h (gW h p) := (by simpa using hv);exact bCu _ _
theorem bAt {h : aI} (hm : qD h) (p : dK) (c : Bool) : (nB h p c).Nodup := by
 unfold nB
 cases c with
 | false => simp
 | true =>
  rw [if_pos rfl, List.nodup_append];refine ⟨?_, by simp, ?_⟩
  ·split
   ·simp
   ·exact aKx h p
  ·intro v hv u hu e;obtain rfl : u = tJ h (gW h p) := (by simpa using hu);subst e;by_cases ho : (nE h p.1 p.2).2 = true
   ·rw [if_pos ho] at hv;have e2 : tJ h (gW h p) = (nE h p.1 p.2).1 := (by simpa using hv);exact aAj (aIm hm ho) e2.symm
   ·rw [if_neg ho] at hv;rcases aFo hm hv with q | q
    ·have := congrArg Prod.fst q;simp [tJ, aN] at this
    ·exact aAj q rfl
theorem sS {h : aI} (hm : qD h) (f : List Bool) : ∀ t ∈ bD h f, t ≠ [] ∧ t.Nodup := by
 intro t ht;obtain ⟨p, -, rfl⟩ := List.mem_map.1 ht;exact ⟨aTz h p _, bAt hm p _⟩
theorem bJx : ∀ {ts : List (List aR)} {vs : List aR}, InV ts vs → (∀ t ∈ ts, ∀ v ∈ t, cF v = true) → vs.all cF = true
 | [], [], _, _ => rfl
 | t :: ts, v :: vs, h, k => by
  rw [List.all_cons, k t (List.mem_cons_self ..) v h.1, bJx h.2 fun t ht => k t (List.mem_cons_of_mem _ ht)];rfl
theorem aHz {h : aI} (hm : cZ h = true) {f : List Bool} {vs : List aR} (hf : f.length = (cA aP h).length) (hv : InV (bD h f) vs) : nX h (f, vs) := by
 refine ⟨?_, hv⟩;unfold kX
 rw [hm, decide_eq_true hf, decide_eq_true (by rw [hv.len, qU] : vs.length = (cY h).length), bJx hv fun t ht v hv => by
  obtain ⟨p, -, rfl⟩ := List.mem_map.1 ht
  exact bLj ((dA h).1 hm) p _ v hv]
 rfl
theorem pC {h : aI} {w : bK} (hw : nX h w) : cZ h = true ∧ w.1.length = (cA aP h).length ∧ w.2.length = (cY h).length := by
 have h1 := hw.1;unfold kX at h1;simp only [Bool.and_eq_true, decide_eq_true_eq] at h1;exact ⟨h1.1, h1.2.1, h1.2.2.1⟩
theorem bJw {h : aI} (hm : cZ h = true) : nX h (oW h) :=
 aHz hm (by simp) (InV.first aN fun t ht => (sS ((dA h).1 hm) _ t ht).1)
theorem bKu {h : aI} {w : bK} (hw : nX h w) (hn : (mB h w).2 = true) : nX h (mB h w).1 ∧ pV (bD h) (mB h w).1.1 (mB h w).1.2 = pV (bD h) w.1 w.2 + 1 := by
 obtain ⟨hm, h1, -⟩ := pC hw;unfold mB at hn ⊢;rw [if_pos hw] at hn ⊢;obtain ⟨k1, k2, k3⟩ := (aUu aN (bD h) (fun c => sS ((dA h).1 hm) c) w.1 w.2 hw.2).1 hn;exact ⟨aHz hm (k1.trans h1) k2, k3⟩
theorem bLp {h : aI} {w : bK} (hw : nX h w) (hn : (mB h w).2 = false) : pV (bD h) w.1 w.2 + 1 = aQj (cA aP h).length (bD h) := by
 obtain ⟨hm, h1, -⟩ := pC hw;unfold mB at hn;rw [if_pos hw] at hn;rw [← h1];exact (aUu aN (bD h) (fun c => sS ((dA h).1 hm) c) w.1 w.2 hw.2).2 hn
theorem bLm {h : aI} (hm : cZ h = true) : pV (bD h) (oW h).1 (oW h).2 = 0 := aZa aN (bD h) (fun c => sS ((dA h).1 hm) c) _
theorem size_append {α : Type} : ∀ a b : List (List α), dI (a ++ b) = dI a * dI b
 | [], b => by simp [dI]
 | t :: a, b => by rw [List.cons_append, dI, dI, size_append a b, Nat.mul_assoc]
theorem aSc (a b : List vW) : bY (a ++ b) = bY a ++ bY b := by simp [bY]
def zX (T : List bB) (i : Nat) : List dK := bY (itT i (T.getD i aM).2.2 (T.getD i aM).2.2.length)
theorem aYn {T : List bB} {i : Nat} {p : dK} (h : p ∈ zX T i) : p.1 = i := by
 unfold zX bY at h;obtain ⟨x, hx, rfl⟩ := List.mem_map.1 h;have h1 := (List.mem_filter.1 hx).1;unfold itT at h1;obtain ⟨k, -, rfl⟩ := List.mem_map.1 h1;rfl
theorem aYo (T : List bB) (n : Nat) : bY (itH T (n + 1)) = bY (itH T n) ++ zX T n := by
 rw [oD, aSc];rfl
def bFz (h : aI) (i : Nat) : Nat := dI ((zX h.2.2 i).map fun p => nB h p true)
def aFt (h : aI) : List (Int × Nat) := (List.range h.2.2.length).map fun i => ((h.2.2.getD i aM).2.1, bFz h i)
theorem bFj {h : aI} {i : Nat} (f : dK → Bool) (c : Bool) (hc : ∀ p ∈ zX h.2.2 i, f p = c) : dI ((zX h.2.2 i).map fun p => nB h p (f p)) = if c then bFz h i else 1 := by
 have e : (zX h.2.2 i).map (fun p => nB h p (f p)) = (zX h.2.2 i).map fun p => nB h p c := List.map_congr_left fun p hp => (by rw [hc p hp]);rw [e]
 cases c with
 | true => rfl
 | false =>
  rw [if_neg (by simp)]
  have : ∀ l : List dK, dI (l.map fun p => nB h p false) = 1 := fun l => by
   induction l with
   | nil => rfl
   | cons p l ih => rw [List.map_cons, dI, ih]; simp [nB]
  exact this _
theorem aIv (h : aI) (c : List Bool) : ∀ n, dI ((bY (itH h.2.2 n)).map fun p => nB h p (c.getD p.1 false)) = ((List.range n).map fun i => if c.getD i false then bFz h i else 1).prod
 | 0 => by simp [itH, bY, dI]
 | n + 1 => by
  rw [aYo, List.map_append, size_append, aIv h c n, List.range_succ, List.map_append, List.prod_append, bFj (fun p => c.getD p.1 false) (c.getD n false) (fun p hp => by rw [aYn hp])];simp
theorem aFd : ∀ (T : List bB) (s : Nat → Nat) (c : List Bool), lW ((List.range T.length).map fun i => ((T.getD i aM).2.1, s i)) c = ((List.range T.length).map fun i => if (aL T c).getD i false then s i else 1).prod
 | [], _, _ => rfl
 | t :: r, s, c => by
  rw [List.length_cons, List.range_succ_eq_map, List.map_cons, List.map_map, List.map_cons, List.map_map, List.prod_cons];have ih := fun c => aFd r (fun i => s (i + 1)) c;have e0 : ((t :: r).getD 0 aM).2.1 = t.2.1 := rfl;have e1 : ((fun i => (((t :: r).getD i aM).2.1, s i)) ∘ Nat.succ) = fun i => ((r.getD i aM).2.1, s (i + 1)) := (by funext i; simp);rw [e0, e1];by_cases h1 : t.2.1 = 1
  ·have e2 : aL (t :: r) c = true :: aL r c := (by rw [aL, if_pos h1]);have e3 : ((fun i => if (aL (t :: r) c).getD i false then s i else 1) ∘ Nat.succ) = fun i => if (aL r c).getD i false then s (i + 1) else 1 := by funext i; rw [e2]; simp
   rw [e3, ← ih c, lW, if_pos h1, e2];simp
  ·by_cases h3 : t.2.1 = 3
   ·have e2 : aL (t :: r) c = c.headD false :: aL r c.tail := (by rw [aL, if_neg h1, if_pos h3]);have e3 : ((fun i => if (aL (t :: r) c).getD i false then s i else 1) ∘ Nat.succ) = fun i => if (aL r c.tail).getD i false then s (i + 1) else 1 := by funext i; rw [e2]; simp
    rw [e3, ← ih c.tail, lW, if_neg h1, if_pos h3, e2];simp
   ·have e2 : aL (t :: r) c = false :: aL r c := (by rw [aL, if_neg h1, if_neg h3]);have e3 : ((fun i => if (aL (t :: r) c).getD i false then s i else 1) ∘ Nat.succ) = fun i => if (aL r c).getD i false then s (i + 1) else 1 := by funext i; rw [e2]; simp
    rw [e3, ← ih c, lW, if_neg h1, if_neg h3, e2];simp
theorem aTm {h : aI} (hm : cZ h = true) (f : List Bool) : dI (bD h f) = lW (aFt h) f := by
 unfold bD aFt;rw [kF hm, aIv, aFd]
theorem aUg {h : aI} (hm : cZ h = true) : ((aFt h).filter fun x => x.1 == 3).length = (cA aP h).length := by
 have e1 : cA aP h = jH aP h.2.2 h.2.2.length := (by unfold cA; rw [if_pos hm]);rw [e1];unfold aFt jH;rw [List.filter_map, List.length_map, List.length_map];rfl
def bMy (h : aI) : Nat := if cZ h then nN (aVo (aFt h)) else 0
theorem bLl {h : aI} (hm : cZ h = true) : aQj (cA aP h).length (bD h) = aVo (aFt h) := by
 rw [bGu, oM _ _ (lW (aFt h)) (fun c _ => aTm hm c), ← aUg hm, aIy]
end
end Go.Proofs.YtdfegfagedeilaaGreatDoor
