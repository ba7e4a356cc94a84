/-
  The walk of layer 11 (hist), the program: whether a history may be. No conditions but that unicode/utf8's two tables are as their initialisers lay them.
  The walks of layer 11 (hist), the program: which transactions are so: a session's, those that may have committed. No conditions but that unicode/utf8's two tables are as their initialisers lay them.
  A history as an argument: what its reading says of its cells; rows of a call's own as histories' parts. No conditions.
  The walk of layer 11 (hist), the program: the reads that were lost. No conditions but that unicode/utf8's two tables are as their initialisers lay them.
  Layers 16 and 17 (world, whole) in plain words: worlds of a history, who committed, a history made whole by a world, the world by which; that it is whole, and that the world is told back; no program in sight. No conditions.
  A region that draws its order, whose last operation waits for all others: one condition on the world serves till that last one. No conditions.
  Layer 11 (hist): whether a history may be, the contract over a history's value. No conditions but that unicode/utf8's two tables are as their initialisers lay them.
  The walks of layer 9's reference (table): a table or not, a name found, a name put in. No conditions.
-/
import Derived.Test.YtdfegfagedeilaaGreatDoorXLh
import Derived.Test.YtdfegfagedeilaaGreatDoorXxNameU
namespace Go.Proofs.YtdfegfagedeilaaGreatDoor
section
open Go.RowKit Go.Shelf Go.Lib
attribute [local go_sem] Oper.semAt_some
theorem nD {B : Nat} {W W' : World} (h : Below W.heap.size W W') : KeepsFrom B W W' :=
 ⟨h.size, fun _ _ _ hk _ => (h.block _ (Array.getElem?_eq_some_iff.1 hk).1).trans hk⟩
theorem sB {w : World} {B : Nat} {t : TypeId} {cs : List Value} (h : Blk w B t cs) {l : Nat} (hne : B ≠ l) (o : Obj) : Blk (w.putObj l o) B t cs := (World.putObj_heap_other hne).trans h
set_option maxRecDepth 100000 in
set_option maxHeartbeats 4000000 in
theorem aCv (v0 v1 v2 : Value) (h : aI) (w : World) (h0 : bF w v0 h.1) (h1 : bF w v1 h.2.1) (h2 : kM w v2 h.2.2) (hm : cU h) (hT : Lib.Utf8Tabs 1 2 w) :
  Calls Tryz.prog 28 #[.agg #[v0, v1, v2]] w fun e w' => e = .returned (.int .i64 (tI h)) ∧ Below w.heap.size w w' := by
 have HH := lhid (fun w' (hb : Below w.heap.size w w') => aXd v0 v1 v2 h w' (h0.below hb) (h1.below hb) (h2.below hb) hm (Utf8Tabs_below hT hb));have HC := lhid (fun B w' (hb : Below w.heap.size w w') (h3 : nG w' B v0 v1 v2) => yF v0 v1 v2 v2 h.1 h.2.2 B w' h3 (h0.below hb) (h2.below hb) hm.2.2.1);have T0 := lhid h0;have T1 := lhid h1;have T2 := lhid h2;have HM := lhid hm;obtain ⟨p2, c2, rfl, -⟩ := h2;obtain ⟨p0, c0, rfl, -⟩ := h0;obtain ⟨p1, c1, rfl, -⟩ := h1;clear hm hT;refine (callsIn_wide (n := 10)).1 ?_;refine callsIn_of_wp_marks Tryz.func28 rfl trivial ?_ rfl;simp only [Tryz.ntmps28, List.size_toArray, List.length_cons, List.length_nil, Nat.reduceAdd, Nat.reduceSub, Array.replicate_succ, Array.replicate_zero, List.push_toArray, List.append_toArray, List.nil_append, List.cons_append];have b0 := Blk.new w 25 [.slice p0 h.1.length c0, .slice p1 h.2.1.length c1, .slice p2 h.2.2.length c2];have b1 := Blk.new (w.alloc (.cells #[.slice p0 h.1.length c0, .slice p1 h.2.1.length c1, .slice p2 h.2.2.length c2] 25)) 32 [.int .i64 0];simp only [World.size_alloc] at b1;replace b0 := b0.alloc (.cells #[.int .i64 0] 32);have hb0 : Below w.heap.size w ((w.alloc (.cells #[.slice p0 h.1.length c0, .slice p1 h.2.1.length c1, .slice p2 h.2.2.length c2] 25)).alloc (.cells #[.int .i64 0] 32)) := ((Below.refl _ w).alloc (Nat.le_refl _) _).alloc (by simp) _
 gi_wp2_with fail
 refine ⟨trivial, (callsIn_wide.2 (HH.out _ hb0)).mono ?_⟩;rintro e w1 ⟨rfl, hb1⟩;have hbw1 := aB hb0 hb1;have d0 := b0.later hb1;have d1 := b1.later hb1;clear b0 b1 hb0 hb1;have x0 := d0.cell 0 rfl;have x1 := d0.cell 1 rfl;have x2 := d0.cell 2 rfl;have y0 := d1.cell 0 rfl;have y1 := d1.frozen 0
 have HR : Hid (∀ b, mV h = b → tI h = if b then (if h.2.2.all (bQ h.1.length) && ((bU h).all (jS h.2.1.length) && xU h) then 0 else 4) else 4) := lhid (fun b hb => by
  unfold tI cZ;rw [hb];cases b
  ·simp
  ·rw [Bool.true_and, if_pos rfl])
 generalize mV h = b at HR;have HR2 := lhid (HR.out _ rfl);have facts : ∀ (w' : World), Below w1.heap.size w1 w' → Below w.heap.size w w' ∧ Blk w' w.heap.size 25 [.slice p0 h.1.length c0, .slice p1 h.2.1.length c1, .slice p2 h.2.2.length c2] ∧ Blk w' (w.heap.size + 1) 32 [.int .i64 0]   := fun w' hb => ⟨aB hbw1 hb, d0.later hb, d1.later hb⟩;have FX := lhid facts;have HB1 := lhid hbw1;have D1 := lhid d1;clear facts HR hbw1 d0 d1
 cases b with
 | false =>
  have hE := HR2.out;rw [if_neg (by simp)] at hE;have HE := lhid hE;clear hE HR2
  gi_wp2_with fail
  refine ⟨trivial, ?_⟩
  gi_wp2_with fail
  have c4 := (D1.out.set 0 (.int .i64 4)).cell 0 rfl;refine ⟨.int .i64 4, ?_, by rw [HE.out], HB1.out.setCell (by show w.heap.size ≤ w.heap.size + 1; omega) _⟩;simp [results, Tryz.results28, go_sem, c4]
 | true =>
  have hE := HR2.out;rw [if_pos rfl] at hE;have HC2 := lhid (HC.out w.heap.size w1 HB1.out ⟨x0, x1, x2⟩)
  have HOK : Hid (h.2.2.all (bQ h.1.length) = true → ∀ t ∈ h.2.2, 0 ≤ t.1 ∧ t.1 < h.1.length) := lhid (fun ha t ht => by
   have := List.all_eq_true.1 ha t ht;simp only [bQ, dV, Bool.and_eq_true, decide_eq_true_eq] at this
   exact this.1)
  clear HC HH;generalize h.2.2.all (bQ h.1.length) = b2 at *
  cases b2 with
  | false =>
   rw [Bool.false_and, if_neg (by simp)] at hE;have HE := lhid hE;clear hE HR2
   gi_wp2_with fail
   refine ⟨trivial, (callsIn_wide.2 HC2.out).mono ?_⟩;rintro e w2 ⟨rfl, hb2⟩;obtain ⟨hw2, d0, d1⟩ := FX.out _ hb2;have y0' := d1.cell 0 rfl;have y1' := d1.frozen 0;have D2 := lhid d1;clear hb2 d0 d1 x0 x1 x2 y0 y1
   gi_wp2_with fail
   have c4 := (D2.out.set 0 (.int .i64 4)).cell 0 rfl;refine ⟨.int .i64 4, ?_, by rw [HE.out], hw2.setCell (by show w.heap.size ≤ w.heap.size + 1; omega) _⟩;simp [results, Tryz.results28, go_sem, c4]
  | true =>
   rw [Bool.true_and] at hE;have HE := lhid hE;clear hE HR2
   gi_wp2_with fail
   refine ⟨trivial, (callsIn_wide.2 HC2.out).mono ?_⟩;rintro e w2 ⟨rfl, hb2⟩;obtain ⟨hw2, d0, d1⟩ := FX.out _ hb2;have x0' := d0.cell 0 rfl;have x1' := d0.cell 1 rfl;have x2' := d0.cell 2 rfl;clear hb2 x0 x1 x2 y0 y1
   gi_wp2_with fail
   refine ⟨trivial, (aSs Fence.wide 9 trivial rfl _ _ _ _).mono ?_⟩;rintro e w3 ⟨rfl, rfl⟩
   gi_wp2_with fail
   have t1 := qT w2 (.slice p0 h.1.length c0) (.slice p1 h.2.1.length c1) (.slice p2 h.2.2.length c2) 25;have k0 := d0.alloc (.cells #[.slice p0 h.1.length c0, .slice p1 h.2.1.length c1, .slice p2 h.2.2.length c2] 25);have k1 := d1.alloc (.cells #[.slice p0 h.1.length c0, .slice p1 h.2.1.length c1, .slice p2 h.2.2.length c2] 25);have hb' := hw2.alloc hw2.size (.cells #[.slice p0 h.1.length c0, .slice p1 h.2.1.length c1, .slice p2 h.2.2.length c2] 25);have hsz : w.heap.size + 1 < w2.heap.size := d1.lt;have hsz1 : (w2.alloc (.cells #[.slice p0 h.1.length c0, .slice p1 h.2.1.length c1, .slice p2 h.2.2.length c2] 25)).heap.size = w2.heap.size + 1 := (by simp);obtain ⟨W1, hW1⟩ : ∃ W1, w2.alloc (.cells #[.slice p0 h.1.length c0, .slice p1 h.2.1.length c1, .slice p2 h.2.2.length c2] 25) = W1 := ⟨_, rfl⟩;rw [hW1] at t1 k0 k1 hb' hsz1 ⊢;clear hW1 d0 d1 x0' x1' x2'
   refine wpIn_rangeFunc_ownH rfl (by omega) (gf := 77) (lb := #[.pointer (some ⟨w2.heap.size, 0, none⟩)]) rfl trivial (enters_of Tryz.func77 (by kernel_rfl) rfl)
    (zB (fun _ => True) Fence.wide 9 trivial rfl (by omega) w2.heap.size w _ _ _ h.2.2 HM.out.2.2.1 T2.out HM.out.2.2.2.2.2 (fun _ _ => trivial) W1 hb' t1) belowK_t (belowK_b (by omega)) (Below.refl _ _) (fun _ => rfl)
    (fun pre W => ((∀ x ∈ pre, jS h.2.1.length x.1.2 = true) ∧ Blk W w.heap.size 25 [.slice p0 h.1.length c0, .slice p1 h.2.1.length c1, .slice p2 h.2.2.length c2] ∧ Blk W (w.heap.size + 1) 32 [.int .i64 0]) ∧ Below w.heap.size w W)
    (fun c pre W => (c = .ret ∧ (∃ x ∈ pre, jS h.2.1.length x.1.2 = false) ∧ Blk W (w.heap.size + 1) 32 [.int .i64 4]) ∧ Below w.heap.size w W)
    (OwnFrom.and (fun s A B row hs hg hr => by
      have hne : ∀ b, b < W1.heap.size → some b ≠ row := fun b hb e => by have := (hr b e.symm).1; omega
      exact ⟨hs.1, hs.2.1.kept hg (hne _ (by omega)), hs.2.2.kept hg (hne _ (by omega))⟩) (ownFrom_below (Nat.le_refl _) (by omega)))
    (fun c => OwnFrom.and (fun s A B row hs hg hr => by
      have hne : ∀ b, b < W1.heap.size → some b ≠ row := fun b hb e => by have := (hr b e.symm).1; omega
      exact ⟨hs.1, hs.2.1, hs.2.2.kept hg (hne _ (by omega))⟩) (ownFrom_below (Nat.le_refl _) (by omega)))
    ⟨⟨(fun x hx => by cases hx), k0, k1⟩, hb'⟩
    (fun x a' W => ∃ Bx, Blk W Bx 82 [.bool x.1.2.1, .int .i64 x.1.2.2.1, .int .i64 x.1.2.2.2.1, .int .i64 x.1.2.2.2.2] ∧ a' = { tmps := #[.agg #[.slice p0 h.1.length c0, .slice p1 h.2.1.length c1, .slice p2 h.2.2.length c2], .pointer (some ⟨w.heap.size, 0, none⟩), .pointer (some ⟨w.heap.size + 1, 0, none⟩), undef, .pointer (some ⟨Bx, 0, none⟩), .agg #[.slice p0 h.1.length c0, .slice p1 h.2.1.length c1, .slice p2 h.2.2.length c2], .bool true, .bool false, .bool false, .pointer (some ⟨w.heap.size, 2, none⟩), .slice p2 h.2.2.length c2, .func (.func 53) #[] #[.pointer (some ⟨w.heap.size, 0, none⟩)], .bool false, .bool false, .agg #[.slice p0 h.1.length c0, .slice p1 h.2.1.length c1, .slice p2 h.2.2.length c2], .func (.func 77) #[] #[.pointer (some ⟨w2.heap.size, 0, none⟩)], .agg #[.int .i64 (x.1.1.1 : Nat), .int .i64 (x.1.1.2 : Nat)], .agg #[.bool x.1.2.1, .int .i64 x.1.2.2.1, .int .i64 x.1.2.2.2.1, .int .i64 x.1.2.2.2.2], undef, undef, undef, undef, undef, undef, undef], defers := [] })
    (fun x a' _ X Y row hs hg hr => by
     obtain ⟨Bx, r2, r3⟩ := hs
     exact ⟨Bx, r2.kept hg (fun e => by obtain ⟨-, o, ho, hc⟩ := hr Bx e.symm; have r2' : X.heap[Bx]? = some _ := r2; rw [r2'] at ho; cases ho; cases hc), r3⟩)
    ?assign ?body ?done ?stop
   case assign =>
    rintro l pre x W K ⟨⟨q1, q2, q3⟩, hB⟩ hK;simp only [aWw]
    gi_wp2
    exact hK _ _ ((KeepsOthers.alloc _ _).from _) ((Below.refl _ W).alloc hB.size _) ⟨⟨q1, q2.alloc _, q3.alloc _⟩, hB.alloc hB.size _⟩ ⟨W.heap.size, Blk.new W _ [_, _, _, _], rfl⟩
   case body =>
    rintro l pre x a' W hl - ⟨⟨q1, q2, q3⟩, hB⟩ ⟨Bx, bX, rfl⟩ hlt2;have x0 := q2.cell 0 rfl;have x1 := q2.cell 1 rfl;have x2 := q2.cell 2 rfl;have z0 := bX.cell 0 rfl;have z1 := bX.cell 1 rfl;have z2 := bX.cell 2 rfl;have z3 := bX.cell 3 rfl;have HO := lhid (bKw (.slice p0 h.1.length c0) (.slice p1 h.2.1.length c1) (.slice p2 h.2.2.length c2) h.2.1 x.1.2 W (T1.out.below hB));have HQ1 := lhid q1;have HB := lhid hB;have Q2 := lhid q2;have Q3 := lhid q3;obtain ⟨b3, hb3⟩ : ∃ b3, jS h.2.1.length x.1.2 = b3 := ⟨_, rfl⟩;have HB3 := lhid hb3;rw [hb3] at HO;clear q1 q2 q3 hB hb3 bX
    gi_wp2_with fail
    refine ⟨trivial, ((callsIn_wide.2 HO.out).inRound l).mono ?_⟩;rintro e w4 ⟨rfl, hb4⟩;have hB4 := aB HB.out hb4;have k4 := Q3.out.later hb4;have y4 := k4.cell 0 rfl;have y5 := k4.frozen 0;have K4 := lhid k4;have KF := lhid (nD (B := W1.heap.size) hb4);have BW : Hid (Below w.heap.size W w4) := lhid (hb4.mono HB.out.size);have Q4 := lhid (Q2.out.later hb4);clear k4 hb4 x0 x1 x2 z0 z1 z2 z3
    cases b3 with
    | true =>
     gi_wp2_with fail
     exact ⟨KF.out, BW.out, ⟨⟨(fun y hy => by
      rcases List.mem_append.1 hy with hy | hy
      ·exact HQ1.out y hy
      ·obtain rfl : y = x := by simpa using hy
       exact HB3.out), Q4.out, K4.out⟩, hB4⟩⟩
    | false =>
     gi_wp2_with fail
     exact ⟨KF.out.trans (KeepsFrom.of_grownBy (grownBy_setCell' _ _ _) (fun j e => by cases e; omega)), ⟨rfl, ⟨x, by simp, HB3.out⟩, K4.out.set 0 _⟩, hB4.setCell (by show w.heap.size ≤ w.heap.size + 1; omega) _⟩
   case done =>
    rintro Dd xs W hD hS ⟨⟨q1, q2, q3⟩, hB⟩ hd
    have hall : (bU h).all (jS h.2.1.length) = true := by
     rw [List.all_eq_true];intro o ho;rw [show bU h = h.2.2.flatMap (·.2.2) from rfl, ← mR, ← hS] at ho;obtain ⟨y, hy, rfl⟩ := List.mem_map.1 ho;obtain ⟨x, hx, rfl⟩ := List.mem_map.1 hy;exact q1 x hx
    have hrk : ∀ o ∈ bU h, 0 ≤ o.2.1 ∧ o.2.1 < h.2.1.length := fun o ho => by
     have := List.all_eq_true.1 hall o ho;simp only [jS, dV, Bool.and_eq_true, decide_eq_true_eq] at this;exact this.1
    have HE2 := HE.out;rw [hall, Bool.true_and] at HE2;have HU := lhid (bJj Fence.wide 9 trivial trivial trivial rfl (by omega) _ _ _ h W (T0.out.below hB) (T1.out.below hB) (T2.out.below hB) HM.out (HOK.out (by trivial)) hrk);have HE3 := lhid HE2;have HB := lhid hB;have Q3 := lhid q3;have HD := lhid hd;have x0 := q2.cell 0 rfl;have x1 := q2.cell 1 rfl;have x2 := q2.cell 2 rfl;generalize xU h = b4 at HU HE3;clear q1 q2 q3 hB hS hall hrk HE2 hd
    gi_wp2_with fail
    refine ⟨trivial, HU.out.mono ?_⟩;rintro e w4 ⟨rfl, hb4⟩;have hB4 := aB HB.out hb4;have k4 := Q3.out.later hb4;have y4 := k4.cell 0 rfl;have y5 := k4.frozen 0;have hd4 : w4.heap[Dd]? = some (.deferred (some [])) := (hb4.block Dd (Array.getElem?_eq_some_iff.1 HD.out).1).trans HD.out;have HD4 := lhid hd4;have K4 := lhid k4;have hne : w.heap.size + 1 ≠ Dd := (by omega);clear k4 hb4 x0 x1 x2 hd4
    cases b4 with
    | true =>
     have k5 := sB (K4.out.set 0 (.int .i64 0)) hne (.deferred none);have K5 := lhid k5;clear k5
     gi_wp2_with fail
     refine ⟨by simp, .inl ⟨_, _, rfl, run_takeDeferred ((Below.heap_setCell _ _ _ _ (by simp; omega)).trans HD4.out), ?_⟩⟩;have c4 := K5.out.cell 0 rfl;exact ⟨.int .i64 0, by simp [results, Tryz.results28, go_sem, c4], by rw [HE3.out]; rfl, (hB4.setCell (by show w.heap.size ≤ w.heap.size + 1; omega) _).trans (belowK_b (w := W1) (by omega) _ Dd _ _ hD ((Below.heap_setCell _ _ _ _ (by simp; omega)).trans HD4.out) rfl rfl)⟩
    | false =>
     have k5 := sB (K4.out.set 0 (.int .i64 4)) hne (.deferred none);have K5 := lhid k5;clear k5
     gi_wp2_with fail
     refine ⟨by simp, .inl ⟨_, _, rfl, run_takeDeferred ((Below.heap_setCell _ _ _ _ (by simp; omega)).trans HD4.out), ?_⟩⟩;have c4 := K5.out.cell 0 rfl;exact ⟨.int .i64 4, by simp [results, Tryz.results28, go_sem, c4], by rw [HE3.out]; rfl, (hB4.setCell (by show w.heap.size ≤ w.heap.size + 1; omega) _).trans (belowK_b (w := W1) (by omega) _ Dd _ _ hD ((Below.heap_setCell _ _ _ _ (by simp; omega)).trans HD4.out) rfl rfl)⟩
   case stop =>
    rintro Dd c pre W hD hpf ⟨⟨rfl, ⟨x, hx, hx2⟩, q3⟩, hB⟩ hd
    have hall : (bU h).all (jS h.2.1.length) = false := by
     rw [List.all_eq_false];refine ⟨x.1.2, ?_, by rw [hx2]; exact Bool.false_ne_true⟩;rw [show bU h = h.2.2.flatMap (·.2.2) from rfl, ← mR];exact List.mem_map_of_mem (hpf.subset (List.mem_map_of_mem hx))
    have HE2 := HE.out;rw [hall, Bool.false_and, if_neg (by simp)] at HE2;have HE3 := lhid HE2;have hne : w.heap.size + 1 ≠ Dd := (by omega);have k5 := sB q3 hne (.deferred none);have K5 := lhid k5;clear k5 HE2 hall hx hx2
    gi_wp2_with fail
    refine ⟨by simp, .inl ⟨_, _, rfl, run_takeDeferred hd, ?_⟩⟩;have c4 := K5.out.cell 0 rfl;exact ⟨.int .i64 4, by simp [results, Tryz.results28, go_sem, c4], by rw [HE3.out], hB.trans (belowK_b (w := W1) (by omega) _ Dd _ _ hD hd rfl rfl)⟩
end
section
open Go.RowKit Go.Lib
def jH (p : bB → Bool) (L : List bB) (k : Nat) : List Int := ((List.range k).filter fun i => p (L.getD i aM)).map fun i : Nat => (i : Int)
theorem uQ (p : bB → Bool) (L : List bB) (k : Nat) : jH p L (k + 1) = if p (L.getD k aM) then jH p L k ++ [(k : Int)] else jH p L k := by
 unfold jH;rw [List.range_succ, List.filter_append, List.map_append];by_cases h : p (L.getD k aM) = true
 ·rw [if_pos h, List.filter_cons, if_pos h];rfl
 ·rw [if_neg h, List.filter_cons, if_neg h];simp
theorem xC (p : bB → Bool) (L : List bB) (k : Nat) : (jH p L k).length ≤ k := by
 unfold jH;rw [List.length_map];exact Nat.le_trans (List.length_filter_le _ _) (by simp)
def cA (p : bB → Bool) (h : aI) : List Int := if cZ h then jH p h.2.2 h.2.2.length else []
theorem jZ (p : bB → Bool) {h : aI} (hm : cZ h = true) : cA p h = jH p h.2.2 h.2.2.length := by simp [cA, hm]
theorem aJk (p : bB → Bool) {h : aI} (hm : cZ h = false) : cA p h = [] := by simp [cA, hm]
def aP (t : bB) : Bool := t.2.1 == 3
theorem kT {h : aI} (hm : cZ h = true) : tI h = 0 := by simp [tI, hm]
theorem pH {h : aI} (hm : cZ h = false) : tI h = 4 := by simp [tI, hm]
set_option maxHeartbeats 1000000 in
theorem aRp (t : bB) (sv : Value) (w : World) :
  Calls Tryz.prog 59 #[.agg #[.int .i64 t.1, .int .i64 t.2.1, sv]] w fun e w' => e = .returned (.bool (aP t)) ∧ Below w.heap.size w w' := by
 go_enter Tryz.func59, Tryz.ntmps59
 go_wp2
 go_ret;exact ⟨rfl, by go_grown⟩
set_option maxRecDepth 100000 in
set_option maxHeartbeats 4000000 in
theorem aPv (v0 v1 v2 : Value) (h : aI) (w : World) (h0 : bF w v0 h.1) (h1 : bF w v1 h.2.1) (h2 : kM w v2 h.2.2) (hm : cU h) (hT : Lib.Utf8Tabs 1 2 w) :
  Calls Tryz.prog 58 #[.agg #[v0, v1, v2], .func (.func 59) #[] #[]] w fun e w' => ∃ v', e = .returned v' ∧ qC w' v' (cA (aP) h) ∧ Below w.heap.size w w' := by
 have HMay := lhid (fun w' (hb : Below w.heap.size w w') => aCv v0 v1 v2 h w' (h0.below hb) (h1.below hb) (h2.below hb) hm (Utf8Tabs_below hT hb));have HMod := lhid hm;obtain ⟨p2, c2, rfl, hp⟩ := h2;obtain ⟨p0, c0, rfl, -⟩ := h0;obtain ⟨p1, c1, rfl, -⟩ := h1;have HX := lhid hp;have m3 : h.2.2.length ≤ 1000 := hm.2.2.1;obtain ⟨i0, hi, hz0, hz1, hz2⟩ := info_parts xD;have en := enters_of Tryz.func59 (by kernel_rfl) rfl;have b0 := Blk.new w 25 [.slice p0 h.1.length c0, .slice p1 h.2.1.length c1, .slice p2 h.2.2.length c2];have hb0 : Below w.heap.size w (w.alloc (.cells #[.slice p0 h.1.length c0, .slice p1 h.2.1.length c1, .slice p2 h.2.2.length c2] 25)) := (Below.refl _ w).alloc (Nat.le_refl _) _;have HB0 := lhid hb0;have B0 := lhid b0;clear hp hm hT b0 hb0;go_enter Tryz.func58, Tryz.ntmps58;(go_wp2_with fail);refine (HMay.out _ HB0.out).mono ?_;rintro e w1 ⟨rfl, hb1⟩;have hbw1 := aB HB0.out hb1;have d0 := B0.out.later hb1;have x2 := d0.cell 2 rfl;clear d0 hb1
 cases hmm : cZ h with
 | false =>
  have HE := lhid (pH hmm);have HW := lhid (aJk (aP) hmm);clear hmm;rw [HE.out];(go_wp2_with fail);go_ret;exact ⟨_, rfl, by rw [HW.out]; exact yP _, hbw1⟩
 | true =>
  have HE := lhid (kT hmm);have HW := lhid (jZ (aP) hmm);clear hmm;rw [HE.out];go_wp2_with fail
  go_loopw [5, 14] (fun l i wr => ∃ k : Nat, k ≤ h.2.2.length ∧ i = .int .i64 k ∧ wr.ownsRow w.heap.size 3 1 l (jH (aP) h.2.2 k).length (mG (jH (aP) h.2.2 k)) ∧ Below w.heap.size w wr) (fun _ i _ => h.2.2.length - (RowKit.intOf i).toNat)
  case atStart => exact ⟨0, Nat.zero_le _, rfl, World.ownsRow_nil _ _ _ _, hbw1⟩
  case round =>
   obtain ⟨k, hk, rfl, hown, hbw⟩ := hrel;by_cases hk1 : k < h.2.2.length
   ·obtain ⟨g, sv, rfl, a1, a2, a3, ⟨p3, c3, rfl, -⟩⟩ := HX.out k hk1;generalize (h.2.2.getD k aM).2.2.length = n3 at a3;have a1' := cell_later hbw a1;have a2' := cell_later hbw a2;have a3' := cell_later hbw a3;have hnx := uQ (aP) h.2.2 k;have hil := xC (aP) h.2.2 k;have hbx := hbw.alloc hbw.size (.cells #[.int .i64 (h.2.2.getD k aM).1, .int .i64 (h.2.2.getD k aM).2.1, .slice p3 n3 c3] 67);obtain ⟨I, hI⟩ : ∃ I, jH (aP) h.2.2 k = I := ⟨_, rfl⟩;rw [hI] at hown hnx hil;obtain ⟨t, ht⟩ : ∃ t, h.2.2.getD k aM = t := ⟨_, rfl⟩;rw [ht] at a1' a2' hnx hbx;have HC := lhid (aRp t (.slice p3 n3 c3) (wr.alloc (.cells #[.int .i64 t.1, .int .i64 t.2.1, .slice p3 n3 c3] 67)));obtain ⟨t1, t2, t3⟩ := t;simp only at a1' a2' hnx HC hbx;have HBX := lhid hbx;obtain ⟨b, hb⟩ : ∃ b, (aP) (t1, t2, t3) = b := ⟨_, rfl⟩;rw [hb] at hnx HC;have HN : Hid ((b = true → jH (aP) h.2.2 (k + 1) = I ++ [(k : Int)]) ∧ (b = false → jH (aP) h.2.2 (k + 1) = I)) := lhid ⟨fun e => by rw [hnx, if_pos e], fun e => by rw [hnx, if_neg (by rw [e]; exact Bool.false_ne_true)]⟩;clear a1 a2 a3 ht hI hb hnx hbx
    cases b with
    | false =>
     (go_wp2_with fail);refine HC.out.mono ?_;rintro e w3 ⟨rfl, hb3⟩;have hown3 := aS (hown.alloc _) hb3;have hbw3 := aB HBX.out hb3;clear hb3 hown;(go_wp2_with fail);go_roundw
     case rel => exact ⟨k + 1, by omega, by go_num, by rw [HN.out.2 (by trivial)]; exact hown3, hbw3⟩
     case measure => simp [RowKit.intOf]; omega
    | true =>
     (go_wp2_with fail);refine HC.out.mono ?_;rintro e w3 ⟨rfl, hb3⟩;have hown3 := aS (hown.alloc _) hb3;have hbw3 := aB HBX.out hb3;clear hb3 hown;(go_wp2_with (at_builtin; refine wpList_append_own _ rfl _ _ 49 rfl w.heap.size 3 i0 (.int .i64 0) 1 8 Tryz.underlying49 hi hz0 hz1 hz2 rfl (by decide) _ _ _ rfl (hown3.alloc _) ⟨w3.heap.size, 0, none⟩ 1 1 [.int .i64 (k : Nat)] rfl rfl (aDx _ _ _) (aEa _) (by unfold maxLen; omega) (by omega) (by have := hbw3.size; simp; omega) ?_));intro v4 w4 hown4 hgrow hnil;have hb4 : Below w.heap.size w w4 := (hbw3.alloc hbw3.size _).grown hgrow (by have := hbw3.size; simp; omega) (fun k hk => (hown3.lt k hk).1);have HO : Hid (w4.ownsRow w.heap.size 3 1 v4 (jH (aP) h.2.2 (k + 1)).length (mG (jH (aP) h.2.2 (k + 1)))) := lhid (by rw [HN.out.1 (by trivial), ← wQ, List.length_append]; exact hown4);clear hown4 hgrow hnil hown3 hbw3;(go_wp2_with fail);go_roundw
     case rel => exact ⟨k + 1, by omega, by go_num, HO.out, hb4⟩
     case measure => simp [RowKit.intOf]; omega
   ·have hke : k = h.2.2.length := (by omega);subst hke;have HO := lhid (bUb hown);clear hown;(go_wp2_with fail);go_ret;exact ⟨_, rfl, by rw [HW.out]; exact HO.out, hbw⟩
set_option maxRecDepth 100000 in
set_option maxHeartbeats 1000000 in
theorem aXs (v0 v1 v2 : Value) (h : aI) (w : World) (h0 : bF w v0 h.1) (h1 : bF w v1 h.2.1) (h2 : kM w v2 h.2.2) (hm : cU h) (hT : Lib.Utf8Tabs 1 2 w) :
  Calls Tryz.prog 30 #[.agg #[v0, v1, v2]] w fun e w' => ∃ v', e = .returned v' ∧ qC w' v' (cA aP h) ∧ Below w.heap.size w w' := by
 have hb : Below w.heap.size w (w.alloc (.cells #[v0, v1, v2] 25)) := (Below.refl _ w).alloc (Nat.le_refl _) _;have H1 := lhid (aPv v0 v1 v2 h _ (h0.below hb) (h1.below hb) (h2.below hb) hm (Utf8Tabs_below hT hb));have HB := lhid hb;obtain ⟨p2, c2, rfl, -⟩ := h2;obtain ⟨p0, c0, rfl, -⟩ := h0;obtain ⟨p1, c1, rfl, -⟩ := h1;clear hb hm hT;go_enter Tryz.func30, Tryz.ntmps30;(go_wp2_with fail);refine H1.out.mono ?_;rintro e w3 ⟨v', rfl, hv, hb3⟩;have HV := lhid hv;clear hv;(go_wp2_with fail);go_ret;exact ⟨_, rfl, HV.out, aB HB.out hb3⟩
end
section
open Go.ChangeShapes Go.WideShapes Go.ChangeAt Go.RowKit Go.Joins
def nO (o : OpM) : List Value := [.bool o.1, .int .i64 o.2.1, .int .i64 o.2.2.1, .int .i64 o.2.2.2]
def OpR (_ : World) (cs : List Value) (o : OpM) : Prop := cs = nO o
def aLm (w : World) (v : Value) (L : List OpM) : Prop := SlR 4 OpR w v L
def bKj (w : World) (cs : List Value) (t : bB) : Prop := ∃ sv, cs = [.int .i64 t.1, .int .i64 t.2.1, sv] ∧ aLm w sv t.2.2
def aBl (w : World) (v : Value) (L : List bB) : Prop := SlR 3 bKj w v L
def bKg (_ : World) (cs : List Value) (s : List UInt8) : Prop := cs = [.string (bs s)] ∧ s.length ≤ 9223372036854775807
def zM (w : World) (v : Value) (L : List (List UInt8)) : Prop := SlR 1 bKg w v L
def aBj (w : World) (v : Value) (h : aI) : Prop := ∃ v0 v1 v2, v = .agg #[v0, v1, v2] ∧ zM w v0 h.1 ∧ zM w v1 h.2.1 ∧ aBl w v2 h.2.2
theorem aLm.below {w w' : World} {v : Value} {L : List OpM} (h : aLm w v L) (hb : Below w.heap.size w w') : aLm w' v L := SlR.below (fun _ _ _ _ _ h => h) h hb
theorem aBl.below {w w' : World} {v : Value} {L : List bB} (h : aBl w v L) (hb : Below w.heap.size w w') : aBl w' v L :=
 SlR.below (fun _ _ _ _ hb ⟨sv, e, h⟩ => ⟨sv, e, h.below hb⟩) h hb
theorem zM.below {w w' : World} {v : Value} {L : List (List UInt8)} (h : zM w v L) (hb : Below w.heap.size w w') : zM w' v L := SlR.below (fun _ _ _ _ _ h => h) h hb
theorem aBj.below {w w' : World} {v : Value} {h : aI} (hh : aBj w v h) (hb : Below w.heap.size w w') : aBj w' v h := by
 obtain ⟨v0, v1, v2, e, h0, h1, h2⟩ := hh;exact ⟨v0, v1, v2, e, h0.below hb, h1.below hb, h2.below hb⟩
section
variable {H : Type} {enc : TypeId × Value → H} {w : World} {base : Nat} {spare : Nat → Bool} {held : Bool}
theorem bEb {n : Nat} {cs : List Value} {y : DataW H × List MemPlace} (h : DataW.trod enc Tryz.prog w base spare held n 9 cs = some y) : ∃ s, bKg w cs s := by
 obtain ⟨s, rfl, -, hs⟩ := DataW.trod_string Tryz.underlying9 h;unfold maxLen at hs;refine ⟨s.data.toList, by rw [← uL], ?_⟩;rw [Lib.size_eq] at hs;exact hs
theorem aEg {n : Nat} {cs : List Value} {y : DataW H × List MemPlace} (h : DataW.trod enc Tryz.prog w base spare held n 57 cs = some y) : ∃ k m : Int, cs = [.int .i64 k, .int .i64 m] := by
 have hl := qV Tryz.underlying57 h;obtain ⟨n0, y0, h0⟩ := jD 0 0 3 1 Tryz.underlying57 h rfl rfl rfl (by kernel_rfl);obtain ⟨n1, y1, h1⟩ := jD 1 1 2 1 Tryz.underlying57 h rfl rfl rfl (by kernel_rfl);obtain ⟨k, hk, -, -⟩ := DataW.trod_int Tryz.underlying3 h0;obtain ⟨m, hm, -, -⟩ := DataW.trod_int Tryz.underlying2 h1;rw [show Tryz.prog.cellsOf 57 = 2 by kernel_rfl] at hl
 match cs, hl with
 | [a, b], _ =>
  simp at hk hm;exact ⟨k, m, by rw [hk, hm]⟩
theorem aEd {n : Nat} {cs : List Value} {y : DataW H × List MemPlace} (h : DataW.trod enc Tryz.prog w base spare held n 22 cs = some y) : ∃ v L, cs = [v] ∧ zM w v L :=
 tY Tryz.underlying22 (by kernel_rfl) (fun _ _ _ h => bEb h) h
end
theorem kB {α : Type} (f : α → List Value) (s : Nat) (hf : ∀ x, (f x).length = s) (d : α) : ∀ (L : List α) (j i : Nat), j < L.length → i < s → (L.flatMap f)[j * s + i]? = (f (L.getD j d))[i]?
 | [], j, _, hj, _ => absurd hj (Nat.not_lt_zero j)
 | x :: L, 0, i, _, hi => by
  rw [List.flatMap_cons, Nat.zero_mul, Nat.zero_add, List.getElem?_append_left (by rw [hf]; exact hi)];rfl
 | x :: L, j + 1, i, hj, hi => by
  rw [List.flatMap_cons, List.getElem?_append_right (by rw [hf, Nat.add_mul]; omega), hf, show (j + 1) * s + i - s = j * s + i by rw [Nat.add_mul]; omega];rw [kB f s hf d L j i (by simpa using hj) hi];rfl
theorem qP {w : World} {base size n : Nat} {e : TypeId} {v : Value} {xs : List Value} (h : w.ownsRow base e size v n xs) : ∃ p cap, v = .slice p n cap ∧ n ≤ cap ∧ cap ≤ maxLen ∧ ∀ q u, q < n * size → xs[q]? = some u → ∃ g, p = some ⟨g, 0, none⟩ ∧ w.cell? ⟨g, q, none⟩ = some u := by
 obtain ⟨h1, ⟨rfl, rfl⟩ | ⟨g, cap, cur, rfl, -, hw, hc, hm, hs, ht⟩⟩ := h
 ·exact ⟨none, 0, rfl, Nat.le_refl _, Nat.zero_le _, fun q u hq => by omega⟩
 ·refine ⟨_, cap, rfl, hc, hm, fun q u hq hu => ⟨g, rfl, ?_⟩⟩;have h2 := congrArg (fun x : List Value => x[q]?) ht;simp only [List.getElem?_take, hq, if_true, Array.getElem?_toList] at h2;rw [cell_of_row w g q _ _ (0, 0) hw, h2, hu]
theorem xJ {α β : Type} {w : World} {base s : Nat} {e : TypeId} {v : Value} {L : List β} (f : β → List Value) (hf : ∀ x, (f x).length = s) (hs : 0 < s) (d : β) (g : β → α) {R : World → List Value → α → Prop} (h : w.ownsRow base e s v L.length (L.flatMap f)) (hR : ∀ x ∈ L, R w (f x) (g x)) : SlR s R w v (L.map g) := by
 obtain ⟨p, cap, rfl, h1, h2, hc⟩ := qP h;refine ⟨p, cap, by rw [List.length_map], by rw [List.length_map]; exact h1, h2, fun j hj => ?_⟩;rw [List.length_map] at hj;have hD : L.getD j d = L[j] := by simp [hj]
 have hg : ∀ i u, i < s → (f L[j])[i]? = some u → ∃ g, p = some ⟨g, 0, none⟩ ∧ w.cell? ⟨g, j * s + i, none⟩ = some u := fun i u hi hu =>
  hc _ u (by
   have : (j + 1) * s ≤ L.length * s := Nat.mul_le_mul_right s hj;rw [Nat.add_mul] at this
   omega) (by rw [kB f s hf d L j i hj hi, hD]; exact hu)
 obtain ⟨g0, rfl, -⟩ := hg 0 ((f L[j])[0]'(by rw [hf]; exact hs)) hs (by simp);refine ⟨_, f L[j], rfl, hf _, fun i u hu => ?_, by rw [List.getElem_map]; exact hR _ (List.getElem_mem hj)⟩;obtain ⟨g1, e1, h3⟩ := hg i u (by have := (List.getElem?_eq_some_iff.1 hu).1; rw [hf] at this; exact this) hu;cases e1;rw [Addr.add_lit, Nat.zero_add];exact h3
def bR (L : List OpM) : List Value := L.flatMap nO
theorem bIo {w : World} {base : Nat} {e : TypeId} {v : Value} {L : List OpM} (h : w.ownsRow base e 4 v L.length (bR L)) : qF w v L := by
 obtain ⟨p, cap, rfl, hcap, -, hc⟩ := qP h;refine ⟨p, cap, rfl, hcap, fun j hj => ?_⟩
 have hg : ∀ i u, i < 4 → (nO (L.getD j cG))[i]? = some u → ∃ g, p = some ⟨g, 0, none⟩ ∧ w.cell? ⟨g, j * 4 + i, none⟩ = some u := fun i u hi hu =>
  hc _ u (by omega) (by rw [bR, kB nO 4 (fun _ => rfl) cG L j i hj hi]; exact hu)
 obtain ⟨g, rfl, h0⟩ := hg 0 _ (by omega) rfl;obtain ⟨g1, e1, h1⟩ := hg 1 _ (by omega) rfl;obtain ⟨g2, e2, h2⟩ := hg 2 _ (by omega) rfl;obtain ⟨g3, e3, h3⟩ := hg 3 _ (by omega) rfl;cases e1; cases e2; cases e3;exact ⟨g, rfl, h0, h1, h2, h3⟩
abbrev aLn := bB × Value
def uH (t : aLn) : List Value := [.int .i64 t.1.1, .int .i64 t.1.2.1, t.2]
def jR (L : List aLn) : List Value := L.flatMap uH
theorem bEk {w : World} {base : Nat} {e : TypeId} {v : Value} {L : List aLn} (h : w.ownsRow base e 3 v L.length (jR L)) (ho : ∀ t ∈ L, qF w t.2 t.1.2.2) : kM w v (L.map (·.1)) := by
 obtain ⟨p, cap, rfl, -, -, hc⟩ := qP h;refine ⟨p, cap, by rw [List.length_map], fun j hj => ?_⟩;rw [List.length_map] at hj
 have hg : ∀ i u, i < 3 → (uH (L.getD j (aM, .nilIface)))[i]? = some u → ∃ g, p = some ⟨g, 0, none⟩ ∧ w.cell? ⟨g, j * 3 + i, none⟩ = some u := fun i u hi hu =>
  hc _ u (by omega) (by rw [jR, kB uH 3 (fun _ => rfl) (aM, .nilIface) L j i hj hi]; exact hu)
 obtain ⟨g, rfl, h0⟩ := hg 0 _ (by omega) rfl;obtain ⟨g1, e1, h1⟩ := hg 1 _ (by omega) rfl;obtain ⟨g2, e2, h2⟩ := hg 2 _ (by omega) rfl;cases e1; cases e2;have hD : (L.map (·.1)).getD j aM = (L.getD j (aM, .nilIface)).1 := by simp [hj]
 have hM : L.getD j (aM, .nilIface) ∈ L := by
  have : L.getD j (aM, .nilIface) = L[j] := (by simp [hj]);rw [this];exact List.getElem_mem hj
 exact ⟨g, _, rfl, by rw [hD]; exact h0, by rw [hD]; exact h1, h2, by rw [hD]; exact ho _ hM⟩
theorem bEj {w : World} {base : Nat} {e : TypeId} {v : Value} {L : List OpM} (h : w.ownsRow base e 4 v L.length (bR L)) : aLm w v L := by
 have := xJ (R := OpR) nO (fun _ => rfl) (by omega) cG id h (fun x _ => rfl)
 rwa [List.map_id] at this
theorem aZk {w : World} {base : Nat} {e : TypeId} {v : Value} {L : List aLn} (h : w.ownsRow base e 3 v L.length (jR L)) (ho : ∀ t ∈ L, aLm w t.2 t.1.2.2) : aBl w v (L.map (·.1)) :=
 xJ (R := bKj) uH (fun _ => rfl) (by omega) (aM, .nilIface) (·.1) h (fun x hx => ⟨_, rfl, ho x hx⟩)
theorem aIj {w : World} {base : Nat} {e : TypeId} {v : Value} {L : List (List UInt8)} (h : w.ownsRow base e 1 v L.length (lM L)) (hl : ∀ s ∈ L, s.length ≤ 9223372036854775807) : zM w v L := by
 have h' : w.ownsRow base e 1 v L.length (L.flatMap fun s => [.string (bs s)]) := by
  have : L.flatMap (fun s => [Value.string (bs s)]) = lM L := by
   unfold lM;clear h hl
   induction L with
   | nil => rfl
   | cons x L ih => rw [List.flatMap_cons, ih]; rfl
  rw [this]; exact h
 have := xJ (R := bKg) (s := 1) (fun s => [.string (bs s)]) (fun _ => rfl) (by omega) [] id h' (fun x hx => ⟨rfl, hl x hx⟩)
 rwa [List.map_id] at this
end
section
open Go.RowKit Go.Shelf Go.Lib
attribute [local go_sem] Oper.semAt_some
abbrev dK := Nat × Nat
def wK (p : dK) : List Value := [.int .i64 (p.1 : Nat), .int .i64 (p.2 : Nat)]
def gJ (L : List dK) : List Value := L.flatMap wK
def nK (w : World) (v : Value) (L : List dK) : Prop := ∃ p cap, v = .slice p L.length cap ∧ ∀ j, j < L.length → ∃ g, p = some ⟨g, 0, none⟩ ∧ w.cell? ⟨g, j * 2, none⟩ = some (.int .i64 ((L.getD j (0, 0)).1 : Nat)) ∧ w.cell? ⟨g, j * 2 + 1, none⟩ = some (.int .i64 ((L.getD j (0, 0)).2 : Nat))
theorem nK.below {w w' : World} {v : Value} {L : List dK} (h : nK w v L) (hb : Below w.heap.size w w') : nK w' v L := by
 obtain ⟨p, cap, hv, ht⟩ := h;refine ⟨p, cap, hv, fun j hj => ?_⟩;obtain ⟨g, hp, h1, h2⟩ := ht j hj;exact ⟨g, hp, cell_later hb h1, cell_later hb h2⟩
theorem aOl (w : World) : nK w (.slice none 0 0) [] := ⟨none, 0, rfl, fun j hj => absurd hj (Nat.not_lt_zero j)⟩
theorem aEm {w : World} {base : Nat} {e : TypeId} {v : Value} {L : List dK} (h : w.ownsRow base e 2 v L.length (gJ L)) : nK w v L := by
 obtain ⟨p, cap, rfl, -, -, hc⟩ := qP h;refine ⟨p, cap, rfl, fun j hj => ?_⟩
 have hg : ∀ i u, i < 2 → (wK (L.getD j (0, 0)))[i]? = some u → ∃ g, p = some ⟨g, 0, none⟩ ∧ w.cell? ⟨g, j * 2 + i, none⟩ = some u := fun i u hi hu =>
  hc _ u (by omega) (by rw [gJ, kB wK 2 (fun _ => rfl) (0, 0) L j i hj hi]; exact hu)
 obtain ⟨g, rfl, h0⟩ := hg 0 _ (by omega) rfl;obtain ⟨g1, e1, h1⟩ := hg 1 _ (by omega) rfl;cases e1;exact ⟨g, rfl, h0, h1⟩
theorem aCw : (Tryz.prog.info? 70).map (fun i => (i.zero, i.size, i.bytes)) = some (some (.agg #[.int .i64 0, .int .i64 0]), 2, 16) := by kernel_rfl
def bY (l : List vW) : List dK := (l.filter fun x => x.2.2.2.1 == 2).map (·.1)
theorem aDm (l : List vW) (x : vW) : bY (l ++ [x]) = if x.2.2.2.1 == 2 then bY l ++ [x.1] else bY l := by
 unfold bY;rw [List.filter_append, List.map_append];by_cases h : (x.2.2.2.1 == 2) = true
 ·rw [if_pos h, List.filter_cons, if_pos h]; rfl
 ·rw [if_neg h, List.filter_cons, if_neg h]; simp
theorem yX (l : List vW) : (bY l).length ≤ l.length := by
 unfold bY;rw [List.length_map];exact List.length_filter_le _ _
def cY (h : aI) : List dK := if cZ h then bY (itH h.2.2 h.2.2.length) else []
theorem kF {h : aI} (hm : cZ h = true) : cY h = bY (itH h.2.2 h.2.2.length) := by simp [cY, hm]
theorem bDk {h : aI} (hm : cZ h = false) : cY h = [] := by simp [cY, hm]
set_option maxRecDepth 100000 in
set_option maxHeartbeats 4000000 in
theorem bDl (v0 v1 v2 : Value) (h : aI) (w : World) (h0 : bF w v0 h.1) (h1 : bF w v1 h.2.1) (h2 : kM w v2 h.2.2) (hm : cU h) (hT : Lib.Utf8Tabs 1 2 w) :
  Calls Tryz.prog 42 #[.agg #[v0, v1, v2]] w fun e w' => ∃ v', e = .returned v' ∧ nK w' v' (cY h) ∧ Below w.heap.size w w' := by
 have HMay := lhid (fun w' (hb : Below w.heap.size w w') => aCv v0 v1 v2 h w' (h0.below hb) (h1.below hb) (h2.below hb) hm (Utf8Tabs_below hT hb));have HM := lhid hm;have T2 := lhid h2;obtain ⟨p2, c2, rfl, -⟩ := h2;obtain ⟨p0, c0, rfl, -⟩ := h0;obtain ⟨p1, c1, rfl, -⟩ := h1;obtain ⟨i0, hi, hz0, hz1, hz2⟩ := info_parts aCw;have b0 := Blk.new w 25 [.slice p0 h.1.length c0, .slice p1 h.2.1.length c1, .slice p2 h.2.2.length c2];have hb0 : Below w.heap.size w (w.alloc (.cells #[.slice p0 h.1.length c0, .slice p1 h.2.1.length c1, .slice p2 h.2.2.length c2] 25)) := (Below.refl _ w).alloc (Nat.le_refl _) _;have HB0 := lhid hb0;have B0 := lhid b0;clear hm hT b0 hb0;refine (callsIn_wide (n := 10)).1 ?_;refine callsIn_of_wp_marks Tryz.func42 rfl trivial ?_ rfl;simp only [Tryz.ntmps42, List.size_toArray, List.length_cons, List.length_nil, Nat.reduceAdd, Nat.reduceSub, Array.replicate_succ, Array.replicate_zero, List.push_toArray, List.append_toArray, List.nil_append, List.cons_append]
 gi_wp2_with fail
 refine ⟨trivial, (callsIn_wide.2 (HMay.out _ HB0.out)).mono ?_⟩;rintro e w1 ⟨rfl, hb1⟩;have hbw1 := aB HB0.out hb1;have d0 := B0.out.later hb1;have x0 := d0.cell 0 rfl;have x1 := d0.cell 1 rfl;have x2 := d0.cell 2 rfl;have hbz : w.heap.size < w1.heap.size := d0.lt;clear d0 hb1
 cases hmm : cZ h with
 | false =>
  have HE := lhid (pH hmm);have HW := lhid (bDk hmm);clear hmm;rw [HE.out]
  gi_wp2_with fail
  exact ⟨_, results_tmp rfl _ _ _, _, rfl, by rw [HW.out]; exact aOl _, hbw1⟩
 | true =>
  have HE := lhid (kT hmm);have HW := lhid (kF hmm);clear hmm;rw [HE.out]
  gi_wp2_with fail
  refine ⟨trivial, (aSs Fence.wide 9 trivial rfl _ _ _ _).mono ?_⟩;rintro e w3 ⟨rfl, rfl⟩
  gi_wp2_with fail
  have z0 := Blk.new w1 51 [.slice none 0 0];have hbl : Below w.heap.size w (w1.alloc (.cells #[.slice none 0 0] 51)) := hbw1.alloc hbw1.size _;have t1 := qT (w1.alloc (.cells #[.slice none 0 0] 51)) (.slice p0 h.1.length c0) (.slice p1 h.2.1.length c1) (.slice p2 h.2.2.length c2) 25;simp only [World.size_alloc] at t1;have k1 : Boxed ((w1.alloc (.cells #[.slice none 0 0] 51)).alloc (.cells #[.slice p0 h.1.length c0, .slice p1 h.2.1.length c1, .slice p2 h.2.2.length c2] 25)) w1.heap.size 51 (.slice none 0 0) := z0.alloc _;have hb' := hbl.alloc hbl.size (.cells #[.slice p0 h.1.length c0, .slice p1 h.2.1.length c1, .slice p2 h.2.2.length c2] 25);have hsz1 : ((w1.alloc (.cells #[.slice none 0 0] 51)).alloc (.cells #[.slice p0 h.1.length c0, .slice p1 h.2.1.length c1, .slice p2 h.2.2.length c2] 25)).heap.size = w1.heap.size + 1 + 1 := (by simp);obtain ⟨W1, hW1⟩ : ∃ W1, (w1.alloc (.cells #[.slice none 0 0] 51)).alloc (.cells #[.slice p0 h.1.length c0, .slice p1 h.2.1.length c1, .slice p2 h.2.2.length c2] 25) = W1 := ⟨_, rfl⟩;rw [hW1] at t1 k1 hb' hsz1 ⊢;clear hW1 x0 x1 x2 z0 hbl
  refine wpIn_rangeFunc_ownH rfl (by omega) (gf := 77) (lb := #[.pointer (some ⟨w1.heap.size + 1, 0, none⟩)]) rfl trivial (enters_of Tryz.func77 (by kernel_rfl) rfl)
   (zB (fun _ => True) Fence.wide 9 trivial rfl (by omega) (w1.heap.size + 1) w _ _ _ h.2.2 HM.out.2.2.1 T2.out HM.out.2.2.2.2.2 (fun _ _ => trivial) W1 hb' t1) belowK_t (belowK_b (by omega)) (Below.refl _ _) (fun _ => rfl)
   (fun pre W => (∃ v, Boxed W w1.heap.size 51 v ∧ W.ownsRow w.heap.size 70 2 v (bY (pre.map (·.1))).length (gJ (bY (pre.map (·.1)))) ∧ True) ∧ Below w.heap.size w W)
   (fun _ _ _ => False)
   (OwnFrom.and ((holdsRow_own w.heap.size w1.heap.size 51 70 2 (fun pre : List { x : vW // True } => (bY (pre.map (·.1))).length) (fun pre => gJ (bY (pre.map (·.1)))) (fun _ _ => True)).from _) (ownFrom_below (Nat.le_refl _) (by omega)))
   (fun _ _ _ _ _ hs _ _ => hs)
   ⟨⟨_, k1, World.ownsRow_nil _ _ _ _, trivial⟩, hb'⟩
   (fun x a' W => ∃ Bp Bx, Blk W Bp 70 [.int .i64 (x.1.1.1 : Nat), .int .i64 (x.1.1.2 : Nat)] ∧ Blk W Bx 82 [.bool x.1.2.1, .int .i64 x.1.2.2.1, .int .i64 x.1.2.2.2.1, .int .i64 x.1.2.2.2.2] ∧ a' = { tmps := #[.agg #[.slice p0 h.1.length c0, .slice p1 h.2.1.length c1, .slice p2 h.2.2.length c2], .pointer (some ⟨w.heap.size, 0, none⟩), .slice none 0 0, .pointer (some ⟨w1.heap.size, 0, none⟩), .pointer (some ⟨Bp, 0, none⟩), .pointer (some ⟨Bx, 0, none⟩), .agg #[.slice p0 h.1.length c0, .slice p1 h.2.1.length c1, .slice p2 h.2.2.length c2], .int .i64 0, .bool false, .agg #[.slice p0 h.1.length c0, .slice p1 h.2.1.length c1, .slice p2 h.2.2.length c2], .func (.func 77) #[] #[.pointer (some ⟨w1.heap.size + 1, 0, none⟩)], .agg #[.int .i64 (x.1.1.1 : Nat), .int .i64 (x.1.1.2 : Nat)], .agg #[.bool x.1.2.1, .int .i64 x.1.2.2.1, .int .i64 x.1.2.2.2.1, .int .i64 x.1.2.2.2.2], undef, undef, undef, undef, undef, undef, undef, undef, undef], defers := [] })
   (fun x a' _ X Y row hs hg hr => by
    obtain ⟨Bp, Bx, r1, r2, r3⟩ := hs;have hn : ∀ B t cs, Blk X B t cs → some B ≠ row := fun B t cs r e => by obtain ⟨-, o, ho, hc⟩ := hr B e.symm; have r' : X.heap[B]? = some _ := r; rw [r'] at ho; cases ho; cases hc
    exact ⟨Bp, Bx, r1.kept hg (hn _ _ _ r1), r2.kept hg (hn _ _ _ r2), r3⟩)
   ?assign ?body ?done ?stop
  case assign =>
   rintro l pre x W K ⟨⟨v, q1, q2, q3⟩, hB⟩ hK;simp only [aWw]
   gi_wp2
   have k1 := Blk.new W 70 [.int .i64 (x.1.1.1 : Nat), .int .i64 (x.1.1.2 : Nat)];have k2 := Blk.new (W.alloc (.cells #[.int .i64 (x.1.1.1 : Nat), .int .i64 (x.1.1.2 : Nat)] 70)) 82 [.bool x.1.2.1, .int .i64 x.1.2.2.1, .int .i64 x.1.2.2.2.1, .int .i64 x.1.2.2.2.2];simp only [World.size_alloc] at k2;exact hK _ _ (((KeepsOthers.alloc _ _).trans (KeepsOthers.alloc _ _)).from _) (((Below.refl _ W).alloc hB.size _).alloc (by have := hB.size; simp; omega) _) ⟨⟨v, (q1.alloc _).alloc _, (q2.alloc _).alloc _, q3⟩, (hB.alloc hB.size _).alloc (by have := hB.size; simp; omega) _⟩ ⟨W.heap.size, W.heap.size + 1, k1.alloc _, k2, rfl⟩
  case body =>
   rintro l pre x a' W hl - ⟨⟨v, q1, q2, -⟩, hB⟩ ⟨Bp, Bx, bP, bX, rfl⟩ hlt2;have hN := aBb h.2.2 HM.out.2.2.2.2.2 h.2.2.length (Nat.le_refl _);have m3 := HM.out.2.2.1;have hll := yX (pre.map (·.1));rw [List.length_map] at hll;have z0 := q1.cell;have z1 := q1.frozen;have y0 := bP.cell 0 rfl;have y1 := bP.cell 1 rfl;have y2 := bX.cell 2 rfl;have hsn := aDm (pre.map (·.1)) x.1;rw [show pre.map (·.1) ++ [x.1] = (pre ++ [x]).map (·.1) by simp] at hsn;have HN1 : Hid (x.1.2.2.2.1 = 2 → bY ((pre ++ [x]).map (·.1)) = bY (pre.map (·.1)) ++ [x.1.1]) := lhid (fun e => by rw [hsn, if_pos (beq_iff_eq.2 e)]);have HF1 : Hid (x.1.2.2.2.1 ≠ 2 → bY ((pre ++ [x]).map (·.1)) = bY (pre.map (·.1))) := lhid (fun e => by rw [hsn, if_neg (by rw [beq_eq_false_iff_ne.2 e]; exact Bool.false_ne_true)]);obtain ⟨I, hI⟩ : ∃ I, bY (pre.map (·.1)) = I := ⟨_, rfl⟩;rw [hI] at q2 HN1 HF1 hll;have hIl : I.length ≤ 1000000 := (by omega);have HB := lhid hB;have Q1 := lhid q1;have hws := hB.size;have hwb : w.heap.size ≤ w1.heap.size := hbw1.size;have hbw := q1.lt;clear hsn hI hll hlt2 hN m3 bP bX hB q1;by_cases hc : x.1.2.2.2.1 = 2
   ·have HN2 := lhid (HN1.out hc);have hcc : (x.1.2.2.2.1 == 2) = true := beq_iff_eq.2 hc;rw [hc] at y2;clear HN1 HF1 hc hcc
    gi_wp2_with (gi_at_builtin; refine wpListIn_append_own _ rfl _ _ 51 rfl w.heap.size 70 i0 (.agg #[.int .i64 0, .int .i64 0]) 2 16 Tryz.underlying51 hi hz0 hz1 hz2 rfl (by decide) _ _ _ rfl (q2.alloc _) ⟨W.heap.size, 0, none⟩ 1 1 [.int .i64 (x.1.1.1 : Nat), .int .i64 (x.1.1.2 : Nat)] rfl rfl (dB _ _ _ _ rfl) (by intro u hu; simp at hu; rcases hu with rfl | rfl <;> rfl) (by unfold maxLen; omega) (by omega) (by simp; omega) ?_)
    intro v4 w4 hown4 hgrow hnil;obtain ⟨g4, c4, rfl⟩ := lV hown4;obtain ⟨r1, r2, r3, r4, r5⟩ := Boxed.appended Q1.out (by decide) q2 (by omega) (by omega) hown4 hgrow;have s1 := r1.cell;have s2 := r1.frozen;have HO : Hid ((w4.setCell ⟨w1.heap.size, 0, none⟩ (.slice (some ⟨g4, 0, none⟩) (I.length + 1) c4)).ownsRow w.heap.size 70 2 (.slice (some ⟨g4, 0, none⟩) (I.length + 1) c4) (bY ((pre ++ [x]).map (·.1))).length (gJ (bY ((pre ++ [x]).map (·.1))))) := lhid (by rw [HN2.out, List.length_append, gJ, List.flatMap_append]; exact r3);have R2 := lhid r2;have R4 := lhid r4;have R5 := lhid r5;clear hown4 hgrow hnil r1 r2 r3 r4 r5 q2
    gi_wp2_with fail
    exact ⟨R4.out.from _, R5.out, ⟨_, R2.out, by first | exact HO.out | exact ⟨HO.out, trivial⟩⟩, HB.out.trans R5.out⟩
   ·have HN2 := lhid (HF1.out hc);have hcc : (x.1.2.2.2.1 == 2) = false := beq_eq_false_iff_ne.2 hc;clear HN1 HF1 hc
    gi_wp2_with fail
    exact ⟨KeepsFrom.refl _ _, Below.refl _ _, ⟨_, Q1.out, by rw [HN2.out]; first | exact q2 | exact ⟨q2, trivial⟩⟩, HB.out⟩
  case done =>
   rintro Dd xs W hD hS ⟨⟨v, q1, q2, -⟩, hB⟩ hd;rw [hS] at q2;have z0 := q1.cell;have q3 := ownsRow_putObj q2 (.deferred none) hd rfl;have HO := lhid (aEm q3);have HD := lhid hd;have HDB : Hid (Below w.heap.size w (W.putObj Dd (.deferred none))) := lhid (hB.trans (belowK_b (w := W1) (by omega) W Dd _ _ hD hd rfl rfl));clear q1 q2 q3 hB hd
   gi_wp2_with fail
   refine ⟨by simp, .inl ⟨_, _, rfl, run_takeDeferred HD.out, ?_⟩⟩;exact ⟨_, results_tmp rfl _ _ _, _, rfl, by rw [HW.out]; exact HO.out, HDB.out⟩
  case stop =>
   rintro D' c pre W _ _ h' _;exact h'.elim
end
section
open Go.RowKit Go.Lib
abbrev aR := Int × Int
abbrev bK := List Bool × List aR
def aN : aR := (0, 0)
def cF (v : aR) : Bool := v.1 == 1 || (v.1 == 0 && v.2 == 0)
def kX (h : aI) (w : bK) : Bool := cZ h && (decide (w.1.length = (cA aP h).length) && (decide (w.2.length = (cY h).length) && w.2.all cF))
def aL : List bB → List Bool → List Bool
 | [], _ => []
 | t :: r, c => if t.2.1 = 1 then true :: aL r c else if t.2.1 = 3 then c.headD false :: aL r c.tail else false :: aL r c
theorem uR (L : List bB) : (jH aP L L.length).length = (L.filter aP).length := by
 have h : ∀ n, n ≤ L.length → (jH aP L n).length = ((L.take n).filter aP).length := by
  intro n
  induction n with
  | zero => intro _; rfl
  | succ n ih =>
   intro hn;have e : L.getD n aM = L[n] := (by simp [show n < L.length by omega]);rw [uQ, List.take_succ_eq_append_getElem (by omega), List.filter_append, List.length_append, ← ih (by omega), e];by_cases hp : aP L[n] = true
   ·rw [if_pos hp]; simp [hp]
   ·rw [if_neg hp]; simp [hp]
 have := h L.length (Nat.le_refl _)
 rwa [List.take_length] at this
theorem yY (L : List bB) : (bY (itH L L.length)).length = ((L.flatMap (·.2.2)).filter jN).length := by
 unfold bY;rw [List.length_map, ← mR, List.filter_map, List.length_map];rfl
theorem lR : ∀ (L : List bB) (c : List Bool), (aL L c).length = L.length
 | [], _ => rfl
 | t :: r, c => by
  unfold aL;split
  ·rw [List.length_cons, lR r, List.length_cons]
  ·split <;> rw [List.length_cons, lR r, List.length_cons]
structure bLx (h : aI) (w : bK) : Prop where
 m : qD h
 c : w.1.length = (h.2.2.filter aP).length
 l : w.2.length = ((bU h).filter jN).length
 v : ∀ x ∈ w.2, cF x = true
theorem jP (h : aI) (w : bK) : kX h w = true ↔ bLx h w := by
 unfold kX;by_cases hm : cZ h = true
 ·rw [jZ _ hm, kF hm, uR, yY, hm];simp only [Bool.true_and, Bool.and_eq_true, decide_eq_true_eq, List.all_eq_true];exact ⟨fun ⟨a, b, c⟩ => ⟨(dA h).1 hm, a, b, c⟩, fun ⟨_, a, b, c⟩ => ⟨a, b, c⟩⟩
 ·have hm' : cZ h = false := (by simpa using hm);rw [hm'];simp only [Bool.false_and];exact ⟨fun e => (by cases e), fun ⟨a, _, _, _⟩ => absurd ((dA h).2 a) hm⟩
end
section
open Go.RowKit
section
variable {P : Program} {ops : Array Oper} {Q : Exit → Act → World → Prop} {md : Region.Mode} {S : World → Prop} {last : Nat}
def qA (P : Program) (md : Region.Mode) (ops : Array Oper) (Q : Exit → Act → World → Prop) (S : World → Prop) (last : Nat) : Nat → Array Bool → Act → World → Prop
 | 0, listed, a, w => Region.ready md ops listed = [] ∧ Q .normal a w
 | fuel + 1, listed, a, w =>
  (Region.ready md ops listed = [] → Q .normal a w) ∧
  ∀ i ∈ Region.ready md ops listed, wpOp P ops Q i (fun a' w' => (i ≠ last → S w') ∧ qA P md ops Q S last fuel (listed.setIfInBounds i true) a' w') a w
theorem vS : ∀ (fuel : Nat) (listed : Array Bool) (a : Act) (w : World), qA P md ops Q S last fuel listed a w → wpAny P md ops Q fuel listed a w
 | 0, _, _, _, h => h
 | fuel + 1, _, _, _, h => ⟨h.1, fun i hi => wpOp_mono (fun a' w' h' => vS fuel _ a' w' h'.2) (h.2 i hi)⟩
def aKz (md : Region.Mode) (ops : Array Oper) (last i : Nat) : Bool := match ops[last]? with
 | some o => o.after.any fun e => Region.binds md e && e.on == i
 | none => false
theorem bDu {i : Nat} {listed : Array Bool} (hw : aKz md ops last i = true) (hi : listed.getD i true = false) : last ∉ Region.ready md ops listed := by
 intro h;obtain ⟨-, o, ho, hall⟩ := mem_ready.1 h;unfold aKz at hw;rw [ho] at hw;obtain ⟨e, he, hb⟩ := Array.any_eq_true'.1 hw;simp only [Bool.and_eq_true, beq_iff_eq] at hb;have h1 := hall e he hb.1;rw [hb.2] at h1;rcases Nat.lt_or_ge i listed.size with h' | h'
 ·simp [h'] at hi h1; rw [hi] at h1; cases h1
 ·simp [Array.getElem?_eq_none h'] at h1
theorem aLj {i : Nat} {oi : Oper} {v : Value} (hi : ops[i]? = some oi) (hsel : ∀ (j : Nat) (o : Oper) cs b, ops[j]? = some o → o.op ≠ .select cs b)
  (hQ : ∀ c a w, Q (.panic c) (a.put oi.dst v) w → Q (.panic c) a w) (hw : aKz md ops last i = true) (hil : i ≠ last) :
  ∀ (fuel : Nat) (listed : Array Bool) (a : Act) (w : World),
   (∀ j oj, ops[j]? = some oj → j ≠ i → listed.getD j true = false → (∀ e ∈ oj.after, Region.binds md e = true → e.on ≠ i) → oi.apart ops oj = true) →
   i ∈ Region.ready md ops listed → YieldsIf P ops S oi v a → S w →
   qA P md ops Q S last fuel (listed.setIfInBounds i true) (a.put oi.dst v) w → qA P md ops Q S last (fuel + 1) listed a w := by
 intro fuel
 induction fuel with
 | zero =>
  intro listed a w _ hr hy hS H;refine ⟨fun h => (by rw [h] at hr; cases hr), fun j hj => ?_⟩;by_cases hji : j = i
  ·subst hji; exact hy.wpOp hi hS ⟨fun _ => hS, H⟩
  ·have := ready_mono hj hji;rw [H.1] at this;cases this
 | succ fuel ih =>
  intro listed a w hfree hr hy hS H;refine ⟨fun h => (by rw [h] at hr; cases hr), fun j hj => ?_⟩;by_cases hji : j = i
  ·subst hji; exact hy.wpOp hi hS ⟨fun _ => hS, H⟩
  ·have hjl : j ≠ last := fun e => bDu hw (mem_ready.1 hr).1 (e ▸ hj);have h1 := H.2 j (ready_mono hj hji);obtain ⟨hjun, oj, hoj, hall⟩ := mem_ready.1 hj
   have hnot : ∀ e ∈ oj.after, Region.binds md e = true → e.on ≠ i := fun e he hb heq => by
    have h1 := hall e he hb;have h0 := (mem_ready.1 hr).1;rw [heq] at h1;rcases Nat.lt_or_ge i listed.size with h' | h'
    ·simp [h'] at h0 h1; rw [h0] at h1; cases h1
    ·simp [Array.getElem?_eq_none h'] at h1
   have h2 := wpOp_putIf hoj (hfree j oj hoj hji hjun hnot) (fun cs b => hsel i oi cs b hi) (fun cs b => hsel j oj cs b hoj) hQ hy h1
   have hfree' : ∀ k ok, ops[k]? = some ok → k ≠ i → (listed.setIfInBounds j true).getD k true = false →
     (∀ e ∈ ok.after, Region.binds md e = true → e.on ≠ i) → oi.apart ops ok = true := fun k ok hk hki hun hno => by
    refine hfree k ok hk hki ?_ hno;by_cases hjk : j = k
    ·subst hjk; exact hjun
    ·rw [getD_set_ne true hjk] at hun; exact hun
   refine wpOp_mono (fun a' w' h3 => ⟨fun _ => h3.2.1 hjl, ih (listed.setIfInBounds j true) a' w' hfree' (ready_mono hr (Ne.symm hji)) h3.1 (h3.2.1 hjl) ?_⟩) h2;rw [Array.setIfInBounds_comm _ _ hji];exact h3.2.2
theorem aG (i : Nat) {d : Tmp} {op : Op} {ty : TypeId} {pos : String} {aft : Array Edge} {gd : Option (Nat × Bool)} {v : Value} {fuel : Nat} {listed : Array Bool} {a : Act} {w : World} (hi : ops[i]? = some ⟨some d, op, ty, pos, aft, gd⟩)
  (hs : Region.noSelect ops = true) (hf : Region.free md ops listed i = true) (hr : (Region.ready md ops listed).contains i = true) (hw : aKz md ops last i = true) (hil : decide (i ≠ last) = true)
  (hQ : ∀ c a w, Q (.panic c) (a.put (some d) v) w → Q (.panic c) a w) (hy : YieldsIf P ops S ⟨some d, op, ty, pos, aft, gd⟩ v a) (hS : S w)
  (h : qA P md ops Q S last fuel (listed.setIfInBounds i true) (a.put (some d) v) w) : qA P md ops Q S last (fuel + 1) listed a w :=
 aLj hi (Region.noSelect_spec hs) hQ hw (of_decide_eq_true hil) fuel listed a w (Region.free_spec hi hf) (by simpa using hr) hy hS h
theorem gB (i : Nat) {d : Option Tmp} {op : Op} {ty : TypeId} {pos : String} {aft : Array Edge} {gd : Option (Nat × Bool)} {fuel : Nat} {listed : Array Bool} {a : Act} {w : World} (ho : ops[i]? = some ⟨d, op, ty, pos, aft, gd⟩) (hr : Region.ready md ops listed = [i])
  (h : ∀ K : Act → World → Prop, Hid (∀ a' w', (i ≠ last → S w') → qA P md ops Q S last fuel (listed.setIfInBounds i true) a' w' → K a' w') → if Region.wanted ⟨d, op, ty, pos, aft, gd⟩ (yielded ops a.tmps) = true then Oper.wp P ⟨d, op, ty, pos, aft, gd⟩ a w K Q else K (a.put d undef) w) : qA P md ops Q S last (fuel + 1) listed a w := by
 refine ⟨fun h0 => (by rw [hr] at h0; cases h0), fun j hj => ?_⟩;rw [hr] at hj;obtain rfl : j = i := (by simpa using hj);exact wpOp_step ho (fun K hK => h K (lhid (fun a' w' h1 h2 => hK a' w' ⟨h1, h2⟩)))
theorem pE {listed : Array Bool} {a : Act} {w : World} (hr : Region.ready md ops listed = []) (h : Q .normal a w) : ∀ fuel, qA P md ops Q S last fuel listed a w
 | 0 => ⟨hr, h⟩
 | _ + 1 => ⟨fun _ => h, by rw [hr]; simp⟩
theorem mI (S : World → Prop) (last : Nat) {id : Nat} {a : Act} {w : World} (hm : P.follows .mixedOrders = true)
  (h : qA P .any ops Q S last ops.size (Array.replicate ops.size false) a w.drew) : (Code.region id ops true).wp P Q a w :=
 wp_region_any hm (vS _ _ _ _ h)
end
end
section
open Go.RowKit Go.Lib
theorem bUd {w : World} {v : Value} {h : aI} (hv : cJ w v h) (hm : cU h) (hT : Lib.Utf8Tabs 1 2 w) : Calls Tryz.prog 28 #[v] w fun e w' => e = .returned (.int .i64 (tI h)) ∧ Below w.heap.size w w' := by
 obtain ⟨v0, v1, v2, rfl, h0, h1, h2⟩ := hv;exact aCv v0 v1 v2 h w h0 h1 h2 hm hT
end
section
open Go.RowKit Go.Lib
theorem uP (L : List (List UInt8)) (k : Nat) (hs : ∀ x ∈ L, x.length ≤ 1000000) : (L.getD k []).length ≤ 1000000 := by
 by_cases h : k < L.length
 ·exact hs _ (aMl L k h)
 ·rw [List.getD_eq_getElem?_getD, List.getElem?_eq_none (by omega)];simp
set_option maxRecDepth 100000 in
set_option maxHeartbeats 2000000 in
theorem aOw (w : World) (v : Value) (L : List (List UInt8)) (hv : bF w v L) (hL : L.length ≤ 1000000) (hs : ∀ x ∈ L, x.length ≤ 1000000) :
  Calls Tryz.prog 40 #[v] w fun e w' => e = .returned (.bool (isT L)) ∧ Below w.heap.size w w' := by
 obtain ⟨p, c, rfl, hp⟩ := hv;have HX := lhid hp;have HS := lhid hs;have HA := lhid (bDc L);have HZ := lhid (aAz L);obtain ⟨R, hR⟩ : ∃ R, isT L = R := ⟨_, rfl⟩;rw [hR] at HA HZ ⊢;clear hp hs hR;go_enter Tryz.func40, Tryz.ntmps40;go_wp2_with fail
 go_loopw [3] (fun i wr => ∃ k : Nat, k ≤ L.length ∧ i = .int .i64 k ∧ (∀ j, j < k → oX L j = true) ∧ Below w.heap.size w wr) (fun i _ => L.length - (RowKit.intOf i).toNat)
 case atStart => exact ⟨0, Nat.zero_le _, rfl, fun j hj => absurd hj (Nat.not_lt_zero j), Below.refl _ _⟩
 case round =>
  obtain ⟨k, hk, rfl, hn, hbw⟩ := hrel;have HN := lhid hn;clear hn;by_cases hlt : k < L.length
  ·have hstep : oX L k = true → ∀ j, j < k + 1 → oX L j = true := fun hg j hj => by
    by_cases hjk : j < k
    ·exact HN.out j hjk
    ·obtain rfl : j = k := (by omega);exact hg
   have HStep := lhid hstep;have HNo := lhid (HA.out k hlt);clear hstep
   cases k with
   | zero =>
    obtain ⟨g, rfl, hc⟩ := HX.out 0 hlt;have HI := lhid (aVq (L.getD 0 []) (uP L 0 HS.out));have hg0 := sG L;obtain ⟨x, hx⟩ : ∃ x, L.getD 0 [] = x := ⟨_, rfl⟩;rw [hx] at hc HI hg0;have c3 : decide ((0 : Int) < 0) = false := (by decide);clear hx
    cases hnx : bA x with
    | false =>
     rw [hnx] at HI hg0;have H1 := lhid (HNo.out hg0);clear hnx hg0;(go_wp2_with fail);have hq0 : ∀ m : cR wr, m.w.cell? ⟨g, 0, none⟩ = some (.string (bs x)) := fun m => cell_later m.h (cell_later hbw hc);refine cD (by kernel_rfl) (by kernel_rfl) ?_;(repeat (go_big_quiet_step (first | (go_at_call 60; exact cR.call (HI.out _)))));refine wpQuiet_nil ?_;intro _ hw';obtain ⟨⟨w3, hb3⟩, hw''⟩ := hw';have hw3 : w3 = _ := hw''.symm;subst hw3;(try dsimp only at hb3);(go_wp2_with fail);go_ret;exact ⟨by rw [H1.out]; rfl, aB hbw hb3⟩
    | true =>
     rw [hnx] at HI hg0;have H1 := lhid (HStep.out hg0);have hwr : IntKind.i64.wrap 1 = 1 := (by decide);clear hnx hg0;(go_wp2_with fail);have hq0 : ∀ m : cR wr, m.w.cell? ⟨g, 0, none⟩ = some (.string (bs x)) := fun m => cell_later m.h (cell_later hbw hc);refine cD (by kernel_rfl) (by kernel_rfl) ?_;(repeat (go_big_quiet_step (first | (go_at_call 60; exact cR.call (HI.out _)))));refine wpQuiet_nil ?_;intro _ hw';obtain ⟨⟨w3, hb3⟩, hw''⟩ := hw';have hw3 : w3 = _ := hw''.symm;subst hw3;(try dsimp only at hb3);(go_wp2_with fail);go_roundw
     case rel => exact ⟨1, by omega, rfl, H1.out, aB hbw hb3⟩
     case measure => simp [RowKit.intOf]; omega
   | succ q =>
    obtain ⟨g, rfl, hc⟩ := HX.out (q + 1) hlt;obtain ⟨g', hg', hd⟩ := HX.out q (by omega);obtain rfl : g = g' := (by simpa using hg');have HI := lhid (aVq (L.getD (q + 1) []) (uP L (q + 1) HS.out));have HL := lhid (aZy (L.getD q []) (L.getD (q + 1) []) (uP L q HS.out) (uP L (q + 1) HS.out));have hg0 := qJ L q;have hlt0 : ltN (L.getD q []) (L.getD (q + 1) []) = bE (aQ (L.getD q [])) (aQ (L.getD (q + 1) [])) := rfl;obtain ⟨x, hx⟩ : ∃ x, L.getD (q + 1) [] = x := ⟨_, rfl⟩;obtain ⟨y, hy⟩ : ∃ y, L.getD q [] = y := ⟨_, rfl⟩;rw [hx] at hc HI HL hg0 hlt0;rw [hy] at hd HL hg0 hlt0;rw [← hlt0] at HL;have c3 : decide ((0 : Int) < (q : Int) + 1) = true := decide_eq_true (by omega);clear hx hy hlt0 hg'
    cases hnx : bA x with
    | false =>
     rw [hnx] at HI hg0;have H1 := lhid (HNo.out hg0);clear hnx hg0;(go_wp2_with fail);have hq0 : ∀ m : cR wr, m.w.cell? ⟨g, q + 1, none⟩ = some (.string (bs x)) := fun m => cell_later m.h (cell_later hbw hc);have hq1 : ∀ m : cR wr, m.w.cell? ⟨g, q, none⟩ = some (.string (bs y)) := fun m => cell_later m.h (cell_later hbw hd);refine cD (by kernel_rfl) (by kernel_rfl) ?_;(repeat (go_big_quiet_step (first | (go_at_call 60; exact cR.call (HI.out _)))));refine wpQuiet_nil ?_;intro _ hw';obtain ⟨⟨w3, hb3⟩, hw''⟩ := hw';have hw3 : w3 = _ := hw''.symm;subst hw3;(try dsimp only at hb3);(go_wp2_with fail);go_ret;exact ⟨by rw [H1.out]; rfl, aB hbw hb3⟩
    | true =>
     rw [hnx, Bool.true_and] at hg0;rw [hnx] at HI
     cases hl : ltN y x with
     | false =>
      rw [hl] at HL hg0;have H1 := lhid (HNo.out hg0);clear hnx hg0 hl;(go_wp2_with fail);have hq0 : ∀ m : cR wr, m.w.cell? ⟨g, q + 1, none⟩ = some (.string (bs x)) := fun m => cell_later m.h (cell_later hbw hc);have hq1 : ∀ m : cR wr, m.w.cell? ⟨g, q, none⟩ = some (.string (bs y)) := fun m => cell_later m.h (cell_later hbw hd);refine cD (by kernel_rfl) (by kernel_rfl) ?_;(repeat (go_big_quiet_step (first | (go_at_call 60; exact cR.call (HI.out _)) | (go_at_call 61; exact cR.call (HL.out _)))));refine wpQuiet_nil ?_;intro _ hw';obtain ⟨⟨w3, hb3⟩, hw''⟩ := hw';have hw3 : w3 = _ := hw''.symm;subst hw3;(try dsimp only at hb3);(go_wp2_with fail);go_ret;exact ⟨by rw [H1.out]; rfl, aB hbw hb3⟩
     | true =>
      rw [hl] at HL hg0;have H1 := lhid (HStep.out hg0);have hwr : IntKind.i64.wrap ((q : Int) + 1 + 1) = (q : Int) + 1 + 1 := IntWalk.i64_in _ (by omega);clear hnx hg0 hl;(go_wp2_with fail);have hq0 : ∀ m : cR wr, m.w.cell? ⟨g, q + 1, none⟩ = some (.string (bs x)) := fun m => cell_later m.h (cell_later hbw hc);have hq1 : ∀ m : cR wr, m.w.cell? ⟨g, q, none⟩ = some (.string (bs y)) := fun m => cell_later m.h (cell_later hbw hd);refine cD (by kernel_rfl) (by kernel_rfl) ?_;(repeat (go_big_quiet_step (first | (go_at_call 60; exact cR.call (HI.out _)) | (go_at_call 61; exact cR.call (HL.out _)))));refine wpQuiet_nil ?_;intro _ hw';obtain ⟨⟨w3, hb3⟩, hw''⟩ := hw';have hw3 : w3 = _ := hw''.symm;subst hw3;(try dsimp only at hb3);(go_wp2_with fail);go_roundw
      case rel => exact ⟨q + 1 + 1, by omega, by go_num, H1.out, aB hbw hb3⟩
      case measure => simp [RowKit.intOf]; omega
  ·have hke : k = L.length := (by omega);subst hke;have H1 := lhid (HZ.out HN.out);(go_wp2_with fail);go_ret;exact ⟨by rw [H1.out]; rfl, hbw⟩
end
end Go.Proofs.YtdfegfagedeilaaGreatDoor
