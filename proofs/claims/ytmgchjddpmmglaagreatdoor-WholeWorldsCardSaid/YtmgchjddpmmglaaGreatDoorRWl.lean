/-
  The walk of layer 11 (hist), the program: whether a history may be. No conditions but that unicode/utf8's two tables are as their initialisers lay them.
  The walks of layer 11 (hist), the program: which transactions are so: a session's, those that may have committed. No conditions but that unicode/utf8's two tables are as their initialisers lay them.
  A history as an argument: what its reading says of its cells; rows of a call's own as histories' parts. No conditions.
  The walk of layer 11 (hist), the program: the reads that were lost. No conditions but that unicode/utf8's two tables are as their initialisers lay them.
  Layer 14 (erase) in plain words: a history without its lost reads, where an operation stands then; that it may be, has none, and stays so; no program in sight. No conditions.
  Whether two operations, transactions, histories are the same can be told. No conditions.
-/
import Derived.Test.YtmgchjddpmmglaaGreatDoorRWk
namespace Go.Proofs.YtmgchjddpmmglaaGreatDoor
section
open Go.RowKit Go.Shelf Go.Lib
attribute [local go_sem] Oper.semAt_some
theorem keepsFrom_below {B : Nat} {W W' : World} (h : Below W.heap.size W W') : KeepsFrom B W W' :=
 ⟨h.size, fun _ _ _ hk _ => (h.block _ (Array.getElem?_eq_some_iff.1 hk).1).trans hk⟩
theorem blk_put {w : World} {B : Nat} {t : TypeId} {cs : List Value} (h : Blk w B t cs) {l : Nat} (hne : B ≠ l) (o : Obj) : Blk (w.putObj l o) B t cs := (World.putObj_heap_other hne).trans h
set_option maxRecDepth 100000 in
set_option maxHeartbeats 4000000 in
theorem hmay_any (v0 v1 v2 : Value) (h : HistM) (w : World) (h0 : Texts w v0 h.1) (h1 : Texts w v1 h.2.1) (h2 : TxnsS w v2 h.2.2) (hm : Modst h) (hT : Lib.Utf8Tabs 1 2 w) :
  Calls Tryz.prog 76 #[.agg #[v0, v1, v2]] w fun e w' => e = .returned (.int .i64 (errH h)) ∧ Below w.heap.size w w' := by
 have HH := Lib.hid (fun w' (hb : Below w.heap.size w w') => heads_any v0 v1 v2 h w' (h0.below hb) (h1.below hb) (h2.below hb) hm (Utf8Tabs_below hT hb))
 have HC := Lib.hid (fun B w' (hb : Below w.heap.size w w') (h3 : Three w' B v0 v1 v2) => containsfunc_any v0 v1 v2 v2 h.1 h.2.2 B w' h3 (h0.below hb) (h2.below hb) hm.2.2.1)
 have T0 := Lib.hid h0
 have T1 := Lib.hid h1
 have T2 := Lib.hid h2
 have HM := Lib.hid hm
 obtain ⟨p2, c2, rfl, -⟩ := h2
 obtain ⟨p0, c0, rfl, -⟩ := h0
 obtain ⟨p1, c1, rfl, -⟩ := h1
 clear hm hT
 refine (callsIn_wide (n := 10)).1 ?_
 refine callsIn_of_wp_marks Tryz.func76 rfl trivial ?_ rfl
 simp only [Tryz.ntmps76, List.size_toArray, List.length_cons, List.length_nil, Nat.reduceAdd, Nat.reduceSub, Array.replicate_succ, Array.replicate_zero, List.push_toArray, List.append_toArray, List.nil_append, List.cons_append]
 have b0 := Blk.new w 25 [.slice p0 h.1.length c0, .slice p1 h.2.1.length c1, .slice p2 h.2.2.length c2]
 have b1 := Blk.new (w.alloc (.cells #[.slice p0 h.1.length c0, .slice p1 h.2.1.length c1, .slice p2 h.2.2.length c2] 25)) 26 [.int .i64 0]
 simp only [World.size_alloc] at b1
 replace b0 := b0.alloc (.cells #[.int .i64 0] 26)
 have hb0 : Below w.heap.size w ((w.alloc (.cells #[.slice p0 h.1.length c0, .slice p1 h.2.1.length c1, .slice p2 h.2.2.length c2] 25)).alloc (.cells #[.int .i64 0] 26)) := ((Below.refl _ w).alloc (Nat.le_refl _) _).alloc (by simp) _
 gi_wp2_with fail
 refine ⟨trivial, (callsIn_wide.2 (HH.out _ hb0)).mono ?_⟩
 rintro e w1 ⟨rfl, hb1⟩
 have hbw1 := below_next hb0 hb1
 have d0 := b0.later hb1
 have d1 := b1.later hb1
 clear b0 b1 hb0 hb1
 have x0 := d0.cell 0 rfl
 have x1 := d0.cell 1 rfl
 have x2 := d0.cell 2 rfl
 have y0 := d1.cell 0 rfl
 have y1 := d1.frozen 0
 have HR : RowKit.Hid (∀ b, okHeads h = b → errH h = if b then (if h.2.2.all (okTxn h.1.length) && ((allOps h).all (okOp h.2.1.length) && usedH h) then 0 else 4) else 4) := Lib.hid (fun b hb => by
  unfold errH mayH
  rw [hb]
  cases b
  ·simp
  ·rw [Bool.true_and, if_pos rfl])
 generalize okHeads h = b at HR
 have HR2 := Lib.hid (HR.out _ rfl)
 have facts : ∀ (w' : World), Below w1.heap.size w1 w' → Below w.heap.size w w' ∧ Blk w' w.heap.size 25 [.slice p0 h.1.length c0, .slice p1 h.2.1.length c1, .slice p2 h.2.2.length c2] ∧ Blk w' (w.heap.size + 1) 26 [.int .i64 0]   := fun w' hb => ⟨below_next hbw1 hb, d0.later hb, d1.later hb⟩
 have FX := Lib.hid facts
 have HB1 := Lib.hid hbw1
 have D1 := Lib.hid d1
 clear facts HR hbw1 d0 d1
 cases b with
 | false =>
  have hE := HR2.out
  rw [if_neg (by simp)] at hE
  have HE := Lib.hid hE
  clear hE HR2
  gi_wp2_with fail
  refine ⟨trivial, ?_⟩
  gi_wp2_with fail
  have c4 := (D1.out.set 0 (.int .i64 4)).cell 0 rfl
  refine ⟨.int .i64 4, ?_, by rw [HE.out], HB1.out.setCell (by show w.heap.size ≤ w.heap.size + 1; omega) _⟩
  simp [results, Tryz.results76, go_sem, c4]
 | true =>
  have hE := HR2.out
  rw [if_pos rfl] at hE
  have HC2 := Lib.hid (HC.out w.heap.size w1 HB1.out ⟨x0, x1, x2⟩)
  have HOK : RowKit.Hid (h.2.2.all (okTxn h.1.length) = true → ∀ t ∈ h.2.2, 0 ≤ t.1 ∧ t.1 < h.1.length) := Lib.hid (fun ha t ht => by
   have := List.all_eq_true.1 ha t ht
   simp only [okTxn, inside, Bool.and_eq_true, decide_eq_true_eq] at this
   exact this.1)
  clear HC HH
  generalize h.2.2.all (okTxn h.1.length) = b2 at *
  cases b2 with
  | false =>
   rw [Bool.false_and, if_neg (by simp)] at hE
   have HE := Lib.hid hE
   clear hE HR2
   gi_wp2_with fail
   refine ⟨trivial, (callsIn_wide.2 HC2.out).mono ?_⟩
   rintro e w2 ⟨rfl, hb2⟩
   obtain ⟨hw2, d0, d1⟩ := FX.out _ hb2
   have y0' := d1.cell 0 rfl
   have y1' := d1.frozen 0
   have D2 := Lib.hid d1
   clear hb2 d0 d1 x0 x1 x2 y0 y1
   gi_wp2_with fail
   have c4 := (D2.out.set 0 (.int .i64 4)).cell 0 rfl
   refine ⟨.int .i64 4, ?_, by rw [HE.out], hw2.setCell (by show w.heap.size ≤ w.heap.size + 1; omega) _⟩
   simp [results, Tryz.results76, go_sem, c4]
  | true =>
   rw [Bool.true_and] at hE
   have HE := Lib.hid hE
   clear hE HR2
   gi_wp2_with fail
   refine ⟨trivial, (callsIn_wide.2 HC2.out).mono ?_⟩
   rintro e w2 ⟨rfl, hb2⟩
   obtain ⟨hw2, d0, d1⟩ := FX.out _ hb2
   have x0' := d0.cell 0 rfl
   have x1' := d0.cell 1 rfl
   have x2' := d0.cell 2 rfl
   clear hb2 x0 x1 x2 y0 y1
   gi_wp2_with fail
   refine ⟨trivial, (ops_in Fence.wide 9 trivial rfl _ _ _ _).mono ?_⟩
   rintro e w3 ⟨rfl, rfl⟩
   gi_wp2_with fail
   have t1 := three_new w2 (.slice p0 h.1.length c0) (.slice p1 h.2.1.length c1) (.slice p2 h.2.2.length c2) 25
   have k0 := d0.alloc (.cells #[.slice p0 h.1.length c0, .slice p1 h.2.1.length c1, .slice p2 h.2.2.length c2] 25)
   have k1 := d1.alloc (.cells #[.slice p0 h.1.length c0, .slice p1 h.2.1.length c1, .slice p2 h.2.2.length c2] 25)
   have hb' := hw2.alloc hw2.size (.cells #[.slice p0 h.1.length c0, .slice p1 h.2.1.length c1, .slice p2 h.2.2.length c2] 25)
   have hsz : w.heap.size + 1 < w2.heap.size := d1.lt
   have hsz1 : (w2.alloc (.cells #[.slice p0 h.1.length c0, .slice p1 h.2.1.length c1, .slice p2 h.2.2.length c2] 25)).heap.size = w2.heap.size + 1 := by simp
   obtain ⟨W1, hW1⟩ : ∃ W1, w2.alloc (.cells #[.slice p0 h.1.length c0, .slice p1 h.2.1.length c1, .slice p2 h.2.2.length c2] 25) = W1 := ⟨_, rfl⟩
   rw [hW1] at t1 k0 k1 hb' hsz1 ⊢
   clear hW1 d0 d1 x0' x1' x2'
   refine wpIn_rangeFunc_ownH rfl (by omega) (gf := 180) (lb := #[.pointer (some ⟨w2.heap.size, 0, none⟩)]) rfl trivial (enters_of Tryz.func180 (by kernel_rfl) rfl)
    (ops_stops (fun _ => True) Fence.wide 9 trivial rfl (by omega) w2.heap.size w _ _ _ h.2.2 HM.out.2.2.1 T2.out HM.out.2.2.2.2.2 (fun _ _ => trivial) W1 hb' t1) belowK_t (belowK_b (by omega)) (Below.refl _ _) (fun _ => rfl)
    (fun pre W => ((∀ x ∈ pre, okOp h.2.1.length x.1.2 = true) ∧ Blk W w.heap.size 25 [.slice p0 h.1.length c0, .slice p1 h.2.1.length c1, .slice p2 h.2.2.length c2] ∧ Blk W (w.heap.size + 1) 26 [.int .i64 0]) ∧ Below w.heap.size w W)
    (fun c pre W => (c = .ret ∧ (∃ x ∈ pre, okOp h.2.1.length x.1.2 = false) ∧ Blk W (w.heap.size + 1) 26 [.int .i64 4]) ∧ Below w.heap.size w W)
    (OwnFrom.and (fun s A B row hs hg hr => by
      have hne : ∀ b, b < W1.heap.size → some b ≠ row := fun b hb e => by have := (hr b e.symm).1; omega
      exact ⟨hs.1, hs.2.1.kept hg (hne _ (by omega)), hs.2.2.kept hg (hne _ (by omega))⟩) (ownFrom_below (Nat.le_refl _) (by omega)))
    (fun c => OwnFrom.and (fun s A B row hs hg hr => by
      have hne : ∀ b, b < W1.heap.size → some b ≠ row := fun b hb e => by have := (hr b e.symm).1; omega
      exact ⟨hs.1, hs.2.1, hs.2.2.kept hg (hne _ (by omega))⟩) (ownFrom_below (Nat.le_refl _) (by omega)))
    ⟨⟨(fun x hx => by cases hx), k0, k1⟩, hb'⟩
    (fun x a' W => ∃ Bx, Blk W Bx 51 [.bool x.1.2.1, .int .i64 x.1.2.2.1, .int .i64 x.1.2.2.2.1, .int .i64 x.1.2.2.2.2] ∧ a' = { tmps := #[.agg #[.slice p0 h.1.length c0, .slice p1 h.2.1.length c1, .slice p2 h.2.2.length c2], .pointer (some ⟨w.heap.size, 0, none⟩), .pointer (some ⟨w.heap.size + 1, 0, none⟩), undef, .pointer (some ⟨Bx, 0, none⟩), .agg #[.slice p0 h.1.length c0, .slice p1 h.2.1.length c1, .slice p2 h.2.2.length c2], .bool true, .bool false, .bool false, .pointer (some ⟨w.heap.size, 2, none⟩), .slice p2 h.2.2.length c2, .func (.func 131) #[] #[.pointer (some ⟨w.heap.size, 0, none⟩)], .bool false, .bool false, .agg #[.slice p0 h.1.length c0, .slice p1 h.2.1.length c1, .slice p2 h.2.2.length c2], .func (.func 180) #[] #[.pointer (some ⟨w2.heap.size, 0, none⟩)], .agg #[.int .i64 (x.1.1.1 : Nat), .int .i64 (x.1.1.2 : Nat)], .agg #[.bool x.1.2.1, .int .i64 x.1.2.2.1, .int .i64 x.1.2.2.2.1, .int .i64 x.1.2.2.2.2], undef, undef, undef, undef, undef, undef, undef], defers := [] })
    (fun x a' _ X Y row hs hg hr => by
     obtain ⟨Bx, r2, r3⟩ := hs
     exact ⟨Bx, r2.kept hg (fun e => by obtain ⟨-, o, ho, hc⟩ := hr Bx e.symm; have r2' : X.heap[Bx]? = some _ := r2; rw [r2'] at ho; cases ho; cases hc), r3⟩)
    ?assign ?body ?done ?stop
   case assign =>
    rintro l pre x W K ⟨⟨q1, q2, q3⟩, hB⟩ hK
    simp only [encI]
    gi_wp2
    exact hK _ _ ((KeepsOthers.alloc _ _).from _) ((Below.refl _ W).alloc hB.size _) ⟨⟨q1, q2.alloc _, q3.alloc _⟩, hB.alloc hB.size _⟩ ⟨W.heap.size, Blk.new W _ [_, _, _, _], rfl⟩
   case body =>
    rintro l pre x a' W hl - ⟨⟨q1, q2, q3⟩, hB⟩ ⟨Bx, bX, rfl⟩ hlt2
    have x0 := q2.cell 0 rfl
    have x1 := q2.cell 1 rfl
    have x2 := q2.cell 2 rfl
    have z0 := bX.cell 0 rfl
    have z1 := bX.cell 1 rfl
    have z2 := bX.cell 2 rfl
    have z3 := bX.cell 3 rfl
    have HO := Lib.hid (op_any (.slice p0 h.1.length c0) (.slice p1 h.2.1.length c1) (.slice p2 h.2.2.length c2) h.2.1 x.1.2 W (T1.out.below hB))
    have HQ1 := Lib.hid q1
    have HB := Lib.hid hB
    have Q2 := Lib.hid q2
    have Q3 := Lib.hid q3
    obtain ⟨b3, hb3⟩ : ∃ b3, okOp h.2.1.length x.1.2 = b3 := ⟨_, rfl⟩
    have HB3 := Lib.hid hb3
    rw [hb3] at HO
    clear q1 q2 q3 hB hb3 bX
    gi_wp2_with fail
    refine ⟨trivial, ((callsIn_wide.2 HO.out).inRound l).mono ?_⟩
    rintro e w4 ⟨rfl, hb4⟩
    have hB4 := below_next HB.out hb4
    have k4 := Q3.out.later hb4
    have y4 := k4.cell 0 rfl
    have y5 := k4.frozen 0
    have K4 := Lib.hid k4
    have KF := Lib.hid (keepsFrom_below (B := W1.heap.size) hb4)
    have BW : RowKit.Hid (Below w.heap.size W w4) := Lib.hid (hb4.mono HB.out.size)
    have Q4 := Lib.hid (Q2.out.later hb4)
    clear k4 hb4 x0 x1 x2 z0 z1 z2 z3
    cases b3 with
    | true =>
     gi_wp2_with fail
     exact ⟨KF.out, BW.out, ⟨⟨(fun y hy => by
      rcases List.mem_append.1 hy with hy | hy
      ·exact HQ1.out y hy
      ·obtain rfl : y = x := by simpa using hy
       exact HB3.out), Q4.out, K4.out⟩, hB4⟩⟩
    | false =>
     gi_wp2_with fail
     exact ⟨KF.out.trans (KeepsFrom.of_grownBy (grownBy_setCell' _ _ _) (fun j e => by cases e; omega)), ⟨rfl, ⟨x, by simp, HB3.out⟩, K4.out.set 0 _⟩, hB4.setCell (by show w.heap.size ≤ w.heap.size + 1; omega) _⟩
   case done =>
    rintro Dd xs W hD hS ⟨⟨q1, q2, q3⟩, hB⟩ hd
    have hall : (allOps h).all (okOp h.2.1.length) = true := by
     rw [List.all_eq_true]
     intro o ho
     rw [show allOps h = h.2.2.flatMap (·.2.2) from rfl, ← items_ops, ← hS] at ho
     obtain ⟨y, hy, rfl⟩ := List.mem_map.1 ho
     obtain ⟨x, hx, rfl⟩ := List.mem_map.1 hy
     exact q1 x hx
    have hrk : ∀ o ∈ allOps h, 0 ≤ o.2.1 ∧ o.2.1 < h.2.1.length := fun o ho => by
     have := List.all_eq_true.1 hall o ho
     simp only [okOp, inside, Bool.and_eq_true, decide_eq_true_eq] at this
     exact this.1
    have HE2 := HE.out
    rw [hall, Bool.true_and] at HE2
    have HU := Lib.hid (used_in Fence.wide 9 trivial trivial trivial rfl (by omega) _ _ _ h W (T0.out.below hB) (T1.out.below hB) (T2.out.below hB) HM.out (HOK.out (by trivial)) hrk)
    have HE3 := Lib.hid HE2
    have HB := Lib.hid hB
    have Q3 := Lib.hid q3
    have HD := Lib.hid hd
    have x0 := q2.cell 0 rfl
    have x1 := q2.cell 1 rfl
    have x2 := q2.cell 2 rfl
    generalize usedH h = b4 at HU HE3
    clear q1 q2 q3 hB hS hall hrk HE2 hd
    gi_wp2_with fail
    refine ⟨trivial, HU.out.mono ?_⟩
    rintro e w4 ⟨rfl, hb4⟩
    have hB4 := below_next HB.out hb4
    have k4 := Q3.out.later hb4
    have y4 := k4.cell 0 rfl
    have y5 := k4.frozen 0
    have hd4 : w4.heap[Dd]? = some (.deferred (some [])) := (hb4.block Dd (Array.getElem?_eq_some_iff.1 HD.out).1).trans HD.out
    have HD4 := Lib.hid hd4
    have K4 := Lib.hid k4
    have hne : w.heap.size + 1 ≠ Dd := by omega
    clear k4 hb4 x0 x1 x2 hd4
    cases b4 with
    | true =>
     have k5 := blk_put (K4.out.set 0 (.int .i64 0)) hne (.deferred none)
     have K5 := Lib.hid k5
     clear k5
     gi_wp2_with fail
     refine ⟨by simp, .inl ⟨_, _, rfl, run_takeDeferred ((Below.heap_setCell _ _ _ _ (by simp; omega)).trans HD4.out), ?_⟩⟩
     have c4 := K5.out.cell 0 rfl
     exact ⟨.int .i64 0, by simp [results, Tryz.results76, go_sem, c4], by rw [HE3.out]; rfl, (hB4.setCell (by show w.heap.size ≤ w.heap.size + 1; omega) _).trans (belowK_b (w := W1) (by omega) _ Dd _ _ hD ((Below.heap_setCell _ _ _ _ (by simp; omega)).trans HD4.out) rfl rfl)⟩
    | false =>
     have k5 := blk_put (K4.out.set 0 (.int .i64 4)) hne (.deferred none)
     have K5 := Lib.hid k5
     clear k5
     gi_wp2_with fail
     refine ⟨by simp, .inl ⟨_, _, rfl, run_takeDeferred ((Below.heap_setCell _ _ _ _ (by simp; omega)).trans HD4.out), ?_⟩⟩
     have c4 := K5.out.cell 0 rfl
     exact ⟨.int .i64 4, by simp [results, Tryz.results76, go_sem, c4], by rw [HE3.out]; rfl, (hB4.setCell (by show w.heap.size ≤ w.heap.size + 1; omega) _).trans (belowK_b (w := W1) (by omega) _ Dd _ _ hD ((Below.heap_setCell _ _ _ _ (by simp; omega)).trans HD4.out) rfl rfl)⟩
   case stop =>
    rintro Dd c pre W hD hpf ⟨⟨rfl, ⟨x, hx, hx2⟩, q3⟩, hB⟩ hd
    have hall : (allOps h).all (okOp h.2.1.length) = false := by
     rw [List.all_eq_false]
     refine ⟨x.1.2, ?_, by rw [hx2]; exact Bool.false_ne_true⟩
     rw [show allOps h = h.2.2.flatMap (·.2.2) from rfl, ← items_ops]
     exact List.mem_map_of_mem (hpf.subset (List.mem_map_of_mem hx))
    have HE2 := HE.out
    rw [hall, Bool.false_and, if_neg (by simp)] at HE2
    have HE3 := Lib.hid HE2
    have hne : w.heap.size + 1 ≠ Dd := by omega
    have k5 := blk_put q3 hne (.deferred none)
    have K5 := Lib.hid k5
    clear k5 HE2 hall hx hx2
    gi_wp2_with fail
    refine ⟨by simp, .inl ⟨_, _, rfl, run_takeDeferred hd, ?_⟩⟩
    have c4 := K5.out.cell 0 rfl
    exact ⟨.int .i64 4, by simp [results, Tryz.results76, go_sem, c4], by rw [HE3.out], hB.trans (belowK_b (w := W1) (by omega) _ Dd _ _ hD hd rfl rfl)⟩
end
section
open Go.RowKit Go.Lib
def idxs (p : TxnM → Bool) (L : List TxnM) (k : Nat) : List Int := ((List.range k).filter fun i => p (L.getD i noTxn)).map fun i : Nat => (i : Int)
theorem idxs_next (p : TxnM → Bool) (L : List TxnM) (k : Nat) : idxs p L (k + 1) = if p (L.getD k noTxn) then idxs p L k ++ [(k : Int)] else idxs p L k := by
 unfold idxs
 rw [List.range_succ, List.filter_append, List.map_append]
 by_cases h : p (L.getD k noTxn) = true
 ·rw [if_pos h, List.filter_cons, if_pos h]
  rfl
 ·rw [if_neg h, List.filter_cons, if_neg h]
  simp
theorem idxs_len (p : TxnM → Bool) (L : List TxnM) (k : Nat) : (idxs p L k).length ≤ k := by
 unfold idxs
 rw [List.length_map]
 exact Nat.le_trans (List.length_filter_le _ _) (by simp)
def whereL (p : TxnM → Bool) (h : HistM) : List Int := if mayH h then idxs p h.2.2 h.2.2.length else []
theorem whereL_yes (p : TxnM → Bool) {h : HistM} (hm : mayH h = true) : whereL p h = idxs p h.2.2 h.2.2.length := by simp [whereL, hm]
theorem whereL_no (p : TxnM → Bool) {h : HistM} (hm : mayH h = false) : whereL p h = [] := by simp [whereL, hm]
def infosP (t : TxnM) : Bool := t.2.1 == 3
theorem err_yes {h : HistM} (hm : mayH h = true) : errH h = 0 := by simp [errH, hm]
theorem err_no {h : HistM} (hm : mayH h = false) : errH h = 4 := by simp [errH, hm]
set_option maxHeartbeats 1000000 in
theorem infos1_any (t : TxnM) (sv : Value) (w : World) :
  Calls Tryz.prog 142 #[.agg #[.int .i64 t.1, .int .i64 t.2.1, sv]] w fun e w' => e = .returned (.bool (infosP t)) ∧ Below w.heap.size w w' := by
 go_enter Tryz.func142, Tryz.ntmps142
 go_wp2
 go_ret
 exact ⟨rfl, by go_grown⟩
set_option maxRecDepth 100000 in
set_option maxHeartbeats 4000000 in
theorem where_infos (v0 v1 v2 : Value) (h : HistM) (w : World) (h0 : Texts w v0 h.1) (h1 : Texts w v1 h.2.1) (h2 : TxnsS w v2 h.2.2) (hm : Modst h) (hT : Lib.Utf8Tabs 1 2 w) :
  Calls Tryz.prog 141 #[.agg #[v0, v1, v2], .func (.func 142) #[] #[]] w fun e w' => ∃ v', e = .returned v' ∧ IntsS w' v' (whereL (infosP) h) ∧ Below w.heap.size w w' := by
 have HMay := Lib.hid (fun w' (hb : Below w.heap.size w w') => hmay_any v0 v1 v2 h w' (h0.below hb) (h1.below hb) (h2.below hb) hm (Utf8Tabs_below hT hb))
 have HMod := Lib.hid hm
 obtain ⟨p2, c2, rfl, hp⟩ := h2
 obtain ⟨p0, c0, rfl, -⟩ := h0
 obtain ⟨p1, c1, rfl, -⟩ := h1
 have HX := Lib.hid hp
 have m3 : h.2.2.length ≤ 1000 := hm.2.2.1
 obtain ⟨i0, hi, hz0, hz1, hz2⟩ := info_parts info_i64
 have en := enters_of Tryz.func142 (by kernel_rfl) rfl
 have b0 := Blk.new w 25 [.slice p0 h.1.length c0, .slice p1 h.2.1.length c1, .slice p2 h.2.2.length c2]
 have hb0 : Below w.heap.size w (w.alloc (.cells #[.slice p0 h.1.length c0, .slice p1 h.2.1.length c1, .slice p2 h.2.2.length c2] 25)) := (Below.refl _ w).alloc (Nat.le_refl _) _
 have HB0 := Lib.hid hb0
 have B0 := Lib.hid b0
 clear hp hm hT b0 hb0
 go_enter Tryz.func141, Tryz.ntmps141
 go_wp2_with fail
 refine (HMay.out _ HB0.out).mono ?_
 rintro e w1 ⟨rfl, hb1⟩
 have hbw1 := below_next HB0.out hb1
 have d0 := B0.out.later hb1
 have x2 := d0.cell 2 rfl
 clear d0 hb1
 cases hmm : mayH h with
 | false =>
  have HE := Lib.hid (err_no hmm)
  have HW := Lib.hid (whereL_no (infosP) hmm)
  clear hmm
  rw [HE.out]
  go_wp2_with fail
  go_ret
  exact ⟨_, rfl, by rw [HW.out]; exact ints_none _, hbw1⟩
 | true =>
  have HE := Lib.hid (err_yes hmm)
  have HW := Lib.hid (whereL_yes (infosP) hmm)
  clear hmm
  rw [HE.out]
  go_wp2_with fail
  go_loopw [5, 14] (fun l i wr => ∃ k : Nat, k ≤ h.2.2.length ∧ i = .int .i64 k ∧ wr.ownsRow w.heap.size 3 1 l (idxs (infosP) h.2.2 k).length (vints (idxs (infosP) h.2.2 k)) ∧ Below w.heap.size w wr) (fun _ i _ => h.2.2.length - (RowKit.intOf i).toNat)
  case atStart => exact ⟨0, Nat.zero_le _, rfl, World.ownsRow_nil _ _ _ _, hbw1⟩
  case round =>
   obtain ⟨k, hk, rfl, hown, hbw⟩ := hrel
   by_cases hk1 : k < h.2.2.length
   ·obtain ⟨g, sv, rfl, a1, a2, a3, ⟨p3, c3, rfl, -⟩⟩ := HX.out k hk1
    generalize (h.2.2.getD k noTxn).2.2.length = n3 at a3
    have a1' := cell_later hbw a1
    have a2' := cell_later hbw a2
    have a3' := cell_later hbw a3
    have hnx := idxs_next (infosP) h.2.2 k
    have hil := idxs_len (infosP) h.2.2 k
    have hbx := hbw.alloc hbw.size (.cells #[.int .i64 (h.2.2.getD k noTxn).1, .int .i64 (h.2.2.getD k noTxn).2.1, .slice p3 n3 c3] 47)
    obtain ⟨I, hI⟩ : ∃ I, idxs (infosP) h.2.2 k = I := ⟨_, rfl⟩
    rw [hI] at hown hnx hil
    obtain ⟨t, ht⟩ : ∃ t, h.2.2.getD k noTxn = t := ⟨_, rfl⟩
    rw [ht] at a1' a2' hnx hbx
    have HC := Lib.hid (infos1_any t (.slice p3 n3 c3) (wr.alloc (.cells #[.int .i64 t.1, .int .i64 t.2.1, .slice p3 n3 c3] 47)))
    obtain ⟨t1, t2, t3⟩ := t
    simp only at a1' a2' hnx HC hbx
    have HBX := Lib.hid hbx
    obtain ⟨b, hb⟩ : ∃ b, (infosP) (t1, t2, t3) = b := ⟨_, rfl⟩
    rw [hb] at hnx HC
    have HN : RowKit.Hid ((b = true → idxs (infosP) h.2.2 (k + 1) = I ++ [(k : Int)]) ∧ (b = false → idxs (infosP) h.2.2 (k + 1) = I)) := Lib.hid ⟨fun e => by rw [hnx, if_pos e], fun e => by rw [hnx, if_neg (by rw [e]; exact Bool.false_ne_true)]⟩
    clear a1 a2 a3 ht hI hb hnx hbx
    cases b with
    | false =>
     go_wp2_with fail
     refine HC.out.mono ?_
     rintro e w3 ⟨rfl, hb3⟩
     have hown3 := owns_later (hown.alloc _) hb3
     have hbw3 := below_next HBX.out hb3
     clear hb3 hown
     go_wp2_with fail
     go_roundw
     case rel => exact ⟨k + 1, by omega, by go_num, by rw [HN.out.2 (by trivial)]; exact hown3, hbw3⟩
     case measure => simp [RowKit.intOf]; omega
    | true =>
     go_wp2_with fail
     refine HC.out.mono ?_
     rintro e w3 ⟨rfl, hb3⟩
     have hown3 := owns_later (hown.alloc _) hb3
     have hbw3 := below_next HBX.out hb3
     clear hb3 hown
     go_wp2_with (at_builtin; refine wpList_append_own _ rfl _ _ 56 rfl w.heap.size 3 i0 (.int .i64 0) 1 8 Tryz.underlying56 hi hz0 hz1 hz2 rfl (by decide) _ _ _ rfl (hown3.alloc _) ⟨w3.heap.size, 0, none⟩ 1 1 [.int .i64 (k : Nat)] rfl rfl (news_int _ _ _) (ones_int _) (by unfold maxLen; omega) (by omega) (by have := hbw3.size; simp; omega) ?_)
     intro v4 w4 hown4 hgrow hnil
     have hb4 : Below w.heap.size w w4 := (hbw3.alloc hbw3.size _).grown hgrow (by have := hbw3.size; simp; omega) (fun k hk => (hown3.lt k hk).1)
     have HO : RowKit.Hid (w4.ownsRow w.heap.size 3 1 v4 (idxs (infosP) h.2.2 (k + 1)).length (vints (idxs (infosP) h.2.2 (k + 1)))) := Lib.hid (by rw [HN.out.1 (by trivial), ← vints_snoc, List.length_append]; exact hown4)
     clear hown4 hgrow hnil hown3 hbw3
     go_wp2_with fail
     go_roundw
     case rel => exact ⟨k + 1, by omega, by go_num, HO.out, hb4⟩
     case measure => simp [RowKit.intOf]; omega
   ·have hke : k = h.2.2.length := by omega
    subst hke
    have HO := Lib.hid (own_intsI hown)
    clear hown
    go_wp2_with fail
    go_ret
    exact ⟨_, rfl, by rw [HW.out]; exact HO.out, hbw⟩
set_option maxRecDepth 100000 in
set_option maxHeartbeats 1000000 in
theorem infos_any (v0 v1 v2 : Value) (h : HistM) (w : World) (h0 : Texts w v0 h.1) (h1 : Texts w v1 h.2.1) (h2 : TxnsS w v2 h.2.2) (hm : Modst h) (hT : Lib.Utf8Tabs 1 2 w) :
  Calls Tryz.prog 93 #[.agg #[v0, v1, v2]] w fun e w' => ∃ v', e = .returned v' ∧ IntsS w' v' (whereL infosP h) ∧ Below w.heap.size w w' := by
 have hb : Below w.heap.size w (w.alloc (.cells #[v0, v1, v2] 25)) := (Below.refl _ w).alloc (Nat.le_refl _) _
 have H1 := Lib.hid (where_infos v0 v1 v2 h _ (h0.below hb) (h1.below hb) (h2.below hb) hm (Utf8Tabs_below hT hb))
 have HB := Lib.hid hb
 obtain ⟨p2, c2, rfl, -⟩ := h2
 obtain ⟨p0, c0, rfl, -⟩ := h0
 obtain ⟨p1, c1, rfl, -⟩ := h1
 clear hb hm hT
 go_enter Tryz.func93, Tryz.ntmps93
 go_wp2_with fail
 refine H1.out.mono ?_
 rintro e w3 ⟨v', rfl, hv, hb3⟩
 have HV := Lib.hid hv
 clear hv
 go_wp2_with fail
 go_ret
 exact ⟨_, rfl, HV.out, below_next HB.out hb3⟩
end
section
open Go.ChangeShapes Go.WideShapes Go.ChangeAt Go.RowKit Go.Joins
def opCells (o : OpM) : List Value := [.bool o.1, .int .i64 o.2.1, .int .i64 o.2.2.1, .int .i64 o.2.2.2]
def OpR (_ : World) (cs : List Value) (o : OpM) : Prop := cs = opCells o
def OpsA (w : World) (v : Value) (L : List OpM) : Prop := SlR 4 OpR w v L
def TxnR (w : World) (cs : List Value) (t : TxnM) : Prop := ∃ sv, cs = [.int .i64 t.1, .int .i64 t.2.1, sv] ∧ OpsA w sv t.2.2
def TxnsA (w : World) (v : Value) (L : List TxnM) : Prop := SlR 3 TxnR w v L
def StrR (_ : World) (cs : List Value) (s : List UInt8) : Prop := cs = [.string (bs s)] ∧ s.length ≤ 9223372036854775807
def StrsA (w : World) (v : Value) (L : List (List UInt8)) : Prop := SlR 1 StrR w v L
def HistA (w : World) (v : Value) (h : HistM) : Prop := ∃ v0 v1 v2, v = .agg #[v0, v1, v2] ∧ StrsA w v0 h.1 ∧ StrsA w v1 h.2.1 ∧ TxnsA w v2 h.2.2
theorem OpsA.below {w w' : World} {v : Value} {L : List OpM} (h : OpsA w v L) (hb : Below w.heap.size w w') : OpsA w' v L := SlR.below (fun _ _ _ _ _ h => h) h hb
theorem TxnsA.below {w w' : World} {v : Value} {L : List TxnM} (h : TxnsA w v L) (hb : Below w.heap.size w w') : TxnsA w' v L :=
 SlR.below (fun _ _ _ _ hb ⟨sv, e, h⟩ => ⟨sv, e, h.below hb⟩) h hb
theorem StrsA.below {w w' : World} {v : Value} {L : List (List UInt8)} (h : StrsA w v L) (hb : Below w.heap.size w w') : StrsA w' v L := SlR.below (fun _ _ _ _ _ h => h) h hb
theorem HistA.below {w w' : World} {v : Value} {h : HistM} (hh : HistA w v h) (hb : Below w.heap.size w w') : HistA w' v h := by
 obtain ⟨v0, v1, v2, e, h0, h1, h2⟩ := hh
 exact ⟨v0, v1, v2, e, h0.below hb, h1.below hb, h2.below hb⟩
section
variable {H : Type} {enc : TypeId × Value → H} {w : World} {base : Nat} {spare : Nat → Bool} {held : Bool}
theorem open_str {n : Nat} {cs : List Value} {y : DataW H × List MemPlace} (h : DataW.trod enc Tryz.prog w base spare held n 9 cs = some y) : ∃ s, StrR w cs s := by
 obtain ⟨s, rfl, -, hs⟩ := DataW.trod_string Tryz.underlying9 h
 unfold maxLen at hs
 refine ⟨s.data.toList, by rw [← bs_data], ?_⟩
 rw [Lib.size_eq] at hs
 exact hs
theorem open_value {n : Nat} {cs : List Value} {y : DataW H × List MemPlace} (h : DataW.trod enc Tryz.prog w base spare held n 49 cs = some y) : ∃ k m : Int, cs = [.int .i64 k, .int .i64 m] := by
 have hl := trod_len Tryz.underlying49 h
 obtain ⟨n0, y0, h0⟩ := trod_at 0 0 3 1 Tryz.underlying49 h rfl rfl rfl (by kernel_rfl)
 obtain ⟨n1, y1, h1⟩ := trod_at 1 1 2 1 Tryz.underlying49 h rfl rfl rfl (by kernel_rfl)
 obtain ⟨k, hk, -, -⟩ := DataW.trod_int Tryz.underlying3 h0
 obtain ⟨m, hm, -, -⟩ := DataW.trod_int Tryz.underlying2 h1
 rw [show Tryz.prog.cellsOf 49 = 2 by kernel_rfl] at hl
 match cs, hl with
 | [a, b], _ =>
  simp at hk hm
  exact ⟨k, m, by rw [hk, hm]⟩
theorem open_op {n : Nat} {cs : List Value} {y : DataW H × List MemPlace} (h : DataW.trod enc Tryz.prog w base spare held n 51 cs = some y) : ∃ o, OpR w cs o := by
 have hl := trod_len Tryz.underlying51 h
 obtain ⟨n0, y0, h0⟩ := trod_at 0 0 4 1 Tryz.underlying51 h rfl rfl rfl (by kernel_rfl)
 obtain ⟨n1, y1, h1⟩ := trod_at 1 1 3 1 Tryz.underlying51 h rfl rfl rfl (by kernel_rfl)
 obtain ⟨n2, y2, h2⟩ := trod_at 2 2 49 2 Tryz.underlying51 h rfl rfl rfl (by kernel_rfl)
 obtain ⟨b, hb, -⟩ := DataW.trod_bool Tryz.underlying4 h0
 obtain ⟨k, hk, -, -⟩ := DataW.trod_int Tryz.underlying3 h1
 obtain ⟨kd, m, hv⟩ := open_value h2
 rw [show Tryz.prog.cellsOf 51 = 4 by kernel_rfl] at hl
 match cs, hl with
 | [c0, c1, c2, c3], _ =>
  simp at hb hk hv
  exact ⟨(b, k, kd, m), by simp [OpR, opCells, hb, hk, hv]⟩
theorem open_ops {n : Nat} {cs : List Value} {y : DataW H × List MemPlace} (h : DataW.trod enc Tryz.prog w base spare held n 45 cs = some y) : ∃ v L, cs = [v] ∧ OpsA w v L :=
 open_slR Tryz.underlying45 (by kernel_rfl) (fun _ _ _ h => open_op h) h
theorem open_txn {n : Nat} {cs : List Value} {y : DataW H × List MemPlace} (h : DataW.trod enc Tryz.prog w base spare held n 47 cs = some y) : ∃ t, TxnR w cs t := by
 have hl := trod_len Tryz.underlying47 h
 obtain ⟨n0, y0, h0⟩ := trod_at 0 0 3 1 Tryz.underlying47 h rfl rfl rfl (by kernel_rfl)
 obtain ⟨n1, y1, h1⟩ := trod_at 1 1 3 1 Tryz.underlying47 h rfl rfl rfl (by kernel_rfl)
 obtain ⟨n2, y2, h2⟩ := trod_at 2 2 45 1 Tryz.underlying47 h rfl rfl rfl (by kernel_rfl)
 obtain ⟨s, hs, -, -⟩ := DataW.trod_int Tryz.underlying3 h0
 obtain ⟨f, hf', -, -⟩ := DataW.trod_int Tryz.underlying3 h1
 obtain ⟨v, L, hv, hL⟩ := open_ops h2
 rw [show Tryz.prog.cellsOf 47 = 3 by kernel_rfl] at hl
 match cs, hl with
 | [c0, c1, c2], _ =>
  simp at hs hf' hv
  exact ⟨(s, f, L), v, by simp [hs, hf', hv], hL⟩
theorem open_txns {n : Nat} {cs : List Value} {y : DataW H × List MemPlace} (h : DataW.trod enc Tryz.prog w base spare held n 23 cs = some y) : ∃ v L, cs = [v] ∧ TxnsA w v L :=
 open_slR Tryz.underlying23 (by kernel_rfl) (fun _ _ _ h => open_txn h) h
theorem open_strsA {n : Nat} {cs : List Value} {y : DataW H × List MemPlace} (h : DataW.trod enc Tryz.prog w base spare held n 22 cs = some y) : ∃ v L, cs = [v] ∧ StrsA w v L :=
 open_slR Tryz.underlying22 (by kernel_rfl) (fun _ _ _ h => open_str h) h
set_option maxRecDepth 100000 in
theorem open_hist {r : Reach} {b0 : Nat} {v : Value} {d : DataW H} {ps : List MemPlace} (hval : Value.okWide Tryz.prog w r b0 25 v) (hd : DataW.Trod enc Tryz.prog w base spare held 25 v d ps) : ∃ h, HistA w v h := by
 obtain ⟨c0, c1, c2, y0, y1, y2, m, rfl, -, -, h0, h1, h2⟩ := open_agg3 Tryz.underlying25 (by kernel_rfl) (show Tryz.prog.cellsOf 25 = 3 by kernel_rfl) hval hd
 obtain ⟨v0, L0, e0, a0⟩ := open_strsA h0
 obtain ⟨v1, L1, e1, a1⟩ := open_strsA h1
 obtain ⟨v2, L2, e2, a2⟩ := open_txns h2
 simp at e0 e1 e2
 subst e0 e1 e2
 exact ⟨(L0, L1, L2), c0, c1, c2, rfl, a0, a1, a2⟩
end
theorem flat_get {α : Type} (f : α → List Value) (s : Nat) (hf : ∀ x, (f x).length = s) (d : α) : ∀ (L : List α) (j i : Nat), j < L.length → i < s → (L.flatMap f)[j * s + i]? = (f (L.getD j d))[i]?
 | [], j, _, hj, _ => absurd hj (Nat.not_lt_zero j)
 | x :: L, 0, i, _, hi => by
  rw [List.flatMap_cons, Nat.zero_mul, Nat.zero_add, List.getElem?_append_left (by rw [hf]; exact hi)]
  rfl
 | x :: L, j + 1, i, hj, hi => by
  rw [List.flatMap_cons, List.getElem?_append_right (by rw [hf, Nat.add_mul]; omega), hf, show (j + 1) * s + i - s = j * s + i by rw [Nat.add_mul]; omega]
  rw [flat_get f s hf d L j i (by simpa using hj) hi]
  rfl
theorem own_rowK {w : World} {base size n : Nat} {e : TypeId} {v : Value} {xs : List Value} (h : w.ownsRow base e size v n xs) : ∃ p cap, v = .slice p n cap ∧ n ≤ cap ∧ cap ≤ maxLen ∧ ∀ q u, q < n * size → xs[q]? = some u → ∃ g, p = some ⟨g, 0, none⟩ ∧ w.cell? ⟨g, q, none⟩ = some u := by
 obtain ⟨h1, ⟨rfl, rfl⟩ | ⟨g, cap, cur, rfl, -, hw, hc, hm, hs, ht⟩⟩ := h
 ·exact ⟨none, 0, rfl, Nat.le_refl _, Nat.zero_le _, fun q u hq => by omega⟩
 ·refine ⟨_, cap, rfl, hc, hm, fun q u hq hu => ⟨g, rfl, ?_⟩⟩
  have h2 := congrArg (fun x : List Value => x[q]?) ht
  simp only [List.getElem?_take, hq, if_true, Array.getElem?_toList] at h2
  rw [cell_of_row w g q _ _ (0, 0) hw, h2, hu]
theorem own_slR {α β : Type} {w : World} {base s : Nat} {e : TypeId} {v : Value} {L : List β} (f : β → List Value) (hf : ∀ x, (f x).length = s) (hs : 0 < s) (d : β) (g : β → α) {R : World → List Value → α → Prop} (h : w.ownsRow base e s v L.length (L.flatMap f)) (hR : ∀ x ∈ L, R w (f x) (g x)) : SlR s R w v (L.map g) := by
 obtain ⟨p, cap, rfl, h1, h2, hc⟩ := own_rowK h
 refine ⟨p, cap, by rw [List.length_map], by rw [List.length_map]; exact h1, h2, fun j hj => ?_⟩
 rw [List.length_map] at hj
 have hD : L.getD j d = L[j] := by simp [hj]
 have hg : ∀ i u, i < s → (f L[j])[i]? = some u → ∃ g, p = some ⟨g, 0, none⟩ ∧ w.cell? ⟨g, j * s + i, none⟩ = some u := fun i u hi hu =>
  hc _ u (by
   have : (j + 1) * s ≤ L.length * s := Nat.mul_le_mul_right s hj
   rw [Nat.add_mul] at this
   omega) (by rw [flat_get f s hf d L j i hj hi, hD]; exact hu)
 obtain ⟨g0, rfl, -⟩ := hg 0 ((f L[j])[0]'(by rw [hf]; exact hs)) hs (by simp)
 refine ⟨_, f L[j], rfl, hf _, fun i u hu => ?_, by rw [List.getElem_map]; exact hR _ (List.getElem_mem hj)⟩
 obtain ⟨g1, e1, h3⟩ := hg i u (by have := (List.getElem?_eq_some_iff.1 hu).1; rw [hf] at this; exact this) hu
 cases e1
 rw [Addr.add_lit, Nat.zero_add]
 exact h3
def opsCells (L : List OpM) : List Value := L.flatMap opCells
theorem own_ops {w : World} {base : Nat} {e : TypeId} {v : Value} {L : List OpM} (h : w.ownsRow base e 4 v L.length (opsCells L)) : OpsS w v L := by
 obtain ⟨p, cap, rfl, hcap, -, hc⟩ := own_rowK h
 refine ⟨p, cap, rfl, hcap, fun j hj => ?_⟩
 have hg : ∀ i u, i < 4 → (opCells (L.getD j noOp))[i]? = some u → ∃ g, p = some ⟨g, 0, none⟩ ∧ w.cell? ⟨g, j * 4 + i, none⟩ = some u := fun i u hi hu =>
  hc _ u (by omega) (by rw [opsCells, flat_get opCells 4 (fun _ => rfl) noOp L j i hj hi]; exact hu)
 obtain ⟨g, rfl, h0⟩ := hg 0 _ (by omega) rfl
 obtain ⟨g1, e1, h1⟩ := hg 1 _ (by omega) rfl
 obtain ⟨g2, e2, h2⟩ := hg 2 _ (by omega) rfl
 obtain ⟨g3, e3, h3⟩ := hg 3 _ (by omega) rfl
 cases e1; cases e2; cases e3
 exact ⟨g, rfl, h0, h1, h2, h3⟩
abbrev TxnV := TxnM × Value
def txnCells (t : TxnV) : List Value := [.int .i64 t.1.1, .int .i64 t.1.2.1, t.2]
def txnsCells (L : List TxnV) : List Value := L.flatMap txnCells
theorem own_txns {w : World} {base : Nat} {e : TypeId} {v : Value} {L : List TxnV} (h : w.ownsRow base e 3 v L.length (txnsCells L)) (ho : ∀ t ∈ L, OpsS w t.2 t.1.2.2) : TxnsS w v (L.map (·.1)) := by
 obtain ⟨p, cap, rfl, -, -, hc⟩ := own_rowK h
 refine ⟨p, cap, by rw [List.length_map], fun j hj => ?_⟩
 rw [List.length_map] at hj
 have hg : ∀ i u, i < 3 → (txnCells (L.getD j (noTxn, .nilIface)))[i]? = some u → ∃ g, p = some ⟨g, 0, none⟩ ∧ w.cell? ⟨g, j * 3 + i, none⟩ = some u := fun i u hi hu =>
  hc _ u (by omega) (by rw [txnsCells, flat_get txnCells 3 (fun _ => rfl) (noTxn, .nilIface) L j i hj hi]; exact hu)
 obtain ⟨g, rfl, h0⟩ := hg 0 _ (by omega) rfl
 obtain ⟨g1, e1, h1⟩ := hg 1 _ (by omega) rfl
 obtain ⟨g2, e2, h2⟩ := hg 2 _ (by omega) rfl
 cases e1; cases e2
 have hD : (L.map (·.1)).getD j noTxn = (L.getD j (noTxn, .nilIface)).1 := by simp [hj]
 have hM : L.getD j (noTxn, .nilIface) ∈ L := by
  have : L.getD j (noTxn, .nilIface) = L[j] := by simp [hj]
  rw [this]
  exact List.getElem_mem hj
 exact ⟨g, _, rfl, by rw [hD]; exact h0, by rw [hD]; exact h1, h2, by rw [hD]; exact ho _ hM⟩
theorem own_opsA {w : World} {base : Nat} {e : TypeId} {v : Value} {L : List OpM} (h : w.ownsRow base e 4 v L.length (opsCells L)) : OpsA w v L := by
 have := own_slR (R := OpR) opCells (fun _ => rfl) (by omega) noOp id h (fun x _ => rfl)
 rwa [List.map_id] at this
theorem own_txnsA {w : World} {base : Nat} {e : TypeId} {v : Value} {L : List TxnV} (h : w.ownsRow base e 3 v L.length (txnsCells L)) (ho : ∀ t ∈ L, OpsA w t.2 t.1.2.2) : TxnsA w v (L.map (·.1)) :=
 own_slR (R := TxnR) txnCells (fun _ => rfl) (by omega) (noTxn, .nilIface) (·.1) h (fun x hx => ⟨_, rfl, ho x hx⟩)
theorem own_strsA {w : World} {base : Nat} {e : TypeId} {v : Value} {L : List (List UInt8)} (h : w.ownsRow base e 1 v L.length (strs L)) (hl : ∀ s ∈ L, s.length ≤ 9223372036854775807) : StrsA w v L := by
 have h' : w.ownsRow base e 1 v L.length (L.flatMap fun s => [.string (bs s)]) := by
  have : L.flatMap (fun s => [Value.string (bs s)]) = strs L := by
   unfold strs
   clear h hl
   induction L with
   | nil => rfl
   | cons x L ih => rw [List.flatMap_cons, ih]; rfl
  rw [this]; exact h
 have := own_slR (R := StrR) (s := 1) (fun s => [.string (bs s)]) (fun _ => rfl) (by omega) [] id h' (fun x hx => ⟨rfl, hl x hx⟩)
 rwa [List.map_id] at this
end
section
open Go.RowKit Go.Shelf Go.Lib
attribute [local go_sem] Oper.semAt_some
abbrev PlaceM := Nat × Nat
def placeCells (p : PlaceM) : List Value := [.int .i64 (p.1 : Nat), .int .i64 (p.2 : Nat)]
def placesCells (L : List PlaceM) : List Value := L.flatMap placeCells
def PlacesS (w : World) (v : Value) (L : List PlaceM) : Prop := ∃ p cap, v = .slice p L.length cap ∧ ∀ j, j < L.length → ∃ g, p = some ⟨g, 0, none⟩ ∧ w.cell? ⟨g, j * 2, none⟩ = some (.int .i64 ((L.getD j (0, 0)).1 : Nat)) ∧ w.cell? ⟨g, j * 2 + 1, none⟩ = some (.int .i64 ((L.getD j (0, 0)).2 : Nat))
theorem PlacesS.below {w w' : World} {v : Value} {L : List PlaceM} (h : PlacesS w v L) (hb : Below w.heap.size w w') : PlacesS w' v L := by
 obtain ⟨p, cap, hv, ht⟩ := h
 refine ⟨p, cap, hv, fun j hj => ?_⟩
 obtain ⟨g, hp, h1, h2⟩ := ht j hj
 exact ⟨g, hp, cell_later hb h1, cell_later hb h2⟩
theorem places_none (w : World) : PlacesS w (.slice none 0 0) [] := ⟨none, 0, rfl, fun j hj => absurd hj (Nat.not_lt_zero j)⟩
theorem own_places {w : World} {base : Nat} {e : TypeId} {v : Value} {L : List PlaceM} (h : w.ownsRow base e 2 v L.length (placesCells L)) : PlacesS w v L := by
 obtain ⟨p, cap, rfl, -, -, hc⟩ := own_rowK h
 refine ⟨p, cap, rfl, fun j hj => ?_⟩
 have hg : ∀ i u, i < 2 → (placeCells (L.getD j (0, 0)))[i]? = some u → ∃ g, p = some ⟨g, 0, none⟩ ∧ w.cell? ⟨g, j * 2 + i, none⟩ = some u := fun i u hi hu =>
  hc _ u (by omega) (by rw [placesCells, flat_get placeCells 2 (fun _ => rfl) (0, 0) L j i hj hi]; exact hu)
 obtain ⟨g, rfl, h0⟩ := hg 0 _ (by omega) rfl
 obtain ⟨g1, e1, h1⟩ := hg 1 _ (by omega) rfl
 cases e1
 exact ⟨g, rfl, h0, h1⟩
theorem info_place : (Tryz.prog.info? 38).map (fun i => (i.zero, i.size, i.bytes)) = some (some (.agg #[.int .i64 0, .int .i64 0]), 2, 16) := by kernel_rfl
def lostI (l : List Item) : List PlaceM := (l.filter fun x => x.2.2.2.1 == 2).map (·.1)
theorem lostI_snoc (l : List Item) (x : Item) : lostI (l ++ [x]) = if x.2.2.2.1 == 2 then lostI l ++ [x.1] else lostI l := by
 unfold lostI
 rw [List.filter_append, List.map_append]
 by_cases h : (x.2.2.2.1 == 2) = true
 ·rw [if_pos h, List.filter_cons, if_pos h]; rfl
 ·rw [if_neg h, List.filter_cons, if_neg h]; simp
theorem lostI_len (l : List Item) : (lostI l).length ≤ l.length := by
 unfold lostI
 rw [List.length_map]
 exact List.length_filter_le _ _
def lostL (h : HistM) : List PlaceM := if mayH h then lostI (itH h.2.2 h.2.2.length) else []
theorem lostL_yes {h : HistM} (hm : mayH h = true) : lostL h = lostI (itH h.2.2 h.2.2.length) := by simp [lostL, hm]
theorem lostL_no {h : HistM} (hm : mayH h = false) : lostL h = [] := by simp [lostL, hm]
set_option maxRecDepth 100000 in
set_option maxHeartbeats 4000000 in
theorem lost_any (v0 v1 v2 : Value) (h : HistM) (w : World) (h0 : Texts w v0 h.1) (h1 : Texts w v1 h.2.1) (h2 : TxnsS w v2 h.2.2) (hm : Modst h) (hT : Lib.Utf8Tabs 1 2 w) :
  Calls Tryz.prog 94 #[.agg #[v0, v1, v2]] w fun e w' => ∃ v', e = .returned v' ∧ PlacesS w' v' (lostL h) ∧ Below w.heap.size w w' := by
 have HMay := Lib.hid (fun w' (hb : Below w.heap.size w w') => hmay_any v0 v1 v2 h w' (h0.below hb) (h1.below hb) (h2.below hb) hm (Utf8Tabs_below hT hb))
 have HM := Lib.hid hm
 have T2 := Lib.hid h2
 obtain ⟨p2, c2, rfl, -⟩ := h2
 obtain ⟨p0, c0, rfl, -⟩ := h0
 obtain ⟨p1, c1, rfl, -⟩ := h1
 obtain ⟨i0, hi, hz0, hz1, hz2⟩ := info_parts info_place
 have b0 := Blk.new w 25 [.slice p0 h.1.length c0, .slice p1 h.2.1.length c1, .slice p2 h.2.2.length c2]
 have hb0 : Below w.heap.size w (w.alloc (.cells #[.slice p0 h.1.length c0, .slice p1 h.2.1.length c1, .slice p2 h.2.2.length c2] 25)) := (Below.refl _ w).alloc (Nat.le_refl _) _
 have HB0 := Lib.hid hb0
 have B0 := Lib.hid b0
 clear hm hT b0 hb0
 refine (callsIn_wide (n := 10)).1 ?_
 refine callsIn_of_wp_marks Tryz.func94 rfl trivial ?_ rfl
 simp only [Tryz.ntmps94, List.size_toArray, List.length_cons, List.length_nil, Nat.reduceAdd, Nat.reduceSub, Array.replicate_succ, Array.replicate_zero, List.push_toArray, List.append_toArray, List.nil_append, List.cons_append]
 gi_wp2_with fail
 refine ⟨trivial, (callsIn_wide.2 (HMay.out _ HB0.out)).mono ?_⟩
 rintro e w1 ⟨rfl, hb1⟩
 have hbw1 := below_next HB0.out hb1
 have d0 := B0.out.later hb1
 have x0 := d0.cell 0 rfl
 have x1 := d0.cell 1 rfl
 have x2 := d0.cell 2 rfl
 have hbz : w.heap.size < w1.heap.size := d0.lt
 clear d0 hb1
 cases hmm : mayH h with
 | false =>
  have HE := Lib.hid (err_no hmm)
  have HW := Lib.hid (lostL_no hmm)
  clear hmm
  rw [HE.out]
  gi_wp2_with fail
  exact ⟨_, results_tmp rfl _ _ _, _, rfl, by rw [HW.out]; exact places_none _, hbw1⟩
 | true =>
  have HE := Lib.hid (err_yes hmm)
  have HW := Lib.hid (lostL_yes hmm)
  clear hmm
  rw [HE.out]
  gi_wp2_with fail
  refine ⟨trivial, (ops_in Fence.wide 9 trivial rfl _ _ _ _).mono ?_⟩
  rintro e w3 ⟨rfl, rfl⟩
  gi_wp2_with fail
  have z0 := Blk.new w1 43 [.slice none 0 0]
  have hbl : Below w.heap.size w (w1.alloc (.cells #[.slice none 0 0] 43)) := hbw1.alloc hbw1.size _
  have t1 := three_new (w1.alloc (.cells #[.slice none 0 0] 43)) (.slice p0 h.1.length c0) (.slice p1 h.2.1.length c1) (.slice p2 h.2.2.length c2) 25
  simp only [World.size_alloc] at t1
  have k1 : Boxed ((w1.alloc (.cells #[.slice none 0 0] 43)).alloc (.cells #[.slice p0 h.1.length c0, .slice p1 h.2.1.length c1, .slice p2 h.2.2.length c2] 25)) w1.heap.size 43 (.slice none 0 0) := z0.alloc _
  have hb' := hbl.alloc hbl.size (.cells #[.slice p0 h.1.length c0, .slice p1 h.2.1.length c1, .slice p2 h.2.2.length c2] 25)
  have hsz1 : ((w1.alloc (.cells #[.slice none 0 0] 43)).alloc (.cells #[.slice p0 h.1.length c0, .slice p1 h.2.1.length c1, .slice p2 h.2.2.length c2] 25)).heap.size = w1.heap.size + 1 + 1 := by simp
  obtain ⟨W1, hW1⟩ : ∃ W1, (w1.alloc (.cells #[.slice none 0 0] 43)).alloc (.cells #[.slice p0 h.1.length c0, .slice p1 h.2.1.length c1, .slice p2 h.2.2.length c2] 25) = W1 := ⟨_, rfl⟩
  rw [hW1] at t1 k1 hb' hsz1 ⊢
  clear hW1 x0 x1 x2 z0 hbl
  refine wpIn_rangeFunc_ownH rfl (by omega) (gf := 180) (lb := #[.pointer (some ⟨w1.heap.size + 1, 0, none⟩)]) rfl trivial (enters_of Tryz.func180 (by kernel_rfl) rfl)
   (ops_stops (fun _ => True) Fence.wide 9 trivial rfl (by omega) (w1.heap.size + 1) w _ _ _ h.2.2 HM.out.2.2.1 T2.out HM.out.2.2.2.2.2 (fun _ _ => trivial) W1 hb' t1) belowK_t (belowK_b (by omega)) (Below.refl _ _) (fun _ => rfl)
   (fun pre W => (∃ v, Boxed W w1.heap.size 43 v ∧ W.ownsRow w.heap.size 38 2 v (lostI (pre.map (·.1))).length (placesCells (lostI (pre.map (·.1)))) ∧ True) ∧ Below w.heap.size w W)
   (fun _ _ _ => False)
   (OwnFrom.and ((holdsRow_own w.heap.size w1.heap.size 43 38 2 (fun pre : List { x : Item // True } => (lostI (pre.map (·.1))).length) (fun pre => placesCells (lostI (pre.map (·.1)))) (fun _ _ => True)).from _) (ownFrom_below (Nat.le_refl _) (by omega)))
   (fun _ _ _ _ _ hs _ _ => hs)
   ⟨⟨_, k1, World.ownsRow_nil _ _ _ _, trivial⟩, hb'⟩
   (fun x a' W => ∃ Bp Bx, Blk W Bp 38 [.int .i64 (x.1.1.1 : Nat), .int .i64 (x.1.1.2 : Nat)] ∧ Blk W Bx 51 [.bool x.1.2.1, .int .i64 x.1.2.2.1, .int .i64 x.1.2.2.2.1, .int .i64 x.1.2.2.2.2] ∧ a' = { tmps := #[.agg #[.slice p0 h.1.length c0, .slice p1 h.2.1.length c1, .slice p2 h.2.2.length c2], .pointer (some ⟨w.heap.size, 0, none⟩), .slice none 0 0, .pointer (some ⟨w1.heap.size, 0, none⟩), .pointer (some ⟨Bp, 0, none⟩), .pointer (some ⟨Bx, 0, none⟩), .agg #[.slice p0 h.1.length c0, .slice p1 h.2.1.length c1, .slice p2 h.2.2.length c2], .int .i64 0, .bool false, .agg #[.slice p0 h.1.length c0, .slice p1 h.2.1.length c1, .slice p2 h.2.2.length c2], .func (.func 180) #[] #[.pointer (some ⟨w1.heap.size + 1, 0, none⟩)], .agg #[.int .i64 (x.1.1.1 : Nat), .int .i64 (x.1.1.2 : Nat)], .agg #[.bool x.1.2.1, .int .i64 x.1.2.2.1, .int .i64 x.1.2.2.2.1, .int .i64 x.1.2.2.2.2], undef, undef, undef, undef, undef, undef, undef, undef, undef], defers := [] })
   (fun x a' _ X Y row hs hg hr => by
    obtain ⟨Bp, Bx, r1, r2, r3⟩ := hs
    have hn : ∀ B t cs, Blk X B t cs → some B ≠ row := fun B t cs r e => by obtain ⟨-, o, ho, hc⟩ := hr B e.symm; have r' : X.heap[B]? = some _ := r; rw [r'] at ho; cases ho; cases hc
    exact ⟨Bp, Bx, r1.kept hg (hn _ _ _ r1), r2.kept hg (hn _ _ _ r2), r3⟩)
   ?assign ?body ?done ?stop
  case assign =>
   rintro l pre x W K ⟨⟨v, q1, q2, q3⟩, hB⟩ hK
   simp only [encI]
   gi_wp2
   have k1 := Blk.new W 38 [.int .i64 (x.1.1.1 : Nat), .int .i64 (x.1.1.2 : Nat)]
   have k2 := Blk.new (W.alloc (.cells #[.int .i64 (x.1.1.1 : Nat), .int .i64 (x.1.1.2 : Nat)] 38)) 51 [.bool x.1.2.1, .int .i64 x.1.2.2.1, .int .i64 x.1.2.2.2.1, .int .i64 x.1.2.2.2.2]
   simp only [World.size_alloc] at k2
   exact hK _ _ (((KeepsOthers.alloc _ _).trans (KeepsOthers.alloc _ _)).from _) (((Below.refl _ W).alloc hB.size _).alloc (by have := hB.size; simp; omega) _) ⟨⟨v, (q1.alloc _).alloc _, (q2.alloc _).alloc _, q3⟩, (hB.alloc hB.size _).alloc (by have := hB.size; simp; omega) _⟩ ⟨W.heap.size, W.heap.size + 1, k1.alloc _, k2, rfl⟩
  case body =>
   rintro l pre x a' W hl - ⟨⟨v, q1, q2, -⟩, hB⟩ ⟨Bp, Bx, bP, bX, rfl⟩ hlt2
   have hN := itH_len h.2.2 HM.out.2.2.2.2.2 h.2.2.length (Nat.le_refl _)
   have m3 := HM.out.2.2.1
   have hll := lostI_len (pre.map (·.1))
   rw [List.length_map] at hll
   have z0 := q1.cell
   have z1 := q1.frozen
   have y0 := bP.cell 0 rfl
   have y1 := bP.cell 1 rfl
   have y2 := bX.cell 2 rfl
   have hsn := lostI_snoc (pre.map (·.1)) x.1
   rw [show pre.map (·.1) ++ [x.1] = (pre ++ [x]).map (·.1) by simp] at hsn
   have HN1 : RowKit.Hid (x.1.2.2.2.1 = 2 → lostI ((pre ++ [x]).map (·.1)) = lostI (pre.map (·.1)) ++ [x.1.1]) := Lib.hid (fun e => by rw [hsn, if_pos (beq_iff_eq.2 e)])
   have HF1 : RowKit.Hid (x.1.2.2.2.1 ≠ 2 → lostI ((pre ++ [x]).map (·.1)) = lostI (pre.map (·.1))) := Lib.hid (fun e => by rw [hsn, if_neg (by rw [beq_eq_false_iff_ne.2 e]; exact Bool.false_ne_true)])
   obtain ⟨I, hI⟩ : ∃ I, lostI (pre.map (·.1)) = I := ⟨_, rfl⟩
   rw [hI] at q2 HN1 HF1 hll
   have hIl : I.length ≤ 1000000 := by omega
   have HB := Lib.hid hB
   have Q1 := Lib.hid q1
   have hws := hB.size
   have hwb : w.heap.size ≤ w1.heap.size := hbw1.size
   have hbw := q1.lt
   clear hsn hI hll hlt2 hN m3 bP bX hB q1
   by_cases hc : x.1.2.2.2.1 = 2
   ·have HN2 := Lib.hid (HN1.out hc)
    have hcc : (x.1.2.2.2.1 == 2) = true := beq_iff_eq.2 hc
    rw [hc] at y2
    clear HN1 HF1 hc hcc
    gi_wp2_with (gi_at_builtin; refine wpListIn_append_own _ rfl _ _ 43 rfl w.heap.size 38 i0 (.agg #[.int .i64 0, .int .i64 0]) 2 16 Tryz.underlying43 hi hz0 hz1 hz2 rfl (by decide) _ _ _ rfl (q2.alloc _) ⟨W.heap.size, 0, none⟩ 1 1 [.int .i64 (x.1.1.1 : Nat), .int .i64 (x.1.1.2 : Nat)] rfl rfl (news_lit _ _ _ _ rfl) (by intro u hu; simp at hu; rcases hu with rfl | rfl <;> rfl) (by unfold maxLen; omega) (by omega) (by simp; omega) ?_)
    intro v4 w4 hown4 hgrow hnil
    obtain ⟨g4, c4, rfl⟩ := owns_some hown4
    obtain ⟨r1, r2, r3, r4, r5⟩ := Boxed.appended Q1.out (by decide) q2 (by omega) (by omega) hown4 hgrow
    have s1 := r1.cell
    have s2 := r1.frozen
    have HO : RowKit.Hid ((w4.setCell ⟨w1.heap.size, 0, none⟩ (.slice (some ⟨g4, 0, none⟩) (I.length + 1) c4)).ownsRow w.heap.size 38 2 (.slice (some ⟨g4, 0, none⟩) (I.length + 1) c4) (lostI ((pre ++ [x]).map (·.1))).length (placesCells (lostI ((pre ++ [x]).map (·.1))))) := Lib.hid (by rw [HN2.out, List.length_append, placesCells, List.flatMap_append]; exact r3)
    have R2 := Lib.hid r2
    have R4 := Lib.hid r4
    have R5 := Lib.hid r5
    clear hown4 hgrow hnil r1 r2 r3 r4 r5 q2
    gi_wp2_with fail
    exact ⟨R4.out.from _, R5.out, ⟨_, R2.out, by first | exact HO.out | exact ⟨HO.out, trivial⟩⟩, HB.out.trans R5.out⟩
   ·have HN2 := Lib.hid (HF1.out hc)
    have hcc : (x.1.2.2.2.1 == 2) = false := beq_eq_false_iff_ne.2 hc
    clear HN1 HF1 hc
    gi_wp2_with fail
    exact ⟨KeepsFrom.refl _ _, Below.refl _ _, ⟨_, Q1.out, by rw [HN2.out]; first | exact q2 | exact ⟨q2, trivial⟩⟩, HB.out⟩
  case done =>
   rintro Dd xs W hD hS ⟨⟨v, q1, q2, -⟩, hB⟩ hd
   rw [hS] at q2
   have z0 := q1.cell
   have q3 := ownsRow_putObj q2 (.deferred none) hd rfl
   have HO := Lib.hid (own_places q3)
   have HD := Lib.hid hd
   have HDB : RowKit.Hid (Below w.heap.size w (W.putObj Dd (.deferred none))) := Lib.hid (hB.trans (belowK_b (w := W1) (by omega) W Dd _ _ hD hd rfl rfl))
   clear q1 q2 q3 hB hd
   gi_wp2_with fail
   refine ⟨by simp, .inl ⟨_, _, rfl, run_takeDeferred HD.out, ?_⟩⟩
   exact ⟨_, results_tmp rfl _ _ _, _, rfl, by rw [HW.out]; exact HO.out, HDB.out⟩
  case stop =>
   rintro D' c pre W _ _ h' _
   exact h'.elim
end
section
open Go.RowKit Go.Lib
def lostO (o : OpM) : Bool := o.2.2.1 == 2
def noLost (h : HistM) : Prop := ∀ o ∈ allOps h, lostO o = false
theorem noLost_lost {h : HistM} (hn : noLost h) : lostI (itH h.2.2 h.2.2.length) = [] := by
 unfold lostI
 rw [List.filter_eq_nil_iff.2, List.map_nil]
 intro x hx
 have h1 : x.2 ∈ allOps h := by
  show x.2 ∈ h.2.2.flatMap (·.2.2)
  rw [← items_ops]
  exact List.mem_map_of_mem hx
 have h2 := hn _ h1
 unfold lostO at h2
 simpa using h2
end
section
instance decOp : DecidableEq OpM := fun a b => (inferInstance : Decidable (a = b))
instance decTxn : DecidableEq TxnM := fun a b => (inferInstance : Decidable (a = b))
instance decTxns : DecidableEq (List TxnM) := instDecidableEqList
instance decHist : DecidableEq HistM := fun a b => (inferInstance : Decidable (a = b))
end
end Go.Proofs.YtmgchjddpmmglaaGreatDoor
