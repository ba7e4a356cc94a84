/-
  The walk of layer 11 (hist), the program: whether a history may be. No conditions but that unicode/utf8's two tables are as their initialisers lay them.
  The walks of layer 11 (hist), the program: which transactions are so: a session's, those that may have committed. No conditions but that unicode/utf8's two tables are as their initialisers lay them.
  Layer 11's reference in plain words: numbers marked as used. No conditions.
  The walk of layer 11's reference (hist): whether a transaction's operations may be; which keys they have. No conditions.
  The walks of layer 9's reference (table): a table or not, a name found, a name put in. No conditions.
-/
import Derived.Test.YthgbfaoblnkniaaGreatDoorZe
import Derived.Test.YthgbfaoblnkniaaGreatDoorZd
import Derived.Test.YthgbfaoblnkniaaGreatDoorZa
import Derived.IntWalk
namespace Go.Proofs.YthgbfaoblnkniaaGreatDoor
open Go.RowKit Go.Shelf Go.Lib
attribute [local go_sem] Oper.semAt_some
theorem keepsFrom_below {B : Nat} {W W' : World} (h : Below W.heap.size W W') : KeepsFrom B W W' :=
 ⟨h.size, fun _ _ _ hk _ => (h.block _ (Array.getElem?_eq_some_iff.1 hk).1).trans hk⟩
theorem blk_put {w : World} {B : Nat} {t : TypeId} {cs : List Value} (h : Blk w B t cs) {l : Nat} (hne : B ≠ l) (o : Obj) : Blk (w.putObj l o) B t cs := (World.putObj_heap_other hne).trans h
set_option maxRecDepth 100000 in
set_option maxHeartbeats 4000000 in
theorem hmay_any (v0 v1 v2 : Value) (h : HistM) (w : World) (h0 : Texts w v0 h.1) (h1 : Texts w v1 h.2.1) (h2 : TxnsS w v2 h.2.2) (hm : Modst h) (hT : Lib.Utf8Tabs 1 2 w) :
  Calls Tryz.prog 17 #[.agg #[v0, v1, v2]] w fun e w' => e = .returned (.int .i64 (errH h)) ∧ Below w.heap.size w w' := by
 have HH := Lib.hid (fun w' (hb : Below w.heap.size w w') => heads_any v0 v1 v2 h w' (h0.below hb) (h1.below hb) (h2.below hb) hm (Utf8Tabs_below hT hb))
 have HC := Lib.hid (fun B w' (hb : Below w.heap.size w w') (h3 : Three w' B v0 v1 v2) => containsfunc_any v0 v1 v2 v2 h.1 h.2.2 B w' h3 (h0.below hb) (h2.below hb) hm.2.2.1)
 have T0 := Lib.hid h0
 have T1 := Lib.hid h1
 have T2 := Lib.hid h2
 have HM := Lib.hid hm
 obtain ⟨p2, c2, rfl, -⟩ := h2
 obtain ⟨p0, c0, rfl, -⟩ := h0
 obtain ⟨p1, c1, rfl, -⟩ := h1
 clear hm hT
 refine (callsIn_wide (n := 10)).1 ?_
 refine callsIn_of_wp_marks Tryz.func17 rfl trivial ?_ rfl
 simp only [Tryz.ntmps17, List.size_toArray, List.length_cons, List.length_nil, Nat.reduceAdd, Nat.reduceSub, Array.replicate_succ, Array.replicate_zero, List.push_toArray, List.append_toArray, List.nil_append, List.cons_append]
 have b0 := Blk.new w 25 [.slice p0 h.1.length c0, .slice p1 h.2.1.length c1, .slice p2 h.2.2.length c2]
 have b1 := Blk.new (w.alloc (.cells #[.slice p0 h.1.length c0, .slice p1 h.2.1.length c1, .slice p2 h.2.2.length c2] 25)) 28 [.int .i64 0]
 simp only [World.size_alloc] at b1
 replace b0 := b0.alloc (.cells #[.int .i64 0] 28)
 have hb0 : Below w.heap.size w ((w.alloc (.cells #[.slice p0 h.1.length c0, .slice p1 h.2.1.length c1, .slice p2 h.2.2.length c2] 25)).alloc (.cells #[.int .i64 0] 28)) := ((Below.refl _ w).alloc (Nat.le_refl _) _).alloc (by simp) _
 gi_wp2_with fail
 refine ⟨trivial, (callsIn_wide.2 (HH.out _ hb0)).mono ?_⟩
 rintro e w1 ⟨rfl, hb1⟩
 have hbw1 := below_next hb0 hb1
 have d0 := b0.later hb1
 have d1 := b1.later hb1
 clear b0 b1 hb0 hb1
 have x0 := d0.cell 0 rfl
 have x1 := d0.cell 1 rfl
 have x2 := d0.cell 2 rfl
 have y0 := d1.cell 0 rfl
 have y1 := d1.frozen 0
 have HR : RowKit.Hid (∀ b, okHeads h = b → errH h = if b then (if h.2.2.all (okTxn h.1.length) && ((allOps h).all (okOp h.2.1.length) && usedH h) then 0 else 4) else 4) := Lib.hid (fun b hb => by
  unfold errH mayH
  rw [hb]
  cases b
  ·simp
  ·rw [Bool.true_and, if_pos rfl])
 generalize okHeads h = b at HR
 have HR2 := Lib.hid (HR.out _ rfl)
 have facts : ∀ (w' : World), Below w1.heap.size w1 w' → Below w.heap.size w w' ∧ Blk w' w.heap.size 25 [.slice p0 h.1.length c0, .slice p1 h.2.1.length c1, .slice p2 h.2.2.length c2] ∧ Blk w' (w.heap.size + 1) 28 [.int .i64 0]   := fun w' hb => ⟨below_next hbw1 hb, d0.later hb, d1.later hb⟩
 have FX := Lib.hid facts
 have HB1 := Lib.hid hbw1
 have D1 := Lib.hid d1
 clear facts HR hbw1 d0 d1
 cases b with
 | false =>
  have hE := HR2.out
  rw [if_neg (by simp)] at hE
  have HE := Lib.hid hE
  clear hE HR2
  gi_wp2_with fail
  refine ⟨trivial, ?_⟩
  gi_wp2_with fail
  have c4 := (D1.out.set 0 (.int .i64 4)).cell 0 rfl
  refine ⟨.int .i64 4, ?_, by rw [HE.out], HB1.out.setCell (by show w.heap.size ≤ w.heap.size + 1; omega) _⟩
  simp [results, Tryz.results17, go_sem, c4]
 | true =>
  have hE := HR2.out
  rw [if_pos rfl] at hE
  have HC2 := Lib.hid (HC.out w.heap.size w1 HB1.out ⟨x0, x1, x2⟩)
  have HOK : RowKit.Hid (h.2.2.all (okTxn h.1.length) = true → ∀ t ∈ h.2.2, 0 ≤ t.1 ∧ t.1 < h.1.length) := Lib.hid (fun ha t ht => by
   have := List.all_eq_true.1 ha t ht
   simp only [okTxn, inside, Bool.and_eq_true, decide_eq_true_eq] at this
   exact this.1)
  clear HC HH
  generalize h.2.2.all (okTxn h.1.length) = b2 at *
  cases b2 with
  | false =>
   rw [Bool.false_and, if_neg (by simp)] at hE
   have HE := Lib.hid hE
   clear hE HR2
   gi_wp2_with fail
   refine ⟨trivial, (callsIn_wide.2 HC2.out).mono ?_⟩
   rintro e w2 ⟨rfl, hb2⟩
   obtain ⟨hw2, d0, d1⟩ := FX.out _ hb2
   have y0' := d1.cell 0 rfl
   have y1' := d1.frozen 0
   have D2 := Lib.hid d1
   clear hb2 d0 d1 x0 x1 x2 y0 y1
   gi_wp2_with fail
   have c4 := (D2.out.set 0 (.int .i64 4)).cell 0 rfl
   refine ⟨.int .i64 4, ?_, by rw [HE.out], hw2.setCell (by show w.heap.size ≤ w.heap.size + 1; omega) _⟩
   simp [results, Tryz.results17, go_sem, c4]
  | true =>
   rw [Bool.true_and] at hE
   have HE := Lib.hid hE
   clear hE HR2
   gi_wp2_with fail
   refine ⟨trivial, (callsIn_wide.2 HC2.out).mono ?_⟩
   rintro e w2 ⟨rfl, hb2⟩
   obtain ⟨hw2, d0, d1⟩ := FX.out _ hb2
   have x0' := d0.cell 0 rfl
   have x1' := d0.cell 1 rfl
   have x2' := d0.cell 2 rfl
   clear hb2 x0 x1 x2 y0 y1
   gi_wp2_with fail
   refine ⟨trivial, (ops_in Fence.wide 9 trivial rfl _ _ _ _).mono ?_⟩
   rintro e w3 ⟨rfl, rfl⟩
   gi_wp2_with fail
   have t1 := three_new w2 (.slice p0 h.1.length c0) (.slice p1 h.2.1.length c1) (.slice p2 h.2.2.length c2) 25
   have k0 := d0.alloc (.cells #[.slice p0 h.1.length c0, .slice p1 h.2.1.length c1, .slice p2 h.2.2.length c2] 25)
   have k1 := d1.alloc (.cells #[.slice p0 h.1.length c0, .slice p1 h.2.1.length c1, .slice p2 h.2.2.length c2] 25)
   have hb' := hw2.alloc hw2.size (.cells #[.slice p0 h.1.length c0, .slice p1 h.2.1.length c1, .slice p2 h.2.2.length c2] 25)
   have hsz : w.heap.size + 1 < w2.heap.size := d1.lt
   have hsz1 : (w2.alloc (.cells #[.slice p0 h.1.length c0, .slice p1 h.2.1.length c1, .slice p2 h.2.2.length c2] 25)).heap.size = w2.heap.size + 1 := by simp
   obtain ⟨W1, hW1⟩ : ∃ W1, w2.alloc (.cells #[.slice p0 h.1.length c0, .slice p1 h.2.1.length c1, .slice p2 h.2.2.length c2] 25) = W1 := ⟨_, rfl⟩
   rw [hW1] at t1 k0 k1 hb' hsz1 ⊢
   clear hW1 d0 d1 x0' x1' x2'
   refine wpIn_rangeFunc_ownH rfl (by omega) (gf := 65) (lb := #[.pointer (some ⟨w2.heap.size, 0, none⟩)]) rfl trivial (enters_of Tryz.func65 (by kernel_rfl) rfl)
    (ops_stops (fun _ => True) Fence.wide 9 trivial rfl (by omega) w2.heap.size w _ _ _ h.2.2 HM.out.2.2.1 T2.out HM.out.2.2.2.2.2 (fun _ _ => trivial) W1 hb' t1) belowK_t (belowK_b (by omega)) (Below.refl _ _) (fun _ => rfl)
    (fun pre W => ((∀ x ∈ pre, okOp h.2.1.length x.1.2 = true) ∧ Blk W w.heap.size 25 [.slice p0 h.1.length c0, .slice p1 h.2.1.length c1, .slice p2 h.2.2.length c2] ∧ Blk W (w.heap.size + 1) 28 [.int .i64 0]) ∧ Below w.heap.size w W)
    (fun c pre W => (c = .ret ∧ (∃ x ∈ pre, okOp h.2.1.length x.1.2 = false) ∧ Blk W (w.heap.size + 1) 28 [.int .i64 4]) ∧ Below w.heap.size w W)
    (OwnFrom.and (fun s A B row hs hg hr => by
      have hne : ∀ b, b < W1.heap.size → some b ≠ row := fun b hb e => by have := (hr b e.symm).1; omega
      exact ⟨hs.1, hs.2.1.kept hg (hne _ (by omega)), hs.2.2.kept hg (hne _ (by omega))⟩) (ownFrom_below (Nat.le_refl _) (by omega)))
    (fun c => OwnFrom.and (fun s A B row hs hg hr => by
      have hne : ∀ b, b < W1.heap.size → some b ≠ row := fun b hb e => by have := (hr b e.symm).1; omega
      exact ⟨hs.1, hs.2.1, hs.2.2.kept hg (hne _ (by omega))⟩) (ownFrom_below (Nat.le_refl _) (by omega)))
    ⟨⟨(fun x hx => by cases hx), k0, k1⟩, hb'⟩
    (fun x a' W => ∃ Bx, Blk W Bx 50 [.bool x.1.2.1, .int .i64 x.1.2.2.1, .int .i64 x.1.2.2.2.1, .int .i64 x.1.2.2.2.2] ∧ a' = { tmps := #[.agg #[.slice p0 h.1.length c0, .slice p1 h.2.1.length c1, .slice p2 h.2.2.length c2], .pointer (some ⟨w.heap.size, 0, none⟩), .pointer (some ⟨w.heap.size + 1, 0, none⟩), undef, .pointer (some ⟨Bx, 0, none⟩), .agg #[.slice p0 h.1.length c0, .slice p1 h.2.1.length c1, .slice p2 h.2.2.length c2], .bool true, .bool false, .bool false, .pointer (some ⟨w.heap.size, 2, none⟩), .slice p2 h.2.2.length c2, .func (.func 33) #[] #[.pointer (some ⟨w.heap.size, 0, none⟩)], .bool false, .bool false, .agg #[.slice p0 h.1.length c0, .slice p1 h.2.1.length c1, .slice p2 h.2.2.length c2], .func (.func 65) #[] #[.pointer (some ⟨w2.heap.size, 0, none⟩)], .agg #[.int .i64 (x.1.1.1 : Nat), .int .i64 (x.1.1.2 : Nat)], .agg #[.bool x.1.2.1, .int .i64 x.1.2.2.1, .int .i64 x.1.2.2.2.1, .int .i64 x.1.2.2.2.2], undef, undef, undef, undef, undef, undef, undef], defers := [] })
    (fun x a' _ X Y row hs hg hr => by
     obtain ⟨Bx, r2, r3⟩ := hs
     exact ⟨Bx, r2.kept hg (fun e => by obtain ⟨-, o, ho, hc⟩ := hr Bx e.symm; have r2' : X.heap[Bx]? = some _ := r2; rw [r2'] at ho; cases ho; cases hc), r3⟩)
    ?assign ?body ?done ?stop
   case assign =>
    rintro l pre x W K ⟨⟨q1, q2, q3⟩, hB⟩ hK
    simp only [encI]
    gi_wp2
    exact hK _ _ ((KeepsOthers.alloc _ _).from _) ((Below.refl _ W).alloc hB.size _) ⟨⟨q1, q2.alloc _, q3.alloc _⟩, hB.alloc hB.size _⟩ ⟨W.heap.size, Blk.new W _ [_, _, _, _], rfl⟩
   case body =>
    rintro l pre x a' W hl - ⟨⟨q1, q2, q3⟩, hB⟩ ⟨Bx, bX, rfl⟩ hlt2
    have x0 := q2.cell 0 rfl
    have x1 := q2.cell 1 rfl
    have x2 := q2.cell 2 rfl
    have z0 := bX.cell 0 rfl
    have z1 := bX.cell 1 rfl
    have z2 := bX.cell 2 rfl
    have z3 := bX.cell 3 rfl
    have HO := Lib.hid (op_any (.slice p0 h.1.length c0) (.slice p1 h.2.1.length c1) (.slice p2 h.2.2.length c2) h.2.1 x.1.2 W (T1.out.below hB))
    have HQ1 := Lib.hid q1
    have HB := Lib.hid hB
    have Q2 := Lib.hid q2
    have Q3 := Lib.hid q3
    obtain ⟨b3, hb3⟩ : ∃ b3, okOp h.2.1.length x.1.2 = b3 := ⟨_, rfl⟩
    have HB3 := Lib.hid hb3
    rw [hb3] at HO
    clear q1 q2 q3 hB hb3 bX
    gi_wp2_with fail
    refine ⟨trivial, ((callsIn_wide.2 HO.out).inRound l).mono ?_⟩
    rintro e w4 ⟨rfl, hb4⟩
    have hB4 := below_next HB.out hb4
    have k4 := Q3.out.later hb4
    have y4 := k4.cell 0 rfl
    have y5 := k4.frozen 0
    have K4 := Lib.hid k4
    have KF := Lib.hid (keepsFrom_below (B := W1.heap.size) hb4)
    have BW : RowKit.Hid (Below w.heap.size W w4) := Lib.hid (hb4.mono HB.out.size)
    have Q4 := Lib.hid (Q2.out.later hb4)
    clear k4 hb4 x0 x1 x2 z0 z1 z2 z3
    cases b3 with
    | true =>
     gi_wp2_with fail
     exact ⟨KF.out, BW.out, ⟨⟨(fun y hy => by
      rcases List.mem_append.1 hy with hy | hy
      ·exact HQ1.out y hy
      ·obtain rfl : y = x := by simpa using hy
       exact HB3.out), Q4.out, K4.out⟩, hB4⟩⟩
    | false =>
     gi_wp2_with fail
     exact ⟨KF.out.trans (KeepsFrom.of_grownBy (grownBy_setCell' _ _ _) (fun j e => by cases e; omega)), ⟨rfl, ⟨x, by simp, HB3.out⟩, K4.out.set 0 _⟩, hB4.setCell (by show w.heap.size ≤ w.heap.size + 1; omega) _⟩
   case done =>
    rintro Dd xs W hD hS ⟨⟨q1, q2, q3⟩, hB⟩ hd
    have hall : (allOps h).all (okOp h.2.1.length) = true := by
     rw [List.all_eq_true]
     intro o ho
     rw [show allOps h = h.2.2.flatMap (·.2.2) from rfl, ← items_ops, ← hS] at ho
     obtain ⟨y, hy, rfl⟩ := List.mem_map.1 ho
     obtain ⟨x, hx, rfl⟩ := List.mem_map.1 hy
     exact q1 x hx
    have hrk : ∀ o ∈ allOps h, 0 ≤ o.2.1 ∧ o.2.1 < h.2.1.length := fun o ho => by
     have := List.all_eq_true.1 hall o ho
     simp only [okOp, inside, Bool.and_eq_true, decide_eq_true_eq] at this
     exact this.1
    have HE2 := HE.out
    rw [hall, Bool.true_and] at HE2
    have HU := Lib.hid (used_in Fence.wide 9 trivial trivial trivial rfl (by omega) _ _ _ h W (T0.out.below hB) (T1.out.below hB) (T2.out.below hB) HM.out (HOK.out (by trivial)) hrk)
    have HE3 := Lib.hid HE2
    have HB := Lib.hid hB
    have Q3 := Lib.hid q3
    have HD := Lib.hid hd
    have x0 := q2.cell 0 rfl
    have x1 := q2.cell 1 rfl
    have x2 := q2.cell 2 rfl
    generalize usedH h = b4 at HU HE3
    clear q1 q2 q3 hB hS hall hrk HE2 hd
    gi_wp2_with fail
    refine ⟨trivial, HU.out.mono ?_⟩
    rintro e w4 ⟨rfl, hb4⟩
    have hB4 := below_next HB.out hb4
    have k4 := Q3.out.later hb4
    have y4 := k4.cell 0 rfl
    have y5 := k4.frozen 0
    have hd4 : w4.heap[Dd]? = some (.deferred (some [])) := (hb4.block Dd (Array.getElem?_eq_some_iff.1 HD.out).1).trans HD.out
    have HD4 := Lib.hid hd4
    have K4 := Lib.hid k4
    have hne : w.heap.size + 1 ≠ Dd := by omega
    clear k4 hb4 x0 x1 x2 hd4
    cases b4 with
    | true =>
     have k5 := blk_put (K4.out.set 0 (.int .i64 0)) hne (.deferred none)
     have K5 := Lib.hid k5
     clear k5
     gi_wp2_with fail
     refine ⟨by simp, .inl ⟨_, _, rfl, run_takeDeferred ((Below.heap_setCell _ _ _ _ (by simp; omega)).trans HD4.out), ?_⟩⟩
     have c4 := K5.out.cell 0 rfl
     exact ⟨.int .i64 0, by simp [results, Tryz.results17, go_sem, c4], by rw [HE3.out]; rfl, (hB4.setCell (by show w.heap.size ≤ w.heap.size + 1; omega) _).trans (belowK_b (w := W1) (by omega) _ Dd _ _ hD ((Below.heap_setCell _ _ _ _ (by simp; omega)).trans HD4.out) rfl rfl)⟩
    | false =>
     have k5 := blk_put (K4.out.set 0 (.int .i64 4)) hne (.deferred none)
     have K5 := Lib.hid k5
     clear k5
     gi_wp2_with fail
     refine ⟨by simp, .inl ⟨_, _, rfl, run_takeDeferred ((Below.heap_setCell _ _ _ _ (by simp; omega)).trans HD4.out), ?_⟩⟩
     have c4 := K5.out.cell 0 rfl
     exact ⟨.int .i64 4, by simp [results, Tryz.results17, go_sem, c4], by rw [HE3.out]; rfl, (hB4.setCell (by show w.heap.size ≤ w.heap.size + 1; omega) _).trans (belowK_b (w := W1) (by omega) _ Dd _ _ hD ((Below.heap_setCell _ _ _ _ (by simp; omega)).trans HD4.out) rfl rfl)⟩
   case stop =>
    rintro Dd c pre W hD hpf ⟨⟨rfl, ⟨x, hx, hx2⟩, q3⟩, hB⟩ hd
    have hall : (allOps h).all (okOp h.2.1.length) = false := by
     rw [List.all_eq_false]
     refine ⟨x.1.2, ?_, by rw [hx2]; exact Bool.false_ne_true⟩
     rw [show allOps h = h.2.2.flatMap (·.2.2) from rfl, ← items_ops]
     exact List.mem_map_of_mem (hpf.subset (List.mem_map_of_mem hx))
    have HE2 := HE.out
    rw [hall, Bool.false_and, if_neg (by simp)] at HE2
    have HE3 := Lib.hid HE2
    have hne : w.heap.size + 1 ≠ Dd := by omega
    have k5 := blk_put q3 hne (.deferred none)
    have K5 := Lib.hid k5
    clear k5 HE2 hall hx hx2
    gi_wp2_with fail
    refine ⟨by simp, .inl ⟨_, _, rfl, run_takeDeferred hd, ?_⟩⟩
    have c4 := K5.out.cell 0 rfl
    exact ⟨.int .i64 4, by simp [results, Tryz.results17, go_sem, c4], by rw [HE3.out], hB.trans (belowK_b (w := W1) (by omega) _ Dd _ _ hD hd rfl rfl)⟩
end Go.Proofs.YthgbfaoblnkniaaGreatDoor

namespace Go.Proofs.YthgbfaoblnkniaaGreatDoor
open Go.RowKit Go.Lib
theorem err_yes {h : HistM} (hm : mayH h = true) : errH h = 0 := by simp [errH, hm]
theorem err_no {h : HistM} (hm : mayH h = false) : errH h = 4 := by simp [errH, hm]
end Go.Proofs.YthgbfaoblnkniaaGreatDoor

namespace Go.Proofs.YthgbfaoblnkniaaGreatDoor
def marks (U : List Bool) (ks : List Int) : List Bool := ks.foldl (fun U k => U.set k.toNat true) U
theorem marks_snoc (U : List Bool) (ks : List Int) (k : Int) : marks U (ks ++ [k]) = (marks U ks).set k.toNat true := by simp [marks]
theorem marks_app (U : List Bool) (ks ls : List Int) : marks U (ks ++ ls) = marks (marks U ks) ls := by simp [marks]
theorem marks_len (ks : List Int) : ∀ U : List Bool, (marks U ks).length = U.length := by
 induction ks with
 | nil => intro U; rfl
 | cons k ks ih => intro U; show (marks (U.set k.toNat true) ks).length = _; rw [ih, List.length_set]
theorem marks_get (ks : List Int) : ∀ (U : List Bool) (i : Nat), i < U.length → (marks U ks).getD i false = (U.getD i false || (ks.map Int.toNat).contains i) := by
 induction ks with
 | nil => intro U i _; simp [marks]
 | cons k ks ih =>
  intro U i hi
  show (marks (U.set k.toNat true) ks).getD i false = _
  rw [ih _ _ (by rw [List.length_set]; exact hi)]
  rw [List.map_cons, List.contains_cons]
  by_cases e : i = k.toNat
  ·subst e
   simp [hi]
  ·have e' : (i == k.toNat) = false := by simpa using e
   rw [e', Bool.false_or]
   congr 1
   simp [List.getD, Ne.symm e]
theorem all_getD (U : List Bool) : U.all id = (List.range U.length).all fun i => U.getD i false := by
 rw [Bool.eq_iff_iff, List.all_eq_true, List.all_eq_true]
 constructor
 ·intro h i hi
  have hi' := List.mem_range.1 hi
  have : U.getD i false = U[i] := by simp [hi']
  rw [this]
  exact h _ (List.getElem_mem hi')
 ·intro h x hx
  obtain ⟨i, hi, rfl⟩ := List.getElem_of_mem hx
  have := h i (List.mem_range.2 hi)
  simpa [hi] using this
theorem marks_all (m : Nat) (ks : List Int) (hk : ∀ x ∈ ks, 0 ≤ x ∧ x < (m : Int)) : (marks (List.replicate m false) ks).all id = allUsed m ks := by
 rw [all_getD, marks_len, List.length_replicate]
 unfold allUsed
 rw [Bool.eq_iff_iff, List.all_eq_true, List.all_eq_true]
 have key : ∀ i, i < m → ((marks (List.replicate m false) ks).getD i false = true ↔ ks.contains (i : Int) = true) := by
  intro i hi
  rw [marks_get _ _ _ (by simpa using hi)]
  have : (List.replicate m false).getD i false = false := by simp [List.getD, hi]
  rw [this, Bool.false_or, List.contains_iff_mem, List.contains_iff_mem, List.mem_map]
  constructor
  ·rintro ⟨x, hx, e⟩
   have := hk x hx
   have e2 : x = (i : Int) := by omega
   rw [← e2]; exact hx
  ·intro hx
   exact ⟨_, hx, by simp⟩
 exact ⟨fun h i hi => (key i (List.mem_range.1 hi)).1 (h i hi), fun h i hi => (key i (List.mem_range.1 hi)).2 (h i hi)⟩
def allK (U : List Bool) (k : Nat) : Bool := (U.take k).all id
theorem allK_next (U : List Bool) (k : Nat) (h : k < U.length) : allK U (k + 1) = (allK U k && U.getD k false) := by
 unfold allK
 rw [List.take_add_one, List.all_append]
 congr 1
 simp [h]
theorem allK_all (U : List Bool) : allK U U.length = U.all id := by unfold allK; rw [List.take_length]
def keysO (l : List OpM) (k : Nat) : List Int := (l.take k).map (·.2.1)
theorem keysO_next (l : List OpM) (k : Nat) (h : k < l.length) : keysO l (k + 1) = keysO l k ++ [(l.getD k noOp).2.1] := by
 unfold keysO
 rw [List.take_add_one, List.map_append]
 congr 1
 simp [h]
def keysT (L : List TxnM) (k : Nat) : List Int := ((L.take k).flatMap (·.2.2)).map (·.2.1)
theorem keysT_next (L : List TxnM) (k : Nat) (h : k < L.length) : keysT L (k + 1) = keysT L k ++ (L.getD k noTxn).2.2.map (·.2.1) := by
 unfold keysT
 rw [List.take_add_one, List.flatMap_append, List.map_append]
 congr 1
 simp [h]
def okFull (h : HistM) (t : TxnM) : Bool := okTxn h.1.length t && t.2.2.all (okOp h.2.1.length)
theorem may_full (h : HistM) : mayH h = (okHeads h && (h.2.2.all (okFull h) && usedH h)) := by
 have e : (h.2.2.all (okTxn h.1.length) && ((allOps h).all (okOp h.2.1.length))) = h.2.2.all (okFull h) := by
  unfold allOps okFull
  generalize h.2.2 = L
  induction L with
  | nil => rfl
  | cons t L ih =>
   rw [List.flatMap_cons, List.all_cons, List.all_cons, List.all_append, ← ih]
   cases okTxn h.1.length t <;> cases t.2.2.all (okOp h.2.1.length) <;> simp
 unfold mayH
 rw [← Bool.and_assoc (h.2.2.all (okTxn h.1.length)), e]
end Go.Proofs.YthgbfaoblnkniaaGreatDoor

namespace Go.Proofs.YthgbfaoblnkniaaGreatDoor
open Go.RowKit Go.Lib
def vbools (U : List Bool) : List Value := U.map fun b => .bool b
theorem vbools_set (U : List Bool) (j : Nat) (b : Bool) : (vbools U).set j (.bool b) = vbools (U.set j b) := by simp [vbools, List.map_set]
theorem vbools_get (U : List Bool) (j : Nat) (h : j < U.length) : (vbools U)[j]? = some (.bool (U.getD j false)) := by simp [vbools, h]
theorem below_grown {w w' : World} (h : Below w.heap.size w w') (row : Option Nat) : w.grownBy w' row := ⟨h.os, h.tape, h.output, h.size, fun k hk _ => h.block k hk⟩
theorem grown_trans {a b c : World} {row : Option Nat} (h : a.grownBy b row) (k : b.grownBy c row) : a.grownBy c row :=
 ⟨k.os.trans h.os, k.tape.trans h.tape, k.output.trans h.output, Nat.le_trans h.size k.size, fun i hi hne => (k.block i (Nat.lt_of_lt_of_le hi h.size) hne).trans (h.block i hi hne)⟩
theorem grown_set (w : World) (b j : Nat) (v : Value) : w.grownBy (w.setCell ⟨b, j, none⟩ v) (some b) :=
 ⟨rfl, rfl, rfl, by simp [World.setCell], fun k _ hk => Below.heap_setCell w _ v k (fun e => hk (by rw [e]))⟩
theorem cell_grown {w w' : World} {row : Nat} {a : Addr} {v : Value} (h : w.cell? a = some v) (hg : w.grownBy w' (some row)) (hne : a.block ≠ row) : w'.cell? a = some v := hg.cell h (fun e => hne (Option.some.inj e))
def RPost (w : World) (base gu cu : Nat) (U M : List Bool) (b : Bool) (w' : World) : Prop :=
 w.grownBy w' (some gu) ∧ ∃ U' : List Bool, w'.ownsRow base 4 1 (.slice (some ⟨gu, 0, none⟩) U.length cu) U.length (vbools U') ∧ U'.length = U.length ∧ (b = true → U' = M)
theorem rpost {w : World} {base gu cu : Nat} {U M : List Bool} {b : Bool} {w' : World} (h1 : w.grownBy w' (some gu)) (U' : List Bool) (h2 : w'.ownsRow base 4 1 (.slice (some ⟨gu, 0, none⟩) U.length cu) U.length (vbools U')) (h3 : U'.length = U.length) (h4 : b = true → U' = M) : RPost w base gu cu U M b w' := ⟨h1, U', h2, h3, h4⟩
set_option maxRecDepth 100000 in
set_option maxHeartbeats 4000000 in
theorem rops_any (v0 v1 v2 sv : Value) (S K : List (List UInt8)) (t : TxnM) (gu cu : Nat) (U : List Bool) (base : Nat) (w : World) (h0 : Texts w v0 S) (h1 : Texts w v1 K) (h2 : ∃ p c n, v2 = .slice p n c) (hs : OpsS w sv t.2.2) (hl : t.2.2.length ≤ 1000)
  (_ : K.length ≤ 1000000) (hU : U.length = K.length) (hu : w.ownsRow base 4 1 (.slice (some ⟨gu, 0, none⟩) U.length cu) U.length (vbools U)) (hne : ∀ j, j < t.2.2.length → ∀ p n c, sv = .slice (some p) n c → p.block ≠ gu) :
  Calls Tryz.prog 30 #[.agg #[v0, v1, v2], .agg #[.int .i64 t.1, .int .i64 t.2.1, sv], .slice (some ⟨gu, 0, none⟩) U.length cu] w fun e w' => e = .returned (.bool (okTxn S.length t && t.2.2.all (okOp K.length))) ∧ RPost w base gu cu U (marks U (t.2.2.map (·.2.1))) (okTxn S.length t && t.2.2.all (okOp K.length)) w' := by
 obtain ⟨p0, c0, rfl, -⟩ := h0
 obtain ⟨p1, c1, rfl, -⟩ := h1
 obtain ⟨p2, c2, n2, rfl⟩ := h2
 obtain ⟨ps, cs, rfl, ho⟩ := hs
 obtain ⟨s, f, tl⟩ := t
 simp only at ho hl hne
 have HO := Lib.hid ho
 have HNE := Lib.hid hne
 have hU1 : U.length ≤ K.length := by omega
 have hU2 : K.length ≤ U.length := by omega
 clear hU
 have gw : gu < w.heap.size := (hu.lt gu rfl).2
 have hbx : w.grownBy ((w.alloc (.cells #[.slice p0 S.length c0, .slice p1 K.length c1, .slice p2 n2 c2] 25)).alloc (.cells #[.int .i64 s, .int .i64 f, .slice ps tl.length cs] 43)) (some gu) := grown_trans (World.grownBy_alloc _ _ _) (World.grownBy_alloc _ _ _)
 have hux := (hu.alloc (.cells #[.slice p0 S.length c0, .slice p1 K.length c1, .slice p2 n2 c2] 25)).alloc (.cells #[.int .i64 s, .int .i64 f, .slice ps tl.length cs] 43)
 have b0 := (Blk.new w 25 [.slice p0 S.length c0, .slice p1 K.length c1, .slice p2 n2 c2]).alloc (.cells #[.int .i64 s, .int .i64 f, .slice ps tl.length cs] 43)
 have b1 := Blk.new (w.alloc (.cells #[.slice p0 S.length c0, .slice p1 K.length c1, .slice p2 n2 c2] 25)) 43 [.int .i64 s, .int .i64 f, .slice ps tl.length cs]
 simp only [World.size_alloc] at b1
 have HBX := Lib.hid hbx
 have HUX := Lib.hid hux
 have B0 := Lib.hid b0
 have B1 := Lib.hid b1
 clear ho hne hbx hux b0 b1 hu
 -- the five tests ahead of the loop
 by_cases g1 : s < 0
 ·have hok : okTxn S.length (s, f, tl) = false := by
   rw [Bool.eq_false_iff]
   simp only [okTxn, inside, ne_eq, Bool.and_eq_true, decide_eq_true_eq]
   omega
  rw [hok, Bool.false_and]
  clear hok
  go_enter Tryz.func30, Tryz.ntmps30
  go_wp2_with fail
  go_ret
  exact ⟨rfl, rpost HBX.out U HUX.out rfl (fun h => by cases h)⟩
 by_cases g2 : (S.length : Int) ≤ s
 ·have hok : okTxn S.length (s, f, tl) = false := by
   rw [Bool.eq_false_iff]
   simp only [okTxn, inside, ne_eq, Bool.and_eq_true, decide_eq_true_eq]
   omega
  rw [hok, Bool.false_and]
  clear hok
  go_enter Tryz.func30, Tryz.ntmps30
  go_wp2_with fail
  go_ret
  exact ⟨rfl, rpost HBX.out U HUX.out rfl (fun h => by cases h)⟩
 by_cases g3 : f < 1
 ·have hok : okTxn S.length (s, f, tl) = false := by
   rw [Bool.eq_false_iff]
   simp only [okTxn, inside, ne_eq, Bool.and_eq_true, decide_eq_true_eq]
   omega
  rw [hok, Bool.false_and]
  clear hok
  go_enter Tryz.func30, Tryz.ntmps30
  go_wp2_with fail
  go_ret
  exact ⟨rfl, rpost HBX.out U HUX.out rfl (fun h => by cases h)⟩
 by_cases g4 : 3 < f
 ·have hok : okTxn S.length (s, f, tl) = false := by
   rw [Bool.eq_false_iff]
   simp only [okTxn, inside, ne_eq, Bool.and_eq_true, decide_eq_true_eq]
   omega
  rw [hok, Bool.false_and]
  clear hok
  go_enter Tryz.func30, Tryz.ntmps30
  go_wp2_with fail
  go_ret
  exact ⟨rfl, rpost HBX.out U HUX.out rfl (fun h => by cases h)⟩
 by_cases g5 : 20 < tl.length
 ·have hok : okTxn S.length (s, f, tl) = false := by
   rw [Bool.eq_false_iff]
   simp only [okTxn, inside, ne_eq, Bool.and_eq_true, decide_eq_true_eq]
   omega
  rw [hok, Bool.false_and]
  clear hok
  go_enter Tryz.func30, Tryz.ntmps30
  go_wp2_with fail
  go_ret
  exact ⟨rfl, rpost HBX.out U HUX.out rfl (fun h => by cases h)⟩
 have hok : okTxn S.length (s, f, tl) = true := by
  simp only [okTxn, inside, Bool.and_eq_true, decide_eq_true_eq]
  omega
 rw [hok, Bool.true_and]
 clear hok
 go_enter Tryz.func30, Tryz.ntmps30
 go_wp2_with fail
 go_loopw [7] (fun i wr => ∃ k : Nat, k ≤ tl.length ∧ i = .int .i64 k ∧ (∀ j, j < k → okOp K.length (tl.getD j noOp) = true) ∧ wr.ownsRow base 4 1 (.slice (some ⟨gu, 0, none⟩) U.length cu) U.length (vbools (marks U (keysO tl k))) ∧ ((w.alloc (.cells #[.slice p0 S.length c0, .slice p1 K.length c1, .slice p2 n2 c2] 25)).alloc (.cells #[.int .i64 s, .int .i64 f, .slice ps tl.length cs] 43)).grownBy wr (some gu)) (fun i _ => tl.length - (RowKit.intOf i).toNat)
 case atStart => exact ⟨0, Nat.zero_le _, rfl, fun j hj => absurd hj (Nat.not_lt_zero j), HUX.out, World.grownBy.refl _ _⟩
 case round =>
  obtain ⟨k, hk, rfl, hn, hown, hg⟩ := hrel
  have y0 := B0.out.kept hg (fun e => by have := Option.some.inj e; omega)
  have y1 := B1.out.kept hg (fun e => by have := Option.some.inj e; omega)
  have x1 := y0.cell 1 rfl
  have x2 := y1.cell 2 rfl
  have hz0 : w.heap.size < wr.heap.size := y0.lt
  have hz1 : w.heap.size + 1 < wr.heap.size := y1.lt
  have HN := Lib.hid hn
  have hgw := grown_trans HBX.out hg
  clear y0 y1 hn
  by_cases hk1 : k < tl.length
  ·obtain ⟨g, rfl, o0, o1, o2, o3⟩ := HO.out k hk1
   have hgn : g ≠ gu := HNE.out k hk1 _ _ _ rfl
   have a0 := cell_grown o0 hgw hgn
   have a1 := cell_grown o1 hgw hgn
   have a2 := cell_grown o2 hgw hgn
   have a3 := cell_grown o3 hgw hgn
   have hkn := keysO_next tl k hk1
   have HNo : RowKit.Hid (okOp K.length (tl.getD k noOp) = false → tl.all (okOp K.length) = false) := Lib.hid (fun hf => by
    rw [List.all_eq_false]
    refine ⟨tl.getD k noOp, ?_, by rw [hf]; exact Bool.false_ne_true⟩
    have : tl.getD k noOp = tl[k] := by simp [hk1]
    rw [this]
    exact List.getElem_mem hk1)
   have HYes : RowKit.Hid (okOp K.length (tl.getD k noOp) = true → ∀ j, j < k + 1 → okOp K.length (tl.getD j noOp) = true) := Lib.hid (fun h j hj => by
    by_cases hjk : j < k
    ·exact HN.out j hjk
    ·obtain rfl : j = k := by omega
     exact h)
   obtain ⟨o, hoo⟩ : ∃ o, tl.getD k noOp = o := ⟨_, rfl⟩
   rw [hoo] at a0 a1 a2 a3 hkn HNo HYes
   obtain ⟨ow, ok, od, on⟩ := o
   simp only at a0 a1 a2 a3 hkn
   have HKN := Lib.hid hkn
   clear o0 o1 o2 o3 hoo hkn HO
   by_cases q1 : ok < 0
   ·have hf : okOp K.length (ow, ok, od, on) = false := by
     rw [Bool.eq_false_iff]
     simp only [okOp, inside, ne_eq, Bool.and_eq_true, decide_eq_true_eq]
     omega
    have HF := Lib.hid (HNo.out hf)
    clear hf
    go_wp2_with fail
    go_ret
    rw [HF.out]
    exact ⟨rfl, rpost (grown_trans hgw (World.grownBy_alloc _ _ _)) _ (hown.alloc _) (marks_len _ _) (fun h => by cases h)⟩
   by_cases q2 : (K.length : Int) ≤ ok
   ·have hf : okOp K.length (ow, ok, od, on) = false := by
     rw [Bool.eq_false_iff]
     simp only [okOp, inside, ne_eq, Bool.and_eq_true, decide_eq_true_eq]
     omega
    have HF := Lib.hid (HNo.out hf)
    clear hf
    go_wp2_with fail
    go_ret
    rw [HF.out]
    exact ⟨rfl, rpost (grown_trans hgw (World.grownBy_alloc _ _ _)) _ (hown.alloc _) (marks_len _ _) (fun h => by cases h)⟩
   have hin : inside ok K.length = true := by
    simp only [inside, Bool.and_eq_true, decide_eq_true_eq]
    omega
   have HOK : RowKit.Hid (okOp K.length (ow, ok, od, on) = (mayV od on && (!ow || od == 1))) := Lib.hid (by simp only [okOp]; rw [hin, Bool.true_and])
   obtain ⟨nk, rfl⟩ := Int.eq_ofNat_of_zero_le (show (0 : Int) ≤ ok by omega)
   have hnk : nk < U.length := by omega
   have hml : (marks U (keysO tl k)).length = U.length := marks_len _ _
   have ox := Blk.new wr 50 [.bool ow, .int .i64 (nk : Int), .int .i64 od, .int .i64 on]
   have HX := Lib.hid ox
   have HMay := Lib.hid (rvmay_any od on (wr.alloc (.cells #[.bool ow, .int .i64 (nk : Int), .int .i64 od, .int .i64 on] 50)))
   have HG := Lib.hid hgw
   have HG1 := Lib.hid hg
   clear hin ox hgw hg
   cases hv : mayV od on with
   | false =>
    rw [hv] at HMay HOK
    have HF := Lib.hid (HNo.out (by rw [HOK.out]; rfl))
    clear hv
    go_wp2_with fail
    refine HMay.out.mono ?_
    rintro e w3 ⟨rfl, hb3⟩
    have hown3 := owns_later (hown.alloc _) hb3
    have HG3 := Lib.hid (grown_trans (grown_trans HG.out (World.grownBy_alloc _ _ _)) (below_grown hb3 _))
    clear hb3 hown
    go_wp2_with fail
    go_ret
    rw [HF.out]
    exact ⟨rfl, rpost HG3.out _ hown3 (marks_len _ _) (fun h => by cases h)⟩
   | true =>
    rw [hv, Bool.true_and] at HOK
    rw [hv] at HMay
    clear hv
    by_cases q3 : ow = true ∧ od ≠ 1
    ·obtain ⟨rfl, q4⟩ := q3
     have q5 : (od == 1) = false := beq_eq_false_iff_ne.2 q4
     have q6 : (od != 1) = true := bne_iff_ne.2 q4
     have HF := Lib.hid (HNo.out (by rw [HOK.out, q5]; rfl))
     clear q4
     go_wp2_with fail
     refine HMay.out.mono ?_
     rintro e w3 ⟨rfl, hb3⟩
     have hown3 := owns_later (hown.alloc _) hb3
     have xx := HX.out.later hb3
     have z0 := xx.cell 0 rfl
     have z1 := xx.cell 1 rfl
     have z2 := xx.cell 2 rfl
     have HG3 := Lib.hid (grown_trans (grown_trans HG.out (World.grownBy_alloc _ _ _)) (below_grown hb3 _))
     clear hb3 hown xx
     go_wp2_with fail
     go_ret
     rw [HF.out]
     exact ⟨rfl, rpost HG3.out _ hown3 (marks_len _ _) (fun h => by cases h)⟩
    ·have hyes : okOp K.length (ow, (nk : Int), od, on) = true := by
      rw [HOK.out]
      cases ow with
      | false => rfl
      | true =>
       by_cases e : od = 1
       ·rw [e]; rfl
       ·exact absurd ⟨rfl, e⟩ q3
     have HY := Lib.hid (HYes.out hyes)
     have q7 : ow = false ∨ (ow = true ∧ od = 1) := by
      cases ow with
      | false => exact .inl rfl
      | true =>
       by_cases e : od = 1
       ·exact .inr ⟨rfl, e⟩
       ·exact absurd ⟨rfl, e⟩ q3
     clear q3 hyes
     rcases q7 with rfl | ⟨rfl, rfl⟩
     all_goals
      go_wp2_with fail
      refine HMay.out.mono ?_
      rintro e w3 ⟨rfl, hb3⟩
      have hown3 := owns_later (hown.alloc _) hb3
      have xx := HX.out.later hb3
      have z0 := xx.cell 0 rfl
      have z1 := xx.cell 1 rfl
      have z2 := xx.cell 2 rfl
      have r1 : w3.cell? ⟨gu, nk, none⟩ = some (.bool ((marks U (keysO tl k)).getD nk false)) := by
       rw [hown3.cellAt nk (by omega)]
       exact vbools_get _ _ (by omega)
      have r2 := hown3.frozenAt nk
      generalize (marks U (keysO tl k)).getD nk false = old at r1
      have hst := hown3.stored nk (.bool true)
      rw [vbools_set, show (marks U (keysO tl k)).set nk true = marks U (keysO tl (k + 1)) by rw [HKN.out, marks_snoc]; rfl] at hst
      have HST := Lib.hid hst.1
      have HG3 := Lib.hid (grown_trans (grown_trans (grown_trans HG1.out (World.grownBy_alloc _ _ _)) (below_grown hb3 _)) (grown_set w3 gu nk (.bool true)))
      have hu1 : (nk : Int) < (U.length : Int) := by omega
      clear hb3 hown xx hown3 hst
      go_wp2_with fail
      go_roundw
      case rel => exact ⟨k + 1, by omega, by go_num, HY.out, HST.out, HG3.out⟩
      case measure => simp [RowKit.intOf]; omega
  ·have hke : k = tl.length := by omega
   have hall : tl.all (okOp K.length) = true := by
    rw [List.all_eq_true]
    intro x hx
    obtain ⟨j, hj, e⟩ := List.getElem_of_mem hx
    have := HN.out j (by omega)
    simpa [hj, e] using this
   have hmk : marks U (keysO tl k) = marks U (tl.map (·.2.1)) := by rw [hke, keysO, List.take_length]
   have HA := Lib.hid hall
   have HMK := Lib.hid hmk
   clear hall hmk
   go_wp2_with fail
   go_ret
   rw [HA.out]
   exact ⟨rfl, rpost hgw _ hown (marks_len _ _) (fun _ => HMK.out)⟩
end Go.Proofs.YthgbfaoblnkniaaGreatDoor

namespace Go.Proofs.YthgbfaoblnkniaaGreatDoor
open Go.RowKit Go.Lib
theorem good_len' (L : List (List UInt8)) (k : Nat) (hs : ∀ x ∈ L, x.length ≤ 1000000) : (L.getD k []).length ≤ 1000000 := by
 by_cases h : k < L.length
 ·exact hs _ (getD_mem L k h)
 ·rw [List.getD_eq_getElem?_getD, List.getElem?_eq_none (by omega)]
  simp
set_option maxRecDepth 100000 in
set_option maxHeartbeats 2000000 in
theorem rtis_any (w : World) (v : Value) (L : List (List UInt8)) (hv : Texts w v L) (hL : L.length ≤ 1000000) (hs : ∀ x ∈ L, x.length ≤ 1000000) :
  Calls Tryz.prog 29 #[v] w fun e w' => e = .returned (.bool (isT L)) ∧ Below w.heap.size w w' := by
 obtain ⟨p, c, rfl, hp⟩ := hv
 have HX := Lib.hid hp
 have HS := Lib.hid hs
 have HA := Lib.hid (isT_no L)
 have HZ := Lib.hid (isT_yes L)
 obtain ⟨R, hR⟩ : ∃ R, isT L = R := ⟨_, rfl⟩
 rw [hR] at HA HZ ⊢
 clear hp hs hR
 go_enter Tryz.func29, Tryz.ntmps29
 go_wp2_with fail
 go_loopw [3] (fun i wr => ∃ k : Nat, k ≤ L.length ∧ i = .int .i64 k ∧ (∀ j, j < k → goodT L j = true) ∧ Below w.heap.size w wr) (fun i _ => L.length - (RowKit.intOf i).toNat)
 case atStart => exact ⟨0, Nat.zero_le _, rfl, fun j hj => absurd hj (Nat.not_lt_zero j), Below.refl _ _⟩
 case round =>
  obtain ⟨k, hk, rfl, hn, hbw⟩ := hrel
  have HN := Lib.hid hn
  clear hn
  by_cases hlt : k < L.length
  ·have hstep : goodT L k = true → ∀ j, j < k + 1 → goodT L j = true := fun hg j hj => by
    by_cases hjk : j < k
    ·exact HN.out j hjk
    ·obtain rfl : j = k := by omega
     exact hg
   have HStep := Lib.hid hstep
   have HNo := Lib.hid (HA.out k hlt)
   clear hstep
   cases k with
   | zero =>
    obtain ⟨g, rfl, hc⟩ := HX.out 0 hlt
    have HI := Lib.hid (ris_any (L.getD 0 []) (good_len' L 0 HS.out))
    have hg0 := good_first L
    obtain ⟨x, hx⟩ : ∃ x, L.getD 0 [] = x := ⟨_, rfl⟩
    rw [hx] at hc HI hg0
    have c3 : decide ((0 : Int) < 0) = false := by decide
    clear hx
    cases hnx : nameL x with
    | false =>
     rw [hnx] at HI hg0
     have H1 := Lib.hid (HNo.out hg0)
     clear hnx hg0
     go_wp2_with fail
     have hq0 : ∀ m : Later wr, m.w.cell? ⟨g, 0, none⟩ = some (.string (bs x)) := fun m => cell_later m.h (cell_later hbw hc)
     refine wp_region_later (by kernel_rfl) (by kernel_rfl) ?_
     repeat (go_big_quiet_step (first | (go_at_call 59; exact Later.call (HI.out _))))
     refine wpQuiet_nil ?_
     intro _ hw'
     obtain ⟨⟨w3, hb3⟩, hw''⟩ := hw'
     have hw3 : w3 = _ := hw''.symm
     subst hw3
     try dsimp only at hb3
     go_wp2_with fail
     go_ret
     exact ⟨by rw [H1.out]; rfl, below_next hbw hb3⟩
    | true =>
     rw [hnx] at HI hg0
     have H1 := Lib.hid (HStep.out hg0)
     have hwr : IntKind.i64.wrap 1 = 1 := by decide
     clear hnx hg0
     go_wp2_with fail
     have hq0 : ∀ m : Later wr, m.w.cell? ⟨g, 0, none⟩ = some (.string (bs x)) := fun m => cell_later m.h (cell_later hbw hc)
     refine wp_region_later (by kernel_rfl) (by kernel_rfl) ?_
     repeat (go_big_quiet_step (first | (go_at_call 59; exact Later.call (HI.out _))))
     refine wpQuiet_nil ?_
     intro _ hw'
     obtain ⟨⟨w3, hb3⟩, hw''⟩ := hw'
     have hw3 : w3 = _ := hw''.symm
     subst hw3
     try dsimp only at hb3
     go_wp2_with fail
     go_roundw
     case rel => exact ⟨1, by omega, rfl, H1.out, below_next hbw hb3⟩
     case measure => simp [RowKit.intOf]; omega
   | succ q =>
    obtain ⟨g, rfl, hc⟩ := HX.out (q + 1) hlt
    obtain ⟨g', hg', hd⟩ := HX.out q (by omega)
    obtain rfl : g = g' := by simpa using hg'
    have HI := Lib.hid (ris_any (L.getD (q + 1) []) (good_len' L (q + 1) HS.out))
    have HL := Lib.hid (rless_any (L.getD q []) (L.getD (q + 1) []) (good_len' L q HS.out) (good_len' L (q + 1) HS.out))
    have hg0 := good_next L q
    have hlt0 : ltN (L.getD q []) (L.getD (q + 1) []) = lexLess (runesU (L.getD q [])) (runesU (L.getD (q + 1) [])) := rfl
    obtain ⟨x, hx⟩ : ∃ x, L.getD (q + 1) [] = x := ⟨_, rfl⟩
    obtain ⟨y, hy⟩ : ∃ y, L.getD q [] = y := ⟨_, rfl⟩
    rw [hx] at hc HI HL hg0 hlt0
    rw [hy] at hd HL hg0 hlt0
    rw [← hlt0] at HL
    have c3 : decide ((0 : Int) < (q : Int) + 1) = true := decide_eq_true (by omega)
    clear hx hy hlt0 hg'
    cases hnx : nameL x with
    | false =>
     rw [hnx] at HI hg0
     have H1 := Lib.hid (HNo.out hg0)
     clear hnx hg0
     go_wp2_with fail
     have hq0 : ∀ m : Later wr, m.w.cell? ⟨g, q + 1, none⟩ = some (.string (bs x)) := fun m => cell_later m.h (cell_later hbw hc)
     have hq1 : ∀ m : Later wr, m.w.cell? ⟨g, q, none⟩ = some (.string (bs y)) := fun m => cell_later m.h (cell_later hbw hd)
     refine wp_region_later (by kernel_rfl) (by kernel_rfl) ?_
     repeat (go_big_quiet_step (first | (go_at_call 59; exact Later.call (HI.out _))))
     refine wpQuiet_nil ?_
     intro _ hw'
     obtain ⟨⟨w3, hb3⟩, hw''⟩ := hw'
     have hw3 : w3 = _ := hw''.symm
     subst hw3
     try dsimp only at hb3
     go_wp2_with fail
     go_ret
     exact ⟨by rw [H1.out]; rfl, below_next hbw hb3⟩
    | true =>
     rw [hnx, Bool.true_and] at hg0
     rw [hnx] at HI
     cases hl : ltN y x with
     | false =>
      rw [hl] at HL hg0
      have H1 := Lib.hid (HNo.out hg0)
      clear hnx hg0 hl
      go_wp2_with fail
      have hq0 : ∀ m : Later wr, m.w.cell? ⟨g, q + 1, none⟩ = some (.string (bs x)) := fun m => cell_later m.h (cell_later hbw hc)
      have hq1 : ∀ m : Later wr, m.w.cell? ⟨g, q, none⟩ = some (.string (bs y)) := fun m => cell_later m.h (cell_later hbw hd)
      refine wp_region_later (by kernel_rfl) (by kernel_rfl) ?_
      repeat (go_big_quiet_step (first | (go_at_call 59; exact Later.call (HI.out _)) | (go_at_call 60; exact Later.call (HL.out _))))
      refine wpQuiet_nil ?_
      intro _ hw'
      obtain ⟨⟨w3, hb3⟩, hw''⟩ := hw'
      have hw3 : w3 = _ := hw''.symm
      subst hw3
      try dsimp only at hb3
      go_wp2_with fail
      go_ret
      exact ⟨by rw [H1.out]; rfl, below_next hbw hb3⟩
     | true =>
      rw [hl] at HL hg0
      have H1 := Lib.hid (HStep.out hg0)
      have hwr : IntKind.i64.wrap ((q : Int) + 1 + 1) = (q : Int) + 1 + 1 := IntWalk.i64_in _ (by omega)
      clear hnx hg0 hl
      go_wp2_with fail
      have hq0 : ∀ m : Later wr, m.w.cell? ⟨g, q + 1, none⟩ = some (.string (bs x)) := fun m => cell_later m.h (cell_later hbw hc)
      have hq1 : ∀ m : Later wr, m.w.cell? ⟨g, q, none⟩ = some (.string (bs y)) := fun m => cell_later m.h (cell_later hbw hd)
      refine wp_region_later (by kernel_rfl) (by kernel_rfl) ?_
      repeat (go_big_quiet_step (first | (go_at_call 59; exact Later.call (HI.out _)) | (go_at_call 60; exact Later.call (HL.out _))))
      refine wpQuiet_nil ?_
      intro _ hw'
      obtain ⟨⟨w3, hb3⟩, hw''⟩ := hw'
      have hw3 : w3 = _ := hw''.symm
      subst hw3
      try dsimp only at hb3
      go_wp2_with fail
      go_roundw
      case rel => exact ⟨q + 1 + 1, by omega, by go_num, H1.out, below_next hbw hb3⟩
      case measure => simp [RowKit.intOf]; omega
  ·have hke : k = L.length := by omega
   subst hke
   have H1 := Lib.hid (HZ.out HN.out)
   go_wp2_with fail
   go_ret
   exact ⟨by rw [H1.out]; rfl, hbw⟩
end Go.Proofs.YthgbfaoblnkniaaGreatDoor
