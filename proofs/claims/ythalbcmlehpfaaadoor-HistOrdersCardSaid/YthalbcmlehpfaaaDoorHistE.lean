/-
  The walk of layer 11 (hist), the program: whether a history may be. No conditions but that unicode/utf8's two tables are as their initialisers lay them.
-/
import Derived.Test.YthalbcmlehpfaaaDoorHistD
import Derived.Test.YthalbcmlehpfaaaDoorBlk
namespace Go.Proofs.YthalbcmlehpfaaaDoor
open Go.RowKit Go.Shelf Go.Lib

attribute [local go_sem] Oper.semAt_some

theorem keepsFrom_below {B : Nat} {W W' : World} (h : Below W.heap.size W W') : KeepsFrom B W W' :=
  ⟨h.size, fun _ _ _ hk _ => (h.block _ (Array.getElem?_eq_some_iff.1 hk).1).trans hk⟩

theorem blk_put {w : World} {B : Nat} {t : TypeId} {cs : List Value} (h : Blk w B t cs) {l : Nat} (hne : B ≠ l) (o : Obj) : Blk (w.putObj l o) B t cs := (World.putObj_heap_other hne).trans h

set_option maxRecDepth 100000 in
set_option maxHeartbeats 4000000 in
theorem hmay_any (v0 v1 v2 : Value) (h : HistM) (w : World) (h0 : Texts w v0 h.1) (h1 : Texts w v1 h.2.1) (h2 : TxnsS w v2 h.2.2) (hm : Modst h) (hT : Lib.Utf8Tabs 0 1 w) :
    Calls Tryd.prog 20 #[.agg #[v0, v1, v2]] w fun e w' => e = .returned (.int .i64 (errH h)) ∧ Below w.heap.size w w' := by
  have HH := Lib.hid (fun w' (hb : Below w.heap.size w w') => heads_any v0 v1 v2 h w' (h0.below hb) (h1.below hb) (h2.below hb) hm (Utf8Tabs_below hT hb))
  have HC := Lib.hid (fun B w' (hb : Below w.heap.size w w') (h3 : Three w' B v0 v1 v2) => containsfunc_any v0 v1 v2 v2 h.1 h.2.2 B w' h3 (h0.below hb) (h2.below hb) hm.2.2.1)
  have T0 := Lib.hid h0
  have T1 := Lib.hid h1
  have T2 := Lib.hid h2
  have HM := Lib.hid hm
  obtain ⟨p2, c2, rfl, -⟩ := h2
  obtain ⟨p0, c0, rfl, -⟩ := h0
  obtain ⟨p1, c1, rfl, -⟩ := h1
  clear hm hT
  refine (callsIn_wide (n := 10)).1 ?_
  refine callsIn_of_wp_marks Tryd.func20 rfl trivial ?_ rfl
  simp only [Tryd.ntmps20, List.size_toArray, List.length_cons, List.length_nil, Nat.reduceAdd, Nat.reduceSub, Array.replicate_succ, Array.replicate_zero, List.push_toArray, List.append_toArray, List.nil_append, List.cons_append]
  have b0 := Blk.new w 25 [.slice p0 h.1.length c0, .slice p1 h.2.1.length c1, .slice p2 h.2.2.length c2]
  have b1 := Blk.new (w.alloc (.cells #[.slice p0 h.1.length c0, .slice p1 h.2.1.length c1, .slice p2 h.2.2.length c2] 25)) 29 [.int .i64 0]
  simp only [World.size_alloc] at b1
  replace b0 := b0.alloc (.cells #[.int .i64 0] 29)
  have hb0 : Below w.heap.size w ((w.alloc (.cells #[.slice p0 h.1.length c0, .slice p1 h.2.1.length c1, .slice p2 h.2.2.length c2] 25)).alloc (.cells #[.int .i64 0] 29)) := ((Below.refl _ w).alloc (Nat.le_refl _) _).alloc (by simp) _
  gi_wp2_with fail
  refine ⟨trivial, (callsIn_wide.2 (HH.out _ hb0)).mono ?_⟩
  rintro e w1 ⟨rfl, hb1⟩
  have hbw1 := below_next hb0 hb1
  have d0 := b0.later hb1
  have d1 := b1.later hb1
  clear b0 b1 hb0 hb1
  have x0 := d0.cell 0 rfl
  have x1 := d0.cell 1 rfl
  have x2 := d0.cell 2 rfl
  have y0 := d1.cell 0 rfl
  have y1 := d1.frozen 0
  have HR : RowKit.Hid (∀ b, okHeads h = b → errH h = if b then (if h.2.2.all (okTxn h.1.length) && ((allOps h).all (okOp h.2.1.length) && usedH h) then 0 else 4) else 4) := Lib.hid (fun b hb => by
    unfold errH mayH
    rw [hb]
    cases b
    · simp
    · rw [Bool.true_and, if_pos rfl])
  generalize okHeads h = b at HR
  have HR2 := Lib.hid (HR.out _ rfl)
  have facts : ∀ (w' : World), Below w1.heap.size w1 w' → Below w.heap.size w w' ∧ Blk w' w.heap.size 25 [.slice p0 h.1.length c0, .slice p1 h.2.1.length c1, .slice p2 h.2.2.length c2] ∧ Blk w' (w.heap.size + 1) 29 [.int .i64 0]   := fun w' hb => ⟨below_next hbw1 hb, d0.later hb, d1.later hb⟩
  have FX := Lib.hid facts
  have HB1 := Lib.hid hbw1
  have D1 := Lib.hid d1
  clear facts HR hbw1 d0 d1
  cases b with
  | false =>
    have hE := HR2.out
    rw [if_neg (by simp)] at hE
    have HE := Lib.hid hE
    clear hE HR2
    gi_wp2_with fail
    refine ⟨trivial, ?_⟩
    gi_wp2_with fail
    have c4 := (D1.out.set 0 (.int .i64 4)).cell 0 rfl
    refine ⟨.int .i64 4, ?_, by rw [HE.out], HB1.out.setCell (by show w.heap.size ≤ w.heap.size + 1; omega) _⟩
    simp [results, Tryd.results20, go_sem, c4]
  | true =>
    have hE := HR2.out
    rw [if_pos rfl] at hE
    have HC2 := Lib.hid (HC.out w.heap.size w1 HB1.out ⟨x0, x1, x2⟩)
    have HOK : RowKit.Hid (h.2.2.all (okTxn h.1.length) = true → ∀ t ∈ h.2.2, 0 ≤ t.1 ∧ t.1 < h.1.length) := Lib.hid (fun ha t ht => by
      have := List.all_eq_true.1 ha t ht
      simp only [okTxn, inside, Bool.and_eq_true, decide_eq_true_eq] at this
      exact this.1)
    clear HC HH
    generalize h.2.2.all (okTxn h.1.length) = b2 at *
    cases b2 with
    | false =>
      rw [Bool.false_and, if_neg (by simp)] at hE
      have HE := Lib.hid hE
      clear hE HR2
      gi_wp2_with fail
      refine ⟨trivial, (callsIn_wide.2 HC2.out).mono ?_⟩
      rintro e w2 ⟨rfl, hb2⟩
      obtain ⟨hw2, d0, d1⟩ := FX.out _ hb2
      have y0' := d1.cell 0 rfl
      have y1' := d1.frozen 0
      have D2 := Lib.hid d1
      clear hb2 d0 d1 x0 x1 x2 y0 y1
      gi_wp2_with fail
      have c4 := (D2.out.set 0 (.int .i64 4)).cell 0 rfl
      refine ⟨.int .i64 4, ?_, by rw [HE.out], hw2.setCell (by show w.heap.size ≤ w.heap.size + 1; omega) _⟩
      simp [results, Tryd.results20, go_sem, c4]
    | true =>
      rw [Bool.true_and] at hE
      have HE := Lib.hid hE
      clear hE HR2
      gi_wp2_with fail
      refine ⟨trivial, (callsIn_wide.2 HC2.out).mono ?_⟩
      rintro e w2 ⟨rfl, hb2⟩
      obtain ⟨hw2, d0, d1⟩ := FX.out _ hb2
      have x0' := d0.cell 0 rfl
      have x1' := d0.cell 1 rfl
      have x2' := d0.cell 2 rfl
      clear hb2 x0 x1 x2 y0 y1
      gi_wp2_with fail
      refine ⟨trivial, (ops_in Fence.wide 9 trivial rfl _ _ _ _).mono ?_⟩
      rintro e w3 ⟨rfl, rfl⟩
      gi_wp2_with fail
      have t1 := three_new w2 (.slice p0 h.1.length c0) (.slice p1 h.2.1.length c1) (.slice p2 h.2.2.length c2) 25
      have k0 := d0.alloc (.cells #[.slice p0 h.1.length c0, .slice p1 h.2.1.length c1, .slice p2 h.2.2.length c2] 25)
      have k1 := d1.alloc (.cells #[.slice p0 h.1.length c0, .slice p1 h.2.1.length c1, .slice p2 h.2.2.length c2] 25)
      have hb' := hw2.alloc hw2.size (.cells #[.slice p0 h.1.length c0, .slice p1 h.2.1.length c1, .slice p2 h.2.2.length c2] 25)
      have hsz : w.heap.size + 1 < w2.heap.size := d1.lt
      have hsz1 : (w2.alloc (.cells #[.slice p0 h.1.length c0, .slice p1 h.2.1.length c1, .slice p2 h.2.2.length c2] 25)).heap.size = w2.heap.size + 1 := by simp
      obtain ⟨W1, hW1⟩ : ∃ W1, w2.alloc (.cells #[.slice p0 h.1.length c0, .slice p1 h.2.1.length c1, .slice p2 h.2.2.length c2] 25) = W1 := ⟨_, rfl⟩
      rw [hW1] at t1 k0 k1 hb' hsz1 ⊢
      clear hW1 d0 d1 x0' x1' x2'
      refine wpIn_rangeFunc_ownH rfl (by omega) (gf := 67) (lb := #[.pointer (some ⟨w2.heap.size, 0, none⟩)]) rfl trivial (enters_of Tryd.func67 (by kernel_rfl) rfl)
        (ops_stops (fun _ => True) Fence.wide 9 trivial rfl (by omega) w2.heap.size w _ _ _ h.2.2 HM.out.2.2.1 T2.out HM.out.2.2.2.2.2 (fun _ _ => trivial) W1 hb' t1) belowK_t (belowK_b (by omega)) (Below.refl _ _) (fun _ => rfl)
        (fun pre W => ((∀ x ∈ pre, okOp h.2.1.length x.1.2 = true) ∧ Blk W w.heap.size 25 [.slice p0 h.1.length c0, .slice p1 h.2.1.length c1, .slice p2 h.2.2.length c2] ∧ Blk W (w.heap.size + 1) 29 [.int .i64 0]) ∧ Below w.heap.size w W)
        (fun c pre W => (c = .ret ∧ (∃ x ∈ pre, okOp h.2.1.length x.1.2 = false) ∧ Blk W (w.heap.size + 1) 29 [.int .i64 4]) ∧ Below w.heap.size w W)
        (OwnFrom.and (fun s A B row hs hg hr => by
            have hne : ∀ b, b < W1.heap.size → some b ≠ row := fun b hb e => by have := (hr b e.symm).1; omega
            exact ⟨hs.1, hs.2.1.kept hg (hne _ (by omega)), hs.2.2.kept hg (hne _ (by omega))⟩) (ownFrom_below (Nat.le_refl _) (by omega)))
        (fun c => OwnFrom.and (fun s A B row hs hg hr => by
            have hne : ∀ b, b < W1.heap.size → some b ≠ row := fun b hb e => by have := (hr b e.symm).1; omega
            exact ⟨hs.1, hs.2.1, hs.2.2.kept hg (hne _ (by omega))⟩) (ownFrom_below (Nat.le_refl _) (by omega)))
        ⟨⟨(fun x hx => by cases hx), k0, k1⟩, hb'⟩
        (fun x a' W => ∃ Bx, Blk W Bx 62 [.bool x.1.2.1, .int .i64 x.1.2.2.1, .int .i64 x.1.2.2.2.1, .int .i64 x.1.2.2.2.2] ∧ a' = { tmps := #[.agg #[.slice p0 h.1.length c0, .slice p1 h.2.1.length c1, .slice p2 h.2.2.length c2], .pointer (some ⟨w.heap.size, 0, none⟩), .pointer (some ⟨w.heap.size + 1, 0, none⟩), undef, .pointer (some ⟨Bx, 0, none⟩), .agg #[.slice p0 h.1.length c0, .slice p1 h.2.1.length c1, .slice p2 h.2.2.length c2], .bool true, .bool false, .bool false, .pointer (some ⟨w.heap.size, 2, none⟩), .slice p2 h.2.2.length c2, .func (.func 47) #[] #[.pointer (some ⟨w.heap.size, 0, none⟩)], .bool false, .bool false, .agg #[.slice p0 h.1.length c0, .slice p1 h.2.1.length c1, .slice p2 h.2.2.length c2], .func (.func 67) #[] #[.pointer (some ⟨w2.heap.size, 0, none⟩)], .agg #[.int .i64 (x.1.1.1 : Nat), .int .i64 (x.1.1.2 : Nat)], .agg #[.bool x.1.2.1, .int .i64 x.1.2.2.1, .int .i64 x.1.2.2.2.1, .int .i64 x.1.2.2.2.2], undef, undef, undef, undef, undef, undef, undef], defers := [] })
        (fun x a' _ X Y row hs hg hr => by
          obtain ⟨Bx, r2, r3⟩ := hs
          exact ⟨Bx, r2.kept hg (fun e => by obtain ⟨-, o, ho, hc⟩ := hr Bx e.symm; have r2' : X.heap[Bx]? = some _ := r2; rw [r2'] at ho; cases ho; cases hc), r3⟩)
        ?assign ?body ?done ?stop
      case assign =>
        rintro l pre x W K ⟨⟨q1, q2, q3⟩, hB⟩ hK
        simp only [encI]
        gi_wp2
        exact hK _ _ ((KeepsOthers.alloc _ _).from _) ((Below.refl _ W).alloc hB.size _) ⟨⟨q1, q2.alloc _, q3.alloc _⟩, hB.alloc hB.size _⟩ ⟨W.heap.size, Blk.new W _ [_, _, _, _], rfl⟩
      case body =>
        rintro l pre x a' W hl - ⟨⟨q1, q2, q3⟩, hB⟩ ⟨Bx, bX, rfl⟩ hlt2
        have x0 := q2.cell 0 rfl
        have x1 := q2.cell 1 rfl
        have x2 := q2.cell 2 rfl
        have z0 := bX.cell 0 rfl
        have z1 := bX.cell 1 rfl
        have z2 := bX.cell 2 rfl
        have z3 := bX.cell 3 rfl
        have HO := Lib.hid (op_any (.slice p0 h.1.length c0) (.slice p1 h.2.1.length c1) (.slice p2 h.2.2.length c2) h.2.1 x.1.2 W (T1.out.below hB))
        have HQ1 := Lib.hid q1
        have HB := Lib.hid hB
        have Q2 := Lib.hid q2
        have Q3 := Lib.hid q3
        obtain ⟨b3, hb3⟩ : ∃ b3, okOp h.2.1.length x.1.2 = b3 := ⟨_, rfl⟩
        have HB3 := Lib.hid hb3
        rw [hb3] at HO
        clear q1 q2 q3 hB hb3 bX
        gi_wp2_with fail
        refine ⟨trivial, ((callsIn_wide.2 HO.out).inRound l).mono ?_⟩
        rintro e w4 ⟨rfl, hb4⟩
        have hB4 := below_next HB.out hb4
        have k4 := Q3.out.later hb4
        have y4 := k4.cell 0 rfl
        have y5 := k4.frozen 0
        have K4 := Lib.hid k4
        have KF := Lib.hid (keepsFrom_below (B := W1.heap.size) hb4)
        have BW : RowKit.Hid (Below w.heap.size W w4) := Lib.hid (hb4.mono HB.out.size)
        have Q4 := Lib.hid (Q2.out.later hb4)
        clear k4 hb4 x0 x1 x2 z0 z1 z2 z3
        cases b3 with
        | true =>
          gi_wp2_with fail
          exact ⟨KF.out, BW.out, ⟨⟨(fun y hy => by
            rcases List.mem_append.1 hy with hy | hy
            · exact HQ1.out y hy
            · obtain rfl : y = x := by simpa using hy
              exact HB3.out), Q4.out, K4.out⟩, hB4⟩⟩
        | false =>
          gi_wp2_with fail
          exact ⟨KF.out.trans (KeepsFrom.of_grownBy (grownBy_setCell' _ _ _) (fun j e => by cases e; omega)), ⟨rfl, ⟨x, by simp, HB3.out⟩, K4.out.set 0 _⟩, hB4.setCell (by show w.heap.size ≤ w.heap.size + 1; omega) _⟩
      case done =>
        rintro Dd xs W hD hS ⟨⟨q1, q2, q3⟩, hB⟩ hd
        have hall : (allOps h).all (okOp h.2.1.length) = true := by
          rw [List.all_eq_true]
          intro o ho
          rw [show allOps h = h.2.2.flatMap (·.2.2) from rfl, ← items_ops, ← hS] at ho
          obtain ⟨y, hy, rfl⟩ := List.mem_map.1 ho
          obtain ⟨x, hx, rfl⟩ := List.mem_map.1 hy
          exact q1 x hx
        have hrk : ∀ o ∈ allOps h, 0 ≤ o.2.1 ∧ o.2.1 < h.2.1.length := fun o ho => by
          have := List.all_eq_true.1 hall o ho
          simp only [okOp, inside, Bool.and_eq_true, decide_eq_true_eq] at this
          exact this.1
        have HE2 := HE.out
        rw [hall, Bool.true_and] at HE2
        have HU := Lib.hid (used_in Fence.wide 9 trivial trivial trivial rfl (by omega) _ _ _ h W (T0.out.below hB) (T1.out.below hB) (T2.out.below hB) HM.out (HOK.out (by trivial)) hrk)
        have HE3 := Lib.hid HE2
        have HB := Lib.hid hB
        have Q3 := Lib.hid q3
        have HD := Lib.hid hd
        have x0 := q2.cell 0 rfl
        have x1 := q2.cell 1 rfl
        have x2 := q2.cell 2 rfl
        generalize usedH h = b4 at HU HE3
        clear q1 q2 q3 hB hS hall hrk HE2 hd
        gi_wp2_with fail
        refine ⟨trivial, HU.out.mono ?_⟩
        rintro e w4 ⟨rfl, hb4⟩
        have hB4 := below_next HB.out hb4
        have k4 := Q3.out.later hb4
        have y4 := k4.cell 0 rfl
        have y5 := k4.frozen 0
        have hd4 : w4.heap[Dd]? = some (.deferred (some [])) := (hb4.block Dd (Array.getElem?_eq_some_iff.1 HD.out).1).trans HD.out
        have HD4 := Lib.hid hd4
        have K4 := Lib.hid k4
        have hne : w.heap.size + 1 ≠ Dd := by omega
        clear k4 hb4 x0 x1 x2 hd4
        cases b4 with
        | true =>
          have k5 := blk_put (K4.out.set 0 (.int .i64 0)) hne (.deferred none)
          have K5 := Lib.hid k5
          clear k5
          gi_wp2_with fail
          refine ⟨by simp, .inl ⟨_, _, rfl, run_takeDeferred ((Below.heap_setCell _ _ _ _ (by simp; omega)).trans HD4.out), ?_⟩⟩
          have c4 := K5.out.cell 0 rfl
          exact ⟨.int .i64 0, by simp [results, Tryd.results20, go_sem, c4], by rw [HE3.out]; rfl, (hB4.setCell (by show w.heap.size ≤ w.heap.size + 1; omega) _).trans (belowK_b (w := W1) (by omega) _ Dd _ _ hD ((Below.heap_setCell _ _ _ _ (by simp; omega)).trans HD4.out) rfl rfl)⟩
        | false =>
          have k5 := blk_put (K4.out.set 0 (.int .i64 4)) hne (.deferred none)
          have K5 := Lib.hid k5
          clear k5
          gi_wp2_with fail
          refine ⟨by simp, .inl ⟨_, _, rfl, run_takeDeferred ((Below.heap_setCell _ _ _ _ (by simp; omega)).trans HD4.out), ?_⟩⟩
          have c4 := K5.out.cell 0 rfl
          exact ⟨.int .i64 4, by simp [results, Tryd.results20, go_sem, c4], by rw [HE3.out]; rfl, (hB4.setCell (by show w.heap.size ≤ w.heap.size + 1; omega) _).trans (belowK_b (w := W1) (by omega) _ Dd _ _ hD ((Below.heap_setCell _ _ _ _ (by simp; omega)).trans HD4.out) rfl rfl)⟩
      case stop =>
        rintro Dd c pre W hD hpf ⟨⟨rfl, ⟨x, hx, hx2⟩, q3⟩, hB⟩ hd
        have hall : (allOps h).all (okOp h.2.1.length) = false := by
          rw [List.all_eq_false]
          refine ⟨x.1.2, ?_, by rw [hx2]; exact Bool.false_ne_true⟩
          rw [show allOps h = h.2.2.flatMap (·.2.2) from rfl, ← items_ops]
          exact List.mem_map_of_mem (hpf.subset (List.mem_map_of_mem hx))
        have HE2 := HE.out
        rw [hall, Bool.false_and, if_neg (by simp)] at HE2
        have HE3 := Lib.hid HE2
        have hne : w.heap.size + 1 ≠ Dd := by omega
        have k5 := blk_put q3 hne (.deferred none)
        have K5 := Lib.hid k5
        clear k5 HE2 hall hx hx2
        gi_wp2_with fail
        refine ⟨by simp, .inl ⟨_, _, rfl, run_takeDeferred hd, ?_⟩⟩
        have c4 := K5.out.cell 0 rfl
        exact ⟨.int .i64 4, by simp [results, Tryd.results20, go_sem, c4], by rw [HE3.out], hB.trans (belowK_b (w := W1) (by omega) _ Dd _ _ hD hd rfl rfl)⟩
end Go.Proofs.YthalbcmlehpfaaaDoor
