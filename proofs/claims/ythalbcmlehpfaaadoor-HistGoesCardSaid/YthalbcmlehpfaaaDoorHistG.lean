/-
  The walk of layer 11 (hist), the program: the reads that were lost. No conditions but that unicode/utf8's two tables are as their initialisers lay them.
-/
import Derived.Test.YthalbcmlehpfaaaDoorHistF
import Derived.Test.YthalbcmlehpfaaaDoorHArg
namespace Go.Proofs.YthalbcmlehpfaaaDoor
open Go.RowKit Go.Shelf Go.Lib

attribute [local go_sem] Oper.semAt_some

abbrev PlaceM := Nat × Nat
def placeCells (p : PlaceM) : List Value := [.int .i64 (p.1 : Nat), .int .i64 (p.2 : Nat)]
def placesCells (L : List PlaceM) : List Value := L.flatMap placeCells
/-- A slice's cells hold these places. -/
def PlacesS (w : World) (v : Value) (L : List PlaceM) : Prop := ∃ p cap, v = .slice p L.length cap ∧ ∀ j, j < L.length → ∃ g, p = some ⟨g, 0, none⟩ ∧ w.cell? ⟨g, j * 2, none⟩ = some (.int .i64 ((L.getD j (0, 0)).1 : Nat)) ∧ w.cell? ⟨g, j * 2 + 1, none⟩ = some (.int .i64 ((L.getD j (0, 0)).2 : Nat))
theorem PlacesS.below {w w' : World} {v : Value} {L : List PlaceM} (h : PlacesS w v L) (hb : Below w.heap.size w w') : PlacesS w' v L := by
  obtain ⟨p, cap, hv, ht⟩ := h
  refine ⟨p, cap, hv, fun j hj => ?_⟩
  obtain ⟨g, hp, h1, h2⟩ := ht j hj
  exact ⟨g, hp, cell_later hb h1, cell_later hb h2⟩
theorem places_none (w : World) : PlacesS w (.slice none 0 0) [] := ⟨none, 0, rfl, fun j hj => absurd hj (Nat.not_lt_zero j)⟩
theorem own_places {w : World} {base : Nat} {e : TypeId} {v : Value} {L : List PlaceM} (h : w.ownsRow base e 2 v L.length (placesCells L)) : PlacesS w v L := by
  obtain ⟨p, cap, rfl, -, -, hc⟩ := own_rowK h
  refine ⟨p, cap, rfl, fun j hj => ?_⟩
  have hg : ∀ i u, i < 2 → (placeCells (L.getD j (0, 0)))[i]? = some u → ∃ g, p = some ⟨g, 0, none⟩ ∧ w.cell? ⟨g, j * 2 + i, none⟩ = some u := fun i u hi hu =>
    hc _ u (by omega) (by rw [placesCells, flat_get placeCells 2 (fun _ => rfl) (0, 0) L j i hj hi]; exact hu)
  obtain ⟨g, rfl, h0⟩ := hg 0 _ (by omega) rfl
  obtain ⟨g1, e1, h1⟩ := hg 1 _ (by omega) rfl
  cases e1
  exact ⟨g, rfl, h0, h1⟩
theorem info_place : (Tryd.prog.info? 64).map (fun i => (i.zero, i.size, i.bytes)) = some (some (.agg #[.int .i64 0, .int .i64 0]), 2, 16) := by kernel_rfl
/-- Of these items the reads that were lost: their places. -/
def lostI (l : List Item) : List PlaceM := (l.filter fun x => x.2.2.2.1 == 2).map (·.1)
theorem lostI_snoc (l : List Item) (x : Item) : lostI (l ++ [x]) = if x.2.2.2.1 == 2 then lostI l ++ [x.1] else lostI l := by
  unfold lostI
  rw [List.filter_append, List.map_append]
  by_cases h : (x.2.2.2.1 == 2) = true
  · rw [if_pos h, List.filter_cons, if_pos h]; rfl
  · rw [if_neg h, List.filter_cons, if_neg h]; simp
theorem lostI_len (l : List Item) : (lostI l).length ≤ l.length := by
  unfold lostI
  rw [List.length_map]
  exact List.length_filter_le _ _
/-- The reads that were lost, of a history that may be. -/
def lostL (h : HistM) : List PlaceM := if mayH h then lostI (itH h.2.2 h.2.2.length) else []
theorem lostL_yes {h : HistM} (hm : mayH h = true) : lostL h = lostI (itH h.2.2 h.2.2.length) := by simp [lostL, hm]
theorem lostL_no {h : HistM} (hm : mayH h = false) : lostL h = [] := by simp [lostL, hm]

set_option maxRecDepth 100000 in
set_option maxHeartbeats 4000000 in
theorem lost_any (v0 v1 v2 : Value) (h : HistM) (w : World) (h0 : Texts w v0 h.1) (h1 : Texts w v1 h.2.1) (h2 : TxnsS w v2 h.2.2) (hm : Modst h) (hT : Lib.Utf8Tabs 0 1 w) :
    Calls Tryd.prog 17 #[.agg #[v0, v1, v2]] w fun e w' => ∃ v', e = .returned v' ∧ PlacesS w' v' (lostL h) ∧ Below w.heap.size w w' := by
  have HMay := Lib.hid (fun w' (hb : Below w.heap.size w w') => hmay_any v0 v1 v2 h w' (h0.below hb) (h1.below hb) (h2.below hb) hm (Utf8Tabs_below hT hb))
  have HM := Lib.hid hm
  have T2 := Lib.hid h2
  obtain ⟨p2, c2, rfl, -⟩ := h2
  obtain ⟨p0, c0, rfl, -⟩ := h0
  obtain ⟨p1, c1, rfl, -⟩ := h1
  obtain ⟨i0, hi, hz0, hz1, hz2⟩ := info_parts info_place
  have b0 := Blk.new w 25 [.slice p0 h.1.length c0, .slice p1 h.2.1.length c1, .slice p2 h.2.2.length c2]
  have hb0 : Below w.heap.size w (w.alloc (.cells #[.slice p0 h.1.length c0, .slice p1 h.2.1.length c1, .slice p2 h.2.2.length c2] 25)) := (Below.refl _ w).alloc (Nat.le_refl _) _
  have HB0 := Lib.hid hb0
  have B0 := Lib.hid b0
  clear hm hT b0 hb0
  refine (callsIn_wide (n := 10)).1 ?_
  refine callsIn_of_wp_marks Tryd.func17 rfl trivial ?_ rfl
  simp only [Tryd.ntmps17, List.size_toArray, List.length_cons, List.length_nil, Nat.reduceAdd, Nat.reduceSub, Array.replicate_succ, Array.replicate_zero, List.push_toArray, List.append_toArray, List.nil_append, List.cons_append]
  gi_wp2_with fail
  refine ⟨trivial, (callsIn_wide.2 (HMay.out _ HB0.out)).mono ?_⟩
  rintro e w1 ⟨rfl, hb1⟩
  have hbw1 := below_next HB0.out hb1
  have d0 := B0.out.later hb1
  have x0 := d0.cell 0 rfl
  have x1 := d0.cell 1 rfl
  have x2 := d0.cell 2 rfl
  have hbz : w.heap.size < w1.heap.size := d0.lt
  clear d0 hb1
  cases hmm : mayH h with
  | false =>
    have HE := Lib.hid (err_no hmm)
    have HW := Lib.hid (lostL_no hmm)
    clear hmm
    rw [HE.out]
    gi_wp2_with fail
    exact ⟨_, results_tmp rfl _ _ _, _, rfl, by rw [HW.out]; exact places_none _, hbw1⟩
  | true =>
    have HE := Lib.hid (err_yes hmm)
    have HW := Lib.hid (lostL_yes hmm)
    clear hmm
    rw [HE.out]
    gi_wp2_with fail
    refine ⟨trivial, (ops_in Fence.wide 9 trivial rfl _ _ _ _).mono ?_⟩
    rintro e w3 ⟨rfl, rfl⟩
    gi_wp2_with fail
    have z0 := Blk.new w1 28 [.slice none 0 0]
    have hbl : Below w.heap.size w (w1.alloc (.cells #[.slice none 0 0] 28)) := hbw1.alloc hbw1.size _
    have t1 := three_new (w1.alloc (.cells #[.slice none 0 0] 28)) (.slice p0 h.1.length c0) (.slice p1 h.2.1.length c1) (.slice p2 h.2.2.length c2) 25
    simp only [World.size_alloc] at t1
    have k1 : Boxed ((w1.alloc (.cells #[.slice none 0 0] 28)).alloc (.cells #[.slice p0 h.1.length c0, .slice p1 h.2.1.length c1, .slice p2 h.2.2.length c2] 25)) w1.heap.size 28 (.slice none 0 0) := z0.alloc _
    have hb' := hbl.alloc hbl.size (.cells #[.slice p0 h.1.length c0, .slice p1 h.2.1.length c1, .slice p2 h.2.2.length c2] 25)
    have hsz1 : ((w1.alloc (.cells #[.slice none 0 0] 28)).alloc (.cells #[.slice p0 h.1.length c0, .slice p1 h.2.1.length c1, .slice p2 h.2.2.length c2] 25)).heap.size = w1.heap.size + 1 + 1 := by simp
    obtain ⟨W1, hW1⟩ : ∃ W1, (w1.alloc (.cells #[.slice none 0 0] 28)).alloc (.cells #[.slice p0 h.1.length c0, .slice p1 h.2.1.length c1, .slice p2 h.2.2.length c2] 25) = W1 := ⟨_, rfl⟩
    rw [hW1] at t1 k1 hb' hsz1 ⊢
    clear hW1 x0 x1 x2 z0 hbl
    refine wpIn_rangeFunc_ownH rfl (by omega) (gf := 67) (lb := #[.pointer (some ⟨w1.heap.size + 1, 0, none⟩)]) rfl trivial (enters_of Tryd.func67 (by kernel_rfl) rfl)
      (ops_stops (fun _ => True) Fence.wide 9 trivial rfl (by omega) (w1.heap.size + 1) w _ _ _ h.2.2 HM.out.2.2.1 T2.out HM.out.2.2.2.2.2 (fun _ _ => trivial) W1 hb' t1) belowK_t (belowK_b (by omega)) (Below.refl _ _) (fun _ => rfl)
      (fun pre W => (∃ v, Boxed W w1.heap.size 28 v ∧ W.ownsRow w.heap.size 64 2 v (lostI (pre.map (·.1))).length (placesCells (lostI (pre.map (·.1)))) ∧ True) ∧ Below w.heap.size w W)
      (fun _ _ _ => False)
      (OwnFrom.and ((holdsRow_own w.heap.size w1.heap.size 28 64 2 (fun pre : List { x : Item // True } => (lostI (pre.map (·.1))).length) (fun pre => placesCells (lostI (pre.map (·.1)))) (fun _ _ => True)).from _) (ownFrom_below (Nat.le_refl _) (by omega)))
      (fun _ _ _ _ _ hs _ _ => hs)
      ⟨⟨_, k1, World.ownsRow_nil _ _ _ _, trivial⟩, hb'⟩
      (fun x a' W => ∃ Bp Bx, Blk W Bp 64 [.int .i64 (x.1.1.1 : Nat), .int .i64 (x.1.1.2 : Nat)] ∧ Blk W Bx 62 [.bool x.1.2.1, .int .i64 x.1.2.2.1, .int .i64 x.1.2.2.2.1, .int .i64 x.1.2.2.2.2] ∧ a' = { tmps := #[.agg #[.slice p0 h.1.length c0, .slice p1 h.2.1.length c1, .slice p2 h.2.2.length c2], .pointer (some ⟨w.heap.size, 0, none⟩), .slice none 0 0, .pointer (some ⟨w1.heap.size, 0, none⟩), .pointer (some ⟨Bp, 0, none⟩), .pointer (some ⟨Bx, 0, none⟩), .agg #[.slice p0 h.1.length c0, .slice p1 h.2.1.length c1, .slice p2 h.2.2.length c2], .int .i64 0, .bool false, .agg #[.slice p0 h.1.length c0, .slice p1 h.2.1.length c1, .slice p2 h.2.2.length c2], .func (.func 67) #[] #[.pointer (some ⟨w1.heap.size + 1, 0, none⟩)], .agg #[.int .i64 (x.1.1.1 : Nat), .int .i64 (x.1.1.2 : Nat)], .agg #[.bool x.1.2.1, .int .i64 x.1.2.2.1, .int .i64 x.1.2.2.2.1, .int .i64 x.1.2.2.2.2], undef, undef, undef, undef, undef, undef, undef, undef, undef], defers := [] })
      (fun x a' _ X Y row hs hg hr => by
        obtain ⟨Bp, Bx, r1, r2, r3⟩ := hs
        have hn : ∀ B t cs, Blk X B t cs → some B ≠ row := fun B t cs r e => by obtain ⟨-, o, ho, hc⟩ := hr B e.symm; have r' : X.heap[B]? = some _ := r; rw [r'] at ho; cases ho; cases hc
        exact ⟨Bp, Bx, r1.kept hg (hn _ _ _ r1), r2.kept hg (hn _ _ _ r2), r3⟩)
      ?assign ?body ?done ?stop
    case assign =>
      rintro l pre x W K ⟨⟨v, q1, q2, q3⟩, hB⟩ hK
      simp only [encI]
      gi_wp2
      have k1 := Blk.new W 64 [.int .i64 (x.1.1.1 : Nat), .int .i64 (x.1.1.2 : Nat)]
      have k2 := Blk.new (W.alloc (.cells #[.int .i64 (x.1.1.1 : Nat), .int .i64 (x.1.1.2 : Nat)] 64)) 62 [.bool x.1.2.1, .int .i64 x.1.2.2.1, .int .i64 x.1.2.2.2.1, .int .i64 x.1.2.2.2.2]
      simp only [World.size_alloc] at k2
      exact hK _ _ (((KeepsOthers.alloc _ _).trans (KeepsOthers.alloc _ _)).from _) (((Below.refl _ W).alloc hB.size _).alloc (by have := hB.size; simp; omega) _) ⟨⟨v, (q1.alloc _).alloc _, (q2.alloc _).alloc _, q3⟩, (hB.alloc hB.size _).alloc (by have := hB.size; simp; omega) _⟩ ⟨W.heap.size, W.heap.size + 1, k1.alloc _, k2, rfl⟩
    case body =>
      rintro l pre x a' W hl - ⟨⟨v, q1, q2, -⟩, hB⟩ ⟨Bp, Bx, bP, bX, rfl⟩ hlt2
      have hN := itH_len h.2.2 HM.out.2.2.2.2.2 h.2.2.length (Nat.le_refl _)
      have m3 := HM.out.2.2.1
      have hll := lostI_len (pre.map (·.1))
      rw [List.length_map] at hll
      have z0 := q1.cell
      have z1 := q1.frozen
      have y0 := bP.cell 0 rfl
      have y1 := bP.cell 1 rfl
      have y2 := bX.cell 2 rfl
      have hsn := lostI_snoc (pre.map (·.1)) x.1
      rw [show pre.map (·.1) ++ [x.1] = (pre ++ [x]).map (·.1) by simp] at hsn
      have HN1 : RowKit.Hid (x.1.2.2.2.1 = 2 → lostI ((pre ++ [x]).map (·.1)) = lostI (pre.map (·.1)) ++ [x.1.1]) := Lib.hid (fun e => by rw [hsn, if_pos (beq_iff_eq.2 e)])
      have HF1 : RowKit.Hid (x.1.2.2.2.1 ≠ 2 → lostI ((pre ++ [x]).map (·.1)) = lostI (pre.map (·.1))) := Lib.hid (fun e => by rw [hsn, if_neg (by rw [beq_eq_false_iff_ne.2 e]; exact Bool.false_ne_true)])
      obtain ⟨I, hI⟩ : ∃ I, lostI (pre.map (·.1)) = I := ⟨_, rfl⟩
      rw [hI] at q2 HN1 HF1 hll
      have hIl : I.length ≤ 1000000 := by omega
      have HB := Lib.hid hB
      have Q1 := Lib.hid q1
      have hws := hB.size
      have hwb : w.heap.size ≤ w1.heap.size := hbw1.size
      have hbw := q1.lt
      clear hsn hI hll hlt2 hN m3 bP bX hB q1
      by_cases hc : x.1.2.2.2.1 = 2
      · have HN2 := Lib.hid (HN1.out hc)
        have hcc : (x.1.2.2.2.1 == 2) = true := beq_iff_eq.2 hc
        rw [hc] at y2
        clear HN1 HF1 hc hcc
        gi_wp2_with (gi_at_builtin; refine wpListIn_append_own _ rfl _ _ 28 rfl w.heap.size 64 i0 (.agg #[.int .i64 0, .int .i64 0]) 2 16 Tryd.underlying28 hi hz0 hz1 hz2 rfl (by decide) _ _ _ rfl (q2.alloc _) ⟨W.heap.size, 0, none⟩ 1 1 [.int .i64 (x.1.1.1 : Nat), .int .i64 (x.1.1.2 : Nat)] rfl rfl (news_lit _ _ _ _ rfl) (by intro u hu; simp at hu; rcases hu with rfl | rfl <;> rfl) (by unfold maxLen; omega) (by omega) (by simp; omega) ?_)
        intro v4 w4 hown4 hgrow hnil
        obtain ⟨g4, c4, rfl⟩ := owns_some hown4
        obtain ⟨r1, r2, r3, r4, r5⟩ := Boxed.appended Q1.out (by decide) q2 (by omega) (by omega) hown4 hgrow
        have s1 := r1.cell
        have s2 := r1.frozen
        have HO : RowKit.Hid ((w4.setCell ⟨w1.heap.size, 0, none⟩ (.slice (some ⟨g4, 0, none⟩) (I.length + 1) c4)).ownsRow w.heap.size 64 2 (.slice (some ⟨g4, 0, none⟩) (I.length + 1) c4) (lostI ((pre ++ [x]).map (·.1))).length (placesCells (lostI ((pre ++ [x]).map (·.1))))) := Lib.hid (by rw [HN2.out, List.length_append, placesCells, List.flatMap_append]; exact r3)
        have R2 := Lib.hid r2
        have R4 := Lib.hid r4
        have R5 := Lib.hid r5
        clear hown4 hgrow hnil r1 r2 r3 r4 r5 q2
        gi_wp2_with fail
        exact ⟨R4.out.from _, R5.out, ⟨_, R2.out, by first | exact HO.out | exact ⟨HO.out, trivial⟩⟩, HB.out.trans R5.out⟩
      · have HN2 := Lib.hid (HF1.out hc)
        have hcc : (x.1.2.2.2.1 == 2) = false := beq_eq_false_iff_ne.2 hc
        clear HN1 HF1 hc
        gi_wp2_with fail
        exact ⟨KeepsFrom.refl _ _, Below.refl _ _, ⟨_, Q1.out, by rw [HN2.out]; first | exact q2 | exact ⟨q2, trivial⟩⟩, HB.out⟩
    case done =>
      rintro Dd xs W hD hS ⟨⟨v, q1, q2, -⟩, hB⟩ hd
      rw [hS] at q2
      have z0 := q1.cell
      have q3 := ownsRow_putObj q2 (.deferred none) hd rfl
      have HO := Lib.hid (own_places q3)
      have HD := Lib.hid hd
      have HDB : RowKit.Hid (Below w.heap.size w (W.putObj Dd (.deferred none))) := Lib.hid (hB.trans (belowK_b (w := W1) (by omega) W Dd _ _ hD hd rfl rfl))
      clear q1 q2 q3 hB hd
      gi_wp2_with fail
      refine ⟨by simp, .inl ⟨_, _, rfl, run_takeDeferred HD.out, ?_⟩⟩
      exact ⟨_, results_tmp rfl _ _ _, _, rfl, by rw [HW.out]; exact HO.out, HDB.out⟩
    case stop =>
      rintro D' c pre W _ _ h' _
      exact h'.elim
end Go.Proofs.YthalbcmlehpfaaaDoor
