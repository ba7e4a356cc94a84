/-
  The walk of layer 11 (hist), the program: the reads that were lost. No conditions but that unicode/utf8's two tables are as their initialisers lay them.
  The walks of layer 11's reference (hist): which transactions are so, the reads that were lost, whether two lists of places are the same. No conditions.
  The walks of layer 11's statements (hist): the sample; the chapter's example. No conditions but that unicode/utf8's two tables are as their initialisers lay them.
  Layer 11 (hist): are two lists of texts, of operations, the same: the program's way and the reference's. No conditions but lengths below 2^62.
  Layer 11 (hist): are two transactions the same; are two lists of them: the program's way. No conditions but lengths.
  Layer 11 (hist): are two histories the same: the program's way. No conditions but unicode/utf8's tables.
  Layer 11 (hist): are two histories the same: the reference's way. No conditions but lengths.
-/
import Derived.Test.YthalbcmlehpfaaaDoorHistF
import Derived.Test.YthalbcmlehpfaaaDoorHArg
import Derived.Test.YthalbcmlehpfaaaDoorHistK
import Derived.IntWalk
namespace Go.Proofs.YthalbcmlehpfaaaDoor
open Go.RowKit Go.Shelf Go.Lib

attribute [local go_sem] Oper.semAt_some

abbrev PlaceM := Nat × Nat
def placeCells (p : PlaceM) : List Value := [.int .i64 (p.1 : Nat), .int .i64 (p.2 : Nat)]
def placesCells (L : List PlaceM) : List Value := L.flatMap placeCells
/-- A slice's cells hold these places. -/
def PlacesS (w : World) (v : Value) (L : List PlaceM) : Prop := ∃ p cap, v = .slice p L.length cap ∧ ∀ j, j < L.length → ∃ g, p = some ⟨g, 0, none⟩ ∧ w.cell? ⟨g, j * 2, none⟩ = some (.int .i64 ((L.getD j (0, 0)).1 : Nat)) ∧ w.cell? ⟨g, j * 2 + 1, none⟩ = some (.int .i64 ((L.getD j (0, 0)).2 : Nat))
theorem PlacesS.below {w w' : World} {v : Value} {L : List PlaceM} (h : PlacesS w v L) (hb : Below w.heap.size w w') : PlacesS w' v L := by
  obtain ⟨p, cap, hv, ht⟩ := h
  refine ⟨p, cap, hv, fun j hj => ?_⟩
  obtain ⟨g, hp, h1, h2⟩ := ht j hj
  exact ⟨g, hp, cell_later hb h1, cell_later hb h2⟩
theorem places_none (w : World) : PlacesS w (.slice none 0 0) [] := ⟨none, 0, rfl, fun j hj => absurd hj (Nat.not_lt_zero j)⟩
theorem own_places {w : World} {base : Nat} {e : TypeId} {v : Value} {L : List PlaceM} (h : w.ownsRow base e 2 v L.length (placesCells L)) : PlacesS w v L := by
  obtain ⟨p, cap, rfl, -, -, hc⟩ := own_rowK h
  refine ⟨p, cap, rfl, fun j hj => ?_⟩
  have hg : ∀ i u, i < 2 → (placeCells (L.getD j (0, 0)))[i]? = some u → ∃ g, p = some ⟨g, 0, none⟩ ∧ w.cell? ⟨g, j * 2 + i, none⟩ = some u := fun i u hi hu =>
    hc _ u (by omega) (by rw [placesCells, flat_get placeCells 2 (fun _ => rfl) (0, 0) L j i hj hi]; exact hu)
  obtain ⟨g, rfl, h0⟩ := hg 0 _ (by omega) rfl
  obtain ⟨g1, e1, h1⟩ := hg 1 _ (by omega) rfl
  cases e1
  exact ⟨g, rfl, h0, h1⟩
theorem info_place : (Tryd.prog.info? 64).map (fun i => (i.zero, i.size, i.bytes)) = some (some (.agg #[.int .i64 0, .int .i64 0]), 2, 16) := by kernel_rfl
/-- Of these items the reads that were lost: their places. -/
def lostI (l : List Item) : List PlaceM := (l.filter fun x => x.2.2.2.1 == 2).map (·.1)
theorem lostI_snoc (l : List Item) (x : Item) : lostI (l ++ [x]) = if x.2.2.2.1 == 2 then lostI l ++ [x.1] else lostI l := by
  unfold lostI
  rw [List.filter_append, List.map_append]
  by_cases h : (x.2.2.2.1 == 2) = true
  · rw [if_pos h, List.filter_cons, if_pos h]; rfl
  · rw [if_neg h, List.filter_cons, if_neg h]; simp
theorem lostI_len (l : List Item) : (lostI l).length ≤ l.length := by
  unfold lostI
  rw [List.length_map]
  exact List.length_filter_le _ _
/-- The reads that were lost, of a history that may be. -/
def lostL (h : HistM) : List PlaceM := if mayH h then lostI (itH h.2.2 h.2.2.length) else []
theorem lostL_yes {h : HistM} (hm : mayH h = true) : lostL h = lostI (itH h.2.2 h.2.2.length) := by simp [lostL, hm]
theorem lostL_no {h : HistM} (hm : mayH h = false) : lostL h = [] := by simp [lostL, hm]

set_option maxRecDepth 100000 in
set_option maxHeartbeats 4000000 in
theorem lost_any (v0 v1 v2 : Value) (h : HistM) (w : World) (h0 : Texts w v0 h.1) (h1 : Texts w v1 h.2.1) (h2 : TxnsS w v2 h.2.2) (hm : Modst h) (hT : Lib.Utf8Tabs 0 1 w) :
    Calls Tryd.prog 17 #[.agg #[v0, v1, v2]] w fun e w' => ∃ v', e = .returned v' ∧ PlacesS w' v' (lostL h) ∧ Below w.heap.size w w' := by
  have HMay := Lib.hid (fun w' (hb : Below w.heap.size w w') => hmay_any v0 v1 v2 h w' (h0.below hb) (h1.below hb) (h2.below hb) hm (Utf8Tabs_below hT hb))
  have HM := Lib.hid hm
  have T2 := Lib.hid h2
  obtain ⟨p2, c2, rfl, -⟩ := h2
  obtain ⟨p0, c0, rfl, -⟩ := h0
  obtain ⟨p1, c1, rfl, -⟩ := h1
  obtain ⟨i0, hi, hz0, hz1, hz2⟩ := info_parts info_place
  have b0 := Blk.new w 25 [.slice p0 h.1.length c0, .slice p1 h.2.1.length c1, .slice p2 h.2.2.length c2]
  have hb0 : Below w.heap.size w (w.alloc (.cells #[.slice p0 h.1.length c0, .slice p1 h.2.1.length c1, .slice p2 h.2.2.length c2] 25)) := (Below.refl _ w).alloc (Nat.le_refl _) _
  have HB0 := Lib.hid hb0
  have B0 := Lib.hid b0
  clear hm hT b0 hb0
  refine (callsIn_wide (n := 10)).1 ?_
  refine callsIn_of_wp_marks Tryd.func17 rfl trivial ?_ rfl
  simp only [Tryd.ntmps17, List.size_toArray, List.length_cons, List.length_nil, Nat.reduceAdd, Nat.reduceSub, Array.replicate_succ, Array.replicate_zero, List.push_toArray, List.append_toArray, List.nil_append, List.cons_append]
  gi_wp2_with fail
  refine ⟨trivial, (callsIn_wide.2 (HMay.out _ HB0.out)).mono ?_⟩
  rintro e w1 ⟨rfl, hb1⟩
  have hbw1 := below_next HB0.out hb1
  have d0 := B0.out.later hb1
  have x0 := d0.cell 0 rfl
  have x1 := d0.cell 1 rfl
  have x2 := d0.cell 2 rfl
  have hbz : w.heap.size < w1.heap.size := d0.lt
  clear d0 hb1
  cases hmm : mayH h with
  | false =>
    have HE := Lib.hid (err_no hmm)
    have HW := Lib.hid (lostL_no hmm)
    clear hmm
    rw [HE.out]
    gi_wp2_with fail
    exact ⟨_, results_tmp rfl _ _ _, _, rfl, by rw [HW.out]; exact places_none _, hbw1⟩
  | true =>
    have HE := Lib.hid (err_yes hmm)
    have HW := Lib.hid (lostL_yes hmm)
    clear hmm
    rw [HE.out]
    gi_wp2_with fail
    refine ⟨trivial, (ops_in Fence.wide 9 trivial rfl _ _ _ _).mono ?_⟩
    rintro e w3 ⟨rfl, rfl⟩
    gi_wp2_with fail
    have z0 := Blk.new w1 28 [.slice none 0 0]
    have hbl : Below w.heap.size w (w1.alloc (.cells #[.slice none 0 0] 28)) := hbw1.alloc hbw1.size _
    have t1 := three_new (w1.alloc (.cells #[.slice none 0 0] 28)) (.slice p0 h.1.length c0) (.slice p1 h.2.1.length c1) (.slice p2 h.2.2.length c2) 25
    simp only [World.size_alloc] at t1
    have k1 : Boxed ((w1.alloc (.cells #[.slice none 0 0] 28)).alloc (.cells #[.slice p0 h.1.length c0, .slice p1 h.2.1.length c1, .slice p2 h.2.2.length c2] 25)) w1.heap.size 28 (.slice none 0 0) := z0.alloc _
    have hb' := hbl.alloc hbl.size (.cells #[.slice p0 h.1.length c0, .slice p1 h.2.1.length c1, .slice p2 h.2.2.length c2] 25)
    have hsz1 : ((w1.alloc (.cells #[.slice none 0 0] 28)).alloc (.cells #[.slice p0 h.1.length c0, .slice p1 h.2.1.length c1, .slice p2 h.2.2.length c2] 25)).heap.size = w1.heap.size + 1 + 1 := by simp
    obtain ⟨W1, hW1⟩ : ∃ W1, (w1.alloc (.cells #[.slice none 0 0] 28)).alloc (.cells #[.slice p0 h.1.length c0, .slice p1 h.2.1.length c1, .slice p2 h.2.2.length c2] 25) = W1 := ⟨_, rfl⟩
    rw [hW1] at t1 k1 hb' hsz1 ⊢
    clear hW1 x0 x1 x2 z0 hbl
    refine wpIn_rangeFunc_ownH rfl (by omega) (gf := 67) (lb := #[.pointer (some ⟨w1.heap.size + 1, 0, none⟩)]) rfl trivial (enters_of Tryd.func67 (by kernel_rfl) rfl)
      (ops_stops (fun _ => True) Fence.wide 9 trivial rfl (by omega) (w1.heap.size + 1) w _ _ _ h.2.2 HM.out.2.2.1 T2.out HM.out.2.2.2.2.2 (fun _ _ => trivial) W1 hb' t1) belowK_t (belowK_b (by omega)) (Below.refl _ _) (fun _ => rfl)
      (fun pre W => (∃ v, Boxed W w1.heap.size 28 v ∧ W.ownsRow w.heap.size 64 2 v (lostI (pre.map (·.1))).length (placesCells (lostI (pre.map (·.1)))) ∧ True) ∧ Below w.heap.size w W)
      (fun _ _ _ => False)
      (OwnFrom.and ((holdsRow_own w.heap.size w1.heap.size 28 64 2 (fun pre : List { x : Item // True } => (lostI (pre.map (·.1))).length) (fun pre => placesCells (lostI (pre.map (·.1)))) (fun _ _ => True)).from _) (ownFrom_below (Nat.le_refl _) (by omega)))
      (fun _ _ _ _ _ hs _ _ => hs)
      ⟨⟨_, k1, World.ownsRow_nil _ _ _ _, trivial⟩, hb'⟩
      (fun x a' W => ∃ Bp Bx, Blk W Bp 64 [.int .i64 (x.1.1.1 : Nat), .int .i64 (x.1.1.2 : Nat)] ∧ Blk W Bx 62 [.bool x.1.2.1, .int .i64 x.1.2.2.1, .int .i64 x.1.2.2.2.1, .int .i64 x.1.2.2.2.2] ∧ a' = { tmps := #[.agg #[.slice p0 h.1.length c0, .slice p1 h.2.1.length c1, .slice p2 h.2.2.length c2], .pointer (some ⟨w.heap.size, 0, none⟩), .slice none 0 0, .pointer (some ⟨w1.heap.size, 0, none⟩), .pointer (some ⟨Bp, 0, none⟩), .pointer (some ⟨Bx, 0, none⟩), .agg #[.slice p0 h.1.length c0, .slice p1 h.2.1.length c1, .slice p2 h.2.2.length c2], .int .i64 0, .bool false, .agg #[.slice p0 h.1.length c0, .slice p1 h.2.1.length c1, .slice p2 h.2.2.length c2], .func (.func 67) #[] #[.pointer (some ⟨w1.heap.size + 1, 0, none⟩)], .agg #[.int .i64 (x.1.1.1 : Nat), .int .i64 (x.1.1.2 : Nat)], .agg #[.bool x.1.2.1, .int .i64 x.1.2.2.1, .int .i64 x.1.2.2.2.1, .int .i64 x.1.2.2.2.2], undef, undef, undef, undef, undef, undef, undef, undef, undef], defers := [] })
      (fun x a' _ X Y row hs hg hr => by
        obtain ⟨Bp, Bx, r1, r2, r3⟩ := hs
        have hn : ∀ B t cs, Blk X B t cs → some B ≠ row := fun B t cs r e => by obtain ⟨-, o, ho, hc⟩ := hr B e.symm; have r' : X.heap[B]? = some _ := r; rw [r'] at ho; cases ho; cases hc
        exact ⟨Bp, Bx, r1.kept hg (hn _ _ _ r1), r2.kept hg (hn _ _ _ r2), r3⟩)
      ?assign ?body ?done ?stop
    case assign =>
      rintro l pre x W K ⟨⟨v, q1, q2, q3⟩, hB⟩ hK
      simp only [encI]
      gi_wp2
      have k1 := Blk.new W 64 [.int .i64 (x.1.1.1 : Nat), .int .i64 (x.1.1.2 : Nat)]
      have k2 := Blk.new (W.alloc (.cells #[.int .i64 (x.1.1.1 : Nat), .int .i64 (x.1.1.2 : Nat)] 64)) 62 [.bool x.1.2.1, .int .i64 x.1.2.2.1, .int .i64 x.1.2.2.2.1, .int .i64 x.1.2.2.2.2]
      simp only [World.size_alloc] at k2
      exact hK _ _ (((KeepsOthers.alloc _ _).trans (KeepsOthers.alloc _ _)).from _) (((Below.refl _ W).alloc hB.size _).alloc (by have := hB.size; simp; omega) _) ⟨⟨v, (q1.alloc _).alloc _, (q2.alloc _).alloc _, q3⟩, (hB.alloc hB.size _).alloc (by have := hB.size; simp; omega) _⟩ ⟨W.heap.size, W.heap.size + 1, k1.alloc _, k2, rfl⟩
    case body =>
      rintro l pre x a' W hl - ⟨⟨v, q1, q2, -⟩, hB⟩ ⟨Bp, Bx, bP, bX, rfl⟩ hlt2
      have hN := itH_len h.2.2 HM.out.2.2.2.2.2 h.2.2.length (Nat.le_refl _)
      have m3 := HM.out.2.2.1
      have hll := lostI_len (pre.map (·.1))
      rw [List.length_map] at hll
      have z0 := q1.cell
      have z1 := q1.frozen
      have y0 := bP.cell 0 rfl
      have y1 := bP.cell 1 rfl
      have y2 := bX.cell 2 rfl
      have hsn := lostI_snoc (pre.map (·.1)) x.1
      rw [show pre.map (·.1) ++ [x.1] = (pre ++ [x]).map (·.1) by simp] at hsn
      have HN1 : RowKit.Hid (x.1.2.2.2.1 = 2 → lostI ((pre ++ [x]).map (·.1)) = lostI (pre.map (·.1)) ++ [x.1.1]) := Lib.hid (fun e => by rw [hsn, if_pos (beq_iff_eq.2 e)])
      have HF1 : RowKit.Hid (x.1.2.2.2.1 ≠ 2 → lostI ((pre ++ [x]).map (·.1)) = lostI (pre.map (·.1))) := Lib.hid (fun e => by rw [hsn, if_neg (by rw [beq_eq_false_iff_ne.2 e]; exact Bool.false_ne_true)])
      obtain ⟨I, hI⟩ : ∃ I, lostI (pre.map (·.1)) = I := ⟨_, rfl⟩
      rw [hI] at q2 HN1 HF1 hll
      have hIl : I.length ≤ 1000000 := by omega
      have HB := Lib.hid hB
      have Q1 := Lib.hid q1
      have hws := hB.size
      have hwb : w.heap.size ≤ w1.heap.size := hbw1.size
      have hbw := q1.lt
      clear hsn hI hll hlt2 hN m3 bP bX hB q1
      by_cases hc : x.1.2.2.2.1 = 2
      · have HN2 := Lib.hid (HN1.out hc)
        have hcc : (x.1.2.2.2.1 == 2) = true := beq_iff_eq.2 hc
        rw [hc] at y2
        clear HN1 HF1 hc hcc
        gi_wp2_with (gi_at_builtin; refine wpListIn_append_own _ rfl _ _ 28 rfl w.heap.size 64 i0 (.agg #[.int .i64 0, .int .i64 0]) 2 16 Tryd.underlying28 hi hz0 hz1 hz2 rfl (by decide) _ _ _ rfl (q2.alloc _) ⟨W.heap.size, 0, none⟩ 1 1 [.int .i64 (x.1.1.1 : Nat), .int .i64 (x.1.1.2 : Nat)] rfl rfl (news_lit _ _ _ _ rfl) (by intro u hu; simp at hu; rcases hu with rfl | rfl <;> rfl) (by unfold maxLen; omega) (by omega) (by simp; omega) ?_)
        intro v4 w4 hown4 hgrow hnil
        obtain ⟨g4, c4, rfl⟩ := owns_some hown4
        obtain ⟨r1, r2, r3, r4, r5⟩ := Boxed.appended Q1.out (by decide) q2 (by omega) (by omega) hown4 hgrow
        have s1 := r1.cell
        have s2 := r1.frozen
        have HO : RowKit.Hid ((w4.setCell ⟨w1.heap.size, 0, none⟩ (.slice (some ⟨g4, 0, none⟩) (I.length + 1) c4)).ownsRow w.heap.size 64 2 (.slice (some ⟨g4, 0, none⟩) (I.length + 1) c4) (lostI ((pre ++ [x]).map (·.1))).length (placesCells (lostI ((pre ++ [x]).map (·.1))))) := Lib.hid (by rw [HN2.out, List.length_append, placesCells, List.flatMap_append]; exact r3)
        have R2 := Lib.hid r2
        have R4 := Lib.hid r4
        have R5 := Lib.hid r5
        clear hown4 hgrow hnil r1 r2 r3 r4 r5 q2
        gi_wp2_with fail
        exact ⟨R4.out.from _, R5.out, ⟨_, R2.out, by first | exact HO.out | exact ⟨HO.out, trivial⟩⟩, HB.out.trans R5.out⟩
      · have HN2 := Lib.hid (HF1.out hc)
        have hcc : (x.1.2.2.2.1 == 2) = false := beq_eq_false_iff_ne.2 hc
        clear HN1 HF1 hc
        gi_wp2_with fail
        exact ⟨KeepsFrom.refl _ _, Below.refl _ _, ⟨_, Q1.out, by rw [HN2.out]; first | exact q2 | exact ⟨q2, trivial⟩⟩, HB.out⟩
    case done =>
      rintro Dd xs W hD hS ⟨⟨v, q1, q2, -⟩, hB⟩ hd
      rw [hS] at q2
      have z0 := q1.cell
      have q3 := ownsRow_putObj q2 (.deferred none) hd rfl
      have HO := Lib.hid (own_places q3)
      have HD := Lib.hid hd
      have HDB : RowKit.Hid (Below w.heap.size w (W.putObj Dd (.deferred none))) := Lib.hid (hB.trans (belowK_b (w := W1) (by omega) W Dd _ _ hD hd rfl rfl))
      clear q1 q2 q3 hB hd
      gi_wp2_with fail
      refine ⟨by simp, .inl ⟨_, _, rfl, run_takeDeferred HD.out, ?_⟩⟩
      exact ⟨_, results_tmp rfl _ _ _, _, rfl, by rw [HW.out]; exact HO.out, HDB.out⟩
    case stop =>
      rintro D' c pre W _ _ h' _
      exact h'.elim
end Go.Proofs.YthalbcmlehpfaaaDoor

namespace Go.Proofs.YthalbcmlehpfaaaDoor
open Go.RowKit Go.Lib

set_option maxRecDepth 100000 in
set_option maxHeartbeats 4000000 in
theorem rsession_any (v0 v1 v2 : Value) (h : HistM) (s : Int) (w : World) (h0 : Texts w v0 h.1) (h1 : Texts w v1 h.2.1) (h2 : TxnsS w v2 h.2.2) (hm : Modst h) :
    Calls Tryd.prog 19 #[.agg #[v0, v1, v2], .int .i64 s] w fun e w' => ∃ v', e = .returned v' ∧ IntsS w' v' (idxs (sessP s) h.2.2 h.2.2.length) ∧ Below w.heap.size w w' := by
  obtain ⟨p2, c2, rfl, hp⟩ := h2
  obtain ⟨p0, c0, rfl, -⟩ := h0
  obtain ⟨p1, c1, rfl, -⟩ := h1
  have HX := Lib.hid hp
  have m3 : h.2.2.length ≤ 1000 := hm.2.2.1
  obtain ⟨i0, hi, hz0, hz1, hz2⟩ := info_parts info_i64
  have b0 := Blk.new w 25 [.slice p0 h.1.length c0, .slice p1 h.2.1.length c1, .slice p2 h.2.2.length c2]
  have hb0 : Below w.heap.size w (w.alloc (.cells #[.slice p0 h.1.length c0, .slice p1 h.2.1.length c1, .slice p2 h.2.2.length c2] 25)) := (Below.refl _ w).alloc (Nat.le_refl _) _
  have HB0 := Lib.hid hb0
  have B0 := Lib.hid b0
  have hown0 := World.ownsRow_made (base := w.heap.size + 1) (size := 1) (e := 3) (w.alloc (.cells #[.slice p0 h.1.length c0, .slice p1 h.2.1.length c1, .slice p2 h.2.2.length c2] 25)) #[] 0 (by simp) (Nat.zero_le _) rfl
  have hbs0 : Below (w.heap.size + 1) (w.alloc (.cells #[.slice p0 h.1.length c0, .slice p1 h.2.1.length c1, .slice p2 h.2.2.length c2] 25)) ((w.alloc (.cells #[.slice p0 h.1.length c0, .slice p1 h.2.1.length c1, .slice p2 h.2.2.length c2] 25)).alloc (.cells #[] 3)) := (Below.refl _ _).alloc (by simp) _
  simp only [World.size_alloc] at hown0
  clear hp hm b0 hb0
  go_enter Tryd.func19, Tryd.ntmps19
  go_wp2_with fail
  have hS0 : (w.alloc (.cells #[.slice p0 h.1.length c0, .slice p1 h.2.1.length c1, .slice p2 h.2.2.length c2] 25)).heap.size = w.heap.size + 1 := World.size_alloc _ _
  have HS0 := Lib.hid hS0
  clear hS0
  generalize (w.alloc (.cells #[.slice p0 h.1.length c0, .slice p1 h.2.1.length c1, .slice p2 h.2.2.length c2] 25)) = W0 at *
  go_loopw [5, 6] (fun l i wr => ∃ k : Nat, k ≤ h.2.2.length ∧ i = .int .i64 k ∧ wr.ownsRow (w.heap.size + 1) 3 1 l (idxs (sessP s) h.2.2 k).length (vints (idxs (sessP s) h.2.2 k)) ∧ Below (w.heap.size + 1) W0 wr) (fun _ i _ => h.2.2.length - (RowKit.intOf i).toNat)
  case atStart => exact ⟨0, Nat.zero_le _, rfl, hown0, hbs0⟩
  case round =>
    obtain ⟨k, hk, rfl, hown, hbw⟩ := hrel
    have hsz := hbw.size
    rw [HS0.out] at hsz
    have x2 := (B0.out.below hbw (by omega)).cell 2 rfl
    by_cases hk1 : k < h.2.2.length
    · obtain ⟨g, sv, rfl, a1, a2, a3, -⟩ := HX.out k hk1
      have hbwx := HB0.out.trans (hbw.mono (by omega))
      have a1' := cell_later hbwx a1
      have a2' := cell_later hbwx a2
      have hnx := idxs_next (sessP s) h.2.2 k
      have hil := idxs_len (sessP s) h.2.2 k
      obtain ⟨I, hI⟩ : ∃ I, idxs (sessP s) h.2.2 k = I := ⟨_, rfl⟩
      rw [hI] at hown hnx hil
      obtain ⟨t, ht⟩ : ∃ t, h.2.2.getD k noTxn = t := ⟨_, rfl⟩
      rw [ht] at a1' a2' hnx
      obtain ⟨t1, t2, t3⟩ := t
      simp only at a1' a2' hnx
      have HN : RowKit.Hid ((sessP s) (t1, t2, t3) = true → idxs (sessP s) h.2.2 (k + 1) = I ++ [(k : Int)]) := Lib.hid (fun e => by rw [hnx, if_pos e])
      have HF : RowKit.Hid ((sessP s) (t1, t2, t3) = false → idxs (sessP s) h.2.2 (k + 1) = I) := Lib.hid (fun e => by rw [hnx, if_neg (by rw [e]; exact Bool.false_ne_true)])
      clear a1 a2 a3 ht hI hnx hbwx
      by_cases hc : t1 = s
      · have hcb : ((sessP s) (t1, t2, t3)) = true := beq_iff_eq.2 hc
        have HN2 := Lib.hid (HN.out hcb)
        have hcc : (t1 == s) = true := beq_iff_eq.2 hc
        clear hcb hc HN HF
        go_wp2_with (at_builtin; refine wpList_append_own _ rfl _ _ 27 rfl (w.heap.size + 1) 3 i0 (.int .i64 0) 1 8 Tryd.underlying27 hi hz0 hz1 hz2 rfl (by decide) _ _ _ rfl (hown.alloc _) ⟨wr.heap.size, 0, none⟩ 1 1 [.int .i64 (k : Nat)] rfl rfl (news_int _ _ _) (ones_int _) (by unfold maxLen; omega) (by omega) (by simp; omega) ?_)
        intro v4 w4 hown4 hgrow hnil
        have hb4 : Below (w.heap.size + 1) W0 w4 := (hbw.alloc (by omega) _).grown hgrow (by simp; omega) (fun k hk => (hown.lt k hk).1)
        have HO : RowKit.Hid (w4.ownsRow (w.heap.size + 1) 3 1 v4 (idxs (sessP s) h.2.2 (k + 1)).length (vints (idxs (sessP s) h.2.2 (k + 1)))) := Lib.hid (by rw [HN2.out, ← vints_snoc, List.length_append]; exact hown4)
        clear hown4 hgrow hnil hown hbw
        go_wp2_with fail
        go_roundw
        case rel => exact ⟨k + 1, by omega, by go_num, HO.out, hb4⟩
        case measure => simp [RowKit.intOf]; omega
      · have hcb : ((sessP s) (t1, t2, t3)) = false := beq_eq_false_iff_ne.2 hc
        have HN2 := Lib.hid (HF.out hcb)
        have hcc : (t1 == s) = false := beq_eq_false_iff_ne.2 hc
        clear hcb hc HN HF
        go_wp2_with fail
        go_roundw
        case rel => exact ⟨k + 1, by omega, by go_num, by rw [HN2.out]; exact hown, hbw⟩
        case measure => simp [RowKit.intOf]; omega
    · have hke : k = h.2.2.length := by omega
      subst hke
      have HO := Lib.hid (own_intsI hown)
      have hbwx := HB0.out.trans (hbw.mono (by omega))
      clear hown
      go_wp2_with fail
      go_ret
      exact ⟨_, rfl, HO.out, hbwx⟩

set_option maxRecDepth 100000 in
set_option maxHeartbeats 4000000 in
theorem rinfos_any (v0 v1 v2 : Value) (h : HistM) (w : World) (h0 : Texts w v0 h.1) (h1 : Texts w v1 h.2.1) (h2 : TxnsS w v2 h.2.2) (hm : Modst h) :
    Calls Tryd.prog 12 #[.agg #[v0, v1, v2]] w fun e w' => ∃ v', e = .returned v' ∧ IntsS w' v' (idxs (infosP) h.2.2 h.2.2.length) ∧ Below w.heap.size w w' := by
  obtain ⟨p2, c2, rfl, hp⟩ := h2
  obtain ⟨p0, c0, rfl, -⟩ := h0
  obtain ⟨p1, c1, rfl, -⟩ := h1
  have HX := Lib.hid hp
  have m3 : h.2.2.length ≤ 1000 := hm.2.2.1
  obtain ⟨i0, hi, hz0, hz1, hz2⟩ := info_parts info_i64
  have b0 := Blk.new w 25 [.slice p0 h.1.length c0, .slice p1 h.2.1.length c1, .slice p2 h.2.2.length c2]
  have hb0 : Below w.heap.size w (w.alloc (.cells #[.slice p0 h.1.length c0, .slice p1 h.2.1.length c1, .slice p2 h.2.2.length c2] 25)) := (Below.refl _ w).alloc (Nat.le_refl _) _
  have HB0 := Lib.hid hb0
  have B0 := Lib.hid b0
  have hown0 := World.ownsRow_made (base := w.heap.size + 1) (size := 1) (e := 3) (w.alloc (.cells #[.slice p0 h.1.length c0, .slice p1 h.2.1.length c1, .slice p2 h.2.2.length c2] 25)) #[] 0 (by simp) (Nat.zero_le _) rfl
  have hbs0 : Below (w.heap.size + 1) (w.alloc (.cells #[.slice p0 h.1.length c0, .slice p1 h.2.1.length c1, .slice p2 h.2.2.length c2] 25)) ((w.alloc (.cells #[.slice p0 h.1.length c0, .slice p1 h.2.1.length c1, .slice p2 h.2.2.length c2] 25)).alloc (.cells #[] 3)) := (Below.refl _ _).alloc (by simp) _
  simp only [World.size_alloc] at hown0
  clear hp hm b0 hb0
  go_enter Tryd.func12, Tryd.ntmps12
  go_wp2_with fail
  have hS0 : (w.alloc (.cells #[.slice p0 h.1.length c0, .slice p1 h.2.1.length c1, .slice p2 h.2.2.length c2] 25)).heap.size = w.heap.size + 1 := World.size_alloc _ _
  have HS0 := Lib.hid hS0
  clear hS0
  generalize (w.alloc (.cells #[.slice p0 h.1.length c0, .slice p1 h.2.1.length c1, .slice p2 h.2.2.length c2] 25)) = W0 at *
  go_loopw [3, 4] (fun l i wr => ∃ k : Nat, k ≤ h.2.2.length ∧ i = .int .i64 k ∧ wr.ownsRow (w.heap.size + 1) 3 1 l (idxs (infosP) h.2.2 k).length (vints (idxs (infosP) h.2.2 k)) ∧ Below (w.heap.size + 1) W0 wr) (fun _ i _ => h.2.2.length - (RowKit.intOf i).toNat)
  case atStart => exact ⟨0, Nat.zero_le _, rfl, hown0, hbs0⟩
  case round =>
    obtain ⟨k, hk, rfl, hown, hbw⟩ := hrel
    have hsz := hbw.size
    rw [HS0.out] at hsz
    have x2 := (B0.out.below hbw (by omega)).cell 2 rfl
    by_cases hk1 : k < h.2.2.length
    · obtain ⟨g, sv, rfl, a1, a2, a3, -⟩ := HX.out k hk1
      have hbwx := HB0.out.trans (hbw.mono (by omega))
      have a1' := cell_later hbwx a1
      have a2' := cell_later hbwx a2
      have hnx := idxs_next (infosP) h.2.2 k
      have hil := idxs_len (infosP) h.2.2 k
      obtain ⟨I, hI⟩ : ∃ I, idxs (infosP) h.2.2 k = I := ⟨_, rfl⟩
      rw [hI] at hown hnx hil
      obtain ⟨t, ht⟩ : ∃ t, h.2.2.getD k noTxn = t := ⟨_, rfl⟩
      rw [ht] at a1' a2' hnx
      obtain ⟨t1, t2, t3⟩ := t
      simp only at a1' a2' hnx
      have HN : RowKit.Hid ((infosP) (t1, t2, t3) = true → idxs (infosP) h.2.2 (k + 1) = I ++ [(k : Int)]) := Lib.hid (fun e => by rw [hnx, if_pos e])
      have HF : RowKit.Hid ((infosP) (t1, t2, t3) = false → idxs (infosP) h.2.2 (k + 1) = I) := Lib.hid (fun e => by rw [hnx, if_neg (by rw [e]; exact Bool.false_ne_true)])
      clear a1 a2 a3 ht hI hnx hbwx
      by_cases hc : t2 = 3
      · have hcb : ((infosP) (t1, t2, t3)) = true := beq_iff_eq.2 hc
        have HN2 := Lib.hid (HN.out hcb)
        have hcc : (t2 == 3) = true := beq_iff_eq.2 hc
        clear hcb hc HN HF
        go_wp2_with (at_builtin; refine wpList_append_own _ rfl _ _ 27 rfl (w.heap.size + 1) 3 i0 (.int .i64 0) 1 8 Tryd.underlying27 hi hz0 hz1 hz2 rfl (by decide) _ _ _ rfl (hown.alloc _) ⟨wr.heap.size, 0, none⟩ 1 1 [.int .i64 (k : Nat)] rfl rfl (news_int _ _ _) (ones_int _) (by unfold maxLen; omega) (by omega) (by simp; omega) ?_)
        intro v4 w4 hown4 hgrow hnil
        have hb4 : Below (w.heap.size + 1) W0 w4 := (hbw.alloc (by omega) _).grown hgrow (by simp; omega) (fun k hk => (hown.lt k hk).1)
        have HO : RowKit.Hid (w4.ownsRow (w.heap.size + 1) 3 1 v4 (idxs (infosP) h.2.2 (k + 1)).length (vints (idxs (infosP) h.2.2 (k + 1)))) := Lib.hid (by rw [HN2.out, ← vints_snoc, List.length_append]; exact hown4)
        clear hown4 hgrow hnil hown hbw
        go_wp2_with fail
        go_roundw
        case rel => exact ⟨k + 1, by omega, by go_num, HO.out, hb4⟩
        case measure => simp [RowKit.intOf]; omega
      · have hcb : ((infosP) (t1, t2, t3)) = false := beq_eq_false_iff_ne.2 hc
        have HN2 := Lib.hid (HF.out hcb)
        have hcc : (t2 == 3) = false := beq_eq_false_iff_ne.2 hc
        clear hcb hc HN HF
        go_wp2_with fail
        go_roundw
        case rel => exact ⟨k + 1, by omega, by go_num, by rw [HN2.out]; exact hown, hbw⟩
        case measure => simp [RowKit.intOf]; omega
    · have hke : k = h.2.2.length := by omega
      subst hke
      have HO := Lib.hid (own_intsI hown)
      have hbwx := HB0.out.trans (hbw.mono (by omega))
      clear hown
      go_wp2_with fail
      go_ret
      exact ⟨_, rfl, HO.out, hbwx⟩

set_option maxRecDepth 100000 in
set_option maxHeartbeats 4000000 in
theorem rlost_any (v0 v1 v2 : Value) (h : HistM) (w : World) (h0 : Texts w v0 h.1) (h1 : Texts w v1 h.2.1) (h2 : TxnsS w v2 h.2.2) (hm : Modst h) :
    Calls Tryd.prog 13 #[.agg #[v0, v1, v2]] w fun e w' => ∃ v', e = .returned v' ∧ PlacesS w' v' (lostI (itH h.2.2 h.2.2.length)) ∧ Below w.heap.size w w' := by
  obtain ⟨p2, c2, rfl, hp⟩ := h2
  obtain ⟨p0, c0, rfl, -⟩ := h0
  obtain ⟨p1, c1, rfl, -⟩ := h1
  have HX := Lib.hid hp
  have HM := Lib.hid hm
  have m3 : h.2.2.length ≤ 1000 := hm.2.2.1
  have HN0 := Lib.hid (itH_len h.2.2 hm.2.2.2.2.2 h.2.2.length (Nat.le_refl _))
  obtain ⟨i0, hi, hz0, hz1, hz2⟩ := info_parts info_place
  have b0 := Blk.new w 25 [.slice p0 h.1.length c0, .slice p1 h.2.1.length c1, .slice p2 h.2.2.length c2]
  have hb0 : Below w.heap.size w (w.alloc (.cells #[.slice p0 h.1.length c0, .slice p1 h.2.1.length c1, .slice p2 h.2.2.length c2] 25)) := (Below.refl _ w).alloc (Nat.le_refl _) _
  have HB0 := Lib.hid hb0
  have B0 := Lib.hid b0
  have hown0 := World.ownsRow_made (base := w.heap.size + 1) (size := 2) (e := 64) (w.alloc (.cells #[.slice p0 h.1.length c0, .slice p1 h.2.1.length c1, .slice p2 h.2.2.length c2] 25)) #[] 0 (by simp) (Nat.zero_le _) rfl
  have hbs0 : Below (w.heap.size + 1) (w.alloc (.cells #[.slice p0 h.1.length c0, .slice p1 h.2.1.length c1, .slice p2 h.2.2.length c2] 25)) ((w.alloc (.cells #[.slice p0 h.1.length c0, .slice p1 h.2.1.length c1, .slice p2 h.2.2.length c2] 25)).alloc (.cells #[] 64)) := (Below.refl _ _).alloc (by simp) _
  simp only [World.size_alloc] at hown0
  clear hp hm b0 hb0
  go_enter Tryd.func13, Tryd.ntmps13
  go_wp2_with fail
  have hS0 : (w.alloc (.cells #[.slice p0 h.1.length c0, .slice p1 h.2.1.length c1, .slice p2 h.2.2.length c2] 25)).heap.size = w.heap.size + 1 := World.size_alloc _ _
  have HS0 := Lib.hid hS0
  clear hS0
  generalize (w.alloc (.cells #[.slice p0 h.1.length c0, .slice p1 h.2.1.length c1, .slice p2 h.2.2.length c2] 25)) = W0 at *
  go_loopw [3, 4] (fun l i wr => ∃ k : Nat, k ≤ h.2.2.length ∧ i = .int .i64 k ∧ wr.ownsRow (w.heap.size + 1) 64 2 l (lostI (itH h.2.2 k)).length (placesCells (lostI (itH h.2.2 k))) ∧ Below (w.heap.size + 1) W0 wr) (fun _ i _ => h.2.2.length - (RowKit.intOf i).toNat)
  case atStart => exact ⟨0, Nat.zero_le _, rfl, hown0, hbs0⟩
  case round =>
    obtain ⟨k, hk, rfl, hown, hbw⟩ := hrel
    have hsz := hbw.size
    rw [HS0.out] at hsz
    have x2 := (B0.out.below hbw (by omega)).cell 2 rfl
    obtain ⟨wo, rfl⟩ : ∃ wo : World, wo = wr := ⟨_, rfl⟩
    by_cases hk1 : k < h.2.2.length
    · obtain ⟨g, sv, rfl, a1, a2, a3, ⟨p3, c3, rfl, ho⟩⟩ := HX.out k hk1
      have HO := Lib.hid ho
      have HS := Lib.hid (itH_succ h.2.2 k)
      have HLT := Lib.hid (fun j => it_lt h.2.2 k j hk1)
      have hm4 : (h.2.2.getD k noTxn).2.2.length ≤ 1000 := HM.out.2.2.2.2.2 _ (by
        have : h.2.2.getD k noTxn = h.2.2[k] := by simp [hk1]
        rw [this]
        exact List.getElem_mem hk1)
      obtain ⟨tl, htl⟩ : ∃ tl, (h.2.2.getD k noTxn).2.2 = tl := ⟨_, rfl⟩
      rw [htl] at a3 HO HS HLT hm4
      obtain ⟨P0, hP0⟩ : ∃ P0, itH h.2.2 k = P0 := ⟨_, rfl⟩
      rw [hP0] at hown HS HLT
      have A3 := Lib.hid a3
      clear a1 a2 a3 ho htl hP0
      go_wp2_with fail
      go_loopw [3, 5] (fun l j wr => ∃ m : Nat, m ≤ tl.length ∧ j = .int .i64 m ∧ wr.ownsRow (w.heap.size + 1) 64 2 l (lostI (P0 ++ itT k tl m)).length (placesCells (lostI (P0 ++ itT k tl m))) ∧ Below (w.heap.size + 1) W0 wr) (fun _ j _ => tl.length - (RowKit.intOf j).toNat)
      case atStart => exact ⟨0, Nat.zero_le _, rfl, by simpa [itT] using hown, hbw⟩
      case round =>
        obtain ⟨m, hml, rfl, hown, hbw⟩ := hrel
        have hsz := hbw.size
        rw [HS0.out] at hsz
        have x2 := (B0.out.below hbw (by omega)).cell 2 rfl
        have hbwx := HB0.out.trans (hbw.mono (by omega))
        have a3' := cell_later hbwx A3.out
        by_cases hm1 : m < tl.length
        · obtain ⟨g2, rfl, q0, q1, q2, q3⟩ := HO.out m hm1
          have q2' := cell_later hbwx q2
          have hls := lostI_snoc (P0 ++ itT k tl m) ((k, m), tl.getD m noOp)
          have hlt := HLT.out m hm1
          have hll := lostI_len (P0 ++ itT k tl m)
          have hn0 := HN0.out
          rw [List.append_assoc, ← itT_succ] at hls
          obtain ⟨o, ho⟩ : ∃ o, tl.getD m noOp = o := ⟨_, rfl⟩
          rw [ho] at q2' hls
          obtain ⟨ow, ok, od, on⟩ := o
          simp only at q2' hls
          obtain ⟨I, hI⟩ : ∃ I, lostI (P0 ++ itT k tl m) = I := ⟨_, rfl⟩
          rw [hI] at hown hls hll
          have hIl : I.length ≤ 1000000 := by omega
          have HN : RowKit.Hid (od = 2 → lostI (P0 ++ itT k tl (m + 1)) = I ++ [(k, m)]) := Lib.hid (fun e => by rw [hls, if_pos (beq_iff_eq.2 e)])
          have HF : RowKit.Hid (od ≠ 2 → lostI (P0 ++ itT k tl (m + 1)) = I) := Lib.hid (fun e => by rw [hls, if_neg (by rw [beq_eq_false_iff_ne.2 e]; exact Bool.false_ne_true)])
          clear q0 q1 q2 q3 ho hI hls hll hlt hn0 hbwx
          by_cases hc : od = 2
          · have HN2 := Lib.hid (HN.out hc)
            subst hc
            clear HN HF
            go_wp2_with (at_builtin; refine wpList_append_own _ rfl _ _ 28 rfl (w.heap.size + 1) 64 i0 (.agg #[.int .i64 0, .int .i64 0]) 2 16 Tryd.underlying28 hi hz0 hz1 hz2 rfl (by decide) _ _ _ rfl (hown.alloc _) ⟨wr.heap.size, 0, none⟩ 1 1 [.int .i64 (k : Nat), .int .i64 (m : Nat)] rfl rfl (news_lit _ _ _ _ rfl) (by intro u hu; simp at hu; rcases hu with rfl | rfl <;> rfl) (by unfold maxLen; omega) (by omega) (by simp; omega) ?_)
            intro v4 w4 hown4 hgrow hnil
            have hb4 : Below (w.heap.size + 1) W0 w4 := (hbw.alloc (by omega) _).grown hgrow (by simp; omega) (fun k hk => (hown.lt k hk).1)
            have HO4 : RowKit.Hid (w4.ownsRow (w.heap.size + 1) 64 2 v4 (lostI (P0 ++ itT k tl (m + 1))).length (placesCells (lostI (P0 ++ itT k tl (m + 1))))) := Lib.hid (by rw [HN2.out, List.length_append, placesCells, List.flatMap_append]; exact hown4)
            clear hown4 hgrow hnil hown hbw
            go_wp2_with fail
            go_roundw
            case rel => exact ⟨m + 1, by omega, by go_num, HO4.out, hb4⟩
            case measure => simp [RowKit.intOf]; omega
          · have HN2 := Lib.hid (HF.out hc)
            have hcc : (od == 2) = false := beq_eq_false_iff_ne.2 hc
            clear hc HN HF
            go_wp2_with fail
            go_roundw
            case rel => exact ⟨m + 1, by omega, by go_num, by rw [HN2.out]; exact hown, hbw⟩
            case measure => simp [RowKit.intOf]; omega
        · obtain rfl : m = tl.length := by omega
          have HOW := Lib.hid hown
          clear hown hbwx
          go_wp2_with fail
          go_roundw
          case rel => exact ⟨k + 1, by omega, by go_num, by rw [HS.out]; exact HOW.out, hbw⟩
          case measure => simp [RowKit.intOf]; omega
    · have hke : k = h.2.2.length := by omega
      subst hke
      have HO := Lib.hid (own_places hown)
      have hbwx := HB0.out.trans (hbw.mono (by omega))
      clear hown
      go_wp2_with fail
      go_ret
      exact ⟨_, rfl, HO.out, hbwx⟩

set_option maxRecDepth 100000 in
set_option maxHeartbeats 2000000 in
theorem sameplaces_any (w : World) (v v' : Value) (L : List PlaceM) (hv : PlacesS w v L) (hv' : PlacesS w v' L) (hL : L.length ≤ 4611686018427387904) :
    Calls Tryd.prog 16 #[v, v'] w fun e w' => e = .returned (.bool true) ∧ Below w.heap.size w w' := by
  obtain ⟨p, c, rfl, hp⟩ := hv
  obtain ⟨q, d, rfl, hq⟩ := hv'
  have HP := Lib.hid hp
  have HQ := Lib.hid hq
  clear hp hq
  go_enter Tryd.func16, Tryd.ntmps16
  go_wp2_with fail
  go_loopw [5] (fun i wr => ∃ k : Nat, k ≤ L.length ∧ i = .int .i64 k ∧ Below w.heap.size w wr) (fun i _ => L.length - (RowKit.intOf i).toNat)
  case atStart => exact ⟨0, Nat.zero_le _, rfl, Below.refl _ _⟩
  case round =>
    obtain ⟨k, hk, rfl, hbw⟩ := hrel
    by_cases hk1 : k < L.length
    · obtain ⟨g, rfl, a1, a2⟩ := HP.out k hk1
      obtain ⟨g', rfl, b1, b2⟩ := HQ.out k hk1
      have a1' := cell_later hbw a1
      have a2' := cell_later hbw a2
      have b1' := cell_later hbw b1
      have b2' := cell_later hbw b2
      generalize L.getD k (0, 0) = P at *
      obtain ⟨x, y⟩ := P
      simp only at a1' a2' b1' b2'
      clear a1 a2 b1 b2
      go_wp2_with fail
      go_quiet (fail)
      have hbw2 : Below w.heap.size w (wr.drewN nq) := hbw.trans ⟨rfl, rfl, rfl, Nat.le_refl _, fun _ _ => rfl⟩
      generalize wr.drewN nq = wq at *
      go_wp2_with fail
      go_roundw
      case rel => exact ⟨k + 1, by omega, by go_num, hbw2⟩
      case measure => simp [RowKit.intOf]; omega
    · have hke : k = L.length := by omega
      subst hke
      go_wp2_with fail
      go_ret
      exact ⟨rfl, hbw⟩
end Go.Proofs.YthalbcmlehpfaaaDoor

namespace Go.Proofs.YthalbcmlehpfaaaDoor
open Go.RowKit Go.Lib

def sampleH : HistM := ([[115]], [[120]], [(0, 1, [(false, 0, 2, 0)]), (0, 3, [])])
theorem sample_may : mayH sampleH = true := by decide +kernel
theorem sample_a01 : aheadH sampleH 0 1 = true := by decide +kernel
theorem sample_a10 : aheadH sampleH 1 0 = false := by decide +kernel
theorem sample_infos : whereL infosP sampleH = [1] := by decide +kernel
theorem sample_lost : lostL sampleH = [(0, 0)] := by decide +kernel
theorem sample_modst : Modst sampleH := by
  refine ⟨by decide, by decide, by decide, ?_, ?_, ?_⟩ <;> simp [sampleH]

/-! ### The contracts over a history's value -/
theorem hmay_v {w : World} {v : Value} {h : HistM} (hv : HistV w v h) (hm : Modst h) (hT : Lib.Utf8Tabs 0 1 w) : Calls Tryd.prog 20 #[v] w fun e w' => e = .returned (.int .i64 (errH h)) ∧ Below w.heap.size w w' := by
  obtain ⟨v0, v1, v2, rfl, h0, h1, h2⟩ := hv
  exact hmay_any v0 v1 v2 h w h0 h1 h2 hm hT
theorem rmay_v {w : World} {v : Value} {h : HistM} (hv : HistV w v h) (hm : Modst h) : Calls Tryd.prog 11 #[v] w fun e w' => e = .returned (.int .i64 (errH h)) ∧ Below w.heap.size w w' := by
  obtain ⟨v0, v1, v2, rfl, h0, h1, h2⟩ := hv
  exact rmay_any v0 v1 v2 h w h0 h1 h2 hm
theorem ahead_v {w : World} {v : Value} {h : HistM} (a b : Int) (hv : HistV w v h) (hm : Modst h) (hT : Lib.Utf8Tabs 0 1 w) : Calls Tryd.prog 22 #[v, .int .i64 a, .int .i64 b] w fun e w' => e = .returned (.bool (aheadH h a b)) ∧ Below w.heap.size w w' := by
  obtain ⟨v0, v1, v2, rfl, h0, h1, h2⟩ := hv
  exact ahead_any v0 v1 v2 h a b w h0 h1 h2 hm hT
theorem rahead_v {w : World} {v : Value} {h : HistM} (a b : Int) (hv : HistV w v h) (hm : Modst h) : Calls Tryd.prog 23 #[v, .int .i64 a, .int .i64 b] w fun e w' => e = .returned (.bool (aheadH h a b)) ∧ Below w.heap.size w w' := by
  obtain ⟨v0, v1, v2, rfl, h0, h1, h2⟩ := hv
  exact rahead_any v0 v1 v2 h a b w h0 h1 h2 hm
theorem session_v {w : World} {v : Value} {h : HistM} (s : Int) (hv : HistV w v h) (hm : Modst h) (hT : Lib.Utf8Tabs 0 1 w) : Calls Tryd.prog 21 #[v, .int .i64 s] w fun e w' => ∃ v', e = .returned v' ∧ IntsS w' v' (whereL (sessP s) h) ∧ Below w.heap.size w w' := by
  obtain ⟨v0, v1, v2, rfl, h0, h1, h2⟩ := hv
  exact session_any v0 v1 v2 h s w h0 h1 h2 hm hT
theorem infos_v {w : World} {v : Value} {h : HistM} (hv : HistV w v h) (hm : Modst h) (hT : Lib.Utf8Tabs 0 1 w) : Calls Tryd.prog 15 #[v] w fun e w' => ∃ v', e = .returned v' ∧ IntsS w' v' (whereL infosP h) ∧ Below w.heap.size w w' := by
  obtain ⟨v0, v1, v2, rfl, h0, h1, h2⟩ := hv
  exact infos_any v0 v1 v2 h w h0 h1 h2 hm hT
theorem lost_v {w : World} {v : Value} {h : HistM} (hv : HistV w v h) (hm : Modst h) (hT : Lib.Utf8Tabs 0 1 w) : Calls Tryd.prog 17 #[v] w fun e w' => ∃ v', e = .returned v' ∧ PlacesS w' v' (lostL h) ∧ Below w.heap.size w w' := by
  obtain ⟨v0, v1, v2, rfl, h0, h1, h2⟩ := hv
  exact lost_any v0 v1 v2 h w h0 h1 h2 hm hT
theorem rsession_v {w : World} {v : Value} {h : HistM} (s : Int) (hv : HistV w v h) (hm : Modst h) : Calls Tryd.prog 19 #[v, .int .i64 s] w fun e w' => ∃ v', e = .returned v' ∧ IntsS w' v' (idxs (sessP s) h.2.2 h.2.2.length) ∧ Below w.heap.size w w' := by
  obtain ⟨v0, v1, v2, rfl, h0, h1, h2⟩ := hv
  exact rsession_any v0 v1 v2 h s w h0 h1 h2 hm
theorem rinfos_v {w : World} {v : Value} {h : HistM} (hv : HistV w v h) (hm : Modst h) : Calls Tryd.prog 12 #[v] w fun e w' => ∃ v', e = .returned v' ∧ IntsS w' v' (idxs infosP h.2.2 h.2.2.length) ∧ Below w.heap.size w w' := by
  obtain ⟨v0, v1, v2, rfl, h0, h1, h2⟩ := hv
  exact rinfos_any v0 v1 v2 h w h0 h1 h2 hm
theorem rlost_v {w : World} {v : Value} {h : HistM} (hv : HistV w v h) (hm : Modst h) : Calls Tryd.prog 13 #[v] w fun e w' => ∃ v', e = .returned v' ∧ PlacesS w' v' (lostI (itH h.2.2 h.2.2.length)) ∧ Below w.heap.size w w' := by
  obtain ⟨v0, v1, v2, rfl, h0, h1, h2⟩ := hv
  exact rlost_any v0 v1 v2 h w h0 h1 h2 hm

theorem sample_v (w : World) (b1 b2 b3 b4 : Nat) (k1 : Blk w b1 9 [.string (bs [115])]) (k2 : Blk w b2 9 [.string (bs [120])]) (k3 : Blk w b3 62 [.bool false, .int .i64 0, .int .i64 2, .int .i64 0])
    (k4 : Blk w b4 56 [.int .i64 0, .int .i64 1, .slice (some ⟨b3, 0, none⟩) 1 1, .int .i64 0, .int .i64 3, .slice none 0 0]) : HistV w (.agg #[.slice (some ⟨b1, 0, none⟩) 1 1, .slice (some ⟨b2, 0, none⟩) 1 1, .slice (some ⟨b4, 0, none⟩) 2 2]) sampleH := by
  refine ⟨_, _, _, rfl, ⟨_, 1, rfl, fun j hj => ⟨b1, rfl, ?_⟩⟩, ⟨_, 1, rfl, fun j hj => ⟨b2, rfl, ?_⟩⟩, ⟨_, 2, rfl, fun j hj => ?_⟩⟩
  · match j, hj with
    | 0, _ => exact k1.cell 0 rfl
  · match j, hj with
    | 0, _ => exact k2.cell 0 rfl
  · match j, hj with
    | 0, _ => exact ⟨b4, _, rfl, k4.cell 0 rfl, k4.cell 1 rfl, k4.cell 2 rfl, ⟨_, 1, rfl, fun i hi => by
        match i, hi with
        | 0, _ => exact ⟨b3, rfl, k3.cell 0 rfl, k3.cell 1 rfl, k3.cell 2 rfl, k3.cell 3 rfl⟩⟩⟩
    | 1, _ => exact ⟨b4, _, rfl, k4.cell 3 rfl, k4.cell 4 rfl, k4.cell 5 rfl, ⟨none, 0, rfl, fun i hi => absurd hi (Nat.not_lt_zero i)⟩⟩

set_option maxRecDepth 100000 in
set_option maxHeartbeats 1000000 in
theorem sample_any (w : World) : Calls Tryd.prog 44 #[] w fun e w' => ∃ v', e = .returned v' ∧ HistV w' v' sampleH ∧ Below w.heap.size w w' := by
  have r0 := Blk.new w 25 [.slice (some ⟨w.heap.size + 1, 0, none⟩) 1 1, .slice (some ⟨w.heap.size + 1 + 1, 0, none⟩) 1 1, .slice (some ⟨w.heap.size + 1 + 1 + 1 + 1, 0, none⟩) 2 2]
  replace r0 := r0.alloc (.cells #[.string (bs [115])] 9)
  replace r0 := r0.alloc (.cells #[.string (bs [120])] 9)
  replace r0 := r0.alloc (.cells #[.bool false, .int .i64 0, .int .i64 2, .int .i64 0] 62)
  replace r0 := r0.alloc (.cells #[.int .i64 0, .int .i64 1, .slice (some ⟨w.heap.size + 1 + 1 + 1, 0, none⟩) 1 1, .int .i64 0, .int .i64 3, .slice none 0 0] 56)
  have r1 := Blk.new (w.alloc (.cells #[.slice (some ⟨w.heap.size + 1, 0, none⟩) 1 1, .slice (some ⟨w.heap.size + 1 + 1, 0, none⟩) 1 1, .slice (some ⟨w.heap.size + 1 + 1 + 1 + 1, 0, none⟩) 2 2] 25)) 9 [.string (bs [115])]
  simp only [World.size_alloc] at r1
  replace r1 := r1.alloc (.cells #[.string (bs [120])] 9)
  replace r1 := r1.alloc (.cells #[.bool false, .int .i64 0, .int .i64 2, .int .i64 0] 62)
  replace r1 := r1.alloc (.cells #[.int .i64 0, .int .i64 1, .slice (some ⟨w.heap.size + 1 + 1 + 1, 0, none⟩) 1 1, .int .i64 0, .int .i64 3, .slice none 0 0] 56)
  have r2 := Blk.new ((w.alloc (.cells #[.slice (some ⟨w.heap.size + 1, 0, none⟩) 1 1, .slice (some ⟨w.heap.size + 1 + 1, 0, none⟩) 1 1, .slice (some ⟨w.heap.size + 1 + 1 + 1 + 1, 0, none⟩) 2 2] 25)).alloc (.cells #[.string (bs [115])] 9)) 9 [.string (bs [120])]
  simp only [World.size_alloc] at r2
  replace r2 := r2.alloc (.cells #[.bool false, .int .i64 0, .int .i64 2, .int .i64 0] 62)
  replace r2 := r2.alloc (.cells #[.int .i64 0, .int .i64 1, .slice (some ⟨w.heap.size + 1 + 1 + 1, 0, none⟩) 1 1, .int .i64 0, .int .i64 3, .slice none 0 0] 56)
  have r3 := Blk.new (((w.alloc (.cells #[.slice (some ⟨w.heap.size + 1, 0, none⟩) 1 1, .slice (some ⟨w.heap.size + 1 + 1, 0, none⟩) 1 1, .slice (some ⟨w.heap.size + 1 + 1 + 1 + 1, 0, none⟩) 2 2] 25)).alloc (.cells #[.string (bs [115])] 9)).alloc (.cells #[.string (bs [120])] 9)) 62 [.bool false, .int .i64 0, .int .i64 2, .int .i64 0]
  simp only [World.size_alloc] at r3
  replace r3 := r3.alloc (.cells #[.int .i64 0, .int .i64 1, .slice (some ⟨w.heap.size + 1 + 1 + 1, 0, none⟩) 1 1, .int .i64 0, .int .i64 3, .slice none 0 0] 56)
  have r4 := Blk.new ((((w.alloc (.cells #[.slice (some ⟨w.heap.size + 1, 0, none⟩) 1 1, .slice (some ⟨w.heap.size + 1 + 1, 0, none⟩) 1 1, .slice (some ⟨w.heap.size + 1 + 1 + 1 + 1, 0, none⟩) 2 2] 25)).alloc (.cells #[.string (bs [115])] 9)).alloc (.cells #[.string (bs [120])] 9)).alloc (.cells #[.bool false, .int .i64 0, .int .i64 2, .int .i64 0] 62)) 56 [.int .i64 0, .int .i64 1, .slice (some ⟨w.heap.size + 1 + 1 + 1, 0, none⟩) 1 1, .int .i64 0, .int .i64 3, .slice none 0 0]
  simp only [World.size_alloc] at r4
  have hb : Below w.heap.size w (((((w.alloc (.cells #[.slice (some ⟨w.heap.size + 1, 0, none⟩) 1 1, .slice (some ⟨w.heap.size + 1 + 1, 0, none⟩) 1 1, .slice (some ⟨w.heap.size + 1 + 1 + 1 + 1, 0, none⟩) 2 2] 25)).alloc (.cells #[.string (bs [115])] 9)).alloc (.cells #[.string (bs [120])] 9)).alloc (.cells #[.bool false, .int .i64 0, .int .i64 2, .int .i64 0] 62)).alloc (.cells #[.int .i64 0, .int .i64 1, .slice (some ⟨w.heap.size + 1 + 1 + 1, 0, none⟩) 1 1, .int .i64 0, .int .i64 3, .slice none 0 0] 56)) := (((((Below.refl _ w).alloc (Nat.le_refl _) _).alloc (by simp) _).alloc (by simp; omega) _).alloc (by simp; omega) _).alloc (by simp; omega) _
  have R1 := Lib.hid r0
  have R2 := Lib.hid (sample_v (((((w.alloc (.cells #[.slice (some ⟨w.heap.size + 1, 0, none⟩) 1 1, .slice (some ⟨w.heap.size + 1 + 1, 0, none⟩) 1 1, .slice (some ⟨w.heap.size + 1 + 1 + 1 + 1, 0, none⟩) 2 2] 25)).alloc (.cells #[.string (bs [115])] 9)).alloc (.cells #[.string (bs [120])] 9)).alloc (.cells #[.bool false, .int .i64 0, .int .i64 2, .int .i64 0] 62)).alloc (.cells #[.int .i64 0, .int .i64 1, .slice (some ⟨w.heap.size + 1 + 1 + 1, 0, none⟩) 1 1, .int .i64 0, .int .i64 3, .slice none 0 0] 56)) _ _ _ _ r1 r2 r3 r4)
  have R3 := Lib.hid hb
  clear r0 r1 r2 r3 r4 hb
  go_enter Tryd.func44, Tryd.ntmps44
  go_wp2_with fail
  have c0 := R1.out.cell 0 rfl
  have c1 := R1.out.cell 1 rfl
  have c2 := R1.out.cell 2 rfl
  refine bodyPost_ret (v := .agg #[.slice (some ⟨w.heap.size + 1, 0, none⟩) 1 1, .slice (some ⟨w.heap.size + 1 + 1, 0, none⟩) 1 1, .slice (some ⟨w.heap.size + 1 + 1 + 1 + 1, 0, none⟩) 2 2]) ?_ rfl ⟨_, rfl, R2.out, R3.out⟩
  simp only [← str_const] at c0 c1 c2
  simp [results, Tryd.results44, go_sem, c0, c1, c2]

set_option maxRecDepth 100000 in
set_option maxHeartbeats 2000000 in
theorem works11_any (w : World) (hT : Lib.Utf8Tabs 0 1 w) : Calls Tryd.prog 18 #[] w fun e w' => e = .returned (.bool true) ∧ Below w.heap.size w w' := by
  have HT := Lib.hid hT
  have HS := Lib.hid sample_any
  have H1 := Lib.hid (fun w' v (hv : HistV w' v sampleH) hT' => hmay_v hv sample_modst hT')
  have H2 := Lib.hid (fun w' v (hv : HistV w' v sampleH) hT' => ahead_v 0 1 hv sample_modst hT')
  have H3 := Lib.hid (fun w' v (hv : HistV w' v sampleH) hT' => ahead_v 1 0 hv sample_modst hT')
  have H4 := Lib.hid (fun w' v (hv : HistV w' v sampleH) hT' => infos_v hv sample_modst hT')
  have H5 := Lib.hid (fun w' v (hv : HistV w' v sampleH) hT' => lost_v hv sample_modst hT')
  rw [err_yes sample_may] at H1
  rw [sample_a01] at H2
  rw [sample_a10] at H3
  rw [sample_infos] at H4
  rw [sample_lost] at H5
  clear hT
  go_enter Tryd.func18, Tryd.ntmps18
  go_wp2_with fail
  refine (HS.out _).mono ?_
  rintro e w1 ⟨v1, rfl, hv1, hb1⟩
  have hw1 := hb1
  go_wp2_with fail
  refine (H1.out _ _ hv1 (Utf8Tabs_below HT.out hw1)).mono ?_
  rintro e w2 ⟨rfl, hb2⟩
  have hw2 := below_next hw1 hb2
  clear hb2 hv1
  go_wp2_with fail
  refine (HS.out _).mono ?_
  rintro e w3 ⟨v3, rfl, hv3, hb3⟩
  have hw3 := below_next hw2 hb3
  go_wp2_with fail
  refine (H2.out _ _ hv3 (Utf8Tabs_below HT.out hw3)).mono ?_
  rintro e w4 ⟨rfl, hb4⟩
  have hw4 := below_next hw3 hb4
  clear hb4 hv3
  go_wp2_with fail
  refine (HS.out _).mono ?_
  rintro e w5 ⟨v5, rfl, hv5, hb5⟩
  have hw5 := below_next hw4 hb5
  go_wp2_with fail
  refine (H3.out _ _ hv5 (Utf8Tabs_below HT.out hw5)).mono ?_
  rintro e w6 ⟨rfl, hb6⟩
  have hw6 := below_next hw5 hb6
  clear hb6 hv5
  go_wp2_with fail
  refine (HS.out _).mono ?_
  rintro e w7 ⟨v7, rfl, hv7, hb7⟩
  have hw7 := below_next hw6 hb7
  go_wp2_with fail
  refine (H4.out _ _ hv7 (Utf8Tabs_below HT.out hw7)).mono ?_
  rintro e w8 ⟨v8, rfl, hi8, hb8⟩
  have hw8 := below_next hw7 hb8
  clear hb8 hv7
  go_wp2_with fail
  have hx := hw8.alloc hw8.size (.cells #[.int .i64 1] 3)
  have hone : IntsS (w8.alloc (.cells #[.int .i64 1] 3)) (.slice (some ⟨w8.heap.size, 0, none⟩) 1 1) [1] := ⟨_, 1, rfl, fun q hq => ⟨_, rfl, by
    match q, hq with
    | 0, _ => exact (Blk.new w8 3 [.int .i64 1]).cell 0 rfl⟩⟩
  refine (sameints_any _ _ _ [1] [1] (hi8.below ((Below.refl _ _).alloc (Nat.le_refl _) _)) hone (by simp)).mono ?_
  rintro e w9 ⟨rfl, hb9⟩
  rw [beq_self_eq_true]
  have hw9 := below_next hx hb9
  clear hb9 hi8 hone hx
  go_wp2_with fail
  refine (HS.out _).mono ?_
  rintro e w10 ⟨v10, rfl, hv10, hb10⟩
  have hw10 := below_next hw9 hb10
  go_wp2_with fail
  refine (H5.out _ _ hv10 (Utf8Tabs_below HT.out hw10)).mono ?_
  rintro e w11 ⟨v11, rfl, ⟨pl, cl, rfl, -⟩, hb11⟩
  have hw11 := below_next hw10 hb11
  clear hb11 hv10
  go_wp2_with fail
  go_ret
  exact ⟨rfl, hw11⟩
end Go.Proofs.YthalbcmlehpfaaaDoor

namespace Go.Proofs.YthalbcmlehpfaaaDoor
open Go.RowKit Go.Lib

theorem list_same {α : Type} (d : α) (L M : List α) (hl : L.length = M.length) (h : ∀ j, j < L.length → L.getD j d = M.getD j d) : L = M := by
  refine List.ext_getElem hl (fun j h1 h2 => ?_)
  have := h j h1
  simpa [h1, h2] using this
theorem list_not {α : Type} (d : α) {L M : List α} {k : Nat} (h : L.getD k d ≠ M.getD k d) : L ≠ M := fun e => h (by rw [e])
theorem len_not {α : Type} {L M : List α} (h : L.length ≠ M.length) : L ≠ M := fun e => h (by rw [e])

set_option maxRecDepth 100000 in
set_option maxHeartbeats 4000000 in
theorem eqs_any (v v' : Value) (L M : List (List UInt8)) (w : World) (hv : Texts w v L) (hv' : Texts w v' M) (hl : L.length ≤ 1000000) (_ : M.length ≤ 1000000) :
    Calls Tryd.prog 52 #[v, v'] w fun e w' => e = .returned (.bool (decide (L = M))) ∧ Below w.heap.size w w' := by
  obtain ⟨p, c, rfl, hp⟩ := hv
  obtain ⟨q, d, rfl, hq⟩ := hv'
  have HP := Lib.hid hp
  have HQ := Lib.hid hq
  clear hp hq
  go_enter Tryd.func52, Tryd.ntmps52
  by_cases hlm : L.length = M.length
  · have hlmi : ((L.length : Nat) : Int) = ((M.length : Nat) : Int) := by omega
    have HLM := Lib.hid hlm
    clear hlm
    go_wp2_with fail
    go_loopw [13] (fun i wr => ∃ k : Nat, k ≤ L.length ∧ i = .int .i64 k ∧ (∀ j, j < k → L.getD j [] = M.getD j []) ∧ Below w.heap.size w wr) (fun i _ => L.length - (RowKit.intOf i).toNat)
    case atStart => exact ⟨0, Nat.zero_le _, rfl, fun j hj => absurd hj (Nat.not_lt_zero j), Below.refl _ _⟩
    case round =>
      obtain ⟨k, hk, rfl, heq, hbw⟩ := hrel
      have HEq := Lib.hid heq
      clear heq
      by_cases hk1 : k < L.length
      · have hk2 : k < M.length := by rw [← HLM.out]; exact hk1
        obtain ⟨g, rfl, a1⟩ := HP.out k hk1
        obtain ⟨g', rfl, b1⟩ := HQ.out k hk2
        have a1' := cell_later hbw a1
        have b1' := cell_later hbw b1
        clear a1 b1
        by_cases hxy : L.getD k [] = M.getD k []
        · have HK : RowKit.Hid (∀ j, j < k + 1 → L.getD j [] = M.getD j []) := Lib.hid (fun j hj => by
            by_cases h : j = k
            · subst h; exact hxy
            · exact HEq.out j (by omega))
          rw [← hxy] at b1'
          clear hxy
          generalize L.getD k [] = x at *
          go_wp2_with fail
          go_quiet (fail)
          have hbw2 : Below w.heap.size w (wr.drewN nq) := hbw.trans ⟨rfl, rfl, rfl, Nat.le_refl _, fun _ _ => rfl⟩
          generalize wr.drewN nq = wq at *
          go_wp2_with fail
          go_roundw
          case rel => exact ⟨k + 1, by omega, by go_num, HK.out, hbw2⟩
          case measure => simp [RowKit.intOf]; omega
        · have HNe := Lib.hid (list_not (d := []) hxy)
          generalize L.getD k [] = x at *
          generalize M.getD k [] = y at *
          have hb2 : (x == y) = false := beq_eq_false_iff_ne.2 hxy
          clear hxy
          go_wp2_with fail
          go_quiet (fail)
          have hbw2 : Below w.heap.size w (wr.drewN nq) := hbw.trans ⟨rfl, rfl, rfl, Nat.le_refl _, fun _ _ => rfl⟩
          generalize wr.drewN nq = wq at *
          go_wp2_with fail
          go_ret
          exact ⟨by rw [decide_eq_false HNe.out]; rfl, hbw2⟩
      · have hke : k = L.length := by omega
        subst hke
        have HLL := Lib.hid (list_same [] L M HLM.out HEq.out)
        go_wp2_with fail
        go_ret
        exact ⟨by rw [decide_eq_true HLL.out]; rfl, hbw⟩
  · have HNe := Lib.hid (len_not hlm)
    have hlmi : ¬ (((L.length : Nat) : Int) = ((M.length : Nat) : Int)) := by omega
    go_wp2_with fail
    go_ret
    exact ⟨by rw [decide_eq_false HNe.out]; rfl, Below.refl _ _⟩

set_option maxRecDepth 100000 in
set_option maxHeartbeats 4000000 in
theorem rtexts_any (v v' : Value) (L M : List (List UInt8)) (w : World) (hv : Texts w v L) (hv' : Texts w v' M) (hl : L.length ≤ 1000000) (_ : M.length ≤ 1000000) :
    Calls Tryd.prog 71 #[v, v'] w fun e w' => e = .returned (.bool (decide (L = M))) ∧ Below w.heap.size w w' := by
  obtain ⟨p, c, rfl, hp⟩ := hv
  obtain ⟨q, d, rfl, hq⟩ := hv'
  have HP := Lib.hid hp
  have HQ := Lib.hid hq
  clear hp hq
  go_enter Tryd.func71, Tryd.ntmps71
  by_cases hlm : L.length = M.length
  · have hlmi : ((L.length : Nat) : Int) = ((M.length : Nat) : Int) := by omega
    have HLM := Lib.hid hlm
    clear hlm
    go_wp2_with fail
    go_loopw [5] (fun i wr => ∃ k : Nat, k ≤ L.length ∧ i = .int .i64 k ∧ (∀ j, j < k → L.getD j [] = M.getD j []) ∧ Below w.heap.size w wr) (fun i _ => L.length - (RowKit.intOf i).toNat)
    case atStart => exact ⟨0, Nat.zero_le _, rfl, fun j hj => absurd hj (Nat.not_lt_zero j), Below.refl _ _⟩
    case round =>
      obtain ⟨k, hk, rfl, heq, hbw⟩ := hrel
      have HEq := Lib.hid heq
      clear heq
      by_cases hk1 : k < L.length
      · have hk2 : k < M.length := by rw [← HLM.out]; exact hk1
        obtain ⟨g, rfl, a1⟩ := HP.out k hk1
        obtain ⟨g', rfl, b1⟩ := HQ.out k hk2
        have a1' := cell_later hbw a1
        have b1' := cell_later hbw b1
        clear a1 b1
        by_cases hxy : L.getD k [] = M.getD k []
        · have HK : RowKit.Hid (∀ j, j < k + 1 → L.getD j [] = M.getD j []) := Lib.hid (fun j hj => by
            by_cases h : j = k
            · subst h; exact hxy
            · exact HEq.out j (by omega))
          rw [← hxy] at b1'
          clear hxy
          generalize L.getD k [] = x at *
          go_wp2_with fail
          go_quiet (fail)
          have hbw2 : Below w.heap.size w (wr.drewN nq) := hbw.trans ⟨rfl, rfl, rfl, Nat.le_refl _, fun _ _ => rfl⟩
          generalize wr.drewN nq = wq at *
          go_wp2_with fail
          go_roundw
          case rel => exact ⟨k + 1, by omega, by go_num, HK.out, hbw2⟩
          case measure => simp [RowKit.intOf]; omega
        · have HNe := Lib.hid (list_not (d := []) hxy)
          generalize L.getD k [] = x at *
          generalize M.getD k [] = y at *
          have hb2 : (x == y) = false := beq_eq_false_iff_ne.2 hxy
          clear hxy
          go_wp2_with fail
          go_quiet (fail)
          have hbw2 : Below w.heap.size w (wr.drewN nq) := hbw.trans ⟨rfl, rfl, rfl, Nat.le_refl _, fun _ _ => rfl⟩
          generalize wr.drewN nq = wq at *
          go_wp2_with fail
          go_ret
          exact ⟨by rw [decide_eq_false HNe.out]; rfl, hbw2⟩
      · have hke : k = L.length := by omega
        subst hke
        have HLL := Lib.hid (list_same [] L M HLM.out HEq.out)
        go_wp2_with fail
        go_ret
        exact ⟨by rw [decide_eq_true HLL.out]; rfl, hbw⟩
  · have HNe := Lib.hid (len_not hlm)
    have hlmi : ¬ (((L.length : Nat) : Int) = ((M.length : Nat) : Int)) := by omega
    go_wp2_with fail
    go_ret
    exact ⟨by rw [decide_eq_false HNe.out]; rfl, Below.refl _ _⟩

set_option maxRecDepth 100000 in
set_option maxHeartbeats 4000000 in
theorem eqo_any (v v' : Value) (L M : List OpM) (w : World) (hv : OpsS w v L) (hv' : OpsS w v' M) (hl : L.length ≤ 1000000) (_ : M.length ≤ 1000000) :
    Calls Tryd.prog 55 #[v, v'] w fun e w' => e = .returned (.bool (decide (L = M))) ∧ Below w.heap.size w w' := by
  obtain ⟨p, c, rfl, hp⟩ := hv
  obtain ⟨q, d, rfl, hq⟩ := hv'
  have HP := Lib.hid hp
  have HQ := Lib.hid hq
  clear hp hq
  go_enter Tryd.func55, Tryd.ntmps55
  by_cases hlm : L.length = M.length
  · have hlmi : ((L.length : Nat) : Int) = ((M.length : Nat) : Int) := by omega
    have HLM := Lib.hid hlm
    clear hlm
    go_wp2_with fail
    go_loopw [13] (fun i wr => ∃ k : Nat, k ≤ L.length ∧ i = .int .i64 k ∧ (∀ j, j < k → L.getD j noOp = M.getD j noOp) ∧ Below w.heap.size w wr) (fun i _ => L.length - (RowKit.intOf i).toNat)
    case atStart => exact ⟨0, Nat.zero_le _, rfl, fun j hj => absurd hj (Nat.not_lt_zero j), Below.refl _ _⟩
    case round =>
      obtain ⟨k, hk, rfl, heq, hbw⟩ := hrel
      have HEq := Lib.hid heq
      clear heq
      by_cases hk1 : k < L.length
      · have hk2 : k < M.length := by rw [← HLM.out]; exact hk1
        obtain ⟨g, rfl, a1, a2, a3, a4⟩ := HP.out k hk1
        obtain ⟨g', rfl, b1, b2, b3, b4⟩ := HQ.out k hk2
        have a1' := cell_later hbw a1
        have b1' := cell_later hbw b1
        have a2' := cell_later hbw a2
        have b2' := cell_later hbw b2
        have a3' := cell_later hbw a3
        have b3' := cell_later hbw b3
        have a4' := cell_later hbw a4
        have b4' := cell_later hbw b4
        clear a1 b1 a2 b2 a3 b3 a4 b4
        by_cases hxy : L.getD k noOp = M.getD k noOp
        · have HK : RowKit.Hid (∀ j, j < k + 1 → L.getD j noOp = M.getD j noOp) := Lib.hid (fun j hj => by
            by_cases h : j = k
            · subst h; exact hxy
            · exact HEq.out j (by omega))
          rw [← hxy] at b1' b2' b3' b4'
          clear hxy
          generalize L.getD k noOp = x at *
          obtain ⟨x1, x2, x3, x4⟩ := x
          simp only at a1' a2' a3' a4' b1' b2' b3' b4'
          go_wp2_with fail
          go_quiet (fail)
          have hbw2 : Below w.heap.size w (wr.drewN nq) := hbw.trans ⟨rfl, rfl, rfl, Nat.le_refl _, fun _ _ => rfl⟩
          generalize wr.drewN nq = wq at *
          go_wp2_with fail
          go_roundw
          case rel => exact ⟨k + 1, by omega, by go_num, HK.out, hbw2⟩
          case measure => simp [RowKit.intOf]; omega
        · have HNe := Lib.hid (list_not (d := noOp) hxy)
          generalize L.getD k noOp = x at *
          generalize M.getD k noOp = y at *
          obtain ⟨x1, x2, x3, x4⟩ := x
          obtain ⟨y1, y2, y3, y4⟩ := y
          have hd : (x1 = true ∧ y1 = false) ∨ (x1 = false ∧ y1 = true) ∨ (x1 = y1 ∧ ¬ x2 = y2) ∨ (x1 = y1 ∧ x2 = y2 ∧ ¬ x3 = y3) ∨ (x1 = y1 ∧ x2 = y2 ∧ x3 = y3 ∧ ¬ x4 = y4) := by
            by_cases h1 : x1 = y1
            · by_cases h2 : x2 = y2
              · by_cases h3 : x3 = y3
                · by_cases h4 : x4 = y4
                  · exact absurd (by rw [h1, h2, h3, h4]) hxy
                  · exact .inr (.inr (.inr (.inr ⟨h1, h2, h3, h4⟩)))
                · exact .inr (.inr (.inr (.inl ⟨h1, h2, h3⟩)))
              · exact .inr (.inr (.inl ⟨h1, h2⟩))
            · cases x1 <;> cases y1
              · exact absurd rfl h1
              · exact .inr (.inl ⟨rfl, rfl⟩)
              · exact .inl ⟨rfl, rfl⟩
              · exact absurd rfl h1
          simp only at a1' a2' a3' a4' b1' b2' b3' b4'
          clear hxy
          rcases hd with ⟨rfl, rfl⟩ | ⟨rfl, rfl⟩ | ⟨rfl, hd⟩ | ⟨rfl, rfl, hd⟩ | ⟨rfl, rfl, rfl, hd⟩
          · go_wp2_with fail
            go_quiet (fail)
            have hbw2 : Below w.heap.size w (wr.drewN nq) := hbw.trans ⟨rfl, rfl, rfl, Nat.le_refl _, fun _ _ => rfl⟩
            generalize wr.drewN nq = wq at *
            go_wp2_with fail
            go_ret
            exact ⟨by rw [decide_eq_false HNe.out]; rfl, hbw2⟩
          · go_wp2_with fail
            go_quiet (fail)
            have hbw2 : Below w.heap.size w (wr.drewN nq) := hbw.trans ⟨rfl, rfl, rfl, Nat.le_refl _, fun _ _ => rfl⟩
            generalize wr.drewN nq = wq at *
            go_wp2_with fail
            go_ret
            exact ⟨by rw [decide_eq_false HNe.out]; rfl, hbw2⟩
          · have he := beq_eq_false_iff_ne.2 hd
            go_wp2_with fail
            go_quiet (fail)
            have hbw2 : Below w.heap.size w (wr.drewN nq) := hbw.trans ⟨rfl, rfl, rfl, Nat.le_refl _, fun _ _ => rfl⟩
            generalize wr.drewN nq = wq at *
            go_wp2_with fail
            go_ret
            exact ⟨by rw [decide_eq_false HNe.out]; rfl, hbw2⟩
          · have he := beq_eq_false_iff_ne.2 hd
            go_wp2_with fail
            go_quiet (fail)
            have hbw2 : Below w.heap.size w (wr.drewN nq) := hbw.trans ⟨rfl, rfl, rfl, Nat.le_refl _, fun _ _ => rfl⟩
            generalize wr.drewN nq = wq at *
            go_wp2_with fail
            go_ret
            exact ⟨by rw [decide_eq_false HNe.out]; rfl, hbw2⟩
          · have he := beq_eq_false_iff_ne.2 hd
            go_wp2_with fail
            go_quiet (fail)
            have hbw2 : Below w.heap.size w (wr.drewN nq) := hbw.trans ⟨rfl, rfl, rfl, Nat.le_refl _, fun _ _ => rfl⟩
            generalize wr.drewN nq = wq at *
            go_wp2_with fail
            go_ret
            exact ⟨by rw [decide_eq_false HNe.out]; rfl, hbw2⟩
      · have hke : k = L.length := by omega
        subst hke
        have HLL := Lib.hid (list_same noOp L M HLM.out HEq.out)
        go_wp2_with fail
        go_ret
        exact ⟨by rw [decide_eq_true HLL.out]; rfl, hbw⟩
  · have HNe := Lib.hid (len_not hlm)
    have hlmi : ¬ (((L.length : Nat) : Int) = ((M.length : Nat) : Int)) := by omega
    go_wp2_with fail
    go_ret
    exact ⟨by rw [decide_eq_false HNe.out]; rfl, Below.refl _ _⟩

set_option maxRecDepth 100000 in
set_option maxHeartbeats 4000000 in
theorem rsameops_any (v v' : Value) (L M : List OpM) (w : World) (hv : OpsS w v L) (hv' : OpsS w v' M) (hl : L.length ≤ 1000000) (_ : M.length ≤ 1000000) :
    Calls Tryd.prog 72 #[v, v'] w fun e w' => e = .returned (.bool (decide (L = M))) ∧ Below w.heap.size w w' := by
  obtain ⟨p, c, rfl, hp⟩ := hv
  obtain ⟨q, d, rfl, hq⟩ := hv'
  have HP := Lib.hid hp
  have HQ := Lib.hid hq
  clear hp hq
  go_enter Tryd.func72, Tryd.ntmps72
  by_cases hlm : L.length = M.length
  · have hlmi : ((L.length : Nat) : Int) = ((M.length : Nat) : Int) := by omega
    have HLM := Lib.hid hlm
    clear hlm
    go_wp2_with fail
    go_loopw [5] (fun i wr => ∃ k : Nat, k ≤ L.length ∧ i = .int .i64 k ∧ (∀ j, j < k → L.getD j noOp = M.getD j noOp) ∧ Below w.heap.size w wr) (fun i _ => L.length - (RowKit.intOf i).toNat)
    case atStart => exact ⟨0, Nat.zero_le _, rfl, fun j hj => absurd hj (Nat.not_lt_zero j), Below.refl _ _⟩
    case round =>
      obtain ⟨k, hk, rfl, heq, hbw⟩ := hrel
      have HEq := Lib.hid heq
      clear heq
      by_cases hk1 : k < L.length
      · have hk2 : k < M.length := by rw [← HLM.out]; exact hk1
        obtain ⟨g, rfl, a1, a2, a3, a4⟩ := HP.out k hk1
        obtain ⟨g', rfl, b1, b2, b3, b4⟩ := HQ.out k hk2
        have a1' := cell_later hbw a1
        have b1' := cell_later hbw b1
        have a2' := cell_later hbw a2
        have b2' := cell_later hbw b2
        have a3' := cell_later hbw a3
        have b3' := cell_later hbw b3
        have a4' := cell_later hbw a4
        have b4' := cell_later hbw b4
        clear a1 b1 a2 b2 a3 b3 a4 b4
        by_cases hxy : L.getD k noOp = M.getD k noOp
        · have HK : RowKit.Hid (∀ j, j < k + 1 → L.getD j noOp = M.getD j noOp) := Lib.hid (fun j hj => by
            by_cases h : j = k
            · subst h; exact hxy
            · exact HEq.out j (by omega))
          rw [← hxy] at b1' b2' b3' b4'
          clear hxy
          generalize L.getD k noOp = x at *
          obtain ⟨x1, x2, x3, x4⟩ := x
          simp only at a1' a2' a3' a4' b1' b2' b3' b4'
          go_wp2_with fail
          go_quiet (fail)
          have hbw2 : Below w.heap.size w (wr.drewN nq) := hbw.trans ⟨rfl, rfl, rfl, Nat.le_refl _, fun _ _ => rfl⟩
          generalize wr.drewN nq = wq at *
          go_wp2_with fail
          go_roundw
          case rel => exact ⟨k + 1, by omega, by go_num, HK.out, hbw2⟩
          case measure => simp [RowKit.intOf]; omega
        · have HNe := Lib.hid (list_not (d := noOp) hxy)
          generalize L.getD k noOp = x at *
          generalize M.getD k noOp = y at *
          obtain ⟨x1, x2, x3, x4⟩ := x
          obtain ⟨y1, y2, y3, y4⟩ := y
          have hd : (x1 = true ∧ y1 = false) ∨ (x1 = false ∧ y1 = true) ∨ (x1 = y1 ∧ ¬ x2 = y2) ∨ (x1 = y1 ∧ x2 = y2 ∧ ¬ x3 = y3) ∨ (x1 = y1 ∧ x2 = y2 ∧ x3 = y3 ∧ ¬ x4 = y4) := by
            by_cases h1 : x1 = y1
            · by_cases h2 : x2 = y2
              · by_cases h3 : x3 = y3
                · by_cases h4 : x4 = y4
                  · exact absurd (by rw [h1, h2, h3, h4]) hxy
                  · exact .inr (.inr (.inr (.inr ⟨h1, h2, h3, h4⟩)))
                · exact .inr (.inr (.inr (.inl ⟨h1, h2, h3⟩)))
              · exact .inr (.inr (.inl ⟨h1, h2⟩))
            · cases x1 <;> cases y1
              · exact absurd rfl h1
              · exact .inr (.inl ⟨rfl, rfl⟩)
              · exact .inl ⟨rfl, rfl⟩
              · exact absurd rfl h1
          simp only at a1' a2' a3' a4' b1' b2' b3' b4'
          clear hxy
          rcases hd with ⟨rfl, rfl⟩ | ⟨rfl, rfl⟩ | ⟨rfl, hd⟩ | ⟨rfl, rfl, hd⟩ | ⟨rfl, rfl, rfl, hd⟩
          · go_wp2_with fail
            go_quiet (fail)
            have hbw2 : Below w.heap.size w (wr.drewN nq) := hbw.trans ⟨rfl, rfl, rfl, Nat.le_refl _, fun _ _ => rfl⟩
            generalize wr.drewN nq = wq at *
            go_wp2_with fail
            go_ret
            exact ⟨by rw [decide_eq_false HNe.out]; rfl, hbw2⟩
          · go_wp2_with fail
            go_quiet (fail)
            have hbw2 : Below w.heap.size w (wr.drewN nq) := hbw.trans ⟨rfl, rfl, rfl, Nat.le_refl _, fun _ _ => rfl⟩
            generalize wr.drewN nq = wq at *
            go_wp2_with fail
            go_ret
            exact ⟨by rw [decide_eq_false HNe.out]; rfl, hbw2⟩
          · have he := beq_eq_false_iff_ne.2 hd
            go_wp2_with fail
            go_quiet (fail)
            have hbw2 : Below w.heap.size w (wr.drewN nq) := hbw.trans ⟨rfl, rfl, rfl, Nat.le_refl _, fun _ _ => rfl⟩
            generalize wr.drewN nq = wq at *
            go_wp2_with fail
            go_ret
            exact ⟨by rw [decide_eq_false HNe.out]; rfl, hbw2⟩
          · have he := beq_eq_false_iff_ne.2 hd
            go_wp2_with fail
            go_quiet (fail)
            have hbw2 : Below w.heap.size w (wr.drewN nq) := hbw.trans ⟨rfl, rfl, rfl, Nat.le_refl _, fun _ _ => rfl⟩
            generalize wr.drewN nq = wq at *
            go_wp2_with fail
            go_ret
            exact ⟨by rw [decide_eq_false HNe.out]; rfl, hbw2⟩
          · have he := beq_eq_false_iff_ne.2 hd
            go_wp2_with fail
            go_quiet (fail)
            have hbw2 : Below w.heap.size w (wr.drewN nq) := hbw.trans ⟨rfl, rfl, rfl, Nat.le_refl _, fun _ _ => rfl⟩
            generalize wr.drewN nq = wq at *
            go_wp2_with fail
            go_ret
            exact ⟨by rw [decide_eq_false HNe.out]; rfl, hbw2⟩
      · have hke : k = L.length := by omega
        subst hke
        have HLL := Lib.hid (list_same noOp L M HLM.out HEq.out)
        go_wp2_with fail
        go_ret
        exact ⟨by rw [decide_eq_true HLL.out]; rfl, hbw⟩
  · have HNe := Lib.hid (len_not hlm)
    have hlmi : ¬ (((L.length : Nat) : Int) = ((M.length : Nat) : Int)) := by omega
    go_wp2_with fail
    go_ret
    exact ⟨by rw [decide_eq_false HNe.out]; rfl, Below.refl _ _⟩
end Go.Proofs.YthalbcmlehpfaaaDoor

namespace Go.Proofs.YthalbcmlehpfaaaDoor
open Go.RowKit Go.Lib

instance decTxn : DecidableEq TxnM := fun a b => (inferInstance : Decidable (a = b))
instance decTxns : DecidableEq (List TxnM) := instDecidableEqList
theorem txn_not (t t' : TxnM) (h : ¬ (t.1 = t'.1 ∧ t.2.1 = t'.2.1 ∧ t.2.2 = t'.2.2)) : decide (t = t') = false := decide_eq_false (fun e => h (by rw [e]; exact ⟨rfl, rfl, rfl⟩))
set_option maxRecDepth 100000 in
set_option maxHeartbeats 4000000 in
theorem same1_any (sv sv' : Value) (t t' : TxnM) (w : World) (hs : OpsS w sv t.2.2) (hs' : OpsS w sv' t'.2.2) (hl : t.2.2.length ≤ 1000) (hl' : t'.2.2.length ≤ 1000) :
    Calls Tryd.prog 54 #[.agg #[.int .i64 t.1, .int .i64 t.2.1, sv], .agg #[.int .i64 t'.1, .int .i64 t'.2.1, sv']] w fun e w' => e = .returned (.bool (decide (t = t'))) ∧ Below w.heap.size w w' := by
  have HC := Lib.hid (fun w' (hb : Below w.heap.size w w') => eqo_any sv sv' t.2.2 t'.2.2 w' (hs.below hb) (hs'.below hb) (by omega) (by omega))
  obtain ⟨p, c, rfl, -⟩ := hs
  obtain ⟨p', c', rfl, -⟩ := hs'
  obtain ⟨s, f, l⟩ := t
  obtain ⟨s', f', l'⟩ := t'
  simp only at HC hl hl' ⊢
  have hb0 : Below w.heap.size w ((w.alloc (.cells #[.int .i64 s, .int .i64 f, .slice p l.length c] 56)).alloc (.cells #[.int .i64 s', .int .i64 f', .slice p' l'.length c'] 56)) := ((Below.refl _ w).alloc (Nat.le_refl _) _).alloc (by simp) _
  have HB0 := Lib.hid hb0
  clear hb0
  go_enter Tryd.func54, Tryd.ntmps54
  by_cases h1 : s = s'
  · subst h1
    by_cases h2 : f = f'
    · subst h2
      have HE : RowKit.Hid (decide ((s, f, l) = (s, f, l')) = decide (l = l')) := Lib.hid (by simp)
      rw [HE.out]
      go_wp2_with (fail)
      go_at_call 55
      refine (HC.out _ HB0.out).mono ?_
      rintro e w8 ⟨rfl, hb8⟩
      go_wp2_with fail
      go_ret
      exact ⟨rfl, HB0.out.trans (hb8.mono (by simp; omega))⟩
    · have HE := Lib.hid (txn_not (s, f, l) (s, f', l') (fun e => h2 e.2.1))
      rw [HE.out]
      have h3 := beq_eq_false_iff_ne.2 h2
      go_wp2_with (fail)
      go_ret
      exact ⟨rfl, HB0.out⟩
  · have HE := Lib.hid (txn_not (s, f, l) (s', f', l') (fun e => h1 e.1))
    rw [HE.out]
    have h3 := beq_eq_false_iff_ne.2 h1
    go_wp2_with (fail)
    go_ret
    exact ⟨rfl, HB0.out⟩

set_option maxRecDepth 100000 in
set_option maxHeartbeats 4000000 in
theorem eqfunc_any (v v' : Value) (L M : List TxnM) (w : World) (hv : TxnsS w v L) (hv' : TxnsS w v' M) (hl : L.length ≤ 1000) (_ : M.length ≤ 1000) (hlo : ∀ t ∈ L, t.2.2.length ≤ 1000) (hmo : ∀ t ∈ M, t.2.2.length ≤ 1000) :
    Calls Tryd.prog 53 #[v, v', .func (.func 54) #[] #[]] w fun e w' => e = .returned (.bool (decide (L = M))) ∧ Below w.heap.size w w' := by
  obtain ⟨p, c, rfl, hp⟩ := hv
  obtain ⟨q, d, rfl, hq⟩ := hv'
  have HP := Lib.hid hp
  have HQ := Lib.hid hq
  have HLo := Lib.hid hlo
  have HMo := Lib.hid hmo
  clear hp hq hlo hmo
  have en := enters_of Tryd.func54 (by kernel_rfl) rfl
  go_enter Tryd.func53, Tryd.ntmps53
  by_cases hlm : L.length = M.length
  · have hlmi : ((L.length : Nat) : Int) = ((M.length : Nat) : Int) := by omega
    have HLM := Lib.hid hlm
    clear hlm
    go_wp2_with fail
    go_loopw [17] (fun i wr => ∃ k : Nat, k ≤ L.length ∧ i = .int .i64 k ∧ (∀ j, j < k → L.getD j noTxn = M.getD j noTxn) ∧ Below w.heap.size w wr) (fun i _ => L.length - (RowKit.intOf i).toNat)
    case atStart => exact ⟨0, Nat.zero_le _, rfl, fun j hj => absurd hj (Nat.not_lt_zero j), Below.refl _ _⟩
    case round =>
      obtain ⟨k, hk, rfl, heq, hbw⟩ := hrel
      have HEq := Lib.hid heq
      clear heq
      by_cases hk1 : k < L.length
      · have hk2 : k < M.length := by rw [← HLM.out]; exact hk1
        obtain ⟨g, sv, rfl, a1, a2, a3, a4⟩ := HP.out k hk1
        obtain ⟨g', sv', rfl, b1, b2, b3, b4⟩ := HQ.out k hk2
        have a1' := cell_later hbw a1
        have a2' := cell_later hbw a2
        have a3' := cell_later hbw a3
        have b1' := cell_later hbw b1
        have b2' := cell_later hbw b2
        have b3' := cell_later hbw b3
        have hg0 : g < wr.heap.size := World.block_lt_of_cell? wr _ a1'
        have hg1 : g' < wr.heap.size := World.block_lt_of_cell? wr _ b1'
        have hg2 : ¬ (g' = wr.heap.size) := by omega
        have hg3 : ¬ (wr.heap.size = g') := by omega
        have hx1 : (L.getD k noTxn).2.2.length ≤ 1000 := HLo.out _ (by simp [hk1])
        have hx2 : (M.getD k noTxn).2.2.length ≤ 1000 := HMo.out _ (by simp [hk2])
        have HM := Lib.hid (fun w' (hb : Below wr.heap.size wr w') => (same1_any sv sv' (L.getD k noTxn) (M.getD k noTxn) w' (a4.below (below_next hbw hb)) (b4.below (below_next hbw hb)) hx1 hx2).mono (fun e w'' (h : e = _ ∧ Below w'.heap.size w' w'') => (⟨h.1, below_next hb h.2⟩ : e = .returned (.bool (decide (L.getD k noTxn = M.getD k noTxn))) ∧ Below wr.heap.size wr w'')))
        have HK : RowKit.Hid (decide (L.getD k noTxn = M.getD k noTxn) = true → ∀ j, j < k + 1 → L.getD j noTxn = M.getD j noTxn) := Lib.hid (fun h0 j hj => by
          by_cases h : j = k
          · subst h; exact of_decide_eq_true h0
          · exact HEq.out j (by omega))
        have HN : RowKit.Hid (decide (L.getD k noTxn = M.getD k noTxn) = false → decide (L = M) = false) := Lib.hid (fun h0 => decide_eq_false (list_not (d := noTxn) (of_decide_eq_false h0)))
        generalize decide (L.getD k noTxn = M.getD k noTxn) = b at *
        generalize L.getD k noTxn = x at *
        generalize M.getD k noTxn = y at *
        obtain ⟨x1, x2, x3⟩ := x
        obtain ⟨y1, y2, y3⟩ := y
        obtain ⟨sp, sc, rfl, -⟩ := a4
        obtain ⟨sp', sc', rfl, -⟩ := b4
        simp only at HM a1' a2' a3' b1' b2' b3' hx1 hx2
        clear a1 a2 a3 b1 b2 b3 HP HQ HEq HLo HMo
        cases b with
        | false =>
          have HNo := Lib.hid (HN.out rfl)
          clear HN HK
          go_wp2_with (first | (go_at_call 54; refine (HM.out _ (by (repeat' (first | (with_reducible exact Below.refl _ _) | (with_reducible assumption) | (refine below_next ?_ (by with_reducible assumption)) | (with_reducible refine Below.alloc ?_ ?_ _) | (with_reducible refine Below.drew ?_) | (with_reducible refine below_drewN ?_ _) | omega | (simp; done) | (simp; omega))))).mono ?_; rintro e w1 ⟨rfl, hb1⟩))
          go_ret
          exact ⟨by rw [HNo.out]; rfl, below_next hbw hb1⟩
        | true =>
          have HYe := Lib.hid (HK.out rfl)
          clear HN HK
          go_wp2_with (first | (go_at_call 54; refine (HM.out _ (by (repeat' (first | (with_reducible exact Below.refl _ _) | (with_reducible assumption) | (refine below_next ?_ (by with_reducible assumption)) | (with_reducible refine Below.alloc ?_ ?_ _) | (with_reducible refine Below.drew ?_) | (with_reducible refine below_drewN ?_ _) | omega | (simp; done) | (simp; omega))))).mono ?_; rintro e w1 ⟨rfl, hb1⟩))
          go_roundw
          case rel => exact ⟨k + 1, by omega, by go_num, HYe.out, below_next hbw hb1⟩
          case measure => simp [RowKit.intOf]; omega
      · have hke : k = L.length := by omega
        subst hke
        have HLL := Lib.hid (list_same noTxn L M HLM.out HEq.out)
        go_wp2_with fail
        go_ret
        exact ⟨by rw [decide_eq_true HLL.out]; rfl, hbw⟩
  · have HNe := Lib.hid (len_not hlm)
    have hlmi : ¬ (((L.length : Nat) : Int) = ((M.length : Nat) : Int)) := by omega
    go_wp2_with fail
    go_ret
    exact ⟨by rw [decide_eq_false HNe.out]; rfl, Below.refl _ _⟩
end Go.Proofs.YthalbcmlehpfaaaDoor

namespace Go.Proofs.YthalbcmlehpfaaaDoor
open Go.RowKit Go.Lib

def sameH (a b : HistM) : Bool := mayH a && (mayH b && (decide (a.1 = b.1) && (decide (a.2.1 = b.2.1) && decide (a.2.2 = b.2.2))))
set_option maxRecDepth 100000 in
set_option maxHeartbeats 4000000 in
theorem hsame_any (va0 va1 va2 vb0 vb1 vb2 : Value) (ha hb : HistM) (w : World) (a0 : Texts w va0 ha.1) (a1 : Texts w va1 ha.2.1) (a2 : TxnsS w va2 ha.2.2) (ma : Modst ha) (b0 : Texts w vb0 hb.1) (b1 : Texts w vb1 hb.2.1) (b2 : TxnsS w vb2 hb.2.2) (mb : Modst hb) (hT : Lib.Utf8Tabs 0 1 w) :
    Calls Tryd.prog 24 #[.agg #[va0, va1, va2], .agg #[vb0, vb1, vb2]] w fun e w' => e = .returned (.bool (sameH ha hb)) ∧ Below w.heap.size w w' := by
  have HMa := Lib.hid (fun w' (h : Below w.heap.size w w') => (hmay_any va0 va1 va2 ha w' (a0.below h) (a1.below h) (a2.below h) ma (Utf8Tabs_below hT h)))
  have HMb := Lib.hid (fun w' (h : Below w.heap.size w w') => (hmay_any vb0 vb1 vb2 hb w' (b0.below h) (b1.below h) (b2.below h) mb (Utf8Tabs_below hT h)))
  have HE0 := Lib.hid (fun w' (h : Below w.heap.size w w') => (eqs_any va0 vb0 ha.1 hb.1 w' (a0.below h) (b0.below h) (by have := ma.1; omega) (by have := mb.1; omega)))
  have HE1 := Lib.hid (fun w' (h : Below w.heap.size w w') => (eqs_any va1 vb1 ha.2.1 hb.2.1 w' (a1.below h) (b1.below h) (by have := ma.2.1; omega) (by have := mb.2.1; omega)))
  have HE2 := Lib.hid (fun w' (h : Below w.heap.size w w') => (eqfunc_any va2 vb2 ha.2.2 hb.2.2 w' (a2.below h) (b2.below h) ma.2.2.1 mb.2.2.1 ma.2.2.2.2.2 mb.2.2.2.2.2))
  obtain ⟨p0, c0, rfl, -⟩ := a0
  obtain ⟨p1, c1, rfl, -⟩ := a1
  obtain ⟨p2, c2, rfl, -⟩ := a2
  obtain ⟨q0, d0, rfl, -⟩ := b0
  obtain ⟨q1, d1, rfl, -⟩ := b1
  obtain ⟨q2, d2, rfl, -⟩ := b2
  have HS : RowKit.Hid (sameH ha hb = (mayH ha && (mayH hb && (decide (ha.1 = hb.1) && (decide (ha.2.1 = hb.2.1) && decide (ha.2.2 = hb.2.2)))))) := Lib.hid rfl
  generalize sameH ha hb = R at *
  generalize decide (ha.1 = hb.1) = e0 at *
  generalize decide (ha.2.1 = hb.2.1) = e1 at *
  generalize decide (ha.2.2 = hb.2.2) = e2 at *
  clear hT
  go_enter Tryd.func24, Tryd.ntmps24
  cases hmm : mayH ha with
  | false =>
    have HE := err_no hmm
    rw [HE] at HMa
    rw [hmm] at HS
    clear HE hmm
    have HR : RowKit.Hid (R = false) := Lib.hid HS.out
    clear HS
    go_wp2_with (fail)
    refine (HMa.out _ (by (repeat' (first | (with_reducible exact Below.refl _ _) | (with_reducible assumption) | (refine below_next ?_ (by with_reducible assumption)) | (with_reducible refine Below.alloc ?_ ?_ _) | (with_reducible refine Below.drew ?_) | (with_reducible refine below_drewN ?_ _) | omega | (simp; done) | (simp; omega))))).mono ?_
    rintro e w3 ⟨rfl, hb3⟩
    obtain ⟨hc3, hf3⟩ := bcell hb3
    have hz3 := hb3.size
    try simp at hz3
    have g3 : w.heap.size < w3.heap.size := by omega
    have k3 : w.heap.size + 1 < w3.heap.size := by omega
    go_wp2_with fail
    go_ret
    exact ⟨by rw [HR.out]; rfl, by (repeat' (first | (with_reducible exact Below.refl _ _) | (with_reducible assumption) | (refine below_next ?_ (by with_reducible assumption)) | (with_reducible refine Below.alloc ?_ ?_ _) | (with_reducible refine Below.drew ?_) | (with_reducible refine below_drewN ?_ _) | omega | (simp; done) | (simp; omega)))⟩
  | true =>
    have HE := err_yes hmm
    rw [HE] at HMa
    rw [hmm] at HS
    clear HE hmm
    cases hmm : mayH hb with
    | false =>
      have HE := err_no hmm
      rw [HE] at HMb
      rw [hmm] at HS
      clear HE hmm
      have HR : RowKit.Hid (R = false) := Lib.hid HS.out
      clear HS
      go_wp2_with (fail)
      refine (HMa.out _ (by (repeat' (first | (with_reducible exact Below.refl _ _) | (with_reducible assumption) | (refine below_next ?_ (by with_reducible assumption)) | (with_reducible refine Below.alloc ?_ ?_ _) | (with_reducible refine Below.drew ?_) | (with_reducible refine below_drewN ?_ _) | omega | (simp; done) | (simp; omega))))).mono ?_
      rintro e w3 ⟨rfl, hb3⟩
      obtain ⟨hc3, hf3⟩ := bcell hb3
      have hz3 := hb3.size
      try simp at hz3
      have g3 : w.heap.size < w3.heap.size := by omega
      have k3 : w.heap.size + 1 < w3.heap.size := by omega
      go_wp2_with (fail)
      refine (HMb.out _ (by (repeat' (first | (with_reducible exact Below.refl _ _) | (with_reducible assumption) | (refine below_next ?_ (by with_reducible assumption)) | (with_reducible refine Below.alloc ?_ ?_ _) | (with_reducible refine Below.drew ?_) | (with_reducible refine below_drewN ?_ _) | omega | (simp; done) | (simp; omega))))).mono ?_
      rintro e w4 ⟨rfl, hb4⟩
      obtain ⟨hc4, hf4⟩ := bcell hb4
      have hz4 := hb4.size
      try simp at hz4
      have g4 : w.heap.size < w4.heap.size := by omega
      have k4 : w.heap.size + 1 < w4.heap.size := by omega
      go_wp2_with fail
      go_ret
      exact ⟨by rw [HR.out]; rfl, by (repeat' (first | (with_reducible exact Below.refl _ _) | (with_reducible assumption) | (refine below_next ?_ (by with_reducible assumption)) | (with_reducible refine Below.alloc ?_ ?_ _) | (with_reducible refine Below.drew ?_) | (with_reducible refine below_drewN ?_ _) | omega | (simp; done) | (simp; omega)))⟩
    | true =>
      have HE := err_yes hmm
      rw [HE] at HMb
      rw [hmm] at HS
      clear HE hmm
      cases e0 with
      | false =>
        have HR : RowKit.Hid (R = false) := Lib.hid HS.out
        clear HS
        go_wp2_with (fail)
        refine (HMa.out _ (by (repeat' (first | (with_reducible exact Below.refl _ _) | (with_reducible assumption) | (refine below_next ?_ (by with_reducible assumption)) | (with_reducible refine Below.alloc ?_ ?_ _) | (with_reducible refine Below.drew ?_) | (with_reducible refine below_drewN ?_ _) | omega | (simp; done) | (simp; omega))))).mono ?_
        rintro e w3 ⟨rfl, hb3⟩
        obtain ⟨hc3, hf3⟩ := bcell hb3
        have hz3 := hb3.size
        try simp at hz3
        have g3 : w.heap.size < w3.heap.size := by omega
        have k3 : w.heap.size + 1 < w3.heap.size := by omega
        go_wp2_with (fail)
        refine (HMb.out _ (by (repeat' (first | (with_reducible exact Below.refl _ _) | (with_reducible assumption) | (refine below_next ?_ (by with_reducible assumption)) | (with_reducible refine Below.alloc ?_ ?_ _) | (with_reducible refine Below.drew ?_) | (with_reducible refine below_drewN ?_ _) | omega | (simp; done) | (simp; omega))))).mono ?_
        rintro e w4 ⟨rfl, hb4⟩
        obtain ⟨hc4, hf4⟩ := bcell hb4
        have hz4 := hb4.size
        try simp at hz4
        have g4 : w.heap.size < w4.heap.size := by omega
        have k4 : w.heap.size + 1 < w4.heap.size := by omega
        go_wp2_with (fail)
        refine (HE0.out _ (by (repeat' (first | (with_reducible exact Below.refl _ _) | (with_reducible assumption) | (refine below_next ?_ (by with_reducible assumption)) | (with_reducible refine Below.alloc ?_ ?_ _) | (with_reducible refine Below.drew ?_) | (with_reducible refine below_drewN ?_ _) | omega | (simp; done) | (simp; omega))))).mono ?_
        rintro e w5 ⟨rfl, hb5⟩
        obtain ⟨hc5, hf5⟩ := bcell hb5
        have hz5 := hb5.size
        try simp at hz5
        have g5 : w.heap.size < w5.heap.size := by omega
        have k5 : w.heap.size + 1 < w5.heap.size := by omega
        go_wp2_with fail
        go_ret
        exact ⟨by rw [HR.out]; rfl, by (repeat' (first | (with_reducible exact Below.refl _ _) | (with_reducible assumption) | (refine below_next ?_ (by with_reducible assumption)) | (with_reducible refine Below.alloc ?_ ?_ _) | (with_reducible refine Below.drew ?_) | (with_reducible refine below_drewN ?_ _) | omega | (simp; done) | (simp; omega)))⟩
      | true =>
        cases e1 with
        | false =>
          have HR : RowKit.Hid (R = false) := Lib.hid HS.out
          clear HS
          go_wp2_with (fail)
          refine (HMa.out _ (by (repeat' (first | (with_reducible exact Below.refl _ _) | (with_reducible assumption) | (refine below_next ?_ (by with_reducible assumption)) | (with_reducible refine Below.alloc ?_ ?_ _) | (with_reducible refine Below.drew ?_) | (with_reducible refine below_drewN ?_ _) | omega | (simp; done) | (simp; omega))))).mono ?_
          rintro e w3 ⟨rfl, hb3⟩
          obtain ⟨hc3, hf3⟩ := bcell hb3
          have hz3 := hb3.size
          try simp at hz3
          have g3 : w.heap.size < w3.heap.size := by omega
          have k3 : w.heap.size + 1 < w3.heap.size := by omega
          go_wp2_with (fail)
          refine (HMb.out _ (by (repeat' (first | (with_reducible exact Below.refl _ _) | (with_reducible assumption) | (refine below_next ?_ (by with_reducible assumption)) | (with_reducible refine Below.alloc ?_ ?_ _) | (with_reducible refine Below.drew ?_) | (with_reducible refine below_drewN ?_ _) | omega | (simp; done) | (simp; omega))))).mono ?_
          rintro e w4 ⟨rfl, hb4⟩
          obtain ⟨hc4, hf4⟩ := bcell hb4
          have hz4 := hb4.size
          try simp at hz4
          have g4 : w.heap.size < w4.heap.size := by omega
          have k4 : w.heap.size + 1 < w4.heap.size := by omega
          go_wp2_with (fail)
          refine (HE0.out _ (by (repeat' (first | (with_reducible exact Below.refl _ _) | (with_reducible assumption) | (refine below_next ?_ (by with_reducible assumption)) | (with_reducible refine Below.alloc ?_ ?_ _) | (with_reducible refine Below.drew ?_) | (with_reducible refine below_drewN ?_ _) | omega | (simp; done) | (simp; omega))))).mono ?_
          rintro e w5 ⟨rfl, hb5⟩
          obtain ⟨hc5, hf5⟩ := bcell hb5
          have hz5 := hb5.size
          try simp at hz5
          have g5 : w.heap.size < w5.heap.size := by omega
          have k5 : w.heap.size + 1 < w5.heap.size := by omega
          go_wp2_with (fail)
          refine (HE1.out _ (by (repeat' (first | (with_reducible exact Below.refl _ _) | (with_reducible assumption) | (refine below_next ?_ (by with_reducible assumption)) | (with_reducible refine Below.alloc ?_ ?_ _) | (with_reducible refine Below.drew ?_) | (with_reducible refine below_drewN ?_ _) | omega | (simp; done) | (simp; omega))))).mono ?_
          rintro e w6 ⟨rfl, hb6⟩
          obtain ⟨hc6, hf6⟩ := bcell hb6
          have hz6 := hb6.size
          try simp at hz6
          have g6 : w.heap.size < w6.heap.size := by omega
          have k6 : w.heap.size + 1 < w6.heap.size := by omega
          go_wp2_with fail
          go_ret
          exact ⟨by rw [HR.out]; rfl, by (repeat' (first | (with_reducible exact Below.refl _ _) | (with_reducible assumption) | (refine below_next ?_ (by with_reducible assumption)) | (with_reducible refine Below.alloc ?_ ?_ _) | (with_reducible refine Below.drew ?_) | (with_reducible refine below_drewN ?_ _) | omega | (simp; done) | (simp; omega)))⟩
        | true =>
          have HR : RowKit.Hid (R = e2) := Lib.hid HS.out
          clear HS
          go_wp2_with (fail)
          refine (HMa.out _ (by (repeat' (first | (with_reducible exact Below.refl _ _) | (with_reducible assumption) | (refine below_next ?_ (by with_reducible assumption)) | (with_reducible refine Below.alloc ?_ ?_ _) | (with_reducible refine Below.drew ?_) | (with_reducible refine below_drewN ?_ _) | omega | (simp; done) | (simp; omega))))).mono ?_
          rintro e w3 ⟨rfl, hb3⟩
          obtain ⟨hc3, hf3⟩ := bcell hb3
          have hz3 := hb3.size
          try simp at hz3
          have g3 : w.heap.size < w3.heap.size := by omega
          have k3 : w.heap.size + 1 < w3.heap.size := by omega
          go_wp2_with (fail)
          refine (HMb.out _ (by (repeat' (first | (with_reducible exact Below.refl _ _) | (with_reducible assumption) | (refine below_next ?_ (by with_reducible assumption)) | (with_reducible refine Below.alloc ?_ ?_ _) | (with_reducible refine Below.drew ?_) | (with_reducible refine below_drewN ?_ _) | omega | (simp; done) | (simp; omega))))).mono ?_
          rintro e w4 ⟨rfl, hb4⟩
          obtain ⟨hc4, hf4⟩ := bcell hb4
          have hz4 := hb4.size
          try simp at hz4
          have g4 : w.heap.size < w4.heap.size := by omega
          have k4 : w.heap.size + 1 < w4.heap.size := by omega
          go_wp2_with (fail)
          refine (HE0.out _ (by (repeat' (first | (with_reducible exact Below.refl _ _) | (with_reducible assumption) | (refine below_next ?_ (by with_reducible assumption)) | (with_reducible refine Below.alloc ?_ ?_ _) | (with_reducible refine Below.drew ?_) | (with_reducible refine below_drewN ?_ _) | omega | (simp; done) | (simp; omega))))).mono ?_
          rintro e w5 ⟨rfl, hb5⟩
          obtain ⟨hc5, hf5⟩ := bcell hb5
          have hz5 := hb5.size
          try simp at hz5
          have g5 : w.heap.size < w5.heap.size := by omega
          have k5 : w.heap.size + 1 < w5.heap.size := by omega
          go_wp2_with (fail)
          refine (HE1.out _ (by (repeat' (first | (with_reducible exact Below.refl _ _) | (with_reducible assumption) | (refine below_next ?_ (by with_reducible assumption)) | (with_reducible refine Below.alloc ?_ ?_ _) | (with_reducible refine Below.drew ?_) | (with_reducible refine below_drewN ?_ _) | omega | (simp; done) | (simp; omega))))).mono ?_
          rintro e w6 ⟨rfl, hb6⟩
          obtain ⟨hc6, hf6⟩ := bcell hb6
          have hz6 := hb6.size
          try simp at hz6
          have g6 : w.heap.size < w6.heap.size := by omega
          have k6 : w.heap.size + 1 < w6.heap.size := by omega
          go_wp2_with (fail)
          refine (HE2.out _ (by (repeat' (first | (with_reducible exact Below.refl _ _) | (with_reducible assumption) | (refine below_next ?_ (by with_reducible assumption)) | (with_reducible refine Below.alloc ?_ ?_ _) | (with_reducible refine Below.drew ?_) | (with_reducible refine below_drewN ?_ _) | omega | (simp; done) | (simp; omega))))).mono ?_
          rintro e w7 ⟨rfl, hb7⟩
          obtain ⟨hc7, hf7⟩ := bcell hb7
          have hz7 := hb7.size
          try simp at hz7
          have g7 : w.heap.size < w7.heap.size := by omega
          have k7 : w.heap.size + 1 < w7.heap.size := by omega
          go_wp2_with fail
          go_ret
          exact ⟨by rw [HR.out]; rfl, by (repeat' (first | (with_reducible exact Below.refl _ _) | (with_reducible assumption) | (refine below_next ?_ (by with_reducible assumption)) | (with_reducible refine Below.alloc ?_ ?_ _) | (with_reducible refine Below.drew ?_) | (with_reducible refine below_drewN ?_ _) | omega | (simp; done) | (simp; omega)))⟩
end Go.Proofs.YthalbcmlehpfaaaDoor

namespace Go.Proofs.YthalbcmlehpfaaaDoor
open Go.RowKit Go.Lib
attribute [local go_sem] Later.cell Later.frozen

def eqH (a b : HistM) : Bool := decide (a.1 = b.1) && (decide (a.2.1 = b.2.1) && decide (a.2.2 = b.2.2))
set_option maxRecDepth 100000 in
set_option maxHeartbeats 4000000 in
theorem rsame10_any (va0 va1 va2 vb0 vb1 vb2 : Value) (ha hb : HistM) (w : World) (a0 : Texts w va0 ha.1) (a1 : Texts w va1 ha.2.1) (a2 : TxnsS w va2 ha.2.2) (ma : Modst ha) (b0 : Texts w vb0 hb.1) (b1 : Texts w vb1 hb.2.1) (b2 : TxnsS w vb2 hb.2.2) (mb : Modst hb) :
    Calls Tryd.prog 56 #[.agg #[va0, va1, va2], .agg #[vb0, vb1, vb2]] w fun e w' => e = .returned (.bool (eqH ha hb)) ∧ Below w.heap.size w w' := by
  have HC0 := Lib.hid (fun w' (h : Below w.heap.size w w') => (rtexts_any va0 vb0 ha.1 hb.1 w' (a0.below h) (b0.below h) (by have := ma.1; omega) (by have := mb.1; omega)))
  have HC1 := Lib.hid (fun w' (h : Below w.heap.size w w') => (rtexts_any va1 vb1 ha.2.1 hb.2.1 w' (a1.below h) (b1.below h) (by have := ma.2.1; omega) (by have := mb.2.1; omega)))
  obtain ⟨p0, c0, rfl, -⟩ := a0
  obtain ⟨p1, c1, rfl, -⟩ := a1
  obtain ⟨p2, c2, rfl, hp⟩ := a2
  obtain ⟨q0, d0, rfl, -⟩ := b0
  obtain ⟨q1, d1, rfl, -⟩ := b1
  obtain ⟨q2, d2, rfl, hq⟩ := b2
  have HP := Lib.hid hp
  have HQ := Lib.hid hq
  have ml : ha.2.2.length ≤ 1000 := ma.2.2.1
  have ml' : hb.2.2.length ≤ 1000 := mb.2.2.1
  have HS : RowKit.Hid (eqH ha hb = (decide (ha.1 = hb.1) && (decide (ha.2.1 = hb.2.1) && decide (ha.2.2 = hb.2.2)))) := Lib.hid rfl
  generalize eqH ha hb = R at *
  generalize decide (ha.1 = hb.1) = e0 at *
  generalize decide (ha.2.1 = hb.2.1) = e1 at *
  clear hp hq
  go_enter Tryd.func56, Tryd.ntmps56
  cases e0 with
  | false =>
    have HR : RowKit.Hid (R = false) := Lib.hid HS.out
    clear HS
    go_wp2_with (fail)
    refine (HC0.out _ (by (repeat' (first | (with_reducible exact Below.refl _ _) | (with_reducible assumption) | (refine below_next ?_ (by with_reducible assumption)) | (with_reducible refine Below.alloc ?_ ?_ _) | (with_reducible refine Below.drew ?_) | (with_reducible refine below_drewN ?_ _) | omega | (simp; done) | (simp; omega))))).mono ?_
    rintro e w3 ⟨rfl, hb3⟩
    obtain ⟨hc3, hf3⟩ := bcell hb3
    have hz3 := hb3.size
    try simp at hz3
    have g3 : w.heap.size < w3.heap.size := by omega
    have k3 : w.heap.size + 1 < w3.heap.size := by omega
    go_wp2_with fail
    go_ret
    exact ⟨by rw [HR.out]; rfl, by (repeat' (first | (with_reducible exact Below.refl _ _) | (with_reducible assumption) | (refine below_next ?_ (by with_reducible assumption)) | (with_reducible refine Below.alloc ?_ ?_ _) | (with_reducible refine Below.drew ?_) | (with_reducible refine below_drewN ?_ _) | omega | (simp; done) | (simp; omega)))⟩
  | true =>
    cases e1 with
    | false =>
      have HR : RowKit.Hid (R = false) := Lib.hid HS.out
      clear HS
      go_wp2_with (fail)
      refine (HC0.out _ (by (repeat' (first | (with_reducible exact Below.refl _ _) | (with_reducible assumption) | (refine below_next ?_ (by with_reducible assumption)) | (with_reducible refine Below.alloc ?_ ?_ _) | (with_reducible refine Below.drew ?_) | (with_reducible refine below_drewN ?_ _) | omega | (simp; done) | (simp; omega))))).mono ?_
      rintro e w3 ⟨rfl, hb3⟩
      obtain ⟨hc3, hf3⟩ := bcell hb3
      have hz3 := hb3.size
      try simp at hz3
      have g3 : w.heap.size < w3.heap.size := by omega
      have k3 : w.heap.size + 1 < w3.heap.size := by omega
      go_wp2_with (fail)
      refine (HC1.out _ (by (repeat' (first | (with_reducible exact Below.refl _ _) | (with_reducible assumption) | (refine below_next ?_ (by with_reducible assumption)) | (with_reducible refine Below.alloc ?_ ?_ _) | (with_reducible refine Below.drew ?_) | (with_reducible refine below_drewN ?_ _) | omega | (simp; done) | (simp; omega))))).mono ?_
      rintro e w4 ⟨rfl, hb4⟩
      obtain ⟨hc4, hf4⟩ := bcell hb4
      have hz4 := hb4.size
      try simp at hz4
      have g4 : w.heap.size < w4.heap.size := by omega
      have k4 : w.heap.size + 1 < w4.heap.size := by omega
      go_wp2_with fail
      go_ret
      exact ⟨by rw [HR.out]; rfl, by (repeat' (first | (with_reducible exact Below.refl _ _) | (with_reducible assumption) | (refine below_next ?_ (by with_reducible assumption)) | (with_reducible refine Below.alloc ?_ ?_ _) | (with_reducible refine Below.drew ?_) | (with_reducible refine below_drewN ?_ _) | omega | (simp; done) | (simp; omega)))⟩
    | true =>
      have HR : RowKit.Hid (R = decide (ha.2.2 = hb.2.2)) := Lib.hid HS.out
      clear HS
      go_wp2_with (fail)
      refine (HC0.out _ (by (repeat' (first | (with_reducible exact Below.refl _ _) | (with_reducible assumption) | (refine below_next ?_ (by with_reducible assumption)) | (with_reducible refine Below.alloc ?_ ?_ _) | (with_reducible refine Below.drew ?_) | (with_reducible refine below_drewN ?_ _) | omega | (simp; done) | (simp; omega))))).mono ?_
      rintro e w3 ⟨rfl, hb3⟩
      obtain ⟨hc3, hf3⟩ := bcell hb3
      have hz3 := hb3.size
      try simp at hz3
      have g3 : w.heap.size < w3.heap.size := by omega
      have k3 : w.heap.size + 1 < w3.heap.size := by omega
      go_wp2_with (fail)
      refine (HC1.out _ (by (repeat' (first | (with_reducible exact Below.refl _ _) | (with_reducible assumption) | (refine below_next ?_ (by with_reducible assumption)) | (with_reducible refine Below.alloc ?_ ?_ _) | (with_reducible refine Below.drew ?_) | (with_reducible refine below_drewN ?_ _) | omega | (simp; done) | (simp; omega))))).mono ?_
      rintro e w4 ⟨rfl, hb4⟩
      obtain ⟨hc4, hf4⟩ := bcell hb4
      have hz4 := hb4.size
      try simp at hz4
      have g4 : w.heap.size < w4.heap.size := by omega
      have k4 : w.heap.size + 1 < w4.heap.size := by omega
      by_cases hlm : ha.2.2.length = hb.2.2.length
      · have hlmi : ((ha.2.2.length : Nat) : Int) = ((hb.2.2.length : Nat) : Int) := by omega
        have HLM := Lib.hid hlm
        have x2 := cell_later hb4 (cell_later hb3 (show World.cell? _ ⟨w.heap.size, 2, none⟩ = some (Value.slice p2 ha.2.2.length c2) from by go_simp))
        have y2 := cell_later hb4 (cell_later hb3 (show World.cell? _ ⟨w.heap.size + 1, 2, none⟩ = some (Value.slice q2 hb.2.2.length d2) from by go_simp))
        have hbx : Below w.heap.size w w4 := by (repeat' (first | (with_reducible exact Below.refl _ _) | (with_reducible assumption) | (refine below_next ?_ (by with_reducible assumption)) | (with_reducible refine Below.alloc ?_ ?_ _) | (with_reducible refine Below.drew ?_) | (with_reducible refine below_drewN ?_ _) | omega | (simp; done) | (simp; omega)))
        have HBX := Lib.hid hbx
        have g5 : w.heap.size < w4.heap.size := by omega
        have k5 : w.heap.size + 1 < w4.heap.size := by omega
        clear hlm hbx
        go_wp2_with fail
        go_loopw [5] (fun i wr => ∃ k : Nat, k ≤ ha.2.2.length ∧ i = .int .i64 k ∧ (∀ j, j < k → ha.2.2.getD j noTxn = hb.2.2.getD j noTxn) ∧ Below w4.heap.size w4 wr) (fun i _ => ha.2.2.length - (RowKit.intOf i).toNat)
        case atStart => exact ⟨0, Nat.zero_le _, rfl, fun j hj => absurd hj (Nat.not_lt_zero j), Below.refl _ _⟩
        case round =>
          obtain ⟨k, hk, rfl, heq, hbw⟩ := hrel
          have HEq := Lib.hid heq
          clear heq
          have x2' := cell_later hbw x2
          have y2' := cell_later hbw y2
          have hbwx := below_next HBX.out hbw
          by_cases hk1 : k < ha.2.2.length
          · have hk2 : k < hb.2.2.length := by rw [← HLM.out]; exact hk1
            have HWr := Lib.hid (show IntKind.i64.wrap ((k : Int) + 1) = (k : Int) + 1 from IntWalk.i64_in _ (by omega))
            obtain ⟨g, sv, rfl, a1, a2, a3, a4⟩ := HP.out k hk1
            obtain ⟨g', sv', rfl, b1, b2, b3, b4⟩ := HQ.out k hk2
            have a1' := cell_later hbwx a1
            have a2' := cell_later hbwx a2
            have a3' := cell_later hbwx a3
            have b1' := cell_later hbwx b1
            have b2' := cell_later hbwx b2
            have b3' := cell_later hbwx b3
            have hg0 : g < wr.heap.size := World.block_lt_of_cell? wr _ a1'
            have hg1 : g' < wr.heap.size := World.block_lt_of_cell? wr _ b1'
            have hg2 : w.heap.size < wr.heap.size := World.block_lt_of_cell? wr _ x2'
            have hg3 : w.heap.size + 1 < wr.heap.size := World.block_lt_of_cell? wr _ y2'
            have hx1 : (ha.2.2.getD k noTxn).2.2.length ≤ 1000 := ma.2.2.2.2.2 _ (by simp [hk1])
            have hx2 : (hb.2.2.getD k noTxn).2.2.length ≤ 1000 := mb.2.2.2.2.2 _ (by simp [hk2])
            have HC := Lib.hid (fun w' (h : Below wr.heap.size wr w') => rsameops_any sv sv' (ha.2.2.getD k noTxn).2.2 (hb.2.2.getD k noTxn).2.2 w' (a4.below (below_next hbwx h)) (b4.below (below_next hbwx h)) (by omega) (by omega))
            have HK : RowKit.Hid (ha.2.2.getD k noTxn = hb.2.2.getD k noTxn → ∀ j, j < k + 1 → ha.2.2.getD j noTxn = hb.2.2.getD j noTxn) := Lib.hid (fun h0 j hj => by
              by_cases h : j = k
              · subst h; exact h0
              · exact HEq.out j (by omega))
            have HN : RowKit.Hid (ha.2.2.getD k noTxn ≠ hb.2.2.getD k noTxn → decide (ha.2.2 = hb.2.2) = false) := Lib.hid (fun h0 => decide_eq_false (list_not (d := noTxn) h0))
            generalize ha.2.2.getD k noTxn = x at *
            generalize hb.2.2.getD k noTxn = y at *
            obtain ⟨s, f, l⟩ := x
            obtain ⟨s', f', l'⟩ := y
            obtain ⟨sp, sc, rfl, -⟩ := a4
            obtain ⟨sp', sc', rfl, -⟩ := b4
            simp only at HC a1' a2' a3' b1' b2' b3' hx1 hx2
            clear a1 a2 a3 b1 b2 b3 HP HQ HEq x2 y2 hc3 hc4 hf3 hf4
            by_cases h1 : s = s'
            · subst h1
              by_cases h2 : f = f'
              · subst h2
                by_cases h3 : l = l'
                · have HYe := Lib.hid (HK.out (by rw [h3]))
                  have h4 : decide (l = l') = true := decide_eq_true h3
                  rw [h4] at HC
                  clear h3 h4 HN HK
                  go_wp2_with fail
                  refine wp_region_later (by kernel_rfl) (by kernel_rfl) ?_
                  repeat (go_big_quiet_step (first | (go_at_call 72; exact Later.call (HC.out _ (Later.h _)))))
                  refine wpQuiet_nil ?_
                  intro _ hw'
                  obtain ⟨⟨w6, hb6⟩, hw''⟩ := hw'
                  have hw3 : w6 = _ := hw''.symm
                  subst hw3
                  try dsimp only at hb6
                  go_wp2_with fail
                  go_roundw
                  case rel => exact ⟨k + 1, by omega, by rw [HWr.out]; go_num, HYe.out, below_next hbw hb6⟩
                  case measure => simp [RowKit.intOf, HWr.out]; omega
                · have HNo := Lib.hid (HN.out (fun e => h3 (congrArg (fun t : TxnM => t.2.2) e)))
                  have h4 : decide (l = l') = false := decide_eq_false h3
                  rw [h4] at HC
                  clear h3 h4 HN HK
                  go_wp2_with fail
                  refine wp_region_later (by kernel_rfl) (by kernel_rfl) ?_
                  repeat (go_big_quiet_step (first | (go_at_call 72; exact Later.call (HC.out _ (Later.h _)))))
                  refine wpQuiet_nil ?_
                  intro _ hw'
                  obtain ⟨⟨w6, hb6⟩, hw''⟩ := hw'
                  have hw3 : w6 = _ := hw''.symm
                  subst hw3
                  try dsimp only at hb6
                  go_wp2_with fail
                  go_ret
                  exact ⟨by rw [HR.out, HNo.out]; rfl, below_next hbwx hb6⟩
              · have HNo := Lib.hid (HN.out (fun e => h2 (congrArg (fun t : TxnM => t.2.1) e)))
                have h5 := beq_eq_false_iff_ne.2 h2
                have h6 : (f != f') = true := bne_iff_ne.2 h2
                clear HN HK h2
                go_wp2_with fail
                refine wp_region_later (by kernel_rfl) (by kernel_rfl) ?_
                repeat (go_big_quiet_step (first | (go_at_call 72; exact Later.call (HC.out _ (Later.h _)))))
                refine wpQuiet_nil ?_
                intro _ hw'
                obtain ⟨⟨w6, hb6⟩, hw''⟩ := hw'
                have hw3 : w6 = _ := hw''.symm
                subst hw3
                try dsimp only at hb6
                go_wp2_with fail
                go_ret
                exact ⟨by rw [HR.out, HNo.out]; rfl, below_next hbwx hb6⟩
            · have HNo := Lib.hid (HN.out (fun e => h1 (congrArg (fun t : TxnM => t.1) e)))
              have h5 := beq_eq_false_iff_ne.2 h1
              have h6 : (s != s') = true := bne_iff_ne.2 h1
              clear HN HK h1
              go_wp2_with fail
              refine wp_region_later (by kernel_rfl) (by kernel_rfl) ?_
              repeat (go_big_quiet_step (first | (go_at_call 72; exact Later.call (HC.out _ (Later.h _)))))
              refine wpQuiet_nil ?_
              intro _ hw'
              obtain ⟨⟨w6, hb6⟩, hw''⟩ := hw'
              have hw3 : w6 = _ := hw''.symm
              subst hw3
              try dsimp only at hb6
              go_wp2_with fail
              go_ret
              exact ⟨by rw [HR.out, HNo.out]; rfl, below_next hbwx hb6⟩
          · have hke : k = ha.2.2.length := by omega
            subst hke
            have HLL := Lib.hid (list_same noTxn ha.2.2 hb.2.2 HLM.out HEq.out)
            go_wp2_with fail
            go_ret
            exact ⟨by rw [HR.out, decide_eq_true HLL.out]; rfl, hbwx⟩
      · have hlmi : ¬ (((ha.2.2.length : Nat) : Int) = ((hb.2.2.length : Nat) : Int)) := by omega
        have HNe := Lib.hid (len_not hlm)
        go_wp2_with fail
        go_ret
        exact ⟨by rw [HR.out, decide_eq_false HNe.out]; rfl, by (repeat' (first | (with_reducible exact Below.refl _ _) | (with_reducible assumption) | (refine below_next ?_ (by with_reducible assumption)) | (with_reducible refine Below.alloc ?_ ?_ _) | (with_reducible refine Below.drew ?_) | (with_reducible refine below_drewN ?_ _) | omega | (simp; done) | (simp; omega)))⟩
end Go.Proofs.YthalbcmlehpfaaaDoor
