/-
  The walk of layer 11 (hist), the program: the reads that were lost. No conditions but that unicode/utf8's two tables are as their initialisers lay them.
  The walks of layer 11's reference (hist): which transactions are so, the reads that were lost, whether two lists of places are the same. No conditions.
  The walks of layer 11's statements (hist): the sample; the chapter's example. No conditions but that unicode/utf8's two tables are as their initialisers lay them.
  A region that draws its order, whose last operation waits for all others: one condition on the world serves till that last one. No conditions.
-/
import Derived.Test.YtmgchjddpmmglaaGreatDoorQIa
namespace Go.Proofs.YtmgchjddpmmglaaGreatDoor
section
open Go.RowKit Go.Shelf Go.Lib
attribute [local go_sem] Oper.semAt_some
abbrev PlaceM := Nat × Nat
def placeCells (p : PlaceM) : List Value := [.int .i64 (p.1 : Nat), .int .i64 (p.2 : Nat)]
def placesCells (L : List PlaceM) : List Value := L.flatMap placeCells
def PlacesS (w : World) (v : Value) (L : List PlaceM) : Prop := ∃ p cap, v = .slice p L.length cap ∧ ∀ j, j < L.length → ∃ g, p = some ⟨g, 0, none⟩ ∧ w.cell? ⟨g, j * 2, none⟩ = some (.int .i64 ((L.getD j (0, 0)).1 : Nat)) ∧ w.cell? ⟨g, j * 2 + 1, none⟩ = some (.int .i64 ((L.getD j (0, 0)).2 : Nat))
theorem PlacesS.below {w w' : World} {v : Value} {L : List PlaceM} (h : PlacesS w v L) (hb : Below w.heap.size w w') : PlacesS w' v L := by
 obtain ⟨p, cap, hv, ht⟩ := h
 refine ⟨p, cap, hv, fun j hj => ?_⟩
 obtain ⟨g, hp, h1, h2⟩ := ht j hj
 exact ⟨g, hp, cell_later hb h1, cell_later hb h2⟩
theorem places_none (w : World) : PlacesS w (.slice none 0 0) [] := ⟨none, 0, rfl, fun j hj => absurd hj (Nat.not_lt_zero j)⟩
theorem own_places {w : World} {base : Nat} {e : TypeId} {v : Value} {L : List PlaceM} (h : w.ownsRow base e 2 v L.length (placesCells L)) : PlacesS w v L := by
 obtain ⟨p, cap, rfl, -, -, hc⟩ := own_rowK h
 refine ⟨p, cap, rfl, fun j hj => ?_⟩
 have hg : ∀ i u, i < 2 → (placeCells (L.getD j (0, 0)))[i]? = some u → ∃ g, p = some ⟨g, 0, none⟩ ∧ w.cell? ⟨g, j * 2 + i, none⟩ = some u := fun i u hi hu =>
  hc _ u (by omega) (by rw [placesCells, flat_get placeCells 2 (fun _ => rfl) (0, 0) L j i hj hi]; exact hu)
 obtain ⟨g, rfl, h0⟩ := hg 0 _ (by omega) rfl
 obtain ⟨g1, e1, h1⟩ := hg 1 _ (by omega) rfl
 cases e1
 exact ⟨g, rfl, h0, h1⟩
theorem info_place : (Tryz.prog.info? 38).map (fun i => (i.zero, i.size, i.bytes)) = some (some (.agg #[.int .i64 0, .int .i64 0]), 2, 16) := by kernel_rfl
def lostI (l : List Item) : List PlaceM := (l.filter fun x => x.2.2.2.1 == 2).map (·.1)
theorem lostI_snoc (l : List Item) (x : Item) : lostI (l ++ [x]) = if x.2.2.2.1 == 2 then lostI l ++ [x.1] else lostI l := by
 unfold lostI
 rw [List.filter_append, List.map_append]
 by_cases h : (x.2.2.2.1 == 2) = true
 ·rw [if_pos h, List.filter_cons, if_pos h]; rfl
 ·rw [if_neg h, List.filter_cons, if_neg h]; simp
theorem lostI_len (l : List Item) : (lostI l).length ≤ l.length := by
 unfold lostI
 rw [List.length_map]
 exact List.length_filter_le _ _
def lostL (h : HistM) : List PlaceM := if mayH h then lostI (itH h.2.2 h.2.2.length) else []
theorem lostL_yes {h : HistM} (hm : mayH h = true) : lostL h = lostI (itH h.2.2 h.2.2.length) := by simp [lostL, hm]
theorem lostL_no {h : HistM} (hm : mayH h = false) : lostL h = [] := by simp [lostL, hm]
set_option maxRecDepth 100000 in
set_option maxHeartbeats 4000000 in
theorem lost_any (v0 v1 v2 : Value) (h : HistM) (w : World) (h0 : Texts w v0 h.1) (h1 : Texts w v1 h.2.1) (h2 : TxnsS w v2 h.2.2) (hm : Modst h) (hT : Lib.Utf8Tabs 1 2 w) :
  Calls Tryz.prog 94 #[.agg #[v0, v1, v2]] w fun e w' => ∃ v', e = .returned v' ∧ PlacesS w' v' (lostL h) ∧ Below w.heap.size w w' := by
 have HMay := Lib.hid (fun w' (hb : Below w.heap.size w w') => hmay_any v0 v1 v2 h w' (h0.below hb) (h1.below hb) (h2.below hb) hm (Utf8Tabs_below hT hb))
 have HM := Lib.hid hm
 have T2 := Lib.hid h2
 obtain ⟨p2, c2, rfl, -⟩ := h2
 obtain ⟨p0, c0, rfl, -⟩ := h0
 obtain ⟨p1, c1, rfl, -⟩ := h1
 obtain ⟨i0, hi, hz0, hz1, hz2⟩ := info_parts info_place
 have b0 := Blk.new w 25 [.slice p0 h.1.length c0, .slice p1 h.2.1.length c1, .slice p2 h.2.2.length c2]
 have hb0 : Below w.heap.size w (w.alloc (.cells #[.slice p0 h.1.length c0, .slice p1 h.2.1.length c1, .slice p2 h.2.2.length c2] 25)) := (Below.refl _ w).alloc (Nat.le_refl _) _
 have HB0 := Lib.hid hb0
 have B0 := Lib.hid b0
 clear hm hT b0 hb0
 refine (callsIn_wide (n := 10)).1 ?_
 refine callsIn_of_wp_marks Tryz.func94 rfl trivial ?_ rfl
 simp only [Tryz.ntmps94, List.size_toArray, List.length_cons, List.length_nil, Nat.reduceAdd, Nat.reduceSub, Array.replicate_succ, Array.replicate_zero, List.push_toArray, List.append_toArray, List.nil_append, List.cons_append]
 gi_wp2_with fail
 refine ⟨trivial, (callsIn_wide.2 (HMay.out _ HB0.out)).mono ?_⟩
 rintro e w1 ⟨rfl, hb1⟩
 have hbw1 := below_next HB0.out hb1
 have d0 := B0.out.later hb1
 have x0 := d0.cell 0 rfl
 have x1 := d0.cell 1 rfl
 have x2 := d0.cell 2 rfl
 have hbz : w.heap.size < w1.heap.size := d0.lt
 clear d0 hb1
 cases hmm : mayH h with
 | false =>
  have HE := Lib.hid (err_no hmm)
  have HW := Lib.hid (lostL_no hmm)
  clear hmm
  rw [HE.out]
  gi_wp2_with fail
  exact ⟨_, results_tmp rfl _ _ _, _, rfl, by rw [HW.out]; exact places_none _, hbw1⟩
 | true =>
  have HE := Lib.hid (err_yes hmm)
  have HW := Lib.hid (lostL_yes hmm)
  clear hmm
  rw [HE.out]
  gi_wp2_with fail
  refine ⟨trivial, (ops_in Fence.wide 9 trivial rfl _ _ _ _).mono ?_⟩
  rintro e w3 ⟨rfl, rfl⟩
  gi_wp2_with fail
  have z0 := Blk.new w1 43 [.slice none 0 0]
  have hbl : Below w.heap.size w (w1.alloc (.cells #[.slice none 0 0] 43)) := hbw1.alloc hbw1.size _
  have t1 := three_new (w1.alloc (.cells #[.slice none 0 0] 43)) (.slice p0 h.1.length c0) (.slice p1 h.2.1.length c1) (.slice p2 h.2.2.length c2) 25
  simp only [World.size_alloc] at t1
  have k1 : Boxed ((w1.alloc (.cells #[.slice none 0 0] 43)).alloc (.cells #[.slice p0 h.1.length c0, .slice p1 h.2.1.length c1, .slice p2 h.2.2.length c2] 25)) w1.heap.size 43 (.slice none 0 0) := z0.alloc _
  have hb' := hbl.alloc hbl.size (.cells #[.slice p0 h.1.length c0, .slice p1 h.2.1.length c1, .slice p2 h.2.2.length c2] 25)
  have hsz1 : ((w1.alloc (.cells #[.slice none 0 0] 43)).alloc (.cells #[.slice p0 h.1.length c0, .slice p1 h.2.1.length c1, .slice p2 h.2.2.length c2] 25)).heap.size = w1.heap.size + 1 + 1 := by simp
  obtain ⟨W1, hW1⟩ : ∃ W1, (w1.alloc (.cells #[.slice none 0 0] 43)).alloc (.cells #[.slice p0 h.1.length c0, .slice p1 h.2.1.length c1, .slice p2 h.2.2.length c2] 25) = W1 := ⟨_, rfl⟩
  rw [hW1] at t1 k1 hb' hsz1 ⊢
  clear hW1 x0 x1 x2 z0 hbl
  refine wpIn_rangeFunc_ownH rfl (by omega) (gf := 180) (lb := #[.pointer (some ⟨w1.heap.size + 1, 0, none⟩)]) rfl trivial (enters_of Tryz.func180 (by kernel_rfl) rfl)
   (ops_stops (fun _ => True) Fence.wide 9 trivial rfl (by omega) (w1.heap.size + 1) w _ _ _ h.2.2 HM.out.2.2.1 T2.out HM.out.2.2.2.2.2 (fun _ _ => trivial) W1 hb' t1) belowK_t (belowK_b (by omega)) (Below.refl _ _) (fun _ => rfl)
   (fun pre W => (∃ v, Boxed W w1.heap.size 43 v ∧ W.ownsRow w.heap.size 38 2 v (lostI (pre.map (·.1))).length (placesCells (lostI (pre.map (·.1)))) ∧ True) ∧ Below w.heap.size w W)
   (fun _ _ _ => False)
   (OwnFrom.and ((holdsRow_own w.heap.size w1.heap.size 43 38 2 (fun pre : List { x : Item // True } => (lostI (pre.map (·.1))).length) (fun pre => placesCells (lostI (pre.map (·.1)))) (fun _ _ => True)).from _) (ownFrom_below (Nat.le_refl _) (by omega)))
   (fun _ _ _ _ _ hs _ _ => hs)
   ⟨⟨_, k1, World.ownsRow_nil _ _ _ _, trivial⟩, hb'⟩
   (fun x a' W => ∃ Bp Bx, Blk W Bp 38 [.int .i64 (x.1.1.1 : Nat), .int .i64 (x.1.1.2 : Nat)] ∧ Blk W Bx 51 [.bool x.1.2.1, .int .i64 x.1.2.2.1, .int .i64 x.1.2.2.2.1, .int .i64 x.1.2.2.2.2] ∧ a' = { tmps := #[.agg #[.slice p0 h.1.length c0, .slice p1 h.2.1.length c1, .slice p2 h.2.2.length c2], .pointer (some ⟨w.heap.size, 0, none⟩), .slice none 0 0, .pointer (some ⟨w1.heap.size, 0, none⟩), .pointer (some ⟨Bp, 0, none⟩), .pointer (some ⟨Bx, 0, none⟩), .agg #[.slice p0 h.1.length c0, .slice p1 h.2.1.length c1, .slice p2 h.2.2.length c2], .int .i64 0, .bool false, .agg #[.slice p0 h.1.length c0, .slice p1 h.2.1.length c1, .slice p2 h.2.2.length c2], .func (.func 180) #[] #[.pointer (some ⟨w1.heap.size + 1, 0, none⟩)], .agg #[.int .i64 (x.1.1.1 : Nat), .int .i64 (x.1.1.2 : Nat)], .agg #[.bool x.1.2.1, .int .i64 x.1.2.2.1, .int .i64 x.1.2.2.2.1, .int .i64 x.1.2.2.2.2], undef, undef, undef, undef, undef, undef, undef, undef, undef], defers := [] })
   (fun x a' _ X Y row hs hg hr => by
    obtain ⟨Bp, Bx, r1, r2, r3⟩ := hs
    have hn : ∀ B t cs, Blk X B t cs → some B ≠ row := fun B t cs r e => by obtain ⟨-, o, ho, hc⟩ := hr B e.symm; have r' : X.heap[B]? = some _ := r; rw [r'] at ho; cases ho; cases hc
    exact ⟨Bp, Bx, r1.kept hg (hn _ _ _ r1), r2.kept hg (hn _ _ _ r2), r3⟩)
   ?assign ?body ?done ?stop
  case assign =>
   rintro l pre x W K ⟨⟨v, q1, q2, q3⟩, hB⟩ hK
   simp only [encI]
   gi_wp2
   have k1 := Blk.new W 38 [.int .i64 (x.1.1.1 : Nat), .int .i64 (x.1.1.2 : Nat)]
   have k2 := Blk.new (W.alloc (.cells #[.int .i64 (x.1.1.1 : Nat), .int .i64 (x.1.1.2 : Nat)] 38)) 51 [.bool x.1.2.1, .int .i64 x.1.2.2.1, .int .i64 x.1.2.2.2.1, .int .i64 x.1.2.2.2.2]
   simp only [World.size_alloc] at k2
   exact hK _ _ (((KeepsOthers.alloc _ _).trans (KeepsOthers.alloc _ _)).from _) (((Below.refl _ W).alloc hB.size _).alloc (by have := hB.size; simp; omega) _) ⟨⟨v, (q1.alloc _).alloc _, (q2.alloc _).alloc _, q3⟩, (hB.alloc hB.size _).alloc (by have := hB.size; simp; omega) _⟩ ⟨W.heap.size, W.heap.size + 1, k1.alloc _, k2, rfl⟩
  case body =>
   rintro l pre x a' W hl - ⟨⟨v, q1, q2, -⟩, hB⟩ ⟨Bp, Bx, bP, bX, rfl⟩ hlt2
   have hN := itH_len h.2.2 HM.out.2.2.2.2.2 h.2.2.length (Nat.le_refl _)
   have m3 := HM.out.2.2.1
   have hll := lostI_len (pre.map (·.1))
   rw [List.length_map] at hll
   have z0 := q1.cell
   have z1 := q1.frozen
   have y0 := bP.cell 0 rfl
   have y1 := bP.cell 1 rfl
   have y2 := bX.cell 2 rfl
   have hsn := lostI_snoc (pre.map (·.1)) x.1
   rw [show pre.map (·.1) ++ [x.1] = (pre ++ [x]).map (·.1) by simp] at hsn
   have HN1 : RowKit.Hid (x.1.2.2.2.1 = 2 → lostI ((pre ++ [x]).map (·.1)) = lostI (pre.map (·.1)) ++ [x.1.1]) := Lib.hid (fun e => by rw [hsn, if_pos (beq_iff_eq.2 e)])
   have HF1 : RowKit.Hid (x.1.2.2.2.1 ≠ 2 → lostI ((pre ++ [x]).map (·.1)) = lostI (pre.map (·.1))) := Lib.hid (fun e => by rw [hsn, if_neg (by rw [beq_eq_false_iff_ne.2 e]; exact Bool.false_ne_true)])
   obtain ⟨I, hI⟩ : ∃ I, lostI (pre.map (·.1)) = I := ⟨_, rfl⟩
   rw [hI] at q2 HN1 HF1 hll
   have hIl : I.length ≤ 1000000 := by omega
   have HB := Lib.hid hB
   have Q1 := Lib.hid q1
   have hws := hB.size
   have hwb : w.heap.size ≤ w1.heap.size := hbw1.size
   have hbw := q1.lt
   clear hsn hI hll hlt2 hN m3 bP bX hB q1
   by_cases hc : x.1.2.2.2.1 = 2
   ·have HN2 := Lib.hid (HN1.out hc)
    have hcc : (x.1.2.2.2.1 == 2) = true := beq_iff_eq.2 hc
    rw [hc] at y2
    clear HN1 HF1 hc hcc
    gi_wp2_with (gi_at_builtin; refine wpListIn_append_own _ rfl _ _ 43 rfl w.heap.size 38 i0 (.agg #[.int .i64 0, .int .i64 0]) 2 16 Tryz.underlying43 hi hz0 hz1 hz2 rfl (by decide) _ _ _ rfl (q2.alloc _) ⟨W.heap.size, 0, none⟩ 1 1 [.int .i64 (x.1.1.1 : Nat), .int .i64 (x.1.1.2 : Nat)] rfl rfl (news_lit _ _ _ _ rfl) (by intro u hu; simp at hu; rcases hu with rfl | rfl <;> rfl) (by unfold maxLen; omega) (by omega) (by simp; omega) ?_)
    intro v4 w4 hown4 hgrow hnil
    obtain ⟨g4, c4, rfl⟩ := owns_some hown4
    obtain ⟨r1, r2, r3, r4, r5⟩ := Boxed.appended Q1.out (by decide) q2 (by omega) (by omega) hown4 hgrow
    have s1 := r1.cell
    have s2 := r1.frozen
    have HO : RowKit.Hid ((w4.setCell ⟨w1.heap.size, 0, none⟩ (.slice (some ⟨g4, 0, none⟩) (I.length + 1) c4)).ownsRow w.heap.size 38 2 (.slice (some ⟨g4, 0, none⟩) (I.length + 1) c4) (lostI ((pre ++ [x]).map (·.1))).length (placesCells (lostI ((pre ++ [x]).map (·.1))))) := Lib.hid (by rw [HN2.out, List.length_append, placesCells, List.flatMap_append]; exact r3)
    have R2 := Lib.hid r2
    have R4 := Lib.hid r4
    have R5 := Lib.hid r5
    clear hown4 hgrow hnil r1 r2 r3 r4 r5 q2
    gi_wp2_with fail
    exact ⟨R4.out.from _, R5.out, ⟨_, R2.out, by first | exact HO.out | exact ⟨HO.out, trivial⟩⟩, HB.out.trans R5.out⟩
   ·have HN2 := Lib.hid (HF1.out hc)
    have hcc : (x.1.2.2.2.1 == 2) = false := beq_eq_false_iff_ne.2 hc
    clear HN1 HF1 hc
    gi_wp2_with fail
    exact ⟨KeepsFrom.refl _ _, Below.refl _ _, ⟨_, Q1.out, by rw [HN2.out]; first | exact q2 | exact ⟨q2, trivial⟩⟩, HB.out⟩
  case done =>
   rintro Dd xs W hD hS ⟨⟨v, q1, q2, -⟩, hB⟩ hd
   rw [hS] at q2
   have z0 := q1.cell
   have q3 := ownsRow_putObj q2 (.deferred none) hd rfl
   have HO := Lib.hid (own_places q3)
   have HD := Lib.hid hd
   have HDB : RowKit.Hid (Below w.heap.size w (W.putObj Dd (.deferred none))) := Lib.hid (hB.trans (belowK_b (w := W1) (by omega) W Dd _ _ hD hd rfl rfl))
   clear q1 q2 q3 hB hd
   gi_wp2_with fail
   refine ⟨by simp, .inl ⟨_, _, rfl, run_takeDeferred HD.out, ?_⟩⟩
   exact ⟨_, results_tmp rfl _ _ _, _, rfl, by rw [HW.out]; exact HO.out, HDB.out⟩
  case stop =>
   rintro D' c pre W _ _ h' _
   exact h'.elim
end
section
open Go.RowKit Go.Lib
set_option maxRecDepth 100000 in
set_option maxHeartbeats 4000000 in
theorem rinfos_any (v0 v1 v2 : Value) (h : HistM) (w : World) (h0 : Texts w v0 h.1) (h1 : Texts w v1 h.2.1) (h2 : TxnsS w v2 h.2.2) (hm : Modst h) :
  Calls Tryz.prog 95 #[.agg #[v0, v1, v2]] w fun e w' => ∃ v', e = .returned v' ∧ IntsS w' v' (idxs (infosP) h.2.2 h.2.2.length) ∧ Below w.heap.size w w' := by
 obtain ⟨p2, c2, rfl, hp⟩ := h2
 obtain ⟨p0, c0, rfl, -⟩ := h0
 obtain ⟨p1, c1, rfl, -⟩ := h1
 have HX := Lib.hid hp
 have m3 : h.2.2.length ≤ 1000 := hm.2.2.1
 obtain ⟨i0, hi, hz0, hz1, hz2⟩ := info_parts info_i64
 have b0 := Blk.new w 25 [.slice p0 h.1.length c0, .slice p1 h.2.1.length c1, .slice p2 h.2.2.length c2]
 have hb0 : Below w.heap.size w (w.alloc (.cells #[.slice p0 h.1.length c0, .slice p1 h.2.1.length c1, .slice p2 h.2.2.length c2] 25)) := (Below.refl _ w).alloc (Nat.le_refl _) _
 have HB0 := Lib.hid hb0
 have B0 := Lib.hid b0
 have hown0 := World.ownsRow_made (base := w.heap.size + 1) (size := 1) (e := 3) (w.alloc (.cells #[.slice p0 h.1.length c0, .slice p1 h.2.1.length c1, .slice p2 h.2.2.length c2] 25)) #[] 0 (by simp) (Nat.zero_le _) rfl
 have hbs0 : Below (w.heap.size + 1) (w.alloc (.cells #[.slice p0 h.1.length c0, .slice p1 h.2.1.length c1, .slice p2 h.2.2.length c2] 25)) ((w.alloc (.cells #[.slice p0 h.1.length c0, .slice p1 h.2.1.length c1, .slice p2 h.2.2.length c2] 25)).alloc (.cells #[] 3)) := (Below.refl _ _).alloc (by simp) _
 simp only [World.size_alloc] at hown0
 clear hp hm b0 hb0
 go_enter Tryz.func95, Tryz.ntmps95
 go_wp2_with fail
 have hS0 : (w.alloc (.cells #[.slice p0 h.1.length c0, .slice p1 h.2.1.length c1, .slice p2 h.2.2.length c2] 25)).heap.size = w.heap.size + 1 := World.size_alloc _ _
 have HS0 := Lib.hid hS0
 clear hS0
 generalize (w.alloc (.cells #[.slice p0 h.1.length c0, .slice p1 h.2.1.length c1, .slice p2 h.2.2.length c2] 25)) = W0 at *
 go_loopw [3, 4] (fun l i wr => ∃ k : Nat, k ≤ h.2.2.length ∧ i = .int .i64 k ∧ wr.ownsRow (w.heap.size + 1) 3 1 l (idxs (infosP) h.2.2 k).length (vints (idxs (infosP) h.2.2 k)) ∧ Below (w.heap.size + 1) W0 wr) (fun _ i _ => h.2.2.length - (RowKit.intOf i).toNat)
 case atStart => exact ⟨0, Nat.zero_le _, rfl, hown0, hbs0⟩
 case round =>
  obtain ⟨k, hk, rfl, hown, hbw⟩ := hrel
  have hsz := hbw.size
  rw [HS0.out] at hsz
  have x2 := (B0.out.below hbw (by omega)).cell 2 rfl
  by_cases hk1 : k < h.2.2.length
  ·obtain ⟨g, sv, rfl, a1, a2, a3, -⟩ := HX.out k hk1
   have hbwx := HB0.out.trans (hbw.mono (by omega))
   have a1' := cell_later hbwx a1
   have a2' := cell_later hbwx a2
   have hnx := idxs_next (infosP) h.2.2 k
   have hil := idxs_len (infosP) h.2.2 k
   obtain ⟨I, hI⟩ : ∃ I, idxs (infosP) h.2.2 k = I := ⟨_, rfl⟩
   rw [hI] at hown hnx hil
   obtain ⟨t, ht⟩ : ∃ t, h.2.2.getD k noTxn = t := ⟨_, rfl⟩
   rw [ht] at a1' a2' hnx
   obtain ⟨t1, t2, t3⟩ := t
   simp only at a1' a2' hnx
   have HN : RowKit.Hid ((infosP) (t1, t2, t3) = true → idxs (infosP) h.2.2 (k + 1) = I ++ [(k : Int)]) := Lib.hid (fun e => by rw [hnx, if_pos e])
   have HF : RowKit.Hid ((infosP) (t1, t2, t3) = false → idxs (infosP) h.2.2 (k + 1) = I) := Lib.hid (fun e => by rw [hnx, if_neg (by rw [e]; exact Bool.false_ne_true)])
   clear a1 a2 a3 ht hI hnx hbwx
   by_cases hc : t2 = 3
   ·have hcb : ((infosP) (t1, t2, t3)) = true := beq_iff_eq.2 hc
    have HN2 := Lib.hid (HN.out hcb)
    have hcc : (t2 == 3) = true := beq_iff_eq.2 hc
    clear hcb hc HN HF
    go_wp2_with (at_builtin; refine wpList_append_own _ rfl _ _ 56 rfl (w.heap.size + 1) 3 i0 (.int .i64 0) 1 8 Tryz.underlying56 hi hz0 hz1 hz2 rfl (by decide) _ _ _ rfl (hown.alloc _) ⟨wr.heap.size, 0, none⟩ 1 1 [.int .i64 (k : Nat)] rfl rfl (news_int _ _ _) (ones_int _) (by unfold maxLen; omega) (by omega) (by simp; omega) ?_)
    intro v4 w4 hown4 hgrow hnil
    have hb4 : Below (w.heap.size + 1) W0 w4 := (hbw.alloc (by omega) _).grown hgrow (by simp; omega) (fun k hk => (hown.lt k hk).1)
    have HO : RowKit.Hid (w4.ownsRow (w.heap.size + 1) 3 1 v4 (idxs (infosP) h.2.2 (k + 1)).length (vints (idxs (infosP) h.2.2 (k + 1)))) := Lib.hid (by rw [HN2.out, ← vints_snoc, List.length_append]; exact hown4)
    clear hown4 hgrow hnil hown hbw
    go_wp2_with fail
    go_roundw
    case rel => exact ⟨k + 1, by omega, by go_num, HO.out, hb4⟩
    case measure => simp [RowKit.intOf]; omega
   ·have hcb : ((infosP) (t1, t2, t3)) = false := beq_eq_false_iff_ne.2 hc
    have HN2 := Lib.hid (HF.out hcb)
    have hcc : (t2 == 3) = false := beq_eq_false_iff_ne.2 hc
    clear hcb hc HN HF
    go_wp2_with fail
    go_roundw
    case rel => exact ⟨k + 1, by omega, by go_num, by rw [HN2.out]; exact hown, hbw⟩
    case measure => simp [RowKit.intOf]; omega
  ·have hke : k = h.2.2.length := by omega
   subst hke
   have HO := Lib.hid (own_intsI hown)
   have hbwx := HB0.out.trans (hbw.mono (by omega))
   clear hown
   go_wp2_with fail
   go_ret
   exact ⟨_, rfl, HO.out, hbwx⟩
set_option maxRecDepth 100000 in
set_option maxHeartbeats 4000000 in
theorem rlost_any (v0 v1 v2 : Value) (h : HistM) (w : World) (h0 : Texts w v0 h.1) (h1 : Texts w v1 h.2.1) (h2 : TxnsS w v2 h.2.2) (hm : Modst h) :
  Calls Tryz.prog 28 #[.agg #[v0, v1, v2]] w fun e w' => ∃ v', e = .returned v' ∧ PlacesS w' v' (lostI (itH h.2.2 h.2.2.length)) ∧ Below w.heap.size w w' := by
 obtain ⟨p2, c2, rfl, hp⟩ := h2
 obtain ⟨p0, c0, rfl, -⟩ := h0
 obtain ⟨p1, c1, rfl, -⟩ := h1
 have HX := Lib.hid hp
 have HM := Lib.hid hm
 have m3 : h.2.2.length ≤ 1000 := hm.2.2.1
 have HN0 := Lib.hid (itH_len h.2.2 hm.2.2.2.2.2 h.2.2.length (Nat.le_refl _))
 obtain ⟨i0, hi, hz0, hz1, hz2⟩ := info_parts info_place
 have b0 := Blk.new w 25 [.slice p0 h.1.length c0, .slice p1 h.2.1.length c1, .slice p2 h.2.2.length c2]
 have hb0 : Below w.heap.size w (w.alloc (.cells #[.slice p0 h.1.length c0, .slice p1 h.2.1.length c1, .slice p2 h.2.2.length c2] 25)) := (Below.refl _ w).alloc (Nat.le_refl _) _
 have HB0 := Lib.hid hb0
 have B0 := Lib.hid b0
 have hown0 := World.ownsRow_made (base := w.heap.size + 1) (size := 2) (e := 38) (w.alloc (.cells #[.slice p0 h.1.length c0, .slice p1 h.2.1.length c1, .slice p2 h.2.2.length c2] 25)) #[] 0 (by simp) (Nat.zero_le _) rfl
 have hbs0 : Below (w.heap.size + 1) (w.alloc (.cells #[.slice p0 h.1.length c0, .slice p1 h.2.1.length c1, .slice p2 h.2.2.length c2] 25)) ((w.alloc (.cells #[.slice p0 h.1.length c0, .slice p1 h.2.1.length c1, .slice p2 h.2.2.length c2] 25)).alloc (.cells #[] 38)) := (Below.refl _ _).alloc (by simp) _
 simp only [World.size_alloc] at hown0
 clear hp hm b0 hb0
 go_enter Tryz.func28, Tryz.ntmps28
 go_wp2_with fail
 have hS0 : (w.alloc (.cells #[.slice p0 h.1.length c0, .slice p1 h.2.1.length c1, .slice p2 h.2.2.length c2] 25)).heap.size = w.heap.size + 1 := World.size_alloc _ _
 have HS0 := Lib.hid hS0
 clear hS0
 generalize (w.alloc (.cells #[.slice p0 h.1.length c0, .slice p1 h.2.1.length c1, .slice p2 h.2.2.length c2] 25)) = W0 at *
 go_loopw [3, 4] (fun l i wr => ∃ k : Nat, k ≤ h.2.2.length ∧ i = .int .i64 k ∧ wr.ownsRow (w.heap.size + 1) 38 2 l (lostI (itH h.2.2 k)).length (placesCells (lostI (itH h.2.2 k))) ∧ Below (w.heap.size + 1) W0 wr) (fun _ i _ => h.2.2.length - (RowKit.intOf i).toNat)
 case atStart => exact ⟨0, Nat.zero_le _, rfl, hown0, hbs0⟩
 case round =>
  obtain ⟨k, hk, rfl, hown, hbw⟩ := hrel
  have hsz := hbw.size
  rw [HS0.out] at hsz
  have x2 := (B0.out.below hbw (by omega)).cell 2 rfl
  obtain ⟨wo, rfl⟩ : ∃ wo : World, wo = wr := ⟨_, rfl⟩
  by_cases hk1 : k < h.2.2.length
  ·obtain ⟨g, sv, rfl, a1, a2, a3, ⟨p3, c3, rfl, -, ho⟩⟩ := HX.out k hk1
   have HO := Lib.hid ho
   have HS := Lib.hid (itH_succ h.2.2 k)
   have HLT := Lib.hid (fun j => it_lt h.2.2 k j hk1)
   have hm4 : (h.2.2.getD k noTxn).2.2.length ≤ 1000 := HM.out.2.2.2.2.2 _ (by
    have : h.2.2.getD k noTxn = h.2.2[k] := by simp [hk1]
    rw [this]
    exact List.getElem_mem hk1)
   obtain ⟨tl, htl⟩ : ∃ tl, (h.2.2.getD k noTxn).2.2 = tl := ⟨_, rfl⟩
   rw [htl] at a3 HO HS HLT hm4
   obtain ⟨P0, hP0⟩ : ∃ P0, itH h.2.2 k = P0 := ⟨_, rfl⟩
   rw [hP0] at hown HS HLT
   have A3 := Lib.hid a3
   clear a1 a2 a3 ho htl hP0
   go_wp2_with fail
   go_loopw [3, 5] (fun l j wr => ∃ m : Nat, m ≤ tl.length ∧ j = .int .i64 m ∧ wr.ownsRow (w.heap.size + 1) 38 2 l (lostI (P0 ++ itT k tl m)).length (placesCells (lostI (P0 ++ itT k tl m))) ∧ Below (w.heap.size + 1) W0 wr) (fun _ j _ => tl.length - (RowKit.intOf j).toNat)
   case atStart => exact ⟨0, Nat.zero_le _, rfl, by simpa [itT] using hown, hbw⟩
   case round =>
    obtain ⟨m, hml, rfl, hown, hbw⟩ := hrel
    have hsz := hbw.size
    rw [HS0.out] at hsz
    have x2 := (B0.out.below hbw (by omega)).cell 2 rfl
    have hbwx := HB0.out.trans (hbw.mono (by omega))
    have a3' := cell_later hbwx A3.out
    by_cases hm1 : m < tl.length
    ·obtain ⟨g2, rfl, q0, q1, q2, q3⟩ := HO.out m hm1
     have q2' := cell_later hbwx q2
     have hls := lostI_snoc (P0 ++ itT k tl m) ((k, m), tl.getD m noOp)
     have hlt := HLT.out m hm1
     have hll := lostI_len (P0 ++ itT k tl m)
     have hn0 := HN0.out
     rw [List.append_assoc, ← itT_succ] at hls
     obtain ⟨o, ho⟩ : ∃ o, tl.getD m noOp = o := ⟨_, rfl⟩
     rw [ho] at q2' hls
     obtain ⟨ow, ok, od, on⟩ := o
     simp only at q2' hls
     obtain ⟨I, hI⟩ : ∃ I, lostI (P0 ++ itT k tl m) = I := ⟨_, rfl⟩
     rw [hI] at hown hls hll
     have hIl : I.length ≤ 1000000 := by omega
     have HN : RowKit.Hid (od = 2 → lostI (P0 ++ itT k tl (m + 1)) = I ++ [(k, m)]) := Lib.hid (fun e => by rw [hls, if_pos (beq_iff_eq.2 e)])
     have HF : RowKit.Hid (od ≠ 2 → lostI (P0 ++ itT k tl (m + 1)) = I) := Lib.hid (fun e => by rw [hls, if_neg (by rw [beq_eq_false_iff_ne.2 e]; exact Bool.false_ne_true)])
     clear q0 q1 q2 q3 ho hI hls hll hlt hn0 hbwx
     by_cases hc : od = 2
     ·have HN2 := Lib.hid (HN.out hc)
      subst hc
      clear HN HF
      go_wp2_with (at_builtin; refine wpList_append_own _ rfl _ _ 43 rfl (w.heap.size + 1) 38 i0 (.agg #[.int .i64 0, .int .i64 0]) 2 16 Tryz.underlying43 hi hz0 hz1 hz2 rfl (by decide) _ _ _ rfl (hown.alloc _) ⟨wr.heap.size, 0, none⟩ 1 1 [.int .i64 (k : Nat), .int .i64 (m : Nat)] rfl rfl (news_lit _ _ _ _ rfl) (by intro u hu; simp at hu; rcases hu with rfl | rfl <;> rfl) (by unfold maxLen; omega) (by omega) (by simp; omega) ?_)
      intro v4 w4 hown4 hgrow hnil
      have hb4 : Below (w.heap.size + 1) W0 w4 := (hbw.alloc (by omega) _).grown hgrow (by simp; omega) (fun k hk => (hown.lt k hk).1)
      have HO4 : RowKit.Hid (w4.ownsRow (w.heap.size + 1) 38 2 v4 (lostI (P0 ++ itT k tl (m + 1))).length (placesCells (lostI (P0 ++ itT k tl (m + 1))))) := Lib.hid (by rw [HN2.out, List.length_append, placesCells, List.flatMap_append]; exact hown4)
      clear hown4 hgrow hnil hown hbw
      go_wp2_with fail
      go_roundw
      case rel => exact ⟨m + 1, by omega, by go_num, HO4.out, hb4⟩
      case measure => simp [RowKit.intOf]; omega
     ·have HN2 := Lib.hid (HF.out hc)
      have hcc : (od == 2) = false := beq_eq_false_iff_ne.2 hc
      clear hc HN HF
      go_wp2_with fail
      go_roundw
      case rel => exact ⟨m + 1, by omega, by go_num, by rw [HN2.out]; exact hown, hbw⟩
      case measure => simp [RowKit.intOf]; omega
    ·obtain rfl : m = tl.length := by omega
     have HOW := Lib.hid hown
     clear hown hbwx
     go_wp2_with fail
     go_roundw
     case rel => exact ⟨k + 1, by omega, by go_num, by rw [HS.out]; exact HOW.out, hbw⟩
     case measure => simp [RowKit.intOf]; omega
  ·have hke : k = h.2.2.length := by omega
   subst hke
   have HO := Lib.hid (own_places hown)
   have hbwx := HB0.out.trans (hbw.mono (by omega))
   clear hown
   go_wp2_with fail
   go_ret
   exact ⟨_, rfl, HO.out, hbwx⟩
end
section
open Go.RowKit Go.Lib
theorem rmay_v {w : World} {v : Value} {h : HistM} (hv : HistV w v h) (hm : Modst h) : Calls Tryz.prog 27 #[v] w fun e w' => e = .returned (.int .i64 (errH h)) ∧ Below w.heap.size w w' := by
 obtain ⟨v0, v1, v2, rfl, h0, h1, h2⟩ := hv
 exact rmay_any v0 v1 v2 h w h0 h1 h2 hm
theorem infos_v {w : World} {v : Value} {h : HistM} (hv : HistV w v h) (hm : Modst h) (hT : Lib.Utf8Tabs 1 2 w) : Calls Tryz.prog 93 #[v] w fun e w' => ∃ v', e = .returned v' ∧ IntsS w' v' (whereL infosP h) ∧ Below w.heap.size w w' := by
 obtain ⟨v0, v1, v2, rfl, h0, h1, h2⟩ := hv
 exact infos_any v0 v1 v2 h w h0 h1 h2 hm hT
theorem lost_v {w : World} {v : Value} {h : HistM} (hv : HistV w v h) (hm : Modst h) (hT : Lib.Utf8Tabs 1 2 w) : Calls Tryz.prog 94 #[v] w fun e w' => ∃ v', e = .returned v' ∧ PlacesS w' v' (lostL h) ∧ Below w.heap.size w w' := by
 obtain ⟨v0, v1, v2, rfl, h0, h1, h2⟩ := hv
 exact lost_any v0 v1 v2 h w h0 h1 h2 hm hT
theorem rinfos_v {w : World} {v : Value} {h : HistM} (hv : HistV w v h) (hm : Modst h) : Calls Tryz.prog 95 #[v] w fun e w' => ∃ v', e = .returned v' ∧ IntsS w' v' (idxs infosP h.2.2 h.2.2.length) ∧ Below w.heap.size w w' := by
 obtain ⟨v0, v1, v2, rfl, h0, h1, h2⟩ := hv
 exact rinfos_any v0 v1 v2 h w h0 h1 h2 hm
theorem rlost_v {w : World} {v : Value} {h : HistM} (hv : HistV w v h) (hm : Modst h) : Calls Tryz.prog 28 #[v] w fun e w' => ∃ v', e = .returned v' ∧ PlacesS w' v' (lostI (itH h.2.2 h.2.2.length)) ∧ Below w.heap.size w w' := by
 obtain ⟨v0, v1, v2, rfl, h0, h1, h2⟩ := hv
 exact rlost_any v0 v1 v2 h w h0 h1 h2 hm
end
section
open Go.RowKit
section
variable {P : Program} {ops : Array Oper} {Q : Exit → Act → World → Prop} {md : Region.Mode} {S : World → Prop} {last : Nat}
def wpAnyT (P : Program) (md : Region.Mode) (ops : Array Oper) (Q : Exit → Act → World → Prop) (S : World → Prop) (last : Nat) : Nat → Array Bool → Act → World → Prop
 | 0, listed, a, w => Region.ready md ops listed = [] ∧ Q .normal a w
 | fuel + 1, listed, a, w =>
  (Region.ready md ops listed = [] → Q .normal a w) ∧
  ∀ i ∈ Region.ready md ops listed, wpOp P ops Q i (fun a' w' => (i ≠ last → S w') ∧ wpAnyT P md ops Q S last fuel (listed.setIfInBounds i true) a' w') a w
theorem wpAny_of_tail : ∀ (fuel : Nat) (listed : Array Bool) (a : Act) (w : World), wpAnyT P md ops Q S last fuel listed a w → wpAny P md ops Q fuel listed a w
 | 0, _, _, _, h => h
 | fuel + 1, _, _, _, h => ⟨h.1, fun i hi => wpOp_mono (fun a' w' h' => wpAny_of_tail fuel _ a' w' h'.2) (h.2 i hi)⟩
def waitsB (md : Region.Mode) (ops : Array Oper) (last i : Nat) : Bool := match ops[last]? with
 | some o => o.after.any fun e => Region.binds md e && e.on == i
 | none => false
theorem not_last {i : Nat} {listed : Array Bool} (hw : waitsB md ops last i = true) (hi : listed.getD i true = false) : last ∉ Region.ready md ops listed := by
 intro h
 obtain ⟨-, o, ho, hall⟩ := mem_ready.1 h
 unfold waitsB at hw
 rw [ho] at hw
 obtain ⟨e, he, hb⟩ := Array.any_eq_true'.1 hw
 simp only [Bool.and_eq_true, beq_iff_eq] at hb
 have h1 := hall e he hb.1
 rw [hb.2] at h1
 rcases Nat.lt_or_ge i listed.size with h' | h'
 ·simp [h'] at hi h1; rw [hi] at h1; cases h1
 ·simp [Array.getElem?_eq_none h'] at h1
theorem wpAnyT_first {i : Nat} {oi : Oper} {v : Value} (hi : ops[i]? = some oi) (hsel : ∀ (j : Nat) (o : Oper) cs b, ops[j]? = some o → o.op ≠ .select cs b)
  (hQ : ∀ c a w, Q (.panic c) (a.put oi.dst v) w → Q (.panic c) a w) (hw : waitsB md ops last i = true) (hil : i ≠ last) :
  ∀ (fuel : Nat) (listed : Array Bool) (a : Act) (w : World),
   (∀ j oj, ops[j]? = some oj → j ≠ i → listed.getD j true = false → (∀ e ∈ oj.after, Region.binds md e = true → e.on ≠ i) → oi.apart ops oj = true) →
   i ∈ Region.ready md ops listed → YieldsIf P ops S oi v a → S w →
   wpAnyT P md ops Q S last fuel (listed.setIfInBounds i true) (a.put oi.dst v) w → wpAnyT P md ops Q S last (fuel + 1) listed a w := by
 intro fuel
 induction fuel with
 | zero =>
  intro listed a w _ hr hy hS H
  refine ⟨fun h => (by rw [h] at hr; cases hr), fun j hj => ?_⟩
  by_cases hji : j = i
  ·subst hji; exact hy.wpOp hi hS ⟨fun _ => hS, H⟩
  ·have := ready_mono hj hji
   rw [H.1] at this
   cases this
 | succ fuel ih =>
  intro listed a w hfree hr hy hS H
  refine ⟨fun h => (by rw [h] at hr; cases hr), fun j hj => ?_⟩
  by_cases hji : j = i
  ·subst hji; exact hy.wpOp hi hS ⟨fun _ => hS, H⟩
  ·have hjl : j ≠ last := fun e => not_last hw (mem_ready.1 hr).1 (e ▸ hj)
   have h1 := H.2 j (ready_mono hj hji)
   obtain ⟨hjun, oj, hoj, hall⟩ := mem_ready.1 hj
   have hnot : ∀ e ∈ oj.after, Region.binds md e = true → e.on ≠ i := fun e he hb heq => by
    have h1 := hall e he hb
    have h0 := (mem_ready.1 hr).1
    rw [heq] at h1
    rcases Nat.lt_or_ge i listed.size with h' | h'
    ·simp [h'] at h0 h1; rw [h0] at h1; cases h1
    ·simp [Array.getElem?_eq_none h'] at h1
   have h2 := wpOp_putIf hoj (hfree j oj hoj hji hjun hnot) (fun cs b => hsel i oi cs b hi) (fun cs b => hsel j oj cs b hoj) hQ hy h1
   have hfree' : ∀ k ok, ops[k]? = some ok → k ≠ i → (listed.setIfInBounds j true).getD k true = false →
     (∀ e ∈ ok.after, Region.binds md e = true → e.on ≠ i) → oi.apart ops ok = true := fun k ok hk hki hun hno => by
    refine hfree k ok hk hki ?_ hno
    by_cases hjk : j = k
    ·subst hjk; exact hjun
    ·rw [getD_set_ne true hjk] at hun; exact hun
   refine wpOp_mono (fun a' w' h3 => ⟨fun _ => h3.2.1 hjl, ih (listed.setIfInBounds j true) a' w' hfree' (ready_mono hr (Ne.symm hji)) h3.1 (h3.2.1 hjl) ?_⟩) h2
   rw [Array.setIfInBounds_comm _ _ hji]
   exact h3.2.2
theorem wpAnyT_take (i : Nat) {d : Tmp} {op : Op} {ty : TypeId} {pos : String} {aft : Array Edge} {gd : Option (Nat × Bool)} {v : Value} {fuel : Nat} {listed : Array Bool} {a : Act} {w : World} (hi : ops[i]? = some ⟨some d, op, ty, pos, aft, gd⟩)
  (hs : Region.noSelect ops = true) (hf : Region.free md ops listed i = true) (hr : (Region.ready md ops listed).contains i = true) (hw : waitsB md ops last i = true) (hil : decide (i ≠ last) = true)
  (hQ : ∀ c a w, Q (.panic c) (a.put (some d) v) w → Q (.panic c) a w) (hy : YieldsIf P ops S ⟨some d, op, ty, pos, aft, gd⟩ v a) (hS : S w)
  (h : wpAnyT P md ops Q S last fuel (listed.setIfInBounds i true) (a.put (some d) v) w) : wpAnyT P md ops Q S last (fuel + 1) listed a w :=
 wpAnyT_first hi (Region.noSelect_spec hs) hQ hw (of_decide_eq_true hil) fuel listed a w (Region.free_spec hi hf) (by simpa using hr) hy hS h
theorem wpAnyT_one (i : Nat) {d : Option Tmp} {op : Op} {ty : TypeId} {pos : String} {aft : Array Edge} {gd : Option (Nat × Bool)} {fuel : Nat} {listed : Array Bool} {a : Act} {w : World} (ho : ops[i]? = some ⟨d, op, ty, pos, aft, gd⟩) (hr : Region.ready md ops listed = [i])
  (h : ∀ K : Act → World → Prop, RowKit.Hid (∀ a' w', (i ≠ last → S w') → wpAnyT P md ops Q S last fuel (listed.setIfInBounds i true) a' w' → K a' w') → if Region.wanted ⟨d, op, ty, pos, aft, gd⟩ (yielded ops a.tmps) = true then Oper.wp P ⟨d, op, ty, pos, aft, gd⟩ a w K Q else K (a.put d undef) w) : wpAnyT P md ops Q S last (fuel + 1) listed a w := by
 refine ⟨fun h0 => (by rw [hr] at h0; cases h0), fun j hj => ?_⟩
 rw [hr] at hj
 obtain rfl : j = i := by simpa using hj
 exact wpOp_step ho (fun K hK => h K (Lib.hid (fun a' w' h1 h2 => hK a' w' ⟨h1, h2⟩)))
theorem wpAnyT_done {listed : Array Bool} {a : Act} {w : World} (hr : Region.ready md ops listed = []) (h : Q .normal a w) : ∀ fuel, wpAnyT P md ops Q S last fuel listed a w
 | 0 => ⟨hr, h⟩
 | _ + 1 => ⟨fun _ => h, by rw [hr]; simp⟩
theorem wp_region_tail (S : World → Prop) (last : Nat) {id : Nat} {a : Act} {w : World} (hm : P.follows .mixedOrders = true)
  (h : wpAnyT P .any ops Q S last ops.size (Array.replicate ops.size false) a w.drew) : (Code.region id ops true).wp P Q a w :=
 wp_region_any hm (wpAny_of_tail _ _ _ _ h)
end
end
end Go.Proofs.YtmgchjddpmmglaaGreatDoor
