/-
  Layer 13 (inner), the program: the last write's value of a key, among operations. No conditions.
-/
import Derived.Test.YtmgchjddpmmglaaGreatDoorQxInB
import Derived.Test.YtmgchjddpmmglaaGreatDoorQxInK
namespace Go.Proofs.YtmgchjddpmmglaaGreatDoor
open Go.RowKit Go.Shelf Go.Lib
attribute [local go_sem] Oper.semAt_some
theorem load_bool {w : World} {b : Nat} {x : Value} (h : Blk w b 4 [x]) : (loadVar 4 ⟨b, 0, none⟩).run Tryz.prog w = .ok x w := by
 have h0 := h.cell 0 rfl
 simp [go_sem, h0]
theorem keeps_set {B : Nat} {w : World} (b i : Nat) (v : Value) (h : b < B) : KeepsFrom B w (w.setCell ⟨b, i, none⟩ v) :=
 KeepsFrom.of_grownBy (row := some b) ⟨rfl, rfl, rfl, by simp [World.setCell], fun k _ hk => Below.heap_setCell w _ v k (fun e => hk (by rw [e]))⟩ (fun j e => by cases e; exact h)
set_option maxRecDepth 100000 in
set_option maxHeartbeats 4000000 in
theorem last_any (p : Option Addr) (c : Nat) (L : List OpM) (key : Int) (w : World) (hL : L.length ≤ 1000) (ho : HasOps w p L) :
  Calls Tryz.prog 82 #[.slice p L.length c, .int .i64 key] w fun e w' => e = .returned (.tuple #[.agg #[.int .i64 (rawO key L).1.1, .int .i64 (rawO key L).1.2], .bool (rawO key L).2]) ∧ Below w.heap.size w w' := by
 refine (callsIn_wide (n := 10)).1 ?_
 refine callsIn_of_wp_marks Tryz.func82 rfl trivial ?_ rfl
 simp only [Tryz.ntmps82, List.size_toArray, List.length_cons, List.length_nil, Nat.reduceAdd, Nat.reduceSub, Array.replicate_succ, Array.replicate_zero, List.push_toArray, List.append_toArray, List.nil_append, List.cons_append]
 gi_wp2_with fail
 refine ⟨trivial, (back_in Fence.wide 9 trivial rfl _ _ _ _).mono ?_⟩
 rintro e w1 ⟨rfl, rfl⟩
 gi_wp2_with fail
 have b0 := (((Blk.new w 3 [.int .i64 key]).alloc (.cells #[.int .i64 0, .int .i64 0] 49)).alloc (.cells #[.bool false] 4)).alloc (.cells #[.slice p L.length c] 45)
 have b1 := ((Blk.new (w.alloc (.cells #[.int .i64 key] 3)) 49 [.int .i64 0, .int .i64 0]).alloc (.cells #[.bool false] 4)).alloc (.cells #[.slice p L.length c] 45)
 have b2 := (Blk.new ((w.alloc (.cells #[.int .i64 key] 3)).alloc (.cells #[.int .i64 0, .int .i64 0] 49)) 4 [.bool false]).alloc (.cells #[.slice p L.length c] 45)
 have b3 := Blk.new (((w.alloc (.cells #[.int .i64 key] 3)).alloc (.cells #[.int .i64 0, .int .i64 0] 49)).alloc (.cells #[.bool false] 4)) 45 [.slice p L.length c]
 have hal := ((((Below.refl w.heap.size w).alloc (Nat.le_refl _) (.cells #[.int .i64 key] 3)).alloc (by simp) (.cells #[.int .i64 0, .int .i64 0] 49)).alloc (by simp; omega) (.cells #[.bool false] 4)).alloc (by simp; omega) (.cells #[.slice p L.length c] 45)
 simp only [World.size_alloc] at b1 b2 b3
 obtain ⟨W1, hW1⟩ : ∃ W1, (((w.alloc (.cells #[.int .i64 key] 3)).alloc (.cells #[.int .i64 0, .int .i64 0] 49)).alloc (.cells #[.bool false] 4)).alloc (.cells #[.slice p L.length c] 45) = W1 := ⟨_, rfl⟩
 rw [hW1] at b0 b1 b2 b3 hal ⊢
 have hz : w.heap.size + 1 + 1 + 1 < W1.heap.size := b3.lt
 have B0 := Lib.hid b0
 have B1 := Lib.hid b1
 have B2 := Lib.hid b2
 have HAL := Lib.hid hal
 have HSt := Lib.hid (back_stops Fence.wide 9 trivial rfl (by omega) (w.heap.size + 1 + 1 + 1) W1 p c L hL (ho.below hal) (b3.cell 0 rfl))
 clear hW1 b0 b1 b2 b3 hal ho
 refine wpIn_rangeFunc_ownH rfl (by omega) (gf := 185) (lb := #[.pointer (some ⟨w.heap.size + 1 + 1 + 1, 0, none⟩)]) rfl trivial (enters_of Tryz.func185 (by kernel_rfl) rfl)
  HSt.out belowK_t (belowK_b (Nat.le_refl _)) (Below.refl _ _) (fun _ => rfl)
  (fun pre W => (∀ x ∈ pre, wrO key x.2 = false) ∧ Below W1.heap.size W1 W)
  (fun c pre W => (c = .ret ∧ ∃ q x, pre = q ++ [x] ∧ (∀ y ∈ q, wrO key y.2 = false) ∧ wrO key x.2 = true ∧ Blk W (w.heap.size + 1) 49 [.int .i64 x.2.2.2.1, .int .i64 x.2.2.2.2] ∧ Blk W (w.heap.size + 1 + 1) 4 [.bool true]) ∧ Below w.heap.size w W)
  (OwnFrom.and (fun s A B row hs hg hr => hs) (ownFrom_below (Nat.le_refl _) (Nat.le_refl _)))
  (fun c => OwnFrom.and (fun s A B row hs hg hr => by
    obtain ⟨e, q, x, h1, h2, h3, h4, h5⟩ := hs
    have hne : ∀ b, b < W1.heap.size → some b ≠ row := fun b hb e => by have := (hr b e.symm).1; omega
    exact ⟨e, q, x, h1, h2, h3, h4.kept hg (hne _ (by omega)), h5.kept hg (hne _ (by omega))⟩) (ownFrom_below (Nat.le_refl _) (by omega)))
  ⟨(fun x hx => by cases hx), Below.refl _ _⟩
  (fun x a' W => ∃ Bx, W1.heap.size ≤ Bx ∧ Blk W Bx 51 [.bool x.2.1, .int .i64 x.2.2.1, .int .i64 x.2.2.2.1, .int .i64 x.2.2.2.2] ∧ a' = { tmps := #[.slice p L.length c, .int .i64 key, undef, .pointer (some ⟨w.heap.size, 0, none⟩), .pointer (some ⟨w.heap.size + 1, 0, none⟩), .pointer (some ⟨w.heap.size + 1 + 1, 0, none⟩), undef, .pointer (some ⟨Bx, 0, none⟩), .slice p L.length c, .func (.func 185) #[] #[.pointer (some ⟨w.heap.size + 1 + 1 + 1, 0, none⟩)], .int .i64 (x.1 : Nat), .agg #[.bool x.2.1, .int .i64 x.2.2.1, .int .i64 x.2.2.2.1, .int .i64 x.2.2.2.2], undef, undef, undef, undef, undef, undef, undef, undef, undef, undef, undef], defers := [] })
  (fun x a' _ X Y row hs hg hr => by
   obtain ⟨Bx, r1, r2, r3⟩ := hs
   exact ⟨Bx, r1, r2.kept hg (fun e => by obtain ⟨-, o, ho, hc⟩ := hr Bx e.symm; have r2' : X.heap[Bx]? = some _ := r2; rw [r2'] at ho; cases ho; cases hc), r3⟩)
  ?assign ?body ?done ?stop
 case assign =>
  rintro l pre x W K ⟨q1, hB⟩ hK
  simp only [encB]
  gi_wp2
  exact hK _ _ ((KeepsOthers.alloc _ _).from _) ((Below.refl _ W).alloc hB.size _) ⟨q1, hB.alloc hB.size _⟩ ⟨W.heap.size, hB.size, Blk.new W _ [_, _, _, _], rfl⟩
 case body =>
  rintro l pre ⟨j, ow, ok, od, on⟩ a' W hl - ⟨q1, hB⟩ ⟨Bx, hBx, bX, rfl⟩ hlt2
  dsimp only at bX ⊢
  have z0 := bX.cell 0 rfl
  have z1 := bX.cell 1 rfl
  have z2 := bX.cell 2 rfl
  have z3 := bX.cell 3 rfl
  have zl := bX.lt
  have kc := (B0.out.later hB).cell 0 rfl
  have HV := Lib.hid (B1.out.later hB)
  have HT := Lib.hid (B2.out.later hB)
  have HB := Lib.hid hB
  have Q1 := Lib.hid q1
  clear bX q1 hB
  cases ow with
  | false =>
   gi_wp2_with fail
   exact ⟨keepsFrom_below (Below.refl _ _), Below.refl _ _, (fun y hy => by
    rcases List.mem_append.1 hy with hy | hy
    ·exact Q1.out y hy
    ·obtain rfl : y = _ := by simpa using hy
     rfl), HB.out⟩
  | true =>
   by_cases hk : ok = key
   ·subst hk
    have r0 := HV.out.cell 0 rfl
    have r1 := HV.out.cell 1 rfl
    have f0 := HV.out.frozen 0
    have f1 := HV.out.frozen 1
    have s0 := HT.out.cell 0 rfl
    have sf := HT.out.frozen 0
    gi_wp2_with fail
    have hb1 := (((HAL.out.trans (HB.out.mono (by omega))).setCell (p := ⟨w.heap.size + 1, 0, none⟩) (by show w.heap.size ≤ w.heap.size + 1; omega) (.int .i64 od)).setCell (p := ⟨w.heap.size + 1, 1, none⟩) (by show w.heap.size ≤ w.heap.size + 1; omega) (.int .i64 on)).setCell (p := ⟨w.heap.size + 1 + 1, 0, none⟩) (by show w.heap.size ≤ w.heap.size + 1 + 1; omega) (.bool true)
    refine ⟨((keeps_set (w.heap.size + 1) 0 _ (by omega)).trans (keeps_set (w.heap.size + 1) 1 _ (by omega))).trans (keeps_set (w.heap.size + 1 + 1) 0 _ (by omega)), ⟨rfl, pre, _, rfl, Q1.out, ?_, ?_, ?_⟩, hb1⟩
    ·show (true && ok == ok) = true
     simp
    ·exact (store2 HV.out _ _).far (by show w.heap.size + 1 ≠ w.heap.size + 1 + 1; omega) _
    ·exact ((HT.out.far (by show w.heap.size + 1 + 1 ≠ w.heap.size + 1; omega) _).far (by show w.heap.size + 1 + 1 ≠ w.heap.size + 1; omega) _).set 0 _
   ·have hk2 : (ok == key) = false := beq_eq_false_iff_ne.2 hk
    gi_wp2_with fail
    exact ⟨keepsFrom_below (Below.refl _ _), Below.refl _ _, (fun y hy => by
     rcases List.mem_append.1 hy with hy | hy
     ·exact Q1.out y hy
     ·obtain rfl : y = _ := by simpa using hy
      exact hk2), HB.out⟩
 case done =>
  rintro Dd xs W hD hS ⟨q1, hB⟩ hd
  have hraw : rawO key L = noGot := raw_none key L (by rw [← hS]; exact q1)
  have HV := Lib.hid (B1.out.later hB)
  have HT := Lib.hid (B2.out.later hB)
  have HB := Lib.hid hB
  have HD := Lib.hid hd
  have r0 := HV.out.cell 0 rfl
  have r1 := HV.out.cell 1 rfl
  have f0 := HV.out.frozen 0
  have f1 := HV.out.frozen 1
  have s0 := HT.out.cell 0 rfl
  have sf := HT.out.frozen 0
  have HR := Lib.hid hraw
  clear q1 hB hS hd hraw
  gi_wp2_with fail
  have hb1 := (((HAL.out.trans (HB.out.mono (by omega))).setCell (p := ⟨w.heap.size + 1, 0, none⟩) (by show w.heap.size ≤ w.heap.size + 1; omega) (.int .i64 0)).setCell (p := ⟨w.heap.size + 1, 1, none⟩) (by show w.heap.size ≤ w.heap.size + 1; omega) (.int .i64 0)).setCell (p := ⟨w.heap.size + 1 + 1, 0, none⟩) (by show w.heap.size ≤ w.heap.size + 1 + 1; omega) (.bool false)
  have hd2 : (((W.setCell ⟨w.heap.size + 1, 0, none⟩ (.int .i64 0)).setCell ⟨w.heap.size + 1, 1, none⟩ (.int .i64 0)).setCell ⟨w.heap.size + 1 + 1, 0, none⟩ (.bool false)).heap[Dd]? = some (.deferred (some [])) := by
   rw [Below.heap_setCell _ _ _ _ (by show Dd ≠ w.heap.size + 1 + 1; omega), Below.heap_setCell _ _ _ _ (by show Dd ≠ w.heap.size + 1; omega), Below.heap_setCell _ _ _ _ (by show Dd ≠ w.heap.size + 1; omega)]
   exact HD.out
  have hv := blk_put ((store2 HV.out (.int .i64 0) (.int .i64 0)).far (a := ⟨w.heap.size + 1 + 1, 0, none⟩) (by show w.heap.size + 1 ≠ w.heap.size + 1 + 1; omega) (.bool false)) (l := Dd) (by omega) (.deferred none)
  have ht := blk_put (((HT.out.far (a := ⟨w.heap.size + 1, 0, none⟩) (by show w.heap.size + 1 + 1 ≠ w.heap.size + 1; omega) (.int .i64 0)).far (a := ⟨w.heap.size + 1, 1, none⟩) (by show w.heap.size + 1 + 1 ≠ w.heap.size + 1; omega) (.int .i64 0)).set 0 (.bool false)) (l := Dd) (by omega) (.deferred none)
  refine ⟨by simp, .inl ⟨_, _, rfl, run_takeDeferred hd2, ?_⟩⟩
  exact ⟨_, results_cc Tryz.results82 _ _ _ _ _ _ _ rfl rfl (load_val hv) (load_bool ht), by rw [HR.out] <;> rfl, hb1.trans (belowK_b (w := W1) (by omega) _ Dd _ _ hD hd2 rfl rfl)⟩
 case stop =>
  rintro Dd c2 pre W hD hpf ⟨⟨rfl, q, x, rfl, h2, h3, h4, h5⟩, hB⟩ hd
  have hraw := raw_hit key L q x hpf h2 h3
  have HB := Lib.hid hB
  have HD := Lib.hid hd
  have HR := Lib.hid hraw
  clear hB hraw h2 h3 hpf hd
  have hv := blk_put h4 (l := Dd) (by omega) (.deferred none)
  have ht := blk_put h5 (l := Dd) (by omega) (.deferred none)
  gi_wp2_with fail
  refine ⟨by simp, .inl ⟨_, _, rfl, run_takeDeferred HD.out, ?_⟩⟩
  exact ⟨_, results_cc Tryz.results82 _ _ _ _ _ _ _ rfl rfl (load_val hv) (load_bool ht), by rw [HR.out] <;> rfl, HB.out.trans (belowK_b (w := W1) (by omega) _ Dd _ _ hD HD.out rfl rfl)⟩
end Go.Proofs.YtmgchjddpmmglaaGreatDoor
