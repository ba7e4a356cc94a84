/-
  Layer 5 (value): the document's values in order, which one is ahead, and whether two lists are the same, walked. No conditions.
-/
import Derived.Test.YtldcbapjiflblaaVVc
import Derived.Test.YtldcbapjiflblaaVxVsT
import Derived.Test.YtldcbapjiflblaaVVe
namespace Go.Proofs.Ytldcbapjiflblaa
open Go.RowKit Go.Lib
def sortKV (L : List ValV) (k : Nat) : List ValV := sortedV (L.take k)
theorem sortKV_next (L : List ValV) (k : Nat) (hk : k < L.length) : sortKV L (k + 1) = if okV (L.getD k noVal) then insV (L.getD k noVal) (sortKV L k) else sortKV L k := by
 have e : L.take (k + 1) = L.take k ++ [L.getD k noVal] := by
  rw [List.take_add_one]
  simp [hk]
 unfold sortKV sortedV
 rw [e, List.foldl_append]
 rfl
theorem sortKV_len (L : List ValV) (k : Nat) : (sortKV L k).length ≤ k := Nat.le_trans (sortedV_len _) (by rw [List.length_take]; omega)
theorem valsC_take : ∀ (L : List ValV) (j : Nat), valsC (L.take j) = (valsC L).take (j * 2)
 | [], j => by simp [valsC]
 | x :: L, 0 => rfl
 | x :: L, j + 1 => by
  have e : (j + 1) * 2 = j * 2 + 1 + 1 := by omega
  rw [List.take_succ_cons, e]
  show .int .i64 x.1 :: .int .i64 x.2 :: valsC (L.take j) = .int .i64 x.1 :: .int .i64 x.2 :: (valsC L).take (j * 2)
  rw [valsC_take L j]
theorem valsC_drop : ∀ (L : List ValV) (j : Nat), valsC (L.drop j) = (valsC L).drop (j * 2)
 | [], j => by simp [valsC]
 | x :: L, 0 => rfl
 | x :: L, j + 1 => by
  have e : (j + 1) * 2 = j * 2 + 1 + 1 := by omega
  rw [List.drop_succ_cons, e]
  exact valsC_drop L j
def ValsO (w : World) (v : Value) (L : List ValV) : Prop := ∃ g co, v = .slice (some ⟨g, 0, none⟩) L.length co ∧ (L.length ≤ co ∧ co ≤ maxLen) ∧ ∀ q u, (valsC L)[q]? = some u → w.cell? ⟨g, q, none⟩ = some u
theorem ValsO.below {w w' : World} {v : Value} {L : List ValV} (h : ValsO w v L) (hb : Below w.heap.size w w') : ValsO w' v L := by
 obtain ⟨g, co, e, hc, hh⟩ := h
 exact ⟨g, co, e, hc, fun q u hq => cell_later hb (hh q u hq)⟩
theorem own_valsO {w : World} {B n : Nat} {e : TypeId} {v : Value} {xs : List Value} {L : List ValV} (h : w.ownsRow B e 2 v n xs) (he : xs = valsC L) (hn : n = L.length) (h0 : 0 < n) : ValsO w v L := by
 subst he
 rcases h.2 with ⟨-, h1⟩ | ⟨g, cap, cur, rfl, -, hw, h1, h2, -⟩
 ·omega
 ·have h3 := h
  subst hn
  refine ⟨g, cap, rfl, ⟨h1, h2⟩, fun q u hq => ?_⟩
  have hl := (List.getElem?_eq_some_iff.1 hq).1
  rw [valsC_len] at hl
  rw [h3.cellAt q hl]
  exact hq
theorem valsO_at {w : World} {g : Nat} {L : List ValV} (h : ∀ q u, (valsC L)[q]? = some u → w.cell? ⟨g, q, none⟩ = some u) (j : Nat) (hj : j < L.length) : w.cell? ⟨g, j * 2, none⟩ = some (.int .i64 (L.getD j noVal).1) ∧ w.cell? ⟨g, j * 2 + 1, none⟩ = some (.int .i64 (L.getD j noVal).2) := by
 have e1 := vals_at L (j * 2) (by omega)
 have e2 := vals_at L (j * 2 + 1) (by omega)
 rw [if_pos (by omega), show j * 2 / 2 = j by omega] at e1
 rw [if_neg (by omega), show (j * 2 + 1) / 2 = j by omega] at e2
 exact ⟨h _ _ e1, h _ _ e2⟩
theorem ValsO.vals {w : World} {v : Value} {L : List ValV} (h : ValsO w v L) : ValsS w v L := by
 obtain ⟨g, co, e, hc, hh⟩ := h
 exact ⟨_, co, e, hc, fun j hj => ⟨g, rfl, valsO_at hh j hj⟩⟩
set_option maxRecDepth 100000 in
set_option maxHeartbeats 4000000 in
theorem rvsorted_any (w : World) (p : Option Addr) (c : Nat) (L : List ValV) (h : HasVals w p L) (hL : L.length ≤ 1000) :
  Calls Try.prog 6 #[.slice p L.length c] w fun e w' => ∃ v', e = .returned v' ∧ ValsO w' v' (sortedV L) ∧ Below w.heap.size w w' := by
 have HX := Lib.hid h
 clear h
 obtain ⟨i1, hj, hj0, hj1, hj2⟩ := info_parts info_val
 obtain ⟨R, hR⟩ : ∃ R, sortedV L = R := ⟨_, rfl⟩
 rw [hR]
 have HR : RowKit.Hid (sortKV L L.length = R) := Lib.hid (by unfold sortKV; rw [List.take_length]; exact hR)
 clear hR
 go_enter Try.func6, Try.ntmps6
 go_wp2_with fail
 go_loopw [3, 4] (fun out i wr => ∃ k : Nat, k ≤ L.length ∧ i = .int .i64 k ∧ ValsO wr out (sortKV L k) ∧ Below w.heap.size w wr) (fun _ i _ => L.length - (RowKit.intOf i).toNat)
 case atStart => exact ⟨0, Nat.zero_le _, rfl, ⟨_, _, rfl, ⟨Nat.le_refl _, Nat.zero_le _⟩, fun q u hq => by simp [sortKV, sortedV, valsC] at hq⟩, (Below.refl _ _).alloc (Nat.le_refl _) _⟩
 case round =>
  obtain ⟨k, hk, rfl, hout, hbw⟩ := hrel
  by_cases hlt : k < L.length
  ·obtain ⟨gl, rfl, d0, d1⟩ := HX.out k hlt
   have b0 := cell_later hbw d0
   have b1 := cell_later hbw d1
   have hnx := sortKV_next L k hlt
   have hslen := sortKV_len L k
   obtain ⟨⟨x1, x2⟩, hx⟩ : ∃ x, L.getD k noVal = x := ⟨_, rfl⟩
   rw [hx] at b0 b1 hnx
   dsimp only at b0 b1
   obtain ⟨S, hS⟩ : ∃ S, sortKV L k = S := ⟨_, rfl⟩
   rw [hS] at hout hnx hslen
   obtain ⟨go, co, rfl, ⟨hco, hcm⟩, hcells⟩ := hout
   unfold maxLen at hcm
   have HC := Lib.hid hcells
   have HM := Lib.hid (refmay_any x1 x2)
   clear d0 d1 hx hS hcells
   obtain ⟨m, hm⟩ : ∃ m, okV (x1, x2) = m := ⟨_, rfl⟩
   rw [hm] at hnx
   rw [show mayV x1 x2 = m from hm] at HM
   clear hm
   go_wp2_with fail
   refine (HM.out _).mono ?_
   rintro e w1 ⟨rfl, hb1⟩
   have c0 := cell_later hb1 b0
   have c1 := cell_later hb1 b1
   have HC1 : RowKit.Hid (∀ q u, (valsC S)[q]? = some u → w1.cell? ⟨go, q, none⟩ = some u) := Lib.hid (fun q u hq => cell_later hb1 (HC.out q u hq))
   have hb01 := below_next hbw hb1
   clear HC HM hb1 b0 b1 hbw
   cases m with
   | false =>
    simp only [Bool.false_eq_true, if_false] at hnx
    have HN := Lib.hid hnx
    clear hnx
    go_wp2_with fail
    go_roundw
    case rel => exact ⟨k + 1, by omega, by go_num, by rw [HN.out]; exact ⟨go, co, rfl, ⟨hco, hcm⟩, HC1.out⟩, hb01⟩
    case measure => simp [RowKit.intOf]; omega
   | true =>
    simp only [if_true] at hnx
    obtain ⟨q1, q2, q3, q4⟩ := insV_at (x1, x2) S
    rw [q4] at hnx
    have HN := Lib.hid hnx
    have HQ := Lib.hid q2
    have HQ3 := Lib.hid q3
    generalize aheadV (x1, x2) S = A at *
    clear hnx q4 q2 q3
    go_wp2_with fail
    go_loopw [5] (fun a wa => ∃ j : Nat, j ≤ A ∧ a = .int .i64 j ∧ Below w1.heap.size w1 wa) (fun a _ => A - (RowKit.intOf a).toNat)
    case atStart => exact ⟨0, Nat.zero_le _, rfl, Below.refl _ _⟩
    case round =>
     obtain ⟨j, hjA, rfl, hba⟩ := hrel
     obtain ⟨wa, rfl⟩ : ∃ q, q = wr := ⟨_, rfl⟩
     have z0 := cell_later hba c0
     have z1 := cell_later hba c1
     by_cases hjS : j < S.length
     ·obtain ⟨t0, t1⟩ := valsO_at HC1.out j hjS
      have y0 := cell_later hba t0
      have y1' := cell_later hba t1
      have HBJ0 : (ltV (S.getD j noVal) (x1, x2) = true ∧ j < A) ∨ (ltV (S.getD j noVal) (x1, x2) = false ∧ j = A) := by
       by_cases hq : j < A
       ·exact .inl ⟨HQ.out j hq, hq⟩
       ·obtain rfl : j = A := by omega
        exact .inr ⟨HQ3.out hjS, rfl⟩
      obtain ⟨⟨y1, y2⟩, hy⟩ : ∃ y, S.getD j noVal = y := ⟨_, rfl⟩
      rw [hy] at y0 y1' HBJ0
      have HY := Lib.hid hy
      dsimp only at y0 y1'
      obtain ⟨b, hb⟩ : ∃ b, ltV (y1, y2) (x1, x2) = b := ⟨_, rfl⟩
      rw [hb] at HBJ0
      have HL := Lib.hid (refless_any y1 y2 x1 x2)
      rw [show lessV y1 y2 x1 x2 = b from hb] at HL
      have HBJ := Lib.hid HBJ0
      clear HBJ0 hb hy t0 t1
      have HS : RowKit.Hid (∀ w', Below wa.heap.size wa w' → w'.cell? ⟨go, j * 2, none⟩ = some (.int .i64 y1) ∧ w'.cell? ⟨go, j * 2 + 1, none⟩ = some (.int .i64 y2) ∧ w'.cell? ⟨gl, k * 2, none⟩ = some (.int .i64 x1) ∧ w'.cell? ⟨gl, k * 2 + 1, none⟩ = some (.int .i64 x2) ∧ Below wa.heap.size wa w') := Lib.hid (fun w' hb => ⟨cell_later hb y0, cell_later hb y1', cell_later hb z0, cell_later hb z1, hb⟩)
      go_wp2_with fail
      refine wpk HS [] (by kernel_rfl) fun hB0 hS0 => ?_
      refine wfr 0 (v := ?_) rfl ?_ ?_
      rotate_left
      ·intro w' hw';go_simp;try with_reducible rfl
      try simp only [Act.put, sq]
      refine won 1 rfl fun K hK => ?_
      go_simp
      refine hK.out _ _ (fun _ h => h) ?_
      clear hK K
      try simp only [Act.put, sq]
      refine won 2 rfl fun K hK => ?_
      go_simp
      refine hK.out _ _ (fun _ h => h) ?_
      clear hK K
      try simp only [Act.put, sq]
      refine won 3 rfl fun K hK => ?_
      go_simp
      refine hK.out _ _ (fun _ h => h) ?_
      clear hK K
      try simp only [Act.put, sq]
      refine won 4 rfl fun K hK => ?_
      go_simp
      refine hK.out _ _ (fun _ h => h) ?_
      clear hK K
      try simp only [Act.put, sq]
      refine wfr 5 (v := ?_) rfl ?_ ?_
      rotate_left
      ·intro w' hw';go_simp;try with_reducible rfl
      try simp only [Act.put, sq]
      refine wfr 6 (v := ?_) rfl ?_ ?_
      rotate_left
      ·intro w' hw';go_simp;try with_reducible rfl
      try simp only [Act.put, sq]
      refine wfr 7 (v := ?_) rfl ?_ ?_
      rotate_left
      ·intro w' hw';go_simp;try with_reducible rfl
      try simp only [Act.put, sq]
      refine wtk 8 15 (v := ?_) rfl ?_ hS0 ?_
      rotate_left
      ·intro w' hw';(try dsimp only at hw');go_simp;try with_reducible rfl
      try simp only [Act.put, sq]
      refine wfr 9 (v := ?_) rfl ?_ ?_
      rotate_left
      ·intro w' hw';go_simp;try with_reducible rfl
      try simp only [Act.put, sq]
      refine won 10 rfl fun K hK => ?_
      go_simp
      refine hK.out _ _ (fun _ h => h) ?_
      clear hK K
      try simp only [Act.put, sq]
      refine won 11 rfl fun K hK => ?_
      go_simp
      refine hK.out _ _ (fun _ h => h) ?_
      clear hK K
      try simp only [Act.put, sq]
      refine won 12 rfl fun K hK => ?_
      go_simp
      refine hK.out _ _ (fun _ h => h) ?_
      clear hK K
      try simp only [Act.put, sq]
      refine won 13 rfl fun K hK => ?_
      go_simp
      refine (HL.out _).mono ?_
      rintro e w1 ⟨rfl, hb1⟩
      have hB1 := below_next hB0 hb1
      have hS1 := HS.out _ hB1
      refine hK.out _ _ (fun _ _ => hS1) ?_
      clear hK K hS0
      try simp only [Act.put, sq]
      refine won 14 rfl fun K hK => ?_
      go_simp
      refine hK.out _ _ (fun _ h => h) ?_
      clear hK K
      try simp only [Act.put, sq]
      refine wpAnyM_done (by kernel_rfl) ?_ _
      try simp only [Act.put, sq]
      clear hS1 HL HS hB0
      obtain ⟨WZ, rfl⟩ : ∃ q, q = w1 := ⟨_, rfl⟩
      have hbz := hB1
      rcases HBJ.out with ⟨rfl, hjA⟩ | ⟨rfl, hjA⟩
      ·clear HBJ
       go_wp2_with fail
       go_roundw
       case rel => exact ⟨j + 1, by omega, by go_num, below_next hba hbz⟩
       case measure => simp [RowKit.intOf]; omega
      ·subst hjA
       have hje : ((j : Int) == (S.length : Int)) = false := by
        rw [beq_eq_false_iff_ne]
        omega
       go_wp2_with fail
       have hcs : (x1 = y1 ∧ x2 = y2) ∨ (¬ y1 = x1) ∨ (x1 = y1 ∧ ¬ y2 = x2) := by omega
       rcases hcs with ⟨h1, h2⟩ | hne | ⟨h1, hne⟩
       ·subst h1
        subst h2
        clear HBJ
        have HS : RowKit.Hid (∀ w', Below WZ.heap.size WZ w' → w'.cell? ⟨go, j * 2, none⟩ = some (.int .i64 x1) ∧ w'.cell? ⟨go, j * 2 + 1, none⟩ = some (.int .i64 x2) ∧ w'.cell? ⟨gl, k * 2, none⟩ = some (.int .i64 x1) ∧ w'.cell? ⟨gl, k * 2 + 1, none⟩ = some (.int .i64 x2) ∧ Below WZ.heap.size WZ w') := Lib.hid (fun w' hb => ⟨cell_later (below_next hbz hb) y0, cell_later (below_next hbz hb) y1', cell_later (below_next hbz hb) z0, cell_later (below_next hbz hb) z1, hb⟩)
        refine wpk HS [] (by kernel_rfl) fun hB0 hS0 => ?_
        refine wfr 0 (v := ?_) rfl ?_ ?_
        rotate_left
        ·intro w' hw';go_simp;try with_reducible rfl
        try simp only [Act.put, sq]
        refine won 1 rfl fun K hK => ?_
        go_simp
        refine hK.out _ _ (fun _ h => h) ?_
        clear hK K
        try simp only [Act.put, sq]
        refine won 2 rfl fun K hK => ?_
        go_simp
        refine hK.out _ _ (fun _ h => h) ?_
        clear hK K
        try simp only [Act.put, sq]
        refine won 3 rfl fun K hK => ?_
        go_simp
        refine hK.out _ _ (fun _ h => h) ?_
        clear hK K
        try simp only [Act.put, sq]
        refine won 4 rfl fun K hK => ?_
        go_simp
        refine hK.out _ _ (fun _ h => h) ?_
        clear hK K
        try simp only [Act.put, sq]
        refine wfr 5 (v := ?_) rfl ?_ ?_
        rotate_left
        ·intro w' hw';go_simp;try with_reducible rfl
        try simp only [Act.put, sq]
        refine wfr 6 (v := ?_) rfl ?_ ?_
        rotate_left
        ·intro w' hw';go_simp;try with_reducible rfl
        try simp only [Act.put, sq]
        refine wfr 7 (v := ?_) rfl ?_ ?_
        rotate_left
        ·intro w' hw';go_simp;try with_reducible rfl
        try simp only [Act.put, sq]
        refine wtk 8 15 (v := ?_) rfl ?_ hS0 ?_
        rotate_left
        ·intro w' hw';(try dsimp only at hw');go_simp;try with_reducible rfl
        try simp only [Act.put, sq]
        refine wfr 9 (v := ?_) rfl ?_ ?_
        rotate_left
        ·intro w' hw';go_simp;try with_reducible rfl
        try simp only [Act.put, sq]
        refine won 10 rfl fun K hK => ?_
        go_simp
        refine hK.out _ _ (fun _ h => h) ?_
        clear hK K
        try simp only [Act.put, sq]
        refine won 11 rfl fun K hK => ?_
        go_simp
        refine hK.out _ _ (fun _ h => h) ?_
        clear hK K
        try simp only [Act.put, sq]
        refine won 12 rfl fun K hK => ?_
        go_simp
        refine hK.out _ _ (fun _ h => h) ?_
        clear hK K
        try simp only [Act.put, sq]
        refine won 13 rfl fun K hK => ?_
        go_simp
        refine hK.out _ _ (fun _ h => h) ?_
        clear hK K
        try simp only [Act.put, sq]
        refine won 14 rfl fun K hK => ?_
        go_simp
        refine hK.out _ _ (fun _ h => h) ?_
        clear hK K
        try simp only [Act.put, sq]
        refine wpAnyM_done (by kernel_rfl) ?_ _
        try simp only [Act.put, sq]
        have HN2 : RowKit.Hid (sortKV L (k + 1) = S) := Lib.hid (by rw [HN.out, if_pos ⟨hjS, HY.out⟩])
        clear hS0 HS
        have hbf := below_next (below_next hba hbz) hB0
        have HC4 : RowKit.Hid (∀ q u, (valsC S)[q]? = some u → WZ.drew.cell? ⟨go, q, none⟩ = some u) := Lib.hid (fun q u hq => cell_later hbf (HC1.out q u hq))
        go_wp2_with fail
        go_roundw
        case rel => exact ⟨k + 1, by omega, by go_num, by rw [HN2.out]; exact ⟨go, co, rfl, ⟨hco, hcm⟩, HC4.out⟩, below_next hb01 hbf⟩
        case measure => simp [RowKit.intOf]; omega
       ·have HNe : RowKit.Hid (¬ ((y1, y2) : ValV) = (x1, x2)) := Lib.hid (fun h => hne (congrArg Prod.fst h))
        clear HBJ
        have HS : RowKit.Hid (∀ w', Below WZ.heap.size WZ w' → w'.cell? ⟨go, j * 2, none⟩ = some (.int .i64 y1) ∧ w'.cell? ⟨go, j * 2 + 1, none⟩ = some (.int .i64 y2) ∧ w'.cell? ⟨gl, k * 2, none⟩ = some (.int .i64 x1) ∧ w'.cell? ⟨gl, k * 2 + 1, none⟩ = some (.int .i64 x2) ∧ Below WZ.heap.size WZ w') := Lib.hid (fun w' hb => ⟨cell_later (below_next hbz hb) y0, cell_later (below_next hbz hb) y1', cell_later (below_next hbz hb) z0, cell_later (below_next hbz hb) z1, hb⟩)
        refine wpk HS [] (by kernel_rfl) fun hB0 hS0 => ?_
        refine wfr 0 (v := ?_) rfl ?_ ?_
        rotate_left
        ·intro w' hw';go_simp;try with_reducible rfl
        try simp only [Act.put, sq]
        refine won 1 rfl fun K hK => ?_
        go_simp
        refine hK.out _ _ (fun _ h => h) ?_
        clear hK K
        try simp only [Act.put, sq]
        refine won 2 rfl fun K hK => ?_
        go_simp
        refine hK.out _ _ (fun _ h => h) ?_
        clear hK K
        try simp only [Act.put, sq]
        refine won 3 rfl fun K hK => ?_
        go_simp
        refine hK.out _ _ (fun _ h => h) ?_
        clear hK K
        try simp only [Act.put, sq]
        refine won 4 rfl fun K hK => ?_
        go_simp
        refine hK.out _ _ (fun _ h => h) ?_
        clear hK K
        try simp only [Act.put, sq]
        refine wfr 5 (v := ?_) rfl ?_ ?_
        rotate_left
        ·intro w' hw';go_simp;try with_reducible rfl
        try simp only [Act.put, sq]
        refine wfr 6 (v := ?_) rfl ?_ ?_
        rotate_left
        ·intro w' hw';go_simp;try with_reducible rfl
        try simp only [Act.put, sq]
        refine wfr 7 (v := ?_) rfl ?_ ?_
        rotate_left
        ·intro w' hw';go_simp;try with_reducible rfl
        try simp only [Act.put, sq]
        refine wtk 8 15 (v := ?_) rfl ?_ hS0 ?_
        rotate_left
        ·intro w' hw';(try dsimp only at hw');go_simp;try with_reducible rfl
        try simp only [Act.put, sq]
        refine wfr 9 (v := ?_) rfl ?_ ?_
        rotate_left
        ·intro w' hw';go_simp;try with_reducible rfl
        try simp only [Act.put, sq]
        refine won 10 rfl fun K hK => ?_
        go_simp
        refine hK.out _ _ (fun _ h => h) ?_
        clear hK K
        try simp only [Act.put, sq]
        refine won 11 rfl fun K hK => ?_
        go_simp
        refine hK.out _ _ (fun _ h => h) ?_
        clear hK K
        try simp only [Act.put, sq]
        refine won 12 rfl fun K hK => ?_
        go_simp
        refine hK.out _ _ (fun _ h => h) ?_
        clear hK K
        try simp only [Act.put, sq]
        refine won 13 rfl fun K hK => ?_
        go_simp
        refine hK.out _ _ (fun _ h => h) ?_
        clear hK K
        try simp only [Act.put, sq]
        refine won 14 rfl fun K hK => ?_
        go_simp
        refine hK.out _ _ (fun _ h => h) ?_
        clear hK K
        try simp only [Act.put, sq]
        refine wpAnyM_done (by kernel_rfl) ?_ _
        try simp only [Act.put, sq]
        clear hB0 hS0
        obtain ⟨WB, hWB⟩ : ∃ q, WZ.drew = q := ⟨_, rfl⟩
        have hBz : Below wa.heap.size wa WB := by rw [← hWB]; exact below_next hbz (Below.drew (Below.refl _ _))
        rw [hWB]
        clear hWB HS hbz
        go_wp2_with fail
        have hb1B := below_next hba hBz
        have HSl : RowKit.Hid (∀ w', Below WB.heap.size WB w' → ∀ q u, (valsC S)[q]? = some u → w'.cell? ⟨go, q, none⟩ = some u) := Lib.hid (fun w' hb q u hq => cell_later (below_next hb1B hb) (HC1.out q u hq))
        have HTk : RowKit.Hid (∀ w', Below WB.heap.size WB w' → ∀ q u, (valsC (S.take (j)))[q]? = some u → w'.cell? ⟨go, q, none⟩ = some u) := Lib.hid (fun w' hb q u hq => HSl.out w' hb q u (by
         rw [valsC_take] at hq
         have hq2 := (List.getElem?_eq_some_iff.1 hq).1
         rw [List.length_take] at hq2
         rw [List.getElem?_take_of_lt (by omega)] at hq
         exact hq))
        have HDr : RowKit.Hid (∀ w', Below WB.heap.size WB w' → ∀ q u, (valsC (S.drop (j)))[q]? = some u → w'.cell? ⟨go, (j) * 2 + q, none⟩ = some u) := Lib.hid (fun w' hb q u hq => HSl.out w' hb _ u (by
         rw [valsC_drop, List.getElem?_drop] at hq
         exact hq))
        have HS : RowKit.Hid (∀ w', Below WB.heap.size WB w' → w'.cell? ⟨gl, k * 2, none⟩ = some (.int .i64 x1) ∧ w'.cell? ⟨gl, k * 2 + 1, none⟩ = some (.int .i64 x2) ∧ Below WB.heap.size WB w') := Lib.hid (fun w' hb => ⟨cell_later (below_next hb1B hb) c0, cell_later (below_next hb1B hb) c1, hb⟩)
        have HB0 := Lib.hid (below_next hb01 hb1B)
        clear HSl
        have hcj : ¬ co = j := by omega
        have hjc : j ≤ co := by omega
        have HN2 : RowKit.Hid (sortKV L (k + 1) = S.take j ++ (x1, x2) :: S.drop j) := Lib.hid (by rw [HN.out, if_neg]; exact fun h => HNe.out (HY.out.symm.trans h.2))
        clear z0 z1 y0 y1' hba hb1B HN HNe
        refine wp_region_keep (fun w' => w'.cell? ⟨gl, k * 2, none⟩ = some (.int .i64 x1) ∧ w'.cell? ⟨gl, k * 2 + 1, none⟩ = some (.int .i64 x2) ∧ Below WB.heap.size WB w') [] (by kernel_rfl) ?_
        have hB0 : Below (WB).heap.size (WB) (WB).drew := Below.drew (Below.refl _ _)
        obtain ⟨wd, hwd⟩ : ∃ q, (WB).drew = q := ⟨_, rfl⟩
        rw [hwd] at hB0 ⊢
        clear hwd
        refine wfr 1 (v := ?_) rfl ?_ ?_
        rotate_left
        ·intro w' hw';go_simp;try with_reducible rfl
        try simp only [Act.put, sq]
        refine wfr 2 (v := ?_) rfl ?_ ?_
        rotate_left
        ·intro w' hw';go_simp;try with_reducible rfl
        try simp only [Act.put, sq]
        refine wfr 3 (v := ?_) rfl ?_ ?_
        rotate_left
        ·intro w' hw';go_simp;try with_reducible rfl
        try simp only [Act.put, sq]
        refine wfr 5 (v := ?_) rfl ?_ ?_
        rotate_left
        ·intro w' hw';go_simp;try with_reducible rfl
        try simp only [Act.put, sq]
        refine wfr 6 (v := ?_) rfl ?_ ?_
        rotate_left
        ·intro w' hw';go_simp;try with_reducible rfl
        try simp only [Act.put, sq]
        refine wfr 7 (v := ?_) rfl ?_ ?_
        rotate_left
        ·intro w' hw';go_simp;try with_reducible rfl
        try simp only [Act.put, sq]
        refine wtk 8 16 (v := ?_) rfl ?_ (HS.out _ hB0) ?_
        rotate_left
        ·intro w' hw';(try dsimp only at hw');go_simp;try with_reducible rfl
        try simp only [Act.put, sq]
        refine wfr 11 (v := ?_) rfl ?_ ?_
        rotate_left
        ·intro w' hw';go_simp;try with_reducible rfl
        try simp only [Act.put, sq]
        refine wfr 12 (v := ?_) rfl ?_ ?_
        rotate_left
        ·intro w' hw';go_simp;try with_reducible rfl
        try simp only [Act.put, sq]
        refine wfr 13 (v := ?_) rfl ?_ ?_
        rotate_left
        ·intro w' hw';go_simp;try with_reducible rfl
        try simp only [Act.put, sq]
        refine wpAnyM_two 0 9 rfl rfl (by kernel_rfl) (fun K hK => ?_) (fun K hK => ?_)
        ·go_simp
         have hA1 := hB0.alloc hB0.size (.cells #[] 24)
         have RA := Lib.hid (World.ownsRow_made (base := WB.heap.size) (size := 2) (e := 24) wd #[] 0 hB0.size (Nat.zero_le _) rfl)
         refine hK.out _ _ (fun _ _ => HS.out _ hA1) ?_
         clear hK K
         try simp only [Act.put, sq]
         obtain ⟨wa1, hwa1⟩ : ∃ q, wd.alloc (.cells #[] 24) = q := ⟨_, rfl⟩
         obtain ⟨gb1, hgb1⟩ : ∃ q, wd.heap.size = q := ⟨_, rfl⟩
         have hlt1 : WB.heap.size ≤ gb1 := by rw [← hgb1]; exact hB0.size
         simp only [hwa1, hgb1] at hA1 RA ⊢
         clear hwa1 hgb1
         refine wpAnyM_two 4 9 rfl rfl (by kernel_rfl) (fun K hK => ?_) (fun K hK => ?_)
         ·refine step_append_own_at (by rfl) _ _ 22 (by rfl) WB.heap.size 24 i1 (.agg #[.int .i64 0, .int .i64 0]) 2 16 Try.underlying22 hj hj0 hj1 hj2 rfl (by decide) (.slice (some ⟨gb1, 0, none⟩) 0 0) (0) ([]) (by rfl) RA.out ⟨go, 0, none⟩ (j) (co) (valsC (S.take (j))) (by rfl) (by rw [valsC_len, List.length_take]; omega) (fun q u hq => by rw [Addr.add_lit, Nat.zero_add]; exact HTk.out _ hA1 q u hq) (ones_vals _) (by unfold maxLen; omega) (by omega) hA1.size ?_
          intro v2 wa2 hown2 hg2 hat2
          rw [Nat.zero_add, List.nil_append] at hown2
          obtain ⟨p2, c2, rfl⟩ := owns_form hown2
          have hA2 : Below WB.heap.size WB wa2 := hA1.grown hg2 hA1.size (fun k hk => (RA.out.lt k hk).1)
          replace RA := Lib.hid hown2
          clear hown2 hg2 hat2
          refine hK.out _ _ (fun _ _ => HS.out _ hA2) ?_
          clear hK K
          try simp only [Act.put, sq]
          refine won 9 rfl fun K hK => ?_
          go_simp
          have hA3 := hA2.alloc hA2.size (.cells #[.int .i64 x1, .int .i64 x2] 24)
          have RX := Lib.hid (World.ownsRow_lit (base := WB.heap.size) (size := 2) (e := 24) wa2 #[.int .i64 x1, .int .i64 x2] 1 hA2.size (by unfold maxLen; omega) rfl)
          have D := Lib.hid (Parted.new RA.out 1 1)
          replace RA := Lib.hid (RA.out.alloc (.cells #[.int .i64 x1, .int .i64 x2] 24))
          refine hK.out _ _ (fun _ _ => HS.out _ hA3) ?_
          clear hK K
          try simp only [Act.put, sq]
          obtain ⟨wa3, hwa3⟩ : ∃ q, wa2.alloc (.cells #[.int .i64 x1, .int .i64 x2] 24) = q := ⟨_, rfl⟩
          obtain ⟨gb3, hgb3⟩ : ∃ q, wa2.heap.size = q := ⟨_, rfl⟩
          have hlt3 : WB.heap.size ≤ gb3 := by rw [← hgb3]; exact hA2.size
          simp only [hwa3, hgb3] at hA3 RA RX D ⊢
          clear hwa3 hgb3
          refine won 10 rfl fun K hK => ?_
          refine step_append_own_at (by rfl) _ _ 22 (by rfl) WB.heap.size 24 i1 (.agg #[.int .i64 0, .int .i64 0]) 2 16 Try.underlying22 hj hj0 hj1 hj2 rfl (by decide) (.slice p2 (j) c2) (j) (valsC (S.take (j))) (by rfl) RA.out ⟨gb3, 0, none⟩ (1) (1) ([.int .i64 x1, .int .i64 x2]) (by rfl) (rfl) (fun q u hq => by rw [Addr.add_lit, Nat.zero_add, RX.out.cellAt q (by have := (List.getElem?_eq_some_iff.1 hq).1; simpa using this)]; exact hq) (ones_two _ _) (by unfold maxLen; omega) (by omega) hA3.size ?_
          intro v4 wa4 hown4 hg4 hat4
          obtain ⟨p4, c4, rfl⟩ := owns_form hown4
          have hA4 : Below WB.heap.size WB wa4 := hA3.grown hg4 hA3.size (fun k hk => (RA.out.lt k hk).1)
          clear D RX
          replace RA := Lib.hid hown4
          clear hown4 hg4 hat4
          refine hK.out _ _ (fun _ _ => HS.out _ hA4) ?_
          clear hK K
          try simp only [Act.put, sq]
          refine won 14 rfl fun K hK => ?_
          refine step_append_own_at (by rfl) _ _ 22 (by rfl) WB.heap.size 24 i1 (.agg #[.int .i64 0, .int .i64 0]) 2 16 Try.underlying22 hj hj0 hj1 hj2 rfl (by decide) (.slice p4 (j + 1) c4) (j + 1) (valsC (S.take (j)) ++ [.int .i64 x1, .int .i64 x2]) (by rfl) RA.out ⟨go, j * 2, none⟩ (S.length - j) (co - j) (valsC (S.drop j)) (by rfl) (by rw [valsC_len, List.length_drop]) (fun q u hq => by rw [Addr.add_lit]; exact HDr.out _ hA4 q u hq) (ones_vals _) (by unfold maxLen; omega) (by omega) hA4.size ?_
          intro v5 wa5 hown5 hg5 hat5
          obtain ⟨p5, c5, rfl⟩ := owns_form hown5
          have hA5 : Below WB.heap.size WB wa5 := hA4.grown hg5 hA4.size (fun k hk => (RA.out.lt k hk).1)
          replace RA := Lib.hid hown5
          clear hown5 hg5 hat5
          refine hK.out _ _ (fun _ _ => HS.out _ hA5) ?_
          clear hK K
          try simp only [Act.put, sq]
          refine won 15 rfl fun K hK => ?_
          go_simp
          refine hK.out _ _ (fun _ h => h) ?_
          clear hK K
          try simp only [Act.put, sq]
          refine wpAnyM_done (by kernel_rfl) ?_ _
          try simp only [Act.put, sq]
          have HO : RowKit.Hid (ValsO wa5 (.slice p5 (j + 1 + (S.length - j)) c5) (S.take (j) ++ (x1, x2) :: S.drop (j))) := Lib.hid (own_valsO RA.out (by simp [valsC, valCells]) (by rw [List.length_append, List.length_cons, List.length_take, List.length_drop]; omega) (by omega))
          have hbf : Below w.heap.size w wa5 := below_next HB0.out hA5
          clear RA
          go_wp2_with fail
          go_roundw
          case rel => exact ⟨k + 1, by omega, by go_num, by rw [HN2.out]; exact HO.out, hbf⟩
          case measure => simp [RowKit.intOf]; omega
         ·go_simp
          have hA2 := hA1.alloc hA1.size (.cells #[.int .i64 x1, .int .i64 x2] 24)
          have RX := Lib.hid (World.ownsRow_lit (base := WB.heap.size) (size := 2) (e := 24) wa1 #[.int .i64 x1, .int .i64 x2] 1 hA1.size (by unfold maxLen; omega) rfl)
          have D := Lib.hid (Parted.new RA.out 1 1)
          replace RA := Lib.hid (RA.out.alloc (.cells #[.int .i64 x1, .int .i64 x2] 24))
          refine hK.out _ _ (fun _ _ => HS.out _ hA2) ?_
          clear hK K
          try simp only [Act.put, sq]
          obtain ⟨wa2, hwa2⟩ : ∃ q, wa1.alloc (.cells #[.int .i64 x1, .int .i64 x2] 24) = q := ⟨_, rfl⟩
          obtain ⟨gb2, hgb2⟩ : ∃ q, wa1.heap.size = q := ⟨_, rfl⟩
          have hlt2 : WB.heap.size ≤ gb2 := by rw [← hgb2]; exact hA1.size
          simp only [hwa2, hgb2] at hA2 RA RX D ⊢
          clear hwa2 hgb2
          refine won 4 rfl fun K hK => ?_
          refine step_append_own_at (by rfl) _ _ 22 (by rfl) WB.heap.size 24 i1 (.agg #[.int .i64 0, .int .i64 0]) 2 16 Try.underlying22 hj hj0 hj1 hj2 rfl (by decide) (.slice (some ⟨gb1, 0, none⟩) 0 0) (0) ([]) (by rfl) RA.out ⟨go, 0, none⟩ (j) (co) (valsC (S.take (j))) (by rfl) (by rw [valsC_len, List.length_take]; omega) (fun q u hq => by rw [Addr.add_lit, Nat.zero_add]; exact HTk.out _ hA2 q u hq) (ones_vals _) (by unfold maxLen; omega) (by omega) hA2.size ?_
          intro v3 wa3 hown3 hg3 hat3
          rw [Nat.zero_add, List.nil_append] at hown3
          obtain ⟨p3, c3, rfl⟩ := owns_form hown3
          have hA3 : Below WB.heap.size WB wa3 := hA2.grown hg3 hA2.size (fun k hk => (RA.out.lt k hk).1)
          have D2 := Lib.hid (Parted.grow (D.out) hat3 RX.out)
          replace RX := Lib.hid (owns_beside RX.out hg3 (fun k h1 h2 => (D.out) k h2 h1))
          replace D := Lib.hid D2.out
          clear D2
          replace RA := Lib.hid hown3
          clear hown3 hg3 hat3
          refine hK.out _ _ (fun _ _ => HS.out _ hA3) ?_
          clear hK K
          try simp only [Act.put, sq]
          refine won 10 rfl fun K hK => ?_
          refine step_append_own_at (by rfl) _ _ 22 (by rfl) WB.heap.size 24 i1 (.agg #[.int .i64 0, .int .i64 0]) 2 16 Try.underlying22 hj hj0 hj1 hj2 rfl (by decide) (.slice p3 (j) c3) (j) (valsC (S.take (j))) (by rfl) RA.out ⟨gb2, 0, none⟩ (1) (1) ([.int .i64 x1, .int .i64 x2]) (by rfl) (rfl) (fun q u hq => by rw [Addr.add_lit, Nat.zero_add, RX.out.cellAt q (by have := (List.getElem?_eq_some_iff.1 hq).1; simpa using this)]; exact hq) (ones_two _ _) (by unfold maxLen; omega) (by omega) hA3.size ?_
          intro v4 wa4 hown4 hg4 hat4
          obtain ⟨p4, c4, rfl⟩ := owns_form hown4
          have hA4 : Below WB.heap.size WB wa4 := hA3.grown hg4 hA3.size (fun k hk => (RA.out.lt k hk).1)
          clear D RX
          replace RA := Lib.hid hown4
          clear hown4 hg4 hat4
          refine hK.out _ _ (fun _ _ => HS.out _ hA4) ?_
          clear hK K
          try simp only [Act.put, sq]
          refine won 14 rfl fun K hK => ?_
          refine step_append_own_at (by rfl) _ _ 22 (by rfl) WB.heap.size 24 i1 (.agg #[.int .i64 0, .int .i64 0]) 2 16 Try.underlying22 hj hj0 hj1 hj2 rfl (by decide) (.slice p4 (j + 1) c4) (j + 1) (valsC (S.take (j)) ++ [.int .i64 x1, .int .i64 x2]) (by rfl) RA.out ⟨go, j * 2, none⟩ (S.length - j) (co - j) (valsC (S.drop j)) (by rfl) (by rw [valsC_len, List.length_drop]) (fun q u hq => by rw [Addr.add_lit]; exact HDr.out _ hA4 q u hq) (ones_vals _) (by unfold maxLen; omega) (by omega) hA4.size ?_
          intro v5 wa5 hown5 hg5 hat5
          obtain ⟨p5, c5, rfl⟩ := owns_form hown5
          have hA5 : Below WB.heap.size WB wa5 := hA4.grown hg5 hA4.size (fun k hk => (RA.out.lt k hk).1)
          replace RA := Lib.hid hown5
          clear hown5 hg5 hat5
          refine hK.out _ _ (fun _ _ => HS.out _ hA5) ?_
          clear hK K
          try simp only [Act.put, sq]
          refine won 15 rfl fun K hK => ?_
          go_simp
          refine hK.out _ _ (fun _ h => h) ?_
          clear hK K
          try simp only [Act.put, sq]
          refine wpAnyM_done (by kernel_rfl) ?_ _
          try simp only [Act.put, sq]
          have HO : RowKit.Hid (ValsO wa5 (.slice p5 (j + 1 + (S.length - j)) c5) (S.take (j) ++ (x1, x2) :: S.drop (j))) := Lib.hid (own_valsO RA.out (by simp [valsC, valCells]) (by rw [List.length_append, List.length_cons, List.length_take, List.length_drop]; omega) (by omega))
          have hbf : Below w.heap.size w wa5 := below_next HB0.out hA5
          clear RA
          go_wp2_with fail
          go_roundw
          case rel => exact ⟨k + 1, by omega, by go_num, by rw [HN2.out]; exact HO.out, hbf⟩
          case measure => simp [RowKit.intOf]; omega
        ·go_simp
         have hA1 := hB0.alloc hB0.size (.cells #[.int .i64 x1, .int .i64 x2] 24)
         have RX := Lib.hid (World.ownsRow_lit (base := WB.heap.size) (size := 2) (e := 24) wd #[.int .i64 x1, .int .i64 x2] 1 hB0.size (by unfold maxLen; omega) rfl)
         refine hK.out _ _ (fun _ _ => HS.out _ hA1) ?_
         clear hK K
         try simp only [Act.put, sq]
         obtain ⟨wa1, hwa1⟩ : ∃ q, wd.alloc (.cells #[.int .i64 x1, .int .i64 x2] 24) = q := ⟨_, rfl⟩
         obtain ⟨gb1, hgb1⟩ : ∃ q, wd.heap.size = q := ⟨_, rfl⟩
         have hlt1 : WB.heap.size ≤ gb1 := by rw [← hgb1]; exact hB0.size
         simp only [hwa1, hgb1] at hA1 RX ⊢
         clear hwa1 hgb1
         refine won 0 rfl fun K hK => ?_
         go_simp
         have hA2 := hA1.alloc hA1.size (.cells #[] 24)
         have RA := Lib.hid (World.ownsRow_made (base := WB.heap.size) (size := 2) (e := 24) wa1 #[] 0 hA1.size (Nat.zero_le _) rfl)
         have D := Lib.hid (Parted.new RX.out 0 0)
         replace RX := Lib.hid (RX.out.alloc (.cells #[] 24))
         refine hK.out _ _ (fun _ _ => HS.out _ hA2) ?_
         clear hK K
         try simp only [Act.put, sq]
         obtain ⟨wa2, hwa2⟩ : ∃ q, wa1.alloc (.cells #[] 24) = q := ⟨_, rfl⟩
         obtain ⟨gb2, hgb2⟩ : ∃ q, wa1.heap.size = q := ⟨_, rfl⟩
         have hlt2 : WB.heap.size ≤ gb2 := by rw [← hgb2]; exact hA1.size
         simp only [hwa2, hgb2] at hA2 RX RA D ⊢
         clear hwa2 hgb2
         refine won 4 rfl fun K hK => ?_
         refine step_append_own_at (by rfl) _ _ 22 (by rfl) WB.heap.size 24 i1 (.agg #[.int .i64 0, .int .i64 0]) 2 16 Try.underlying22 hj hj0 hj1 hj2 rfl (by decide) (.slice (some ⟨gb2, 0, none⟩) 0 0) (0) ([]) (by rfl) RA.out ⟨go, 0, none⟩ (j) (co) (valsC (S.take (j))) (by rfl) (by rw [valsC_len, List.length_take]; omega) (fun q u hq => by rw [Addr.add_lit, Nat.zero_add]; exact HTk.out _ hA2 q u hq) (ones_vals _) (by unfold maxLen; omega) (by omega) hA2.size ?_
         intro v3 wa3 hown3 hg3 hat3
         rw [Nat.zero_add, List.nil_append] at hown3
         obtain ⟨p3, c3, rfl⟩ := owns_form hown3
         have hA3 : Below WB.heap.size WB wa3 := hA2.grown hg3 hA2.size (fun k hk => (RA.out.lt k hk).1)
         have D2 := Lib.hid (Parted.grow (D.out.flip) hat3 RX.out)
         replace RX := Lib.hid (owns_beside RX.out hg3 (fun k h1 h2 => (D.out.flip) k h2 h1))
         replace D := Lib.hid D2.out
         clear D2
         replace RA := Lib.hid hown3
         clear hown3 hg3 hat3
         refine hK.out _ _ (fun _ _ => HS.out _ hA3) ?_
         clear hK K
         try simp only [Act.put, sq]
         refine won 10 rfl fun K hK => ?_
         refine step_append_own_at (by rfl) _ _ 22 (by rfl) WB.heap.size 24 i1 (.agg #[.int .i64 0, .int .i64 0]) 2 16 Try.underlying22 hj hj0 hj1 hj2 rfl (by decide) (.slice p3 (j) c3) (j) (valsC (S.take (j))) (by rfl) RA.out ⟨gb1, 0, none⟩ (1) (1) ([.int .i64 x1, .int .i64 x2]) (by rfl) (rfl) (fun q u hq => by rw [Addr.add_lit, Nat.zero_add, RX.out.cellAt q (by have := (List.getElem?_eq_some_iff.1 hq).1; simpa using this)]; exact hq) (ones_two _ _) (by unfold maxLen; omega) (by omega) hA3.size ?_
         intro v4 wa4 hown4 hg4 hat4
         obtain ⟨p4, c4, rfl⟩ := owns_form hown4
         have hA4 : Below WB.heap.size WB wa4 := hA3.grown hg4 hA3.size (fun k hk => (RA.out.lt k hk).1)
         clear D RX
         replace RA := Lib.hid hown4
         clear hown4 hg4 hat4
         refine hK.out _ _ (fun _ _ => HS.out _ hA4) ?_
         clear hK K
         try simp only [Act.put, sq]
         refine won 14 rfl fun K hK => ?_
         refine step_append_own_at (by rfl) _ _ 22 (by rfl) WB.heap.size 24 i1 (.agg #[.int .i64 0, .int .i64 0]) 2 16 Try.underlying22 hj hj0 hj1 hj2 rfl (by decide) (.slice p4 (j + 1) c4) (j + 1) (valsC (S.take (j)) ++ [.int .i64 x1, .int .i64 x2]) (by rfl) RA.out ⟨go, j * 2, none⟩ (S.length - j) (co - j) (valsC (S.drop j)) (by rfl) (by rw [valsC_len, List.length_drop]) (fun q u hq => by rw [Addr.add_lit]; exact HDr.out _ hA4 q u hq) (ones_vals _) (by unfold maxLen; omega) (by omega) hA4.size ?_
         intro v5 wa5 hown5 hg5 hat5
         obtain ⟨p5, c5, rfl⟩ := owns_form hown5
         have hA5 : Below WB.heap.size WB wa5 := hA4.grown hg5 hA4.size (fun k hk => (RA.out.lt k hk).1)
         replace RA := Lib.hid hown5
         clear hown5 hg5 hat5
         refine hK.out _ _ (fun _ _ => HS.out _ hA5) ?_
         clear hK K
         try simp only [Act.put, sq]
         refine won 15 rfl fun K hK => ?_
         go_simp
         refine hK.out _ _ (fun _ h => h) ?_
         clear hK K
         try simp only [Act.put, sq]
         refine wpAnyM_done (by kernel_rfl) ?_ _
         try simp only [Act.put, sq]
         have HO : RowKit.Hid (ValsO wa5 (.slice p5 (j + 1 + (S.length - j)) c5) (S.take (j) ++ (x1, x2) :: S.drop (j))) := Lib.hid (own_valsO RA.out (by simp [valsC, valCells]) (by rw [List.length_append, List.length_cons, List.length_take, List.length_drop]; omega) (by omega))
         have hbf : Below w.heap.size w wa5 := below_next HB0.out hA5
         clear RA
         go_wp2_with fail
         go_roundw
         case rel => exact ⟨k + 1, by omega, by go_num, by rw [HN2.out]; exact HO.out, hbf⟩
         case measure => simp [RowKit.intOf]; omega
       ·have HNe : RowKit.Hid (¬ ((y1, y2) : ValV) = (x1, x2)) := Lib.hid (fun h => hne (congrArg Prod.snd h))
        subst h1
        clear HBJ
        have HS : RowKit.Hid (∀ w', Below WZ.heap.size WZ w' → w'.cell? ⟨go, j * 2, none⟩ = some (.int .i64 x1) ∧ w'.cell? ⟨go, j * 2 + 1, none⟩ = some (.int .i64 y2) ∧ w'.cell? ⟨gl, k * 2, none⟩ = some (.int .i64 x1) ∧ w'.cell? ⟨gl, k * 2 + 1, none⟩ = some (.int .i64 x2) ∧ Below WZ.heap.size WZ w') := Lib.hid (fun w' hb => ⟨cell_later (below_next hbz hb) y0, cell_later (below_next hbz hb) y1', cell_later (below_next hbz hb) z0, cell_later (below_next hbz hb) z1, hb⟩)
        refine wpk HS [] (by kernel_rfl) fun hB0 hS0 => ?_
        refine wfr 0 (v := ?_) rfl ?_ ?_
        rotate_left
        ·intro w' hw';go_simp;try with_reducible rfl
        try simp only [Act.put, sq]
        refine won 1 rfl fun K hK => ?_
        go_simp
        refine hK.out _ _ (fun _ h => h) ?_
        clear hK K
        try simp only [Act.put, sq]
        refine won 2 rfl fun K hK => ?_
        go_simp
        refine hK.out _ _ (fun _ h => h) ?_
        clear hK K
        try simp only [Act.put, sq]
        refine won 3 rfl fun K hK => ?_
        go_simp
        refine hK.out _ _ (fun _ h => h) ?_
        clear hK K
        try simp only [Act.put, sq]
        refine won 4 rfl fun K hK => ?_
        go_simp
        refine hK.out _ _ (fun _ h => h) ?_
        clear hK K
        try simp only [Act.put, sq]
        refine wfr 5 (v := ?_) rfl ?_ ?_
        rotate_left
        ·intro w' hw';go_simp;try with_reducible rfl
        try simp only [Act.put, sq]
        refine wfr 6 (v := ?_) rfl ?_ ?_
        rotate_left
        ·intro w' hw';go_simp;try with_reducible rfl
        try simp only [Act.put, sq]
        refine wfr 7 (v := ?_) rfl ?_ ?_
        rotate_left
        ·intro w' hw';go_simp;try with_reducible rfl
        try simp only [Act.put, sq]
        refine wtk 8 15 (v := ?_) rfl ?_ hS0 ?_
        rotate_left
        ·intro w' hw';(try dsimp only at hw');go_simp;try with_reducible rfl
        try simp only [Act.put, sq]
        refine wfr 9 (v := ?_) rfl ?_ ?_
        rotate_left
        ·intro w' hw';go_simp;try with_reducible rfl
        try simp only [Act.put, sq]
        refine won 10 rfl fun K hK => ?_
        go_simp
        refine hK.out _ _ (fun _ h => h) ?_
        clear hK K
        try simp only [Act.put, sq]
        refine won 11 rfl fun K hK => ?_
        go_simp
        refine hK.out _ _ (fun _ h => h) ?_
        clear hK K
        try simp only [Act.put, sq]
        refine won 12 rfl fun K hK => ?_
        go_simp
        refine hK.out _ _ (fun _ h => h) ?_
        clear hK K
        try simp only [Act.put, sq]
        refine won 13 rfl fun K hK => ?_
        go_simp
        refine hK.out _ _ (fun _ h => h) ?_
        clear hK K
        try simp only [Act.put, sq]
        refine won 14 rfl fun K hK => ?_
        go_simp
        refine hK.out _ _ (fun _ h => h) ?_
        clear hK K
        try simp only [Act.put, sq]
        refine wpAnyM_done (by kernel_rfl) ?_ _
        try simp only [Act.put, sq]
        clear hB0 hS0
        obtain ⟨WB, hWB⟩ : ∃ q, WZ.drew = q := ⟨_, rfl⟩
        have hBz : Below wa.heap.size wa WB := by rw [← hWB]; exact below_next hbz (Below.drew (Below.refl _ _))
        rw [hWB]
        clear hWB HS hbz
        go_wp2_with fail
        have hb1B := below_next hba hBz
        have HSl : RowKit.Hid (∀ w', Below WB.heap.size WB w' → ∀ q u, (valsC S)[q]? = some u → w'.cell? ⟨go, q, none⟩ = some u) := Lib.hid (fun w' hb q u hq => cell_later (below_next hb1B hb) (HC1.out q u hq))
        have HTk : RowKit.Hid (∀ w', Below WB.heap.size WB w' → ∀ q u, (valsC (S.take (j)))[q]? = some u → w'.cell? ⟨go, q, none⟩ = some u) := Lib.hid (fun w' hb q u hq => HSl.out w' hb q u (by
         rw [valsC_take] at hq
         have hq2 := (List.getElem?_eq_some_iff.1 hq).1
         rw [List.length_take] at hq2
         rw [List.getElem?_take_of_lt (by omega)] at hq
         exact hq))
        have HDr : RowKit.Hid (∀ w', Below WB.heap.size WB w' → ∀ q u, (valsC (S.drop (j)))[q]? = some u → w'.cell? ⟨go, (j) * 2 + q, none⟩ = some u) := Lib.hid (fun w' hb q u hq => HSl.out w' hb _ u (by
         rw [valsC_drop, List.getElem?_drop] at hq
         exact hq))
        have HS : RowKit.Hid (∀ w', Below WB.heap.size WB w' → w'.cell? ⟨gl, k * 2, none⟩ = some (.int .i64 x1) ∧ w'.cell? ⟨gl, k * 2 + 1, none⟩ = some (.int .i64 x2) ∧ Below WB.heap.size WB w') := Lib.hid (fun w' hb => ⟨cell_later (below_next hb1B hb) c0, cell_later (below_next hb1B hb) c1, hb⟩)
        have HB0 := Lib.hid (below_next hb01 hb1B)
        clear HSl
        have hcj : ¬ co = j := by omega
        have hjc : j ≤ co := by omega
        have HN2 : RowKit.Hid (sortKV L (k + 1) = S.take j ++ (x1, x2) :: S.drop j) := Lib.hid (by rw [HN.out, if_neg]; exact fun h => HNe.out (HY.out.symm.trans h.2))
        clear z0 z1 y0 y1' hba hb1B HN HNe
        refine wp_region_keep (fun w' => w'.cell? ⟨gl, k * 2, none⟩ = some (.int .i64 x1) ∧ w'.cell? ⟨gl, k * 2 + 1, none⟩ = some (.int .i64 x2) ∧ Below WB.heap.size WB w') [] (by kernel_rfl) ?_
        have hB0 : Below (WB).heap.size (WB) (WB).drew := Below.drew (Below.refl _ _)
        obtain ⟨wd, hwd⟩ : ∃ q, (WB).drew = q := ⟨_, rfl⟩
        rw [hwd] at hB0 ⊢
        clear hwd
        refine wfr 1 (v := ?_) rfl ?_ ?_
        rotate_left
        ·intro w' hw';go_simp;try with_reducible rfl
        try simp only [Act.put, sq]
        refine wfr 2 (v := ?_) rfl ?_ ?_
        rotate_left
        ·intro w' hw';go_simp;try with_reducible rfl
        try simp only [Act.put, sq]
        refine wfr 3 (v := ?_) rfl ?_ ?_
        rotate_left
        ·intro w' hw';go_simp;try with_reducible rfl
        try simp only [Act.put, sq]
        refine wfr 5 (v := ?_) rfl ?_ ?_
        rotate_left
        ·intro w' hw';go_simp;try with_reducible rfl
        try simp only [Act.put, sq]
        refine wfr 6 (v := ?_) rfl ?_ ?_
        rotate_left
        ·intro w' hw';go_simp;try with_reducible rfl
        try simp only [Act.put, sq]
        refine wfr 7 (v := ?_) rfl ?_ ?_
        rotate_left
        ·intro w' hw';go_simp;try with_reducible rfl
        try simp only [Act.put, sq]
        refine wtk 8 16 (v := ?_) rfl ?_ (HS.out _ hB0) ?_
        rotate_left
        ·intro w' hw';(try dsimp only at hw');go_simp;try with_reducible rfl
        try simp only [Act.put, sq]
        refine wfr 11 (v := ?_) rfl ?_ ?_
        rotate_left
        ·intro w' hw';go_simp;try with_reducible rfl
        try simp only [Act.put, sq]
        refine wfr 12 (v := ?_) rfl ?_ ?_
        rotate_left
        ·intro w' hw';go_simp;try with_reducible rfl
        try simp only [Act.put, sq]
        refine wfr 13 (v := ?_) rfl ?_ ?_
        rotate_left
        ·intro w' hw';go_simp;try with_reducible rfl
        try simp only [Act.put, sq]
        refine wpAnyM_two 0 9 rfl rfl (by kernel_rfl) (fun K hK => ?_) (fun K hK => ?_)
        ·go_simp
         have hA1 := hB0.alloc hB0.size (.cells #[] 24)
         have RA := Lib.hid (World.ownsRow_made (base := WB.heap.size) (size := 2) (e := 24) wd #[] 0 hB0.size (Nat.zero_le _) rfl)
         refine hK.out _ _ (fun _ _ => HS.out _ hA1) ?_
         clear hK K
         try simp only [Act.put, sq]
         obtain ⟨wa1, hwa1⟩ : ∃ q, wd.alloc (.cells #[] 24) = q := ⟨_, rfl⟩
         obtain ⟨gb1, hgb1⟩ : ∃ q, wd.heap.size = q := ⟨_, rfl⟩
         have hlt1 : WB.heap.size ≤ gb1 := by rw [← hgb1]; exact hB0.size
         simp only [hwa1, hgb1] at hA1 RA ⊢
         clear hwa1 hgb1
         refine wpAnyM_two 4 9 rfl rfl (by kernel_rfl) (fun K hK => ?_) (fun K hK => ?_)
         ·refine step_append_own_at (by rfl) _ _ 22 (by rfl) WB.heap.size 24 i1 (.agg #[.int .i64 0, .int .i64 0]) 2 16 Try.underlying22 hj hj0 hj1 hj2 rfl (by decide) (.slice (some ⟨gb1, 0, none⟩) 0 0) (0) ([]) (by rfl) RA.out ⟨go, 0, none⟩ (j) (co) (valsC (S.take (j))) (by rfl) (by rw [valsC_len, List.length_take]; omega) (fun q u hq => by rw [Addr.add_lit, Nat.zero_add]; exact HTk.out _ hA1 q u hq) (ones_vals _) (by unfold maxLen; omega) (by omega) hA1.size ?_
          intro v2 wa2 hown2 hg2 hat2
          rw [Nat.zero_add, List.nil_append] at hown2
          obtain ⟨p2, c2, rfl⟩ := owns_form hown2
          have hA2 : Below WB.heap.size WB wa2 := hA1.grown hg2 hA1.size (fun k hk => (RA.out.lt k hk).1)
          replace RA := Lib.hid hown2
          clear hown2 hg2 hat2
          refine hK.out _ _ (fun _ _ => HS.out _ hA2) ?_
          clear hK K
          try simp only [Act.put, sq]
          refine won 9 rfl fun K hK => ?_
          go_simp
          have hA3 := hA2.alloc hA2.size (.cells #[.int .i64 x1, .int .i64 x2] 24)
          have RX := Lib.hid (World.ownsRow_lit (base := WB.heap.size) (size := 2) (e := 24) wa2 #[.int .i64 x1, .int .i64 x2] 1 hA2.size (by unfold maxLen; omega) rfl)
          have D := Lib.hid (Parted.new RA.out 1 1)
          replace RA := Lib.hid (RA.out.alloc (.cells #[.int .i64 x1, .int .i64 x2] 24))
          refine hK.out _ _ (fun _ _ => HS.out _ hA3) ?_
          clear hK K
          try simp only [Act.put, sq]
          obtain ⟨wa3, hwa3⟩ : ∃ q, wa2.alloc (.cells #[.int .i64 x1, .int .i64 x2] 24) = q := ⟨_, rfl⟩
          obtain ⟨gb3, hgb3⟩ : ∃ q, wa2.heap.size = q := ⟨_, rfl⟩
          have hlt3 : WB.heap.size ≤ gb3 := by rw [← hgb3]; exact hA2.size
          simp only [hwa3, hgb3] at hA3 RA RX D ⊢
          clear hwa3 hgb3
          refine won 10 rfl fun K hK => ?_
          refine step_append_own_at (by rfl) _ _ 22 (by rfl) WB.heap.size 24 i1 (.agg #[.int .i64 0, .int .i64 0]) 2 16 Try.underlying22 hj hj0 hj1 hj2 rfl (by decide) (.slice p2 (j) c2) (j) (valsC (S.take (j))) (by rfl) RA.out ⟨gb3, 0, none⟩ (1) (1) ([.int .i64 x1, .int .i64 x2]) (by rfl) (rfl) (fun q u hq => by rw [Addr.add_lit, Nat.zero_add, RX.out.cellAt q (by have := (List.getElem?_eq_some_iff.1 hq).1; simpa using this)]; exact hq) (ones_two _ _) (by unfold maxLen; omega) (by omega) hA3.size ?_
          intro v4 wa4 hown4 hg4 hat4
          obtain ⟨p4, c4, rfl⟩ := owns_form hown4
          have hA4 : Below WB.heap.size WB wa4 := hA3.grown hg4 hA3.size (fun k hk => (RA.out.lt k hk).1)
          clear D RX
          replace RA := Lib.hid hown4
          clear hown4 hg4 hat4
          refine hK.out _ _ (fun _ _ => HS.out _ hA4) ?_
          clear hK K
          try simp only [Act.put, sq]
          refine won 14 rfl fun K hK => ?_
          refine step_append_own_at (by rfl) _ _ 22 (by rfl) WB.heap.size 24 i1 (.agg #[.int .i64 0, .int .i64 0]) 2 16 Try.underlying22 hj hj0 hj1 hj2 rfl (by decide) (.slice p4 (j + 1) c4) (j + 1) (valsC (S.take (j)) ++ [.int .i64 x1, .int .i64 x2]) (by rfl) RA.out ⟨go, j * 2, none⟩ (S.length - j) (co - j) (valsC (S.drop j)) (by rfl) (by rw [valsC_len, List.length_drop]) (fun q u hq => by rw [Addr.add_lit]; exact HDr.out _ hA4 q u hq) (ones_vals _) (by unfold maxLen; omega) (by omega) hA4.size ?_
          intro v5 wa5 hown5 hg5 hat5
          obtain ⟨p5, c5, rfl⟩ := owns_form hown5
          have hA5 : Below WB.heap.size WB wa5 := hA4.grown hg5 hA4.size (fun k hk => (RA.out.lt k hk).1)
          replace RA := Lib.hid hown5
          clear hown5 hg5 hat5
          refine hK.out _ _ (fun _ _ => HS.out _ hA5) ?_
          clear hK K
          try simp only [Act.put, sq]
          refine won 15 rfl fun K hK => ?_
          go_simp
          refine hK.out _ _ (fun _ h => h) ?_
          clear hK K
          try simp only [Act.put, sq]
          refine wpAnyM_done (by kernel_rfl) ?_ _
          try simp only [Act.put, sq]
          have HO : RowKit.Hid (ValsO wa5 (.slice p5 (j + 1 + (S.length - j)) c5) (S.take (j) ++ (x1, x2) :: S.drop (j))) := Lib.hid (own_valsO RA.out (by simp [valsC, valCells]) (by rw [List.length_append, List.length_cons, List.length_take, List.length_drop]; omega) (by omega))
          have hbf : Below w.heap.size w wa5 := below_next HB0.out hA5
          clear RA
          go_wp2_with fail
          go_roundw
          case rel => exact ⟨k + 1, by omega, by go_num, by rw [HN2.out]; exact HO.out, hbf⟩
          case measure => simp [RowKit.intOf]; omega
         ·go_simp
          have hA2 := hA1.alloc hA1.size (.cells #[.int .i64 x1, .int .i64 x2] 24)
          have RX := Lib.hid (World.ownsRow_lit (base := WB.heap.size) (size := 2) (e := 24) wa1 #[.int .i64 x1, .int .i64 x2] 1 hA1.size (by unfold maxLen; omega) rfl)
          have D := Lib.hid (Parted.new RA.out 1 1)
          replace RA := Lib.hid (RA.out.alloc (.cells #[.int .i64 x1, .int .i64 x2] 24))
          refine hK.out _ _ (fun _ _ => HS.out _ hA2) ?_
          clear hK K
          try simp only [Act.put, sq]
          obtain ⟨wa2, hwa2⟩ : ∃ q, wa1.alloc (.cells #[.int .i64 x1, .int .i64 x2] 24) = q := ⟨_, rfl⟩
          obtain ⟨gb2, hgb2⟩ : ∃ q, wa1.heap.size = q := ⟨_, rfl⟩
          have hlt2 : WB.heap.size ≤ gb2 := by rw [← hgb2]; exact hA1.size
          simp only [hwa2, hgb2] at hA2 RA RX D ⊢
          clear hwa2 hgb2
          refine won 4 rfl fun K hK => ?_
          refine step_append_own_at (by rfl) _ _ 22 (by rfl) WB.heap.size 24 i1 (.agg #[.int .i64 0, .int .i64 0]) 2 16 Try.underlying22 hj hj0 hj1 hj2 rfl (by decide) (.slice (some ⟨gb1, 0, none⟩) 0 0) (0) ([]) (by rfl) RA.out ⟨go, 0, none⟩ (j) (co) (valsC (S.take (j))) (by rfl) (by rw [valsC_len, List.length_take]; omega) (fun q u hq => by rw [Addr.add_lit, Nat.zero_add]; exact HTk.out _ hA2 q u hq) (ones_vals _) (by unfold maxLen; omega) (by omega) hA2.size ?_
          intro v3 wa3 hown3 hg3 hat3
          rw [Nat.zero_add, List.nil_append] at hown3
          obtain ⟨p3, c3, rfl⟩ := owns_form hown3
          have hA3 : Below WB.heap.size WB wa3 := hA2.grown hg3 hA2.size (fun k hk => (RA.out.lt k hk).1)
          have D2 := Lib.hid (Parted.grow (D.out) hat3 RX.out)
          replace RX := Lib.hid (owns_beside RX.out hg3 (fun k h1 h2 => (D.out) k h2 h1))
          replace D := Lib.hid D2.out
          clear D2
          replace RA := Lib.hid hown3
          clear hown3 hg3 hat3
          refine hK.out _ _ (fun _ _ => HS.out _ hA3) ?_
          clear hK K
          try simp only [Act.put, sq]
          refine won 10 rfl fun K hK => ?_
          refine step_append_own_at (by rfl) _ _ 22 (by rfl) WB.heap.size 24 i1 (.agg #[.int .i64 0, .int .i64 0]) 2 16 Try.underlying22 hj hj0 hj1 hj2 rfl (by decide) (.slice p3 (j) c3) (j) (valsC (S.take (j))) (by rfl) RA.out ⟨gb2, 0, none⟩ (1) (1) ([.int .i64 x1, .int .i64 x2]) (by rfl) (rfl) (fun q u hq => by rw [Addr.add_lit, Nat.zero_add, RX.out.cellAt q (by have := (List.getElem?_eq_some_iff.1 hq).1; simpa using this)]; exact hq) (ones_two _ _) (by unfold maxLen; omega) (by omega) hA3.size ?_
          intro v4 wa4 hown4 hg4 hat4
          obtain ⟨p4, c4, rfl⟩ := owns_form hown4
          have hA4 : Below WB.heap.size WB wa4 := hA3.grown hg4 hA3.size (fun k hk => (RA.out.lt k hk).1)
          clear D RX
          replace RA := Lib.hid hown4
          clear hown4 hg4 hat4
          refine hK.out _ _ (fun _ _ => HS.out _ hA4) ?_
          clear hK K
          try simp only [Act.put, sq]
          refine won 14 rfl fun K hK => ?_
          refine step_append_own_at (by rfl) _ _ 22 (by rfl) WB.heap.size 24 i1 (.agg #[.int .i64 0, .int .i64 0]) 2 16 Try.underlying22 hj hj0 hj1 hj2 rfl (by decide) (.slice p4 (j + 1) c4) (j + 1) (valsC (S.take (j)) ++ [.int .i64 x1, .int .i64 x2]) (by rfl) RA.out ⟨go, j * 2, none⟩ (S.length - j) (co - j) (valsC (S.drop j)) (by rfl) (by rw [valsC_len, List.length_drop]) (fun q u hq => by rw [Addr.add_lit]; exact HDr.out _ hA4 q u hq) (ones_vals _) (by unfold maxLen; omega) (by omega) hA4.size ?_
          intro v5 wa5 hown5 hg5 hat5
          obtain ⟨p5, c5, rfl⟩ := owns_form hown5
          have hA5 : Below WB.heap.size WB wa5 := hA4.grown hg5 hA4.size (fun k hk => (RA.out.lt k hk).1)
          replace RA := Lib.hid hown5
          clear hown5 hg5 hat5
          refine hK.out _ _ (fun _ _ => HS.out _ hA5) ?_
          clear hK K
          try simp only [Act.put, sq]
          refine won 15 rfl fun K hK => ?_
          go_simp
          refine hK.out _ _ (fun _ h => h) ?_
          clear hK K
          try simp only [Act.put, sq]
          refine wpAnyM_done (by kernel_rfl) ?_ _
          try simp only [Act.put, sq]
          have HO : RowKit.Hid (ValsO wa5 (.slice p5 (j + 1 + (S.length - j)) c5) (S.take (j) ++ (x1, x2) :: S.drop (j))) := Lib.hid (own_valsO RA.out (by simp [valsC, valCells]) (by rw [List.length_append, List.length_cons, List.length_take, List.length_drop]; omega) (by omega))
          have hbf : Below w.heap.size w wa5 := below_next HB0.out hA5
          clear RA
          go_wp2_with fail
          go_roundw
          case rel => exact ⟨k + 1, by omega, by go_num, by rw [HN2.out]; exact HO.out, hbf⟩
          case measure => simp [RowKit.intOf]; omega
        ·go_simp
         have hA1 := hB0.alloc hB0.size (.cells #[.int .i64 x1, .int .i64 x2] 24)
         have RX := Lib.hid (World.ownsRow_lit (base := WB.heap.size) (size := 2) (e := 24) wd #[.int .i64 x1, .int .i64 x2] 1 hB0.size (by unfold maxLen; omega) rfl)
         refine hK.out _ _ (fun _ _ => HS.out _ hA1) ?_
         clear hK K
         try simp only [Act.put, sq]
         obtain ⟨wa1, hwa1⟩ : ∃ q, wd.alloc (.cells #[.int .i64 x1, .int .i64 x2] 24) = q := ⟨_, rfl⟩
         obtain ⟨gb1, hgb1⟩ : ∃ q, wd.heap.size = q := ⟨_, rfl⟩
         have hlt1 : WB.heap.size ≤ gb1 := by rw [← hgb1]; exact hB0.size
         simp only [hwa1, hgb1] at hA1 RX ⊢
         clear hwa1 hgb1
         refine won 0 rfl fun K hK => ?_
         go_simp
         have hA2 := hA1.alloc hA1.size (.cells #[] 24)
         have RA := Lib.hid (World.ownsRow_made (base := WB.heap.size) (size := 2) (e := 24) wa1 #[] 0 hA1.size (Nat.zero_le _) rfl)
         have D := Lib.hid (Parted.new RX.out 0 0)
         replace RX := Lib.hid (RX.out.alloc (.cells #[] 24))
         refine hK.out _ _ (fun _ _ => HS.out _ hA2) ?_
         clear hK K
         try simp only [Act.put, sq]
         obtain ⟨wa2, hwa2⟩ : ∃ q, wa1.alloc (.cells #[] 24) = q := ⟨_, rfl⟩
         obtain ⟨gb2, hgb2⟩ : ∃ q, wa1.heap.size = q := ⟨_, rfl⟩
         have hlt2 : WB.heap.size ≤ gb2 := by rw [← hgb2]; exact hA1.size
         simp only [hwa2, hgb2] at hA2 RX RA D ⊢
         clear hwa2 hgb2
         refine won 4 rfl fun K hK => ?_
         refine step_append_own_at (by rfl) _ _ 22 (by rfl) WB.heap.size 24 i1 (.agg #[.int .i64 0, .int .i64 0]) 2 16 Try.underlying22 hj hj0 hj1 hj2 rfl (by decide) (.slice (some ⟨gb2, 0, none⟩) 0 0) (0) ([]) (by rfl) RA.out ⟨go, 0, none⟩ (j) (co) (valsC (S.take (j))) (by rfl) (by rw [valsC_len, List.length_take]; omega) (fun q u hq => by rw [Addr.add_lit, Nat.zero_add]; exact HTk.out _ hA2 q u hq) (ones_vals _) (by unfold maxLen; omega) (by omega) hA2.size ?_
         intro v3 wa3 hown3 hg3 hat3
         rw [Nat.zero_add, List.nil_append] at hown3
         obtain ⟨p3, c3, rfl⟩ := owns_form hown3
         have hA3 : Below WB.heap.size WB wa3 := hA2.grown hg3 hA2.size (fun k hk => (RA.out.lt k hk).1)
         have D2 := Lib.hid (Parted.grow (D.out.flip) hat3 RX.out)
         replace RX := Lib.hid (owns_beside RX.out hg3 (fun k h1 h2 => (D.out.flip) k h2 h1))
         replace D := Lib.hid D2.out
         clear D2
         replace RA := Lib.hid hown3
         clear hown3 hg3 hat3
         refine hK.out _ _ (fun _ _ => HS.out _ hA3) ?_
         clear hK K
         try simp only [Act.put, sq]
         refine won 10 rfl fun K hK => ?_
         refine step_append_own_at (by rfl) _ _ 22 (by rfl) WB.heap.size 24 i1 (.agg #[.int .i64 0, .int .i64 0]) 2 16 Try.underlying22 hj hj0 hj1 hj2 rfl (by decide) (.slice p3 (j) c3) (j) (valsC (S.take (j))) (by rfl) RA.out ⟨gb1, 0, none⟩ (1) (1) ([.int .i64 x1, .int .i64 x2]) (by rfl) (rfl) (fun q u hq => by rw [Addr.add_lit, Nat.zero_add, RX.out.cellAt q (by have := (List.getElem?_eq_some_iff.1 hq).1; simpa using this)]; exact hq) (ones_two _ _) (by unfold maxLen; omega) (by omega) hA3.size ?_
         intro v4 wa4 hown4 hg4 hat4
         obtain ⟨p4, c4, rfl⟩ := owns_form hown4
         have hA4 : Below WB.heap.size WB wa4 := hA3.grown hg4 hA3.size (fun k hk => (RA.out.lt k hk).1)
         clear D RX
         replace RA := Lib.hid hown4
         clear hown4 hg4 hat4
         refine hK.out _ _ (fun _ _ => HS.out _ hA4) ?_
         clear hK K
         try simp only [Act.put, sq]
         refine won 14 rfl fun K hK => ?_
         refine step_append_own_at (by rfl) _ _ 22 (by rfl) WB.heap.size 24 i1 (.agg #[.int .i64 0, .int .i64 0]) 2 16 Try.underlying22 hj hj0 hj1 hj2 rfl (by decide) (.slice p4 (j + 1) c4) (j + 1) (valsC (S.take (j)) ++ [.int .i64 x1, .int .i64 x2]) (by rfl) RA.out ⟨go, j * 2, none⟩ (S.length - j) (co - j) (valsC (S.drop j)) (by rfl) (by rw [valsC_len, List.length_drop]) (fun q u hq => by rw [Addr.add_lit]; exact HDr.out _ hA4 q u hq) (ones_vals _) (by unfold maxLen; omega) (by omega) hA4.size ?_
         intro v5 wa5 hown5 hg5 hat5
         obtain ⟨p5, c5, rfl⟩ := owns_form hown5
         have hA5 : Below WB.heap.size WB wa5 := hA4.grown hg5 hA4.size (fun k hk => (RA.out.lt k hk).1)
         replace RA := Lib.hid hown5
         clear hown5 hg5 hat5
         refine hK.out _ _ (fun _ _ => HS.out _ hA5) ?_
         clear hK K
         try simp only [Act.put, sq]
         refine won 15 rfl fun K hK => ?_
         go_simp
         refine hK.out _ _ (fun _ h => h) ?_
         clear hK K
         try simp only [Act.put, sq]
         refine wpAnyM_done (by kernel_rfl) ?_ _
         try simp only [Act.put, sq]
         have HO : RowKit.Hid (ValsO wa5 (.slice p5 (j + 1 + (S.length - j)) c5) (S.take (j) ++ (x1, x2) :: S.drop (j))) := Lib.hid (own_valsO RA.out (by simp [valsC, valCells]) (by rw [List.length_append, List.length_cons, List.length_take, List.length_drop]; omega) (by omega))
         have hbf : Below w.heap.size w wa5 := below_next HB0.out hA5
         clear RA
         go_wp2_with fail
         go_roundw
         case rel => exact ⟨k + 1, by omega, by go_num, by rw [HN2.out]; exact HO.out, hbf⟩
         case measure => simp [RowKit.intOf]; omega
     ·have hjl : j = S.length := by omega
      subst hjl
      have HN2 : RowKit.Hid (sortKV L (k + 1) = S.take S.length ++ (x1, x2) :: S.drop S.length) := Lib.hid (by
       have hAl : A = S.length := by omega
       rw [HN.out, hAl, if_neg (fun h => Nat.lt_irrefl _ h.1)])
      have HS : RowKit.Hid (∀ w', Below wa.heap.size wa w' → Below wa.heap.size wa w') := Lib.hid (fun w' hb => hb)
      clear HN HQ HQ3
      go_wp2_with fail
      refine wpk HS [] (by kernel_rfl) fun hB0 hS0 => ?_
      refine wfr 0 (v := ?_) rfl ?_ ?_
      rotate_left
      ·intro w' hw';go_simp;try with_reducible rfl
      try simp only [Act.put, sq]
      refine won 1 rfl fun K hK => ?_
      go_simp
      refine hK.out _ _ (fun _ h => h) ?_
      clear hK K
      try simp only [Act.put, sq]
      refine won 2 rfl fun K hK => ?_
      go_simp
      refine hK.out _ _ (fun _ h => h) ?_
      clear hK K
      try simp only [Act.put, sq]
      refine won 3 rfl fun K hK => ?_
      go_simp
      refine hK.out _ _ (fun _ h => h) ?_
      clear hK K
      try simp only [Act.put, sq]
      refine won 4 rfl fun K hK => ?_
      go_simp
      refine hK.out _ _ (fun _ h => h) ?_
      clear hK K
      try simp only [Act.put, sq]
      refine wpAnyM_free 5 (v := undef) rfl (by kernel_rfl) (by kernel_rfl) (by kernel_rfl) (fun _ _ _ h => h) (Or.inr ⟨by rfl, rfl⟩) ?_
      try simp only [Act.put, sq]
      refine wpAnyM_free 6 (v := undef) rfl (by kernel_rfl) (by kernel_rfl) (by kernel_rfl) (fun _ _ _ h => h) (Or.inr ⟨by rfl, rfl⟩) ?_
      try simp only [Act.put, sq]
      refine wpAnyM_free 7 (v := undef) rfl (by kernel_rfl) (by kernel_rfl) (by kernel_rfl) (fun _ _ _ h => h) (Or.inr ⟨by rfl, rfl⟩) ?_
      try simp only [Act.put, sq]
      refine wpAnyM_free 8 (v := undef) rfl (by kernel_rfl) (by kernel_rfl) (by kernel_rfl) (fun _ _ _ h => h) (Or.inr ⟨by rfl, rfl⟩) ?_
      try simp only [Act.put, sq]
      refine wpAnyM_free 9 (v := undef) rfl (by kernel_rfl) (by kernel_rfl) (by kernel_rfl) (fun _ _ _ h => h) (Or.inr ⟨by rfl, rfl⟩) ?_
      try simp only [Act.put, sq]
      refine won 10 rfl fun K hK => ?_
      go_simp
      refine hK.out _ _ (fun _ h => h) ?_
      clear hK K
      try simp only [Act.put, sq]
      refine won 11 rfl fun K hK => ?_
      go_simp
      refine hK.out _ _ (fun _ h => h) ?_
      clear hK K
      try simp only [Act.put, sq]
      refine won 12 rfl fun K hK => ?_
      go_simp
      refine hK.out _ _ (fun _ h => h) ?_
      clear hK K
      try simp only [Act.put, sq]
      refine won 13 rfl fun K hK => ?_
      go_simp
      refine hK.out _ _ (fun _ _ => hS0) ?_
      clear hK K
      try simp only [Act.put, sq]
      refine won 14 rfl fun K hK => ?_
      go_simp
      refine hK.out _ _ (fun _ h => h) ?_
      clear hK K
      try simp only [Act.put, sq]
      refine wpAnyM_done (by kernel_rfl) ?_ _
      try simp only [Act.put, sq]
      clear hS0 HS
      obtain ⟨WZ, hWZ⟩ : ∃ q, wa.drew = q := ⟨_, rfl⟩
      rw [hWZ] at hB0 ⊢
      clear hWZ
      have hbz := hB0
      clear hB0
      go_wp2_with fail
      have HS : RowKit.Hid (∀ w', Below WZ.heap.size WZ w' → Below WZ.heap.size WZ w') := Lib.hid (fun w' hb => hb)
      refine wpk HS [] (by kernel_rfl) fun hB0 hS0 => ?_
      refine wfr 0 (v := ?_) rfl ?_ ?_
      rotate_left
      ·intro w' hw';go_simp;try with_reducible rfl
      try simp only [Act.put, sq]
      refine won 1 rfl fun K hK => ?_
      go_simp
      refine hK.out _ _ (fun _ h => h) ?_
      clear hK K
      try simp only [Act.put, sq]
      refine won 2 rfl fun K hK => ?_
      go_simp
      refine hK.out _ _ (fun _ h => h) ?_
      clear hK K
      try simp only [Act.put, sq]
      refine won 3 rfl fun K hK => ?_
      go_simp
      refine hK.out _ _ (fun _ h => h) ?_
      clear hK K
      try simp only [Act.put, sq]
      refine won 4 rfl fun K hK => ?_
      go_simp
      refine hK.out _ _ (fun _ h => h) ?_
      clear hK K
      try simp only [Act.put, sq]
      refine wpAnyM_free 5 (v := undef) rfl (by kernel_rfl) (by kernel_rfl) (by kernel_rfl) (fun _ _ _ h => h) (Or.inr ⟨by rfl, rfl⟩) ?_
      try simp only [Act.put, sq]
      refine wpAnyM_free 6 (v := undef) rfl (by kernel_rfl) (by kernel_rfl) (by kernel_rfl) (fun _ _ _ h => h) (Or.inr ⟨by rfl, rfl⟩) ?_
      try simp only [Act.put, sq]
      refine wpAnyM_free 7 (v := undef) rfl (by kernel_rfl) (by kernel_rfl) (by kernel_rfl) (fun _ _ _ h => h) (Or.inr ⟨by rfl, rfl⟩) ?_
      try simp only [Act.put, sq]
      refine wpAnyM_free 8 (v := undef) rfl (by kernel_rfl) (by kernel_rfl) (by kernel_rfl) (fun _ _ _ h => h) (Or.inr ⟨by rfl, rfl⟩) ?_
      try simp only [Act.put, sq]
      refine wpAnyM_free 9 (v := undef) rfl (by kernel_rfl) (by kernel_rfl) (by kernel_rfl) (fun _ _ _ h => h) (Or.inr ⟨by rfl, rfl⟩) ?_
      try simp only [Act.put, sq]
      refine won 10 rfl fun K hK => ?_
      go_simp
      refine hK.out _ _ (fun _ h => h) ?_
      clear hK K
      try simp only [Act.put, sq]
      refine won 11 rfl fun K hK => ?_
      go_simp
      refine hK.out _ _ (fun _ h => h) ?_
      clear hK K
      try simp only [Act.put, sq]
      refine won 12 rfl fun K hK => ?_
      go_simp
      refine hK.out _ _ (fun _ h => h) ?_
      clear hK K
      try simp only [Act.put, sq]
      refine won 13 rfl fun K hK => ?_
      go_simp
      refine hK.out _ _ (fun _ h => h) ?_
      clear hK K
      try simp only [Act.put, sq]
      refine won 14 rfl fun K hK => ?_
      go_simp
      refine hK.out _ _ (fun _ h => h) ?_
      clear hK K
      try simp only [Act.put, sq]
      refine wpAnyM_done (by kernel_rfl) ?_ _
      try simp only [Act.put, sq]
      clear hB0 hS0
      obtain ⟨WB, hWB⟩ : ∃ q, WZ.drew = q := ⟨_, rfl⟩
      have hBz : Below wa.heap.size wa WB := by rw [← hWB]; exact below_next hbz (Below.drew (Below.refl _ _))
      rw [hWB]
      clear hWB HS hbz
      go_wp2_with fail
      have hb1B := below_next hba hBz
      have HSl : RowKit.Hid (∀ w', Below WB.heap.size WB w' → ∀ q u, (valsC S)[q]? = some u → w'.cell? ⟨go, q, none⟩ = some u) := Lib.hid (fun w' hb q u hq => cell_later (below_next hb1B hb) (HC1.out q u hq))
      have HTk : RowKit.Hid (∀ w', Below WB.heap.size WB w' → ∀ q u, (valsC (S.take (S.length)))[q]? = some u → w'.cell? ⟨go, q, none⟩ = some u) := Lib.hid (fun w' hb q u hq => HSl.out w' hb q u (by
       rw [valsC_take] at hq
       have hq2 := (List.getElem?_eq_some_iff.1 hq).1
       rw [List.length_take] at hq2
       rw [List.getElem?_take_of_lt (by omega)] at hq
       exact hq))
      have HDr : RowKit.Hid (∀ w', Below WB.heap.size WB w' → ∀ q u, (valsC (S.drop (S.length)))[q]? = some u → w'.cell? ⟨go, (S.length) * 2 + q, none⟩ = some u) := Lib.hid (fun w' hb q u hq => HSl.out w' hb _ u (by
       rw [valsC_drop, List.getElem?_drop] at hq
       exact hq))
      have HS : RowKit.Hid (∀ w', Below WB.heap.size WB w' → w'.cell? ⟨gl, k * 2, none⟩ = some (.int .i64 x1) ∧ w'.cell? ⟨gl, k * 2 + 1, none⟩ = some (.int .i64 x2) ∧ Below WB.heap.size WB w') := Lib.hid (fun w' hb => ⟨cell_later (below_next hb1B hb) c0, cell_later (below_next hb1B hb) c1, hb⟩)
      have HB0 := Lib.hid (below_next hb01 hb1B)
      clear HSl
      clear z0 z1 hba hb1B
      by_cases hcS : co = S.length
      ·subst hcS
       refine wp_region_keep (fun w' => w'.cell? ⟨gl, k * 2, none⟩ = some (.int .i64 x1) ∧ w'.cell? ⟨gl, k * 2 + 1, none⟩ = some (.int .i64 x2) ∧ Below WB.heap.size WB w') [] (by kernel_rfl) ?_
       have hB0 : Below (WB).heap.size (WB) (WB).drew := Below.drew (Below.refl _ _)
       obtain ⟨wd, hwd⟩ : ∃ q, (WB).drew = q := ⟨_, rfl⟩
       rw [hwd] at hB0 ⊢
       clear hwd
       refine wfr 1 (v := ?_) rfl ?_ ?_
       rotate_left
       ·intro w' hw';go_simp;try with_reducible rfl
       try simp only [Act.put, sq]
       refine wfr 2 (v := ?_) rfl ?_ ?_
       rotate_left
       ·intro w' hw';go_simp;try with_reducible rfl
       try simp only [Act.put, sq]
       refine wfr 3 (v := ?_) rfl ?_ ?_
       rotate_left
       ·intro w' hw';go_simp;try with_reducible rfl
       try simp only [Act.put, sq]
       refine wfr 5 (v := ?_) rfl ?_ ?_
       rotate_left
       ·intro w' hw';go_simp;try with_reducible rfl
       try simp only [Act.put, sq]
       refine wfr 6 (v := ?_) rfl ?_ ?_
       rotate_left
       ·intro w' hw';go_simp;try with_reducible rfl
       try simp only [Act.put, sq]
       refine wfr 7 (v := ?_) rfl ?_ ?_
       rotate_left
       ·intro w' hw';go_simp;try with_reducible rfl
       try simp only [Act.put, sq]
       refine wtk 8 16 (v := ?_) rfl ?_ (HS.out _ hB0) ?_
       rotate_left
       ·intro w' hw';(try dsimp only at hw');go_simp;try with_reducible rfl
       try simp only [Act.put, sq]
       refine wfr 11 (v := ?_) rfl ?_ ?_
       rotate_left
       ·intro w' hw';go_simp;try with_reducible rfl
       try simp only [Act.put, sq]
       refine wfr 12 (v := ?_) rfl ?_ ?_
       rotate_left
       ·intro w' hw';go_simp;try with_reducible rfl
       try simp only [Act.put, sq]
       refine wfr 13 (v := ?_) rfl ?_ ?_
       rotate_left
       ·intro w' hw';go_simp;try with_reducible rfl
       try simp only [Act.put, sq]
       refine wpAnyM_two 0 9 rfl rfl (by kernel_rfl) (fun K hK => ?_) (fun K hK => ?_)
       ·go_simp
        have hA1 := hB0.alloc hB0.size (.cells #[] 24)
        have RA := Lib.hid (World.ownsRow_made (base := WB.heap.size) (size := 2) (e := 24) wd #[] 0 hB0.size (Nat.zero_le _) rfl)
        refine hK.out _ _ (fun _ _ => HS.out _ hA1) ?_
        clear hK K
        try simp only [Act.put, sq]
        obtain ⟨wa1, hwa1⟩ : ∃ q, wd.alloc (.cells #[] 24) = q := ⟨_, rfl⟩
        obtain ⟨gb1, hgb1⟩ : ∃ q, wd.heap.size = q := ⟨_, rfl⟩
        have hlt1 : WB.heap.size ≤ gb1 := by rw [← hgb1]; exact hB0.size
        simp only [hwa1, hgb1] at hA1 RA ⊢
        clear hwa1 hgb1
        refine wpAnyM_two 4 9 rfl rfl (by kernel_rfl) (fun K hK => ?_) (fun K hK => ?_)
        ·refine step_append_own_at (by rfl) _ _ 22 (by rfl) WB.heap.size 24 i1 (.agg #[.int .i64 0, .int .i64 0]) 2 16 Try.underlying22 hj hj0 hj1 hj2 rfl (by decide) (.slice (some ⟨gb1, 0, none⟩) 0 0) (0) ([]) (by rfl) RA.out ⟨go, 0, none⟩ (S.length) (S.length) (valsC (S.take (S.length))) (by rfl) (by rw [valsC_len, List.length_take]; omega) (fun q u hq => by rw [Addr.add_lit, Nat.zero_add]; exact HTk.out _ hA1 q u hq) (ones_vals _) (by unfold maxLen; omega) (by omega) hA1.size ?_
         intro v2 wa2 hown2 hg2 hat2
         rw [Nat.zero_add, List.nil_append] at hown2
         obtain ⟨p2, c2, rfl⟩ := owns_form hown2
         have hA2 : Below WB.heap.size WB wa2 := hA1.grown hg2 hA1.size (fun k hk => (RA.out.lt k hk).1)
         replace RA := Lib.hid hown2
         clear hown2 hg2 hat2
         refine hK.out _ _ (fun _ _ => HS.out _ hA2) ?_
         clear hK K
         try simp only [Act.put, sq]
         refine won 9 rfl fun K hK => ?_
         go_simp
         have hA3 := hA2.alloc hA2.size (.cells #[.int .i64 x1, .int .i64 x2] 24)
         have RX := Lib.hid (World.ownsRow_lit (base := WB.heap.size) (size := 2) (e := 24) wa2 #[.int .i64 x1, .int .i64 x2] 1 hA2.size (by unfold maxLen; omega) rfl)
         have D := Lib.hid (Parted.new RA.out 1 1)
         replace RA := Lib.hid (RA.out.alloc (.cells #[.int .i64 x1, .int .i64 x2] 24))
         refine hK.out _ _ (fun _ _ => HS.out _ hA3) ?_
         clear hK K
         try simp only [Act.put, sq]
         obtain ⟨wa3, hwa3⟩ : ∃ q, wa2.alloc (.cells #[.int .i64 x1, .int .i64 x2] 24) = q := ⟨_, rfl⟩
         obtain ⟨gb3, hgb3⟩ : ∃ q, wa2.heap.size = q := ⟨_, rfl⟩
         have hlt3 : WB.heap.size ≤ gb3 := by rw [← hgb3]; exact hA2.size
         simp only [hwa3, hgb3] at hA3 RA RX D ⊢
         clear hwa3 hgb3
         refine won 10 rfl fun K hK => ?_
         refine step_append_own_at (by rfl) _ _ 22 (by rfl) WB.heap.size 24 i1 (.agg #[.int .i64 0, .int .i64 0]) 2 16 Try.underlying22 hj hj0 hj1 hj2 rfl (by decide) (.slice p2 (S.length) c2) (S.length) (valsC (S.take (S.length))) (by rfl) RA.out ⟨gb3, 0, none⟩ (1) (1) ([.int .i64 x1, .int .i64 x2]) (by rfl) (rfl) (fun q u hq => by rw [Addr.add_lit, Nat.zero_add, RX.out.cellAt q (by have := (List.getElem?_eq_some_iff.1 hq).1; simpa using this)]; exact hq) (ones_two _ _) (by unfold maxLen; omega) (by omega) hA3.size ?_
         intro v4 wa4 hown4 hg4 hat4
         obtain ⟨p4, c4, rfl⟩ := owns_form hown4
         have hA4 : Below WB.heap.size WB wa4 := hA3.grown hg4 hA3.size (fun k hk => (RA.out.lt k hk).1)
         clear D RX
         replace RA := Lib.hid hown4
         clear hown4 hg4 hat4
         refine hK.out _ _ (fun _ _ => HS.out _ hA4) ?_
         clear hK K
         try simp only [Act.put, sq]
         refine won 14 rfl fun K hK => ?_
         refine step_append_own_at (by rfl) _ _ 22 (by rfl) WB.heap.size 24 i1 (.agg #[.int .i64 0, .int .i64 0]) 2 16 Try.underlying22 hj hj0 hj1 hj2 rfl (by decide) (.slice p4 (S.length + 1) c4) (S.length + 1) (valsC (S.take (S.length)) ++ [.int .i64 x1, .int .i64 x2]) (by rfl) RA.out ⟨go, 0, none⟩ (0) (0) ([]) (by rfl) (rfl) (fun q u hq => by simp at hq) (fun u hu => by simp at hu) (by unfold maxLen; omega) (by omega) hA4.size ?_
         intro v5 wa5 hown5 hg5 hat5
         obtain ⟨p5, c5, rfl⟩ := owns_form hown5
         have hA5 : Below WB.heap.size WB wa5 := hA4.grown hg5 hA4.size (fun k hk => (RA.out.lt k hk).1)
         replace RA := Lib.hid hown5
         clear hown5 hg5 hat5
         refine hK.out _ _ (fun _ _ => HS.out _ hA5) ?_
         clear hK K
         try simp only [Act.put, sq]
         refine won 15 rfl fun K hK => ?_
         go_simp
         refine hK.out _ _ (fun _ h => h) ?_
         clear hK K
         try simp only [Act.put, sq]
         refine wpAnyM_done (by kernel_rfl) ?_ _
         try simp only [Act.put, sq]
         have HO : RowKit.Hid (ValsO wa5 (.slice p5 (S.length + 1 + (0)) c5) (S.take (S.length) ++ (x1, x2) :: S.drop (S.length))) := Lib.hid (own_valsO RA.out (by rw [List.drop_length, List.take_length]; simp [valsC, valCells]) (by rw [List.length_append, List.length_cons, List.length_take, List.length_drop]; omega) (by omega))
         have hbf : Below w.heap.size w wa5 := below_next HB0.out hA5
         clear RA
         go_wp2_with fail
         go_roundw
         case rel => exact ⟨k + 1, by omega, by go_num, by rw [HN2.out]; exact HO.out, hbf⟩
         case measure => simp [RowKit.intOf]; omega
        ·go_simp
         have hA2 := hA1.alloc hA1.size (.cells #[.int .i64 x1, .int .i64 x2] 24)
         have RX := Lib.hid (World.ownsRow_lit (base := WB.heap.size) (size := 2) (e := 24) wa1 #[.int .i64 x1, .int .i64 x2] 1 hA1.size (by unfold maxLen; omega) rfl)
         have D := Lib.hid (Parted.new RA.out 1 1)
         replace RA := Lib.hid (RA.out.alloc (.cells #[.int .i64 x1, .int .i64 x2] 24))
         refine hK.out _ _ (fun _ _ => HS.out _ hA2) ?_
         clear hK K
         try simp only [Act.put, sq]
         obtain ⟨wa2, hwa2⟩ : ∃ q, wa1.alloc (.cells #[.int .i64 x1, .int .i64 x2] 24) = q := ⟨_, rfl⟩
         obtain ⟨gb2, hgb2⟩ : ∃ q, wa1.heap.size = q := ⟨_, rfl⟩
         have hlt2 : WB.heap.size ≤ gb2 := by rw [← hgb2]; exact hA1.size
         simp only [hwa2, hgb2] at hA2 RA RX D ⊢
         clear hwa2 hgb2
         refine won 4 rfl fun K hK => ?_
         refine step_append_own_at (by rfl) _ _ 22 (by rfl) WB.heap.size 24 i1 (.agg #[.int .i64 0, .int .i64 0]) 2 16 Try.underlying22 hj hj0 hj1 hj2 rfl (by decide) (.slice (some ⟨gb1, 0, none⟩) 0 0) (0) ([]) (by rfl) RA.out ⟨go, 0, none⟩ (S.length) (S.length) (valsC (S.take (S.length))) (by rfl) (by rw [valsC_len, List.length_take]; omega) (fun q u hq => by rw [Addr.add_lit, Nat.zero_add]; exact HTk.out _ hA2 q u hq) (ones_vals _) (by unfold maxLen; omega) (by omega) hA2.size ?_
         intro v3 wa3 hown3 hg3 hat3
         rw [Nat.zero_add, List.nil_append] at hown3
         obtain ⟨p3, c3, rfl⟩ := owns_form hown3
         have hA3 : Below WB.heap.size WB wa3 := hA2.grown hg3 hA2.size (fun k hk => (RA.out.lt k hk).1)
         have D2 := Lib.hid (Parted.grow (D.out) hat3 RX.out)
         replace RX := Lib.hid (owns_beside RX.out hg3 (fun k h1 h2 => (D.out) k h2 h1))
         replace D := Lib.hid D2.out
         clear D2
         replace RA := Lib.hid hown3
         clear hown3 hg3 hat3
         refine hK.out _ _ (fun _ _ => HS.out _ hA3) ?_
         clear hK K
         try simp only [Act.put, sq]
         refine won 10 rfl fun K hK => ?_
         refine step_append_own_at (by rfl) _ _ 22 (by rfl) WB.heap.size 24 i1 (.agg #[.int .i64 0, .int .i64 0]) 2 16 Try.underlying22 hj hj0 hj1 hj2 rfl (by decide) (.slice p3 (S.length) c3) (S.length) (valsC (S.take (S.length))) (by rfl) RA.out ⟨gb2, 0, none⟩ (1) (1) ([.int .i64 x1, .int .i64 x2]) (by rfl) (rfl) (fun q u hq => by rw [Addr.add_lit, Nat.zero_add, RX.out.cellAt q (by have := (List.getElem?_eq_some_iff.1 hq).1; simpa using this)]; exact hq) (ones_two _ _) (by unfold maxLen; omega) (by omega) hA3.size ?_
         intro v4 wa4 hown4 hg4 hat4
         obtain ⟨p4, c4, rfl⟩ := owns_form hown4
         have hA4 : Below WB.heap.size WB wa4 := hA3.grown hg4 hA3.size (fun k hk => (RA.out.lt k hk).1)
         clear D RX
         replace RA := Lib.hid hown4
         clear hown4 hg4 hat4
         refine hK.out _ _ (fun _ _ => HS.out _ hA4) ?_
         clear hK K
         try simp only [Act.put, sq]
         refine won 14 rfl fun K hK => ?_
         refine step_append_own_at (by rfl) _ _ 22 (by rfl) WB.heap.size 24 i1 (.agg #[.int .i64 0, .int .i64 0]) 2 16 Try.underlying22 hj hj0 hj1 hj2 rfl (by decide) (.slice p4 (S.length + 1) c4) (S.length + 1) (valsC (S.take (S.length)) ++ [.int .i64 x1, .int .i64 x2]) (by rfl) RA.out ⟨go, 0, none⟩ (0) (0) ([]) (by rfl) (rfl) (fun q u hq => by simp at hq) (fun u hu => by simp at hu) (by unfold maxLen; omega) (by omega) hA4.size ?_
         intro v5 wa5 hown5 hg5 hat5
         obtain ⟨p5, c5, rfl⟩ := owns_form hown5
         have hA5 : Below WB.heap.size WB wa5 := hA4.grown hg5 hA4.size (fun k hk => (RA.out.lt k hk).1)
         replace RA := Lib.hid hown5
         clear hown5 hg5 hat5
         refine hK.out _ _ (fun _ _ => HS.out _ hA5) ?_
         clear hK K
         try simp only [Act.put, sq]
         refine won 15 rfl fun K hK => ?_
         go_simp
         refine hK.out _ _ (fun _ h => h) ?_
         clear hK K
         try simp only [Act.put, sq]
         refine wpAnyM_done (by kernel_rfl) ?_ _
         try simp only [Act.put, sq]
         have HO : RowKit.Hid (ValsO wa5 (.slice p5 (S.length + 1 + (0)) c5) (S.take (S.length) ++ (x1, x2) :: S.drop (S.length))) := Lib.hid (own_valsO RA.out (by rw [List.drop_length, List.take_length]; simp [valsC, valCells]) (by rw [List.length_append, List.length_cons, List.length_take, List.length_drop]; omega) (by omega))
         have hbf : Below w.heap.size w wa5 := below_next HB0.out hA5
         clear RA
         go_wp2_with fail
         go_roundw
         case rel => exact ⟨k + 1, by omega, by go_num, by rw [HN2.out]; exact HO.out, hbf⟩
         case measure => simp [RowKit.intOf]; omega
       ·go_simp
        have hA1 := hB0.alloc hB0.size (.cells #[.int .i64 x1, .int .i64 x2] 24)
        have RX := Lib.hid (World.ownsRow_lit (base := WB.heap.size) (size := 2) (e := 24) wd #[.int .i64 x1, .int .i64 x2] 1 hB0.size (by unfold maxLen; omega) rfl)
        refine hK.out _ _ (fun _ _ => HS.out _ hA1) ?_
        clear hK K
        try simp only [Act.put, sq]
        obtain ⟨wa1, hwa1⟩ : ∃ q, wd.alloc (.cells #[.int .i64 x1, .int .i64 x2] 24) = q := ⟨_, rfl⟩
        obtain ⟨gb1, hgb1⟩ : ∃ q, wd.heap.size = q := ⟨_, rfl⟩
        have hlt1 : WB.heap.size ≤ gb1 := by rw [← hgb1]; exact hB0.size
        simp only [hwa1, hgb1] at hA1 RX ⊢
        clear hwa1 hgb1
        refine won 0 rfl fun K hK => ?_
        go_simp
        have hA2 := hA1.alloc hA1.size (.cells #[] 24)
        have RA := Lib.hid (World.ownsRow_made (base := WB.heap.size) (size := 2) (e := 24) wa1 #[] 0 hA1.size (Nat.zero_le _) rfl)
        have D := Lib.hid (Parted.new RX.out 0 0)
        replace RX := Lib.hid (RX.out.alloc (.cells #[] 24))
        refine hK.out _ _ (fun _ _ => HS.out _ hA2) ?_
        clear hK K
        try simp only [Act.put, sq]
        obtain ⟨wa2, hwa2⟩ : ∃ q, wa1.alloc (.cells #[] 24) = q := ⟨_, rfl⟩
        obtain ⟨gb2, hgb2⟩ : ∃ q, wa1.heap.size = q := ⟨_, rfl⟩
        have hlt2 : WB.heap.size ≤ gb2 := by rw [← hgb2]; exact hA1.size
        simp only [hwa2, hgb2] at hA2 RX RA D ⊢
        clear hwa2 hgb2
        refine won 4 rfl fun K hK => ?_
        refine step_append_own_at (by rfl) _ _ 22 (by rfl) WB.heap.size 24 i1 (.agg #[.int .i64 0, .int .i64 0]) 2 16 Try.underlying22 hj hj0 hj1 hj2 rfl (by decide) (.slice (some ⟨gb2, 0, none⟩) 0 0) (0) ([]) (by rfl) RA.out ⟨go, 0, none⟩ (S.length) (S.length) (valsC (S.take (S.length))) (by rfl) (by rw [valsC_len, List.length_take]; omega) (fun q u hq => by rw [Addr.add_lit, Nat.zero_add]; exact HTk.out _ hA2 q u hq) (ones_vals _) (by unfold maxLen; omega) (by omega) hA2.size ?_
        intro v3 wa3 hown3 hg3 hat3
        rw [Nat.zero_add, List.nil_append] at hown3
        obtain ⟨p3, c3, rfl⟩ := owns_form hown3
        have hA3 : Below WB.heap.size WB wa3 := hA2.grown hg3 hA2.size (fun k hk => (RA.out.lt k hk).1)
        have D2 := Lib.hid (Parted.grow (D.out.flip) hat3 RX.out)
        replace RX := Lib.hid (owns_beside RX.out hg3 (fun k h1 h2 => (D.out.flip) k h2 h1))
        replace D := Lib.hid D2.out
        clear D2
        replace RA := Lib.hid hown3
        clear hown3 hg3 hat3
        refine hK.out _ _ (fun _ _ => HS.out _ hA3) ?_
        clear hK K
        try simp only [Act.put, sq]
        refine won 10 rfl fun K hK => ?_
        refine step_append_own_at (by rfl) _ _ 22 (by rfl) WB.heap.size 24 i1 (.agg #[.int .i64 0, .int .i64 0]) 2 16 Try.underlying22 hj hj0 hj1 hj2 rfl (by decide) (.slice p3 (S.length) c3) (S.length) (valsC (S.take (S.length))) (by rfl) RA.out ⟨gb1, 0, none⟩ (1) (1) ([.int .i64 x1, .int .i64 x2]) (by rfl) (rfl) (fun q u hq => by rw [Addr.add_lit, Nat.zero_add, RX.out.cellAt q (by have := (List.getElem?_eq_some_iff.1 hq).1; simpa using this)]; exact hq) (ones_two _ _) (by unfold maxLen; omega) (by omega) hA3.size ?_
        intro v4 wa4 hown4 hg4 hat4
        obtain ⟨p4, c4, rfl⟩ := owns_form hown4
        have hA4 : Below WB.heap.size WB wa4 := hA3.grown hg4 hA3.size (fun k hk => (RA.out.lt k hk).1)
        clear D RX
        replace RA := Lib.hid hown4
        clear hown4 hg4 hat4
        refine hK.out _ _ (fun _ _ => HS.out _ hA4) ?_
        clear hK K
        try simp only [Act.put, sq]
        refine won 14 rfl fun K hK => ?_
        refine step_append_own_at (by rfl) _ _ 22 (by rfl) WB.heap.size 24 i1 (.agg #[.int .i64 0, .int .i64 0]) 2 16 Try.underlying22 hj hj0 hj1 hj2 rfl (by decide) (.slice p4 (S.length + 1) c4) (S.length + 1) (valsC (S.take (S.length)) ++ [.int .i64 x1, .int .i64 x2]) (by rfl) RA.out ⟨go, 0, none⟩ (0) (0) ([]) (by rfl) (rfl) (fun q u hq => by simp at hq) (fun u hu => by simp at hu) (by unfold maxLen; omega) (by omega) hA4.size ?_
        intro v5 wa5 hown5 hg5 hat5
        obtain ⟨p5, c5, rfl⟩ := owns_form hown5
        have hA5 : Below WB.heap.size WB wa5 := hA4.grown hg5 hA4.size (fun k hk => (RA.out.lt k hk).1)
        replace RA := Lib.hid hown5
        clear hown5 hg5 hat5
        refine hK.out _ _ (fun _ _ => HS.out _ hA5) ?_
        clear hK K
        try simp only [Act.put, sq]
        refine won 15 rfl fun K hK => ?_
        go_simp
        refine hK.out _ _ (fun _ h => h) ?_
        clear hK K
        try simp only [Act.put, sq]
        refine wpAnyM_done (by kernel_rfl) ?_ _
        try simp only [Act.put, sq]
        have HO : RowKit.Hid (ValsO wa5 (.slice p5 (S.length + 1 + (0)) c5) (S.take (S.length) ++ (x1, x2) :: S.drop (S.length))) := Lib.hid (own_valsO RA.out (by rw [List.drop_length, List.take_length]; simp [valsC, valCells]) (by rw [List.length_append, List.length_cons, List.length_take, List.length_drop]; omega) (by omega))
        have hbf : Below w.heap.size w wa5 := below_next HB0.out hA5
        clear RA
        go_wp2_with fail
        go_roundw
        case rel => exact ⟨k + 1, by omega, by go_num, by rw [HN2.out]; exact HO.out, hbf⟩
        case measure => simp [RowKit.intOf]; omega
      ·have hcj : ¬ co = S.length := hcS
       refine wp_region_keep (fun w' => w'.cell? ⟨gl, k * 2, none⟩ = some (.int .i64 x1) ∧ w'.cell? ⟨gl, k * 2 + 1, none⟩ = some (.int .i64 x2) ∧ Below WB.heap.size WB w') [] (by kernel_rfl) ?_
       have hB0 : Below (WB).heap.size (WB) (WB).drew := Below.drew (Below.refl _ _)
       obtain ⟨wd, hwd⟩ : ∃ q, (WB).drew = q := ⟨_, rfl⟩
       rw [hwd] at hB0 ⊢
       clear hwd
       refine wfr 1 (v := ?_) rfl ?_ ?_
       rotate_left
       ·intro w' hw';go_simp;try with_reducible rfl
       try simp only [Act.put, sq]
       refine wfr 2 (v := ?_) rfl ?_ ?_
       rotate_left
       ·intro w' hw';go_simp;try with_reducible rfl
       try simp only [Act.put, sq]
       refine wfr 3 (v := ?_) rfl ?_ ?_
       rotate_left
       ·intro w' hw';go_simp;try with_reducible rfl
       try simp only [Act.put, sq]
       refine wfr 5 (v := ?_) rfl ?_ ?_
       rotate_left
       ·intro w' hw';go_simp;try with_reducible rfl
       try simp only [Act.put, sq]
       refine wfr 6 (v := ?_) rfl ?_ ?_
       rotate_left
       ·intro w' hw';go_simp;try with_reducible rfl
       try simp only [Act.put, sq]
       refine wfr 7 (v := ?_) rfl ?_ ?_
       rotate_left
       ·intro w' hw';go_simp;try with_reducible rfl
       try simp only [Act.put, sq]
       refine wtk 8 16 (v := ?_) rfl ?_ (HS.out _ hB0) ?_
       rotate_left
       ·intro w' hw';(try dsimp only at hw');go_simp;try with_reducible rfl
       try simp only [Act.put, sq]
       refine wfr 11 (v := ?_) rfl ?_ ?_
       rotate_left
       ·intro w' hw';go_simp;try with_reducible rfl
       try simp only [Act.put, sq]
       refine wfr 12 (v := ?_) rfl ?_ ?_
       rotate_left
       ·intro w' hw';go_simp;try with_reducible rfl
       try simp only [Act.put, sq]
       refine wfr 13 (v := ?_) rfl ?_ ?_
       rotate_left
       ·intro w' hw';go_simp;try with_reducible rfl
       try simp only [Act.put, sq]
       refine wpAnyM_two 0 9 rfl rfl (by kernel_rfl) (fun K hK => ?_) (fun K hK => ?_)
       ·go_simp
        have hA1 := hB0.alloc hB0.size (.cells #[] 24)
        have RA := Lib.hid (World.ownsRow_made (base := WB.heap.size) (size := 2) (e := 24) wd #[] 0 hB0.size (Nat.zero_le _) rfl)
        refine hK.out _ _ (fun _ _ => HS.out _ hA1) ?_
        clear hK K
        try simp only [Act.put, sq]
        obtain ⟨wa1, hwa1⟩ : ∃ q, wd.alloc (.cells #[] 24) = q := ⟨_, rfl⟩
        obtain ⟨gb1, hgb1⟩ : ∃ q, wd.heap.size = q := ⟨_, rfl⟩
        have hlt1 : WB.heap.size ≤ gb1 := by rw [← hgb1]; exact hB0.size
        simp only [hwa1, hgb1] at hA1 RA ⊢
        clear hwa1 hgb1
        refine wpAnyM_two 4 9 rfl rfl (by kernel_rfl) (fun K hK => ?_) (fun K hK => ?_)
        ·refine step_append_own_at (by rfl) _ _ 22 (by rfl) WB.heap.size 24 i1 (.agg #[.int .i64 0, .int .i64 0]) 2 16 Try.underlying22 hj hj0 hj1 hj2 rfl (by decide) (.slice (some ⟨gb1, 0, none⟩) 0 0) (0) ([]) (by rfl) RA.out ⟨go, 0, none⟩ (S.length) (co) (valsC (S.take (S.length))) (by rfl) (by rw [valsC_len, List.length_take]; omega) (fun q u hq => by rw [Addr.add_lit, Nat.zero_add]; exact HTk.out _ hA1 q u hq) (ones_vals _) (by unfold maxLen; omega) (by omega) hA1.size ?_
         intro v2 wa2 hown2 hg2 hat2
         rw [Nat.zero_add, List.nil_append] at hown2
         obtain ⟨p2, c2, rfl⟩ := owns_form hown2
         have hA2 : Below WB.heap.size WB wa2 := hA1.grown hg2 hA1.size (fun k hk => (RA.out.lt k hk).1)
         replace RA := Lib.hid hown2
         clear hown2 hg2 hat2
         refine hK.out _ _ (fun _ _ => HS.out _ hA2) ?_
         clear hK K
         try simp only [Act.put, sq]
         refine won 9 rfl fun K hK => ?_
         go_simp
         have hA3 := hA2.alloc hA2.size (.cells #[.int .i64 x1, .int .i64 x2] 24)
         have RX := Lib.hid (World.ownsRow_lit (base := WB.heap.size) (size := 2) (e := 24) wa2 #[.int .i64 x1, .int .i64 x2] 1 hA2.size (by unfold maxLen; omega) rfl)
         have D := Lib.hid (Parted.new RA.out 1 1)
         replace RA := Lib.hid (RA.out.alloc (.cells #[.int .i64 x1, .int .i64 x2] 24))
         refine hK.out _ _ (fun _ _ => HS.out _ hA3) ?_
         clear hK K
         try simp only [Act.put, sq]
         obtain ⟨wa3, hwa3⟩ : ∃ q, wa2.alloc (.cells #[.int .i64 x1, .int .i64 x2] 24) = q := ⟨_, rfl⟩
         obtain ⟨gb3, hgb3⟩ : ∃ q, wa2.heap.size = q := ⟨_, rfl⟩
         have hlt3 : WB.heap.size ≤ gb3 := by rw [← hgb3]; exact hA2.size
         simp only [hwa3, hgb3] at hA3 RA RX D ⊢
         clear hwa3 hgb3
         refine won 10 rfl fun K hK => ?_
         refine step_append_own_at (by rfl) _ _ 22 (by rfl) WB.heap.size 24 i1 (.agg #[.int .i64 0, .int .i64 0]) 2 16 Try.underlying22 hj hj0 hj1 hj2 rfl (by decide) (.slice p2 (S.length) c2) (S.length) (valsC (S.take (S.length))) (by rfl) RA.out ⟨gb3, 0, none⟩ (1) (1) ([.int .i64 x1, .int .i64 x2]) (by rfl) (rfl) (fun q u hq => by rw [Addr.add_lit, Nat.zero_add, RX.out.cellAt q (by have := (List.getElem?_eq_some_iff.1 hq).1; simpa using this)]; exact hq) (ones_two _ _) (by unfold maxLen; omega) (by omega) hA3.size ?_
         intro v4 wa4 hown4 hg4 hat4
         obtain ⟨p4, c4, rfl⟩ := owns_form hown4
         have hA4 : Below WB.heap.size WB wa4 := hA3.grown hg4 hA3.size (fun k hk => (RA.out.lt k hk).1)
         clear D RX
         replace RA := Lib.hid hown4
         clear hown4 hg4 hat4
         refine hK.out _ _ (fun _ _ => HS.out _ hA4) ?_
         clear hK K
         try simp only [Act.put, sq]
         refine won 14 rfl fun K hK => ?_
         refine step_append_own_at (by rfl) _ _ 22 (by rfl) WB.heap.size 24 i1 (.agg #[.int .i64 0, .int .i64 0]) 2 16 Try.underlying22 hj hj0 hj1 hj2 rfl (by decide) (.slice p4 (S.length + 1) c4) (S.length + 1) (valsC (S.take (S.length)) ++ [.int .i64 x1, .int .i64 x2]) (by rfl) RA.out ⟨go, S.length * 2, none⟩ (0) (co - S.length) ([]) (by rfl) (rfl) (fun q u hq => by simp at hq) (fun u hu => by simp at hu) (by unfold maxLen; omega) (by omega) hA4.size ?_
         intro v5 wa5 hown5 hg5 hat5
         obtain ⟨p5, c5, rfl⟩ := owns_form hown5
         have hA5 : Below WB.heap.size WB wa5 := hA4.grown hg5 hA4.size (fun k hk => (RA.out.lt k hk).1)
         replace RA := Lib.hid hown5
         clear hown5 hg5 hat5
         refine hK.out _ _ (fun _ _ => HS.out _ hA5) ?_
         clear hK K
         try simp only [Act.put, sq]
         refine won 15 rfl fun K hK => ?_
         go_simp
         refine hK.out _ _ (fun _ h => h) ?_
         clear hK K
         try simp only [Act.put, sq]
         refine wpAnyM_done (by kernel_rfl) ?_ _
         try simp only [Act.put, sq]
         have HO : RowKit.Hid (ValsO wa5 (.slice p5 (S.length + 1 + (0)) c5) (S.take (S.length) ++ (x1, x2) :: S.drop (S.length))) := Lib.hid (own_valsO RA.out (by rw [List.drop_length, List.take_length]; simp [valsC, valCells]) (by rw [List.length_append, List.length_cons, List.length_take, List.length_drop]; omega) (by omega))
         have hbf : Below w.heap.size w wa5 := below_next HB0.out hA5
         clear RA
         go_wp2_with fail
         go_roundw
         case rel => exact ⟨k + 1, by omega, by go_num, by rw [HN2.out]; exact HO.out, hbf⟩
         case measure => simp [RowKit.intOf]; omega
        ·go_simp
         have hA2 := hA1.alloc hA1.size (.cells #[.int .i64 x1, .int .i64 x2] 24)
         have RX := Lib.hid (World.ownsRow_lit (base := WB.heap.size) (size := 2) (e := 24) wa1 #[.int .i64 x1, .int .i64 x2] 1 hA1.size (by unfold maxLen; omega) rfl)
         have D := Lib.hid (Parted.new RA.out 1 1)
         replace RA := Lib.hid (RA.out.alloc (.cells #[.int .i64 x1, .int .i64 x2] 24))
         refine hK.out _ _ (fun _ _ => HS.out _ hA2) ?_
         clear hK K
         try simp only [Act.put, sq]
         obtain ⟨wa2, hwa2⟩ : ∃ q, wa1.alloc (.cells #[.int .i64 x1, .int .i64 x2] 24) = q := ⟨_, rfl⟩
         obtain ⟨gb2, hgb2⟩ : ∃ q, wa1.heap.size = q := ⟨_, rfl⟩
         have hlt2 : WB.heap.size ≤ gb2 := by rw [← hgb2]; exact hA1.size
         simp only [hwa2, hgb2] at hA2 RA RX D ⊢
         clear hwa2 hgb2
         refine won 4 rfl fun K hK => ?_
         refine step_append_own_at (by rfl) _ _ 22 (by rfl) WB.heap.size 24 i1 (.agg #[.int .i64 0, .int .i64 0]) 2 16 Try.underlying22 hj hj0 hj1 hj2 rfl (by decide) (.slice (some ⟨gb1, 0, none⟩) 0 0) (0) ([]) (by rfl) RA.out ⟨go, 0, none⟩ (S.length) (co) (valsC (S.take (S.length))) (by rfl) (by rw [valsC_len, List.length_take]; omega) (fun q u hq => by rw [Addr.add_lit, Nat.zero_add]; exact HTk.out _ hA2 q u hq) (ones_vals _) (by unfold maxLen; omega) (by omega) hA2.size ?_
         intro v3 wa3 hown3 hg3 hat3
         rw [Nat.zero_add, List.nil_append] at hown3
         obtain ⟨p3, c3, rfl⟩ := owns_form hown3
         have hA3 : Below WB.heap.size WB wa3 := hA2.grown hg3 hA2.size (fun k hk => (RA.out.lt k hk).1)
         have D2 := Lib.hid (Parted.grow (D.out) hat3 RX.out)
         replace RX := Lib.hid (owns_beside RX.out hg3 (fun k h1 h2 => (D.out) k h2 h1))
         replace D := Lib.hid D2.out
         clear D2
         replace RA := Lib.hid hown3
         clear hown3 hg3 hat3
         refine hK.out _ _ (fun _ _ => HS.out _ hA3) ?_
         clear hK K
         try simp only [Act.put, sq]
         refine won 10 rfl fun K hK => ?_
         refine step_append_own_at (by rfl) _ _ 22 (by rfl) WB.heap.size 24 i1 (.agg #[.int .i64 0, .int .i64 0]) 2 16 Try.underlying22 hj hj0 hj1 hj2 rfl (by decide) (.slice p3 (S.length) c3) (S.length) (valsC (S.take (S.length))) (by rfl) RA.out ⟨gb2, 0, none⟩ (1) (1) ([.int .i64 x1, .int .i64 x2]) (by rfl) (rfl) (fun q u hq => by rw [Addr.add_lit, Nat.zero_add, RX.out.cellAt q (by have := (List.getElem?_eq_some_iff.1 hq).1; simpa using this)]; exact hq) (ones_two _ _) (by unfold maxLen; omega) (by omega) hA3.size ?_
         intro v4 wa4 hown4 hg4 hat4
         obtain ⟨p4, c4, rfl⟩ := owns_form hown4
         have hA4 : Below WB.heap.size WB wa4 := hA3.grown hg4 hA3.size (fun k hk => (RA.out.lt k hk).1)
         clear D RX
         replace RA := Lib.hid hown4
         clear hown4 hg4 hat4
         refine hK.out _ _ (fun _ _ => HS.out _ hA4) ?_
         clear hK K
         try simp only [Act.put, sq]
         refine won 14 rfl fun K hK => ?_
         refine step_append_own_at (by rfl) _ _ 22 (by rfl) WB.heap.size 24 i1 (.agg #[.int .i64 0, .int .i64 0]) 2 16 Try.underlying22 hj hj0 hj1 hj2 rfl (by decide) (.slice p4 (S.length + 1) c4) (S.length + 1) (valsC (S.take (S.length)) ++ [.int .i64 x1, .int .i64 x2]) (by rfl) RA.out ⟨go, S.length * 2, none⟩ (0) (co - S.length) ([]) (by rfl) (rfl) (fun q u hq => by simp at hq) (fun u hu => by simp at hu) (by unfold maxLen; omega) (by omega) hA4.size ?_
         intro v5 wa5 hown5 hg5 hat5
         obtain ⟨p5, c5, rfl⟩ := owns_form hown5
         have hA5 : Below WB.heap.size WB wa5 := hA4.grown hg5 hA4.size (fun k hk => (RA.out.lt k hk).1)
         replace RA := Lib.hid hown5
         clear hown5 hg5 hat5
         refine hK.out _ _ (fun _ _ => HS.out _ hA5) ?_
         clear hK K
         try simp only [Act.put, sq]
         refine won 15 rfl fun K hK => ?_
         go_simp
         refine hK.out _ _ (fun _ h => h) ?_
         clear hK K
         try simp only [Act.put, sq]
         refine wpAnyM_done (by kernel_rfl) ?_ _
         try simp only [Act.put, sq]
         have HO : RowKit.Hid (ValsO wa5 (.slice p5 (S.length + 1 + (0)) c5) (S.take (S.length) ++ (x1, x2) :: S.drop (S.length))) := Lib.hid (own_valsO RA.out (by rw [List.drop_length, List.take_length]; simp [valsC, valCells]) (by rw [List.length_append, List.length_cons, List.length_take, List.length_drop]; omega) (by omega))
         have hbf : Below w.heap.size w wa5 := below_next HB0.out hA5
         clear RA
         go_wp2_with fail
         go_roundw
         case rel => exact ⟨k + 1, by omega, by go_num, by rw [HN2.out]; exact HO.out, hbf⟩
         case measure => simp [RowKit.intOf]; omega
       ·go_simp
        have hA1 := hB0.alloc hB0.size (.cells #[.int .i64 x1, .int .i64 x2] 24)
        have RX := Lib.hid (World.ownsRow_lit (base := WB.heap.size) (size := 2) (e := 24) wd #[.int .i64 x1, .int .i64 x2] 1 hB0.size (by unfold maxLen; omega) rfl)
        refine hK.out _ _ (fun _ _ => HS.out _ hA1) ?_
        clear hK K
        try simp only [Act.put, sq]
        obtain ⟨wa1, hwa1⟩ : ∃ q, wd.alloc (.cells #[.int .i64 x1, .int .i64 x2] 24) = q := ⟨_, rfl⟩
        obtain ⟨gb1, hgb1⟩ : ∃ q, wd.heap.size = q := ⟨_, rfl⟩
        have hlt1 : WB.heap.size ≤ gb1 := by rw [← hgb1]; exact hB0.size
        simp only [hwa1, hgb1] at hA1 RX ⊢
        clear hwa1 hgb1
        refine won 0 rfl fun K hK => ?_
        go_simp
        have hA2 := hA1.alloc hA1.size (.cells #[] 24)
        have RA := Lib.hid (World.ownsRow_made (base := WB.heap.size) (size := 2) (e := 24) wa1 #[] 0 hA1.size (Nat.zero_le _) rfl)
        have D := Lib.hid (Parted.new RX.out 0 0)
        replace RX := Lib.hid (RX.out.alloc (.cells #[] 24))
        refine hK.out _ _ (fun _ _ => HS.out _ hA2) ?_
        clear hK K
        try simp only [Act.put, sq]
        obtain ⟨wa2, hwa2⟩ : ∃ q, wa1.alloc (.cells #[] 24) = q := ⟨_, rfl⟩
        obtain ⟨gb2, hgb2⟩ : ∃ q, wa1.heap.size = q := ⟨_, rfl⟩
        have hlt2 : WB.heap.size ≤ gb2 := by rw [← hgb2]; exact hA1.size
        simp only [hwa2, hgb2] at hA2 RX RA D ⊢
        clear hwa2 hgb2
        refine won 4 rfl fun K hK => ?_
        refine step_append_own_at (by rfl) _ _ 22 (by rfl) WB.heap.size 24 i1 (.agg #[.int .i64 0, .int .i64 0]) 2 16 Try.underlying22 hj hj0 hj1 hj2 rfl (by decide) (.slice (some ⟨gb2, 0, none⟩) 0 0) (0) ([]) (by rfl) RA.out ⟨go, 0, none⟩ (S.length) (co) (valsC (S.take (S.length))) (by rfl) (by rw [valsC_len, List.length_take]; omega) (fun q u hq => by rw [Addr.add_lit, Nat.zero_add]; exact HTk.out _ hA2 q u hq) (ones_vals _) (by unfold maxLen; omega) (by omega) hA2.size ?_
        intro v3 wa3 hown3 hg3 hat3
        rw [Nat.zero_add, List.nil_append] at hown3
        obtain ⟨p3, c3, rfl⟩ := owns_form hown3
        have hA3 : Below WB.heap.size WB wa3 := hA2.grown hg3 hA2.size (fun k hk => (RA.out.lt k hk).1)
        have D2 := Lib.hid (Parted.grow (D.out.flip) hat3 RX.out)
        replace RX := Lib.hid (owns_beside RX.out hg3 (fun k h1 h2 => (D.out.flip) k h2 h1))
        replace D := Lib.hid D2.out
        clear D2
        replace RA := Lib.hid hown3
        clear hown3 hg3 hat3
        refine hK.out _ _ (fun _ _ => HS.out _ hA3) ?_
        clear hK K
        try simp only [Act.put, sq]
        refine won 10 rfl fun K hK => ?_
        refine step_append_own_at (by rfl) _ _ 22 (by rfl) WB.heap.size 24 i1 (.agg #[.int .i64 0, .int .i64 0]) 2 16 Try.underlying22 hj hj0 hj1 hj2 rfl (by decide) (.slice p3 (S.length) c3) (S.length) (valsC (S.take (S.length))) (by rfl) RA.out ⟨gb1, 0, none⟩ (1) (1) ([.int .i64 x1, .int .i64 x2]) (by rfl) (rfl) (fun q u hq => by rw [Addr.add_lit, Nat.zero_add, RX.out.cellAt q (by have := (List.getElem?_eq_some_iff.1 hq).1; simpa using this)]; exact hq) (ones_two _ _) (by unfold maxLen; omega) (by omega) hA3.size ?_
        intro v4 wa4 hown4 hg4 hat4
        obtain ⟨p4, c4, rfl⟩ := owns_form hown4
        have hA4 : Below WB.heap.size WB wa4 := hA3.grown hg4 hA3.size (fun k hk => (RA.out.lt k hk).1)
        clear D RX
        replace RA := Lib.hid hown4
        clear hown4 hg4 hat4
        refine hK.out _ _ (fun _ _ => HS.out _ hA4) ?_
        clear hK K
        try simp only [Act.put, sq]
        refine won 14 rfl fun K hK => ?_
        refine step_append_own_at (by rfl) _ _ 22 (by rfl) WB.heap.size 24 i1 (.agg #[.int .i64 0, .int .i64 0]) 2 16 Try.underlying22 hj hj0 hj1 hj2 rfl (by decide) (.slice p4 (S.length + 1) c4) (S.length + 1) (valsC (S.take (S.length)) ++ [.int .i64 x1, .int .i64 x2]) (by rfl) RA.out ⟨go, S.length * 2, none⟩ (0) (co - S.length) ([]) (by rfl) (rfl) (fun q u hq => by simp at hq) (fun u hu => by simp at hu) (by unfold maxLen; omega) (by omega) hA4.size ?_
        intro v5 wa5 hown5 hg5 hat5
        obtain ⟨p5, c5, rfl⟩ := owns_form hown5
        have hA5 : Below WB.heap.size WB wa5 := hA4.grown hg5 hA4.size (fun k hk => (RA.out.lt k hk).1)
        replace RA := Lib.hid hown5
        clear hown5 hg5 hat5
        refine hK.out _ _ (fun _ _ => HS.out _ hA5) ?_
        clear hK K
        try simp only [Act.put, sq]
        refine won 15 rfl fun K hK => ?_
        go_simp
        refine hK.out _ _ (fun _ h => h) ?_
        clear hK K
        try simp only [Act.put, sq]
        refine wpAnyM_done (by kernel_rfl) ?_ _
        try simp only [Act.put, sq]
        have HO : RowKit.Hid (ValsO wa5 (.slice p5 (S.length + 1 + (0)) c5) (S.take (S.length) ++ (x1, x2) :: S.drop (S.length))) := Lib.hid (own_valsO RA.out (by rw [List.drop_length, List.take_length]; simp [valsC, valCells]) (by rw [List.length_append, List.length_cons, List.length_take, List.length_drop]; omega) (by omega))
        have hbf : Below w.heap.size w wa5 := below_next HB0.out hA5
        clear RA
        go_wp2_with fail
        go_roundw
        case rel => exact ⟨k + 1, by omega, by go_num, by rw [HN2.out]; exact HO.out, hbf⟩
        case measure => simp [RowKit.intOf]; omega
  ·have hke : k = L.length := by omega
   subst hke
   rw [HR.out] at hout
   go_wp2_with fail
   go_ret
   exact ⟨_, rfl, hout, hbw⟩
end Go.Proofs.Ytldcbapjiflblaa
