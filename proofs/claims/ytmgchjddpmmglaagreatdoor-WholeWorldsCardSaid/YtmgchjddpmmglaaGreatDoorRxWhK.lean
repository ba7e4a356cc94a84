/-
  Layer 16's reference (world): a world is the same as itself, walked. No conditions.
-/
import Derived.Test.YtmgchjddpmmglaaGreatDoorRxWoA
import Derived.Test.YtmgchjddpmmglaaGreatDoorRxLatV
namespace Go.Proofs.YtmgchjddpmmglaaGreatDoor
open Go.RowKit Go.Lib
set_option maxRecDepth 100000 in
set_option maxHeartbeats 4000000 in
theorem rsame16_eq {w : World} {v u : Value} {m : WorldM} (hv : WorldV w v m) (hu : WorldV w u m) (hl : m.1.length ≤ 1000000 ∧ m.2.length ≤ 1000000) :
  Calls Tryz.prog 51 #[v, u] w fun e w' => e = .returned (.bool true) ∧ Below w.heap.size w w' := by
 obtain ⟨C, L⟩ := m
 obtain ⟨pa, ca, qa, da, rfl, h1, h2, -, -⟩ := worldV_form hv
 obtain ⟨pb, cb, qb, db, rfl, h3, h4, -, -⟩ := worldV_form hu
 dsimp only at h1 h2 h3 h4 hl ⊢
 obtain ⟨hl1, hl2⟩ := hl
 have HA := Lib.hid h1
 have HA2 := Lib.hid h2
 have HB := Lib.hid h3
 have HB2 := Lib.hid h4
 have HAL := Lib.hid (((Below.refl w.heap.size w).alloc (Nat.le_refl _) (.cells #[.slice pa C.length ca, .slice qa L.length da] 64)).alloc (by simp) (.cells #[.slice pb C.length cb, .slice qb L.length db] 64))
 have HBA := Lib.hid ((Blk.new w 64 [.slice pa C.length ca, .slice qa L.length da]).alloc (.cells #[.slice pb C.length cb, .slice qb L.length db] 64))
 have hbb := Blk.new (w.alloc (.cells #[.slice pa C.length ca, .slice qa L.length da] 64)) 64 [.slice pb C.length cb, .slice qb L.length db]
 simp only [World.size_alloc] at hbb
 have HBB := Lib.hid hbb
 clear h1 h2 h3 h4 hbb hv hu
 go_enter Tryz.func51, Tryz.ntmps51
 go_upto_region 1 with fail
 obtain ⟨W1, hW1⟩ : ∃ q, (w.alloc (.cells #[.slice pa C.length ca, .slice qa L.length da] 64)).alloc (.cells #[.slice pb C.length cb, .slice qb L.length db] 64) = q := ⟨_, rfl⟩
 rw [hW1] at HAL HBA HBB ⊢
 clear hW1
 have x0 := HBA.out.cell 0 rfl
 have x1 := HBA.out.cell 1 rfl
 have y0 := HBB.out.cell 0 rfl
 have y1 := HBB.out.cell 1 rfl
 go_wp2_with fail
 clear x0 x1 y0 y1
 go_loopw [5] (fun i wr => ∃ k : Nat, k ≤ C.length ∧ i = .int .i64 k ∧ Below W1.heap.size W1 wr) (fun i _ => C.length - (RowKit.intOf i).toNat)
 case atStart => exact ⟨0, Nat.zero_le _, rfl, Below.refl _ _⟩
 case round =>
  obtain ⟨k, hk, rfl, hbw⟩ := hrel
  have HBw := Lib.hid hbw
  have x0 := (HBA.out.later hbw).cell 0 rfl
  have hb0 := below_next HAL.out hbw
  by_cases hk1 : k < C.length
  ·obtain ⟨ga, rfl, a1⟩ := HA.out k hk1
   obtain ⟨gb, rfl, b1⟩ := HB.out k hk1
   have a1 := cell_later hb0 a1
   have b1 := cell_later hb0 b1
   obtain ⟨x, hx⟩ : ∃ x, C.getD k false = x := ⟨_, rfl⟩
   rw [hx] at a1 b1
   have HS : RowKit.Hid (∀ w', Below wr.heap.size wr w' → w'.cell? ⟨w.heap.size, 0, none⟩ = some (.slice (some ⟨ga, 0, none⟩) C.length ca) ∧ w'.cell? ⟨w.heap.size + 1, 0, none⟩ = some (.slice (some ⟨gb, 0, none⟩) C.length cb) ∧ w'.cell? ⟨ga, k, none⟩ = some (.bool x) ∧ w'.cell? ⟨gb, k, none⟩ = some (.bool x) ∧ Below wr.heap.size wr w') := Lib.hid (fun w' hb => ⟨(HBA.out.later (below_next HBw.out hb)).cell 0 rfl, (HBB.out.later (below_next HBw.out hb)).cell 0 rfl, cell_later hb a1, cell_later hb b1, hb⟩)
   clear hx hb0 hbw
   go_upto_region 6 with fail
   clear a1 b1 x0
   refine wpk HS [] (by kernel_rfl) fun hB0 hS0 => ?_
   refine wfr 0 (v := ?_) rfl ?_ ?_
   rotate_left
   ·intro w' hw';go_simp;try with_reducible rfl
   try simp only [Act.put, sq]
   refine wtk 1 11 (v := ?_) rfl ?_ hS0 ?_
   rotate_left
   ·intro w' hw';(try dsimp only at hw');go_simp;try with_reducible rfl
   try simp only [Act.put, sq]
   refine wfr 2 (v := ?_) rfl ?_ ?_
   rotate_left
   ·intro w' hw';go_simp;try with_reducible rfl
   try simp only [Act.put, sq]
   refine wfr 3 (v := ?_) rfl ?_ ?_
   rotate_left
   ·intro w' hw';go_simp;try with_reducible rfl
   try simp only [Act.put, sq]
   refine wtk 4 11 (v := ?_) rfl ?_ hS0 ?_
   rotate_left
   ·intro w' hw';(try dsimp only at hw');go_simp;try with_reducible rfl
   try simp only [Act.put, sq]
   refine wfr 5 (v := ?_) rfl ?_ ?_
   rotate_left
   ·intro w' hw';go_simp;try with_reducible rfl
   try simp only [Act.put, sq]
   refine wtk 6 11 (v := ?_) rfl ?_ hS0 ?_
   rotate_left
   ·intro w' hw';(try dsimp only at hw');go_simp;try with_reducible rfl
   try simp only [Act.put, sq]
   refine won 7 rfl fun K hK => ?_
   go_simp
   refine hK.out _ _ (fun _ h => h) ?_
   clear hK K
   try simp only [Act.put, sq]
   refine won 8 rfl fun K hK => ?_
   go_simp
   refine hK.out _ _ (fun _ h => h) ?_
   clear hK K
   try simp only [Act.put, sq]
   refine won 9 rfl fun K hK => ?_
   go_simp
   refine hK.out _ _ (fun _ h => h) ?_
   clear hK K
   try simp only [Act.put, sq]
   refine won 10 rfl fun K hK => ?_
   go_simp
   refine hK.out _ _ (fun _ h => h) ?_
   clear hK K
   try simp only [Act.put, sq]
   refine wpAnyM_done (by kernel_rfl) ?_ _
   try simp only [Act.put, sq]
   clear hS0
   go_wp2_with fail
   go_roundw
   case rel => exact ⟨k + 1, by omega, by go_num, below_next HBw.out hB0⟩
   case measure => simp [RowKit.intOf]; omega
  ·have hke : k = C.length := by omega
   subst hke
   obtain ⟨W2, hW2⟩ : ∃ q, wr = q := ⟨_, rfl⟩
   subst hW2
   clear hb0 hbw
   go_wp2_with fail
   go_loopw [6] (fun i wr => ∃ k : Nat, k ≤ L.length ∧ i = .int .i64 k ∧ Below W1.heap.size W1 wr) (fun i _ => L.length - (RowKit.intOf i).toNat)
   case atStart => exact ⟨0, Nat.zero_le _, rfl, HBw.out⟩
   case round =>
    obtain ⟨k, hk, rfl, hbw⟩ := hrel
    have HBw := Lib.hid hbw
    have x1 := (HBA.out.later hbw).cell 1 rfl
    have hb0 := below_next HAL.out hbw
    by_cases hk1 : k < L.length
    ·obtain ⟨ga, rfl, a1, a2⟩ := HA2.out k hk1
     obtain ⟨gb, rfl, b1, b2⟩ := HB2.out k hk1
     have a1 := cell_later hb0 a1
     have a2 := cell_later hb0 a2
     have b1 := cell_later hb0 b1
     have b2 := cell_later hb0 b2
     obtain ⟨⟨x, y⟩, hx⟩ : ∃ x, L.getD k noVal = x := ⟨_, rfl⟩
     rw [hx] at a1 a2 b1 b2
     dsimp only at a1 a2 b1 b2
     have HS : RowKit.Hid (∀ w', Below wr.heap.size wr w' → w'.cell? ⟨w.heap.size, 1, none⟩ = some (.slice (some ⟨ga, 0, none⟩) L.length da) ∧ w'.cell? ⟨w.heap.size + 1, 1, none⟩ = some (.slice (some ⟨gb, 0, none⟩) L.length db) ∧ w'.cell? ⟨ga, k * 2, none⟩ = some (.int .i64 x) ∧ w'.cell? ⟨ga, k * 2 + 1, none⟩ = some (.int .i64 y) ∧ w'.cell? ⟨gb, k * 2, none⟩ = some (.int .i64 x) ∧ w'.cell? ⟨gb, k * 2 + 1, none⟩ = some (.int .i64 y) ∧ Below wr.heap.size wr w') := Lib.hid (fun w' hb => ⟨(HBA.out.later (below_next HBw.out hb)).cell 1 rfl, (HBB.out.later (below_next HBw.out hb)).cell 1 rfl, cell_later hb a1, cell_later hb a2, cell_later hb b1, cell_later hb b2, hb⟩)
     clear hx hb0 hbw
     go_upto_region 11 with fail
     clear a1 a2 b1 b2 x1
     refine wpk HS [] (by kernel_rfl) fun hB0 hS0 => ?_
     refine wfr 0 (v := ?_) rfl ?_ ?_
     rotate_left
     ·intro w' hw';go_simp;try with_reducible rfl
     try simp only [Act.put, sq]
     refine wtk 1 11 (v := ?_) rfl ?_ hS0 ?_
     rotate_left
     ·intro w' hw';(try dsimp only at hw');go_simp;try with_reducible rfl
     try simp only [Act.put, sq]
     refine wfr 2 (v := ?_) rfl ?_ ?_
     rotate_left
     ·intro w' hw';go_simp;try with_reducible rfl
     try simp only [Act.put, sq]
     refine wfr 3 (v := ?_) rfl ?_ ?_
     rotate_left
     ·intro w' hw';go_simp;try with_reducible rfl
     try simp only [Act.put, sq]
     refine wtk 4 11 (v := ?_) rfl ?_ hS0 ?_
     rotate_left
     ·intro w' hw';(try dsimp only at hw');go_simp;try with_reducible rfl
     try simp only [Act.put, sq]
     refine wfr 5 (v := ?_) rfl ?_ ?_
     rotate_left
     ·intro w' hw';go_simp;try with_reducible rfl
     try simp only [Act.put, sq]
     refine wtk 6 11 (v := ?_) rfl ?_ hS0 ?_
     rotate_left
     ·intro w' hw';(try dsimp only at hw');go_simp;try with_reducible rfl
     try simp only [Act.put, sq]
     refine won 7 rfl fun K hK => ?_
     go_simp
     refine hK.out _ _ (fun _ h => h) ?_
     clear hK K
     try simp only [Act.put, sq]
     refine won 8 rfl fun K hK => ?_
     go_simp
     refine hK.out _ _ (fun _ h => h) ?_
     clear hK K
     try simp only [Act.put, sq]
     refine won 9 rfl fun K hK => ?_
     go_simp
     refine hK.out _ _ (fun _ h => h) ?_
     clear hK K
     try simp only [Act.put, sq]
     refine won 10 rfl fun K hK => ?_
     go_simp
     refine hK.out _ _ (fun _ h => h) ?_
     clear hK K
     try simp only [Act.put, sq]
     refine wpAnyM_done (by kernel_rfl) ?_ _
     try simp only [Act.put, sq]
     clear hS0
     go_wp2_with fail
     go_roundw
     case rel => exact ⟨k + 1, by omega, by go_num, below_next HBw.out hB0⟩
     case measure => simp [RowKit.intOf]; omega
    ·have hke : k = L.length := by omega
     subst hke
     go_wp2_with fail
     go_ret
     exact ⟨rfl, hb0⟩
end Go.Proofs.YtmgchjddpmmglaaGreatDoor
