/-
  Layer 10 (pair): the maker's put, walked. Conditions: unicode/utf8's two tables hold what their initialisers lay.
-/
import Derived.Test.YtmgchjddpmmglaaGreatDoorRxEvM
import Derived.Test.YtmgchjddpmmglaaGreatDoorRxPaW
import Derived.Test.YtmgchjddpmmglaaGreatDoorRxPaO
namespace Go.Proofs.YtmgchjddpmmglaaGreatDoor
open Go.RowKit Go.Lib Go.Maps
theorem put_form (L : List DraftM) (x : EventM) (h : mayE x = false) : putP L x = (L, 4) := by
 unfold putP
 rw [if_pos h]
theorem put_shut (L : List DraftM) (x : EventM) (h : mayE x = true) (h1 : x.1 ≠ 1) (ha : ¬ atD L x.2.1 < L.length) : putP L x = (L, 10) := by
 unfold putP
 rw [if_neg (by rw [h]; decide), if_neg h1, if_pos ha]
theorem put_end (L : List DraftM) (x : EventM) (h : mayE x = true) (h1 : 4 ≤ x.1) (ha : atD L x.2.1 < L.length) : putP L x = (L.set (atD L x.2.1) (endD (L.getD (atD L x.2.1) noD) (x.1 - 3)), 0) := by
 unfold putP
 rw [if_neg (by rw [h]; decide), if_neg (by omega), if_neg (by simpa using ha), if_pos h1]
set_option maxRecDepth 100000 in
set_option maxHeartbeats 4000000 in
theorem put10_any {w : World} {B gm N bo bz bk : Nat} {L : List DraftM} {lv : Value} {E : List EntM} (k vk n ln : Int) (s key : List UInt8) (h : MkI w B gm L N lv bo bz bk E) (hG : GoodL L) (hN : N ≤ 10000) (hs : s.length ≤ 1000000) (hkey : key.length ≤ 1000000) (hB : B ≤ w.heap.size) (hT : Lib.Utf8Tabs 1 2 w) :
  Calls Tryz.prog 159 #[.pointer (some ⟨gm, 0, none⟩), .agg #[.int .i64 k, .string (bs s), .string (bs key), .int .i64 vk, .int .i64 n, .int .i64 ln]] w fun e w' => ∃ lv' E', e = .returned (.int .i64 (putP L (k, s, key, vk, n, ln)).2) ∧ MkI w' B gm (putP L (k, s, key, vk, n, ln)).1 (N + 1) lv' bo bz bk E' ∧ Below B w w' ∧ EvKeep w w' := by
 have H1 := Lib.hid (fun w' (hb : Below w.heap.size w w') => emay_any k s key vk n ln hs hkey w' (Utf8Tabs_below hT hb))
 obtain ⟨b, hmb⟩ : ∃ b, mayE (k, s, key, vk, n, ln) = b := ⟨_, rfl⟩
 rw [hmb] at H1
 have hA1 := (Below.refl w.heap.size w).alloc (Nat.le_refl _) (.cells #[.int .i64 k, .string (bs s), .string (bs key), .int .i64 vk, .int .i64 n, .int .i64 ln] 123)
 have HA := Lib.hid hA1
 have HM1 := Lib.hid (show StB w (w.alloc (.cells #[.int .i64 k, .string (bs s), .string (bs key), .int .i64 vk, .int .i64 n, .int .i64 ln] 123)) B gm N bo bz bk w.heap.size L lv E (k, s, key, vk, n, ln) from
  ⟨h.below hA1, Blk.new w _ [.int .i64 k, .string (bs s), .string (bs key), .int .i64 vk, .int .i64 n, .int .i64 ln], hA1⟩)
 clear h hT hA1
 go_enter Tryz.func159, Tryz.ntmps159
 go_wp2_with fail
 refine (H1.out _ HA.out).mono ?_
 rintro e w2 ⟨rfl, hb2⟩
 have HM2 := Lib.hid (HM1.out.below hb2)
 clear HM1 H1 HA hb2
 obtain ⟨gx, hgx⟩ : ∃ g, w.heap.size = g := ⟨_, rfl⟩
 rw [hgx] at HM2
 try simp only [hgx]
 have hx0 := HM2.out.box.cell 0 rfl
 have hx1 := HM2.out.box.cell 1 rfl
 have hx2 := HM2.out.box.cell 2 rfl
 have hx3 := HM2.out.box.cell 3 rfl
 have hx4 := HM2.out.box.cell 4 rfl
 have hx5 := HM2.out.box.cell 5 rfl
 cases b with
 | false =>
  go_wp2_with fail
  go_ret
  try rw [put_form L _ hmb]
  first | exact ⟨lv, E, rfl, HM2.out.mi.mono (Nat.le_succ _), HM2.out.bel.mono hB, EvKeep.below HM2.out.bel⟩ | exact ⟨rfl, ⟨lv, E, HM2.out.mi.mono (Nat.le_succ _)⟩, HM2.out.bel.mono hB, EvKeep.below HM2.out.bel⟩
 | true =>
  obtain ⟨-, h1, h6, -⟩ := mayE_nm _ hmb
  have hk : k = 1 ∨ k = 2 ∨ k = 3 ∨ k = 4 ∨ k = 5 ∨ k = 6 := by dsimp only at h1 h6; omega
  clear h1 h6
  rcases hk with rfl | rfl | rfl | rfl | rfl | rfl
  ·go_wp2_with fail
   refine (begin_any 1 vk n ln s key HM2.out.mi hG hN hmb rfl hs (Nat.le_trans hB HM2.out.bel.size)).mono ?_
   rintro e w3 ⟨lv', E', rfl, hmi, hb3, hv3⟩
   go_wp2_with fail
   go_ret
   first | exact ⟨lv', E', rfl, hmi, (HM2.out.bel.mono hB).trans hb3, (EvKeep.below HM2.out.bel).trans hv3⟩ | exact ⟨rfl, ⟨lv', E', hmi⟩, (HM2.out.bel.mono hB).trans hb3, (EvKeep.below HM2.out.bel).trans hv3⟩
  ·go_wp2_with fail
   clear hx0 hx1 hx2 hx3 hx4 hx5
   by_cases hA : atD L s < L.length
   ·obtain ⟨⟨go, ek, eo⟩, hE⟩ : ∃ e0, E.getD (atD L s) noEn = e0 := ⟨_, rfl⟩
    have hF : openF L E s = some go := by unfold openF; rw [if_pos hA, hE]
    have HS : RowKit.Hid (∀ w', Below w2.heap.size w2 w' → (w'.cell? ⟨gm, 1, none⟩ = some (.map (some bo)) ∧ w'.cell? ⟨gx, 1, none⟩ = some (.string (bs s)) ∧ (Instr.lookup 131 (.map (some bo)) (.string (bs s)) false).run Tryz.prog w' = .ok (.pointer (some ⟨go, 0, none⟩)) w' ∧ Below w2.heap.size w2 w')) := Lib.hid (fun w' hb => ⟨cell_later hb (HM2.out.mi.bx.cell 1 rfl), cell_later hb (HM2.out.box.cell 1 rfl), by have := opn_look (HM2.out.mi.below hb).opn s (by omega); rw [hF] at this; exact this, hb⟩)
    refine wp_region_keep (fun w' => w'.cell? ⟨gm, 1, none⟩ = some (.map (some bo)) ∧ w'.cell? ⟨gx, 1, none⟩ = some (.string (bs s)) ∧ (Instr.lookup 131 (.map (some bo)) (.string (bs s)) false).run Tryz.prog w' = .ok (.pointer (some ⟨go, 0, none⟩)) w' ∧ Below w2.heap.size w2 w') [] (by kernel_rfl) ?_
    have hB0 : Below (w2).heap.size (w2) (w2).drew := Below.drew (Below.refl _ _)
    have hS0 := HS.out _ hB0
    refine wfr 0 (v := ?_) rfl ?_ ?_
    rotate_left
    ·intro w' hw';go_simp;try with_reducible rfl
    try simp only [Act.put, sq]
    refine wfr 1 (v := ?_) rfl ?_ ?_
    rotate_left
    ·intro w' hw';go_simp;try with_reducible rfl
    try simp only [Act.put, sq]
    refine wfr 2 (v := ?_) rfl ?_ ?_
    rotate_left
    ·intro w' hw';go_simp;try with_reducible rfl
    try simp only [Act.put, sq]
    refine wtk 3 8 (v := ?_) rfl ?_ hS0 ?_
    rotate_left
    ·intro w' hw';(try dsimp only at hw');go_simp;try with_reducible rfl
    try simp only [Act.put, sq]
    refine won 4 rfl fun K hK => ?_
    go_simp
    refine hK.out _ _ (fun _ h => h) ?_
    clear hK K
    try simp only [Act.put, sq]
    refine won 5 rfl fun K hK => ?_
    go_simp
    refine hK.out _ _ (fun _ h => h) ?_
    clear hK K
    try simp only [Act.put, sq]
    refine won 6 rfl fun K hK => ?_
    go_simp
    refine hK.out _ _ (fun _ h => h) ?_
    clear hK K
    try simp only [Act.put, sq]
    refine won 7 rfl fun K hK => ?_
    go_simp
    refine hK.out _ _ (fun _ _ => hS0) ?_
    clear hK K
    try simp only [Act.put, sq]
    refine wpAnyM_done (by kernel_rfl) ?_ _
    try simp only [Act.put, sq]
    have HM3 := Lib.hid (HM2.out.below hB0)
    clear HM2 hS0 hB0 HS
    generalize w2.drew = w3 at *
    have hx0 := HM3.out.box.cell 0 rfl
    have hx1 := HM3.out.box.cell 1 rfl
    have hx2 := HM3.out.box.cell 2 rfl
    have hx3 := HM3.out.box.cell 3 rfl
    have hx4 := HM3.out.box.cell 4 rfl
    have hx5 := HM3.out.box.cell 5 rfl
    go_wp2_with fail
    refine (mop_any 2 vk n ln s key HM3.out.mi hG hN hmb (by decide) hA rfl rfl hE hkey (Nat.le_trans hB HM3.out.bel.size)).mono ?_
    rintro e w4 ⟨E', rfl, hmi, hb4, hv4⟩
    go_wp2_with fail
    go_ret
    first | exact ⟨lv, E', rfl, hmi, (HM3.out.bel.mono hB).trans hb4, (EvKeep.below HM3.out.bel).trans hv4⟩ | exact ⟨rfl, ⟨lv, E', hmi⟩, (HM3.out.bel.mono hB).trans hb4, (EvKeep.below HM3.out.bel).trans hv4⟩
   ·have hF : openF L E s = none := by unfold openF; rw [if_neg hA]
    have HS : RowKit.Hid (∀ w', Below w2.heap.size w2 w' → (w'.cell? ⟨gm, 1, none⟩ = some (.map (some bo)) ∧ w'.cell? ⟨gx, 1, none⟩ = some (.string (bs s)) ∧ (Instr.lookup 131 (.map (some bo)) (.string (bs s)) false).run Tryz.prog w' = .ok (.pointer none) w' ∧ Below w2.heap.size w2 w')) := Lib.hid (fun w' hb => ⟨cell_later hb (HM2.out.mi.bx.cell 1 rfl), cell_later hb (HM2.out.box.cell 1 rfl), by have := opn_look (HM2.out.mi.below hb).opn s (by omega); rw [hF] at this; exact this, hb⟩)
    refine wp_region_keep (fun w' => w'.cell? ⟨gm, 1, none⟩ = some (.map (some bo)) ∧ w'.cell? ⟨gx, 1, none⟩ = some (.string (bs s)) ∧ (Instr.lookup 131 (.map (some bo)) (.string (bs s)) false).run Tryz.prog w' = .ok (.pointer none) w' ∧ Below w2.heap.size w2 w') [] (by kernel_rfl) ?_
    have hB0 : Below (w2).heap.size (w2) (w2).drew := Below.drew (Below.refl _ _)
    have hS0 := HS.out _ hB0
    refine wfr 0 (v := ?_) rfl ?_ ?_
    rotate_left
    ·intro w' hw';go_simp;try with_reducible rfl
    try simp only [Act.put, sq]
    refine wfr 1 (v := ?_) rfl ?_ ?_
    rotate_left
    ·intro w' hw';go_simp;try with_reducible rfl
    try simp only [Act.put, sq]
    refine wfr 2 (v := ?_) rfl ?_ ?_
    rotate_left
    ·intro w' hw';go_simp;try with_reducible rfl
    try simp only [Act.put, sq]
    refine wtk 3 8 (v := ?_) rfl ?_ hS0 ?_
    rotate_left
    ·intro w' hw';(try dsimp only at hw');go_simp;try with_reducible rfl
    try simp only [Act.put, sq]
    refine won 4 rfl fun K hK => ?_
    go_simp
    refine hK.out _ _ (fun _ h => h) ?_
    clear hK K
    try simp only [Act.put, sq]
    refine won 5 rfl fun K hK => ?_
    go_simp
    refine hK.out _ _ (fun _ h => h) ?_
    clear hK K
    try simp only [Act.put, sq]
    refine won 6 rfl fun K hK => ?_
    go_simp
    refine hK.out _ _ (fun _ h => h) ?_
    clear hK K
    try simp only [Act.put, sq]
    refine won 7 rfl fun K hK => ?_
    go_simp
    refine hK.out _ _ (fun _ _ => hS0) ?_
    clear hK K
    try simp only [Act.put, sq]
    refine wpAnyM_done (by kernel_rfl) ?_ _
    try simp only [Act.put, sq]
    have HM3 := Lib.hid (HM2.out.below hB0)
    clear HM2 hS0 hB0 HS
    generalize w2.drew = w3 at *
    have hx0 := HM3.out.box.cell 0 rfl
    have hx1 := HM3.out.box.cell 1 rfl
    have hx2 := HM3.out.box.cell 2 rfl
    have hx3 := HM3.out.box.cell 3 rfl
    have hx4 := HM3.out.box.cell 4 rfl
    have hx5 := HM3.out.box.cell 5 rfl
    have hP : putP L (2, s, key, vk, n, ln) = (L, 10) := put_shut L _ hmb (by dsimp only; omega) hA
    go_wp2_with fail
    go_ret
    try rw [hP]
    first | exact ⟨lv, E, rfl, HM3.out.mi.mono (Nat.le_succ _), HM3.out.bel.mono hB, EvKeep.below HM3.out.bel⟩ | exact ⟨rfl, ⟨lv, E, HM3.out.mi.mono (Nat.le_succ _)⟩, HM3.out.bel.mono hB, EvKeep.below HM3.out.bel⟩
  ·go_wp2_with fail
   clear hx0 hx1 hx2 hx3 hx4 hx5
   by_cases hA : atD L s < L.length
   ·obtain ⟨⟨go, ek, eo⟩, hE⟩ : ∃ e0, E.getD (atD L s) noEn = e0 := ⟨_, rfl⟩
    have hF : openF L E s = some go := by unfold openF; rw [if_pos hA, hE]
    have HS : RowKit.Hid (∀ w', Below w2.heap.size w2 w' → (w'.cell? ⟨gm, 1, none⟩ = some (.map (some bo)) ∧ w'.cell? ⟨gx, 1, none⟩ = some (.string (bs s)) ∧ (Instr.lookup 131 (.map (some bo)) (.string (bs s)) false).run Tryz.prog w' = .ok (.pointer (some ⟨go, 0, none⟩)) w' ∧ Below w2.heap.size w2 w')) := Lib.hid (fun w' hb => ⟨cell_later hb (HM2.out.mi.bx.cell 1 rfl), cell_later hb (HM2.out.box.cell 1 rfl), by have := opn_look (HM2.out.mi.below hb).opn s (by omega); rw [hF] at this; exact this, hb⟩)
    refine wp_region_keep (fun w' => w'.cell? ⟨gm, 1, none⟩ = some (.map (some bo)) ∧ w'.cell? ⟨gx, 1, none⟩ = some (.string (bs s)) ∧ (Instr.lookup 131 (.map (some bo)) (.string (bs s)) false).run Tryz.prog w' = .ok (.pointer (some ⟨go, 0, none⟩)) w' ∧ Below w2.heap.size w2 w') [] (by kernel_rfl) ?_
    have hB0 : Below (w2).heap.size (w2) (w2).drew := Below.drew (Below.refl _ _)
    have hS0 := HS.out _ hB0
    refine wfr 0 (v := ?_) rfl ?_ ?_
    rotate_left
    ·intro w' hw';go_simp;try with_reducible rfl
    try simp only [Act.put, sq]
    refine wfr 1 (v := ?_) rfl ?_ ?_
    rotate_left
    ·intro w' hw';go_simp;try with_reducible rfl
    try simp only [Act.put, sq]
    refine wfr 2 (v := ?_) rfl ?_ ?_
    rotate_left
    ·intro w' hw';go_simp;try with_reducible rfl
    try simp only [Act.put, sq]
    refine wtk 3 8 (v := ?_) rfl ?_ hS0 ?_
    rotate_left
    ·intro w' hw';(try dsimp only at hw');go_simp;try with_reducible rfl
    try simp only [Act.put, sq]
    refine won 4 rfl fun K hK => ?_
    go_simp
    refine hK.out _ _ (fun _ h => h) ?_
    clear hK K
    try simp only [Act.put, sq]
    refine won 5 rfl fun K hK => ?_
    go_simp
    refine hK.out _ _ (fun _ h => h) ?_
    clear hK K
    try simp only [Act.put, sq]
    refine won 6 rfl fun K hK => ?_
    go_simp
    refine hK.out _ _ (fun _ h => h) ?_
    clear hK K
    try simp only [Act.put, sq]
    refine won 7 rfl fun K hK => ?_
    go_simp
    refine hK.out _ _ (fun _ _ => hS0) ?_
    clear hK K
    try simp only [Act.put, sq]
    refine wpAnyM_done (by kernel_rfl) ?_ _
    try simp only [Act.put, sq]
    have HM3 := Lib.hid (HM2.out.below hB0)
    clear HM2 hS0 hB0 HS
    generalize w2.drew = w3 at *
    have hx0 := HM3.out.box.cell 0 rfl
    have hx1 := HM3.out.box.cell 1 rfl
    have hx2 := HM3.out.box.cell 2 rfl
    have hx3 := HM3.out.box.cell 3 rfl
    have hx4 := HM3.out.box.cell 4 rfl
    have hx5 := HM3.out.box.cell 5 rfl
    go_wp2_with fail
    refine (mop_any 3 vk n ln s key HM3.out.mi hG hN hmb (by decide) hA rfl rfl hE hkey (Nat.le_trans hB HM3.out.bel.size)).mono ?_
    rintro e w4 ⟨E', rfl, hmi, hb4, hv4⟩
    go_wp2_with fail
    go_ret
    first | exact ⟨lv, E', rfl, hmi, (HM3.out.bel.mono hB).trans hb4, (EvKeep.below HM3.out.bel).trans hv4⟩ | exact ⟨rfl, ⟨lv, E', hmi⟩, (HM3.out.bel.mono hB).trans hb4, (EvKeep.below HM3.out.bel).trans hv4⟩
   ·have hF : openF L E s = none := by unfold openF; rw [if_neg hA]
    have HS : RowKit.Hid (∀ w', Below w2.heap.size w2 w' → (w'.cell? ⟨gm, 1, none⟩ = some (.map (some bo)) ∧ w'.cell? ⟨gx, 1, none⟩ = some (.string (bs s)) ∧ (Instr.lookup 131 (.map (some bo)) (.string (bs s)) false).run Tryz.prog w' = .ok (.pointer none) w' ∧ Below w2.heap.size w2 w')) := Lib.hid (fun w' hb => ⟨cell_later hb (HM2.out.mi.bx.cell 1 rfl), cell_later hb (HM2.out.box.cell 1 rfl), by have := opn_look (HM2.out.mi.below hb).opn s (by omega); rw [hF] at this; exact this, hb⟩)
    refine wp_region_keep (fun w' => w'.cell? ⟨gm, 1, none⟩ = some (.map (some bo)) ∧ w'.cell? ⟨gx, 1, none⟩ = some (.string (bs s)) ∧ (Instr.lookup 131 (.map (some bo)) (.string (bs s)) false).run Tryz.prog w' = .ok (.pointer none) w' ∧ Below w2.heap.size w2 w') [] (by kernel_rfl) ?_
    have hB0 : Below (w2).heap.size (w2) (w2).drew := Below.drew (Below.refl _ _)
    have hS0 := HS.out _ hB0
    refine wfr 0 (v := ?_) rfl ?_ ?_
    rotate_left
    ·intro w' hw';go_simp;try with_reducible rfl
    try simp only [Act.put, sq]
    refine wfr 1 (v := ?_) rfl ?_ ?_
    rotate_left
    ·intro w' hw';go_simp;try with_reducible rfl
    try simp only [Act.put, sq]
    refine wfr 2 (v := ?_) rfl ?_ ?_
    rotate_left
    ·intro w' hw';go_simp;try with_reducible rfl
    try simp only [Act.put, sq]
    refine wtk 3 8 (v := ?_) rfl ?_ hS0 ?_
    rotate_left
    ·intro w' hw';(try dsimp only at hw');go_simp;try with_reducible rfl
    try simp only [Act.put, sq]
    refine won 4 rfl fun K hK => ?_
    go_simp
    refine hK.out _ _ (fun _ h => h) ?_
    clear hK K
    try simp only [Act.put, sq]
    refine won 5 rfl fun K hK => ?_
    go_simp
    refine hK.out _ _ (fun _ h => h) ?_
    clear hK K
    try simp only [Act.put, sq]
    refine won 6 rfl fun K hK => ?_
    go_simp
    refine hK.out _ _ (fun _ h => h) ?_
    clear hK K
    try simp only [Act.put, sq]
    refine won 7 rfl fun K hK => ?_
    go_simp
    refine hK.out _ _ (fun _ _ => hS0) ?_
    clear hK K
    try simp only [Act.put, sq]
    refine wpAnyM_done (by kernel_rfl) ?_ _
    try simp only [Act.put, sq]
    have HM3 := Lib.hid (HM2.out.below hB0)
    clear HM2 hS0 hB0 HS
    generalize w2.drew = w3 at *
    have hx0 := HM3.out.box.cell 0 rfl
    have hx1 := HM3.out.box.cell 1 rfl
    have hx2 := HM3.out.box.cell 2 rfl
    have hx3 := HM3.out.box.cell 3 rfl
    have hx4 := HM3.out.box.cell 4 rfl
    have hx5 := HM3.out.box.cell 5 rfl
    have hP : putP L (3, s, key, vk, n, ln) = (L, 10) := put_shut L _ hmb (by dsimp only; omega) hA
    go_wp2_with fail
    go_ret
    try rw [hP]
    first | exact ⟨lv, E, rfl, HM3.out.mi.mono (Nat.le_succ _), HM3.out.bel.mono hB, EvKeep.below HM3.out.bel⟩ | exact ⟨rfl, ⟨lv, E, HM3.out.mi.mono (Nat.le_succ _)⟩, HM3.out.bel.mono hB, EvKeep.below HM3.out.bel⟩
  ·go_wp2_with fail
   clear hx0 hx1 hx2 hx3 hx4 hx5
   by_cases hA : atD L s < L.length
   ·obtain ⟨⟨go, ek, eo⟩, hE⟩ : ∃ e0, E.getD (atD L s) noEn = e0 := ⟨_, rfl⟩
    have hF : openF L E s = some go := by unfold openF; rw [if_pos hA, hE]
    have HS : RowKit.Hid (∀ w', Below w2.heap.size w2 w' → (w'.cell? ⟨gm, 1, none⟩ = some (.map (some bo)) ∧ w'.cell? ⟨gx, 1, none⟩ = some (.string (bs s)) ∧ (Instr.lookup 131 (.map (some bo)) (.string (bs s)) false).run Tryz.prog w' = .ok (.pointer (some ⟨go, 0, none⟩)) w' ∧ Below w2.heap.size w2 w')) := Lib.hid (fun w' hb => ⟨cell_later hb (HM2.out.mi.bx.cell 1 rfl), cell_later hb (HM2.out.box.cell 1 rfl), by have := opn_look (HM2.out.mi.below hb).opn s (by omega); rw [hF] at this; exact this, hb⟩)
    refine wp_region_keep (fun w' => w'.cell? ⟨gm, 1, none⟩ = some (.map (some bo)) ∧ w'.cell? ⟨gx, 1, none⟩ = some (.string (bs s)) ∧ (Instr.lookup 131 (.map (some bo)) (.string (bs s)) false).run Tryz.prog w' = .ok (.pointer (some ⟨go, 0, none⟩)) w' ∧ Below w2.heap.size w2 w') [] (by kernel_rfl) ?_
    have hB0 : Below (w2).heap.size (w2) (w2).drew := Below.drew (Below.refl _ _)
    have hS0 := HS.out _ hB0
    refine wfr 0 (v := ?_) rfl ?_ ?_
    rotate_left
    ·intro w' hw';go_simp;try with_reducible rfl
    try simp only [Act.put, sq]
    refine wfr 1 (v := ?_) rfl ?_ ?_
    rotate_left
    ·intro w' hw';go_simp;try with_reducible rfl
    try simp only [Act.put, sq]
    refine wfr 2 (v := ?_) rfl ?_ ?_
    rotate_left
    ·intro w' hw';go_simp;try with_reducible rfl
    try simp only [Act.put, sq]
    refine wtk 3 8 (v := ?_) rfl ?_ hS0 ?_
    rotate_left
    ·intro w' hw';(try dsimp only at hw');go_simp;try with_reducible rfl
    try simp only [Act.put, sq]
    refine won 4 rfl fun K hK => ?_
    go_simp
    refine hK.out _ _ (fun _ h => h) ?_
    clear hK K
    try simp only [Act.put, sq]
    refine won 5 rfl fun K hK => ?_
    go_simp
    refine hK.out _ _ (fun _ h => h) ?_
    clear hK K
    try simp only [Act.put, sq]
    refine won 6 rfl fun K hK => ?_
    go_simp
    refine hK.out _ _ (fun _ h => h) ?_
    clear hK K
    try simp only [Act.put, sq]
    refine won 7 rfl fun K hK => ?_
    go_simp
    refine hK.out _ _ (fun _ _ => hS0) ?_
    clear hK K
    try simp only [Act.put, sq]
    refine wpAnyM_done (by kernel_rfl) ?_ _
    try simp only [Act.put, sq]
    have HM3 := Lib.hid (HM2.out.below hB0)
    clear HM2 hS0 hB0 HS
    generalize w2.drew = w3 at *
    have hx0 := HM3.out.box.cell 0 rfl
    have hx1 := HM3.out.box.cell 1 rfl
    have hx2 := HM3.out.box.cell 2 rfl
    have hx3 := HM3.out.box.cell 3 rfl
    have hx4 := HM3.out.box.cell 4 rfl
    have hx5 := HM3.out.box.cell 5 rfl
    have hP : putP L (4, s, key, vk, n, ln) = (L.set (atD L s) (endD (L.getD (atD L s) noD) 1), 0) := put_end L _ hmb (by dsimp only; omega) hA
    obtain ⟨ks, c1, n1, m1⟩ := HM3.out.mi.key
    have HO := MidO.start HM3.out hB (atD L s) hA c1
    have HO4 := Lib.hid (HO.fate 1 false)
    rw [hE] at HO HO4
    have h40 := HO.dv.blk.cell 4 rfl
    have h4f := HO.dv.blk.frozen 4
    have hmk4 : Blk (w3.setCell ⟨go, 4, none⟩ (.int .i64 1)) gm 134 _ := HM3.out.mi.bx.far (HM3.out.mi.bx.ty.ne HO.dv.blk.ty (by decide)) _
    clear hx2 hx3 hx4 hx5
    go_wp2_with fail
    try dsimp only at HO4 hmk4
    generalize w3.setCell ⟨go, 4, none⟩ (.int .i64 1) = w4 at *
    have HS : RowKit.Hid (∀ w', Below w4.heap.size w4 w' → (w'.cell? ⟨gm, 1, none⟩ = some (.map (some bo)) ∧ w'.cell? ⟨gx, 1, none⟩ = some (.string (bs s)) ∧ Below w4.heap.size w4 w')) := Lib.hid (fun w' hb => ⟨cell_later hb (hmk4.cell 1 rfl), cell_later hb (HO4.out.box.cell 1 rfl), hb⟩)
    clear h40 h4f hx0 hx1
    refine wp_region_keep (fun w' => w'.cell? ⟨gm, 1, none⟩ = some (.map (some bo)) ∧ w'.cell? ⟨gx, 1, none⟩ = some (.string (bs s)) ∧ Below w4.heap.size w4 w') [6] (by kernel_rfl) ?_
    have hB0 : Below (w4).heap.size (w4) (w4).drew := Below.drew (Below.refl _ _)
    have hS0 := HS.out _ hB0
    refine wfr 0 (v := ?_) rfl ?_ ?_
    rotate_left
    ·intro w' hw';go_simp;try with_reducible rfl
    try simp only [Act.put, sq]
    refine wfr 1 (v := ?_) rfl ?_ ?_
    rotate_left
    ·intro w' hw';go_simp;try with_reducible rfl
    try simp only [Act.put, sq]
    refine wfr 2 (v := ?_) rfl ?_ ?_
    rotate_left
    ·intro w' hw';go_simp;try with_reducible rfl
    try simp only [Act.put, sq]
    refine wtk 3 7 (v := ?_) rfl ?_ hS0 ?_
    rotate_left
    ·intro w' hw';(try dsimp only at hw');go_simp;try with_reducible rfl
    try simp only [Act.put, sq]
    refine won 4 rfl fun K hK => ?_
    go_simp
    refine hK.out _ _ (fun _ h => h) ?_
    clear hK K
    try simp only [Act.put, sq]
    refine won 5 rfl fun K hK => ?_
    go_simp
    refine hK.out _ _ (fun _ h => h) ?_
    clear hK K
    try simp only [Act.put, sq]
    refine won 6 rfl fun K hK => ?_
    refine step_del (by rfl) _ _ (by rfl) (by rfl) (by rfl) HO4.out.drew.opn (l := s) (by omega) (fun w5 o5 t5 => ?_)
    refine hK.out _ _ (fun h => absurd h (by decide)) ?_
    clear hK K
    try simp only [Act.put]
    refine wpAnyM_done (by kernel_rfl) ?_ _
    try simp only [Act.put, sq]
    clear HS hS0 hB0
    have HO5 := HO4.out.drew.turnO t5 o5 hB HM3.out.mi.base.2.1 HM3.out.mi.maps.2.1
    rw [← hE] at HO5
    go_wp2_with fail
    go_ret
    try rw [hP]
    have hfin := MkI.mono (MidO.done (d := endD (L.getD (atD L s) noD) 1) (atD L s) hA HM3.out HO5 rfl (openF_end L E hG s _ _ hA HM3.out.mi.len rfl) n1 (fun y => by rw [keys_set L _ (endD (L.getD (atD L s) noD) 1) hA rfl]; exact m1 y) (Nat.le_refl _)) (Nat.le_succ N)
    first | exact ⟨lv, _, rfl, hfin, HO5.bel, HO5.ev HM3.out hA⟩ | exact ⟨rfl, ⟨lv, _, hfin⟩, HO5.bel, HO5.ev HM3.out hA⟩
   ·have hF : openF L E s = none := by unfold openF; rw [if_neg hA]
    have HS : RowKit.Hid (∀ w', Below w2.heap.size w2 w' → (w'.cell? ⟨gm, 1, none⟩ = some (.map (some bo)) ∧ w'.cell? ⟨gx, 1, none⟩ = some (.string (bs s)) ∧ (Instr.lookup 131 (.map (some bo)) (.string (bs s)) false).run Tryz.prog w' = .ok (.pointer none) w' ∧ Below w2.heap.size w2 w')) := Lib.hid (fun w' hb => ⟨cell_later hb (HM2.out.mi.bx.cell 1 rfl), cell_later hb (HM2.out.box.cell 1 rfl), by have := opn_look (HM2.out.mi.below hb).opn s (by omega); rw [hF] at this; exact this, hb⟩)
    refine wp_region_keep (fun w' => w'.cell? ⟨gm, 1, none⟩ = some (.map (some bo)) ∧ w'.cell? ⟨gx, 1, none⟩ = some (.string (bs s)) ∧ (Instr.lookup 131 (.map (some bo)) (.string (bs s)) false).run Tryz.prog w' = .ok (.pointer none) w' ∧ Below w2.heap.size w2 w') [] (by kernel_rfl) ?_
    have hB0 : Below (w2).heap.size (w2) (w2).drew := Below.drew (Below.refl _ _)
    have hS0 := HS.out _ hB0
    refine wfr 0 (v := ?_) rfl ?_ ?_
    rotate_left
    ·intro w' hw';go_simp;try with_reducible rfl
    try simp only [Act.put, sq]
    refine wfr 1 (v := ?_) rfl ?_ ?_
    rotate_left
    ·intro w' hw';go_simp;try with_reducible rfl
    try simp only [Act.put, sq]
    refine wfr 2 (v := ?_) rfl ?_ ?_
    rotate_left
    ·intro w' hw';go_simp;try with_reducible rfl
    try simp only [Act.put, sq]
    refine wtk 3 8 (v := ?_) rfl ?_ hS0 ?_
    rotate_left
    ·intro w' hw';(try dsimp only at hw');go_simp;try with_reducible rfl
    try simp only [Act.put, sq]
    refine won 4 rfl fun K hK => ?_
    go_simp
    refine hK.out _ _ (fun _ h => h) ?_
    clear hK K
    try simp only [Act.put, sq]
    refine won 5 rfl fun K hK => ?_
    go_simp
    refine hK.out _ _ (fun _ h => h) ?_
    clear hK K
    try simp only [Act.put, sq]
    refine won 6 rfl fun K hK => ?_
    go_simp
    refine hK.out _ _ (fun _ h => h) ?_
    clear hK K
    try simp only [Act.put, sq]
    refine won 7 rfl fun K hK => ?_
    go_simp
    refine hK.out _ _ (fun _ _ => hS0) ?_
    clear hK K
    try simp only [Act.put, sq]
    refine wpAnyM_done (by kernel_rfl) ?_ _
    try simp only [Act.put, sq]
    have HM3 := Lib.hid (HM2.out.below hB0)
    clear HM2 hS0 hB0 HS
    generalize w2.drew = w3 at *
    have hx0 := HM3.out.box.cell 0 rfl
    have hx1 := HM3.out.box.cell 1 rfl
    have hx2 := HM3.out.box.cell 2 rfl
    have hx3 := HM3.out.box.cell 3 rfl
    have hx4 := HM3.out.box.cell 4 rfl
    have hx5 := HM3.out.box.cell 5 rfl
    have hP : putP L (4, s, key, vk, n, ln) = (L, 10) := put_shut L _ hmb (by dsimp only; omega) hA
    go_wp2_with fail
    go_ret
    try rw [hP]
    first | exact ⟨lv, E, rfl, HM3.out.mi.mono (Nat.le_succ _), HM3.out.bel.mono hB, EvKeep.below HM3.out.bel⟩ | exact ⟨rfl, ⟨lv, E, HM3.out.mi.mono (Nat.le_succ _)⟩, HM3.out.bel.mono hB, EvKeep.below HM3.out.bel⟩
  ·go_wp2_with fail
   clear hx0 hx1 hx2 hx3 hx4 hx5
   by_cases hA : atD L s < L.length
   ·obtain ⟨⟨go, ek, eo⟩, hE⟩ : ∃ e0, E.getD (atD L s) noEn = e0 := ⟨_, rfl⟩
    have hF : openF L E s = some go := by unfold openF; rw [if_pos hA, hE]
    have HS : RowKit.Hid (∀ w', Below w2.heap.size w2 w' → (w'.cell? ⟨gm, 1, none⟩ = some (.map (some bo)) ∧ w'.cell? ⟨gx, 1, none⟩ = some (.string (bs s)) ∧ (Instr.lookup 131 (.map (some bo)) (.string (bs s)) false).run Tryz.prog w' = .ok (.pointer (some ⟨go, 0, none⟩)) w' ∧ Below w2.heap.size w2 w')) := Lib.hid (fun w' hb => ⟨cell_later hb (HM2.out.mi.bx.cell 1 rfl), cell_later hb (HM2.out.box.cell 1 rfl), by have := opn_look (HM2.out.mi.below hb).opn s (by omega); rw [hF] at this; exact this, hb⟩)
    refine wp_region_keep (fun w' => w'.cell? ⟨gm, 1, none⟩ = some (.map (some bo)) ∧ w'.cell? ⟨gx, 1, none⟩ = some (.string (bs s)) ∧ (Instr.lookup 131 (.map (some bo)) (.string (bs s)) false).run Tryz.prog w' = .ok (.pointer (some ⟨go, 0, none⟩)) w' ∧ Below w2.heap.size w2 w') [] (by kernel_rfl) ?_
    have hB0 : Below (w2).heap.size (w2) (w2).drew := Below.drew (Below.refl _ _)
    have hS0 := HS.out _ hB0
    refine wfr 0 (v := ?_) rfl ?_ ?_
    rotate_left
    ·intro w' hw';go_simp;try with_reducible rfl
    try simp only [Act.put, sq]
    refine wfr 1 (v := ?_) rfl ?_ ?_
    rotate_left
    ·intro w' hw';go_simp;try with_reducible rfl
    try simp only [Act.put, sq]
    refine wfr 2 (v := ?_) rfl ?_ ?_
    rotate_left
    ·intro w' hw';go_simp;try with_reducible rfl
    try simp only [Act.put, sq]
    refine wtk 3 8 (v := ?_) rfl ?_ hS0 ?_
    rotate_left
    ·intro w' hw';(try dsimp only at hw');go_simp;try with_reducible rfl
    try simp only [Act.put, sq]
    refine won 4 rfl fun K hK => ?_
    go_simp
    refine hK.out _ _ (fun _ h => h) ?_
    clear hK K
    try simp only [Act.put, sq]
    refine won 5 rfl fun K hK => ?_
    go_simp
    refine hK.out _ _ (fun _ h => h) ?_
    clear hK K
    try simp only [Act.put, sq]
    refine won 6 rfl fun K hK => ?_
    go_simp
    refine hK.out _ _ (fun _ h => h) ?_
    clear hK K
    try simp only [Act.put, sq]
    refine won 7 rfl fun K hK => ?_
    go_simp
    refine hK.out _ _ (fun _ _ => hS0) ?_
    clear hK K
    try simp only [Act.put, sq]
    refine wpAnyM_done (by kernel_rfl) ?_ _
    try simp only [Act.put, sq]
    have HM3 := Lib.hid (HM2.out.below hB0)
    clear HM2 hS0 hB0 HS
    generalize w2.drew = w3 at *
    have hx0 := HM3.out.box.cell 0 rfl
    have hx1 := HM3.out.box.cell 1 rfl
    have hx2 := HM3.out.box.cell 2 rfl
    have hx3 := HM3.out.box.cell 3 rfl
    have hx4 := HM3.out.box.cell 4 rfl
    have hx5 := HM3.out.box.cell 5 rfl
    have hP : putP L (5, s, key, vk, n, ln) = (L.set (atD L s) (endD (L.getD (atD L s) noD) 2), 0) := put_end L _ hmb (by dsimp only; omega) hA
    obtain ⟨ks, c1, n1, m1⟩ := HM3.out.mi.key
    have HO := MidO.start HM3.out hB (atD L s) hA c1
    have HO4 := Lib.hid (HO.fate 2 false)
    rw [hE] at HO HO4
    have h40 := HO.dv.blk.cell 4 rfl
    have h4f := HO.dv.blk.frozen 4
    have hmk4 : Blk (w3.setCell ⟨go, 4, none⟩ (.int .i64 2)) gm 134 _ := HM3.out.mi.bx.far (HM3.out.mi.bx.ty.ne HO.dv.blk.ty (by decide)) _
    clear hx2 hx3 hx4 hx5
    go_wp2_with fail
    try dsimp only at HO4 hmk4
    generalize w3.setCell ⟨go, 4, none⟩ (.int .i64 2) = w4 at *
    have HS : RowKit.Hid (∀ w', Below w4.heap.size w4 w' → (w'.cell? ⟨gm, 1, none⟩ = some (.map (some bo)) ∧ w'.cell? ⟨gx, 1, none⟩ = some (.string (bs s)) ∧ Below w4.heap.size w4 w')) := Lib.hid (fun w' hb => ⟨cell_later hb (hmk4.cell 1 rfl), cell_later hb (HO4.out.box.cell 1 rfl), hb⟩)
    clear h40 h4f hx0 hx1
    refine wp_region_keep (fun w' => w'.cell? ⟨gm, 1, none⟩ = some (.map (some bo)) ∧ w'.cell? ⟨gx, 1, none⟩ = some (.string (bs s)) ∧ Below w4.heap.size w4 w') [6] (by kernel_rfl) ?_
    have hB0 : Below (w4).heap.size (w4) (w4).drew := Below.drew (Below.refl _ _)
    have hS0 := HS.out _ hB0
    refine wfr 0 (v := ?_) rfl ?_ ?_
    rotate_left
    ·intro w' hw';go_simp;try with_reducible rfl
    try simp only [Act.put, sq]
    refine wfr 1 (v := ?_) rfl ?_ ?_
    rotate_left
    ·intro w' hw';go_simp;try with_reducible rfl
    try simp only [Act.put, sq]
    refine wfr 2 (v := ?_) rfl ?_ ?_
    rotate_left
    ·intro w' hw';go_simp;try with_reducible rfl
    try simp only [Act.put, sq]
    refine wtk 3 7 (v := ?_) rfl ?_ hS0 ?_
    rotate_left
    ·intro w' hw';(try dsimp only at hw');go_simp;try with_reducible rfl
    try simp only [Act.put, sq]
    refine won 4 rfl fun K hK => ?_
    go_simp
    refine hK.out _ _ (fun _ h => h) ?_
    clear hK K
    try simp only [Act.put, sq]
    refine won 5 rfl fun K hK => ?_
    go_simp
    refine hK.out _ _ (fun _ h => h) ?_
    clear hK K
    try simp only [Act.put, sq]
    refine won 6 rfl fun K hK => ?_
    refine step_del (by rfl) _ _ (by rfl) (by rfl) (by rfl) HO4.out.drew.opn (l := s) (by omega) (fun w5 o5 t5 => ?_)
    refine hK.out _ _ (fun h => absurd h (by decide)) ?_
    clear hK K
    try simp only [Act.put]
    refine wpAnyM_done (by kernel_rfl) ?_ _
    try simp only [Act.put, sq]
    clear HS hS0 hB0
    have HO5 := HO4.out.drew.turnO t5 o5 hB HM3.out.mi.base.2.1 HM3.out.mi.maps.2.1
    rw [← hE] at HO5
    go_wp2_with fail
    go_ret
    try rw [hP]
    have hfin := MkI.mono (MidO.done (d := endD (L.getD (atD L s) noD) 2) (atD L s) hA HM3.out HO5 rfl (openF_end L E hG s _ _ hA HM3.out.mi.len rfl) n1 (fun y => by rw [keys_set L _ (endD (L.getD (atD L s) noD) 2) hA rfl]; exact m1 y) (Nat.le_refl _)) (Nat.le_succ N)
    first | exact ⟨lv, _, rfl, hfin, HO5.bel, HO5.ev HM3.out hA⟩ | exact ⟨rfl, ⟨lv, _, hfin⟩, HO5.bel, HO5.ev HM3.out hA⟩
   ·have hF : openF L E s = none := by unfold openF; rw [if_neg hA]
    have HS : RowKit.Hid (∀ w', Below w2.heap.size w2 w' → (w'.cell? ⟨gm, 1, none⟩ = some (.map (some bo)) ∧ w'.cell? ⟨gx, 1, none⟩ = some (.string (bs s)) ∧ (Instr.lookup 131 (.map (some bo)) (.string (bs s)) false).run Tryz.prog w' = .ok (.pointer none) w' ∧ Below w2.heap.size w2 w')) := Lib.hid (fun w' hb => ⟨cell_later hb (HM2.out.mi.bx.cell 1 rfl), cell_later hb (HM2.out.box.cell 1 rfl), by have := opn_look (HM2.out.mi.below hb).opn s (by omega); rw [hF] at this; exact this, hb⟩)
    refine wp_region_keep (fun w' => w'.cell? ⟨gm, 1, none⟩ = some (.map (some bo)) ∧ w'.cell? ⟨gx, 1, none⟩ = some (.string (bs s)) ∧ (Instr.lookup 131 (.map (some bo)) (.string (bs s)) false).run Tryz.prog w' = .ok (.pointer none) w' ∧ Below w2.heap.size w2 w') [] (by kernel_rfl) ?_
    have hB0 : Below (w2).heap.size (w2) (w2).drew := Below.drew (Below.refl _ _)
    have hS0 := HS.out _ hB0
    refine wfr 0 (v := ?_) rfl ?_ ?_
    rotate_left
    ·intro w' hw';go_simp;try with_reducible rfl
    try simp only [Act.put, sq]
    refine wfr 1 (v := ?_) rfl ?_ ?_
    rotate_left
    ·intro w' hw';go_simp;try with_reducible rfl
    try simp only [Act.put, sq]
    refine wfr 2 (v := ?_) rfl ?_ ?_
    rotate_left
    ·intro w' hw';go_simp;try with_reducible rfl
    try simp only [Act.put, sq]
    refine wtk 3 8 (v := ?_) rfl ?_ hS0 ?_
    rotate_left
    ·intro w' hw';(try dsimp only at hw');go_simp;try with_reducible rfl
    try simp only [Act.put, sq]
    refine won 4 rfl fun K hK => ?_
    go_simp
    refine hK.out _ _ (fun _ h => h) ?_
    clear hK K
    try simp only [Act.put, sq]
    refine won 5 rfl fun K hK => ?_
    go_simp
    refine hK.out _ _ (fun _ h => h) ?_
    clear hK K
    try simp only [Act.put, sq]
    refine won 6 rfl fun K hK => ?_
    go_simp
    refine hK.out _ _ (fun _ h => h) ?_
    clear hK K
    try simp only [Act.put, sq]
    refine won 7 rfl fun K hK => ?_
    go_simp
    refine hK.out _ _ (fun _ _ => hS0) ?_
    clear hK K
    try simp only [Act.put, sq]
    refine wpAnyM_done (by kernel_rfl) ?_ _
    try simp only [Act.put, sq]
    have HM3 := Lib.hid (HM2.out.below hB0)
    clear HM2 hS0 hB0 HS
    generalize w2.drew = w3 at *
    have hx0 := HM3.out.box.cell 0 rfl
    have hx1 := HM3.out.box.cell 1 rfl
    have hx2 := HM3.out.box.cell 2 rfl
    have hx3 := HM3.out.box.cell 3 rfl
    have hx4 := HM3.out.box.cell 4 rfl
    have hx5 := HM3.out.box.cell 5 rfl
    have hP : putP L (5, s, key, vk, n, ln) = (L, 10) := put_shut L _ hmb (by dsimp only; omega) hA
    go_wp2_with fail
    go_ret
    try rw [hP]
    first | exact ⟨lv, E, rfl, HM3.out.mi.mono (Nat.le_succ _), HM3.out.bel.mono hB, EvKeep.below HM3.out.bel⟩ | exact ⟨rfl, ⟨lv, E, HM3.out.mi.mono (Nat.le_succ _)⟩, HM3.out.bel.mono hB, EvKeep.below HM3.out.bel⟩
  ·go_wp2_with fail
   clear hx0 hx1 hx2 hx3 hx4 hx5
   by_cases hA : atD L s < L.length
   ·obtain ⟨⟨go, ek, eo⟩, hE⟩ : ∃ e0, E.getD (atD L s) noEn = e0 := ⟨_, rfl⟩
    have hF : openF L E s = some go := by unfold openF; rw [if_pos hA, hE]
    have HS : RowKit.Hid (∀ w', Below w2.heap.size w2 w' → (w'.cell? ⟨gm, 1, none⟩ = some (.map (some bo)) ∧ w'.cell? ⟨gx, 1, none⟩ = some (.string (bs s)) ∧ (Instr.lookup 131 (.map (some bo)) (.string (bs s)) false).run Tryz.prog w' = .ok (.pointer (some ⟨go, 0, none⟩)) w' ∧ Below w2.heap.size w2 w')) := Lib.hid (fun w' hb => ⟨cell_later hb (HM2.out.mi.bx.cell 1 rfl), cell_later hb (HM2.out.box.cell 1 rfl), by have := opn_look (HM2.out.mi.below hb).opn s (by omega); rw [hF] at this; exact this, hb⟩)
    refine wp_region_keep (fun w' => w'.cell? ⟨gm, 1, none⟩ = some (.map (some bo)) ∧ w'.cell? ⟨gx, 1, none⟩ = some (.string (bs s)) ∧ (Instr.lookup 131 (.map (some bo)) (.string (bs s)) false).run Tryz.prog w' = .ok (.pointer (some ⟨go, 0, none⟩)) w' ∧ Below w2.heap.size w2 w') [] (by kernel_rfl) ?_
    have hB0 : Below (w2).heap.size (w2) (w2).drew := Below.drew (Below.refl _ _)
    have hS0 := HS.out _ hB0
    refine wfr 0 (v := ?_) rfl ?_ ?_
    rotate_left
    ·intro w' hw';go_simp;try with_reducible rfl
    try simp only [Act.put, sq]
    refine wfr 1 (v := ?_) rfl ?_ ?_
    rotate_left
    ·intro w' hw';go_simp;try with_reducible rfl
    try simp only [Act.put, sq]
    refine wfr 2 (v := ?_) rfl ?_ ?_
    rotate_left
    ·intro w' hw';go_simp;try with_reducible rfl
    try simp only [Act.put, sq]
    refine wtk 3 8 (v := ?_) rfl ?_ hS0 ?_
    rotate_left
    ·intro w' hw';(try dsimp only at hw');go_simp;try with_reducible rfl
    try simp only [Act.put, sq]
    refine won 4 rfl fun K hK => ?_
    go_simp
    refine hK.out _ _ (fun _ h => h) ?_
    clear hK K
    try simp only [Act.put, sq]
    refine won 5 rfl fun K hK => ?_
    go_simp
    refine hK.out _ _ (fun _ h => h) ?_
    clear hK K
    try simp only [Act.put, sq]
    refine won 6 rfl fun K hK => ?_
    go_simp
    refine hK.out _ _ (fun _ h => h) ?_
    clear hK K
    try simp only [Act.put, sq]
    refine won 7 rfl fun K hK => ?_
    go_simp
    refine hK.out _ _ (fun _ _ => hS0) ?_
    clear hK K
    try simp only [Act.put, sq]
    refine wpAnyM_done (by kernel_rfl) ?_ _
    try simp only [Act.put, sq]
    have HM3 := Lib.hid (HM2.out.below hB0)
    clear HM2 hS0 hB0 HS
    generalize w2.drew = w3 at *
    have hx0 := HM3.out.box.cell 0 rfl
    have hx1 := HM3.out.box.cell 1 rfl
    have hx2 := HM3.out.box.cell 2 rfl
    have hx3 := HM3.out.box.cell 3 rfl
    have hx4 := HM3.out.box.cell 4 rfl
    have hx5 := HM3.out.box.cell 5 rfl
    have hP : putP L (6, s, key, vk, n, ln) = (L.set (atD L s) (endD (L.getD (atD L s) noD) 3), 0) := put_end L _ hmb (by dsimp only; omega) hA
    obtain ⟨ks, c1, n1, m1⟩ := HM3.out.mi.key
    have HO := MidO.start HM3.out hB (atD L s) hA c1
    have HO4 := Lib.hid (HO.fate 3 false)
    rw [hE] at HO HO4
    have h40 := HO.dv.blk.cell 4 rfl
    have h4f := HO.dv.blk.frozen 4
    have hmk4 : Blk (w3.setCell ⟨go, 4, none⟩ (.int .i64 3)) gm 134 _ := HM3.out.mi.bx.far (HM3.out.mi.bx.ty.ne HO.dv.blk.ty (by decide)) _
    clear hx2 hx3 hx4 hx5
    go_wp2_with fail
    try dsimp only at HO4 hmk4
    generalize w3.setCell ⟨go, 4, none⟩ (.int .i64 3) = w4 at *
    have HS : RowKit.Hid (∀ w', Below w4.heap.size w4 w' → (w'.cell? ⟨gm, 1, none⟩ = some (.map (some bo)) ∧ w'.cell? ⟨gx, 1, none⟩ = some (.string (bs s)) ∧ Below w4.heap.size w4 w')) := Lib.hid (fun w' hb => ⟨cell_later hb (hmk4.cell 1 rfl), cell_later hb (HO4.out.box.cell 1 rfl), hb⟩)
    clear h40 h4f hx0 hx1
    refine wp_region_keep (fun w' => w'.cell? ⟨gm, 1, none⟩ = some (.map (some bo)) ∧ w'.cell? ⟨gx, 1, none⟩ = some (.string (bs s)) ∧ Below w4.heap.size w4 w') [6] (by kernel_rfl) ?_
    have hB0 : Below (w4).heap.size (w4) (w4).drew := Below.drew (Below.refl _ _)
    have hS0 := HS.out _ hB0
    refine wfr 0 (v := ?_) rfl ?_ ?_
    rotate_left
    ·intro w' hw';go_simp;try with_reducible rfl
    try simp only [Act.put, sq]
    refine wfr 1 (v := ?_) rfl ?_ ?_
    rotate_left
    ·intro w' hw';go_simp;try with_reducible rfl
    try simp only [Act.put, sq]
    refine wfr 2 (v := ?_) rfl ?_ ?_
    rotate_left
    ·intro w' hw';go_simp;try with_reducible rfl
    try simp only [Act.put, sq]
    refine wtk 3 7 (v := ?_) rfl ?_ hS0 ?_
    rotate_left
    ·intro w' hw';(try dsimp only at hw');go_simp;try with_reducible rfl
    try simp only [Act.put, sq]
    refine won 4 rfl fun K hK => ?_
    go_simp
    refine hK.out _ _ (fun _ h => h) ?_
    clear hK K
    try simp only [Act.put, sq]
    refine won 5 rfl fun K hK => ?_
    go_simp
    refine hK.out _ _ (fun _ h => h) ?_
    clear hK K
    try simp only [Act.put, sq]
    refine won 6 rfl fun K hK => ?_
    refine step_del (by rfl) _ _ (by rfl) (by rfl) (by rfl) HO4.out.drew.opn (l := s) (by omega) (fun w5 o5 t5 => ?_)
    refine hK.out _ _ (fun h => absurd h (by decide)) ?_
    clear hK K
    try simp only [Act.put]
    refine wpAnyM_done (by kernel_rfl) ?_ _
    try simp only [Act.put, sq]
    clear HS hS0 hB0
    have HO5 := HO4.out.drew.turnO t5 o5 hB HM3.out.mi.base.2.1 HM3.out.mi.maps.2.1
    rw [← hE] at HO5
    go_wp2_with fail
    go_ret
    try rw [hP]
    have hfin := MkI.mono (MidO.done (d := endD (L.getD (atD L s) noD) 3) (atD L s) hA HM3.out HO5 rfl (openF_end L E hG s _ _ hA HM3.out.mi.len rfl) n1 (fun y => by rw [keys_set L _ (endD (L.getD (atD L s) noD) 3) hA rfl]; exact m1 y) (Nat.le_refl _)) (Nat.le_succ N)
    first | exact ⟨lv, _, rfl, hfin, HO5.bel, HO5.ev HM3.out hA⟩ | exact ⟨rfl, ⟨lv, _, hfin⟩, HO5.bel, HO5.ev HM3.out hA⟩
   ·have hF : openF L E s = none := by unfold openF; rw [if_neg hA]
    have HS : RowKit.Hid (∀ w', Below w2.heap.size w2 w' → (w'.cell? ⟨gm, 1, none⟩ = some (.map (some bo)) ∧ w'.cell? ⟨gx, 1, none⟩ = some (.string (bs s)) ∧ (Instr.lookup 131 (.map (some bo)) (.string (bs s)) false).run Tryz.prog w' = .ok (.pointer none) w' ∧ Below w2.heap.size w2 w')) := Lib.hid (fun w' hb => ⟨cell_later hb (HM2.out.mi.bx.cell 1 rfl), cell_later hb (HM2.out.box.cell 1 rfl), by have := opn_look (HM2.out.mi.below hb).opn s (by omega); rw [hF] at this; exact this, hb⟩)
    refine wp_region_keep (fun w' => w'.cell? ⟨gm, 1, none⟩ = some (.map (some bo)) ∧ w'.cell? ⟨gx, 1, none⟩ = some (.string (bs s)) ∧ (Instr.lookup 131 (.map (some bo)) (.string (bs s)) false).run Tryz.prog w' = .ok (.pointer none) w' ∧ Below w2.heap.size w2 w') [] (by kernel_rfl) ?_
    have hB0 : Below (w2).heap.size (w2) (w2).drew := Below.drew (Below.refl _ _)
    have hS0 := HS.out _ hB0
    refine wfr 0 (v := ?_) rfl ?_ ?_
    rotate_left
    ·intro w' hw';go_simp;try with_reducible rfl
    try simp only [Act.put, sq]
    refine wfr 1 (v := ?_) rfl ?_ ?_
    rotate_left
    ·intro w' hw';go_simp;try with_reducible rfl
    try simp only [Act.put, sq]
    refine wfr 2 (v := ?_) rfl ?_ ?_
    rotate_left
    ·intro w' hw';go_simp;try with_reducible rfl
    try simp only [Act.put, sq]
    refine wtk 3 8 (v := ?_) rfl ?_ hS0 ?_
    rotate_left
    ·intro w' hw';(try dsimp only at hw');go_simp;try with_reducible rfl
    try simp only [Act.put, sq]
    refine won 4 rfl fun K hK => ?_
    go_simp
    refine hK.out _ _ (fun _ h => h) ?_
    clear hK K
    try simp only [Act.put, sq]
    refine won 5 rfl fun K hK => ?_
    go_simp
    refine hK.out _ _ (fun _ h => h) ?_
    clear hK K
    try simp only [Act.put, sq]
    refine won 6 rfl fun K hK => ?_
    go_simp
    refine hK.out _ _ (fun _ h => h) ?_
    clear hK K
    try simp only [Act.put, sq]
    refine won 7 rfl fun K hK => ?_
    go_simp
    refine hK.out _ _ (fun _ _ => hS0) ?_
    clear hK K
    try simp only [Act.put, sq]
    refine wpAnyM_done (by kernel_rfl) ?_ _
    try simp only [Act.put, sq]
    have HM3 := Lib.hid (HM2.out.below hB0)
    clear HM2 hS0 hB0 HS
    generalize w2.drew = w3 at *
    have hx0 := HM3.out.box.cell 0 rfl
    have hx1 := HM3.out.box.cell 1 rfl
    have hx2 := HM3.out.box.cell 2 rfl
    have hx3 := HM3.out.box.cell 3 rfl
    have hx4 := HM3.out.box.cell 4 rfl
    have hx5 := HM3.out.box.cell 5 rfl
    have hP : putP L (6, s, key, vk, n, ln) = (L, 10) := put_shut L _ hmb (by dsimp only; omega) hA
    go_wp2_with fail
    go_ret
    try rw [hP]
    first | exact ⟨lv, E, rfl, HM3.out.mi.mono (Nat.le_succ _), HM3.out.bel.mono hB, EvKeep.below HM3.out.bel⟩ | exact ⟨rfl, ⟨lv, E, HM3.out.mi.mono (Nat.le_succ _)⟩, HM3.out.bel.mono hB, EvKeep.below HM3.out.bel⟩
end Go.Proofs.YtmgchjddpmmglaaGreatDoor
