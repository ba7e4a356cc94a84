/-
  Layer 10 (pair): the maker's begin, walked. No conditions.
-/
import Derived.Test.YtmgchjddpmmglaaGreatDoorRWh
namespace Go.Proofs.YtmgchjddpmmglaaGreatDoor
open Go.RowKit Go.Lib Go.Maps
set_option maxRecDepth 100000 in
set_option maxHeartbeats 4000000 in
theorem begin_any {w : World} {B gm N bo bz bk : Nat} {L : List DraftM} {lv : Value} {E : List EntM} (k vk n ln : Int) (s key : List UInt8) (h : MkI w B gm L N lv bo bz bk E) (hG : GoodL L) (hN : N ≤ 10000) (hm : mayE (k, s, key, vk, n, ln) = true) (hk : k = 1) (hs : s.length ≤ 1000000) (hB : B ≤ w.heap.size) :
  Calls Tryz.prog 201 #[.pointer (some ⟨gm, 0, none⟩), .agg #[.int .i64 k, .string (bs s), .string (bs key), .int .i64 vk, .int .i64 n, .int .i64 ln]] w fun e w' => ∃ lv' E', e = .returned (.int .i64 (putP L (k, s, key, vk, n, ln)).2) ∧ MkI w' B gm (putP L (k, s, key, vk, n, ln)).1 (N + 1) lv' bo bz bk E' ∧ Below B w w' ∧ EvKeep w w' := by
 subst hk
 have hnm : nameL s = true := (mayE_nm _ hm).1
 have hP : putP L (1, s, key, vk, n, ln) = (if atD L s < L.length then (L, 9) else if 20 < (sortedN (namesD L ++ [s])).length ∨ L.length = 40 then (L, 7) else (L ++ [⟨s, [], ln, 0, [], true⟩], 0)) := by
  unfold putP
  rw [if_neg (by rw [hm]; decide), if_pos rfl]
 have HP := Lib.hid hP
 have HM0 := Lib.hid (show StB w (w.alloc (.cells #[.int .i64 1, .string (bs s), .string (bs key), .int .i64 vk, .int .i64 n, .int .i64 ln] 123)) B gm N bo bz bk w.heap.size L lv E (1, s, key, vk, n, ln) from
  ⟨h.below ((Below.refl _ _).alloc (Nat.le_refl _) _), Blk.new w _ [.int .i64 1, .string (bs s), .string (bs key), .int .i64 vk, .int .i64 n, .int .i64 ln], (Below.refl _ _).alloc (Nat.le_refl _) _⟩)
 obtain ⟨gx, hgx⟩ : ∃ g, w.heap.size = g := ⟨_, rfl⟩
 clear hP h hm
 go_enter Tryz.func201, Tryz.ntmps201
 go_wp2_with fail
 rw [hgx] at HM0
 obtain ⟨w1, hw1⟩ : ∃ w1, w.alloc (.cells #[.int .i64 1, .string (bs s), .string (bs key), .int .i64 vk, .int .i64 n, .int .i64 ln] 123) = w1 := ⟨_, rfl⟩
 try simp only [hgx]
 rw [hw1] at HM0
 try simp only [hw1]
 by_cases hA : atD L s < L.length
 ·have HP9 := Lib.hid (HP.out.trans (if_pos hA))
  obtain ⟨go, hgo⟩ : ∃ g, (E.getD (atD L s) noEn).1 = g := ⟨_, rfl⟩
  have hF : openF L E s = some go := by unfold openF; rw [if_pos hA, hgo]
  have HS : RowKit.Hid (∀ w', Below w1.heap.size w1 w' → (w'.cell? ⟨gm, 1, none⟩ = some (.map (some bo)) ∧ w'.cell? ⟨gx, 1, none⟩ = some (.string (bs s)) ∧ (Instr.lookup 131 (.map (some bo)) (.string (bs s)) false).run Tryz.prog w' = .ok (.pointer (some ⟨go, 0, none⟩)) w' ∧ Below w1.heap.size w1 w')) := Lib.hid (fun w' hb => ⟨cell_later hb (HM0.out.mi.bx.cell 1 rfl), cell_later hb (HM0.out.box.cell 1 rfl), by have := opn_look (HM0.out.mi.below hb).opn s (by omega); rw [hF] at this; exact this, hb⟩)
  clear hw1 HP hA hF
  refine wp_region_keep (fun w' => w'.cell? ⟨gm, 1, none⟩ = some (.map (some bo)) ∧ w'.cell? ⟨gx, 1, none⟩ = some (.string (bs s)) ∧ (Instr.lookup 131 (.map (some bo)) (.string (bs s)) false).run Tryz.prog w' = .ok (.pointer (some ⟨go, 0, none⟩)) w' ∧ Below w1.heap.size w1 w') [] (by kernel_rfl) ?_
  have hB0 : Below (w1).heap.size (w1) (w1).drew := Below.drew (Below.refl _ _)
  have hS0 := HS.out _ hB0
  refine wfr 0 (v := ?_) rfl ?_ ?_
  rotate_left
  ·intro w' hw';go_simp;try with_reducible rfl
  try simp only [Act.put, sq]
  refine wfr 1 (v := ?_) rfl ?_ ?_
  rotate_left
  ·intro w' hw';go_simp;try with_reducible rfl
  try simp only [Act.put, sq]
  refine wfr 2 (v := ?_) rfl ?_ ?_
  rotate_left
  ·intro w' hw';go_simp;try with_reducible rfl
  try simp only [Act.put, sq]
  refine wtk 3 9 (v := ?_) rfl ?_ hS0 ?_
  rotate_left
  ·intro w' hw';(try dsimp only at hw');go_simp;try with_reducible rfl
  try simp only [Act.put, sq]
  refine won 4 rfl fun K hK => ?_
  go_simp
  refine hK.out _ _ (fun _ h => h) ?_
  clear hK K
  try simp only [Act.put, sq]
  refine won 5 rfl fun K hK => ?_
  go_simp
  refine hK.out _ _ (fun _ h => h) ?_
  clear hK K
  try simp only [Act.put, sq]
  refine won 6 rfl fun K hK => ?_
  go_simp
  refine hK.out _ _ (fun _ h => h) ?_
  clear hK K
  try simp only [Act.put, sq]
  refine won 7 rfl fun K hK => ?_
  go_simp
  refine hK.out _ _ (fun _ h => h) ?_
  clear hK K
  try simp only [Act.put, sq]
  refine won 8 rfl fun K hK => ?_
  go_simp
  refine hK.out _ _ (fun _ _ => hS0) ?_
  clear hK K
  try simp only [Act.put, sq]
  refine wpAnyM_done (by kernel_rfl) ?_ _
  try simp only [Act.put, sq]
  go_wp2_with fail
  go_ret
  have h9 := HM0.out.below hB0
  rw [HP9.out]
  first | exact ⟨_, _, rfl, h9.mi.mono (Nat.le_succ _), h9.bel.mono hB, EvKeep.below h9.bel⟩ | exact ⟨rfl, ⟨_, _, h9.mi.mono (Nat.le_succ _)⟩, h9.bel.mono hB, EvKeep.below h9.bel⟩
 ·have hF : openF L E s = none := by unfold openF; rw [if_neg hA]
  have HS : RowKit.Hid (∀ w', Below w1.heap.size w1 w' → (w'.cell? ⟨gm, 1, none⟩ = some (.map (some bo)) ∧ w'.cell? ⟨gx, 1, none⟩ = some (.string (bs s)) ∧ (Instr.lookup 131 (.map (some bo)) (.string (bs s)) false).run Tryz.prog w' = .ok (.pointer none) w' ∧ Below w1.heap.size w1 w')) := Lib.hid (fun w' hb => ⟨cell_later hb (HM0.out.mi.bx.cell 1 rfl), cell_later hb (HM0.out.box.cell 1 rfl), by have := opn_look (HM0.out.mi.below hb).opn s (by omega); rw [hF] at this; exact this, hb⟩)
  have HPn := Lib.hid (HP.out.trans (if_neg hA))
  clear hw1 HP hF
  refine wp_region_keep (fun w' => w'.cell? ⟨gm, 1, none⟩ = some (.map (some bo)) ∧ w'.cell? ⟨gx, 1, none⟩ = some (.string (bs s)) ∧ (Instr.lookup 131 (.map (some bo)) (.string (bs s)) false).run Tryz.prog w' = .ok (.pointer none) w' ∧ Below w1.heap.size w1 w') [] (by kernel_rfl) ?_
  have hB0 : Below (w1).heap.size (w1) (w1).drew := Below.drew (Below.refl _ _)
  have hS0 := HS.out _ hB0
  refine wfr 0 (v := ?_) rfl ?_ ?_
  rotate_left
  ·intro w' hw';go_simp;try with_reducible rfl
  try simp only [Act.put, sq]
  refine wfr 1 (v := ?_) rfl ?_ ?_
  rotate_left
  ·intro w' hw';go_simp;try with_reducible rfl
  try simp only [Act.put, sq]
  refine wfr 2 (v := ?_) rfl ?_ ?_
  rotate_left
  ·intro w' hw';go_simp;try with_reducible rfl
  try simp only [Act.put, sq]
  refine wtk 3 9 (v := ?_) rfl ?_ hS0 ?_
  rotate_left
  ·intro w' hw';(try dsimp only at hw');go_simp;try with_reducible rfl
  try simp only [Act.put, sq]
  refine won 4 rfl fun K hK => ?_
  go_simp
  refine hK.out _ _ (fun _ h => h) ?_
  clear hK K
  try simp only [Act.put, sq]
  refine won 5 rfl fun K hK => ?_
  go_simp
  refine hK.out _ _ (fun _ h => h) ?_
  clear hK K
  try simp only [Act.put, sq]
  refine won 6 rfl fun K hK => ?_
  go_simp
  refine hK.out _ _ (fun _ h => h) ?_
  clear hK K
  try simp only [Act.put, sq]
  refine won 7 rfl fun K hK => ?_
  go_simp
  refine hK.out _ _ (fun _ h => h) ?_
  clear hK K
  try simp only [Act.put, sq]
  refine won 8 rfl fun K hK => ?_
  go_simp
  refine hK.out _ _ (fun _ _ => hS0) ?_
  clear hK K
  try simp only [Act.put, sq]
  refine wpAnyM_done (by kernel_rfl) ?_ _
  try simp only [Act.put, sq]
  have HM1 := Lib.hid (HM0.out.below hB0)
  clear HM0 hS0 hB0 HS
  generalize w1.drew = w2 at *
  go_wp2_with fail
  obtain ⟨ks, c1, n1, m1⟩ := HM1.out.mi.ses
  have hcm := count_more ks (namesD L) s 20 n1 m1 (names_good hG) hnm hG.names
  obtain ⟨c, k2', k3, k4, k1⟩ := cnt_look c1 ⟨by omega, by omega⟩ s (by omega)
  have K2 := Lib.hid k2'
  have HCM := Lib.hid hcm
  have HKM := Lib.hid m1
  have HKN := Lib.hid n1
  clear k2' hcm
  obtain ⟨p, cp, hlv⟩ := owns_form HM1.out.mi.row
  have HEl := Lib.hid HM1.out.mi.len
  have hE40 : E.length ≤ 40 := by rw [HEl.out]; exact hG.few
  have hLf := hG.few
  have HS : RowKit.Hid (∀ w', Below w2.heap.size w2 w' → (w'.cell? ⟨gm, 2, none⟩ = some (.map (some bz)) ∧ w'.cell? ⟨gm, 0, none⟩ = some (.slice p E.length cp) ∧ w'.cell? ⟨gx, 1, none⟩ = some (.string (bs s)) ∧ (Instr.lookup 132 (.map (some bz)) (.string (bs s)) false).run Tryz.prog w' = .ok (.int .i64 c) w' ∧ (∀ ty, (Builtin.len_ #[132] ty #[.map (some bz)]).run Tryz.prog w' = .ok (.int .i64 ks.length) w') ∧ Below w2.heap.size w2 w')) := Lib.hid (fun w' hb => ⟨cell_later hb (HM1.out.mi.bx.cell 2 rfl), cell_later hb (by rw [← hlv]; exact HM1.out.mi.bx.cell 0 rfl), cell_later hb (HM1.out.box.cell 1 rfl), (k1 w' (hb.block _ c1.lt)).1, fun ty => cnt_len (c1.at (w' := w') (hb.block _ c1.lt)) ty, hb⟩)
  have HC1 := Lib.hid c1
  clear m1 n1 c1 hlv
  by_cases hsk : s ∈ ks
  ·have hc0 : (c == 0) = false := by simpa using (fun g => (K2.out.1 g) hsk)
   by_cases hE : L.length = 40
   ·have dE : ((E.length : Int) == 40) = true := by have := HEl.out; simp; omega
    have HP7 := Lib.hid (HPn.out.trans (if_pos (Or.inr hE)))
    clear HPn k1
    refine wp_region_keep (fun w' => w'.cell? ⟨gm, 2, none⟩ = some (.map (some bz)) ∧ w'.cell? ⟨gm, 0, none⟩ = some (.slice p E.length cp) ∧ w'.cell? ⟨gx, 1, none⟩ = some (.string (bs s)) ∧ (Instr.lookup 132 (.map (some bz)) (.string (bs s)) false).run Tryz.prog w' = .ok (.int .i64 c) w' ∧ (∀ ty, (Builtin.len_ #[132] ty #[.map (some bz)]).run Tryz.prog w' = .ok (.int .i64 ks.length) w') ∧ Below w2.heap.size w2 w') [] (by kernel_rfl) ?_
    have hB0 : Below (w2).heap.size (w2) (w2).drew := Below.drew (Below.refl _ _)
    have hS0 := HS.out _ hB0
    refine wfr 0 (v := ?_) rfl ?_ ?_
    rotate_left
    ·intro w' hw';go_simp;try with_reducible rfl
    try simp only [Act.put, sq]
    refine wfr 1 (v := ?_) rfl ?_ ?_
    rotate_left
    ·intro w' hw';go_simp;try with_reducible rfl
    try simp only [Act.put, sq]
    refine wfr 2 (v := ?_) rfl ?_ ?_
    rotate_left
    ·intro w' hw';go_simp;try with_reducible rfl
    try simp only [Act.put, sq]
    refine wtk 3 25 (v := ?_) rfl ?_ hS0 ?_
    rotate_left
    ·intro w' hw';(try dsimp only at hw');go_simp;try with_reducible rfl
    try simp only [Act.put, sq]
    refine won 4 rfl fun K hK => ?_
    go_simp
    refine hK.out _ _ (fun _ h => h) ?_
    clear hK K
    try simp only [Act.put, sq]
    refine won 5 rfl fun K hK => ?_
    go_simp
    refine hK.out _ _ (fun _ h => h) ?_
    clear hK K
    try simp only [Act.put, sq]
    refine won 6 rfl fun K hK => ?_
    go_simp
    refine hK.out _ _ (fun _ h => h) ?_
    clear hK K
    try simp only [Act.put, sq]
    refine won 7 rfl fun K hK => ?_
    go_simp
    refine hK.out _ _ (fun _ h => h) ?_
    clear hK K
    try simp only [Act.put, sq]
    refine won 8 rfl fun K hK => ?_
    go_simp
    refine hK.out _ _ (fun _ h => h) ?_
    clear hK K
    try simp only [Act.put, sq]
    refine won 9 rfl fun K hK => ?_
    go_simp
    refine hK.out _ _ (fun _ h => h) ?_
    clear hK K
    try simp only [Act.put, sq]
    refine won 10 rfl fun K hK => ?_
    go_simp
    refine hK.out _ _ (fun _ h => h) ?_
    clear hK K
    try simp only [Act.put, sq]
    refine won 11 rfl fun K hK => ?_
    go_simp
    refine hK.out _ _ (fun _ h => h) ?_
    clear hK K
    try simp only [Act.put, sq]
    refine won 12 rfl fun K hK => ?_
    go_simp
    refine hK.out _ _ (fun _ h => h) ?_
    clear hK K
    try simp only [Act.put, sq]
    refine won 13 rfl fun K hK => ?_
    go_simp
    refine hK.out _ _ (fun _ h => h) ?_
    clear hK K
    try simp only [Act.put, sq]
    refine won 14 rfl fun K hK => ?_
    go_simp
    refine hK.out _ _ (fun _ h => h) ?_
    clear hK K
    try simp only [Act.put, sq]
    refine won 15 rfl fun K hK => ?_
    go_simp
    refine hK.out _ _ (fun _ h => h) ?_
    clear hK K
    try simp only [Act.put, sq]
    refine won 16 rfl fun K hK => ?_
    go_simp
    refine hK.out _ _ (fun _ h => h) ?_
    clear hK K
    try simp only [Act.put, sq]
    refine won 17 rfl fun K hK => ?_
    go_simp
    refine hK.out _ _ (fun _ h => h) ?_
    clear hK K
    try simp only [Act.put, sq]
    refine won 18 rfl fun K hK => ?_
    go_simp
    refine hK.out _ _ (fun _ h => h) ?_
    clear hK K
    try simp only [Act.put, sq]
    refine won 19 rfl fun K hK => ?_
    go_simp
    refine hK.out _ _ (fun _ h => h) ?_
    clear hK K
    try simp only [Act.put, sq]
    refine won 20 rfl fun K hK => ?_
    go_simp
    refine hK.out _ _ (fun _ h => h) ?_
    clear hK K
    try simp only [Act.put, sq]
    refine won 21 rfl fun K hK => ?_
    go_simp
    refine hK.out _ _ (fun _ h => h) ?_
    clear hK K
    try simp only [Act.put, sq]
    refine won 22 rfl fun K hK => ?_
    go_simp
    refine hK.out _ _ (fun _ h => h) ?_
    clear hK K
    try simp only [Act.put, sq]
    refine won 23 rfl fun K hK => ?_
    go_simp
    refine hK.out _ _ (fun _ h => h) ?_
    clear hK K
    try simp only [Act.put, sq]
    refine won 24 rfl fun K hK => ?_
    go_simp
    refine hK.out _ _ (fun _ _ => hS0) ?_
    clear hK K
    try simp only [Act.put, sq]
    refine wpAnyM_done (by kernel_rfl) ?_ _
    try simp only [Act.put, sq]
    go_wp2_with fail
    go_ret
    have h9 := HM1.out.below hB0
    rw [HP7.out]
    first | exact ⟨_, _, rfl, h9.mi.mono (Nat.le_succ _), h9.bel.mono hB, EvKeep.below h9.bel⟩ | exact ⟨rfl, ⟨_, _, h9.mi.mono (Nat.le_succ _)⟩, h9.bel.mono hB, EvKeep.below h9.bel⟩
   ·have dE : ((E.length : Int) == 40) = false := by have := HEl.out; simp; omega
    have HP0 := Lib.hid (HPn.out.trans (if_neg (fun g => g.elim (fun g => (HCM.out.1.1 g).1 hsk) (fun g => by omega))))
    clear HPn
    refine wp_region_keep (fun w' => w'.cell? ⟨gm, 2, none⟩ = some (.map (some bz)) ∧ w'.cell? ⟨gm, 0, none⟩ = some (.slice p E.length cp) ∧ w'.cell? ⟨gx, 1, none⟩ = some (.string (bs s)) ∧ (Instr.lookup 132 (.map (some bz)) (.string (bs s)) false).run Tryz.prog w' = .ok (.int .i64 c) w' ∧ (∀ ty, (Builtin.len_ #[132] ty #[.map (some bz)]).run Tryz.prog w' = .ok (.int .i64 ks.length) w') ∧ Below w2.heap.size w2 w') [] (by kernel_rfl) ?_
    have hB0 : Below (w2).heap.size (w2) (w2).drew := Below.drew (Below.refl _ _)
    have hS0 := HS.out _ hB0
    refine wfr 0 (v := ?_) rfl ?_ ?_
    rotate_left
    ·intro w' hw';go_simp;try with_reducible rfl
    try simp only [Act.put, sq]
    refine wfr 1 (v := ?_) rfl ?_ ?_
    rotate_left
    ·intro w' hw';go_simp;try with_reducible rfl
    try simp only [Act.put, sq]
    refine wfr 2 (v := ?_) rfl ?_ ?_
    rotate_left
    ·intro w' hw';go_simp;try with_reducible rfl
    try simp only [Act.put, sq]
    refine wtk 3 25 (v := ?_) rfl ?_ hS0 ?_
    rotate_left
    ·intro w' hw';(try dsimp only at hw');go_simp;try with_reducible rfl
    try simp only [Act.put, sq]
    refine won 4 rfl fun K hK => ?_
    go_simp
    refine hK.out _ _ (fun _ h => h) ?_
    clear hK K
    try simp only [Act.put, sq]
    refine won 5 rfl fun K hK => ?_
    go_simp
    refine hK.out _ _ (fun _ h => h) ?_
    clear hK K
    try simp only [Act.put, sq]
    refine won 6 rfl fun K hK => ?_
    go_simp
    refine hK.out _ _ (fun _ h => h) ?_
    clear hK K
    try simp only [Act.put, sq]
    refine won 7 rfl fun K hK => ?_
    go_simp
    refine hK.out _ _ (fun _ h => h) ?_
    clear hK K
    try simp only [Act.put, sq]
    refine won 8 rfl fun K hK => ?_
    go_simp
    refine hK.out _ _ (fun _ h => h) ?_
    clear hK K
    try simp only [Act.put, sq]
    refine won 9 rfl fun K hK => ?_
    go_simp
    refine hK.out _ _ (fun _ h => h) ?_
    clear hK K
    try simp only [Act.put, sq]
    refine won 10 rfl fun K hK => ?_
    go_simp
    refine hK.out _ _ (fun _ h => h) ?_
    clear hK K
    try simp only [Act.put, sq]
    refine won 11 rfl fun K hK => ?_
    go_simp
    refine hK.out _ _ (fun _ h => h) ?_
    clear hK K
    try simp only [Act.put, sq]
    refine won 12 rfl fun K hK => ?_
    go_simp
    refine hK.out _ _ (fun _ h => h) ?_
    clear hK K
    try simp only [Act.put, sq]
    refine won 13 rfl fun K hK => ?_
    go_simp
    refine hK.out _ _ (fun _ h => h) ?_
    clear hK K
    try simp only [Act.put, sq]
    refine won 14 rfl fun K hK => ?_
    go_simp
    refine hK.out _ _ (fun _ h => h) ?_
    clear hK K
    try simp only [Act.put, sq]
    refine won 15 rfl fun K hK => ?_
    go_simp
    refine hK.out _ _ (fun _ h => h) ?_
    clear hK K
    try simp only [Act.put, sq]
    refine won 16 rfl fun K hK => ?_
    go_simp
    refine hK.out _ _ (fun _ h => h) ?_
    clear hK K
    try simp only [Act.put, sq]
    refine won 17 rfl fun K hK => ?_
    go_simp
    refine hK.out _ _ (fun _ h => h) ?_
    clear hK K
    try simp only [Act.put, sq]
    refine won 18 rfl fun K hK => ?_
    go_simp
    refine hK.out _ _ (fun _ h => h) ?_
    clear hK K
    try simp only [Act.put, sq]
    refine won 19 rfl fun K hK => ?_
    go_simp
    refine hK.out _ _ (fun _ h => h) ?_
    clear hK K
    try simp only [Act.put, sq]
    refine won 20 rfl fun K hK => ?_
    go_simp
    refine hK.out _ _ (fun _ h => h) ?_
    clear hK K
    try simp only [Act.put, sq]
    refine won 21 rfl fun K hK => ?_
    go_simp
    refine hK.out _ _ (fun _ h => h) ?_
    clear hK K
    try simp only [Act.put, sq]
    refine won 22 rfl fun K hK => ?_
    go_simp
    refine hK.out _ _ (fun _ h => h) ?_
    clear hK K
    try simp only [Act.put, sq]
    refine won 23 rfl fun K hK => ?_
    go_simp
    refine hK.out _ _ (fun _ h => h) ?_
    clear hK K
    try simp only [Act.put, sq]
    refine won 24 rfl fun K hK => ?_
    go_simp
    refine hK.out _ _ (fun _ _ => hS0) ?_
    clear hK K
    try simp only [Act.put, sq]
    refine wpAnyM_done (by kernel_rfl) ?_ _
    try simp only [Act.put, sq]
    have HM2 := Lib.hid (HM1.out.below hB0)
    have K1 := Lib.hid (fun w' (e : w'.heap[bz]? = w2.drew.heap[bz]?) => k1 w' e)
    clear k1 hS0 HM1 HS hB0
    generalize w2.drew = w3 at *
    obtain ⟨i0, hi, hz0, hz1, hz2⟩ := info_parts info_pdr
    have hx1 : w3.cell? ⟨gx, 1, none⟩ = some (.string (bs s)) := HM2.out.box.cell 1 rfl
    have hx5 : w3.cell? ⟨gx, 5, none⟩ = some (.int .i64 ln) := HM2.out.box.cell 5 rfl
    have hgx3 : gx < w3.heap.size := HM2.out.box.lt
    have hgm3 : gm < w3.heap.size := HM2.out.mi.bx.lt
    have hm0 : w3.cell? ⟨gm, 0, none⟩ = some lv := HM2.out.mi.bx.cell 0 rfl
    have hBg := HM2.out.mi.base
    have hmp := HM2.out.mi.maps
    go_wp2_with (at_builtin; go_loud (refine wpList_append_own_at _ rfl _ _ 130 rfl B 135 i0 (.pointer none) 1 8 Tryz.underlying130 hi hz0 hz1 hz2 rfl (by decide) lv E.length (E.flatMap ptc) (by rfl) ((HM2.out.mi.row.alloc _).alloc _) _ 1 1 [.pointer (some ⟨w3.heap.size, 0, none⟩)] rfl rfl (news_lit _ _ _ _ (by simp)) (ones_ptr _) (by unfold maxLen; omega) (by omega) (by simp; omega) ?_))
    intro v4 w4 hown4 hgrow4 hnil4 hat4
    obtain ⟨p4, c4, rfl⟩ := owns_form hown4
    obtain ⟨hm4, hm5, ho5, hz5⟩ := begin_mid HM2.out hB hown4 hgrow4
    have HM5 := Lib.hid hm5
    have h40 := hm4.cell 0 rfl
    have h4f := hm4.frozen 0
    obtain ⟨w6, e6, o6, t6⟩ := opn_put (w := (w4.setCell ⟨gm, 0, none⟩ (.slice p4 (E.length + 1) c4)).drew) ho5 (by omega) s (by omega) w3.heap.size
    have E6 := Lib.hid e6
    clear hown4 hgrow4 hnil4 hat4 hm5 e6
    go_wp2_with fail
    have HM6 := Lib.hid (HM5.out.drew.turn t6 (.inl rfl) hB hBg.2.1)
    have hz6 := (turn_block t6 bz (lt_of_eq hz5 HM2.out.mi.zlt) (Ne.symm hmp.1)).trans hz5
    generalize w4.setCell ⟨gm, 0, none⟩ (.slice p4 (E.length + 1) c4) = w5 at *
    generalize Value.slice p4 (E.length + 1) c4 = v4 at *
    have HS : RowKit.Hid (∀ w', Below w5.heap.size w5 w' → (w'.cell? ⟨gm, 1, none⟩ = some (.map (some bo)) ∧ w'.cell? ⟨gx, 1, none⟩ = some (.string (bs s)) ∧ Below w5.heap.size w5 w')) := Lib.hid (fun w' hb => ⟨cell_later hb (HM5.out.mb.cell 1 rfl), cell_later hb (HM5.out.box.cell 1 rfl), hb⟩)
    clear h40 h4f hm4 hx1 hx5 hm0
    refine wp_region_keep (fun w' => w'.cell? ⟨gm, 1, none⟩ = some (.map (some bo)) ∧ w'.cell? ⟨gx, 1, none⟩ = some (.string (bs s)) ∧ Below w5.heap.size w5 w') [7] (by kernel_rfl) ?_
    have hB0 : Below (w5).heap.size (w5) (w5).drew := Below.drew (Below.refl _ _)
    have hS0 := HS.out _ hB0
    refine wfr 0 (v := ?_) rfl ?_ ?_
    rotate_left
    ·intro w' hw';go_simp;try with_reducible rfl
    try simp only [Act.put, sq]
    refine wfr 1 (v := ?_) rfl ?_ ?_
    rotate_left
    ·intro w' hw';go_simp;try with_reducible rfl
    try simp only [Act.put, sq]
    refine wfr 2 (v := ?_) rfl ?_ ?_
    rotate_left
    ·intro w' hw';go_simp;try with_reducible rfl
    try simp only [Act.put, sq]
    refine wtk 3 8 (v := ?_) rfl ?_ hS0 ?_
    rotate_left
    ·intro w' hw';(try dsimp only at hw');go_simp;try with_reducible rfl
    try simp only [Act.put, sq]
    refine wfr 4 (v := ?_) rfl ?_ ?_
    rotate_left
    ·intro w' hw';go_simp;try with_reducible rfl
    try simp only [Act.put, sq]
    refine wtk 5 8 (v := ?_) rfl ?_ hS0 ?_
    rotate_left
    ·intro w' hw';(try dsimp only at hw');go_simp;try with_reducible rfl
    try simp only [Act.put, sq]
    refine won 6 rfl fun K hK => ?_
    go_simp
    refine hK.out _ _ (fun _ h => h) ?_
    clear hK K
    try simp only [Act.put, sq]
    have e6 := E6.out
    refine won 7 rfl fun K hK => ?_
    go_simp
    refine hK.out _ _ (fun h => absurd h (by decide)) ?_
    clear hK K
    try simp only [Act.put, sq]
    refine wpAnyM_done (by kernel_rfl) ?_ _
    try simp only [Act.put, sq]
    clear HS hS0 hB0 e6 E6 HM5 ho5 hz5
    go_wp2_with fail
    obtain ⟨-, w7, e7, c7, t7⟩ := K1.out w6.drew hz6
    have HM7 := Lib.hid (HM6.out.drew.turn t7 (.inr rfl) hB hBg.2.2.1)
    have ho7 := o6.at (turn_block t7 bo o6.lt hmp.1)
    have E7 := Lib.hid e7
    have hwrap : IntKind.i64.wrap (c + 1) = c + 1 := by rw [IntKind.wrap_i64]; omega
    try simp only [Int.zero_add] at hwrap
    have hzl := lt_of_eq hz6 HM2.out.mi.zlt
    have HS : RowKit.Hid (∀ w', Below w6.heap.size w6 w' → (w'.cell? ⟨gm, 2, none⟩ = some (.map (some bz)) ∧ w'.cell? ⟨gx, 1, none⟩ = some (.string (bs s)) ∧ (Instr.lookup 132 (.map (some bz)) (.string (bs s)) false).run Tryz.prog w' = .ok (.int .i64 c) w' ∧ Below w6.heap.size w6 w')) := Lib.hid (fun w' hb => ⟨cell_later hb (HM6.out.mb.cell 2 rfl), cell_later hb (HM6.out.box.cell 1 rfl), (K1.out w' ((hb.block _ hzl).trans hz6)).1, hb⟩)
    clear e7 t7 t6
    refine wp_region_keep (fun w' => w'.cell? ⟨gm, 2, none⟩ = some (.map (some bz)) ∧ w'.cell? ⟨gx, 1, none⟩ = some (.string (bs s)) ∧ (Instr.lookup 132 (.map (some bz)) (.string (bs s)) false).run Tryz.prog w' = .ok (.int .i64 c) w' ∧ Below w6.heap.size w6 w') [8] (by kernel_rfl) ?_
    have hB0 : Below (w6).heap.size (w6) (w6).drew := Below.drew (Below.refl _ _)
    have hS0 := HS.out _ hB0
    refine wfr 0 (v := ?_) rfl ?_ ?_
    rotate_left
    ·intro w' hw';go_simp;try with_reducible rfl
    try simp only [Act.put, sq]
    refine wfr 1 (v := ?_) rfl ?_ ?_
    rotate_left
    ·intro w' hw';go_simp;try with_reducible rfl
    try simp only [Act.put, sq]
    refine wfr 2 (v := ?_) rfl ?_ ?_
    rotate_left
    ·intro w' hw';go_simp;try with_reducible rfl
    try simp only [Act.put, sq]
    refine wtk 3 9 (v := ?_) rfl ?_ hS0 ?_
    rotate_left
    ·intro w' hw';(try dsimp only at hw');go_simp;try with_reducible rfl
    try simp only [Act.put, sq]
    refine won 4 rfl fun K hK => ?_
    go_simp
    refine hK.out _ _ (fun _ h => h) ?_
    clear hK K
    try simp only [Act.put, sq]
    refine won 5 rfl fun K hK => ?_
    go_simp
    refine hK.out _ _ (fun _ h => h) ?_
    clear hK K
    try simp only [Act.put, sq]
    refine won 6 rfl fun K hK => ?_
    go_simp
    refine hK.out _ _ (fun _ h => h) ?_
    clear hK K
    try simp only [Act.put, sq]
    refine won 7 rfl fun K hK => ?_
    go_simp
    refine hK.out _ _ (fun _ h => h) ?_
    clear hK K
    try simp only [Act.put, sq]
    have e7 := E7.out
    try simp only [Int.zero_add] at e7
    refine won 8 rfl fun K hK => ?_
    go_simp
    refine hK.out _ _ (fun h => absurd h (by decide)) ?_
    clear hK K
    try simp only [Act.put, sq]
    refine wpAnyM_done (by kernel_rfl) ?_ _
    try simp only [Act.put, sq]
    clear HS hS0 hB0 e7 E7 HM6
    have hB3 := Nat.le_trans hB HM2.out.bel.size
    go_wp2_with fail
    go_ret
    rw [HP0.out]
    have hfin := MkI.begin s ln HM2.out.mi hA (Nat.le_refl _) hB3 HM7.out.far HM7.out.mb HM7.out.row HM7.out.dr ho7 ⟨_, c7, names_add HKN.out HKM.out⟩ (Nat.le_succ N)
    first | exact ⟨_, _, rfl, hfin, HM7.out.bel, HM7.out.ev HM2.out⟩ | exact ⟨rfl, ⟨_, _, hfin⟩, HM7.out.bel, HM7.out.ev HM2.out⟩
  ·obtain rfl : c = 0 := K2.out.2 hsk
   by_cases hl : ks.length = 20
   ·have dl : ((ks.length : Int) == 20) = true := by simp; omega
    have HP7 := Lib.hid (HPn.out.trans (if_pos (Or.inl (HCM.out.1.2 ⟨hsk, hl⟩))))
    clear HPn k1
    refine wp_region_keep (fun w' => w'.cell? ⟨gm, 2, none⟩ = some (.map (some bz)) ∧ w'.cell? ⟨gm, 0, none⟩ = some (.slice p E.length cp) ∧ w'.cell? ⟨gx, 1, none⟩ = some (.string (bs s)) ∧ (Instr.lookup 132 (.map (some bz)) (.string (bs s)) false).run Tryz.prog w' = .ok (.int .i64 0) w' ∧ (∀ ty, (Builtin.len_ #[132] ty #[.map (some bz)]).run Tryz.prog w' = .ok (.int .i64 ks.length) w') ∧ Below w2.heap.size w2 w') [] (by kernel_rfl) ?_
    have hB0 : Below (w2).heap.size (w2) (w2).drew := Below.drew (Below.refl _ _)
    have hS0 := HS.out _ hB0
    refine wfr 0 (v := ?_) rfl ?_ ?_
    rotate_left
    ·intro w' hw';go_simp;try with_reducible rfl
    try simp only [Act.put, sq]
    refine wfr 1 (v := ?_) rfl ?_ ?_
    rotate_left
    ·intro w' hw';go_simp;try with_reducible rfl
    try simp only [Act.put, sq]
    refine wfr 2 (v := ?_) rfl ?_ ?_
    rotate_left
    ·intro w' hw';go_simp;try with_reducible rfl
    try simp only [Act.put, sq]
    refine wtk 3 25 (v := ?_) rfl ?_ hS0 ?_
    rotate_left
    ·intro w' hw';(try dsimp only at hw');go_simp;try with_reducible rfl
    try simp only [Act.put, sq]
    refine won 4 rfl fun K hK => ?_
    go_simp
    refine hK.out _ _ (fun _ h => h) ?_
    clear hK K
    try simp only [Act.put, sq]
    refine won 5 rfl fun K hK => ?_
    go_simp
    refine hK.out _ _ (fun _ h => h) ?_
    clear hK K
    try simp only [Act.put, sq]
    refine won 6 rfl fun K hK => ?_
    go_simp
    refine hK.out _ _ (fun _ h => h) ?_
    clear hK K
    try simp only [Act.put, sq]
    refine won 7 rfl fun K hK => ?_
    go_simp
    refine hK.out _ _ (fun _ h => h) ?_
    clear hK K
    try simp only [Act.put, sq]
    refine won 8 rfl fun K hK => ?_
    go_simp
    refine hK.out _ _ (fun _ h => h) ?_
    clear hK K
    try simp only [Act.put, sq]
    refine won 9 rfl fun K hK => ?_
    go_simp
    refine hK.out _ _ (fun _ h => h) ?_
    clear hK K
    try simp only [Act.put, sq]
    refine won 10 rfl fun K hK => ?_
    go_simp
    refine hK.out _ _ (fun _ h => h) ?_
    clear hK K
    try simp only [Act.put, sq]
    refine won 11 rfl fun K hK => ?_
    go_simp
    refine hK.out _ _ (fun _ h => h) ?_
    clear hK K
    try simp only [Act.put, sq]
    refine won 12 rfl fun K hK => ?_
    go_simp
    refine hK.out _ _ (fun _ h => h) ?_
    clear hK K
    try simp only [Act.put, sq]
    refine won 13 rfl fun K hK => ?_
    go_simp
    refine hK.out _ _ (fun _ h => h) ?_
    clear hK K
    try simp only [Act.put, sq]
    refine won 14 rfl fun K hK => ?_
    go_simp
    refine hK.out _ _ (fun _ h => h) ?_
    clear hK K
    try simp only [Act.put, sq]
    refine won 15 rfl fun K hK => ?_
    go_simp
    refine hK.out _ _ (fun _ h => h) ?_
    clear hK K
    try simp only [Act.put, sq]
    refine won 16 rfl fun K hK => ?_
    go_simp
    refine hK.out _ _ (fun _ h => h) ?_
    clear hK K
    try simp only [Act.put, sq]
    refine won 17 rfl fun K hK => ?_
    go_simp
    refine hK.out _ _ (fun _ h => h) ?_
    clear hK K
    try simp only [Act.put, sq]
    refine won 18 rfl fun K hK => ?_
    go_simp
    refine hK.out _ _ (fun _ h => h) ?_
    clear hK K
    try simp only [Act.put, sq]
    refine won 19 rfl fun K hK => ?_
    go_simp
    refine hK.out _ _ (fun _ h => h) ?_
    clear hK K
    try simp only [Act.put, sq]
    refine won 20 rfl fun K hK => ?_
    go_simp
    refine hK.out _ _ (fun _ h => h) ?_
    clear hK K
    try simp only [Act.put, sq]
    refine won 21 rfl fun K hK => ?_
    go_simp
    refine hK.out _ _ (fun _ h => h) ?_
    clear hK K
    try simp only [Act.put, sq]
    refine won 22 rfl fun K hK => ?_
    go_simp
    refine hK.out _ _ (fun _ h => h) ?_
    clear hK K
    try simp only [Act.put, sq]
    refine won 23 rfl fun K hK => ?_
    go_simp
    refine hK.out _ _ (fun _ h => h) ?_
    clear hK K
    try simp only [Act.put, sq]
    refine won 24 rfl fun K hK => ?_
    go_simp
    refine hK.out _ _ (fun _ _ => hS0) ?_
    clear hK K
    try simp only [Act.put, sq]
    refine wpAnyM_done (by kernel_rfl) ?_ _
    try simp only [Act.put, sq]
    go_wp2_with fail
    go_ret
    have h9 := HM1.out.below hB0
    rw [HP7.out]
    first | exact ⟨_, _, rfl, h9.mi.mono (Nat.le_succ _), h9.bel.mono hB, EvKeep.below h9.bel⟩ | exact ⟨rfl, ⟨_, _, h9.mi.mono (Nat.le_succ _)⟩, h9.bel.mono hB, EvKeep.below h9.bel⟩
   ·have dl : ((ks.length : Int) == 20) = false := by simp; omega
    by_cases hE : L.length = 40
    ·have dE : ((E.length : Int) == 40) = true := by have := HEl.out; simp; omega
     have HP7 := Lib.hid (HPn.out.trans (if_pos (Or.inr hE)))
     clear HPn k1
     refine wp_region_keep (fun w' => w'.cell? ⟨gm, 2, none⟩ = some (.map (some bz)) ∧ w'.cell? ⟨gm, 0, none⟩ = some (.slice p E.length cp) ∧ w'.cell? ⟨gx, 1, none⟩ = some (.string (bs s)) ∧ (Instr.lookup 132 (.map (some bz)) (.string (bs s)) false).run Tryz.prog w' = .ok (.int .i64 0) w' ∧ (∀ ty, (Builtin.len_ #[132] ty #[.map (some bz)]).run Tryz.prog w' = .ok (.int .i64 ks.length) w') ∧ Below w2.heap.size w2 w') [] (by kernel_rfl) ?_
     have hB0 : Below (w2).heap.size (w2) (w2).drew := Below.drew (Below.refl _ _)
     have hS0 := HS.out _ hB0
     refine wfr 0 (v := ?_) rfl ?_ ?_
     rotate_left
     ·intro w' hw';go_simp;try with_reducible rfl
     try simp only [Act.put, sq]
     refine wfr 1 (v := ?_) rfl ?_ ?_
     rotate_left
     ·intro w' hw';go_simp;try with_reducible rfl
     try simp only [Act.put, sq]
     refine wfr 2 (v := ?_) rfl ?_ ?_
     rotate_left
     ·intro w' hw';go_simp;try with_reducible rfl
     try simp only [Act.put, sq]
     refine wtk 3 25 (v := ?_) rfl ?_ hS0 ?_
     rotate_left
     ·intro w' hw';(try dsimp only at hw');go_simp;try with_reducible rfl
     try simp only [Act.put, sq]
     refine won 4 rfl fun K hK => ?_
     go_simp
     refine hK.out _ _ (fun _ h => h) ?_
     clear hK K
     try simp only [Act.put, sq]
     refine won 5 rfl fun K hK => ?_
     go_simp
     refine hK.out _ _ (fun _ h => h) ?_
     clear hK K
     try simp only [Act.put, sq]
     refine won 6 rfl fun K hK => ?_
     go_simp
     refine hK.out _ _ (fun _ h => h) ?_
     clear hK K
     try simp only [Act.put, sq]
     refine won 7 rfl fun K hK => ?_
     go_simp
     refine hK.out _ _ (fun _ h => h) ?_
     clear hK K
     try simp only [Act.put, sq]
     refine won 8 rfl fun K hK => ?_
     go_simp
     refine hK.out _ _ (fun _ h => h) ?_
     clear hK K
     try simp only [Act.put, sq]
     refine won 9 rfl fun K hK => ?_
     go_simp
     refine hK.out _ _ (fun _ h => h) ?_
     clear hK K
     try simp only [Act.put, sq]
     refine won 10 rfl fun K hK => ?_
     go_simp
     refine hK.out _ _ (fun _ h => h) ?_
     clear hK K
     try simp only [Act.put, sq]
     refine won 11 rfl fun K hK => ?_
     go_simp
     refine hK.out _ _ (fun _ h => h) ?_
     clear hK K
     try simp only [Act.put, sq]
     refine won 12 rfl fun K hK => ?_
     go_simp
     refine hK.out _ _ (fun _ h => h) ?_
     clear hK K
     try simp only [Act.put, sq]
     refine won 13 rfl fun K hK => ?_
     go_simp
     refine hK.out _ _ (fun _ h => h) ?_
     clear hK K
     try simp only [Act.put, sq]
     refine won 14 rfl fun K hK => ?_
     go_simp
     refine hK.out _ _ (fun _ h => h) ?_
     clear hK K
     try simp only [Act.put, sq]
     refine won 15 rfl fun K hK => ?_
     go_simp
     refine hK.out _ _ (fun _ h => h) ?_
     clear hK K
     try simp only [Act.put, sq]
     refine won 16 rfl fun K hK => ?_
     go_simp
     refine hK.out _ _ (fun _ h => h) ?_
     clear hK K
     try simp only [Act.put, sq]
     refine won 17 rfl fun K hK => ?_
     go_simp
     refine hK.out _ _ (fun _ h => h) ?_
     clear hK K
     try simp only [Act.put, sq]
     refine won 18 rfl fun K hK => ?_
     go_simp
     refine hK.out _ _ (fun _ h => h) ?_
     clear hK K
     try simp only [Act.put, sq]
     refine won 19 rfl fun K hK => ?_
     go_simp
     refine hK.out _ _ (fun _ h => h) ?_
     clear hK K
     try simp only [Act.put, sq]
     refine won 20 rfl fun K hK => ?_
     go_simp
     refine hK.out _ _ (fun _ h => h) ?_
     clear hK K
     try simp only [Act.put, sq]
     refine won 21 rfl fun K hK => ?_
     go_simp
     refine hK.out _ _ (fun _ h => h) ?_
     clear hK K
     try simp only [Act.put, sq]
     refine won 22 rfl fun K hK => ?_
     go_simp
     refine hK.out _ _ (fun _ h => h) ?_
     clear hK K
     try simp only [Act.put, sq]
     refine won 23 rfl fun K hK => ?_
     go_simp
     refine hK.out _ _ (fun _ h => h) ?_
     clear hK K
     try simp only [Act.put, sq]
     refine won 24 rfl fun K hK => ?_
     go_simp
     refine hK.out _ _ (fun _ _ => hS0) ?_
     clear hK K
     try simp only [Act.put, sq]
     refine wpAnyM_done (by kernel_rfl) ?_ _
     try simp only [Act.put, sq]
     go_wp2_with fail
     go_ret
     have h9 := HM1.out.below hB0
     rw [HP7.out]
     first | exact ⟨_, _, rfl, h9.mi.mono (Nat.le_succ _), h9.bel.mono hB, EvKeep.below h9.bel⟩ | exact ⟨rfl, ⟨_, _, h9.mi.mono (Nat.le_succ _)⟩, h9.bel.mono hB, EvKeep.below h9.bel⟩
    ·have dE : ((E.length : Int) == 40) = false := by have := HEl.out; simp; omega
     have HP0 := Lib.hid (HPn.out.trans (if_neg (fun g => g.elim (fun g => hl (HCM.out.1.1 g).2) (fun g => by omega))))
     clear HPn
     refine wp_region_keep (fun w' => w'.cell? ⟨gm, 2, none⟩ = some (.map (some bz)) ∧ w'.cell? ⟨gm, 0, none⟩ = some (.slice p E.length cp) ∧ w'.cell? ⟨gx, 1, none⟩ = some (.string (bs s)) ∧ (Instr.lookup 132 (.map (some bz)) (.string (bs s)) false).run Tryz.prog w' = .ok (.int .i64 0) w' ∧ (∀ ty, (Builtin.len_ #[132] ty #[.map (some bz)]).run Tryz.prog w' = .ok (.int .i64 ks.length) w') ∧ Below w2.heap.size w2 w') [] (by kernel_rfl) ?_
     have hB0 : Below (w2).heap.size (w2) (w2).drew := Below.drew (Below.refl _ _)
     have hS0 := HS.out _ hB0
     refine wfr 0 (v := ?_) rfl ?_ ?_
     rotate_left
     ·intro w' hw';go_simp;try with_reducible rfl
     try simp only [Act.put, sq]
     refine wfr 1 (v := ?_) rfl ?_ ?_
     rotate_left
     ·intro w' hw';go_simp;try with_reducible rfl
     try simp only [Act.put, sq]
     refine wfr 2 (v := ?_) rfl ?_ ?_
     rotate_left
     ·intro w' hw';go_simp;try with_reducible rfl
     try simp only [Act.put, sq]
     refine wtk 3 25 (v := ?_) rfl ?_ hS0 ?_
     rotate_left
     ·intro w' hw';(try dsimp only at hw');go_simp;try with_reducible rfl
     try simp only [Act.put, sq]
     refine won 4 rfl fun K hK => ?_
     go_simp
     refine hK.out _ _ (fun _ h => h) ?_
     clear hK K
     try simp only [Act.put, sq]
     refine won 5 rfl fun K hK => ?_
     go_simp
     refine hK.out _ _ (fun _ h => h) ?_
     clear hK K
     try simp only [Act.put, sq]
     refine won 6 rfl fun K hK => ?_
     go_simp
     refine hK.out _ _ (fun _ h => h) ?_
     clear hK K
     try simp only [Act.put, sq]
     refine won 7 rfl fun K hK => ?_
     go_simp
     refine hK.out _ _ (fun _ h => h) ?_
     clear hK K
     try simp only [Act.put, sq]
     refine won 8 rfl fun K hK => ?_
     go_simp
     refine hK.out _ _ (fun _ h => h) ?_
     clear hK K
     try simp only [Act.put, sq]
     refine won 9 rfl fun K hK => ?_
     go_simp
     refine hK.out _ _ (fun _ h => h) ?_
     clear hK K
     try simp only [Act.put, sq]
     refine won 10 rfl fun K hK => ?_
     go_simp
     refine hK.out _ _ (fun _ h => h) ?_
     clear hK K
     try simp only [Act.put, sq]
     refine won 11 rfl fun K hK => ?_
     go_simp
     refine hK.out _ _ (fun _ h => h) ?_
     clear hK K
     try simp only [Act.put, sq]
     refine won 12 rfl fun K hK => ?_
     go_simp
     refine hK.out _ _ (fun _ h => h) ?_
     clear hK K
     try simp only [Act.put, sq]
     refine won 13 rfl fun K hK => ?_
     go_simp
     refine hK.out _ _ (fun _ h => h) ?_
     clear hK K
     try simp only [Act.put, sq]
     refine won 14 rfl fun K hK => ?_
     go_simp
     refine hK.out _ _ (fun _ h => h) ?_
     clear hK K
     try simp only [Act.put, sq]
     refine won 15 rfl fun K hK => ?_
     go_simp
     refine hK.out _ _ (fun _ h => h) ?_
     clear hK K
     try simp only [Act.put, sq]
     refine won 16 rfl fun K hK => ?_
     go_simp
     refine hK.out _ _ (fun _ h => h) ?_
     clear hK K
     try simp only [Act.put, sq]
     refine won 17 rfl fun K hK => ?_
     go_simp
     refine hK.out _ _ (fun _ h => h) ?_
     clear hK K
     try simp only [Act.put, sq]
     refine won 18 rfl fun K hK => ?_
     go_simp
     refine hK.out _ _ (fun _ h => h) ?_
     clear hK K
     try simp only [Act.put, sq]
     refine won 19 rfl fun K hK => ?_
     go_simp
     refine hK.out _ _ (fun _ h => h) ?_
     clear hK K
     try simp only [Act.put, sq]
     refine won 20 rfl fun K hK => ?_
     go_simp
     refine hK.out _ _ (fun _ h => h) ?_
     clear hK K
     try simp only [Act.put, sq]
     refine won 21 rfl fun K hK => ?_
     go_simp
     refine hK.out _ _ (fun _ h => h) ?_
     clear hK K
     try simp only [Act.put, sq]
     refine won 22 rfl fun K hK => ?_
     go_simp
     refine hK.out _ _ (fun _ h => h) ?_
     clear hK K
     try simp only [Act.put, sq]
     refine won 23 rfl fun K hK => ?_
     go_simp
     refine hK.out _ _ (fun _ h => h) ?_
     clear hK K
     try simp only [Act.put, sq]
     refine won 24 rfl fun K hK => ?_
     go_simp
     refine hK.out _ _ (fun _ _ => hS0) ?_
     clear hK K
     try simp only [Act.put, sq]
     refine wpAnyM_done (by kernel_rfl) ?_ _
     try simp only [Act.put, sq]
     have HM2 := Lib.hid (HM1.out.below hB0)
     have K1 := Lib.hid (fun w' (e : w'.heap[bz]? = w2.drew.heap[bz]?) => k1 w' e)
     clear k1 hS0 HM1 HS hB0
     generalize w2.drew = w3 at *
     obtain ⟨i0, hi, hz0, hz1, hz2⟩ := info_parts info_pdr
     have hx1 : w3.cell? ⟨gx, 1, none⟩ = some (.string (bs s)) := HM2.out.box.cell 1 rfl
     have hx5 : w3.cell? ⟨gx, 5, none⟩ = some (.int .i64 ln) := HM2.out.box.cell 5 rfl
     have hgx3 : gx < w3.heap.size := HM2.out.box.lt
     have hgm3 : gm < w3.heap.size := HM2.out.mi.bx.lt
     have hm0 : w3.cell? ⟨gm, 0, none⟩ = some lv := HM2.out.mi.bx.cell 0 rfl
     have hBg := HM2.out.mi.base
     have hmp := HM2.out.mi.maps
     go_wp2_with (at_builtin; go_loud (refine wpList_append_own_at _ rfl _ _ 130 rfl B 135 i0 (.pointer none) 1 8 Tryz.underlying130 hi hz0 hz1 hz2 rfl (by decide) lv E.length (E.flatMap ptc) (by rfl) ((HM2.out.mi.row.alloc _).alloc _) _ 1 1 [.pointer (some ⟨w3.heap.size, 0, none⟩)] rfl rfl (news_lit _ _ _ _ (by simp)) (ones_ptr _) (by unfold maxLen; omega) (by omega) (by simp; omega) ?_))
     intro v4 w4 hown4 hgrow4 hnil4 hat4
     obtain ⟨p4, c4, rfl⟩ := owns_form hown4
     obtain ⟨hm4, hm5, ho5, hz5⟩ := begin_mid HM2.out hB hown4 hgrow4
     have HM5 := Lib.hid hm5
     have h40 := hm4.cell 0 rfl
     have h4f := hm4.frozen 0
     obtain ⟨w6, e6, o6, t6⟩ := opn_put (w := (w4.setCell ⟨gm, 0, none⟩ (.slice p4 (E.length + 1) c4)).drew) ho5 (by omega) s (by omega) w3.heap.size
     have E6 := Lib.hid e6
     clear hown4 hgrow4 hnil4 hat4 hm5 e6
     go_wp2_with fail
     have HM6 := Lib.hid (HM5.out.drew.turn t6 (.inl rfl) hB hBg.2.1)
     have hz6 := (turn_block t6 bz (lt_of_eq hz5 HM2.out.mi.zlt) (Ne.symm hmp.1)).trans hz5
     generalize w4.setCell ⟨gm, 0, none⟩ (.slice p4 (E.length + 1) c4) = w5 at *
     generalize Value.slice p4 (E.length + 1) c4 = v4 at *
     have HS : RowKit.Hid (∀ w', Below w5.heap.size w5 w' → (w'.cell? ⟨gm, 1, none⟩ = some (.map (some bo)) ∧ w'.cell? ⟨gx, 1, none⟩ = some (.string (bs s)) ∧ Below w5.heap.size w5 w')) := Lib.hid (fun w' hb => ⟨cell_later hb (HM5.out.mb.cell 1 rfl), cell_later hb (HM5.out.box.cell 1 rfl), hb⟩)
     clear h40 h4f hm4 hx1 hx5 hm0
     refine wp_region_keep (fun w' => w'.cell? ⟨gm, 1, none⟩ = some (.map (some bo)) ∧ w'.cell? ⟨gx, 1, none⟩ = some (.string (bs s)) ∧ Below w5.heap.size w5 w') [7] (by kernel_rfl) ?_
     have hB0 : Below (w5).heap.size (w5) (w5).drew := Below.drew (Below.refl _ _)
     have hS0 := HS.out _ hB0
     refine wfr 0 (v := ?_) rfl ?_ ?_
     rotate_left
     ·intro w' hw';go_simp;try with_reducible rfl
     try simp only [Act.put, sq]
     refine wfr 1 (v := ?_) rfl ?_ ?_
     rotate_left
     ·intro w' hw';go_simp;try with_reducible rfl
     try simp only [Act.put, sq]
     refine wfr 2 (v := ?_) rfl ?_ ?_
     rotate_left
     ·intro w' hw';go_simp;try with_reducible rfl
     try simp only [Act.put, sq]
     refine wtk 3 8 (v := ?_) rfl ?_ hS0 ?_
     rotate_left
     ·intro w' hw';(try dsimp only at hw');go_simp;try with_reducible rfl
     try simp only [Act.put, sq]
     refine wfr 4 (v := ?_) rfl ?_ ?_
     rotate_left
     ·intro w' hw';go_simp;try with_reducible rfl
     try simp only [Act.put, sq]
     refine wtk 5 8 (v := ?_) rfl ?_ hS0 ?_
     rotate_left
     ·intro w' hw';(try dsimp only at hw');go_simp;try with_reducible rfl
     try simp only [Act.put, sq]
     refine won 6 rfl fun K hK => ?_
     go_simp
     refine hK.out _ _ (fun _ h => h) ?_
     clear hK K
     try simp only [Act.put, sq]
     have e6 := E6.out
     refine won 7 rfl fun K hK => ?_
     go_simp
     refine hK.out _ _ (fun h => absurd h (by decide)) ?_
     clear hK K
     try simp only [Act.put, sq]
     refine wpAnyM_done (by kernel_rfl) ?_ _
     try simp only [Act.put, sq]
     clear HS hS0 hB0 e6 E6 HM5 ho5 hz5
     go_wp2_with fail
     obtain ⟨-, w7, e7, c7, t7⟩ := K1.out w6.drew hz6
     have HM7 := Lib.hid (HM6.out.drew.turn t7 (.inr rfl) hB hBg.2.2.1)
     have ho7 := o6.at (turn_block t7 bo o6.lt hmp.1)
     have E7 := Lib.hid e7
     have hwrap : IntKind.i64.wrap (0 + 1) = 0 + 1 := by rw [IntKind.wrap_i64]; omega
     try simp only [Int.zero_add] at hwrap
     have hzl := lt_of_eq hz6 HM2.out.mi.zlt
     have HS : RowKit.Hid (∀ w', Below w6.heap.size w6 w' → (w'.cell? ⟨gm, 2, none⟩ = some (.map (some bz)) ∧ w'.cell? ⟨gx, 1, none⟩ = some (.string (bs s)) ∧ (Instr.lookup 132 (.map (some bz)) (.string (bs s)) false).run Tryz.prog w' = .ok (.int .i64 0) w' ∧ Below w6.heap.size w6 w')) := Lib.hid (fun w' hb => ⟨cell_later hb (HM6.out.mb.cell 2 rfl), cell_later hb (HM6.out.box.cell 1 rfl), (K1.out w' ((hb.block _ hzl).trans hz6)).1, hb⟩)
     clear e7 t7 t6
     refine wp_region_keep (fun w' => w'.cell? ⟨gm, 2, none⟩ = some (.map (some bz)) ∧ w'.cell? ⟨gx, 1, none⟩ = some (.string (bs s)) ∧ (Instr.lookup 132 (.map (some bz)) (.string (bs s)) false).run Tryz.prog w' = .ok (.int .i64 0) w' ∧ Below w6.heap.size w6 w') [8] (by kernel_rfl) ?_
     have hB0 : Below (w6).heap.size (w6) (w6).drew := Below.drew (Below.refl _ _)
     have hS0 := HS.out _ hB0
     refine wfr 0 (v := ?_) rfl ?_ ?_
     rotate_left
     ·intro w' hw';go_simp;try with_reducible rfl
     try simp only [Act.put, sq]
     refine wfr 1 (v := ?_) rfl ?_ ?_
     rotate_left
     ·intro w' hw';go_simp;try with_reducible rfl
     try simp only [Act.put, sq]
     refine wfr 2 (v := ?_) rfl ?_ ?_
     rotate_left
     ·intro w' hw';go_simp;try with_reducible rfl
     try simp only [Act.put, sq]
     refine wtk 3 9 (v := ?_) rfl ?_ hS0 ?_
     rotate_left
     ·intro w' hw';(try dsimp only at hw');go_simp;try with_reducible rfl
     try simp only [Act.put, sq]
     refine won 4 rfl fun K hK => ?_
     go_simp
     refine hK.out _ _ (fun _ h => h) ?_
     clear hK K
     try simp only [Act.put, sq]
     refine won 5 rfl fun K hK => ?_
     go_simp
     refine hK.out _ _ (fun _ h => h) ?_
     clear hK K
     try simp only [Act.put, sq]
     refine won 6 rfl fun K hK => ?_
     go_simp
     refine hK.out _ _ (fun _ h => h) ?_
     clear hK K
     try simp only [Act.put, sq]
     refine won 7 rfl fun K hK => ?_
     go_simp
     refine hK.out _ _ (fun _ h => h) ?_
     clear hK K
     try simp only [Act.put, sq]
     have e7 := E7.out
     try simp only [Int.zero_add] at e7
     refine won 8 rfl fun K hK => ?_
     go_simp
     refine hK.out _ _ (fun h => absurd h (by decide)) ?_
     clear hK K
     try simp only [Act.put, sq]
     refine wpAnyM_done (by kernel_rfl) ?_ _
     try simp only [Act.put, sq]
     clear HS hS0 hB0 e7 E7 HM6
     have hB3 := Nat.le_trans hB HM2.out.bel.size
     go_wp2_with fail
     go_ret
     rw [HP0.out]
     have hfin := MkI.begin s ln HM2.out.mi hA (Nat.le_refl _) hB3 HM7.out.far HM7.out.mb HM7.out.row HM7.out.dr ho7 ⟨_, c7, names_add HKN.out HKM.out⟩ (Nat.le_succ N)
     first | exact ⟨_, _, rfl, hfin, HM7.out.bel, HM7.out.ev HM2.out⟩ | exact ⟨rfl, ⟨_, _, hfin⟩, HM7.out.bel, HM7.out.ev HM2.out⟩
end Go.Proofs.YtmgchjddpmmglaaGreatDoor
