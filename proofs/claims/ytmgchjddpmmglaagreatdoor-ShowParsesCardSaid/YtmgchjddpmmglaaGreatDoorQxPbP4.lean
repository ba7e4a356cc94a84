/-
  Layer 10 (pair), the document's answer: put, walked: an end; what may not be. No conditions.
-/
import Derived.Test.YtmgchjddpmmglaaGreatDoorQSc
import Derived.Test.YtmgchjddpmmglaaGreatDoorQxPaQ
namespace Go.Proofs.YtmgchjddpmmglaaGreatDoor
open Go.RowKit Go.Lib Go.Maps
set_option maxRecDepth 100000 in
set_option maxHeartbeats 8000000 in
theorem rput10_k4 {w : World} {B gm : Nat} {L : List DraftM} {vT vN vK vL vO : Value} {E : List EntR} (k vk n ln : Int) (s key : List UInt8) (h : WI w B gm L vT vN vK vL vO E) (hG : GoodL L) (hs : s.length ≤ 1000000) (hkey : key.length ≤ 1000000) (hB : B ≤ w.heap.size) (hmb : mayE (k, s, key, vk, n, ln) = true) (hk : k = 4) :
  Calls Tryz.prog 167 #[.pointer (some ⟨gm, 0, none⟩), .agg #[.int .i64 k, .string (bs s), .string (bs key), .int .i64 vk, .int .i64 n, .int .i64 ln]] w fun e w' => ∃ vT' vN' vK' vL' vO' E', e = .returned (.int .i64 (putP L (k, s, key, vk, n, ln)).2) ∧ WI w' B gm (putP L (k, s, key, vk, n, ln)).1 vT' vN' vK' vL' vO' E' ∧ Below B w w' := by
 have H1 := Lib.hid (fun w' => remay_any k s key vk n ln hs hkey w')
 rw [hmb] at H1
 have HK := Lib.hid hk
 clear hk
 have hA1 := (Below.refl w.heap.size w).alloc (Nat.le_refl _) (.cells #[.int .i64 k, .string (bs s), .string (bs key), .int .i64 vk, .int .i64 n, .int .i64 ln] 123)
 have HM1 := Lib.hid (show StR w (w.alloc (.cells #[.int .i64 k, .string (bs s), .string (bs key), .int .i64 vk, .int .i64 n, .int .i64 ln] 123)) B gm w.heap.size L vT vN vK vL vO E (k, s, key, vk, n, ln) from
  ⟨h.below hA1, Blk.new w _ [.int .i64 k, .string (bs s), .string (bs key), .int .i64 vk, .int .i64 n, .int .i64 ln], hA1⟩)
 clear h hA1
 go_enter Tryz.func167, Tryz.ntmps167
 go_wp2_with fail
 refine (H1.out _).mono ?_
 rintro e w2 ⟨rfl, hb2⟩
 have HM2 := Lib.hid (HM1.out.below hb2)
 clear HM1 H1 hb2
 obtain ⟨gx, hgx⟩ : ∃ g, w.heap.size = g := ⟨_, rfl⟩
 rw [hgx] at HM2
 try simp only [hgx]
 have hx0 := HM2.out.box.cell 0 rfl
 have hx1 := HM2.out.box.cell 1 rfl
 have hx2 := HM2.out.box.cell 2 rfl
 have hx3 := HM2.out.box.cell 3 rfl
 have hx4 := HM2.out.box.cell 4 rfl
 have hx5 := HM2.out.box.cell 5 rfl
 have hk := HK.out
 clear HK
 subst hk
 have HAt := Lib.hid (rat10_any s HM2.out.wi (by have := hG.few; omega))
 go_wp2_with fail
 refine HAt.out.mono ?_
 rintro e w9 ⟨rfl, hw9⟩
 rw [hw9]
 clear hw9
 by_cases hA : atD L s < L.length
 ·have e9 : atI L s = (atD L s : Nat) := if_pos hA
  rw [e9]
  clear e9
  obtain ⟨i, hat⟩ : ∃ i, atD L s = i := ⟨_, rfl⟩
  rw [hat] at hA
  try simp only [hat]
  have hi := hA
  clear hA
  have h0 : ¬ ((i : Nat) : Int) < 0 := by omega
  obtain ⟨gT, cT, eT, aT, fT⟩ := own_cell (f := wtc) (s := 3) noQ wtc_len HM2.out.wi.rT (by simp [HM2.out.wi.len]) i hi
  obtain ⟨gO, cO, eO, aO', fO⟩ := own_cell (f := opd) (s := 1) noD (fun _ => rfl) HM2.out.wi.rO rfl i hi
  subst eT eO
  rw [zip_atR L E HM2.out.wi.len i hi] at aT
  have aO := aO' 0 _ rfl
  simp only [Nat.mul_one, Nat.add_zero] at aO
  have hTO : gT ≠ gO := (owns_ty HM2.out.wi.rT (g := gT) rfl).ne (owns_ty HM2.out.wi.rO (g := gO) rfl) (by decide)
  obtain ⟨d, hd⟩ : ∃ d, L.getD i noD = d := ⟨_, rfl⟩
  rw [hd] at aO aT
  have HS : RowKit.Hid (∀ w', Below w2.heap.size w2 w' → (w'.cell? ⟨gm, 2, none⟩ = some (.slice (some ⟨gT, 0, none⟩) L.length cT) ∧ w'.cell? ⟨gm, 6, none⟩ = some (.slice (some ⟨gO, 0, none⟩) L.length cO) ∧ w'.cell? ⟨gx, 0, none⟩ = some (.int .i64 4) ∧ Below w2.heap.size w2 w')) := Lib.hid (fun w' hb => ⟨cell_later hb (HM2.out.wi.bx.cell 2 rfl), cell_later hb (HM2.out.wi.bx.cell 6 rfl), cell_later hb (HM2.out.box.cell 0 rfl), hb⟩)
  have HF := Lib.hid (HM2.out.wi.fin hi 1)
  have hbT := (HM2.out.wi.rT.lt gT rfl).1
  have hbO := (HM2.out.wi.rO.lt gO rfl).1
  have HB5 := Lib.hid (((HM2.out.bel.mono hB).setCell (p := ⟨gT, i * 3 + 1, none⟩) hbT (.int .i64 1)).setCell (p := ⟨gO, i, none⟩) hbO (.bool false)).drew
  clear aO'
  have hwrap : IntKind.i64.wrap 1 = 1 := by rw [IntKind.wrap_i64]; omega
  go_wp2_with fail
  clear hx0 hx1 hx2 hx3 hx4 hx5
  refine wp_region_keep (fun w' => w'.cell? ⟨gm, 2, none⟩ = some (.slice (some ⟨gT, 0, none⟩) L.length cT) ∧ w'.cell? ⟨gm, 6, none⟩ = some (.slice (some ⟨gO, 0, none⟩) L.length cO) ∧ w'.cell? ⟨gx, 0, none⟩ = some (.int .i64 4) ∧ Below w2.heap.size w2 w') [16, 18] (by kernel_rfl) ?_
  have hB0 : Below (w2).heap.size (w2) (w2).drew := Below.drew (Below.refl _ _)
  have hS0 := HS.out _ hB0
  refine wfr 0 (v := ?_) rfl ?_ ?_
  rotate_left
  ·intro w' hw';go_simp;try with_reducible rfl
  try simp only [Act.put, sq]
  refine wfr 1 (v := ?_) rfl ?_ ?_
  rotate_left
  ·intro w' hw';go_simp;try with_reducible rfl
  try simp only [Act.put, sq]
  refine wfr 2 (v := ?_) rfl ?_ ?_
  rotate_left
  ·intro w' hw';go_simp;try with_reducible rfl
  try simp only [Act.put, sq]
  refine wfr 3 (v := ?_) rfl ?_ ?_
  rotate_left
  ·intro w' hw';go_simp;try with_reducible rfl
  try simp only [Act.put, sq]
  refine wtk 4 19 (v := ?_) rfl ?_ hS0 ?_
  rotate_left
  ·intro w' hw';(try dsimp only at hw');go_simp;try with_reducible rfl
  try simp only [Act.put, sq]
  refine wfr 5 (v := ?_) rfl ?_ ?_
  rotate_left
  ·intro w' hw';go_simp;try with_reducible rfl
  try simp only [Act.put, sq]
  refine wfr 6 (v := ?_) rfl ?_ ?_
  rotate_left
  ·intro w' hw';go_simp;try with_reducible rfl
  try simp only [Act.put, sq]
  refine wfr 7 (v := ?_) rfl ?_ ?_
  rotate_left
  ·intro w' hw';go_simp;try with_reducible rfl
  try simp only [Act.put, sq]
  refine wfr 8 (v := ?_) rfl ?_ ?_
  rotate_left
  ·intro w' hw';go_simp;try with_reducible rfl
  try simp only [Act.put, sq]
  refine wtk 9 19 (v := ?_) rfl ?_ hS0 ?_
  rotate_left
  ·intro w' hw';(try dsimp only at hw');go_simp;try with_reducible rfl
  try simp only [Act.put, sq]
  refine wfr 10 (v := ?_) rfl ?_ ?_
  rotate_left
  ·intro w' hw';go_simp;try with_reducible rfl
  try simp only [Act.put, sq]
  refine won 11 rfl fun K hK => ?_
  go_simp
  refine hK.out _ _ (fun _ h => h) ?_
  clear hK K
  try simp only [Act.put, sq]
  refine won 12 rfl fun K hK => ?_
  go_simp
  refine hK.out _ _ (fun _ h => h) ?_
  clear hK K
  try simp only [Act.put, sq]
  refine won 13 rfl fun K hK => ?_
  go_simp
  refine hK.out _ _ (fun _ h => h) ?_
  clear hK K
  try simp only [Act.put, sq]
  refine won 14 rfl fun K hK => ?_
  go_simp
  refine hK.out _ _ (fun _ h => h) ?_
  clear hK K
  try simp only [Act.put, sq]
  refine won 15 rfl fun K hK => ?_
  go_simp
  refine hK.out _ _ (fun _ h => h) ?_
  clear hK K
  try simp only [Act.put, sq]
  have a16 := aT 1 _ rfl
  have f16 := fT (i * 3 + 1)
  refine won 16 rfl fun K hK => ?_
  go_simp
  refine hK.out _ _ (fun h => absurd h (by decide)) ?_
  clear hK K
  try simp only [Act.put, sq]
  refine won 17 rfl fun K hK => ?_
  go_simp
  refine hK.out _ _ (fun _ h => h) ?_
  clear hK K
  try simp only [Act.put, sq]
  have a18 : (w2.setCell ⟨gT, i * 3 + 1, none⟩ (.int .i64 1)).cell? ⟨gO, i, none⟩ = some (.bool d.op) := by
   rw [World.cell?_setCell_other _ _ _ _ (fun e => hTO (congrArg Addr.block e))]
   exact aO
  have f18 := fO i
  refine won 18 rfl fun K hK => ?_
  go_simp
  refine hK.out _ _ (fun h => absurd h (by decide)) ?_
  clear hK K
  try simp only [Act.put, sq]
  refine wpAnyM_done (by kernel_rfl) ?_ _
  try simp only [Act.put, sq]
  clear HS hS0 hB0
  go_wp2_with fail
  go_ret
  have hP : putP L (4, s, key, vk, n, ln) = (L.set i (endD (L.getD i noD) 1), 0) := by
   have := put_end L (4, s, key, vk, n, ln) hmb (by dsimp only; omega) (by dsimp only; rw [hat]; exact hi)
   dsimp only at this
   rw [hat] at this
   exact this
  try rw [hP]
  have hfin := HF.out.below (Below.drew (Below.refl _ _))
  first | exact ⟨_, _, _, _, _, _, rfl, hfin, HB5.out⟩ | exact ⟨rfl, ⟨_, _, _, _, _, _, hfin⟩, HB5.out⟩
 ·have e9 : atI L s = -1 := if_neg hA
  rw [e9]
  clear e9
  have hP : putP L (4, s, key, vk, n, ln) = (L, 10) := put_shut L _ hmb (by dsimp only; omega) hA
  go_wp2_with fail
  go_ret
  try rw [hP]
  first | exact ⟨_, _, _, _, _, _, rfl, HM2.out.wi, HM2.out.bel.mono hB⟩ | exact ⟨rfl, ⟨_, _, _, _, _, _, HM2.out.wi⟩, HM2.out.bel.mono hB⟩
set_option maxRecDepth 100000 in
set_option maxHeartbeats 8000000 in
theorem rput10_k5 {w : World} {B gm : Nat} {L : List DraftM} {vT vN vK vL vO : Value} {E : List EntR} (k vk n ln : Int) (s key : List UInt8) (h : WI w B gm L vT vN vK vL vO E) (hG : GoodL L) (hs : s.length ≤ 1000000) (hkey : key.length ≤ 1000000) (hB : B ≤ w.heap.size) (hmb : mayE (k, s, key, vk, n, ln) = true) (hk : k = 5) :
  Calls Tryz.prog 167 #[.pointer (some ⟨gm, 0, none⟩), .agg #[.int .i64 k, .string (bs s), .string (bs key), .int .i64 vk, .int .i64 n, .int .i64 ln]] w fun e w' => ∃ vT' vN' vK' vL' vO' E', e = .returned (.int .i64 (putP L (k, s, key, vk, n, ln)).2) ∧ WI w' B gm (putP L (k, s, key, vk, n, ln)).1 vT' vN' vK' vL' vO' E' ∧ Below B w w' := by
 have H1 := Lib.hid (fun w' => remay_any k s key vk n ln hs hkey w')
 rw [hmb] at H1
 have HK := Lib.hid hk
 clear hk
 have hA1 := (Below.refl w.heap.size w).alloc (Nat.le_refl _) (.cells #[.int .i64 k, .string (bs s), .string (bs key), .int .i64 vk, .int .i64 n, .int .i64 ln] 123)
 have HM1 := Lib.hid (show StR w (w.alloc (.cells #[.int .i64 k, .string (bs s), .string (bs key), .int .i64 vk, .int .i64 n, .int .i64 ln] 123)) B gm w.heap.size L vT vN vK vL vO E (k, s, key, vk, n, ln) from
  ⟨h.below hA1, Blk.new w _ [.int .i64 k, .string (bs s), .string (bs key), .int .i64 vk, .int .i64 n, .int .i64 ln], hA1⟩)
 clear h hA1
 go_enter Tryz.func167, Tryz.ntmps167
 go_wp2_with fail
 refine (H1.out _).mono ?_
 rintro e w2 ⟨rfl, hb2⟩
 have HM2 := Lib.hid (HM1.out.below hb2)
 clear HM1 H1 hb2
 obtain ⟨gx, hgx⟩ : ∃ g, w.heap.size = g := ⟨_, rfl⟩
 rw [hgx] at HM2
 try simp only [hgx]
 have hx0 := HM2.out.box.cell 0 rfl
 have hx1 := HM2.out.box.cell 1 rfl
 have hx2 := HM2.out.box.cell 2 rfl
 have hx3 := HM2.out.box.cell 3 rfl
 have hx4 := HM2.out.box.cell 4 rfl
 have hx5 := HM2.out.box.cell 5 rfl
 have hk := HK.out
 clear HK
 subst hk
 have HAt := Lib.hid (rat10_any s HM2.out.wi (by have := hG.few; omega))
 go_wp2_with fail
 refine HAt.out.mono ?_
 rintro e w9 ⟨rfl, hw9⟩
 rw [hw9]
 clear hw9
 by_cases hA : atD L s < L.length
 ·have e9 : atI L s = (atD L s : Nat) := if_pos hA
  rw [e9]
  clear e9
  obtain ⟨i, hat⟩ : ∃ i, atD L s = i := ⟨_, rfl⟩
  rw [hat] at hA
  try simp only [hat]
  have hi := hA
  clear hA
  have h0 : ¬ ((i : Nat) : Int) < 0 := by omega
  obtain ⟨gT, cT, eT, aT, fT⟩ := own_cell (f := wtc) (s := 3) noQ wtc_len HM2.out.wi.rT (by simp [HM2.out.wi.len]) i hi
  obtain ⟨gO, cO, eO, aO', fO⟩ := own_cell (f := opd) (s := 1) noD (fun _ => rfl) HM2.out.wi.rO rfl i hi
  subst eT eO
  rw [zip_atR L E HM2.out.wi.len i hi] at aT
  have aO := aO' 0 _ rfl
  simp only [Nat.mul_one, Nat.add_zero] at aO
  have hTO : gT ≠ gO := (owns_ty HM2.out.wi.rT (g := gT) rfl).ne (owns_ty HM2.out.wi.rO (g := gO) rfl) (by decide)
  obtain ⟨d, hd⟩ : ∃ d, L.getD i noD = d := ⟨_, rfl⟩
  rw [hd] at aO aT
  have HS : RowKit.Hid (∀ w', Below w2.heap.size w2 w' → (w'.cell? ⟨gm, 2, none⟩ = some (.slice (some ⟨gT, 0, none⟩) L.length cT) ∧ w'.cell? ⟨gm, 6, none⟩ = some (.slice (some ⟨gO, 0, none⟩) L.length cO) ∧ w'.cell? ⟨gx, 0, none⟩ = some (.int .i64 5) ∧ Below w2.heap.size w2 w')) := Lib.hid (fun w' hb => ⟨cell_later hb (HM2.out.wi.bx.cell 2 rfl), cell_later hb (HM2.out.wi.bx.cell 6 rfl), cell_later hb (HM2.out.box.cell 0 rfl), hb⟩)
  have HF := Lib.hid (HM2.out.wi.fin hi 2)
  have hbT := (HM2.out.wi.rT.lt gT rfl).1
  have hbO := (HM2.out.wi.rO.lt gO rfl).1
  have HB5 := Lib.hid (((HM2.out.bel.mono hB).setCell (p := ⟨gT, i * 3 + 1, none⟩) hbT (.int .i64 2)).setCell (p := ⟨gO, i, none⟩) hbO (.bool false)).drew
  clear aO'
  have hwrap : IntKind.i64.wrap 2 = 2 := by rw [IntKind.wrap_i64]; omega
  go_wp2_with fail
  clear hx0 hx1 hx2 hx3 hx4 hx5
  refine wp_region_keep (fun w' => w'.cell? ⟨gm, 2, none⟩ = some (.slice (some ⟨gT, 0, none⟩) L.length cT) ∧ w'.cell? ⟨gm, 6, none⟩ = some (.slice (some ⟨gO, 0, none⟩) L.length cO) ∧ w'.cell? ⟨gx, 0, none⟩ = some (.int .i64 5) ∧ Below w2.heap.size w2 w') [16, 18] (by kernel_rfl) ?_
  have hB0 : Below (w2).heap.size (w2) (w2).drew := Below.drew (Below.refl _ _)
  have hS0 := HS.out _ hB0
  refine wfr 0 (v := ?_) rfl ?_ ?_
  rotate_left
  ·intro w' hw';go_simp;try with_reducible rfl
  try simp only [Act.put, sq]
  refine wfr 1 (v := ?_) rfl ?_ ?_
  rotate_left
  ·intro w' hw';go_simp;try with_reducible rfl
  try simp only [Act.put, sq]
  refine wfr 2 (v := ?_) rfl ?_ ?_
  rotate_left
  ·intro w' hw';go_simp;try with_reducible rfl
  try simp only [Act.put, sq]
  refine wfr 3 (v := ?_) rfl ?_ ?_
  rotate_left
  ·intro w' hw';go_simp;try with_reducible rfl
  try simp only [Act.put, sq]
  refine wtk 4 19 (v := ?_) rfl ?_ hS0 ?_
  rotate_left
  ·intro w' hw';(try dsimp only at hw');go_simp;try with_reducible rfl
  try simp only [Act.put, sq]
  refine wfr 5 (v := ?_) rfl ?_ ?_
  rotate_left
  ·intro w' hw';go_simp;try with_reducible rfl
  try simp only [Act.put, sq]
  refine wfr 6 (v := ?_) rfl ?_ ?_
  rotate_left
  ·intro w' hw';go_simp;try with_reducible rfl
  try simp only [Act.put, sq]
  refine wfr 7 (v := ?_) rfl ?_ ?_
  rotate_left
  ·intro w' hw';go_simp;try with_reducible rfl
  try simp only [Act.put, sq]
  refine wfr 8 (v := ?_) rfl ?_ ?_
  rotate_left
  ·intro w' hw';go_simp;try with_reducible rfl
  try simp only [Act.put, sq]
  refine wtk 9 19 (v := ?_) rfl ?_ hS0 ?_
  rotate_left
  ·intro w' hw';(try dsimp only at hw');go_simp;try with_reducible rfl
  try simp only [Act.put, sq]
  refine wfr 10 (v := ?_) rfl ?_ ?_
  rotate_left
  ·intro w' hw';go_simp;try with_reducible rfl
  try simp only [Act.put, sq]
  refine won 11 rfl fun K hK => ?_
  go_simp
  refine hK.out _ _ (fun _ h => h) ?_
  clear hK K
  try simp only [Act.put, sq]
  refine won 12 rfl fun K hK => ?_
  go_simp
  refine hK.out _ _ (fun _ h => h) ?_
  clear hK K
  try simp only [Act.put, sq]
  refine won 13 rfl fun K hK => ?_
  go_simp
  refine hK.out _ _ (fun _ h => h) ?_
  clear hK K
  try simp only [Act.put, sq]
  refine won 14 rfl fun K hK => ?_
  go_simp
  refine hK.out _ _ (fun _ h => h) ?_
  clear hK K
  try simp only [Act.put, sq]
  refine won 15 rfl fun K hK => ?_
  go_simp
  refine hK.out _ _ (fun _ h => h) ?_
  clear hK K
  try simp only [Act.put, sq]
  have a16 := aT 1 _ rfl
  have f16 := fT (i * 3 + 1)
  refine won 16 rfl fun K hK => ?_
  go_simp
  refine hK.out _ _ (fun h => absurd h (by decide)) ?_
  clear hK K
  try simp only [Act.put, sq]
  refine won 17 rfl fun K hK => ?_
  go_simp
  refine hK.out _ _ (fun _ h => h) ?_
  clear hK K
  try simp only [Act.put, sq]
  have a18 : (w2.setCell ⟨gT, i * 3 + 1, none⟩ (.int .i64 2)).cell? ⟨gO, i, none⟩ = some (.bool d.op) := by
   rw [World.cell?_setCell_other _ _ _ _ (fun e => hTO (congrArg Addr.block e))]
   exact aO
  have f18 := fO i
  refine won 18 rfl fun K hK => ?_
  go_simp
  refine hK.out _ _ (fun h => absurd h (by decide)) ?_
  clear hK K
  try simp only [Act.put, sq]
  refine wpAnyM_done (by kernel_rfl) ?_ _
  try simp only [Act.put, sq]
  clear HS hS0 hB0
  go_wp2_with fail
  go_ret
  have hP : putP L (5, s, key, vk, n, ln) = (L.set i (endD (L.getD i noD) 2), 0) := by
   have := put_end L (5, s, key, vk, n, ln) hmb (by dsimp only; omega) (by dsimp only; rw [hat]; exact hi)
   dsimp only at this
   rw [hat] at this
   exact this
  try rw [hP]
  have hfin := HF.out.below (Below.drew (Below.refl _ _))
  first | exact ⟨_, _, _, _, _, _, rfl, hfin, HB5.out⟩ | exact ⟨rfl, ⟨_, _, _, _, _, _, hfin⟩, HB5.out⟩
 ·have e9 : atI L s = -1 := if_neg hA
  rw [e9]
  clear e9
  have hP : putP L (5, s, key, vk, n, ln) = (L, 10) := put_shut L _ hmb (by dsimp only; omega) hA
  go_wp2_with fail
  go_ret
  try rw [hP]
  first | exact ⟨_, _, _, _, _, _, rfl, HM2.out.wi, HM2.out.bel.mono hB⟩ | exact ⟨rfl, ⟨_, _, _, _, _, _, HM2.out.wi⟩, HM2.out.bel.mono hB⟩
set_option maxRecDepth 100000 in
set_option maxHeartbeats 8000000 in
theorem rput10_k6 {w : World} {B gm : Nat} {L : List DraftM} {vT vN vK vL vO : Value} {E : List EntR} (k vk n ln : Int) (s key : List UInt8) (h : WI w B gm L vT vN vK vL vO E) (hG : GoodL L) (hs : s.length ≤ 1000000) (hkey : key.length ≤ 1000000) (hB : B ≤ w.heap.size) (hmb : mayE (k, s, key, vk, n, ln) = true) (hk : k = 6) :
  Calls Tryz.prog 167 #[.pointer (some ⟨gm, 0, none⟩), .agg #[.int .i64 k, .string (bs s), .string (bs key), .int .i64 vk, .int .i64 n, .int .i64 ln]] w fun e w' => ∃ vT' vN' vK' vL' vO' E', e = .returned (.int .i64 (putP L (k, s, key, vk, n, ln)).2) ∧ WI w' B gm (putP L (k, s, key, vk, n, ln)).1 vT' vN' vK' vL' vO' E' ∧ Below B w w' := by
 have H1 := Lib.hid (fun w' => remay_any k s key vk n ln hs hkey w')
 rw [hmb] at H1
 have HK := Lib.hid hk
 clear hk
 have hA1 := (Below.refl w.heap.size w).alloc (Nat.le_refl _) (.cells #[.int .i64 k, .string (bs s), .string (bs key), .int .i64 vk, .int .i64 n, .int .i64 ln] 123)
 have HM1 := Lib.hid (show StR w (w.alloc (.cells #[.int .i64 k, .string (bs s), .string (bs key), .int .i64 vk, .int .i64 n, .int .i64 ln] 123)) B gm w.heap.size L vT vN vK vL vO E (k, s, key, vk, n, ln) from
  ⟨h.below hA1, Blk.new w _ [.int .i64 k, .string (bs s), .string (bs key), .int .i64 vk, .int .i64 n, .int .i64 ln], hA1⟩)
 clear h hA1
 go_enter Tryz.func167, Tryz.ntmps167
 go_wp2_with fail
 refine (H1.out _).mono ?_
 rintro e w2 ⟨rfl, hb2⟩
 have HM2 := Lib.hid (HM1.out.below hb2)
 clear HM1 H1 hb2
 obtain ⟨gx, hgx⟩ : ∃ g, w.heap.size = g := ⟨_, rfl⟩
 rw [hgx] at HM2
 try simp only [hgx]
 have hx0 := HM2.out.box.cell 0 rfl
 have hx1 := HM2.out.box.cell 1 rfl
 have hx2 := HM2.out.box.cell 2 rfl
 have hx3 := HM2.out.box.cell 3 rfl
 have hx4 := HM2.out.box.cell 4 rfl
 have hx5 := HM2.out.box.cell 5 rfl
 have hk := HK.out
 clear HK
 subst hk
 have HAt := Lib.hid (rat10_any s HM2.out.wi (by have := hG.few; omega))
 go_wp2_with fail
 refine HAt.out.mono ?_
 rintro e w9 ⟨rfl, hw9⟩
 rw [hw9]
 clear hw9
 by_cases hA : atD L s < L.length
 ·have e9 : atI L s = (atD L s : Nat) := if_pos hA
  rw [e9]
  clear e9
  obtain ⟨i, hat⟩ : ∃ i, atD L s = i := ⟨_, rfl⟩
  rw [hat] at hA
  try simp only [hat]
  have hi := hA
  clear hA
  have h0 : ¬ ((i : Nat) : Int) < 0 := by omega
  obtain ⟨gT, cT, eT, aT, fT⟩ := own_cell (f := wtc) (s := 3) noQ wtc_len HM2.out.wi.rT (by simp [HM2.out.wi.len]) i hi
  obtain ⟨gO, cO, eO, aO', fO⟩ := own_cell (f := opd) (s := 1) noD (fun _ => rfl) HM2.out.wi.rO rfl i hi
  subst eT eO
  rw [zip_atR L E HM2.out.wi.len i hi] at aT
  have aO := aO' 0 _ rfl
  simp only [Nat.mul_one, Nat.add_zero] at aO
  have hTO : gT ≠ gO := (owns_ty HM2.out.wi.rT (g := gT) rfl).ne (owns_ty HM2.out.wi.rO (g := gO) rfl) (by decide)
  obtain ⟨d, hd⟩ : ∃ d, L.getD i noD = d := ⟨_, rfl⟩
  rw [hd] at aO aT
  have HS : RowKit.Hid (∀ w', Below w2.heap.size w2 w' → (w'.cell? ⟨gm, 2, none⟩ = some (.slice (some ⟨gT, 0, none⟩) L.length cT) ∧ w'.cell? ⟨gm, 6, none⟩ = some (.slice (some ⟨gO, 0, none⟩) L.length cO) ∧ w'.cell? ⟨gx, 0, none⟩ = some (.int .i64 6) ∧ Below w2.heap.size w2 w')) := Lib.hid (fun w' hb => ⟨cell_later hb (HM2.out.wi.bx.cell 2 rfl), cell_later hb (HM2.out.wi.bx.cell 6 rfl), cell_later hb (HM2.out.box.cell 0 rfl), hb⟩)
  have HF := Lib.hid (HM2.out.wi.fin hi 3)
  have hbT := (HM2.out.wi.rT.lt gT rfl).1
  have hbO := (HM2.out.wi.rO.lt gO rfl).1
  have HB5 := Lib.hid (((HM2.out.bel.mono hB).setCell (p := ⟨gT, i * 3 + 1, none⟩) hbT (.int .i64 3)).setCell (p := ⟨gO, i, none⟩) hbO (.bool false)).drew
  clear aO'
  have hwrap : IntKind.i64.wrap 3 = 3 := by rw [IntKind.wrap_i64]; omega
  go_wp2_with fail
  clear hx0 hx1 hx2 hx3 hx4 hx5
  refine wp_region_keep (fun w' => w'.cell? ⟨gm, 2, none⟩ = some (.slice (some ⟨gT, 0, none⟩) L.length cT) ∧ w'.cell? ⟨gm, 6, none⟩ = some (.slice (some ⟨gO, 0, none⟩) L.length cO) ∧ w'.cell? ⟨gx, 0, none⟩ = some (.int .i64 6) ∧ Below w2.heap.size w2 w') [16, 18] (by kernel_rfl) ?_
  have hB0 : Below (w2).heap.size (w2) (w2).drew := Below.drew (Below.refl _ _)
  have hS0 := HS.out _ hB0
  refine wfr 0 (v := ?_) rfl ?_ ?_
  rotate_left
  ·intro w' hw';go_simp;try with_reducible rfl
  try simp only [Act.put, sq]
  refine wfr 1 (v := ?_) rfl ?_ ?_
  rotate_left
  ·intro w' hw';go_simp;try with_reducible rfl
  try simp only [Act.put, sq]
  refine wfr 2 (v := ?_) rfl ?_ ?_
  rotate_left
  ·intro w' hw';go_simp;try with_reducible rfl
  try simp only [Act.put, sq]
  refine wfr 3 (v := ?_) rfl ?_ ?_
  rotate_left
  ·intro w' hw';go_simp;try with_reducible rfl
  try simp only [Act.put, sq]
  refine wtk 4 19 (v := ?_) rfl ?_ hS0 ?_
  rotate_left
  ·intro w' hw';(try dsimp only at hw');go_simp;try with_reducible rfl
  try simp only [Act.put, sq]
  refine wfr 5 (v := ?_) rfl ?_ ?_
  rotate_left
  ·intro w' hw';go_simp;try with_reducible rfl
  try simp only [Act.put, sq]
  refine wfr 6 (v := ?_) rfl ?_ ?_
  rotate_left
  ·intro w' hw';go_simp;try with_reducible rfl
  try simp only [Act.put, sq]
  refine wfr 7 (v := ?_) rfl ?_ ?_
  rotate_left
  ·intro w' hw';go_simp;try with_reducible rfl
  try simp only [Act.put, sq]
  refine wfr 8 (v := ?_) rfl ?_ ?_
  rotate_left
  ·intro w' hw';go_simp;try with_reducible rfl
  try simp only [Act.put, sq]
  refine wtk 9 19 (v := ?_) rfl ?_ hS0 ?_
  rotate_left
  ·intro w' hw';(try dsimp only at hw');go_simp;try with_reducible rfl
  try simp only [Act.put, sq]
  refine wfr 10 (v := ?_) rfl ?_ ?_
  rotate_left
  ·intro w' hw';go_simp;try with_reducible rfl
  try simp only [Act.put, sq]
  refine won 11 rfl fun K hK => ?_
  go_simp
  refine hK.out _ _ (fun _ h => h) ?_
  clear hK K
  try simp only [Act.put, sq]
  refine won 12 rfl fun K hK => ?_
  go_simp
  refine hK.out _ _ (fun _ h => h) ?_
  clear hK K
  try simp only [Act.put, sq]
  refine won 13 rfl fun K hK => ?_
  go_simp
  refine hK.out _ _ (fun _ h => h) ?_
  clear hK K
  try simp only [Act.put, sq]
  refine won 14 rfl fun K hK => ?_
  go_simp
  refine hK.out _ _ (fun _ h => h) ?_
  clear hK K
  try simp only [Act.put, sq]
  refine won 15 rfl fun K hK => ?_
  go_simp
  refine hK.out _ _ (fun _ h => h) ?_
  clear hK K
  try simp only [Act.put, sq]
  have a16 := aT 1 _ rfl
  have f16 := fT (i * 3 + 1)
  refine won 16 rfl fun K hK => ?_
  go_simp
  refine hK.out _ _ (fun h => absurd h (by decide)) ?_
  clear hK K
  try simp only [Act.put, sq]
  refine won 17 rfl fun K hK => ?_
  go_simp
  refine hK.out _ _ (fun _ h => h) ?_
  clear hK K
  try simp only [Act.put, sq]
  have a18 : (w2.setCell ⟨gT, i * 3 + 1, none⟩ (.int .i64 3)).cell? ⟨gO, i, none⟩ = some (.bool d.op) := by
   rw [World.cell?_setCell_other _ _ _ _ (fun e => hTO (congrArg Addr.block e))]
   exact aO
  have f18 := fO i
  refine won 18 rfl fun K hK => ?_
  go_simp
  refine hK.out _ _ (fun h => absurd h (by decide)) ?_
  clear hK K
  try simp only [Act.put, sq]
  refine wpAnyM_done (by kernel_rfl) ?_ _
  try simp only [Act.put, sq]
  clear HS hS0 hB0
  go_wp2_with fail
  go_ret
  have hP : putP L (6, s, key, vk, n, ln) = (L.set i (endD (L.getD i noD) 3), 0) := by
   have := put_end L (6, s, key, vk, n, ln) hmb (by dsimp only; omega) (by dsimp only; rw [hat]; exact hi)
   dsimp only at this
   rw [hat] at this
   exact this
  try rw [hP]
  have hfin := HF.out.below (Below.drew (Below.refl _ _))
  first | exact ⟨_, _, _, _, _, _, rfl, hfin, HB5.out⟩ | exact ⟨rfl, ⟨_, _, _, _, _, _, hfin⟩, HB5.out⟩
 ·have e9 : atI L s = -1 := if_neg hA
  rw [e9]
  clear e9
  have hP : putP L (6, s, key, vk, n, ln) = (L, 10) := put_shut L _ hmb (by dsimp only; omega) hA
  go_wp2_with fail
  go_ret
  try rw [hP]
  first | exact ⟨_, _, _, _, _, _, rfl, HM2.out.wi, HM2.out.bel.mono hB⟩ | exact ⟨rfl, ⟨_, _, _, _, _, _, HM2.out.wi⟩, HM2.out.bel.mono hB⟩
set_option maxRecDepth 100000 in
set_option maxHeartbeats 8000000 in
theorem rput10_no {w : World} {B gm : Nat} {L : List DraftM} {vT vN vK vL vO : Value} {E : List EntR} (k vk n ln : Int) (s key : List UInt8) (h : WI w B gm L vT vN vK vL vO E) (_hG : GoodL L) (hs : s.length ≤ 1000000) (hkey : key.length ≤ 1000000) (hB : B ≤ w.heap.size) (hmb : mayE (k, s, key, vk, n, ln) = false) :
  Calls Tryz.prog 167 #[.pointer (some ⟨gm, 0, none⟩), .agg #[.int .i64 k, .string (bs s), .string (bs key), .int .i64 vk, .int .i64 n, .int .i64 ln]] w fun e w' => ∃ vT' vN' vK' vL' vO' E', e = .returned (.int .i64 (putP L (k, s, key, vk, n, ln)).2) ∧ WI w' B gm (putP L (k, s, key, vk, n, ln)).1 vT' vN' vK' vL' vO' E' ∧ Below B w w' := by
 have H1 := Lib.hid (fun w' => remay_any k s key vk n ln hs hkey w')
 rw [hmb] at H1
 have hA1 := (Below.refl w.heap.size w).alloc (Nat.le_refl _) (.cells #[.int .i64 k, .string (bs s), .string (bs key), .int .i64 vk, .int .i64 n, .int .i64 ln] 123)
 have HM1 := Lib.hid (show StR w (w.alloc (.cells #[.int .i64 k, .string (bs s), .string (bs key), .int .i64 vk, .int .i64 n, .int .i64 ln] 123)) B gm w.heap.size L vT vN vK vL vO E (k, s, key, vk, n, ln) from
  ⟨h.below hA1, Blk.new w _ [.int .i64 k, .string (bs s), .string (bs key), .int .i64 vk, .int .i64 n, .int .i64 ln], hA1⟩)
 clear h hA1
 go_enter Tryz.func167, Tryz.ntmps167
 go_wp2_with fail
 refine (H1.out _).mono ?_
 rintro e w2 ⟨rfl, hb2⟩
 have HM2 := Lib.hid (HM1.out.below hb2)
 clear HM1 H1 hb2
 obtain ⟨gx, hgx⟩ : ∃ g, w.heap.size = g := ⟨_, rfl⟩
 rw [hgx] at HM2
 try simp only [hgx]
 have hx0 := HM2.out.box.cell 0 rfl
 have hx1 := HM2.out.box.cell 1 rfl
 have hx2 := HM2.out.box.cell 2 rfl
 have hx3 := HM2.out.box.cell 3 rfl
 have hx4 := HM2.out.box.cell 4 rfl
 have hx5 := HM2.out.box.cell 5 rfl
 have hP := put_form L _ hmb
 go_wp2_with fail
 go_ret
 try rw [hP]
 first | exact ⟨_, _, _, _, _, _, rfl, HM2.out.wi, HM2.out.bel.mono hB⟩ | exact ⟨rfl, ⟨_, _, _, _, _, _, HM2.out.wi⟩, HM2.out.bel.mono hB⟩
end Go.Proofs.YtmgchjddpmmglaaGreatDoor
