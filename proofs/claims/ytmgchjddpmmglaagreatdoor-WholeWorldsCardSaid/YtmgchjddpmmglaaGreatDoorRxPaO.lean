/-
  Layer 10 (pair): the maker's op, walked. No conditions.
-/
import Derived.Test.YtmgchjddpmmglaaGreatDoorRWh
namespace Go.Proofs.YtmgchjddpmmglaaGreatDoor
open Go.RowKit Go.Lib Go.Maps
theorem info_pop : (Tryz.prog.info? 51).map (fun i => (i.zero, i.size, i.bytes)) = some (some (.agg #[.bool false, .int .i64 0, .int .i64 0, .int .i64 0]), 4, 32) := by kernel_rfl
theorem ones_opc (o : OpM) : ∀ u ∈ opc o, u.oneCell' = true := by
 intro u hu
 simp [opc] at hu
 rcases hu with h | h | h | h <;> subst h <;> rfl
theorem ones_nmc (o : List UInt8) : ∀ u ∈ nmc o, u.oneCell' = true := by
 intro u hu
 simp [nmc] at hu
 subst hu
 rfl
set_option maxRecDepth 100000 in
set_option maxHeartbeats 4000000 in
theorem mop_any {w : World} {B gm N bo bz bk i : Nat} {L : List DraftM} {lv : Value} {E : List EntM} {d : DraftM} {g : Nat} {ek eo : Value} (k vk n ln : Int) (s key : List UInt8) (h : MkI w B gm L N lv bo bz bk E) (hG : GoodL L) (hN : N ≤ 10000) (hm : mayE (k, s, key, vk, n, ln) = true) (hk : k = 2 ∨ k = 3) (hi : i < L.length) (hat : atD L s = i) (hd : L.getD i noD = d) (he : E.getD i noEn = (g, ek, eo)) (hs : key.length ≤ 1000000) (hB : B ≤ w.heap.size) :
  Calls Tryz.prog 202 #[.pointer (some ⟨gm, 0, none⟩), .pointer (some ⟨g, 0, none⟩), .agg #[.int .i64 k, .string (bs s), .string (bs key), .int .i64 vk, .int .i64 n, .int .i64 ln]] w fun e w' => ∃ E', e = .returned (.int .i64 (putP L (k, s, key, vk, n, ln)).2) ∧ MkI w' B gm (putP L (k, s, key, vk, n, ln)).1 (N + 1) lv bo bz bk E' ∧ Below B w w' ∧ EvKeep w w' := by
 have hkn : nameL key = true := (mayE_nm _ hm).2.2.2 hk
 have hP : putP L (k, s, key, vk, n, ln) = (if d.ops.length = 20 ∨ 40 < (sortedN (keysD L ++ [key])).length then (L, 7) else (L.set i (moreD d (k, s, key, vk, n, ln)), 0)) := by
  unfold putP
  rw [if_neg (by rw [hm]; decide), if_neg (by dsimp only; omega), if_neg (by simpa [hat] using hi), if_neg (by dsimp only; omega)]
  simp only [hat, hd]
 have HP := Lib.hid hP
 have HK := Lib.hid hk
 have hgd := hG.all _ (getD_memD L i hi)
 rw [hd] at hgd
 have hdf := hgd.few
 have hkf : d.ks.length ≤ 20 := by rw [hgd.len]; exact hgd.few
 have HM0 := Lib.hid (show StB w (w.alloc (.cells #[.int .i64 k, .string (bs s), .string (bs key), .int .i64 vk, .int .i64 n, .int .i64 ln] 123)) B gm N bo bz bk w.heap.size L lv E (k, s, key, vk, n, ln) from
  ⟨h.below ((Below.refl _ _).alloc (Nat.le_refl _) _), Blk.new w _ [.int .i64 k, .string (bs s), .string (bs key), .int .i64 vk, .int .i64 n, .int .i64 ln], (Below.refl _ _).alloc (Nat.le_refl _) _⟩)
 obtain ⟨gx, hgx⟩ : ∃ g, w.heap.size = g := ⟨_, rfl⟩
 clear hP h hm hk hgd
 go_enter Tryz.func202, Tryz.ntmps202
 go_wp2_with fail
 rw [hgx] at HM0
 obtain ⟨w1, hw1⟩ : ∃ w1, w.alloc (.cells #[.int .i64 k, .string (bs s), .string (bs key), .int .i64 vk, .int .i64 n, .int .i64 ln] 123) = w1 := ⟨_, rfl⟩
 try simp only [hgx]
 rw [hw1] at HM0
 try simp only [hw1]
 obtain ⟨ks, c1, n1, m1⟩ := HM0.out.mi.key
 have hcm := count_more ks (keysD L) key 40 n1 m1 (keys_good hG) hkn hG.keys
 obtain ⟨c, k2', k3, k4, k1⟩ := cnt_look c1 ⟨by omega, by omega⟩ key (by omega)
 have K2 := Lib.hid k2'
 have HCM := Lib.hid hcm
 have HKM := Lib.hid m1
 have HKN := Lib.hid n1
 clear k2' hcm
 have hdv := HM0.out.mi.dr i hi
 rw [hd, he] at hdv
 obtain ⟨p, cp, hlv⟩ := owns_form hdv.ops
 have HS : RowKit.Hid (∀ w', Below w1.heap.size w1 w' → (w'.cell? ⟨g, 5, none⟩ = some (.slice p d.ops.length cp) ∧ w'.cell? ⟨gm, 3, none⟩ = some (.map (some bk)) ∧ w'.cell? ⟨gx, 2, none⟩ = some (.string (bs key)) ∧ (Instr.lookup 132 (.map (some bk)) (.string (bs key)) false).run Tryz.prog w' = .ok (.int .i64 c) w' ∧ (∀ ty, (Builtin.len_ #[132] ty #[.map (some bk)]).run Tryz.prog w' = .ok (.int .i64 ks.length) w') ∧ Below w1.heap.size w1 w')) := Lib.hid (fun w' hb => ⟨cell_later hb (by rw [← hlv]; exact hdv.blk.cell 5 rfl), cell_later hb (HM0.out.mi.bx.cell 3 rfl), cell_later hb (HM0.out.box.cell 2 rfl), (k1 w' (hb.block _ c1.lt)).1, fun ty => cnt_len (c1.at (w' := w') (hb.block _ c1.lt)) ty, hb⟩)
 have HD := Lib.hid hdv
 have HC1 := Lib.hid c1
 clear hw1 hdv c1 m1 n1 hlv
 by_cases hE : d.ops.length = 20
 ·have dE : ((d.ops.length : Int) == 20) = true := by simp; omega
  have HP7 := Lib.hid (HP.out.trans (if_pos (Or.inl hE)))
  clear HP k1
  refine wp_region_keep (fun w' => w'.cell? ⟨g, 5, none⟩ = some (.slice p d.ops.length cp) ∧ w'.cell? ⟨gm, 3, none⟩ = some (.map (some bk)) ∧ w'.cell? ⟨gx, 2, none⟩ = some (.string (bs key)) ∧ (Instr.lookup 132 (.map (some bk)) (.string (bs key)) false).run Tryz.prog w' = .ok (.int .i64 c) w' ∧ (∀ ty, (Builtin.len_ #[132] ty #[.map (some bk)]).run Tryz.prog w' = .ok (.int .i64 ks.length) w') ∧ Below w1.heap.size w1 w') [] (by kernel_rfl) ?_
  have hB0 : Below (w1).heap.size (w1) (w1).drew := Below.drew (Below.refl _ _)
  have hS0 := HS.out _ hB0
  refine won 0 rfl fun K hK => ?_
  go_simp
  refine hK.out _ _ (fun _ h => h) ?_
  clear hK K
  try simp only [Act.put, sq]
  refine won 1 rfl fun K hK => ?_
  go_simp
  refine hK.out _ _ (fun _ h => h) ?_
  clear hK K
  try simp only [Act.put, sq]
  refine won 2 rfl fun K hK => ?_
  go_simp
  refine hK.out _ _ (fun _ h => h) ?_
  clear hK K
  try simp only [Act.put, sq]
  refine won 3 rfl fun K hK => ?_
  go_simp
  refine hK.out _ _ (fun _ h => h) ?_
  clear hK K
  try simp only [Act.put, sq]
  refine won 4 rfl fun K hK => ?_
  go_simp
  refine hK.out _ _ (fun _ h => h) ?_
  clear hK K
  try simp only [Act.put, sq]
  refine won 5 rfl fun K hK => ?_
  go_simp
  refine hK.out _ _ (fun _ h => h) ?_
  clear hK K
  try simp only [Act.put, sq]
  refine won 6 rfl fun K hK => ?_
  go_simp
  refine hK.out _ _ (fun _ h => h) ?_
  clear hK K
  try simp only [Act.put, sq]
  refine won 7 rfl fun K hK => ?_
  go_simp
  refine hK.out _ _ (fun _ h => h) ?_
  clear hK K
  try simp only [Act.put, sq]
  refine wpAnyM_free 8 (v := undef) rfl (by kernel_rfl) (by kernel_rfl) (by kernel_rfl) (fun _ _ _ h => h) (Or.inr ⟨by rfl, rfl⟩) ?_
  try simp only [Act.put, sq]
  refine wpAnyM_free 9 (v := undef) rfl (by kernel_rfl) (by kernel_rfl) (by kernel_rfl) (fun _ _ _ h => h) (Or.inr ⟨by rfl, rfl⟩) ?_
  try simp only [Act.put, sq]
  refine wpAnyM_free 10 (v := undef) rfl (by kernel_rfl) (by kernel_rfl) (by kernel_rfl) (fun _ _ _ h => h) (Or.inr ⟨by rfl, rfl⟩) ?_
  try simp only [Act.put, sq]
  refine wpAnyM_free 11 (v := undef) rfl (by kernel_rfl) (by kernel_rfl) (by kernel_rfl) (fun _ _ _ h => h) (Or.inr ⟨by rfl, rfl⟩) ?_
  try simp only [Act.put, sq]
  refine won 12 rfl fun K hK => ?_
  go_simp
  refine hK.out _ _ (fun _ h => h) ?_
  clear hK K
  try simp only [Act.put, sq]
  refine won 13 rfl fun K hK => ?_
  go_simp
  refine hK.out _ _ (fun _ h => h) ?_
  clear hK K
  try simp only [Act.put, sq]
  refine won 14 rfl fun K hK => ?_
  go_simp
  refine hK.out _ _ (fun _ h => h) ?_
  clear hK K
  try simp only [Act.put, sq]
  refine won 15 rfl fun K hK => ?_
  go_simp
  refine hK.out _ _ (fun _ h => h) ?_
  clear hK K
  try simp only [Act.put, sq]
  refine won 16 rfl fun K hK => ?_
  go_simp
  refine hK.out _ _ (fun _ h => h) ?_
  clear hK K
  try simp only [Act.put, sq]
  refine won 17 rfl fun K hK => ?_
  go_simp
  refine hK.out _ _ (fun _ h => h) ?_
  clear hK K
  try simp only [Act.put, sq]
  refine won 18 rfl fun K hK => ?_
  go_simp
  refine hK.out _ _ (fun _ h => h) ?_
  clear hK K
  try simp only [Act.put, sq]
  refine won 19 rfl fun K hK => ?_
  go_simp
  refine hK.out _ _ (fun _ h => h) ?_
  clear hK K
  try simp only [Act.put, sq]
  refine won 20 rfl fun K hK => ?_
  go_simp
  refine hK.out _ _ (fun _ h => h) ?_
  clear hK K
  try simp only [Act.put, sq]
  refine won 21 rfl fun K hK => ?_
  go_simp
  refine hK.out _ _ (fun _ h => h) ?_
  clear hK K
  try simp only [Act.put, sq]
  refine won 22 rfl fun K hK => ?_
  go_simp
  refine hK.out _ _ (fun _ h => h) ?_
  clear hK K
  try simp only [Act.put, sq]
  refine won 23 rfl fun K hK => ?_
  go_simp
  refine hK.out _ _ (fun _ h => h) ?_
  clear hK K
  try simp only [Act.put, sq]
  refine won 24 rfl fun K hK => ?_
  go_simp
  refine hK.out _ _ (fun _ h => h) ?_
  clear hK K
  try simp only [Act.put, sq]
  refine wpAnyM_done (by kernel_rfl) ?_ _
  try simp only [Act.put, sq]
  go_wp2_with fail
  go_ret
  have h9 := HM0.out.below hB0
  rw [HP7.out]
  first | exact ⟨_, rfl, h9.mi.mono (Nat.le_succ _), h9.bel.mono hB, EvKeep.below h9.bel⟩ | exact ⟨rfl, ⟨_, h9.mi.mono (Nat.le_succ _)⟩, h9.bel.mono hB, EvKeep.below h9.bel⟩
 ·have dE : ((d.ops.length : Int) == 20) = false := by simp; omega
  by_cases hsk : key ∈ ks
  ·have hc0 : (c == 0) = false := by simpa using (fun g => (K2.out.1 g) hsk)
   have HP0 := Lib.hid (HP.out.trans (if_neg (fun g => g.elim (fun g => hE g) (fun g => (HCM.out.1.1 g).1 hsk))))
   clear HP
   refine wp_region_keep (fun w' => w'.cell? ⟨g, 5, none⟩ = some (.slice p d.ops.length cp) ∧ w'.cell? ⟨gm, 3, none⟩ = some (.map (some bk)) ∧ w'.cell? ⟨gx, 2, none⟩ = some (.string (bs key)) ∧ (Instr.lookup 132 (.map (some bk)) (.string (bs key)) false).run Tryz.prog w' = .ok (.int .i64 c) w' ∧ (∀ ty, (Builtin.len_ #[132] ty #[.map (some bk)]).run Tryz.prog w' = .ok (.int .i64 ks.length) w') ∧ Below w1.heap.size w1 w') [] (by kernel_rfl) ?_
   have hB0 : Below (w1).heap.size (w1) (w1).drew := Below.drew (Below.refl _ _)
   have hS0 := HS.out _ hB0
   refine won 0 rfl fun K hK => ?_
   go_simp
   refine hK.out _ _ (fun _ h => h) ?_
   clear hK K
   try simp only [Act.put, sq]
   refine won 1 rfl fun K hK => ?_
   go_simp
   refine hK.out _ _ (fun _ h => h) ?_
   clear hK K
   try simp only [Act.put, sq]
   refine won 2 rfl fun K hK => ?_
   go_simp
   refine hK.out _ _ (fun _ h => h) ?_
   clear hK K
   try simp only [Act.put, sq]
   refine won 3 rfl fun K hK => ?_
   go_simp
   refine hK.out _ _ (fun _ h => h) ?_
   clear hK K
   try simp only [Act.put, sq]
   refine won 4 rfl fun K hK => ?_
   go_simp
   refine hK.out _ _ (fun _ h => h) ?_
   clear hK K
   try simp only [Act.put, sq]
   refine won 5 rfl fun K hK => ?_
   go_simp
   refine hK.out _ _ (fun _ h => h) ?_
   clear hK K
   try simp only [Act.put, sq]
   refine won 6 rfl fun K hK => ?_
   go_simp
   refine hK.out _ _ (fun _ h => h) ?_
   clear hK K
   try simp only [Act.put, sq]
   refine won 7 rfl fun K hK => ?_
   go_simp
   refine hK.out _ _ (fun _ h => h) ?_
   clear hK K
   try simp only [Act.put, sq]
   refine wfr 8 (v := ?_) rfl ?_ ?_
   rotate_left
   ·intro w' hw';go_simp;try with_reducible rfl
   try simp only [Act.put, sq]
   refine wfr 9 (v := ?_) rfl ?_ ?_
   rotate_left
   ·intro w' hw';go_simp;try with_reducible rfl
   try simp only [Act.put, sq]
   refine wfr 10 (v := ?_) rfl ?_ ?_
   rotate_left
   ·intro w' hw';go_simp;try with_reducible rfl
   try simp only [Act.put, sq]
   refine wtk 11 25 (v := ?_) rfl ?_ hS0 ?_
   rotate_left
   ·intro w' hw';(try dsimp only at hw');go_simp;try with_reducible rfl
   try simp only [Act.put, sq]
   refine won 12 rfl fun K hK => ?_
   go_simp
   refine hK.out _ _ (fun _ h => h) ?_
   clear hK K
   try simp only [Act.put, sq]
   refine won 13 rfl fun K hK => ?_
   go_simp
   refine hK.out _ _ (fun _ h => h) ?_
   clear hK K
   try simp only [Act.put, sq]
   refine won 14 rfl fun K hK => ?_
   go_simp
   refine hK.out _ _ (fun _ h => h) ?_
   clear hK K
   try simp only [Act.put, sq]
   refine won 15 rfl fun K hK => ?_
   go_simp
   refine hK.out _ _ (fun _ h => h) ?_
   clear hK K
   try simp only [Act.put, sq]
   refine won 16 rfl fun K hK => ?_
   go_simp
   refine hK.out _ _ (fun _ h => h) ?_
   clear hK K
   try simp only [Act.put, sq]
   refine won 17 rfl fun K hK => ?_
   go_simp
   refine hK.out _ _ (fun _ h => h) ?_
   clear hK K
   try simp only [Act.put, sq]
   refine won 18 rfl fun K hK => ?_
   go_simp
   refine hK.out _ _ (fun _ h => h) ?_
   clear hK K
   try simp only [Act.put, sq]
   refine won 19 rfl fun K hK => ?_
   go_simp
   refine hK.out _ _ (fun _ h => h) ?_
   clear hK K
   try simp only [Act.put, sq]
   refine won 20 rfl fun K hK => ?_
   go_simp
   refine hK.out _ _ (fun _ h => h) ?_
   clear hK K
   try simp only [Act.put, sq]
   refine won 21 rfl fun K hK => ?_
   go_simp
   refine hK.out _ _ (fun _ h => h) ?_
   clear hK K
   try simp only [Act.put, sq]
   refine won 22 rfl fun K hK => ?_
   go_simp
   refine hK.out _ _ (fun _ h => h) ?_
   clear hK K
   try simp only [Act.put, sq]
   refine won 23 rfl fun K hK => ?_
   go_simp
   refine hK.out _ _ (fun _ h => h) ?_
   clear hK K
   try simp only [Act.put, sq]
   refine won 24 rfl fun K hK => ?_
   go_simp
   refine hK.out _ _ (fun _ h => h) ?_
   clear hK K
   try simp only [Act.put, sq]
   refine wpAnyM_done (by kernel_rfl) ?_ _
   try simp only [Act.put, sq]
   have HM2 := Lib.hid (HM0.out.below hB0)
   have HO2' := MidO.start HM2.out hB i hi (kl := ks) (HC1.out.at (hB0.block _ HC1.out.lt))
   rw [hd, he] at HO2'
   have HO2 := Lib.hid HO2'
   have K1 := Lib.hid (fun w' (e : w'.heap[bk]? = w1.drew.heap[bk]?) => k1 w' e)
   clear k1 hS0 HM0 HS hB0 HO2' HD HC1
   generalize w1.drew = w2 at *
   have hBg := HM2.out.mi.base
   have hmp := HM2.out.mi.maps
   go_wp2_with fail
   obtain ⟨-, w3, e3, c3, t3⟩ := K1.out w2.drew rfl
   have HO3 := Lib.hid (HO2.out.drew.turnK t3 c3 hB hBg.2.2.2 hmp.2.1)
   have E3 := Lib.hid e3
   have hwrap : IntKind.i64.wrap (c + 1) = c + 1 := by rw [IntKind.wrap_i64]; omega
   try simp only [Int.zero_add] at hwrap
   have HS : RowKit.Hid (∀ w', Below w2.heap.size w2 w' → (w'.cell? ⟨gm, 3, none⟩ = some (.map (some bk)) ∧ w'.cell? ⟨gx, 2, none⟩ = some (.string (bs key)) ∧ (Instr.lookup 132 (.map (some bk)) (.string (bs key)) false).run Tryz.prog w' = .ok (.int .i64 c) w' ∧ Below w2.heap.size w2 w')) := Lib.hid (fun w' hb => ⟨cell_later hb (HM2.out.mi.bx.cell 3 rfl), cell_later hb (HM2.out.box.cell 2 rfl), (K1.out w' (hb.block _ HO2.out.cnt.lt)).1, hb⟩)
   clear e3 c3 t3
   refine wp_region_keep (fun w' => w'.cell? ⟨gm, 3, none⟩ = some (.map (some bk)) ∧ w'.cell? ⟨gx, 2, none⟩ = some (.string (bs key)) ∧ (Instr.lookup 132 (.map (some bk)) (.string (bs key)) false).run Tryz.prog w' = .ok (.int .i64 c) w' ∧ Below w2.heap.size w2 w') [8] (by kernel_rfl) ?_
   have hB0 : Below (w2).heap.size (w2) (w2).drew := Below.drew (Below.refl _ _)
   have hS0 := HS.out _ hB0
   refine wfr 0 (v := ?_) rfl ?_ ?_
   rotate_left
   ·intro w' hw';go_simp;try with_reducible rfl
   try simp only [Act.put, sq]
   refine wfr 1 (v := ?_) rfl ?_ ?_
   rotate_left
   ·intro w' hw';go_simp;try with_reducible rfl
   try simp only [Act.put, sq]
   refine wfr 2 (v := ?_) rfl ?_ ?_
   rotate_left
   ·intro w' hw';go_simp;try with_reducible rfl
   try simp only [Act.put, sq]
   refine wtk 3 9 (v := ?_) rfl ?_ hS0 ?_
   rotate_left
   ·intro w' hw';(try dsimp only at hw');go_simp;try with_reducible rfl
   try simp only [Act.put, sq]
   refine won 4 rfl fun K hK => ?_
   go_simp
   refine hK.out _ _ (fun _ h => h) ?_
   clear hK K
   try simp only [Act.put, sq]
   refine won 5 rfl fun K hK => ?_
   go_simp
   refine hK.out _ _ (fun _ h => h) ?_
   clear hK K
   try simp only [Act.put, sq]
   refine won 6 rfl fun K hK => ?_
   go_simp
   refine hK.out _ _ (fun _ h => h) ?_
   clear hK K
   try simp only [Act.put, sq]
   refine won 7 rfl fun K hK => ?_
   go_simp
   refine hK.out _ _ (fun _ h => h) ?_
   clear hK K
   try simp only [Act.put, sq]
   have e3 := E3.out
   try simp only [Int.zero_add] at e3
   refine won 8 rfl fun K hK => ?_
   go_simp
   refine hK.out _ _ (fun h => absurd h (by decide)) ?_
   clear hK K
   try simp only [Act.put, sq]
   refine wpAnyM_done (by kernel_rfl) ?_ _
   try simp only [Act.put, sq]
   clear HS hS0 hB0 E3 e3 K1
   go_wp2_with fail
   obtain ⟨i3, hi3, hy0, hy1, hy2⟩ := info_parts info_pop
   have hBs := Nat.le_trans hB (Nat.le_trans HM2.out.bel.size HO3.out.sz)
   have HS : RowKit.Hid (∀ w', Below w3.heap.size w3 w' → (w'.cell? ⟨gx, 0, none⟩ = some (.int .i64 k) ∧ w'.cell? ⟨gx, 3, none⟩ = some (.int .i64 vk) ∧ w'.cell? ⟨gx, 4, none⟩ = some (.int .i64 n) ∧ w'.cell? ⟨g, 5, none⟩ = some (eo) ∧ Below w3.heap.size w3 w')) := Lib.hid (fun w' hb => ⟨cell_later hb (HO3.out.box.cell 0 rfl), cell_later hb (HO3.out.box.cell 3 rfl), cell_later hb (HO3.out.box.cell 4 rfl), cell_later hb (HO3.out.dv.blk.cell 5 rfl), hb⟩)
   refine wp_region_keep (fun w' => w'.cell? ⟨gx, 0, none⟩ = some (.int .i64 k) ∧ w'.cell? ⟨gx, 3, none⟩ = some (.int .i64 vk) ∧ w'.cell? ⟨gx, 4, none⟩ = some (.int .i64 n) ∧ w'.cell? ⟨g, 5, none⟩ = some (eo) ∧ Below w3.heap.size w3 w') [13, 17] (by kernel_rfl) ?_
   have hB0 : Below (w3).heap.size (w3) (w3).drew := Below.drew (Below.refl _ _)
   have hS0 := HS.out _ hB0
   refine wfr 0 (v := ?_) rfl ?_ ?_
   rotate_left
   ·intro w' hw';go_simp;try with_reducible rfl
   try simp only [Act.put, sq]
   refine wfr 1 (v := ?_) rfl ?_ ?_
   rotate_left
   ·intro w' hw';go_simp;try with_reducible rfl
   try simp only [Act.put, sq]
   refine wfr 2 (v := ?_) rfl ?_ ?_
   rotate_left
   ·intro w' hw';go_simp;try with_reducible rfl
   try simp only [Act.put, sq]
   refine wfr 3 (v := ?_) rfl ?_ ?_
   rotate_left
   ·intro w' hw';go_simp;try with_reducible rfl
   try simp only [Act.put, sq]
   refine wfr 4 (v := ?_) rfl ?_ ?_
   rotate_left
   ·intro w' hw';go_simp;try with_reducible rfl
   try simp only [Act.put, sq]
   refine wtk 5 18 (v := ?_) rfl ?_ hS0 ?_
   rotate_left
   ·intro w' hw';(try dsimp only at hw');go_simp;try with_reducible rfl
   try simp only [Act.put, sq]
   refine wfr 6 (v := ?_) rfl ?_ ?_
   rotate_left
   ·intro w' hw';go_simp;try with_reducible rfl
   try simp only [Act.put, sq]
   refine wtk 7 18 (v := ?_) rfl ?_ hS0 ?_
   rotate_left
   ·intro w' hw';(try dsimp only at hw');go_simp;try with_reducible rfl
   try simp only [Act.put, sq]
   refine wfr 8 (v := ?_) rfl ?_ ?_
   rotate_left
   ·intro w' hw';go_simp;try with_reducible rfl
   try simp only [Act.put, sq]
   refine won 9 rfl fun K hK => ?_
   go_simp
   refine hK.out _ _ (fun _ h => h) ?_
   clear hK K
   try simp only [Act.put, sq]
   refine won 10 rfl fun K hK => ?_
   go_simp
   refine hK.out _ _ (fun _ h => h) ?_
   clear hK K
   try simp only [Act.put, sq]
   refine won 11 rfl fun K hK => ?_
   go_simp
   refine hK.out _ _ (fun _ h => h) ?_
   clear hK K
   try simp only [Act.put, sq]
   refine won 12 rfl fun K hK => ?_
   go_simp
   refine hK.out _ _ (fun _ _ => HS.out _ (hB0.alloc (Nat.le_refl _) _)) ?_
   clear hK K
   try simp only [Act.put, sq]
   refine won 13 rfl fun K hK => ?_
   refine step_append_own_at (by rfl) _ _ 45 (by rfl) B 51 i3 (.agg #[.bool false, .int .i64 0, .int .i64 0, .int .i64 0]) 4 32 Tryz.underlying45 hi3 hy0 hy1 hy2 rfl (by decide) eo d.ops.length (d.ops.flatMap opc) (by rfl) (HO3.out.drew.dv.ops.alloc _) ⟨w3.heap.size, 0, none⟩ 1 1 (opc (k == 3, 0, vk, n)) (by rfl) rfl (news_lit _ _ _ _ rfl) (ones_opc _) (by unfold maxLen; omega) (by omega) (by simp; omega) (fun v4 w4 hown4 hgrow4 hat4 => ?_)
   refine hK.out _ _ (fun h => absurd h (by decide)) ?_
   clear hK K
   try simp only [Act.put, sq]
   refine won 14 rfl fun K hK => ?_
   go_simp
   refine hK.out _ _ (fun _ h => h) ?_
   clear hK K
   try simp only [Act.put, sq]
   refine won 15 rfl fun K hK => ?_
   go_simp
   refine hK.out _ _ (fun _ h => h) ?_
   clear hK K
   try simp only [Act.put, sq]
   refine won 16 rfl fun K hK => ?_
   go_simp
   refine hK.out _ _ (fun _ h => h) ?_
   clear hK K
   try simp only [Act.put, sq]
   obtain ⟨p4, c4, rfl⟩ := owns_form hown4
   obtain ⟨hb4, ho4⟩ := MidO.ops HO3.out.drew (k == 3, 0, vk, n) hown4 hgrow4 hat4 hB
   have HO4 := Lib.hid ho4
   have h40 := hb4.cell 5 rfl
   have h4f := hb4.frozen 5
   clear ho4 hown4 hgrow4 hat4
   refine won 17 rfl fun K hK => ?_
   go_simp
   refine hK.out _ _ (fun h => absurd h (by decide)) ?_
   clear hK K
   try simp only [Act.put, sq]
   refine wpAnyM_done (by kernel_rfl) ?_ _
   try simp only [Act.put, sq]
   clear HS hS0 hB0 HO3 h40 h4f hb4
   go_wp2_with fail
   generalize w4.setCell ⟨g, 5, none⟩ (.slice p4 (d.ops.length + 1) c4) = w5 at *
   generalize Value.slice p4 (d.ops.length + 1) c4 = v4 at *
   have HO5 := HO4
   clear HO4
   obtain ⟨i4, hi4, hu0, hu1, hu2⟩ := info_parts info_str
   have hBs5 := Nat.le_trans hB (Nat.le_trans HM2.out.bel.size HO5.out.sz)
   have HS : RowKit.Hid (∀ w', Below w5.heap.size w5 w' → (w'.cell? ⟨gx, 2, none⟩ = some (.string (bs key)) ∧ w'.cell? ⟨g, 1, none⟩ = some (ek) ∧ Below w5.heap.size w5 w')) := Lib.hid (fun w' hb => ⟨cell_later hb (HO5.out.box.cell 2 rfl), cell_later hb (HO5.out.dv.blk.cell 1 rfl), hb⟩)
   refine wp_region_keep (fun w' => w'.cell? ⟨gx, 2, none⟩ = some (.string (bs key)) ∧ w'.cell? ⟨g, 1, none⟩ = some (ek) ∧ Below w5.heap.size w5 w') [8, 11] (by kernel_rfl) ?_
   have hB0 : Below (w5).heap.size (w5) (w5).drew := Below.drew (Below.refl _ _)
   have hS0 := HS.out _ hB0
   refine wfr 0 (v := ?_) rfl ?_ ?_
   rotate_left
   ·intro w' hw';go_simp;try with_reducible rfl
   try simp only [Act.put, sq]
   refine wfr 1 (v := ?_) rfl ?_ ?_
   rotate_left
   ·intro w' hw';go_simp;try with_reducible rfl
   try simp only [Act.put, sq]
   refine wfr 2 (v := ?_) rfl ?_ ?_
   rotate_left
   ·intro w' hw';go_simp;try with_reducible rfl
   try simp only [Act.put, sq]
   refine wfr 3 (v := ?_) rfl ?_ ?_
   rotate_left
   ·intro w' hw';go_simp;try with_reducible rfl
   try simp only [Act.put, sq]
   refine wtk 4 12 (v := ?_) rfl ?_ hS0 ?_
   rotate_left
   ·intro w' hw';(try dsimp only at hw');go_simp;try with_reducible rfl
   try simp only [Act.put, sq]
   refine won 5 rfl fun K hK => ?_
   go_simp
   refine hK.out _ _ (fun _ h => h) ?_
   clear hK K
   try simp only [Act.put, sq]
   refine won 6 rfl fun K hK => ?_
   go_simp
   refine hK.out _ _ (fun _ h => h) ?_
   clear hK K
   try simp only [Act.put, sq]
   refine won 7 rfl fun K hK => ?_
   go_simp
   refine hK.out _ _ (fun _ _ => HS.out _ (hB0.alloc (Nat.le_refl _) _)) ?_
   clear hK K
   try simp only [Act.put, sq]
   refine won 8 rfl fun K hK => ?_
   refine step_append_own_at (by rfl) _ _ 22 (by rfl) B 9 i4 (.string ByteArray.empty) 1 16 Tryz.underlying22 hi4 hu0 hu1 hu2 rfl (by decide) ek d.ks.length (d.ks.flatMap nmc) (by rfl) (HO5.out.drew.dv.ks.alloc _) ⟨w5.heap.size, 0, none⟩ 1 1 (nmc key) (by rfl) rfl (news_lit _ _ _ _ rfl) (ones_nmc _) (by unfold maxLen; omega) (by omega) (by simp; omega) (fun v6 w6 hown6 hgrow6 hat6 => ?_)
   refine hK.out _ _ (fun h => absurd h (by decide)) ?_
   clear hK K
   try simp only [Act.put, sq]
   refine won 9 rfl fun K hK => ?_
   go_simp
   refine hK.out _ _ (fun _ h => h) ?_
   clear hK K
   try simp only [Act.put, sq]
   refine won 10 rfl fun K hK => ?_
   go_simp
   refine hK.out _ _ (fun _ h => h) ?_
   clear hK K
   try simp only [Act.put, sq]
   obtain ⟨p6, c6, rfl⟩ := owns_form hown6
   obtain ⟨hb6, ho6⟩ := MidO.ks HO5.out.drew key hown6 hgrow6 hat6 hB
   have HO6 := Lib.hid ho6
   have h60 := hb6.cell 1 rfl
   have h6f := hb6.frozen 1
   clear ho6 hown6 hgrow6 hat6
   refine won 11 rfl fun K hK => ?_
   go_simp
   refine hK.out _ _ (fun h => absurd h (by decide)) ?_
   clear hK K
   try simp only [Act.put, sq]
   refine wpAnyM_done (by kernel_rfl) ?_ _
   try simp only [Act.put, sq]
   clear HS hS0 hB0 HO5 h60 h6f hb6
   go_wp2_with fail
   go_ret
   rw [HP0.out]
   have hEl := HM2.out.mi.len
   have hna := names_add (s := key) HKN.out HKM.out
   have HO7 := HO6.out
   rw [← he] at HO7
   have hfin : MkI _ B gm _ (N + 1) lv bo bz bk (E.set i (g, .slice p6 (d.ks.length + 1) c6, v4)) := (HO7.done (d := moreD d (k, s, key, vk, n, ln)) i hi HM2.out (by rw [hd]; rfl) (openF_more L E i _ _ hi hEl (by rw [hd]; rfl) (by rw [hd]; rfl) (by rw [he])) hna.1 (fun y => by rw [hna.2, ← hd, keys_more_mem L i _ hi]) (Nat.le_succ N))
   first | exact ⟨_, rfl, hfin, HO7.bel, HO7.ev HM2.out hi⟩ | exact ⟨rfl, ⟨_, hfin⟩, HO7.bel, HO7.ev HM2.out hi⟩
  ·obtain rfl : c = 0 := K2.out.2 hsk
   by_cases hl : ks.length = 40
   ·have dl : ((ks.length : Int) == 40) = true := by simp; omega
    have HP7 := Lib.hid (HP.out.trans (if_pos (Or.inr (HCM.out.1.2 ⟨hsk, hl⟩))))
    clear HP k1
    refine wp_region_keep (fun w' => w'.cell? ⟨g, 5, none⟩ = some (.slice p d.ops.length cp) ∧ w'.cell? ⟨gm, 3, none⟩ = some (.map (some bk)) ∧ w'.cell? ⟨gx, 2, none⟩ = some (.string (bs key)) ∧ (Instr.lookup 132 (.map (some bk)) (.string (bs key)) false).run Tryz.prog w' = .ok (.int .i64 0) w' ∧ (∀ ty, (Builtin.len_ #[132] ty #[.map (some bk)]).run Tryz.prog w' = .ok (.int .i64 ks.length) w') ∧ Below w1.heap.size w1 w') [] (by kernel_rfl) ?_
    have hB0 : Below (w1).heap.size (w1) (w1).drew := Below.drew (Below.refl _ _)
    have hS0 := HS.out _ hB0
    refine won 0 rfl fun K hK => ?_
    go_simp
    refine hK.out _ _ (fun _ h => h) ?_
    clear hK K
    try simp only [Act.put, sq]
    refine won 1 rfl fun K hK => ?_
    go_simp
    refine hK.out _ _ (fun _ h => h) ?_
    clear hK K
    try simp only [Act.put, sq]
    refine won 2 rfl fun K hK => ?_
    go_simp
    refine hK.out _ _ (fun _ h => h) ?_
    clear hK K
    try simp only [Act.put, sq]
    refine won 3 rfl fun K hK => ?_
    go_simp
    refine hK.out _ _ (fun _ h => h) ?_
    clear hK K
    try simp only [Act.put, sq]
    refine won 4 rfl fun K hK => ?_
    go_simp
    refine hK.out _ _ (fun _ h => h) ?_
    clear hK K
    try simp only [Act.put, sq]
    refine won 5 rfl fun K hK => ?_
    go_simp
    refine hK.out _ _ (fun _ h => h) ?_
    clear hK K
    try simp only [Act.put, sq]
    refine won 6 rfl fun K hK => ?_
    go_simp
    refine hK.out _ _ (fun _ h => h) ?_
    clear hK K
    try simp only [Act.put, sq]
    refine won 7 rfl fun K hK => ?_
    go_simp
    refine hK.out _ _ (fun _ h => h) ?_
    clear hK K
    try simp only [Act.put, sq]
    refine wfr 8 (v := ?_) rfl ?_ ?_
    rotate_left
    ·intro w' hw';go_simp;try with_reducible rfl
    try simp only [Act.put, sq]
    refine wfr 9 (v := ?_) rfl ?_ ?_
    rotate_left
    ·intro w' hw';go_simp;try with_reducible rfl
    try simp only [Act.put, sq]
    refine wfr 10 (v := ?_) rfl ?_ ?_
    rotate_left
    ·intro w' hw';go_simp;try with_reducible rfl
    try simp only [Act.put, sq]
    refine wtk 11 25 (v := ?_) rfl ?_ hS0 ?_
    rotate_left
    ·intro w' hw';(try dsimp only at hw');go_simp;try with_reducible rfl
    try simp only [Act.put, sq]
    refine won 12 rfl fun K hK => ?_
    go_simp
    refine hK.out _ _ (fun _ h => h) ?_
    clear hK K
    try simp only [Act.put, sq]
    refine won 13 rfl fun K hK => ?_
    go_simp
    refine hK.out _ _ (fun _ h => h) ?_
    clear hK K
    try simp only [Act.put, sq]
    refine won 14 rfl fun K hK => ?_
    go_simp
    refine hK.out _ _ (fun _ h => h) ?_
    clear hK K
    try simp only [Act.put, sq]
    refine won 15 rfl fun K hK => ?_
    go_simp
    refine hK.out _ _ (fun _ h => h) ?_
    clear hK K
    try simp only [Act.put, sq]
    refine won 16 rfl fun K hK => ?_
    go_simp
    refine hK.out _ _ (fun _ h => h) ?_
    clear hK K
    try simp only [Act.put, sq]
    refine won 17 rfl fun K hK => ?_
    go_simp
    refine hK.out _ _ (fun _ h => h) ?_
    clear hK K
    try simp only [Act.put, sq]
    refine won 18 rfl fun K hK => ?_
    go_simp
    refine hK.out _ _ (fun _ h => h) ?_
    clear hK K
    try simp only [Act.put, sq]
    refine won 19 rfl fun K hK => ?_
    go_simp
    refine hK.out _ _ (fun _ h => h) ?_
    clear hK K
    try simp only [Act.put, sq]
    refine won 20 rfl fun K hK => ?_
    go_simp
    refine hK.out _ _ (fun _ h => h) ?_
    clear hK K
    try simp only [Act.put, sq]
    refine won 21 rfl fun K hK => ?_
    go_simp
    refine hK.out _ _ (fun _ h => h) ?_
    clear hK K
    try simp only [Act.put, sq]
    refine won 22 rfl fun K hK => ?_
    go_simp
    refine hK.out _ _ (fun _ h => h) ?_
    clear hK K
    try simp only [Act.put, sq]
    refine won 23 rfl fun K hK => ?_
    go_simp
    refine hK.out _ _ (fun _ h => h) ?_
    clear hK K
    try simp only [Act.put, sq]
    refine won 24 rfl fun K hK => ?_
    go_simp
    refine hK.out _ _ (fun _ h => h) ?_
    clear hK K
    try simp only [Act.put, sq]
    refine wpAnyM_done (by kernel_rfl) ?_ _
    try simp only [Act.put, sq]
    go_wp2_with fail
    go_ret
    have h9 := HM0.out.below hB0
    rw [HP7.out]
    first | exact ⟨_, rfl, h9.mi.mono (Nat.le_succ _), h9.bel.mono hB, EvKeep.below h9.bel⟩ | exact ⟨rfl, ⟨_, h9.mi.mono (Nat.le_succ _)⟩, h9.bel.mono hB, EvKeep.below h9.bel⟩
   ·have dl : ((ks.length : Int) == 40) = false := by simp; omega
    have HP0 := Lib.hid (HP.out.trans (if_neg (fun g => g.elim (fun g => hE g) (fun g => hl (HCM.out.1.1 g).2))))
    clear HP
    refine wp_region_keep (fun w' => w'.cell? ⟨g, 5, none⟩ = some (.slice p d.ops.length cp) ∧ w'.cell? ⟨gm, 3, none⟩ = some (.map (some bk)) ∧ w'.cell? ⟨gx, 2, none⟩ = some (.string (bs key)) ∧ (Instr.lookup 132 (.map (some bk)) (.string (bs key)) false).run Tryz.prog w' = .ok (.int .i64 0) w' ∧ (∀ ty, (Builtin.len_ #[132] ty #[.map (some bk)]).run Tryz.prog w' = .ok (.int .i64 ks.length) w') ∧ Below w1.heap.size w1 w') [] (by kernel_rfl) ?_
    have hB0 : Below (w1).heap.size (w1) (w1).drew := Below.drew (Below.refl _ _)
    have hS0 := HS.out _ hB0
    refine won 0 rfl fun K hK => ?_
    go_simp
    refine hK.out _ _ (fun _ h => h) ?_
    clear hK K
    try simp only [Act.put, sq]
    refine won 1 rfl fun K hK => ?_
    go_simp
    refine hK.out _ _ (fun _ h => h) ?_
    clear hK K
    try simp only [Act.put, sq]
    refine won 2 rfl fun K hK => ?_
    go_simp
    refine hK.out _ _ (fun _ h => h) ?_
    clear hK K
    try simp only [Act.put, sq]
    refine won 3 rfl fun K hK => ?_
    go_simp
    refine hK.out _ _ (fun _ h => h) ?_
    clear hK K
    try simp only [Act.put, sq]
    refine won 4 rfl fun K hK => ?_
    go_simp
    refine hK.out _ _ (fun _ h => h) ?_
    clear hK K
    try simp only [Act.put, sq]
    refine won 5 rfl fun K hK => ?_
    go_simp
    refine hK.out _ _ (fun _ h => h) ?_
    clear hK K
    try simp only [Act.put, sq]
    refine won 6 rfl fun K hK => ?_
    go_simp
    refine hK.out _ _ (fun _ h => h) ?_
    clear hK K
    try simp only [Act.put, sq]
    refine won 7 rfl fun K hK => ?_
    go_simp
    refine hK.out _ _ (fun _ h => h) ?_
    clear hK K
    try simp only [Act.put, sq]
    refine wfr 8 (v := ?_) rfl ?_ ?_
    rotate_left
    ·intro w' hw';go_simp;try with_reducible rfl
    try simp only [Act.put, sq]
    refine wfr 9 (v := ?_) rfl ?_ ?_
    rotate_left
    ·intro w' hw';go_simp;try with_reducible rfl
    try simp only [Act.put, sq]
    refine wfr 10 (v := ?_) rfl ?_ ?_
    rotate_left
    ·intro w' hw';go_simp;try with_reducible rfl
    try simp only [Act.put, sq]
    refine wtk 11 25 (v := ?_) rfl ?_ hS0 ?_
    rotate_left
    ·intro w' hw';(try dsimp only at hw');go_simp;try with_reducible rfl
    try simp only [Act.put, sq]
    refine won 12 rfl fun K hK => ?_
    go_simp
    refine hK.out _ _ (fun _ h => h) ?_
    clear hK K
    try simp only [Act.put, sq]
    refine won 13 rfl fun K hK => ?_
    go_simp
    refine hK.out _ _ (fun _ h => h) ?_
    clear hK K
    try simp only [Act.put, sq]
    refine won 14 rfl fun K hK => ?_
    go_simp
    refine hK.out _ _ (fun _ h => h) ?_
    clear hK K
    try simp only [Act.put, sq]
    refine won 15 rfl fun K hK => ?_
    go_simp
    refine hK.out _ _ (fun _ h => h) ?_
    clear hK K
    try simp only [Act.put, sq]
    refine won 16 rfl fun K hK => ?_
    go_simp
    refine hK.out _ _ (fun _ h => h) ?_
    clear hK K
    try simp only [Act.put, sq]
    refine won 17 rfl fun K hK => ?_
    go_simp
    refine hK.out _ _ (fun _ h => h) ?_
    clear hK K
    try simp only [Act.put, sq]
    refine won 18 rfl fun K hK => ?_
    go_simp
    refine hK.out _ _ (fun _ h => h) ?_
    clear hK K
    try simp only [Act.put, sq]
    refine won 19 rfl fun K hK => ?_
    go_simp
    refine hK.out _ _ (fun _ h => h) ?_
    clear hK K
    try simp only [Act.put, sq]
    refine won 20 rfl fun K hK => ?_
    go_simp
    refine hK.out _ _ (fun _ h => h) ?_
    clear hK K
    try simp only [Act.put, sq]
    refine won 21 rfl fun K hK => ?_
    go_simp
    refine hK.out _ _ (fun _ h => h) ?_
    clear hK K
    try simp only [Act.put, sq]
    refine won 22 rfl fun K hK => ?_
    go_simp
    refine hK.out _ _ (fun _ h => h) ?_
    clear hK K
    try simp only [Act.put, sq]
    refine won 23 rfl fun K hK => ?_
    go_simp
    refine hK.out _ _ (fun _ h => h) ?_
    clear hK K
    try simp only [Act.put, sq]
    refine won 24 rfl fun K hK => ?_
    go_simp
    refine hK.out _ _ (fun _ h => h) ?_
    clear hK K
    try simp only [Act.put, sq]
    refine wpAnyM_done (by kernel_rfl) ?_ _
    try simp only [Act.put, sq]
    have HM2 := Lib.hid (HM0.out.below hB0)
    have HO2' := MidO.start HM2.out hB i hi (kl := ks) (HC1.out.at (hB0.block _ HC1.out.lt))
    rw [hd, he] at HO2'
    have HO2 := Lib.hid HO2'
    have K1 := Lib.hid (fun w' (e : w'.heap[bk]? = w1.drew.heap[bk]?) => k1 w' e)
    clear k1 hS0 HM0 HS hB0 HO2' HD HC1
    generalize w1.drew = w2 at *
    have hBg := HM2.out.mi.base
    have hmp := HM2.out.mi.maps
    go_wp2_with fail
    obtain ⟨-, w3, e3, c3, t3⟩ := K1.out w2.drew rfl
    have HO3 := Lib.hid (HO2.out.drew.turnK t3 c3 hB hBg.2.2.2 hmp.2.1)
    have E3 := Lib.hid e3
    have hwrap : IntKind.i64.wrap (0 + 1) = 0 + 1 := by rw [IntKind.wrap_i64]; omega
    try simp only [Int.zero_add] at hwrap
    have HS : RowKit.Hid (∀ w', Below w2.heap.size w2 w' → (w'.cell? ⟨gm, 3, none⟩ = some (.map (some bk)) ∧ w'.cell? ⟨gx, 2, none⟩ = some (.string (bs key)) ∧ (Instr.lookup 132 (.map (some bk)) (.string (bs key)) false).run Tryz.prog w' = .ok (.int .i64 0) w' ∧ Below w2.heap.size w2 w')) := Lib.hid (fun w' hb => ⟨cell_later hb (HM2.out.mi.bx.cell 3 rfl), cell_later hb (HM2.out.box.cell 2 rfl), (K1.out w' (hb.block _ HO2.out.cnt.lt)).1, hb⟩)
    clear e3 c3 t3
    refine wp_region_keep (fun w' => w'.cell? ⟨gm, 3, none⟩ = some (.map (some bk)) ∧ w'.cell? ⟨gx, 2, none⟩ = some (.string (bs key)) ∧ (Instr.lookup 132 (.map (some bk)) (.string (bs key)) false).run Tryz.prog w' = .ok (.int .i64 0) w' ∧ Below w2.heap.size w2 w') [8] (by kernel_rfl) ?_
    have hB0 : Below (w2).heap.size (w2) (w2).drew := Below.drew (Below.refl _ _)
    have hS0 := HS.out _ hB0
    refine wfr 0 (v := ?_) rfl ?_ ?_
    rotate_left
    ·intro w' hw';go_simp;try with_reducible rfl
    try simp only [Act.put, sq]
    refine wfr 1 (v := ?_) rfl ?_ ?_
    rotate_left
    ·intro w' hw';go_simp;try with_reducible rfl
    try simp only [Act.put, sq]
    refine wfr 2 (v := ?_) rfl ?_ ?_
    rotate_left
    ·intro w' hw';go_simp;try with_reducible rfl
    try simp only [Act.put, sq]
    refine wtk 3 9 (v := ?_) rfl ?_ hS0 ?_
    rotate_left
    ·intro w' hw';(try dsimp only at hw');go_simp;try with_reducible rfl
    try simp only [Act.put, sq]
    refine won 4 rfl fun K hK => ?_
    go_simp
    refine hK.out _ _ (fun _ h => h) ?_
    clear hK K
    try simp only [Act.put, sq]
    refine won 5 rfl fun K hK => ?_
    go_simp
    refine hK.out _ _ (fun _ h => h) ?_
    clear hK K
    try simp only [Act.put, sq]
    refine won 6 rfl fun K hK => ?_
    go_simp
    refine hK.out _ _ (fun _ h => h) ?_
    clear hK K
    try simp only [Act.put, sq]
    refine won 7 rfl fun K hK => ?_
    go_simp
    refine hK.out _ _ (fun _ h => h) ?_
    clear hK K
    try simp only [Act.put, sq]
    have e3 := E3.out
    try simp only [Int.zero_add] at e3
    refine won 8 rfl fun K hK => ?_
    go_simp
    refine hK.out _ _ (fun h => absurd h (by decide)) ?_
    clear hK K
    try simp only [Act.put, sq]
    refine wpAnyM_done (by kernel_rfl) ?_ _
    try simp only [Act.put, sq]
    clear HS hS0 hB0 E3 e3 K1
    go_wp2_with fail
    obtain ⟨i3, hi3, hy0, hy1, hy2⟩ := info_parts info_pop
    have hBs := Nat.le_trans hB (Nat.le_trans HM2.out.bel.size HO3.out.sz)
    have HS : RowKit.Hid (∀ w', Below w3.heap.size w3 w' → (w'.cell? ⟨gx, 0, none⟩ = some (.int .i64 k) ∧ w'.cell? ⟨gx, 3, none⟩ = some (.int .i64 vk) ∧ w'.cell? ⟨gx, 4, none⟩ = some (.int .i64 n) ∧ w'.cell? ⟨g, 5, none⟩ = some (eo) ∧ Below w3.heap.size w3 w')) := Lib.hid (fun w' hb => ⟨cell_later hb (HO3.out.box.cell 0 rfl), cell_later hb (HO3.out.box.cell 3 rfl), cell_later hb (HO3.out.box.cell 4 rfl), cell_later hb (HO3.out.dv.blk.cell 5 rfl), hb⟩)
    refine wp_region_keep (fun w' => w'.cell? ⟨gx, 0, none⟩ = some (.int .i64 k) ∧ w'.cell? ⟨gx, 3, none⟩ = some (.int .i64 vk) ∧ w'.cell? ⟨gx, 4, none⟩ = some (.int .i64 n) ∧ w'.cell? ⟨g, 5, none⟩ = some (eo) ∧ Below w3.heap.size w3 w') [13, 17] (by kernel_rfl) ?_
    have hB0 : Below (w3).heap.size (w3) (w3).drew := Below.drew (Below.refl _ _)
    have hS0 := HS.out _ hB0
    refine wfr 0 (v := ?_) rfl ?_ ?_
    rotate_left
    ·intro w' hw';go_simp;try with_reducible rfl
    try simp only [Act.put, sq]
    refine wfr 1 (v := ?_) rfl ?_ ?_
    rotate_left
    ·intro w' hw';go_simp;try with_reducible rfl
    try simp only [Act.put, sq]
    refine wfr 2 (v := ?_) rfl ?_ ?_
    rotate_left
    ·intro w' hw';go_simp;try with_reducible rfl
    try simp only [Act.put, sq]
    refine wfr 3 (v := ?_) rfl ?_ ?_
    rotate_left
    ·intro w' hw';go_simp;try with_reducible rfl
    try simp only [Act.put, sq]
    refine wfr 4 (v := ?_) rfl ?_ ?_
    rotate_left
    ·intro w' hw';go_simp;try with_reducible rfl
    try simp only [Act.put, sq]
    refine wtk 5 18 (v := ?_) rfl ?_ hS0 ?_
    rotate_left
    ·intro w' hw';(try dsimp only at hw');go_simp;try with_reducible rfl
    try simp only [Act.put, sq]
    refine wfr 6 (v := ?_) rfl ?_ ?_
    rotate_left
    ·intro w' hw';go_simp;try with_reducible rfl
    try simp only [Act.put, sq]
    refine wtk 7 18 (v := ?_) rfl ?_ hS0 ?_
    rotate_left
    ·intro w' hw';(try dsimp only at hw');go_simp;try with_reducible rfl
    try simp only [Act.put, sq]
    refine wfr 8 (v := ?_) rfl ?_ ?_
    rotate_left
    ·intro w' hw';go_simp;try with_reducible rfl
    try simp only [Act.put, sq]
    refine won 9 rfl fun K hK => ?_
    go_simp
    refine hK.out _ _ (fun _ h => h) ?_
    clear hK K
    try simp only [Act.put, sq]
    refine won 10 rfl fun K hK => ?_
    go_simp
    refine hK.out _ _ (fun _ h => h) ?_
    clear hK K
    try simp only [Act.put, sq]
    refine won 11 rfl fun K hK => ?_
    go_simp
    refine hK.out _ _ (fun _ h => h) ?_
    clear hK K
    try simp only [Act.put, sq]
    refine won 12 rfl fun K hK => ?_
    go_simp
    refine hK.out _ _ (fun _ _ => HS.out _ (hB0.alloc (Nat.le_refl _) _)) ?_
    clear hK K
    try simp only [Act.put, sq]
    refine won 13 rfl fun K hK => ?_
    refine step_append_own_at (by rfl) _ _ 45 (by rfl) B 51 i3 (.agg #[.bool false, .int .i64 0, .int .i64 0, .int .i64 0]) 4 32 Tryz.underlying45 hi3 hy0 hy1 hy2 rfl (by decide) eo d.ops.length (d.ops.flatMap opc) (by rfl) (HO3.out.drew.dv.ops.alloc _) ⟨w3.heap.size, 0, none⟩ 1 1 (opc (k == 3, 0, vk, n)) (by rfl) rfl (news_lit _ _ _ _ rfl) (ones_opc _) (by unfold maxLen; omega) (by omega) (by simp; omega) (fun v4 w4 hown4 hgrow4 hat4 => ?_)
    refine hK.out _ _ (fun h => absurd h (by decide)) ?_
    clear hK K
    try simp only [Act.put, sq]
    refine won 14 rfl fun K hK => ?_
    go_simp
    refine hK.out _ _ (fun _ h => h) ?_
    clear hK K
    try simp only [Act.put, sq]
    refine won 15 rfl fun K hK => ?_
    go_simp
    refine hK.out _ _ (fun _ h => h) ?_
    clear hK K
    try simp only [Act.put, sq]
    refine won 16 rfl fun K hK => ?_
    go_simp
    refine hK.out _ _ (fun _ h => h) ?_
    clear hK K
    try simp only [Act.put, sq]
    obtain ⟨p4, c4, rfl⟩ := owns_form hown4
    obtain ⟨hb4, ho4⟩ := MidO.ops HO3.out.drew (k == 3, 0, vk, n) hown4 hgrow4 hat4 hB
    have HO4 := Lib.hid ho4
    have h40 := hb4.cell 5 rfl
    have h4f := hb4.frozen 5
    clear ho4 hown4 hgrow4 hat4
    refine won 17 rfl fun K hK => ?_
    go_simp
    refine hK.out _ _ (fun h => absurd h (by decide)) ?_
    clear hK K
    try simp only [Act.put, sq]
    refine wpAnyM_done (by kernel_rfl) ?_ _
    try simp only [Act.put, sq]
    clear HS hS0 hB0 HO3 h40 h4f hb4
    go_wp2_with fail
    generalize w4.setCell ⟨g, 5, none⟩ (.slice p4 (d.ops.length + 1) c4) = w5 at *
    generalize Value.slice p4 (d.ops.length + 1) c4 = v4 at *
    have HO5 := HO4
    clear HO4
    obtain ⟨i4, hi4, hu0, hu1, hu2⟩ := info_parts info_str
    have hBs5 := Nat.le_trans hB (Nat.le_trans HM2.out.bel.size HO5.out.sz)
    have HS : RowKit.Hid (∀ w', Below w5.heap.size w5 w' → (w'.cell? ⟨gx, 2, none⟩ = some (.string (bs key)) ∧ w'.cell? ⟨g, 1, none⟩ = some (ek) ∧ Below w5.heap.size w5 w')) := Lib.hid (fun w' hb => ⟨cell_later hb (HO5.out.box.cell 2 rfl), cell_later hb (HO5.out.dv.blk.cell 1 rfl), hb⟩)
    refine wp_region_keep (fun w' => w'.cell? ⟨gx, 2, none⟩ = some (.string (bs key)) ∧ w'.cell? ⟨g, 1, none⟩ = some (ek) ∧ Below w5.heap.size w5 w') [8, 11] (by kernel_rfl) ?_
    have hB0 : Below (w5).heap.size (w5) (w5).drew := Below.drew (Below.refl _ _)
    have hS0 := HS.out _ hB0
    refine wfr 0 (v := ?_) rfl ?_ ?_
    rotate_left
    ·intro w' hw';go_simp;try with_reducible rfl
    try simp only [Act.put, sq]
    refine wfr 1 (v := ?_) rfl ?_ ?_
    rotate_left
    ·intro w' hw';go_simp;try with_reducible rfl
    try simp only [Act.put, sq]
    refine wfr 2 (v := ?_) rfl ?_ ?_
    rotate_left
    ·intro w' hw';go_simp;try with_reducible rfl
    try simp only [Act.put, sq]
    refine wfr 3 (v := ?_) rfl ?_ ?_
    rotate_left
    ·intro w' hw';go_simp;try with_reducible rfl
    try simp only [Act.put, sq]
    refine wtk 4 12 (v := ?_) rfl ?_ hS0 ?_
    rotate_left
    ·intro w' hw';(try dsimp only at hw');go_simp;try with_reducible rfl
    try simp only [Act.put, sq]
    refine won 5 rfl fun K hK => ?_
    go_simp
    refine hK.out _ _ (fun _ h => h) ?_
    clear hK K
    try simp only [Act.put, sq]
    refine won 6 rfl fun K hK => ?_
    go_simp
    refine hK.out _ _ (fun _ h => h) ?_
    clear hK K
    try simp only [Act.put, sq]
    refine won 7 rfl fun K hK => ?_
    go_simp
    refine hK.out _ _ (fun _ _ => HS.out _ (hB0.alloc (Nat.le_refl _) _)) ?_
    clear hK K
    try simp only [Act.put, sq]
    refine won 8 rfl fun K hK => ?_
    refine step_append_own_at (by rfl) _ _ 22 (by rfl) B 9 i4 (.string ByteArray.empty) 1 16 Tryz.underlying22 hi4 hu0 hu1 hu2 rfl (by decide) ek d.ks.length (d.ks.flatMap nmc) (by rfl) (HO5.out.drew.dv.ks.alloc _) ⟨w5.heap.size, 0, none⟩ 1 1 (nmc key) (by rfl) rfl (news_lit _ _ _ _ rfl) (ones_nmc _) (by unfold maxLen; omega) (by omega) (by simp; omega) (fun v6 w6 hown6 hgrow6 hat6 => ?_)
    refine hK.out _ _ (fun h => absurd h (by decide)) ?_
    clear hK K
    try simp only [Act.put, sq]
    refine won 9 rfl fun K hK => ?_
    go_simp
    refine hK.out _ _ (fun _ h => h) ?_
    clear hK K
    try simp only [Act.put, sq]
    refine won 10 rfl fun K hK => ?_
    go_simp
    refine hK.out _ _ (fun _ h => h) ?_
    clear hK K
    try simp only [Act.put, sq]
    obtain ⟨p6, c6, rfl⟩ := owns_form hown6
    obtain ⟨hb6, ho6⟩ := MidO.ks HO5.out.drew key hown6 hgrow6 hat6 hB
    have HO6 := Lib.hid ho6
    have h60 := hb6.cell 1 rfl
    have h6f := hb6.frozen 1
    clear ho6 hown6 hgrow6 hat6
    refine won 11 rfl fun K hK => ?_
    go_simp
    refine hK.out _ _ (fun h => absurd h (by decide)) ?_
    clear hK K
    try simp only [Act.put, sq]
    refine wpAnyM_done (by kernel_rfl) ?_ _
    try simp only [Act.put, sq]
    clear HS hS0 hB0 HO5 h60 h6f hb6
    go_wp2_with fail
    go_ret
    rw [HP0.out]
    have hEl := HM2.out.mi.len
    have hna := names_add (s := key) HKN.out HKM.out
    have HO7 := HO6.out
    rw [← he] at HO7
    have hfin : MkI _ B gm _ (N + 1) lv bo bz bk (E.set i (g, .slice p6 (d.ks.length + 1) c6, v4)) := (HO7.done (d := moreD d (k, s, key, vk, n, ln)) i hi HM2.out (by rw [hd]; rfl) (openF_more L E i _ _ hi hEl (by rw [hd]; rfl) (by rw [hd]; rfl) (by rw [he])) hna.1 (fun y => by rw [hna.2, ← hd, keys_more_mem L i _ hi]) (Nat.le_succ N))
    first | exact ⟨_, rfl, hfin, HO7.bel, HO7.ev HM2.out hi⟩ | exact ⟨rfl, ⟨_, hfin⟩, HO7.bel, HO7.ev HM2.out hi⟩
end Go.Proofs.YtmgchjddpmmglaaGreatDoor
