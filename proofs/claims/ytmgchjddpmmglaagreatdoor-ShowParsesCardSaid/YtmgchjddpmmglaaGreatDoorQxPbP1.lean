/-
  Layer 10 (pair), the document's answer: put, walked: a transaction begun. No conditions.
-/
import Derived.Test.YtmgchjddpmmglaaGreatDoorQSc
namespace Go.Proofs.YtmgchjddpmmglaaGreatDoor
open Go.RowKit Go.Lib Go.Maps
theorem info_ptx' : (Tryz.prog.info? 47).map (fun i => (i.zero, i.size, i.bytes)) = some (some (.agg #[.int .i64 0, .int .i64 0, .slice none 0 0]), 3, 40) := by kernel_rfl
theorem info_strs : (Tryz.prog.info? 22).map (fun i => (i.zero, i.size, i.bytes)) = some (some (.slice none 0 0), 1, 24) := by kernel_rfl
theorem info_bool' : (Tryz.prog.info? 4).map (fun i => (i.zero, i.size, i.bytes)) = some (some (.bool false), 1, 1) := by kernel_rfl
theorem ones_new : ∀ u ∈ ([.int .i64 0, .int .i64 0, .slice none 0 0] : List Value), u.oneCell' = true := by
 intro u hu
 simp at hu
 rcases hu with h | h <;> subst h <;> rfl
theorem of_all {i : Nat} {l : List Nat} (p : Nat → Bool) (h : l.all p = true) (hi : i ∈ l) : p i = true := List.all_eq_true.1 h i hi
theorem r10_drew {w : World} {B gm : Nat} {L : List DraftM} {E : List EntR} {s : List UInt8} {ln : Int} {vT oN oK oL oO vN vK vL vO t1 t2 t3 t4 : Value} {s1 s2 s3 s4 nT : Nat} {xT : List Value} (h : R10 w B gm L E s ln nT xT vT oN oK oL oO s1 s2 s3 s4 vN vK vL vO t1 t2 t3 t4) : R10 w.drew B gm L E s ln nT xT vT oN oK oL oO s1 s2 s3 s4 vN vK vL vO t1 t2 t3 t4 :=
 ⟨h.bx, h.rT, h.a1, h.b1, h.c1, h.a2, h.b2, h.c2, h.a3, h.b3, h.c3, h.a4, h.b4, h.c4, h.ops, h.ks, h.n1, h.n2⟩
set_option maxRecDepth 100000 in
set_option maxHeartbeats 8000000 in
theorem rput10_k1 {w : World} {B gm : Nat} {L : List DraftM} {vT vN vK vL vO : Value} {E : List EntR} (k vk n ln : Int) (s key : List UInt8) (h : WI w B gm L vT vN vK vL vO E) (hG : GoodL L) (hs : s.length ≤ 1000000) (hkey : key.length ≤ 1000000) (hB : B ≤ w.heap.size) (hmb : mayE (k, s, key, vk, n, ln) = true) (hk : k = 1) :
  Calls Tryz.prog 167 #[.pointer (some ⟨gm, 0, none⟩), .agg #[.int .i64 k, .string (bs s), .string (bs key), .int .i64 vk, .int .i64 n, .int .i64 ln]] w fun e w' => ∃ vT' vN' vK' vL' vO' E', e = .returned (.int .i64 (putP L (k, s, key, vk, n, ln)).2) ∧ WI w' B gm (putP L (k, s, key, vk, n, ln)).1 vT' vN' vK' vL' vO' E' ∧ Below B w w' := by
 have H1 := Lib.hid (fun w' => remay_any k s key vk n ln hs hkey w')
 rw [hmb] at H1
 have HK := Lib.hid hk
 clear hk
 have hA1 := (Below.refl w.heap.size w).alloc (Nat.le_refl _) (.cells #[.int .i64 k, .string (bs s), .string (bs key), .int .i64 vk, .int .i64 n, .int .i64 ln] 123)
 have HM1 := Lib.hid (show StR w (w.alloc (.cells #[.int .i64 k, .string (bs s), .string (bs key), .int .i64 vk, .int .i64 n, .int .i64 ln] 123)) B gm w.heap.size L vT vN vK vL vO E (k, s, key, vk, n, ln) from
  ⟨h.below hA1, Blk.new w _ [.int .i64 k, .string (bs s), .string (bs key), .int .i64 vk, .int .i64 n, .int .i64 ln], hA1⟩)
 clear h hA1
 go_enter Tryz.func167, Tryz.ntmps167
 go_wp2_with fail
 refine (H1.out _).mono ?_
 rintro e w2 ⟨rfl, hb2⟩
 have HM2 := Lib.hid (HM1.out.below hb2)
 clear HM1 H1 hb2
 obtain ⟨gx, hgx⟩ : ∃ g, w.heap.size = g := ⟨_, rfl⟩
 rw [hgx] at HM2
 try simp only [hgx]
 have hx0 := HM2.out.box.cell 0 rfl
 have hx1 := HM2.out.box.cell 1 rfl
 have hx2 := HM2.out.box.cell 2 rfl
 have hx3 := HM2.out.box.cell 3 rfl
 have hx4 := HM2.out.box.cell 4 rfl
 have hx5 := HM2.out.box.cell 5 rfl
 have hk := HK.out
 clear HK
 subst hk
 have HAt := Lib.hid (rat10_any s HM2.out.wi (by have := hG.few; omega))
 go_wp2_with fail
 refine HAt.out.mono ?_
 rintro e w9 ⟨rfl, hw9⟩
 rw [hw9]
 clear hw9
 by_cases hA : atD L s < L.length
 ·have e9 : atI L s = (atD L s : Nat) := if_pos hA
  rw [e9]
  clear e9
  have hP : putP L (1, s, key, vk, n, ln) = (L, 9) := by
   unfold putP
   rw [if_neg (by rw [hmb]; decide), if_pos rfl, if_pos hA]
  have h0 : (0 : Int) ≤ ((atD L s : Nat) : Int) := by omega
  go_wp2_with fail
  go_ret
  try rw [hP]
  first | exact ⟨_, _, _, _, _, _, rfl, HM2.out.wi, HM2.out.bel.mono hB⟩ | exact ⟨rfl, ⟨_, _, _, _, _, _, HM2.out.wi⟩, HM2.out.bel.mono hB⟩
 ·have e9 : atI L s = -1 := if_neg hA
  rw [e9]
  clear e9
  have hrN := HM2.out.wi.rN
  rw [nmd_strs] at hrN
  obtain ⟨pT, cT, eT⟩ := owns_form HM2.out.wi.rT
  subst eT
  have hLf := hG.few
  obtain ⟨R, hR⟩ : ∃ R, sortedN (namesD L ++ [s]) = R := ⟨_, rfl⟩
  have hP : putP L (1, s, key, vk, n, ln) = if 20 < R.length ∨ L.length = 40 then (L, 7) else (L ++ [⟨s, [], ln, 0, [], true⟩], 0) := by
   unfold putP
   rw [if_neg (by rw [hmb]; decide), if_pos rfl, if_neg hA]
   dsimp only
   rw [hR]
  have HP := Lib.hid hP
  have HKs : RowKit.Hid (∀ x ∈ namesD L ++ [s], x.length ≤ 1000000) := Lib.hid (fun x hx => (List.mem_append.1 hx).elim (fun h => name_len x (names_good hG x h)) (fun h => by rw [List.mem_singleton.1 h]; exact hs))
  have HS : RowKit.Hid (∀ w', Below w2.heap.size w2 w' → (w'.cell? ⟨gm, 3, none⟩ = some (vN) ∧ w'.cell? ⟨gm, 2, none⟩ = some (.slice pT L.length cT) ∧ w'.cell? ⟨gx, 1, none⟩ = some (.string (bs s)) ∧ Below w2.heap.size w2 w')) := Lib.hid (fun w' hb => ⟨cell_later hb (HM2.out.wi.bx.cell 3 rfl), cell_later hb (HM2.out.wi.bx.cell 2 rfl), cell_later hb (HM2.out.box.cell 1 rfl), hb⟩)
  clear hP
  go_upto_region 7 with fail
  go_cut [39] from 18 to 39 (fun s39 wx => s39 = .bool (decide (20 < R.length ∨ L.length = 40)) ∧ Below w2.heap.size w2 wx)
  case first =>
   clear hx0 hx1 hx2 hx3 hx4 hx5
   by_cases h20 : 20 < R.length
   ·have HBad : RowKit.Hid (decide (20 < R.length ∨ L.length = 40) = true) := Lib.hid (decide_eq_true (.inl h20))
    have d20 : (20 : Int) < (R.length : Int) := by omega
    clear h20
    refine wp_region_keep (fun w' => w'.cell? ⟨gm, 3, none⟩ = some (vN) ∧ w'.cell? ⟨gm, 2, none⟩ = some (.slice pT L.length cT) ∧ w'.cell? ⟨gx, 1, none⟩ = some (.string (bs s)) ∧ Below w2.heap.size w2 w') [] (by kernel_rfl) ?_
    have hB0 : Below (w2).heap.size (w2) (w2).drew := Below.drew (Below.refl _ _)
    obtain ⟨wd, hwd⟩ : ∃ q, (w2).drew = q := ⟨_, rfl⟩
    rw [hwd] at hB0 ⊢
    have HZ0 : RowKit.Hid (wd.heap.size = (w2).heap.size) := Lib.hid (by rw [← hwd]; rfl)
    clear hwd
    refine wfr 1 (v := ?_) rfl ?_ ?_
    rotate_left
    ·intro w' hw';go_simp;try with_reducible rfl
    try simp only [Act.put, sq0, sq1, sq2]
    refine wfr 2 (v := ?_) rfl ?_ ?_
    rotate_left
    ·intro w' hw';go_simp;try with_reducible rfl
    try simp only [Act.put, sq0, sq1, sq2]
    refine wfr 3 (v := ?_) rfl ?_ ?_
    rotate_left
    ·intro w' hw';go_simp;try with_reducible rfl
    try simp only [Act.put, sq0, sq1, sq2]
    refine wtk 4 22 (v := ?_) rfl ?_ (HS.out _ hB0) ?_
    rotate_left
    ·intro w' hw';(try dsimp only at hw');go_simp;try with_reducible rfl
    try simp only [Act.put, sq0, sq1, sq2]
    refine wfr 6 (v := ?_) rfl ?_ ?_
    rotate_left
    ·intro w' hw';go_simp;try with_reducible rfl
    try simp only [Act.put, sq0, sq1, sq2]
    refine wtk 7 22 (v := ?_) rfl ?_ (HS.out _ hB0) ?_
    rotate_left
    ·intro w' hw';(try dsimp only at hw');go_simp;try with_reducible rfl
    try simp only [Act.put, sq0, sq1, sq2]
    refine wpAnyM_two 0 8 rfl rfl (by kernel_rfl) (fun K hK => ?_) (fun K hK => ?_)
    ·go_simp
     have hBa := hB0.alloc hB0.size (.cells #[] 9)
     have hown0 := own_empty (heap_alloc_new (wd) (.cells #[] 9)) hB0.size
     have hlt0 : (wd).heap.size < ((wd).alloc (.cells #[] 9)).heap.size := by simp
     refine hK.out _ _ (fun _ _ => HS.out _ hBa) ?_
     clear hK K
     try simp only [Act.put, sq0, sq1, sq2]
     obtain ⟨wa, hwa⟩ : ∃ q, (wd).alloc (.cells #[] 9) = q := ⟨_, rfl⟩
     rw [hwa] at hBa hown0 hlt0
     try simp only [hwa]
     obtain ⟨g0, hg0⟩ : ∃ q, (wd).heap.size = q := ⟨_, rfl⟩
     rw [hg0] at hown0 hlt0
     try simp only [hg0]
     clear hwa
     refine wpAnyM_two 5 8 rfl rfl (by kernel_rfl) (fun K hK => ?_) (fun K hK => ?_)
     ·refine step_append_row (by rfl) _ _ (by rfl) w2.heap.size B (.slice (some ⟨g0, 0, none⟩) 0 0) 0 L.length [] (namesD L) (by rfl) hown0 vN (by rfl) (owns_later hrN hBa) (by omega) hBa.size (fun v5 w5 hown5 hg5 hat5 => ?_)
      have hB5 := hBa.grown hg5 hBa.size (fun q hq => (hown0.lt q hq).1)
      refine hK.out _ _ (fun _ _ => HS.out _ hB5) ?_
      clear hK K
      try simp only [Act.put, sq0, sq1, sq2]
      refine won 8 rfl fun K hK => ?_
      go_simp
      have hBb := hB5.alloc hB5.size (.cells #[.string (bs s)] 9)
      have HTmp := Lib.hid (Blk.new (w5) 9 [.string (bs s)])
      have hlt8 : (w5).heap.size < ((w5).alloc (.cells #[.string (bs s)] 9)).heap.size := by simp
      replace hown5 := hown5.alloc (.cells #[.string (bs s)] 9)
      refine hK.out _ _ (fun _ _ => HS.out _ hBb) ?_
      clear hK K
      try simp only [Act.put, sq0, sq1, sq2]
      obtain ⟨wb, hwb⟩ : ∃ q, (w5).alloc (.cells #[.string (bs s)] 9) = q := ⟨_, rfl⟩
      rw [hwb] at hBb HTmp hlt8 hown5
      try simp only [hwb]
      obtain ⟨g8, hg8⟩ : ∃ q, (w5).heap.size = q := ⟨_, rfl⟩
      rw [hg8] at HTmp hlt8
      try simp only [hg8]
      clear hwb
      refine won 9 rfl fun K hK => ?_
      refine step_append_row_one (by rfl) _ _ (by rfl) w2.heap.size v5 (0 + L.length) ([] ++ strs (namesD L)) (by rfl) hown5 g8 1 (.string (bs s)) (by rfl) HTmp.out (by rfl) (by omega) hBb.size (fun v9 w9 hown9 hg9 => ?_)
      have hB9 := hBb.grown hg9 hBb.size (fun q hq => (hown5.lt q hq).1)
      refine hK.out _ _ (fun _ _ => HS.out _ hB9) ?_
      clear hK K
      try simp only [Act.put, sq0, sq1, sq2]
      refine won 10 rfl fun K hK => ?_
      go_simp
      refine (rsorted_any w9 v9 (namesD L ++ [s]) (own_texts (by rw [List.nil_append, strs_snoc, Nat.zero_add] at hown9; rw [List.length_append, namesD, List.length_map]; exact hown9)) (by rw [List.length_append, List.length_singleton, namesD, List.length_map]; omega) HKs.out).mono ?_
      rintro e w10 ⟨v10, rfl, ⟨g10, c10, rfl, -⟩, hb10⟩
      rw [hR] at *
      have hB10 := below_next hB9 hb10
      refine hK.out _ _ (fun _ _ => HS.out _ hB10) ?_
      clear hK K
      try simp only [Act.put, sq0, sq1, sq2]
      refine won 11 rfl fun K hK => ?_
      go_simp
      refine hK.out _ _ (fun _ h => h) ?_
      clear hK K
      try simp only [Act.put, sq0, sq1, sq2]
      refine won 12 rfl fun K hK => ?_
      go_simp
      refine hK.out _ _ (fun _ h => h) ?_
      clear hK K
      try simp only [Act.put, sq0, sq1, sq2]
      refine won 13 rfl fun K hK => ?_
      go_simp
      refine hK.out _ _ (fun _ h => h) ?_
      clear hK K
      try simp only [Act.put, sq0, sq1, sq2]
      refine won 14 rfl fun K hK => ?_
      go_simp
      refine hK.out _ _ (fun _ h => h) ?_
      clear hK K
      try simp only [Act.put, sq0, sq1, sq2]
      refine won 15 rfl fun K hK => ?_
      go_simp
      refine hK.out _ _ (fun _ h => h) ?_
      clear hK K
      try simp only [Act.put, sq0, sq1, sq2]
      refine won 16 rfl fun K hK => ?_
      go_simp
      refine hK.out _ _ (fun _ h => h) ?_
      clear hK K
      try simp only [Act.put, sq0, sq1, sq2]
      refine won 17 rfl fun K hK => ?_
      go_simp
      refine hK.out _ _ (fun _ h => h) ?_
      clear hK K
      try simp only [Act.put, sq0, sq1, sq2]
      have hSn := HS.out _ hB10
      refine won 18 rfl fun K hK => ?_
      go_simp
      refine hK.out _ _ (fun _ h => h) ?_
      clear hK K
      clear hSn
      try simp only [Act.put, sq0, sq1, sq2]
      refine won 19 rfl fun K hK => ?_
      go_simp
      refine hK.out _ _ (fun _ h => h) ?_
      clear hK K
      try simp only [Act.put, sq0, sq1, sq2]
      refine won 20 rfl fun K hK => ?_
      go_simp
      refine hK.out _ _ (fun _ h => h) ?_
      clear hK K
      try simp only [Act.put, sq0, sq1, sq2]
      refine won 21 rfl fun K hK => ?_
      go_simp
      refine hK.out _ _ (fun _ h => h) ?_
      clear hK K
      try simp only [Act.put, sq0, sq1, sq2]
      refine wpAnyM_done (by kernel_rfl) ?_ _
      try simp only [Act.put, sq0, sq1, sq2]
      go_wp2_with fail
      go_meet
      exact ⟨by rw [HBad.out], hB10⟩
     ·go_simp
      have hBb := hBa.alloc hBa.size (.cells #[.string (bs s)] 9)
      have HTmp := Lib.hid (Blk.new (wa) 9 [.string (bs s)])
      have hlt8 : (wa).heap.size < ((wa).alloc (.cells #[.string (bs s)] 9)).heap.size := by simp
      replace hown0 := hown0.alloc (.cells #[.string (bs s)] 9)
      refine hK.out _ _ (fun _ _ => HS.out _ hBb) ?_
      clear hK K
      try simp only [Act.put, sq0, sq1, sq2]
      obtain ⟨wb, hwb⟩ : ∃ q, (wa).alloc (.cells #[.string (bs s)] 9) = q := ⟨_, rfl⟩
      rw [hwb] at hBb HTmp hlt8 hown0
      try simp only [hwb]
      obtain ⟨g8, hg8⟩ : ∃ q, (wa).heap.size = q := ⟨_, rfl⟩
      rw [hg8] at HTmp hlt8
      try simp only [hg8]
      clear hwb
      have hne08 : g8 ≠ g0 := by omega
      refine won 5 rfl fun K hK => ?_
      refine step_append_row (by rfl) _ _ (by rfl) w2.heap.size B (.slice (some ⟨g0, 0, none⟩) 0 0) 0 L.length [] (namesD L) (by rfl) hown0 vN (by rfl) (owns_later hrN hBb) (by omega) hBb.size (fun v5 w5 hown5 hg5 hat5 => ?_)
      have hB5 := hBb.grown hg5 hBb.size (fun q hq => (hown0.lt q hq).1)
      replace HTmp := Lib.hid (HTmp.out.at (hg5.block g8 HTmp.out.lt (fun e => hne08 (by injection e))))
      refine hK.out _ _ (fun _ _ => HS.out _ hB5) ?_
      clear hK K
      try simp only [Act.put, sq0, sq1, sq2]
      refine won 9 rfl fun K hK => ?_
      refine step_append_row_one (by rfl) _ _ (by rfl) w2.heap.size v5 (0 + L.length) ([] ++ strs (namesD L)) (by rfl) hown5 g8 1 (.string (bs s)) (by rfl) HTmp.out (by rfl) (by omega) hB5.size (fun v9 w9 hown9 hg9 => ?_)
      have hB9 := hB5.grown hg9 hB5.size (fun q hq => (hown5.lt q hq).1)
      refine hK.out _ _ (fun _ _ => HS.out _ hB9) ?_
      clear hK K
      try simp only [Act.put, sq0, sq1, sq2]
      refine won 10 rfl fun K hK => ?_
      go_simp
      refine (rsorted_any w9 v9 (namesD L ++ [s]) (own_texts (by rw [List.nil_append, strs_snoc, Nat.zero_add] at hown9; rw [List.length_append, namesD, List.length_map]; exact hown9)) (by rw [List.length_append, List.length_singleton, namesD, List.length_map]; omega) HKs.out).mono ?_
      rintro e w10 ⟨v10, rfl, ⟨g10, c10, rfl, -⟩, hb10⟩
      rw [hR] at *
      have hB10 := below_next hB9 hb10
      refine hK.out _ _ (fun _ _ => HS.out _ hB10) ?_
      clear hK K
      try simp only [Act.put, sq0, sq1, sq2]
      refine won 11 rfl fun K hK => ?_
      go_simp
      refine hK.out _ _ (fun _ h => h) ?_
      clear hK K
      try simp only [Act.put, sq0, sq1, sq2]
      refine won 12 rfl fun K hK => ?_
      go_simp
      refine hK.out _ _ (fun _ h => h) ?_
      clear hK K
      try simp only [Act.put, sq0, sq1, sq2]
      refine won 13 rfl fun K hK => ?_
      go_simp
      refine hK.out _ _ (fun _ h => h) ?_
      clear hK K
      try simp only [Act.put, sq0, sq1, sq2]
      refine won 14 rfl fun K hK => ?_
      go_simp
      refine hK.out _ _ (fun _ h => h) ?_
      clear hK K
      try simp only [Act.put, sq0, sq1, sq2]
      refine won 15 rfl fun K hK => ?_
      go_simp
      refine hK.out _ _ (fun _ h => h) ?_
      clear hK K
      try simp only [Act.put, sq0, sq1, sq2]
      refine won 16 rfl fun K hK => ?_
      go_simp
      refine hK.out _ _ (fun _ h => h) ?_
      clear hK K
      try simp only [Act.put, sq0, sq1, sq2]
      refine won 17 rfl fun K hK => ?_
      go_simp
      refine hK.out _ _ (fun _ h => h) ?_
      clear hK K
      try simp only [Act.put, sq0, sq1, sq2]
      have hSn := HS.out _ hB10
      refine won 18 rfl fun K hK => ?_
      go_simp
      refine hK.out _ _ (fun _ h => h) ?_
      clear hK K
      clear hSn
      try simp only [Act.put, sq0, sq1, sq2]
      refine won 19 rfl fun K hK => ?_
      go_simp
      refine hK.out _ _ (fun _ h => h) ?_
      clear hK K
      try simp only [Act.put, sq0, sq1, sq2]
      refine won 20 rfl fun K hK => ?_
      go_simp
      refine hK.out _ _ (fun _ h => h) ?_
      clear hK K
      try simp only [Act.put, sq0, sq1, sq2]
      refine won 21 rfl fun K hK => ?_
      go_simp
      refine hK.out _ _ (fun _ h => h) ?_
      clear hK K
      try simp only [Act.put, sq0, sq1, sq2]
      refine wpAnyM_done (by kernel_rfl) ?_ _
      try simp only [Act.put, sq0, sq1, sq2]
      go_wp2_with fail
      go_meet
      exact ⟨by rw [HBad.out], hB10⟩
    ·go_simp
     have hBb := hB0.alloc hB0.size (.cells #[.string (bs s)] 9)
     have HTmp := Lib.hid (Blk.new (wd) 9 [.string (bs s)])
     have hlt8 : (wd).heap.size < ((wd).alloc (.cells #[.string (bs s)] 9)).heap.size := by simp
     refine hK.out _ _ (fun _ _ => HS.out _ hBb) ?_
     clear hK K
     try simp only [Act.put, sq0, sq1, sq2]
     obtain ⟨wb, hwb⟩ : ∃ q, (wd).alloc (.cells #[.string (bs s)] 9) = q := ⟨_, rfl⟩
     rw [hwb] at hBb HTmp hlt8
     try simp only [hwb]
     obtain ⟨g8, hg8⟩ : ∃ q, (wd).heap.size = q := ⟨_, rfl⟩
     rw [hg8] at HTmp hlt8
     try simp only [hg8]
     clear hwb
     refine won 0 rfl fun K hK => ?_
     go_simp
     have hBa := hBb.alloc hBb.size (.cells #[] 9)
     have hown0 := own_empty (heap_alloc_new (wb) (.cells #[] 9)) hBb.size
     have hlt0 : (wb).heap.size < ((wb).alloc (.cells #[] 9)).heap.size := by simp
     replace HTmp := Lib.hid (HTmp.out.alloc (.cells #[] 9))
     refine hK.out _ _ (fun _ _ => HS.out _ hBa) ?_
     clear hK K
     try simp only [Act.put, sq0, sq1, sq2]
     obtain ⟨wa, hwa⟩ : ∃ q, (wb).alloc (.cells #[] 9) = q := ⟨_, rfl⟩
     rw [hwa] at hBa hown0 hlt0 HTmp
     try simp only [hwa]
     obtain ⟨g0, hg0⟩ : ∃ q, (wb).heap.size = q := ⟨_, rfl⟩
     rw [hg0] at hown0 hlt0
     try simp only [hg0]
     clear hwa
     have hne08 : g8 ≠ g0 := by omega
     refine won 5 rfl fun K hK => ?_
     refine step_append_row (by rfl) _ _ (by rfl) w2.heap.size B (.slice (some ⟨g0, 0, none⟩) 0 0) 0 L.length [] (namesD L) (by rfl) hown0 vN (by rfl) (owns_later hrN hBa) (by omega) hBa.size (fun v5 w5 hown5 hg5 hat5 => ?_)
     have hB5 := hBa.grown hg5 hBa.size (fun q hq => (hown0.lt q hq).1)
     replace HTmp := Lib.hid (HTmp.out.at (hg5.block g8 HTmp.out.lt (fun e => hne08 (by injection e))))
     refine hK.out _ _ (fun _ _ => HS.out _ hB5) ?_
     clear hK K
     try simp only [Act.put, sq0, sq1, sq2]
     refine won 9 rfl fun K hK => ?_
     refine step_append_row_one (by rfl) _ _ (by rfl) w2.heap.size v5 (0 + L.length) ([] ++ strs (namesD L)) (by rfl) hown5 g8 1 (.string (bs s)) (by rfl) HTmp.out (by rfl) (by omega) hB5.size (fun v9 w9 hown9 hg9 => ?_)
     have hB9 := hB5.grown hg9 hB5.size (fun q hq => (hown5.lt q hq).1)
     refine hK.out _ _ (fun _ _ => HS.out _ hB9) ?_
     clear hK K
     try simp only [Act.put, sq0, sq1, sq2]
     refine won 10 rfl fun K hK => ?_
     go_simp
     refine (rsorted_any w9 v9 (namesD L ++ [s]) (own_texts (by rw [List.nil_append, strs_snoc, Nat.zero_add] at hown9; rw [List.length_append, namesD, List.length_map]; exact hown9)) (by rw [List.length_append, List.length_singleton, namesD, List.length_map]; omega) HKs.out).mono ?_
     rintro e w10 ⟨v10, rfl, ⟨g10, c10, rfl, -⟩, hb10⟩
     rw [hR] at *
     have hB10 := below_next hB9 hb10
     refine hK.out _ _ (fun _ _ => HS.out _ hB10) ?_
     clear hK K
     try simp only [Act.put, sq0, sq1, sq2]
     refine won 11 rfl fun K hK => ?_
     go_simp
     refine hK.out _ _ (fun _ h => h) ?_
     clear hK K
     try simp only [Act.put, sq0, sq1, sq2]
     refine won 12 rfl fun K hK => ?_
     go_simp
     refine hK.out _ _ (fun _ h => h) ?_
     clear hK K
     try simp only [Act.put, sq0, sq1, sq2]
     refine won 13 rfl fun K hK => ?_
     go_simp
     refine hK.out _ _ (fun _ h => h) ?_
     clear hK K
     try simp only [Act.put, sq0, sq1, sq2]
     refine won 14 rfl fun K hK => ?_
     go_simp
     refine hK.out _ _ (fun _ h => h) ?_
     clear hK K
     try simp only [Act.put, sq0, sq1, sq2]
     refine won 15 rfl fun K hK => ?_
     go_simp
     refine hK.out _ _ (fun _ h => h) ?_
     clear hK K
     try simp only [Act.put, sq0, sq1, sq2]
     refine won 16 rfl fun K hK => ?_
     go_simp
     refine hK.out _ _ (fun _ h => h) ?_
     clear hK K
     try simp only [Act.put, sq0, sq1, sq2]
     refine won 17 rfl fun K hK => ?_
     go_simp
     refine hK.out _ _ (fun _ h => h) ?_
     clear hK K
     try simp only [Act.put, sq0, sq1, sq2]
     have hSn := HS.out _ hB10
     refine won 18 rfl fun K hK => ?_
     go_simp
     refine hK.out _ _ (fun _ h => h) ?_
     clear hK K
     clear hSn
     try simp only [Act.put, sq0, sq1, sq2]
     refine won 19 rfl fun K hK => ?_
     go_simp
     refine hK.out _ _ (fun _ h => h) ?_
     clear hK K
     try simp only [Act.put, sq0, sq1, sq2]
     refine won 20 rfl fun K hK => ?_
     go_simp
     refine hK.out _ _ (fun _ h => h) ?_
     clear hK K
     try simp only [Act.put, sq0, sq1, sq2]
     refine won 21 rfl fun K hK => ?_
     go_simp
     refine hK.out _ _ (fun _ h => h) ?_
     clear hK K
     try simp only [Act.put, sq0, sq1, sq2]
     refine wpAnyM_done (by kernel_rfl) ?_ _
     try simp only [Act.put, sq0, sq1, sq2]
     go_wp2_with fail
     go_meet
     exact ⟨by rw [HBad.out], hB10⟩
   ·have d20 : ¬ (20 : Int) < (R.length : Int) := by omega
    by_cases h40 : L.length = 40
    ·have HBad : RowKit.Hid (decide (20 < R.length ∨ L.length = 40) = true) := Lib.hid (decide_eq_true (.inr h40))
     have d40 : ((L.length : Int) == 40) = true := by simp; omega
     clear h20 h40
     refine wp_region_keep (fun w' => w'.cell? ⟨gm, 3, none⟩ = some (vN) ∧ w'.cell? ⟨gm, 2, none⟩ = some (.slice pT L.length cT) ∧ w'.cell? ⟨gx, 1, none⟩ = some (.string (bs s)) ∧ Below w2.heap.size w2 w') [] (by kernel_rfl) ?_
     have hB0 : Below (w2).heap.size (w2) (w2).drew := Below.drew (Below.refl _ _)
     obtain ⟨wd, hwd⟩ : ∃ q, (w2).drew = q := ⟨_, rfl⟩
     rw [hwd] at hB0 ⊢
     have HZ0 : RowKit.Hid (wd.heap.size = (w2).heap.size) := Lib.hid (by rw [← hwd]; rfl)
     clear hwd
     refine wfr 1 (v := ?_) rfl ?_ ?_
     rotate_left
     ·intro w' hw';go_simp;try with_reducible rfl
     try simp only [Act.put, sq0, sq1, sq2]
     refine wfr 2 (v := ?_) rfl ?_ ?_
     rotate_left
     ·intro w' hw';go_simp;try with_reducible rfl
     try simp only [Act.put, sq0, sq1, sq2]
     refine wfr 3 (v := ?_) rfl ?_ ?_
     rotate_left
     ·intro w' hw';go_simp;try with_reducible rfl
     try simp only [Act.put, sq0, sq1, sq2]
     refine wtk 4 22 (v := ?_) rfl ?_ (HS.out _ hB0) ?_
     rotate_left
     ·intro w' hw';(try dsimp only at hw');go_simp;try with_reducible rfl
     try simp only [Act.put, sq0, sq1, sq2]
     refine wfr 6 (v := ?_) rfl ?_ ?_
     rotate_left
     ·intro w' hw';go_simp;try with_reducible rfl
     try simp only [Act.put, sq0, sq1, sq2]
     refine wtk 7 22 (v := ?_) rfl ?_ (HS.out _ hB0) ?_
     rotate_left
     ·intro w' hw';(try dsimp only at hw');go_simp;try with_reducible rfl
     try simp only [Act.put, sq0, sq1, sq2]
     refine wpAnyM_two 0 8 rfl rfl (by kernel_rfl) (fun K hK => ?_) (fun K hK => ?_)
     ·go_simp
      have hBa := hB0.alloc hB0.size (.cells #[] 9)
      have hown0 := own_empty (heap_alloc_new (wd) (.cells #[] 9)) hB0.size
      have hlt0 : (wd).heap.size < ((wd).alloc (.cells #[] 9)).heap.size := by simp
      refine hK.out _ _ (fun _ _ => HS.out _ hBa) ?_
      clear hK K
      try simp only [Act.put, sq0, sq1, sq2]
      obtain ⟨wa, hwa⟩ : ∃ q, (wd).alloc (.cells #[] 9) = q := ⟨_, rfl⟩
      rw [hwa] at hBa hown0 hlt0
      try simp only [hwa]
      obtain ⟨g0, hg0⟩ : ∃ q, (wd).heap.size = q := ⟨_, rfl⟩
      rw [hg0] at hown0 hlt0
      try simp only [hg0]
      clear hwa
      refine wpAnyM_two 5 8 rfl rfl (by kernel_rfl) (fun K hK => ?_) (fun K hK => ?_)
      ·refine step_append_row (by rfl) _ _ (by rfl) w2.heap.size B (.slice (some ⟨g0, 0, none⟩) 0 0) 0 L.length [] (namesD L) (by rfl) hown0 vN (by rfl) (owns_later hrN hBa) (by omega) hBa.size (fun v5 w5 hown5 hg5 hat5 => ?_)
       have hB5 := hBa.grown hg5 hBa.size (fun q hq => (hown0.lt q hq).1)
       refine hK.out _ _ (fun _ _ => HS.out _ hB5) ?_
       clear hK K
       try simp only [Act.put, sq0, sq1, sq2]
       refine won 8 rfl fun K hK => ?_
       go_simp
       have hBb := hB5.alloc hB5.size (.cells #[.string (bs s)] 9)
       have HTmp := Lib.hid (Blk.new (w5) 9 [.string (bs s)])
       have hlt8 : (w5).heap.size < ((w5).alloc (.cells #[.string (bs s)] 9)).heap.size := by simp
       replace hown5 := hown5.alloc (.cells #[.string (bs s)] 9)
       refine hK.out _ _ (fun _ _ => HS.out _ hBb) ?_
       clear hK K
       try simp only [Act.put, sq0, sq1, sq2]
       obtain ⟨wb, hwb⟩ : ∃ q, (w5).alloc (.cells #[.string (bs s)] 9) = q := ⟨_, rfl⟩
       rw [hwb] at hBb HTmp hlt8 hown5
       try simp only [hwb]
       obtain ⟨g8, hg8⟩ : ∃ q, (w5).heap.size = q := ⟨_, rfl⟩
       rw [hg8] at HTmp hlt8
       try simp only [hg8]
       clear hwb
       refine won 9 rfl fun K hK => ?_
       refine step_append_row_one (by rfl) _ _ (by rfl) w2.heap.size v5 (0 + L.length) ([] ++ strs (namesD L)) (by rfl) hown5 g8 1 (.string (bs s)) (by rfl) HTmp.out (by rfl) (by omega) hBb.size (fun v9 w9 hown9 hg9 => ?_)
       have hB9 := hBb.grown hg9 hBb.size (fun q hq => (hown5.lt q hq).1)
       refine hK.out _ _ (fun _ _ => HS.out _ hB9) ?_
       clear hK K
       try simp only [Act.put, sq0, sq1, sq2]
       refine won 10 rfl fun K hK => ?_
       go_simp
       refine (rsorted_any w9 v9 (namesD L ++ [s]) (own_texts (by rw [List.nil_append, strs_snoc, Nat.zero_add] at hown9; rw [List.length_append, namesD, List.length_map]; exact hown9)) (by rw [List.length_append, List.length_singleton, namesD, List.length_map]; omega) HKs.out).mono ?_
       rintro e w10 ⟨v10, rfl, ⟨g10, c10, rfl, -⟩, hb10⟩
       rw [hR] at *
       have hB10 := below_next hB9 hb10
       refine hK.out _ _ (fun _ _ => HS.out _ hB10) ?_
       clear hK K
       try simp only [Act.put, sq0, sq1, sq2]
       refine won 11 rfl fun K hK => ?_
       go_simp
       refine hK.out _ _ (fun _ h => h) ?_
       clear hK K
       try simp only [Act.put, sq0, sq1, sq2]
       refine won 12 rfl fun K hK => ?_
       go_simp
       refine hK.out _ _ (fun _ h => h) ?_
       clear hK K
       try simp only [Act.put, sq0, sq1, sq2]
       refine won 13 rfl fun K hK => ?_
       go_simp
       refine hK.out _ _ (fun _ h => h) ?_
       clear hK K
       try simp only [Act.put, sq0, sq1, sq2]
       refine won 14 rfl fun K hK => ?_
       go_simp
       refine hK.out _ _ (fun _ h => h) ?_
       clear hK K
       try simp only [Act.put, sq0, sq1, sq2]
       refine won 15 rfl fun K hK => ?_
       go_simp
       refine hK.out _ _ (fun _ h => h) ?_
       clear hK K
       try simp only [Act.put, sq0, sq1, sq2]
       refine won 16 rfl fun K hK => ?_
       go_simp
       refine hK.out _ _ (fun _ h => h) ?_
       clear hK K
       try simp only [Act.put, sq0, sq1, sq2]
       refine won 17 rfl fun K hK => ?_
       go_simp
       refine hK.out _ _ (fun _ h => h) ?_
       clear hK K
       try simp only [Act.put, sq0, sq1, sq2]
       have hSn := HS.out _ hB10
       refine won 18 rfl fun K hK => ?_
       go_simp
       refine hK.out _ _ (fun _ h => h) ?_
       clear hK K
       clear hSn
       try simp only [Act.put, sq0, sq1, sq2]
       refine won 19 rfl fun K hK => ?_
       go_simp
       refine hK.out _ _ (fun _ h => h) ?_
       clear hK K
       try simp only [Act.put, sq0, sq1, sq2]
       refine won 20 rfl fun K hK => ?_
       go_simp
       refine hK.out _ _ (fun _ h => h) ?_
       clear hK K
       try simp only [Act.put, sq0, sq1, sq2]
       refine won 21 rfl fun K hK => ?_
       go_simp
       refine hK.out _ _ (fun _ h => h) ?_
       clear hK K
       try simp only [Act.put, sq0, sq1, sq2]
       refine wpAnyM_done (by kernel_rfl) ?_ _
       try simp only [Act.put, sq0, sq1, sq2]
       go_wp2_with fail
       go_meet
       exact ⟨by rw [HBad.out], hB10⟩
      ·go_simp
       have hBb := hBa.alloc hBa.size (.cells #[.string (bs s)] 9)
       have HTmp := Lib.hid (Blk.new (wa) 9 [.string (bs s)])
       have hlt8 : (wa).heap.size < ((wa).alloc (.cells #[.string (bs s)] 9)).heap.size := by simp
       replace hown0 := hown0.alloc (.cells #[.string (bs s)] 9)
       refine hK.out _ _ (fun _ _ => HS.out _ hBb) ?_
       clear hK K
       try simp only [Act.put, sq0, sq1, sq2]
       obtain ⟨wb, hwb⟩ : ∃ q, (wa).alloc (.cells #[.string (bs s)] 9) = q := ⟨_, rfl⟩
       rw [hwb] at hBb HTmp hlt8 hown0
       try simp only [hwb]
       obtain ⟨g8, hg8⟩ : ∃ q, (wa).heap.size = q := ⟨_, rfl⟩
       rw [hg8] at HTmp hlt8
       try simp only [hg8]
       clear hwb
       have hne08 : g8 ≠ g0 := by omega
       refine won 5 rfl fun K hK => ?_
       refine step_append_row (by rfl) _ _ (by rfl) w2.heap.size B (.slice (some ⟨g0, 0, none⟩) 0 0) 0 L.length [] (namesD L) (by rfl) hown0 vN (by rfl) (owns_later hrN hBb) (by omega) hBb.size (fun v5 w5 hown5 hg5 hat5 => ?_)
       have hB5 := hBb.grown hg5 hBb.size (fun q hq => (hown0.lt q hq).1)
       replace HTmp := Lib.hid (HTmp.out.at (hg5.block g8 HTmp.out.lt (fun e => hne08 (by injection e))))
       refine hK.out _ _ (fun _ _ => HS.out _ hB5) ?_
       clear hK K
       try simp only [Act.put, sq0, sq1, sq2]
       refine won 9 rfl fun K hK => ?_
       refine step_append_row_one (by rfl) _ _ (by rfl) w2.heap.size v5 (0 + L.length) ([] ++ strs (namesD L)) (by rfl) hown5 g8 1 (.string (bs s)) (by rfl) HTmp.out (by rfl) (by omega) hB5.size (fun v9 w9 hown9 hg9 => ?_)
       have hB9 := hB5.grown hg9 hB5.size (fun q hq => (hown5.lt q hq).1)
       refine hK.out _ _ (fun _ _ => HS.out _ hB9) ?_
       clear hK K
       try simp only [Act.put, sq0, sq1, sq2]
       refine won 10 rfl fun K hK => ?_
       go_simp
       refine (rsorted_any w9 v9 (namesD L ++ [s]) (own_texts (by rw [List.nil_append, strs_snoc, Nat.zero_add] at hown9; rw [List.length_append, namesD, List.length_map]; exact hown9)) (by rw [List.length_append, List.length_singleton, namesD, List.length_map]; omega) HKs.out).mono ?_
       rintro e w10 ⟨v10, rfl, ⟨g10, c10, rfl, -⟩, hb10⟩
       rw [hR] at *
       have hB10 := below_next hB9 hb10
       refine hK.out _ _ (fun _ _ => HS.out _ hB10) ?_
       clear hK K
       try simp only [Act.put, sq0, sq1, sq2]
       refine won 11 rfl fun K hK => ?_
       go_simp
       refine hK.out _ _ (fun _ h => h) ?_
       clear hK K
       try simp only [Act.put, sq0, sq1, sq2]
       refine won 12 rfl fun K hK => ?_
       go_simp
       refine hK.out _ _ (fun _ h => h) ?_
       clear hK K
       try simp only [Act.put, sq0, sq1, sq2]
       refine won 13 rfl fun K hK => ?_
       go_simp
       refine hK.out _ _ (fun _ h => h) ?_
       clear hK K
       try simp only [Act.put, sq0, sq1, sq2]
       refine won 14 rfl fun K hK => ?_
       go_simp
       refine hK.out _ _ (fun _ h => h) ?_
       clear hK K
       try simp only [Act.put, sq0, sq1, sq2]
       refine won 15 rfl fun K hK => ?_
       go_simp
       refine hK.out _ _ (fun _ h => h) ?_
       clear hK K
       try simp only [Act.put, sq0, sq1, sq2]
       refine won 16 rfl fun K hK => ?_
       go_simp
       refine hK.out _ _ (fun _ h => h) ?_
       clear hK K
       try simp only [Act.put, sq0, sq1, sq2]
       refine won 17 rfl fun K hK => ?_
       go_simp
       refine hK.out _ _ (fun _ h => h) ?_
       clear hK K
       try simp only [Act.put, sq0, sq1, sq2]
       have hSn := HS.out _ hB10
       refine won 18 rfl fun K hK => ?_
       go_simp
       refine hK.out _ _ (fun _ h => h) ?_
       clear hK K
       clear hSn
       try simp only [Act.put, sq0, sq1, sq2]
       refine won 19 rfl fun K hK => ?_
       go_simp
       refine hK.out _ _ (fun _ h => h) ?_
       clear hK K
       try simp only [Act.put, sq0, sq1, sq2]
       refine won 20 rfl fun K hK => ?_
       go_simp
       refine hK.out _ _ (fun _ h => h) ?_
       clear hK K
       try simp only [Act.put, sq0, sq1, sq2]
       refine won 21 rfl fun K hK => ?_
       go_simp
       refine hK.out _ _ (fun _ h => h) ?_
       clear hK K
       try simp only [Act.put, sq0, sq1, sq2]
       refine wpAnyM_done (by kernel_rfl) ?_ _
       try simp only [Act.put, sq0, sq1, sq2]
       go_wp2_with fail
       go_meet
       exact ⟨by rw [HBad.out], hB10⟩
     ·go_simp
      have hBb := hB0.alloc hB0.size (.cells #[.string (bs s)] 9)
      have HTmp := Lib.hid (Blk.new (wd) 9 [.string (bs s)])
      have hlt8 : (wd).heap.size < ((wd).alloc (.cells #[.string (bs s)] 9)).heap.size := by simp
      refine hK.out _ _ (fun _ _ => HS.out _ hBb) ?_
      clear hK K
      try simp only [Act.put, sq0, sq1, sq2]
      obtain ⟨wb, hwb⟩ : ∃ q, (wd).alloc (.cells #[.string (bs s)] 9) = q := ⟨_, rfl⟩
      rw [hwb] at hBb HTmp hlt8
      try simp only [hwb]
      obtain ⟨g8, hg8⟩ : ∃ q, (wd).heap.size = q := ⟨_, rfl⟩
      rw [hg8] at HTmp hlt8
      try simp only [hg8]
      clear hwb
      refine won 0 rfl fun K hK => ?_
      go_simp
      have hBa := hBb.alloc hBb.size (.cells #[] 9)
      have hown0 := own_empty (heap_alloc_new (wb) (.cells #[] 9)) hBb.size
      have hlt0 : (wb).heap.size < ((wb).alloc (.cells #[] 9)).heap.size := by simp
      replace HTmp := Lib.hid (HTmp.out.alloc (.cells #[] 9))
      refine hK.out _ _ (fun _ _ => HS.out _ hBa) ?_
      clear hK K
      try simp only [Act.put, sq0, sq1, sq2]
      obtain ⟨wa, hwa⟩ : ∃ q, (wb).alloc (.cells #[] 9) = q := ⟨_, rfl⟩
      rw [hwa] at hBa hown0 hlt0 HTmp
      try simp only [hwa]
      obtain ⟨g0, hg0⟩ : ∃ q, (wb).heap.size = q := ⟨_, rfl⟩
      rw [hg0] at hown0 hlt0
      try simp only [hg0]
      clear hwa
      have hne08 : g8 ≠ g0 := by omega
      refine won 5 rfl fun K hK => ?_
      refine step_append_row (by rfl) _ _ (by rfl) w2.heap.size B (.slice (some ⟨g0, 0, none⟩) 0 0) 0 L.length [] (namesD L) (by rfl) hown0 vN (by rfl) (owns_later hrN hBa) (by omega) hBa.size (fun v5 w5 hown5 hg5 hat5 => ?_)
      have hB5 := hBa.grown hg5 hBa.size (fun q hq => (hown0.lt q hq).1)
      replace HTmp := Lib.hid (HTmp.out.at (hg5.block g8 HTmp.out.lt (fun e => hne08 (by injection e))))
      refine hK.out _ _ (fun _ _ => HS.out _ hB5) ?_
      clear hK K
      try simp only [Act.put, sq0, sq1, sq2]
      refine won 9 rfl fun K hK => ?_
      refine step_append_row_one (by rfl) _ _ (by rfl) w2.heap.size v5 (0 + L.length) ([] ++ strs (namesD L)) (by rfl) hown5 g8 1 (.string (bs s)) (by rfl) HTmp.out (by rfl) (by omega) hB5.size (fun v9 w9 hown9 hg9 => ?_)
      have hB9 := hB5.grown hg9 hB5.size (fun q hq => (hown5.lt q hq).1)
      refine hK.out _ _ (fun _ _ => HS.out _ hB9) ?_
      clear hK K
      try simp only [Act.put, sq0, sq1, sq2]
      refine won 10 rfl fun K hK => ?_
      go_simp
      refine (rsorted_any w9 v9 (namesD L ++ [s]) (own_texts (by rw [List.nil_append, strs_snoc, Nat.zero_add] at hown9; rw [List.length_append, namesD, List.length_map]; exact hown9)) (by rw [List.length_append, List.length_singleton, namesD, List.length_map]; omega) HKs.out).mono ?_
      rintro e w10 ⟨v10, rfl, ⟨g10, c10, rfl, -⟩, hb10⟩
      rw [hR] at *
      have hB10 := below_next hB9 hb10
      refine hK.out _ _ (fun _ _ => HS.out _ hB10) ?_
      clear hK K
      try simp only [Act.put, sq0, sq1, sq2]
      refine won 11 rfl fun K hK => ?_
      go_simp
      refine hK.out _ _ (fun _ h => h) ?_
      clear hK K
      try simp only [Act.put, sq0, sq1, sq2]
      refine won 12 rfl fun K hK => ?_
      go_simp
      refine hK.out _ _ (fun _ h => h) ?_
      clear hK K
      try simp only [Act.put, sq0, sq1, sq2]
      refine won 13 rfl fun K hK => ?_
      go_simp
      refine hK.out _ _ (fun _ h => h) ?_
      clear hK K
      try simp only [Act.put, sq0, sq1, sq2]
      refine won 14 rfl fun K hK => ?_
      go_simp
      refine hK.out _ _ (fun _ h => h) ?_
      clear hK K
      try simp only [Act.put, sq0, sq1, sq2]
      refine won 15 rfl fun K hK => ?_
      go_simp
      refine hK.out _ _ (fun _ h => h) ?_
      clear hK K
      try simp only [Act.put, sq0, sq1, sq2]
      refine won 16 rfl fun K hK => ?_
      go_simp
      refine hK.out _ _ (fun _ h => h) ?_
      clear hK K
      try simp only [Act.put, sq0, sq1, sq2]
      refine won 17 rfl fun K hK => ?_
      go_simp
      refine hK.out _ _ (fun _ h => h) ?_
      clear hK K
      try simp only [Act.put, sq0, sq1, sq2]
      have hSn := HS.out _ hB10
      refine won 18 rfl fun K hK => ?_
      go_simp
      refine hK.out _ _ (fun _ h => h) ?_
      clear hK K
      clear hSn
      try simp only [Act.put, sq0, sq1, sq2]
      refine won 19 rfl fun K hK => ?_
      go_simp
      refine hK.out _ _ (fun _ h => h) ?_
      clear hK K
      try simp only [Act.put, sq0, sq1, sq2]
      refine won 20 rfl fun K hK => ?_
      go_simp
      refine hK.out _ _ (fun _ h => h) ?_
      clear hK K
      try simp only [Act.put, sq0, sq1, sq2]
      refine won 21 rfl fun K hK => ?_
      go_simp
      refine hK.out _ _ (fun _ h => h) ?_
      clear hK K
      try simp only [Act.put, sq0, sq1, sq2]
      refine wpAnyM_done (by kernel_rfl) ?_ _
      try simp only [Act.put, sq0, sq1, sq2]
      go_wp2_with fail
      go_meet
      exact ⟨by rw [HBad.out], hB10⟩
    ·have HBad : RowKit.Hid (decide (20 < R.length ∨ L.length = 40) = false) := Lib.hid (decide_eq_false (fun h => h.elim h20 h40))
     have d40 : ((L.length : Int) == 40) = false := by simp; omega
     clear h20 h40
     refine wp_region_keep (fun w' => w'.cell? ⟨gm, 3, none⟩ = some (vN) ∧ w'.cell? ⟨gm, 2, none⟩ = some (.slice pT L.length cT) ∧ w'.cell? ⟨gx, 1, none⟩ = some (.string (bs s)) ∧ Below w2.heap.size w2 w') [] (by kernel_rfl) ?_
     have hB0 : Below (w2).heap.size (w2) (w2).drew := Below.drew (Below.refl _ _)
     obtain ⟨wd, hwd⟩ : ∃ q, (w2).drew = q := ⟨_, rfl⟩
     rw [hwd] at hB0 ⊢
     have HZ0 : RowKit.Hid (wd.heap.size = (w2).heap.size) := Lib.hid (by rw [← hwd]; rfl)
     clear hwd
     refine wfr 1 (v := ?_) rfl ?_ ?_
     rotate_left
     ·intro w' hw';go_simp;try with_reducible rfl
     try simp only [Act.put, sq0, sq1, sq2]
     refine wfr 2 (v := ?_) rfl ?_ ?_
     rotate_left
     ·intro w' hw';go_simp;try with_reducible rfl
     try simp only [Act.put, sq0, sq1, sq2]
     refine wfr 3 (v := ?_) rfl ?_ ?_
     rotate_left
     ·intro w' hw';go_simp;try with_reducible rfl
     try simp only [Act.put, sq0, sq1, sq2]
     refine wtk 4 22 (v := ?_) rfl ?_ (HS.out _ hB0) ?_
     rotate_left
     ·intro w' hw';(try dsimp only at hw');go_simp;try with_reducible rfl
     try simp only [Act.put, sq0, sq1, sq2]
     refine wfr 6 (v := ?_) rfl ?_ ?_
     rotate_left
     ·intro w' hw';go_simp;try with_reducible rfl
     try simp only [Act.put, sq0, sq1, sq2]
     refine wtk 7 22 (v := ?_) rfl ?_ (HS.out _ hB0) ?_
     rotate_left
     ·intro w' hw';(try dsimp only at hw');go_simp;try with_reducible rfl
     try simp only [Act.put, sq0, sq1, sq2]
     refine wpAnyM_two 0 8 rfl rfl (by kernel_rfl) (fun K hK => ?_) (fun K hK => ?_)
     ·go_simp
      have hBa := hB0.alloc hB0.size (.cells #[] 9)
      have hown0 := own_empty (heap_alloc_new (wd) (.cells #[] 9)) hB0.size
      have hlt0 : (wd).heap.size < ((wd).alloc (.cells #[] 9)).heap.size := by simp
      refine hK.out _ _ (fun _ _ => HS.out _ hBa) ?_
      clear hK K
      try simp only [Act.put, sq0, sq1, sq2]
      obtain ⟨wa, hwa⟩ : ∃ q, (wd).alloc (.cells #[] 9) = q := ⟨_, rfl⟩
      rw [hwa] at hBa hown0 hlt0
      try simp only [hwa]
      obtain ⟨g0, hg0⟩ : ∃ q, (wd).heap.size = q := ⟨_, rfl⟩
      rw [hg0] at hown0 hlt0
      try simp only [hg0]
      clear hwa
      refine wpAnyM_two 5 8 rfl rfl (by kernel_rfl) (fun K hK => ?_) (fun K hK => ?_)
      ·refine step_append_row (by rfl) _ _ (by rfl) w2.heap.size B (.slice (some ⟨g0, 0, none⟩) 0 0) 0 L.length [] (namesD L) (by rfl) hown0 vN (by rfl) (owns_later hrN hBa) (by omega) hBa.size (fun v5 w5 hown5 hg5 hat5 => ?_)
       have hB5 := hBa.grown hg5 hBa.size (fun q hq => (hown0.lt q hq).1)
       refine hK.out _ _ (fun _ _ => HS.out _ hB5) ?_
       clear hK K
       try simp only [Act.put, sq0, sq1, sq2]
       refine won 8 rfl fun K hK => ?_
       go_simp
       have hBb := hB5.alloc hB5.size (.cells #[.string (bs s)] 9)
       have HTmp := Lib.hid (Blk.new (w5) 9 [.string (bs s)])
       have hlt8 : (w5).heap.size < ((w5).alloc (.cells #[.string (bs s)] 9)).heap.size := by simp
       replace hown5 := hown5.alloc (.cells #[.string (bs s)] 9)
       refine hK.out _ _ (fun _ _ => HS.out _ hBb) ?_
       clear hK K
       try simp only [Act.put, sq0, sq1, sq2]
       obtain ⟨wb, hwb⟩ : ∃ q, (w5).alloc (.cells #[.string (bs s)] 9) = q := ⟨_, rfl⟩
       rw [hwb] at hBb HTmp hlt8 hown5
       try simp only [hwb]
       obtain ⟨g8, hg8⟩ : ∃ q, (w5).heap.size = q := ⟨_, rfl⟩
       rw [hg8] at HTmp hlt8
       try simp only [hg8]
       clear hwb
       refine won 9 rfl fun K hK => ?_
       refine step_append_row_one (by rfl) _ _ (by rfl) w2.heap.size v5 (0 + L.length) ([] ++ strs (namesD L)) (by rfl) hown5 g8 1 (.string (bs s)) (by rfl) HTmp.out (by rfl) (by omega) hBb.size (fun v9 w9 hown9 hg9 => ?_)
       have hB9 := hBb.grown hg9 hBb.size (fun q hq => (hown5.lt q hq).1)
       refine hK.out _ _ (fun _ _ => HS.out _ hB9) ?_
       clear hK K
       try simp only [Act.put, sq0, sq1, sq2]
       refine won 10 rfl fun K hK => ?_
       go_simp
       refine (rsorted_any w9 v9 (namesD L ++ [s]) (own_texts (by rw [List.nil_append, strs_snoc, Nat.zero_add] at hown9; rw [List.length_append, namesD, List.length_map]; exact hown9)) (by rw [List.length_append, List.length_singleton, namesD, List.length_map]; omega) HKs.out).mono ?_
       rintro e w10 ⟨v10, rfl, ⟨g10, c10, rfl, -⟩, hb10⟩
       rw [hR] at *
       have hB10 := below_next hB9 hb10
       refine hK.out _ _ (fun _ _ => HS.out _ hB10) ?_
       clear hK K
       try simp only [Act.put, sq0, sq1, sq2]
       refine won 11 rfl fun K hK => ?_
       go_simp
       refine hK.out _ _ (fun _ h => h) ?_
       clear hK K
       try simp only [Act.put, sq0, sq1, sq2]
       refine won 12 rfl fun K hK => ?_
       go_simp
       refine hK.out _ _ (fun _ h => h) ?_
       clear hK K
       try simp only [Act.put, sq0, sq1, sq2]
       refine won 13 rfl fun K hK => ?_
       go_simp
       refine hK.out _ _ (fun _ h => h) ?_
       clear hK K
       try simp only [Act.put, sq0, sq1, sq2]
       refine won 14 rfl fun K hK => ?_
       go_simp
       refine hK.out _ _ (fun _ h => h) ?_
       clear hK K
       try simp only [Act.put, sq0, sq1, sq2]
       refine won 15 rfl fun K hK => ?_
       go_simp
       refine hK.out _ _ (fun _ h => h) ?_
       clear hK K
       try simp only [Act.put, sq0, sq1, sq2]
       refine won 16 rfl fun K hK => ?_
       go_simp
       refine hK.out _ _ (fun _ h => h) ?_
       clear hK K
       try simp only [Act.put, sq0, sq1, sq2]
       refine won 17 rfl fun K hK => ?_
       go_simp
       refine hK.out _ _ (fun _ h => h) ?_
       clear hK K
       try simp only [Act.put, sq0, sq1, sq2]
       have hSn := HS.out _ hB10
       refine won 18 rfl fun K hK => ?_
       go_simp
       refine hK.out _ _ (fun _ h => h) ?_
       clear hK K
       clear hSn
       try simp only [Act.put, sq0, sq1, sq2]
       refine won 19 rfl fun K hK => ?_
       go_simp
       refine hK.out _ _ (fun _ h => h) ?_
       clear hK K
       try simp only [Act.put, sq0, sq1, sq2]
       refine won 20 rfl fun K hK => ?_
       go_simp
       refine hK.out _ _ (fun _ h => h) ?_
       clear hK K
       try simp only [Act.put, sq0, sq1, sq2]
       refine won 21 rfl fun K hK => ?_
       go_simp
       refine hK.out _ _ (fun _ h => h) ?_
       clear hK K
       try simp only [Act.put, sq0, sq1, sq2]
       refine wpAnyM_done (by kernel_rfl) ?_ _
       try simp only [Act.put, sq0, sq1, sq2]
       go_wp2_with fail
       go_meet
       exact ⟨by rw [HBad.out], hB10⟩
      ·go_simp
       have hBb := hBa.alloc hBa.size (.cells #[.string (bs s)] 9)
       have HTmp := Lib.hid (Blk.new (wa) 9 [.string (bs s)])
       have hlt8 : (wa).heap.size < ((wa).alloc (.cells #[.string (bs s)] 9)).heap.size := by simp
       replace hown0 := hown0.alloc (.cells #[.string (bs s)] 9)
       refine hK.out _ _ (fun _ _ => HS.out _ hBb) ?_
       clear hK K
       try simp only [Act.put, sq0, sq1, sq2]
       obtain ⟨wb, hwb⟩ : ∃ q, (wa).alloc (.cells #[.string (bs s)] 9) = q := ⟨_, rfl⟩
       rw [hwb] at hBb HTmp hlt8 hown0
       try simp only [hwb]
       obtain ⟨g8, hg8⟩ : ∃ q, (wa).heap.size = q := ⟨_, rfl⟩
       rw [hg8] at HTmp hlt8
       try simp only [hg8]
       clear hwb
       have hne08 : g8 ≠ g0 := by omega
       refine won 5 rfl fun K hK => ?_
       refine step_append_row (by rfl) _ _ (by rfl) w2.heap.size B (.slice (some ⟨g0, 0, none⟩) 0 0) 0 L.length [] (namesD L) (by rfl) hown0 vN (by rfl) (owns_later hrN hBb) (by omega) hBb.size (fun v5 w5 hown5 hg5 hat5 => ?_)
       have hB5 := hBb.grown hg5 hBb.size (fun q hq => (hown0.lt q hq).1)
       replace HTmp := Lib.hid (HTmp.out.at (hg5.block g8 HTmp.out.lt (fun e => hne08 (by injection e))))
       refine hK.out _ _ (fun _ _ => HS.out _ hB5) ?_
       clear hK K
       try simp only [Act.put, sq0, sq1, sq2]
       refine won 9 rfl fun K hK => ?_
       refine step_append_row_one (by rfl) _ _ (by rfl) w2.heap.size v5 (0 + L.length) ([] ++ strs (namesD L)) (by rfl) hown5 g8 1 (.string (bs s)) (by rfl) HTmp.out (by rfl) (by omega) hB5.size (fun v9 w9 hown9 hg9 => ?_)
       have hB9 := hB5.grown hg9 hB5.size (fun q hq => (hown5.lt q hq).1)
       refine hK.out _ _ (fun _ _ => HS.out _ hB9) ?_
       clear hK K
       try simp only [Act.put, sq0, sq1, sq2]
       refine won 10 rfl fun K hK => ?_
       go_simp
       refine (rsorted_any w9 v9 (namesD L ++ [s]) (own_texts (by rw [List.nil_append, strs_snoc, Nat.zero_add] at hown9; rw [List.length_append, namesD, List.length_map]; exact hown9)) (by rw [List.length_append, List.length_singleton, namesD, List.length_map]; omega) HKs.out).mono ?_
       rintro e w10 ⟨v10, rfl, ⟨g10, c10, rfl, -⟩, hb10⟩
       rw [hR] at *
       have hB10 := below_next hB9 hb10
       refine hK.out _ _ (fun _ _ => HS.out _ hB10) ?_
       clear hK K
       try simp only [Act.put, sq0, sq1, sq2]
       refine won 11 rfl fun K hK => ?_
       go_simp
       refine hK.out _ _ (fun _ h => h) ?_
       clear hK K
       try simp only [Act.put, sq0, sq1, sq2]
       refine won 12 rfl fun K hK => ?_
       go_simp
       refine hK.out _ _ (fun _ h => h) ?_
       clear hK K
       try simp only [Act.put, sq0, sq1, sq2]
       refine won 13 rfl fun K hK => ?_
       go_simp
       refine hK.out _ _ (fun _ h => h) ?_
       clear hK K
       try simp only [Act.put, sq0, sq1, sq2]
       refine won 14 rfl fun K hK => ?_
       go_simp
       refine hK.out _ _ (fun _ h => h) ?_
       clear hK K
       try simp only [Act.put, sq0, sq1, sq2]
       refine won 15 rfl fun K hK => ?_
       go_simp
       refine hK.out _ _ (fun _ h => h) ?_
       clear hK K
       try simp only [Act.put, sq0, sq1, sq2]
       refine won 16 rfl fun K hK => ?_
       go_simp
       refine hK.out _ _ (fun _ h => h) ?_
       clear hK K
       try simp only [Act.put, sq0, sq1, sq2]
       refine won 17 rfl fun K hK => ?_
       go_simp
       refine hK.out _ _ (fun _ h => h) ?_
       clear hK K
       try simp only [Act.put, sq0, sq1, sq2]
       have hSn := HS.out _ hB10
       refine won 18 rfl fun K hK => ?_
       go_simp
       refine hK.out _ _ (fun _ h => h) ?_
       clear hK K
       clear hSn
       try simp only [Act.put, sq0, sq1, sq2]
       refine won 19 rfl fun K hK => ?_
       go_simp
       refine hK.out _ _ (fun _ h => h) ?_
       clear hK K
       try simp only [Act.put, sq0, sq1, sq2]
       refine won 20 rfl fun K hK => ?_
       go_simp
       refine hK.out _ _ (fun _ h => h) ?_
       clear hK K
       try simp only [Act.put, sq0, sq1, sq2]
       refine won 21 rfl fun K hK => ?_
       go_simp
       refine hK.out _ _ (fun _ h => h) ?_
       clear hK K
       try simp only [Act.put, sq0, sq1, sq2]
       refine wpAnyM_done (by kernel_rfl) ?_ _
       try simp only [Act.put, sq0, sq1, sq2]
       go_wp2_with fail
       go_meet
       exact ⟨by rw [HBad.out], hB10⟩
     ·go_simp
      have hBb := hB0.alloc hB0.size (.cells #[.string (bs s)] 9)
      have HTmp := Lib.hid (Blk.new (wd) 9 [.string (bs s)])
      have hlt8 : (wd).heap.size < ((wd).alloc (.cells #[.string (bs s)] 9)).heap.size := by simp
      refine hK.out _ _ (fun _ _ => HS.out _ hBb) ?_
      clear hK K
      try simp only [Act.put, sq0, sq1, sq2]
      obtain ⟨wb, hwb⟩ : ∃ q, (wd).alloc (.cells #[.string (bs s)] 9) = q := ⟨_, rfl⟩
      rw [hwb] at hBb HTmp hlt8
      try simp only [hwb]
      obtain ⟨g8, hg8⟩ : ∃ q, (wd).heap.size = q := ⟨_, rfl⟩
      rw [hg8] at HTmp hlt8
      try simp only [hg8]
      clear hwb
      refine won 0 rfl fun K hK => ?_
      go_simp
      have hBa := hBb.alloc hBb.size (.cells #[] 9)
      have hown0 := own_empty (heap_alloc_new (wb) (.cells #[] 9)) hBb.size
      have hlt0 : (wb).heap.size < ((wb).alloc (.cells #[] 9)).heap.size := by simp
      replace HTmp := Lib.hid (HTmp.out.alloc (.cells #[] 9))
      refine hK.out _ _ (fun _ _ => HS.out _ hBa) ?_
      clear hK K
      try simp only [Act.put, sq0, sq1, sq2]
      obtain ⟨wa, hwa⟩ : ∃ q, (wb).alloc (.cells #[] 9) = q := ⟨_, rfl⟩
      rw [hwa] at hBa hown0 hlt0 HTmp
      try simp only [hwa]
      obtain ⟨g0, hg0⟩ : ∃ q, (wb).heap.size = q := ⟨_, rfl⟩
      rw [hg0] at hown0 hlt0
      try simp only [hg0]
      clear hwa
      have hne08 : g8 ≠ g0 := by omega
      refine won 5 rfl fun K hK => ?_
      refine step_append_row (by rfl) _ _ (by rfl) w2.heap.size B (.slice (some ⟨g0, 0, none⟩) 0 0) 0 L.length [] (namesD L) (by rfl) hown0 vN (by rfl) (owns_later hrN hBa) (by omega) hBa.size (fun v5 w5 hown5 hg5 hat5 => ?_)
      have hB5 := hBa.grown hg5 hBa.size (fun q hq => (hown0.lt q hq).1)
      replace HTmp := Lib.hid (HTmp.out.at (hg5.block g8 HTmp.out.lt (fun e => hne08 (by injection e))))
      refine hK.out _ _ (fun _ _ => HS.out _ hB5) ?_
      clear hK K
      try simp only [Act.put, sq0, sq1, sq2]
      refine won 9 rfl fun K hK => ?_
      refine step_append_row_one (by rfl) _ _ (by rfl) w2.heap.size v5 (0 + L.length) ([] ++ strs (namesD L)) (by rfl) hown5 g8 1 (.string (bs s)) (by rfl) HTmp.out (by rfl) (by omega) hB5.size (fun v9 w9 hown9 hg9 => ?_)
      have hB9 := hB5.grown hg9 hB5.size (fun q hq => (hown5.lt q hq).1)
      refine hK.out _ _ (fun _ _ => HS.out _ hB9) ?_
      clear hK K
      try simp only [Act.put, sq0, sq1, sq2]
      refine won 10 rfl fun K hK => ?_
      go_simp
      refine (rsorted_any w9 v9 (namesD L ++ [s]) (own_texts (by rw [List.nil_append, strs_snoc, Nat.zero_add] at hown9; rw [List.length_append, namesD, List.length_map]; exact hown9)) (by rw [List.length_append, List.length_singleton, namesD, List.length_map]; omega) HKs.out).mono ?_
      rintro e w10 ⟨v10, rfl, ⟨g10, c10, rfl, -⟩, hb10⟩
      rw [hR] at *
      have hB10 := below_next hB9 hb10
      refine hK.out _ _ (fun _ _ => HS.out _ hB10) ?_
      clear hK K
      try simp only [Act.put, sq0, sq1, sq2]
      refine won 11 rfl fun K hK => ?_
      go_simp
      refine hK.out _ _ (fun _ h => h) ?_
      clear hK K
      try simp only [Act.put, sq0, sq1, sq2]
      refine won 12 rfl fun K hK => ?_
      go_simp
      refine hK.out _ _ (fun _ h => h) ?_
      clear hK K
      try simp only [Act.put, sq0, sq1, sq2]
      refine won 13 rfl fun K hK => ?_
      go_simp
      refine hK.out _ _ (fun _ h => h) ?_
      clear hK K
      try simp only [Act.put, sq0, sq1, sq2]
      refine won 14 rfl fun K hK => ?_
      go_simp
      refine hK.out _ _ (fun _ h => h) ?_
      clear hK K
      try simp only [Act.put, sq0, sq1, sq2]
      refine won 15 rfl fun K hK => ?_
      go_simp
      refine hK.out _ _ (fun _ h => h) ?_
      clear hK K
      try simp only [Act.put, sq0, sq1, sq2]
      refine won 16 rfl fun K hK => ?_
      go_simp
      refine hK.out _ _ (fun _ h => h) ?_
      clear hK K
      try simp only [Act.put, sq0, sq1, sq2]
      refine won 17 rfl fun K hK => ?_
      go_simp
      refine hK.out _ _ (fun _ h => h) ?_
      clear hK K
      try simp only [Act.put, sq0, sq1, sq2]
      have hSn := HS.out _ hB10
      refine won 18 rfl fun K hK => ?_
      go_simp
      refine hK.out _ _ (fun _ h => h) ?_
      clear hK K
      clear hSn
      try simp only [Act.put, sq0, sq1, sq2]
      refine won 19 rfl fun K hK => ?_
      go_simp
      refine hK.out _ _ (fun _ h => h) ?_
      clear hK K
      try simp only [Act.put, sq0, sq1, sq2]
      refine won 20 rfl fun K hK => ?_
      go_simp
      refine hK.out _ _ (fun _ h => h) ?_
      clear hK K
      try simp only [Act.put, sq0, sq1, sq2]
      refine won 21 rfl fun K hK => ?_
      go_simp
      refine hK.out _ _ (fun _ h => h) ?_
      clear hK K
      try simp only [Act.put, sq0, sq1, sq2]
      refine wpAnyM_done (by kernel_rfl) ?_ _
      try simp only [Act.put, sq0, sq1, sq2]
      go_wp2_with fail
      go_meet
      exact ⟨by rw [HBad.out], hB10⟩
  case rest =>
   obtain ⟨rfl, hbc⟩ := hcut
   have HM3 := Lib.hid (HM2.out.below hbc)
   clear hx0 hx1 hx2 hx3 hx4 hx5 HM2 HS hrN hbc
   by_cases hBad : 20 < R.length ∨ L.length = 40
   ·have hdb := decide_eq_true hBad
    have HP7 := Lib.hid (HP.out.trans (if_pos hBad))
    clear HP
    rw [hdb]
    go_wp2_with fail
    go_ret
    rw [HP7.out]
    first | exact ⟨_, _, _, _, _, _, rfl, HM3.out.wi, HM3.out.bel.mono hB⟩ | exact ⟨rfl, ⟨_, _, _, _, _, _, HM3.out.wi⟩, HM3.out.bel.mono hB⟩
   ·have hdb := decide_eq_false hBad
    have HP0 := Lib.hid (HP.out.trans (if_neg hBad))
    have hB3 := Nat.le_trans hB HM3.out.bel.size
    have HEl := Lib.hid HM3.out.wi.len
    obtain ⟨i3, hi3, hy0, hy1, hy2⟩ := info_parts info_ptx'
    obtain ⟨j1, hj1, hja1, hjb1, hjc1⟩ := info_parts info_str
    obtain ⟨j2, hj2, hja2, hjb2, hjc2⟩ := info_parts info_strs
    obtain ⟨j3, hj3, hja3, hjb3, hjc3⟩ := info_parts info_i64
    obtain ⟨j4, hj4, hja4, hjb4, hjc4⟩ := info_parts info_bool'
    have hx2 := HM3.out.wi.bx.cell 2 rfl
    have hxl := HM3.out.wi.bx.lt
    clear HP hBad
    rw [hdb]
    go_wp2_with (at_builtin; go_loud (refine wpList_append_own_at _ rfl _ _ 23 rfl B 47 i3 (.agg #[.int .i64 0, .int .i64 0, .slice none 0 0]) 3 40 Tryz.underlying23 hi3 hy0 hy1 hy2 rfl (by decide) (.slice pT L.length cT) L.length ((L.zip E).flatMap wtc) rfl (HM3.out.wi.rT.alloc _) _ 1 1 [.int .i64 0, .int .i64 0, .slice none 0 0] rfl rfl (news_lit _ _ _ _ (by simp)) (ones_new) (by unfold maxLen; omega) (by omega) (by simp; omega) ?_))
    intro v4 w4 hown4 hgrow4 hnil4 hat4
    obtain ⟨p4, c4, rfl⟩ := owns_form hown4
    obtain ⟨hb4, hR4, hX4, hB4⟩ := HM3.out.addT hB s ln hown4 hgrow4 undef
    have h40 := hb4.cell 2 rfl
    have h4f := hb4.frozen 2
    clear hown4 hgrow4 hnil4 hat4
    go_wp2_with fail
    generalize w4.setCell ⟨gm, 2, none⟩ (.slice p4 (L.length + 1) c4) = w5 at *
    generalize Value.slice p4 (L.length + 1) c4 = vT4 at *
    have HR5 := Lib.hid (r10_drew hR4)
    have HX5 := Lib.hid hX4.drew
    have HB5 := Lib.hid hB4.drew
    have HS : RowKit.Hid (∀ w', Below w5.heap.size w5 w' → S10W gm gx s ln vN vK vL vO w') := Lib.hid (fun w' hb => S10W.at (w := w5) ⟨hR4.bx.cell 3 rfl, hR4.bx.cell 4 rfl, hR4.bx.cell 5 rfl, hR4.bx.cell 6 rfl, hX4.cell 1 rfl, hX4.cell 5 rfl⟩ (hb.block gm hR4.bx.lt) (hb.block gx hX4.lt))
    clear h40 h4f hb4 hR4 hX4 hB4 hx2 hxl
    refine wp_region_keep (S10W gm gx s ln vN vK vL vO) [34, 37, 40, 43] (by kernel_rfl) ?_
    have hB0 : Below w5.heap.size w5 w5.drew := Below.drew (Below.refl _ _)
    have hS0 := HS.out _ hB0
    refine wfr 0 (v := ?_) rfl ?_ ?_
    rotate_left
    ·intro w' hw';go_simp;try with_reducible rfl
    try simp only [Act.put, sq0, sq1, sq2]
    refine wfr 1 (v := ?_) rfl ?_ ?_
    rotate_left
    ·intro w' hw';go_simp;try with_reducible rfl
    try simp only [Act.put, sq0, sq1, sq2]
    refine wfr 2 (v := ?_) rfl ?_ ?_
    rotate_left
    ·intro w' hw';go_simp;try with_reducible rfl
    try simp only [Act.put, sq0, sq1, sq2]
    refine wfr 3 (v := ?_) rfl ?_ ?_
    rotate_left
    ·intro w' hw';go_simp;try with_reducible rfl
    try simp only [Act.put, sq0, sq1, sq2]
    refine wfr 4 (v := ?_) rfl ?_ ?_
    rotate_left
    ·intro w' hw';go_simp;try with_reducible rfl
    try simp only [Act.put, sq0, sq1, sq2]
    refine wfr 5 (v := ?_) rfl ?_ ?_
    rotate_left
    ·intro w' hw';go_simp;try with_reducible rfl
    try simp only [Act.put, sq0, sq1, sq2]
    refine wfr 6 (v := ?_) rfl ?_ ?_
    rotate_left
    ·intro w' hw';go_simp;try with_reducible rfl
    try simp only [Act.put, sq0, sq1, sq2]
    refine wtk 7 44 (v := ?_) rfl ?_ hS0 ?_
    rotate_left
    ·intro w' hw'
     unfold S10W at hw'
     go_simp
     try with_reducible rfl
    try simp only [Act.put, sq0, sq1, sq2]
    refine wfr 8 (v := ?_) rfl ?_ ?_
    rotate_left
    ·intro w' hw';go_simp;try with_reducible rfl
    try simp only [Act.put, sq0, sq1, sq2]
    refine wtk 9 44 (v := ?_) rfl ?_ hS0 ?_
    rotate_left
    ·intro w' hw'
     unfold S10W at hw'
     go_simp
     try with_reducible rfl
    try simp only [Act.put, sq0, sq1, sq2]
    refine wfr 12 (v := ?_) rfl ?_ ?_
    rotate_left
    ·intro w' hw';go_simp;try with_reducible rfl
    try simp only [Act.put, sq0, sq1, sq2]
    refine wfr 13 (v := ?_) rfl ?_ ?_
    rotate_left
    ·intro w' hw';go_simp;try with_reducible rfl
    try simp only [Act.put, sq0, sq1, sq2]
    refine wfr 14 (v := ?_) rfl ?_ ?_
    rotate_left
    ·intro w' hw';go_simp;try with_reducible rfl
    try simp only [Act.put, sq0, sq1, sq2]
    refine wtk 15 44 (v := ?_) rfl ?_ hS0 ?_
    rotate_left
    ·intro w' hw'
     unfold S10W at hw'
     go_simp
     try with_reducible rfl
    try simp only [Act.put, sq0, sq1, sq2]
    refine wfr 18 (v := ?_) rfl ?_ ?_
    rotate_left
    ·intro w' hw';go_simp;try with_reducible rfl
    try simp only [Act.put, sq0, sq1, sq2]
    refine wfr 19 (v := ?_) rfl ?_ ?_
    rotate_left
    ·intro w' hw';go_simp;try with_reducible rfl
    try simp only [Act.put, sq0, sq1, sq2]
    refine wfr 20 (v := ?_) rfl ?_ ?_
    rotate_left
    ·intro w' hw';go_simp;try with_reducible rfl
    try simp only [Act.put, sq0, sq1, sq2]
    refine wtk 21 44 (v := ?_) rfl ?_ hS0 ?_
    rotate_left
    ·intro w' hw'
     unfold S10W at hw'
     go_simp
     try with_reducible rfl
    try simp only [Act.put, sq0, sq1, sq2]
    refine wfr 22 (v := ?_) rfl ?_ ?_
    rotate_left
    ·intro w' hw';go_simp;try with_reducible rfl
    try simp only [Act.put, sq0, sq1, sq2]
    refine wtk 23 44 (v := ?_) rfl ?_ hS0 ?_
    rotate_left
    ·intro w' hw'
     unfold S10W at hw'
     go_simp
     try with_reducible rfl
    try simp only [Act.put, sq0, sq1, sq2]
    refine wfr 26 (v := ?_) rfl ?_ ?_
    rotate_left
    ·intro w' hw';go_simp;try with_reducible rfl
    try simp only [Act.put, sq0, sq1, sq2]
    refine wfr 27 (v := ?_) rfl ?_ ?_
    rotate_left
    ·intro w' hw';go_simp;try with_reducible rfl
    try simp only [Act.put, sq0, sq1, sq2]
    refine wfr 28 (v := ?_) rfl ?_ ?_
    rotate_left
    ·intro w' hw';go_simp;try with_reducible rfl
    try simp only [Act.put, sq0, sq1, sq2]
    refine wtk 29 44 (v := ?_) rfl ?_ hS0 ?_
    rotate_left
    ·intro w' hw'
     unfold S10W at hw'
     go_simp
     try with_reducible rfl
    try simp only [Act.put, sq0, sq1, sq2]
    refine wpAnyM_steps0 (I := (fun A0 m9 listed a w' => ∃ (s1 s2 s3 s4 : Nat) (u62 u63 u68 u69 u76 u77 u82 u83 cN cK cL cO : Value), s1 ≤ 2 ∧ s2 ≤ 2 ∧ s3 ≤ 2 ∧ s4 ≤ 2 ∧ s1 + s2 + s3 + s4 + m9 = 8 ∧ (s2 = 2 → s1 = 2) ∧ (s3 = 2 → s2 = 2) ∧ (s4 = 2 → s3 = 2) ∧ listed = mkL s1 s2 s3 s4 ∧ a = { tmps := ((((((((A0.tmps.setIfInBounds 62 u62).setIfInBounds 63 u63).setIfInBounds 68 u68).setIfInBounds 69 u69).setIfInBounds 76 u76).setIfInBounds 77 u77).setIfInBounds 82 u82).setIfInBounds 83 u83), defers := A0.defers } ∧ (s1 = 2 → u63 = cN) ∧ (s2 = 2 → u69 = cK) ∧ (s3 = 2 → u77 = cL) ∧ (s4 = 2 → u83 = cO) ∧ R10 w' B gm L E s ln (L.length + 1) ((L.zip E).flatMap wtc ++ [.int .i64 0, .int .i64 0, .slice none 0 0]) vT4 vN vK vL vO s1 s2 s3 s4 cN cK cL cO u62 u68 u76 u82 ∧ Blk w' gx 123 [.int .i64 1, .string (bs s), .string (bs key), .int .i64 vk, .int .i64 n, .int .i64 ln] ∧ Below B w w')) 12 8 ?_ ?_ ?_ ?_
    ·rintro n' listed a w' ⟨s1, s2, s3, s4, u62, u63, u68, u69, u76, u77, u82, u83, cN, cK, cL, cO, z1, z2, z3, z4, hsum, ch2, ch3, ch4, rfl, rfl, e1, e2, e3, e4, hR, hbx, hbw⟩
     have hlt : s1 + s2 + s3 + s4 < 8 := by omega
     clear hsum hR hbx hbw e1 e2 e3 e4
     obtain ⟨f1, hf1⟩ : ∃ f : Fin 3, s1 = f.val := ⟨⟨s1, by omega⟩, rfl⟩
     obtain ⟨f2, hf2⟩ : ∃ f : Fin 3, s2 = f.val := ⟨⟨s2, by omega⟩, rfl⟩
     obtain ⟨f3, hf3⟩ : ∃ f : Fin 3, s3 = f.val := ⟨⟨s3, by omega⟩, rfl⟩
     obtain ⟨f4, hf4⟩ : ∃ f : Fin 3, s4 = f.val := ⟨⟨s4, by omega⟩, rfl⟩
     subst hf1 hf2 hf3 hf4
     clear z1 z2 z3 z4
     revert f1 f2 f3 f4
     decide +kernel
    ·rintro n' listed a w' ⟨s1, s2, s3, s4, u62, u63, u68, u69, u76, u77, u82, u83, cN, cK, cL, cO, z1, z2, z3, z4, hsum, ch2, ch3, ch4, rfl, rfl, e1, e2, e3, e4, hR, hbx, hbw⟩ i o hi ho K hK
     have hcl : (i = 10 ∧ s1 = 0) ∨ (i = 11 ∧ s1 = 1) ∨ (i = 16 ∧ s2 = 0) ∨ (i = 17 ∧ s2 = 1 ∧ s1 = 2) ∨ (i = 24 ∧ s3 = 0) ∨ (i = 25 ∧ s3 = 1 ∧ s2 = 2) ∨ (i = 30 ∧ s4 = 0) ∨ (i = 31 ∧ s4 = 1 ∧ s3 = 2) := by
      refine of_decide_eq_true (of_all (fun i => decide ((i = 10 ∧ s1 = 0) ∨ (i = 11 ∧ s1 = 1) ∨ (i = 16 ∧ s2 = 0) ∨ (i = 17 ∧ s2 = 1 ∧ s1 = 2) ∨ (i = 24 ∧ s3 = 0) ∨ (i = 25 ∧ s3 = 1 ∧ s2 = 2) ∨ (i = 30 ∧ s4 = 0) ∨ (i = 31 ∧ s4 = 1 ∧ s3 = 2))) ?_ hi)
      have hlt : s1 + s2 + s3 + s4 < 8 := by omega
      clear hsum hR hbx hbw e1 e2 e3 e4 ho hK hi
      clear i
      obtain ⟨f1, hf1⟩ : ∃ f : Fin 3, s1 = f.val := ⟨⟨s1, by omega⟩, rfl⟩
      obtain ⟨f2, hf2⟩ : ∃ f : Fin 3, s2 = f.val := ⟨⟨s2, by omega⟩, rfl⟩
      obtain ⟨f3, hf3⟩ : ∃ f : Fin 3, s3 = f.val := ⟨⟨s3, by omega⟩, rfl⟩
      obtain ⟨f4, hf4⟩ : ∃ f : Fin 3, s4 = f.val := ⟨⟨s4, by omega⟩, rfl⟩
      subst hf1 hf2 hf3 hf4
      clear z1 z2 z3 z4
      revert f1 f2 f3 f4
      decide +kernel
     clear hi
     rcases hcl with ⟨rfl, rfl⟩ | ⟨rfl, rfl⟩ | ⟨rfl, rfl⟩ | ⟨rfl, rfl, hpr⟩ | ⟨rfl, rfl⟩ | ⟨rfl, rfl, hpr⟩ | ⟨rfl, rfl⟩ | ⟨rfl, rfl, hpr⟩
     ·simp only [List.getElem?_toArray, List.getElem?_cons_succ, List.getElem?_cons_zero, Option.some.injEq] at ho
      subst ho
      try simp only [List.setIfInBounds_toArray, List.set_cons_zero, List.set_cons_succ]
      go_simp
      refine hK.out _ _ (fun _ hS => hS.at (heap_kept _ _ hR.bx.lt) (heap_kept _ _ hbx.lt)) ⟨1, s2, s3, s4, (.slice (some ⟨w'.heap.size, 0, none⟩) 1 1), u63, u68, u69, u76, u77, u82, u83, cN, cK, cL, cO, by omega, by omega, by omega, by omega, by omega, by omega, by omega, by omega, mkL_10 ⟨z2, z3, z4⟩, by simp only [List.setIfInBounds_toArray, List.set_cons_zero, List.set_cons_succ], (fun h => by cases h), e2, e3, e4, R10.alloc1 (_s1 := 0) hR, hbx.alloc _, hbw.alloc (Nat.le_trans hB hbw.size) _⟩
     ·simp only [List.getElem?_toArray, List.getElem?_cons_succ, List.getElem?_cons_zero, Option.some.injEq] at ho
      subst ho
      try simp only [List.setIfInBounds_toArray, List.set_cons_zero, List.set_cons_succ]
      obtain ⟨b9, hu9, hblk⟩ := hR.c1 rfl
      subst hu9
      have hro := hR.a1 (by decide)
      refine step_append_own_c (by rfl) _ _ 22 (by rfl) B 9 j1 (.string ByteArray.empty) 1 16 Tryz.underlying22 hj1 hja1 hjb1 hjc1 rfl (by decide) vN L.length (L.flatMap nmd) (by rfl) hro ⟨b9, 0, none⟩ 1 1 [.string (bs s)] (by rfl) rfl (fun q u hu => by rw [Addr.add_lit, Nat.zero_add]; exact hblk.cell q hu) (fun u hu => by simp at hu; subst hu; rfl) (by unfold maxLen; omega) (by omega) (Nat.le_trans hB hbw.size) (fun v9 w9 hown9 hg9 hat9 => ?_)
      try simp only [Act.put, sq0, sq1, sq2]
      have hno : ∀ {q t}, Ty w' q t → t ≠ 9 → w9.heap[q]? = w'.heap[q]? := fun {q t} hq hne => hg9.block q hq.lt (fun e => (hq.ne (owns_ty hro e.symm) hne) rfl)
      refine hK.out _ _ (fun _ hS => hS.at (hno hR.bx.ty (by decide)) (hno hbx.ty (by decide))) ⟨2, s2, s3, s4, _, v9, u68, u69, u76, u77, u82, u83, v9, cK, cL, cO, by omega, by omega, by omega, by omega, by omega, by omega, by omega, by omega, mkL_11 ⟨z2, z3, z4⟩, by simp only [List.setIfInBounds_toArray, List.set_cons_zero, List.set_cons_succ], (fun _ => rfl), e2, e3, e4, R10.app1 (_s1 := 0) hR hg9 hown9 hat9, hbx.at (hno hbx.ty (by decide)), hbw.grown hg9 (Nat.le_trans hB hbw.size) (fun q hq => (hro.lt q hq).1)⟩
     ·simp only [List.getElem?_toArray, List.getElem?_cons_succ, List.getElem?_cons_zero, Option.some.injEq] at ho
      subst ho
      try simp only [List.setIfInBounds_toArray, List.set_cons_zero, List.set_cons_succ]
      go_simp
      refine hK.out _ _ (fun _ hS => hS.at (heap_kept _ _ hR.bx.lt) (heap_kept _ _ hbx.lt)) ⟨s1, 1, s3, s4, u62, u63, (.slice (some ⟨w'.heap.size, 0, none⟩) 1 1), u69, u76, u77, u82, u83, cN, cK, cL, cO, by omega, by omega, by omega, by omega, by omega, by omega, by omega, by omega, mkL_16 ⟨z1, z3, z4⟩, by simp only [List.setIfInBounds_toArray, List.set_cons_zero, List.set_cons_succ], e1, (fun h => by cases h), e3, e4, R10.alloc2 (_s2 := 0) hR, hbx.alloc _, hbw.alloc (Nat.le_trans hB hbw.size) _⟩
     ·simp only [List.getElem?_toArray, List.getElem?_cons_succ, List.getElem?_cons_zero, Option.some.injEq] at ho
      subst ho
      try simp only [List.setIfInBounds_toArray, List.set_cons_zero, List.set_cons_succ]
      obtain ⟨b9, hu9, hblk⟩ := hR.c2 rfl
      subst hu9
      have hro := hR.a2 (by decide)
      refine step_append_own_c (by rfl) _ _ 144 (by rfl) B 22 j2 (.slice none 0 0) 1 24 Tryz.underlying144 hj2 hja2 hjb2 hjc2 rfl (by decide) vK L.length (E.flatMap ksd) (by rfl) hro ⟨b9, 0, none⟩ 1 1 [.slice none 0 0] (by rfl) rfl (fun q u hu => by rw [Addr.add_lit, Nat.zero_add]; exact hblk.cell q hu) (fun u hu => by simp at hu; subst hu; rfl) (by unfold maxLen; omega) (by omega) (Nat.le_trans hB hbw.size) (fun v9 w9 hown9 hg9 hat9 => ?_)
      try simp only [Act.put, sq0, sq1, sq2]
      have hno : ∀ {q t}, Ty w' q t → t ≠ 22 → w9.heap[q]? = w'.heap[q]? := fun {q t} hq hne => hg9.block q hq.lt (fun e => (hq.ne (owns_ty hro e.symm) hne) rfl)
      refine hK.out _ _ (fun _ hS => hS.at (hno hR.bx.ty (by decide)) (hno hbx.ty (by decide))) ⟨s1, 2, s3, s4, u62, u63, _, v9, u76, u77, u82, u83, cN, v9, cL, cO, by omega, by omega, by omega, by omega, by omega, by omega, by omega, by omega, mkL_17 ⟨z1, z3, z4⟩, by simp only [List.setIfInBounds_toArray, List.set_cons_zero, List.set_cons_succ], e1, (fun _ => rfl), e3, e4, R10.app2 (_s2 := 0) hR hg9 hown9 hat9, hbx.at (hno hbx.ty (by decide)), hbw.grown hg9 (Nat.le_trans hB hbw.size) (fun q hq => (hro.lt q hq).1)⟩
     ·simp only [List.getElem?_toArray, List.getElem?_cons_succ, List.getElem?_cons_zero, Option.some.injEq] at ho
      subst ho
      try simp only [List.setIfInBounds_toArray, List.set_cons_zero, List.set_cons_succ]
      go_simp
      refine hK.out _ _ (fun _ hS => hS.at (heap_kept _ _ hR.bx.lt) (heap_kept _ _ hbx.lt)) ⟨s1, s2, 1, s4, u62, u63, u68, u69, (.slice (some ⟨w'.heap.size, 0, none⟩) 1 1), u77, u82, u83, cN, cK, cL, cO, by omega, by omega, by omega, by omega, by omega, by omega, by omega, by omega, mkL_24 ⟨z1, z2, z4⟩, by simp only [List.setIfInBounds_toArray, List.set_cons_zero, List.set_cons_succ], e1, e2, (fun h => by cases h), e4, R10.alloc3 (_s3 := 0) hR, hbx.alloc _, hbw.alloc (Nat.le_trans hB hbw.size) _⟩
     ·simp only [List.getElem?_toArray, List.getElem?_cons_succ, List.getElem?_cons_zero, Option.some.injEq] at ho
      subst ho
      try simp only [List.setIfInBounds_toArray, List.set_cons_zero, List.set_cons_succ]
      obtain ⟨b9, hu9, hblk⟩ := hR.c3 rfl
      subst hu9
      have hro := hR.a3 (by decide)
      refine step_append_own_c (by rfl) _ _ 56 (by rfl) B 3 j3 (.int .i64 0) 1 8 Tryz.underlying56 hj3 hja3 hjb3 hjc3 rfl (by decide) vL L.length (L.flatMap lnd) (by rfl) hro ⟨b9, 0, none⟩ 1 1 [.int .i64 ln] (by rfl) rfl (fun q u hu => by rw [Addr.add_lit, Nat.zero_add]; exact hblk.cell q hu) (fun u hu => by simp at hu; subst hu; rfl) (by unfold maxLen; omega) (by omega) (Nat.le_trans hB hbw.size) (fun v9 w9 hown9 hg9 hat9 => ?_)
      try simp only [Act.put, sq0, sq1, sq2]
      have hno : ∀ {q t}, Ty w' q t → t ≠ 3 → w9.heap[q]? = w'.heap[q]? := fun {q t} hq hne => hg9.block q hq.lt (fun e => (hq.ne (owns_ty hro e.symm) hne) rfl)
      refine hK.out _ _ (fun _ hS => hS.at (hno hR.bx.ty (by decide)) (hno hbx.ty (by decide))) ⟨s1, s2, 2, s4, u62, u63, u68, u69, _, v9, u82, u83, cN, cK, v9, cO, by omega, by omega, by omega, by omega, by omega, by omega, by omega, by omega, mkL_25 ⟨z1, z2, z4⟩, by simp only [List.setIfInBounds_toArray, List.set_cons_zero, List.set_cons_succ], e1, e2, (fun _ => rfl), e4, R10.app3 (_s3 := 0) hR hg9 hown9 hat9, hbx.at (hno hbx.ty (by decide)), hbw.grown hg9 (Nat.le_trans hB hbw.size) (fun q hq => (hro.lt q hq).1)⟩
     ·simp only [List.getElem?_toArray, List.getElem?_cons_succ, List.getElem?_cons_zero, Option.some.injEq] at ho
      subst ho
      try simp only [List.setIfInBounds_toArray, List.set_cons_zero, List.set_cons_succ]
      go_simp
      refine hK.out _ _ (fun _ hS => hS.at (heap_kept _ _ hR.bx.lt) (heap_kept _ _ hbx.lt)) ⟨s1, s2, s3, 1, u62, u63, u68, u69, u76, u77, (.slice (some ⟨w'.heap.size, 0, none⟩) 1 1), u83, cN, cK, cL, cO, by omega, by omega, by omega, by omega, by omega, by omega, by omega, by omega, mkL_30 ⟨z1, z2, z3⟩, by simp only [List.setIfInBounds_toArray, List.set_cons_zero, List.set_cons_succ], e1, e2, e3, (fun h => by cases h), R10.alloc4 (_s4 := 0) hR, hbx.alloc _, hbw.alloc (Nat.le_trans hB hbw.size) _⟩
     ·simp only [List.getElem?_toArray, List.getElem?_cons_succ, List.getElem?_cons_zero, Option.some.injEq] at ho
      subst ho
      try simp only [List.setIfInBounds_toArray, List.set_cons_zero, List.set_cons_succ]
      obtain ⟨b9, hu9, hblk⟩ := hR.c4 rfl
      subst hu9
      have hro := hR.a4 (by decide)
      refine step_append_own_c (by rfl) _ _ 61 (by rfl) B 4 j4 (.bool false) 1 1 Tryz.underlying61 hj4 hja4 hjb4 hjc4 rfl (by decide) vO L.length (L.flatMap opd) (by rfl) hro ⟨b9, 0, none⟩ 1 1 [.bool true] (by rfl) rfl (fun q u hu => by rw [Addr.add_lit, Nat.zero_add]; exact hblk.cell q hu) (fun u hu => by simp at hu; subst hu; rfl) (by unfold maxLen; omega) (by omega) (Nat.le_trans hB hbw.size) (fun v9 w9 hown9 hg9 hat9 => ?_)
      try simp only [Act.put, sq0, sq1, sq2]
      have hno : ∀ {q t}, Ty w' q t → t ≠ 4 → w9.heap[q]? = w'.heap[q]? := fun {q t} hq hne => hg9.block q hq.lt (fun e => (hq.ne (owns_ty hro e.symm) hne) rfl)
      refine hK.out _ _ (fun _ hS => hS.at (hno hR.bx.ty (by decide)) (hno hbx.ty (by decide))) ⟨s1, s2, s3, 2, u62, u63, u68, u69, u76, u77, _, v9, cN, cK, cL, v9, by omega, by omega, by omega, by omega, by omega, by omega, by omega, by omega, mkL_31 ⟨z1, z2, z3⟩, by simp only [List.setIfInBounds_toArray, List.set_cons_zero, List.set_cons_succ], e1, e2, e3, (fun _ => rfl), R10.app4 (_s4 := 0) hR hg9 hown9 hat9, hbx.at (hno hbx.ty (by decide)), hbw.grown hg9 (Nat.le_trans hB hbw.size) (fun q hq => (hro.lt q hq).1)⟩
    ·rintro listed a w' ⟨s1, s2, s3, s4, u62, u63, u68, u69, u76, u77, u82, u83, cN, cK, cL, cO, z1, z2, z3, z4, hsum, ch2, ch3, ch4, rfl, rfl, e1, e2, e3, e4, hR, hbx, hbw⟩
     obtain rfl : s4 = 2 := by omega
     obtain rfl : s3 = 2 := ch4 rfl
     obtain rfl : s2 = 2 := ch3 rfl
     obtain rfl : s1 = 2 := ch2 rfl
     obtain rfl := e1 rfl
     obtain rfl := e2 rfl
     obtain rfl := e3 rfl
     obtain rfl := e4 rfl
     obtain ⟨pa, ca, rfl⟩ := owns_form (hR.b1 rfl)
     obtain ⟨pb, cb, rfl⟩ := owns_form (hR.b2 rfl)
     obtain ⟨pc, cc, rfl⟩ := owns_form (hR.b3 rfl)
     obtain ⟨pd, cd, rfl⟩ := owns_form (hR.b4 rfl)
     try simp only [List.setIfInBounds_toArray, List.set_cons_zero, List.set_cons_succ]
     have HDn := Lib.hid (R10.done HEl.out HM3.out.wi.base HM3.out.wi.neo HM3.out.wi.nek hR)
     have q3 := hR.bx.cell 3 rfl
     have q4 := hR.bx.cell 4 rfl
     have q5 := hR.bx.cell 5 rfl
     have q6 := hR.bx.cell 6 rfl
     have qf := hR.bx.frozen
     have hgm := HM3.out.wi.base
     have HB9 := Lib.hid ((((hbw.setCell (p := ⟨gm, 3, none⟩) hgm (.slice pa (L.length + 1) ca)).setCell (p := ⟨gm, 4, none⟩) hgm (.slice pb (L.length + 1) cb)).setCell (p := ⟨gm, 5, none⟩) hgm (.slice pc (L.length + 1) cc)).setCell (p := ⟨gm, 6, none⟩) hgm (.slice pd (L.length + 1) cd))
     clear hR hbx hbw ch2 ch3 ch4 e1 e2 e3 e4 hsum z1 z2 z3 z4
     refine won 32 rfl fun K hK => ?_
     go_simp
     refine hK.out _ _ (fun _ h => h) ?_
     clear hK K
     try simp only [Act.put, sq0, sq1, sq2]
     refine won 33 rfl fun K hK => ?_
     go_simp
     refine hK.out _ _ (fun _ h => h) ?_
     clear hK K
     try simp only [Act.put, sq0, sq1, sq2]
     refine won 34 rfl fun K hK => ?_
     go_simp
     refine hK.out _ _ (fun h => absurd h (by decide)) ?_
     clear hK K
     try simp only [Act.put, sq0, sq1, sq2]
     refine won 35 rfl fun K hK => ?_
     go_simp
     refine hK.out _ _ (fun _ h => h) ?_
     clear hK K
     try simp only [Act.put, sq0, sq1, sq2]
     refine won 36 rfl fun K hK => ?_
     go_simp
     refine hK.out _ _ (fun _ h => h) ?_
     clear hK K
     try simp only [Act.put, sq0, sq1, sq2]
     refine won 37 rfl fun K hK => ?_
     go_simp
     refine hK.out _ _ (fun h => absurd h (by decide)) ?_
     clear hK K
     try simp only [Act.put, sq0, sq1, sq2]
     refine won 38 rfl fun K hK => ?_
     go_simp
     refine hK.out _ _ (fun _ h => h) ?_
     clear hK K
     try simp only [Act.put, sq0, sq1, sq2]
     refine won 39 rfl fun K hK => ?_
     go_simp
     refine hK.out _ _ (fun _ h => h) ?_
     clear hK K
     try simp only [Act.put, sq0, sq1, sq2]
     refine won 40 rfl fun K hK => ?_
     go_simp
     refine hK.out _ _ (fun h => absurd h (by decide)) ?_
     clear hK K
     try simp only [Act.put, sq0, sq1, sq2]
     refine won 41 rfl fun K hK => ?_
     go_simp
     refine hK.out _ _ (fun _ h => h) ?_
     clear hK K
     try simp only [Act.put, sq0, sq1, sq2]
     refine won 42 rfl fun K hK => ?_
     go_simp
     refine hK.out _ _ (fun _ h => h) ?_
     clear hK K
     try simp only [Act.put, sq0, sq1, sq2]
     refine won 43 rfl fun K hK => ?_
     go_simp
     refine hK.out _ _ (fun h => absurd h (by decide)) ?_
     clear hK K
     try simp only [Act.put, sq0, sq1, sq2]
     refine wpAnyM_done (by kernel_rfl) ?_ _
     try simp only [Act.put, sq0, sq1, sq2]
     go_wp2_with fail
     go_ret
     rw [HP0.out]
     have hfin := HDn.out
     first | exact ⟨_, _, _, _, _, _, rfl, hfin, HB9.out⟩ | exact ⟨rfl, ⟨_, _, _, _, _, _, hfin⟩, HB9.out⟩
    ·exact ⟨0, 0, 0, 0, undef, undef, undef, undef, undef, undef, undef, undef, vN, vK, vL, vO, by decide, by decide, by decide, by decide, by decide, by decide, by decide, by decide, by decide +kernel, by simp only [List.setIfInBounds_toArray, List.set_cons_zero, List.set_cons_succ], (fun h => by cases h), (fun h => by cases h), (fun h => by cases h), (fun h => by cases h), HR5.out, HX5.out, HB5.out⟩
end Go.Proofs.YtmgchjddpmmglaaGreatDoor
