/-
  Layer 10 (pair), the document's answer: put, walked: a write. No conditions.
-/
import Derived.Test.YtmgchjddpmmglaaGreatDoorQSc
import Derived.Test.YtmgchjddpmmglaaGreatDoorQxPaQ
namespace Go.Proofs.YtmgchjddpmmglaaGreatDoor
open Go.RowKit Go.Lib Go.Maps
set_option maxRecDepth 100000 in
set_option maxHeartbeats 8000000 in
theorem rput10_k3 {w : World} {B gm : Nat} {L : List DraftM} {vT vN vK vL vO : Value} {E : List EntR} (k vk n ln : Int) (s key : List UInt8) (h : WI w B gm L vT vN vK vL vO E) (hG : GoodL L) (hs : s.length ≤ 1000000) (hkey : key.length ≤ 1000000) (hB : B ≤ w.heap.size) (hmb : mayE (k, s, key, vk, n, ln) = true) (hk : k = 3) :
  Calls Tryz.prog 167 #[.pointer (some ⟨gm, 0, none⟩), .agg #[.int .i64 k, .string (bs s), .string (bs key), .int .i64 vk, .int .i64 n, .int .i64 ln]] w fun e w' => ∃ vT' vN' vK' vL' vO' E', e = .returned (.int .i64 (putP L (k, s, key, vk, n, ln)).2) ∧ WI w' B gm (putP L (k, s, key, vk, n, ln)).1 vT' vN' vK' vL' vO' E' ∧ Below B w w' := by
 have H1 := Lib.hid (fun w' => remay_any k s key vk n ln hs hkey w')
 rw [hmb] at H1
 have HK := Lib.hid hk
 clear hk
 have hA1 := (Below.refl w.heap.size w).alloc (Nat.le_refl _) (.cells #[.int .i64 k, .string (bs s), .string (bs key), .int .i64 vk, .int .i64 n, .int .i64 ln] 123)
 have HM1 := Lib.hid (show StR w (w.alloc (.cells #[.int .i64 k, .string (bs s), .string (bs key), .int .i64 vk, .int .i64 n, .int .i64 ln] 123)) B gm w.heap.size L vT vN vK vL vO E (k, s, key, vk, n, ln) from
  ⟨h.below hA1, Blk.new w _ [.int .i64 k, .string (bs s), .string (bs key), .int .i64 vk, .int .i64 n, .int .i64 ln], hA1⟩)
 clear h hA1
 go_enter Tryz.func167, Tryz.ntmps167
 go_wp2_with fail
 refine (H1.out _).mono ?_
 rintro e w2 ⟨rfl, hb2⟩
 have HM2 := Lib.hid (HM1.out.below hb2)
 clear HM1 H1 hb2
 obtain ⟨gx, hgx⟩ : ∃ g, w.heap.size = g := ⟨_, rfl⟩
 rw [hgx] at HM2
 try simp only [hgx]
 have hx0 := HM2.out.box.cell 0 rfl
 have hx1 := HM2.out.box.cell 1 rfl
 have hx2 := HM2.out.box.cell 2 rfl
 have hx3 := HM2.out.box.cell 3 rfl
 have hx4 := HM2.out.box.cell 4 rfl
 have hx5 := HM2.out.box.cell 5 rfl
 have hk := HK.out
 clear HK
 subst hk
 have HAt := Lib.hid (rat10_any s HM2.out.wi (by have := hG.few; omega))
 go_wp2_with fail
 refine HAt.out.mono ?_
 rintro e w9 ⟨rfl, hw9⟩
 rw [hw9]
 clear hw9
 by_cases hA : atD L s < L.length
 ·have e9 : atI L s = (atD L s : Nat) := if_pos hA
  rw [e9]
  clear e9
  obtain ⟨i, hat⟩ : ∃ i, atD L s = i := ⟨_, rfl⟩
  rw [hat] at hA
  try simp only [hat]
  have hi := hA
  clear hA
  have h0 : ¬ ((i : Nat) : Int) < 0 := by omega
  obtain ⟨gT, cT, eT, aT, fT⟩ := own_cell (f := wtc) (s := 3) noQ wtc_len HM2.out.wi.rT (by simp [HM2.out.wi.len]) i hi
  subst eT
  rw [zip_atR L E HM2.out.wi.len i hi] at aT
  have aT2 := aT 2 _ rfl
  have hoi := HM2.out.wi.ops i hi
  have hki := HM2.out.wi.ks i hi
  obtain ⟨d, hd⟩ : ∃ d, L.getD i noD = d := ⟨_, rfl⟩
  obtain ⟨⟨vo, vks⟩, he⟩ : ∃ e, E.getD i noR = e := ⟨_, rfl⟩
  rw [hd, he] at hoi hki
  rw [he] at aT2
  dsimp only at hoi hki aT2
  obtain ⟨pe, ce, rfl⟩ := owns_form hoi
  obtain ⟨pk, ck, rfl⟩ := owns_form hki
  have hgd := hG.all _ (getD_memD L i hi)
  rw [hd] at hgd
  have hof := hgd.few
  have hkf : d.ks.length ≤ 20 := by rw [hgd.len]; exact hgd.few
  have hkall : ∀ x ∈ L, x.ks.length ≤ 20 := fun x hx => by rw [(hG.all x hx).len]; exact (hG.all x hx).few
  have hkn : (keysD L).length ≤ 800 := by have := keys_few L hkall; have := hG.few; omega
  have HKeys := Lib.hid (fun w' (hb : Below w2.heap.size w2 w') => rkeys10_any (HM2.out.wi.below hb) (by have := hG.few; omega) hkall)
  have HKs : RowKit.Hid (∀ x ∈ keysD L ++ [key], x.length ≤ 1000000) := Lib.hid (fun x hx => (List.mem_append.1 hx).elim (fun h => name_len x (keys_good hG x h)) (fun h => by rw [List.mem_singleton.1 h]; exact hkey))
  obtain ⟨R, hR⟩ : ∃ R, sortedN (keysD L ++ [key]) = R := ⟨_, rfl⟩
  have hP : putP L (3, s, key, vk, n, ln) = if d.ops.length = 20 ∨ 40 < R.length then (L, 7) else (L.set i (moreD d (3, s, key, vk, n, ln)), 0) := by
   unfold putP
   rw [if_neg (by rw [hmb]; decide), if_neg (by dsimp only; omega), if_neg (by dsimp only; rw [hat]; simpa using hi), if_neg (by dsimp only; omega)]
   dsimp only
   rw [hat, hd, hR]
  have HP := Lib.hid hP
  have HS : RowKit.Hid (∀ w', Below w2.heap.size w2 w' → (w'.cell? ⟨gm, 2, none⟩ = some (.slice (some ⟨gT, 0, none⟩) L.length cT) ∧ w'.cell? ⟨gT, i * 3 + 2, none⟩ = some (.slice pe d.ops.length ce) ∧ w'.cell? ⟨gx, 2, none⟩ = some (.string (bs key)) ∧ Below w2.heap.size w2 w')) := Lib.hid (fun w' hb => ⟨cell_later hb (HM2.out.wi.bx.cell 2 rfl), cell_later hb aT2, cell_later hb (HM2.out.box.cell 2 rfl), hb⟩)
  clear hP hgd hkall aT fT
  go_upto_region 17 with fail
  go_cut [135] from 114 to 135 (fun s135 wx => s135 = .bool (decide (d.ops.length = 20 ∨ 40 < R.length)) ∧ Below w2.heap.size w2 wx)
  case first =>
   clear hx0 hx1 hx2 hx3 hx4 hx5
   by_cases h20 : d.ops.length = 20
   ·have HBad : RowKit.Hid (decide (d.ops.length = 20 ∨ 40 < R.length) = true) := Lib.hid (decide_eq_true (.inl h20))
    have dE : ((d.ops.length : Int) == 20) = true := by simp; omega
    refine wp_region_keep (fun w' => w'.cell? ⟨gm, 2, none⟩ = some (.slice (some ⟨gT, 0, none⟩) L.length cT) ∧ w'.cell? ⟨gT, i * 3 + 2, none⟩ = some (.slice pe d.ops.length ce) ∧ w'.cell? ⟨gx, 2, none⟩ = some (.string (bs key)) ∧ Below w2.heap.size w2 w') [] (by kernel_rfl) ?_
    have hB0 : Below (w2).heap.size (w2) (w2).drew := Below.drew (Below.refl _ _)
    have hS0 := HS.out _ hB0
    refine wfr 0 (v := ?_) rfl ?_ ?_
    rotate_left
    ·intro w' hw';go_simp;try with_reducible rfl
    try simp only [Act.put, sq]
    refine wfr 1 (v := ?_) rfl ?_ ?_
    rotate_left
    ·intro w' hw';go_simp;try with_reducible rfl
    try simp only [Act.put, sq]
    refine wfr 2 (v := ?_) rfl ?_ ?_
    rotate_left
    ·intro w' hw';go_simp;try with_reducible rfl
    try simp only [Act.put, sq]
    refine wfr 3 (v := ?_) rfl ?_ ?_
    rotate_left
    ·intro w' hw';go_simp;try with_reducible rfl
    try simp only [Act.put, sq]
    refine wtk 4 22 (v := ?_) rfl ?_ hS0 ?_
    rotate_left
    ·intro w' hw';(try dsimp only at hw');go_simp;try with_reducible rfl
    try simp only [Act.put, sq]
    refine won 5 rfl fun K hK => ?_
    go_simp
    refine hK.out _ _ (fun _ h => h) ?_
    clear hK K
    try simp only [Act.put, sq]
    refine won 6 rfl fun K hK => ?_
    go_simp
    refine hK.out _ _ (fun _ h => h) ?_
    clear hK K
    try simp only [Act.put, sq]
    refine won 7 rfl fun K hK => ?_
    go_simp
    refine hK.out _ _ (fun _ h => h) ?_
    clear hK K
    try simp only [Act.put, sq]
    refine won 8 rfl fun K hK => ?_
    go_simp
    refine hK.out _ _ (fun _ h => h) ?_
    clear hK K
    try simp only [Act.put, sq]
    refine won 9 rfl fun K hK => ?_
    go_simp
    refine hK.out _ _ (fun _ h => h) ?_
    clear hK K
    try simp only [Act.put, sq]
    refine won 10 rfl fun K hK => ?_
    go_simp
    refine hK.out _ _ (fun _ h => h) ?_
    clear hK K
    try simp only [Act.put, sq]
    refine won 11 rfl fun K hK => ?_
    go_simp
    refine hK.out _ _ (fun _ h => h) ?_
    clear hK K
    try simp only [Act.put, sq]
    refine wpAnyM_free 12 (v := undef) rfl (by kernel_rfl) (by kernel_rfl) (by kernel_rfl) (fun _ _ _ h => h) (Or.inr ⟨by rfl, rfl⟩) ?_
    try simp only [Act.put, sq]
    refine wpAnyM_free 13 (v := undef) rfl (by kernel_rfl) (by kernel_rfl) (by kernel_rfl) (fun _ _ _ h => h) (Or.inr ⟨by rfl, rfl⟩) ?_
    try simp only [Act.put, sq]
    refine won 14 rfl fun K hK => ?_
    go_simp
    refine hK.out _ _ (fun _ h => h) ?_
    clear hK K
    try simp only [Act.put, sq]
    refine won 15 rfl fun K hK => ?_
    go_simp
    refine hK.out _ _ (fun _ h => h) ?_
    clear hK K
    try simp only [Act.put, sq]
    refine won 16 rfl fun K hK => ?_
    go_simp
    refine hK.out _ _ (fun _ _ => hS0) ?_
    clear hK K
    try simp only [Act.put, sq]
    refine won 17 rfl fun K hK => ?_
    go_simp
    refine hK.out _ _ (fun _ _ => hS0) ?_
    clear hK K
    try simp only [Act.put, sq]
    refine won 18 rfl fun K hK => ?_
    go_simp
    refine hK.out _ _ (fun _ _ => hS0) ?_
    clear hK K
    try simp only [Act.put, sq]
    refine won 19 rfl fun K hK => ?_
    go_simp
    refine hK.out _ _ (fun _ h => h) ?_
    clear hK K
    try simp only [Act.put, sq]
    refine won 20 rfl fun K hK => ?_
    go_simp
    refine hK.out _ _ (fun _ h => h) ?_
    clear hK K
    try simp only [Act.put, sq]
    refine won 21 rfl fun K hK => ?_
    go_simp
    refine hK.out _ _ (fun _ h => h) ?_
    clear hK K
    try simp only [Act.put, sq]
    refine wpAnyM_done (by kernel_rfl) ?_ _
    try simp only [Act.put, sq]
    go_wp2_with fail
    go_meet
    exact ⟨by rw [HBad.out], hB0⟩
   ·have dE : ((d.ops.length : Int) == 20) = false := by simp; omega
    by_cases h40 : 40 < R.length
    ·have HBad : RowKit.Hid (decide (d.ops.length = 20 ∨ 40 < R.length) = true) := Lib.hid (decide_eq_true (.inr h40))
     have d40 : (40 : Int) < (R.length : Int) := by omega
     clear h20 h40
     refine wp_region_keep (fun w' => w'.cell? ⟨gm, 2, none⟩ = some (.slice (some ⟨gT, 0, none⟩) L.length cT) ∧ w'.cell? ⟨gT, i * 3 + 2, none⟩ = some (.slice pe d.ops.length ce) ∧ w'.cell? ⟨gx, 2, none⟩ = some (.string (bs key)) ∧ Below w2.heap.size w2 w') [] (by kernel_rfl) ?_
     have hB0 : Below (w2).heap.size (w2) (w2).drew := Below.drew (Below.refl _ _)
     obtain ⟨wd, hwd⟩ : ∃ q, (w2).drew = q := ⟨_, rfl⟩
     rw [hwd] at hB0 ⊢
     have HZ0 : RowKit.Hid (wd.heap.size = (w2).heap.size) := Lib.hid (by rw [← hwd]; rfl)
     clear hwd
     refine wfr 0 (v := ?_) rfl ?_ ?_
     rotate_left
     ·intro w' hw';go_simp;try with_reducible rfl
     try simp only [Act.put, sq]
     refine wfr 1 (v := ?_) rfl ?_ ?_
     rotate_left
     ·intro w' hw';go_simp;try with_reducible rfl
     try simp only [Act.put, sq]
     refine wfr 2 (v := ?_) rfl ?_ ?_
     rotate_left
     ·intro w' hw';go_simp;try with_reducible rfl
     try simp only [Act.put, sq]
     refine wfr 3 (v := ?_) rfl ?_ ?_
     rotate_left
     ·intro w' hw';go_simp;try with_reducible rfl
     try simp only [Act.put, sq]
     refine wtk 4 22 (v := ?_) rfl ?_ (HS.out _ hB0) ?_
     rotate_left
     ·intro w' hw';(try dsimp only at hw');go_simp;try with_reducible rfl
     try simp only [Act.put, sq]
     refine won 5 rfl fun K hK => ?_
     go_simp
     refine hK.out _ _ (fun _ h => h) ?_
     clear hK K
     try simp only [Act.put, sq]
     refine won 6 rfl fun K hK => ?_
     go_simp
     refine hK.out _ _ (fun _ h => h) ?_
     clear hK K
     try simp only [Act.put, sq]
     refine won 7 rfl fun K hK => ?_
     go_simp
     refine hK.out _ _ (fun _ h => h) ?_
     clear hK K
     try simp only [Act.put, sq]
     have hSn := HS.out _ hB0
     refine won 8 rfl fun K hK => ?_
     go_simp
     refine hK.out _ _ (fun _ h => h) ?_
     clear hK K
     clear hSn
     try simp only [Act.put, sq]
     refine won 9 rfl fun K hK => ?_
     go_simp
     refine hK.out _ _ (fun _ h => h) ?_
     clear hK K
     try simp only [Act.put, sq]
     refine won 10 rfl fun K hK => ?_
     go_simp
     refine hK.out _ _ (fun _ h => h) ?_
     clear hK K
     try simp only [Act.put, sq]
     refine won 11 rfl fun K hK => ?_
     go_simp
     refine hK.out _ _ (fun _ h => h) ?_
     clear hK K
     try simp only [Act.put, sq]
     refine wfr 12 (v := ?_) rfl ?_ ?_
     rotate_left
     ·intro w' hw';go_simp;try with_reducible rfl
     try simp only [Act.put, sq]
     refine wfr 14 (v := ?_) rfl ?_ ?_
     rotate_left
     ·intro w' hw';go_simp;try with_reducible rfl
     try simp only [Act.put, sq]
     refine wtk 15 22 (v := ?_) rfl ?_ (HS.out _ hB0) ?_
     rotate_left
     ·intro w' hw';(try dsimp only at hw');go_simp;try with_reducible rfl
     try simp only [Act.put, sq]
     refine wpAnyM_two 13 16 rfl rfl (by kernel_rfl) (fun K hK => ?_) (fun K hK => ?_)
     ·go_simp
      refine (HKeys.out _ hB0).mono ?_
      rintro e w13 ⟨v13, rfl, hown13', hb13⟩
      have hown13 := owns_base hown13' hB0.size
      have hB13 := below_next hB0 hb13
      refine hK.out _ _ (fun _ _ => HS.out _ hB13) ?_
      clear hK K
      try simp only [Act.put, sq]
      refine won 16 rfl fun K hK => ?_
      go_simp
      have hB16 := hB13.alloc hB13.size (.cells #[.string (bs key)] 9)
      have HTmp := Lib.hid (Blk.new (w13) 9 [.string (bs key)])
      replace hown13 := hown13.alloc (.cells #[.string (bs key)] 9)
      refine hK.out _ _ (fun _ _ => HS.out _ hB16) ?_
      clear hK K
      try simp only [Act.put, sq]
      obtain ⟨w16, hw16⟩ : ∃ q, (w13).alloc (.cells #[.string (bs key)] 9) = q := ⟨_, rfl⟩
      rw [hw16] at hB16 HTmp
      rw [hw16] at hown13
      try simp only [hw16]
      obtain ⟨g16, hg16⟩ : ∃ q, (w13).heap.size = q := ⟨_, rfl⟩
      rw [hg16] at HTmp
      try simp only [hg16]
      clear hw16
      refine won 17 rfl fun K hK => ?_
      refine step_append_row_one (by rfl) _ _ (by rfl) w2.heap.size v13 (keysD L).length (strs (keysD L)) (by rfl) hown13 g16 1 (.string (bs key)) (by rfl) HTmp.out (by rfl) (by omega) hB16.size (fun v17 w17 hown17 hg17 => ?_)
      have hB17 := hB16.grown hg17 hB16.size (fun q hq => (hown13.lt q hq).1)
      refine hK.out _ _ (fun _ _ => HS.out _ hB17) ?_
      clear hK K
      try simp only [Act.put, sq]
      refine won 18 rfl fun K hK => ?_
      go_simp
      refine (rsorted_any w17 v17 (keysD L ++ [key]) (own_texts (by rw [strs_snoc] at hown17; rw [List.length_append]; exact hown17)) (by rw [List.length_append, List.length_singleton]; omega) HKs.out).mono ?_
      rintro e w18 ⟨v18, rfl, ⟨g18, c18, rfl, -⟩, hb18⟩
      rw [hR] at *
      have hB18 := below_next hB17 hb18
      refine hK.out _ _ (fun _ _ => HS.out _ hB18) ?_
      clear hK K
      try simp only [Act.put, sq]
      refine won 19 rfl fun K hK => ?_
      go_simp
      refine hK.out _ _ (fun _ h => h) ?_
      clear hK K
      try simp only [Act.put, sq]
      refine won 20 rfl fun K hK => ?_
      go_simp
      refine hK.out _ _ (fun _ h => h) ?_
      clear hK K
      try simp only [Act.put, sq]
      refine won 21 rfl fun K hK => ?_
      go_simp
      refine hK.out _ _ (fun _ h => h) ?_
      clear hK K
      try simp only [Act.put, sq]
      refine wpAnyM_done (by kernel_rfl) ?_ _
      try simp only [Act.put, sq]
      go_wp2_with fail
      go_meet
      exact ⟨by rw [HBad.out], hB18⟩
     ·go_simp
      have hB16 := hB0.alloc hB0.size (.cells #[.string (bs key)] 9)
      have HTmp := Lib.hid (Blk.new (wd) 9 [.string (bs key)])
      refine hK.out _ _ (fun _ _ => HS.out _ hB16) ?_
      clear hK K
      try simp only [Act.put, sq]
      obtain ⟨w16, hw16⟩ : ∃ q, (wd).alloc (.cells #[.string (bs key)] 9) = q := ⟨_, rfl⟩
      rw [hw16] at hB16 HTmp
      try simp only [hw16]
      obtain ⟨g16, hg16⟩ : ∃ q, (wd).heap.size = q := ⟨_, rfl⟩
      rw [hg16] at HTmp
      try simp only [hg16]
      clear hw16
      refine won 13 rfl fun K hK => ?_
      go_simp
      refine (HKeys.out _ hB16).mono ?_
      rintro e w13 ⟨v13, rfl, hown13', hb13⟩
      have hown13 := owns_base hown13' hB16.size
      have hB13 := below_next hB16 hb13
      replace HTmp := Lib.hid (HTmp.out.later hb13)
      refine hK.out _ _ (fun _ _ => HS.out _ hB13) ?_
      clear hK K
      try simp only [Act.put, sq]
      refine won 17 rfl fun K hK => ?_
      refine step_append_row_one (by rfl) _ _ (by rfl) w2.heap.size v13 (keysD L).length (strs (keysD L)) (by rfl) hown13 g16 1 (.string (bs key)) (by rfl) HTmp.out (by rfl) (by omega) hB13.size (fun v17 w17 hown17 hg17 => ?_)
      have hB17 := hB13.grown hg17 hB13.size (fun q hq => (hown13.lt q hq).1)
      refine hK.out _ _ (fun _ _ => HS.out _ hB17) ?_
      clear hK K
      try simp only [Act.put, sq]
      refine won 18 rfl fun K hK => ?_
      go_simp
      refine (rsorted_any w17 v17 (keysD L ++ [key]) (own_texts (by rw [strs_snoc] at hown17; rw [List.length_append]; exact hown17)) (by rw [List.length_append, List.length_singleton]; omega) HKs.out).mono ?_
      rintro e w18 ⟨v18, rfl, ⟨g18, c18, rfl, -⟩, hb18⟩
      rw [hR] at *
      have hB18 := below_next hB17 hb18
      refine hK.out _ _ (fun _ _ => HS.out _ hB18) ?_
      clear hK K
      try simp only [Act.put, sq]
      refine won 19 rfl fun K hK => ?_
      go_simp
      refine hK.out _ _ (fun _ h => h) ?_
      clear hK K
      try simp only [Act.put, sq]
      refine won 20 rfl fun K hK => ?_
      go_simp
      refine hK.out _ _ (fun _ h => h) ?_
      clear hK K
      try simp only [Act.put, sq]
      refine won 21 rfl fun K hK => ?_
      go_simp
      refine hK.out _ _ (fun _ h => h) ?_
      clear hK K
      try simp only [Act.put, sq]
      refine wpAnyM_done (by kernel_rfl) ?_ _
      try simp only [Act.put, sq]
      go_wp2_with fail
      go_meet
      exact ⟨by rw [HBad.out], hB18⟩
    ·have HBad : RowKit.Hid (decide (d.ops.length = 20 ∨ 40 < R.length) = false) := Lib.hid (decide_eq_false (fun h => h.elim h20 h40))
     have d40 : ¬ (40 : Int) < (R.length : Int) := by omega
     clear h20 h40
     refine wp_region_keep (fun w' => w'.cell? ⟨gm, 2, none⟩ = some (.slice (some ⟨gT, 0, none⟩) L.length cT) ∧ w'.cell? ⟨gT, i * 3 + 2, none⟩ = some (.slice pe d.ops.length ce) ∧ w'.cell? ⟨gx, 2, none⟩ = some (.string (bs key)) ∧ Below w2.heap.size w2 w') [] (by kernel_rfl) ?_
     have hB0 : Below (w2).heap.size (w2) (w2).drew := Below.drew (Below.refl _ _)
     obtain ⟨wd, hwd⟩ : ∃ q, (w2).drew = q := ⟨_, rfl⟩
     rw [hwd] at hB0 ⊢
     have HZ0 : RowKit.Hid (wd.heap.size = (w2).heap.size) := Lib.hid (by rw [← hwd]; rfl)
     clear hwd
     refine wfr 0 (v := ?_) rfl ?_ ?_
     rotate_left
     ·intro w' hw';go_simp;try with_reducible rfl
     try simp only [Act.put, sq]
     refine wfr 1 (v := ?_) rfl ?_ ?_
     rotate_left
     ·intro w' hw';go_simp;try with_reducible rfl
     try simp only [Act.put, sq]
     refine wfr 2 (v := ?_) rfl ?_ ?_
     rotate_left
     ·intro w' hw';go_simp;try with_reducible rfl
     try simp only [Act.put, sq]
     refine wfr 3 (v := ?_) rfl ?_ ?_
     rotate_left
     ·intro w' hw';go_simp;try with_reducible rfl
     try simp only [Act.put, sq]
     refine wtk 4 22 (v := ?_) rfl ?_ (HS.out _ hB0) ?_
     rotate_left
     ·intro w' hw';(try dsimp only at hw');go_simp;try with_reducible rfl
     try simp only [Act.put, sq]
     refine won 5 rfl fun K hK => ?_
     go_simp
     refine hK.out _ _ (fun _ h => h) ?_
     clear hK K
     try simp only [Act.put, sq]
     refine won 6 rfl fun K hK => ?_
     go_simp
     refine hK.out _ _ (fun _ h => h) ?_
     clear hK K
     try simp only [Act.put, sq]
     refine won 7 rfl fun K hK => ?_
     go_simp
     refine hK.out _ _ (fun _ h => h) ?_
     clear hK K
     try simp only [Act.put, sq]
     have hSn := HS.out _ hB0
     refine won 8 rfl fun K hK => ?_
     go_simp
     refine hK.out _ _ (fun _ h => h) ?_
     clear hK K
     clear hSn
     try simp only [Act.put, sq]
     refine won 9 rfl fun K hK => ?_
     go_simp
     refine hK.out _ _ (fun _ h => h) ?_
     clear hK K
     try simp only [Act.put, sq]
     refine won 10 rfl fun K hK => ?_
     go_simp
     refine hK.out _ _ (fun _ h => h) ?_
     clear hK K
     try simp only [Act.put, sq]
     refine won 11 rfl fun K hK => ?_
     go_simp
     refine hK.out _ _ (fun _ h => h) ?_
     clear hK K
     try simp only [Act.put, sq]
     refine wfr 12 (v := ?_) rfl ?_ ?_
     rotate_left
     ·intro w' hw';go_simp;try with_reducible rfl
     try simp only [Act.put, sq]
     refine wfr 14 (v := ?_) rfl ?_ ?_
     rotate_left
     ·intro w' hw';go_simp;try with_reducible rfl
     try simp only [Act.put, sq]
     refine wtk 15 22 (v := ?_) rfl ?_ (HS.out _ hB0) ?_
     rotate_left
     ·intro w' hw';(try dsimp only at hw');go_simp;try with_reducible rfl
     try simp only [Act.put, sq]
     refine wpAnyM_two 13 16 rfl rfl (by kernel_rfl) (fun K hK => ?_) (fun K hK => ?_)
     ·go_simp
      refine (HKeys.out _ hB0).mono ?_
      rintro e w13 ⟨v13, rfl, hown13', hb13⟩
      have hown13 := owns_base hown13' hB0.size
      have hB13 := below_next hB0 hb13
      refine hK.out _ _ (fun _ _ => HS.out _ hB13) ?_
      clear hK K
      try simp only [Act.put, sq]
      refine won 16 rfl fun K hK => ?_
      go_simp
      have hB16 := hB13.alloc hB13.size (.cells #[.string (bs key)] 9)
      have HTmp := Lib.hid (Blk.new (w13) 9 [.string (bs key)])
      replace hown13 := hown13.alloc (.cells #[.string (bs key)] 9)
      refine hK.out _ _ (fun _ _ => HS.out _ hB16) ?_
      clear hK K
      try simp only [Act.put, sq]
      obtain ⟨w16, hw16⟩ : ∃ q, (w13).alloc (.cells #[.string (bs key)] 9) = q := ⟨_, rfl⟩
      rw [hw16] at hB16 HTmp
      rw [hw16] at hown13
      try simp only [hw16]
      obtain ⟨g16, hg16⟩ : ∃ q, (w13).heap.size = q := ⟨_, rfl⟩
      rw [hg16] at HTmp
      try simp only [hg16]
      clear hw16
      refine won 17 rfl fun K hK => ?_
      refine step_append_row_one (by rfl) _ _ (by rfl) w2.heap.size v13 (keysD L).length (strs (keysD L)) (by rfl) hown13 g16 1 (.string (bs key)) (by rfl) HTmp.out (by rfl) (by omega) hB16.size (fun v17 w17 hown17 hg17 => ?_)
      have hB17 := hB16.grown hg17 hB16.size (fun q hq => (hown13.lt q hq).1)
      refine hK.out _ _ (fun _ _ => HS.out _ hB17) ?_
      clear hK K
      try simp only [Act.put, sq]
      refine won 18 rfl fun K hK => ?_
      go_simp
      refine (rsorted_any w17 v17 (keysD L ++ [key]) (own_texts (by rw [strs_snoc] at hown17; rw [List.length_append]; exact hown17)) (by rw [List.length_append, List.length_singleton]; omega) HKs.out).mono ?_
      rintro e w18 ⟨v18, rfl, ⟨g18, c18, rfl, -⟩, hb18⟩
      rw [hR] at *
      have hB18 := below_next hB17 hb18
      refine hK.out _ _ (fun _ _ => HS.out _ hB18) ?_
      clear hK K
      try simp only [Act.put, sq]
      refine won 19 rfl fun K hK => ?_
      go_simp
      refine hK.out _ _ (fun _ h => h) ?_
      clear hK K
      try simp only [Act.put, sq]
      refine won 20 rfl fun K hK => ?_
      go_simp
      refine hK.out _ _ (fun _ h => h) ?_
      clear hK K
      try simp only [Act.put, sq]
      refine won 21 rfl fun K hK => ?_
      go_simp
      refine hK.out _ _ (fun _ h => h) ?_
      clear hK K
      try simp only [Act.put, sq]
      refine wpAnyM_done (by kernel_rfl) ?_ _
      try simp only [Act.put, sq]
      go_wp2_with fail
      go_meet
      exact ⟨by rw [HBad.out], hB18⟩
     ·go_simp
      have hB16 := hB0.alloc hB0.size (.cells #[.string (bs key)] 9)
      have HTmp := Lib.hid (Blk.new (wd) 9 [.string (bs key)])
      refine hK.out _ _ (fun _ _ => HS.out _ hB16) ?_
      clear hK K
      try simp only [Act.put, sq]
      obtain ⟨w16, hw16⟩ : ∃ q, (wd).alloc (.cells #[.string (bs key)] 9) = q := ⟨_, rfl⟩
      rw [hw16] at hB16 HTmp
      try simp only [hw16]
      obtain ⟨g16, hg16⟩ : ∃ q, (wd).heap.size = q := ⟨_, rfl⟩
      rw [hg16] at HTmp
      try simp only [hg16]
      clear hw16
      refine won 13 rfl fun K hK => ?_
      go_simp
      refine (HKeys.out _ hB16).mono ?_
      rintro e w13 ⟨v13, rfl, hown13', hb13⟩
      have hown13 := owns_base hown13' hB16.size
      have hB13 := below_next hB16 hb13
      replace HTmp := Lib.hid (HTmp.out.later hb13)
      refine hK.out _ _ (fun _ _ => HS.out _ hB13) ?_
      clear hK K
      try simp only [Act.put, sq]
      refine won 17 rfl fun K hK => ?_
      refine step_append_row_one (by rfl) _ _ (by rfl) w2.heap.size v13 (keysD L).length (strs (keysD L)) (by rfl) hown13 g16 1 (.string (bs key)) (by rfl) HTmp.out (by rfl) (by omega) hB13.size (fun v17 w17 hown17 hg17 => ?_)
      have hB17 := hB13.grown hg17 hB13.size (fun q hq => (hown13.lt q hq).1)
      refine hK.out _ _ (fun _ _ => HS.out _ hB17) ?_
      clear hK K
      try simp only [Act.put, sq]
      refine won 18 rfl fun K hK => ?_
      go_simp
      refine (rsorted_any w17 v17 (keysD L ++ [key]) (own_texts (by rw [strs_snoc] at hown17; rw [List.length_append]; exact hown17)) (by rw [List.length_append, List.length_singleton]; omega) HKs.out).mono ?_
      rintro e w18 ⟨v18, rfl, ⟨g18, c18, rfl, -⟩, hb18⟩
      rw [hR] at *
      have hB18 := below_next hB17 hb18
      refine hK.out _ _ (fun _ _ => HS.out _ hB18) ?_
      clear hK K
      try simp only [Act.put, sq]
      refine won 19 rfl fun K hK => ?_
      go_simp
      refine hK.out _ _ (fun _ h => h) ?_
      clear hK K
      try simp only [Act.put, sq]
      refine won 20 rfl fun K hK => ?_
      go_simp
      refine hK.out _ _ (fun _ h => h) ?_
      clear hK K
      try simp only [Act.put, sq]
      refine won 21 rfl fun K hK => ?_
      go_simp
      refine hK.out _ _ (fun _ h => h) ?_
      clear hK K
      try simp only [Act.put, sq]
      refine wpAnyM_done (by kernel_rfl) ?_ _
      try simp only [Act.put, sq]
      go_wp2_with fail
      go_meet
      exact ⟨by rw [HBad.out], hB18⟩
  case rest =>
   obtain ⟨rfl, hbc⟩ := hcut
   have HM3 := Lib.hid (HM2.out.below hbc)
   have aT3 := cell_later hbc aT2
   replace hoi := owns_later hoi hbc
   replace hki := owns_later hki hbc
   clear hx0 hx1 hx2 hx3 hx4 hx5 HM2 HS HKeys aT2
   by_cases hBad : d.ops.length = 20 ∨ 40 < R.length
   ·have hdb := decide_eq_true hBad
    have HP7 := Lib.hid (HP.out.trans (if_pos hBad))
    clear HP
    rw [hdb]
    go_wp2_with fail
    go_ret
    rw [HP7.out]
    first | exact ⟨_, _, _, _, _, _, rfl, HM3.out.wi, HM3.out.bel.mono hB⟩ | exact ⟨rfl, ⟨_, _, _, _, _, _, HM3.out.wi⟩, HM3.out.bel.mono hB⟩
   ·have hdb := decide_eq_false hBad
    have HP0 := Lib.hid (HP.out.trans (if_neg hBad))
    have hB3 := Nat.le_trans hB HM3.out.bel.size
    have HQ3 := Lib.hid ((HM3.out.q hB).below (Below.drew (Below.refl wc.heap.size wc)) hB)
    obtain ⟨i3, hi3, hy0, hy1, hy2⟩ := info_parts info_pop
    obtain ⟨i4, hi4, hu0, hu1, hu2⟩ := info_parts info_str
    clear HP hBad
    rw [hdb]
    go_wp2_with fail
    have HS : RowKit.Hid (∀ w', Below wc.heap.size wc w' → (w'.cell? ⟨gm, 2, none⟩ = some (.slice (some ⟨gT, 0, none⟩) L.length cT) ∧ w'.cell? ⟨gT, i * 3 + 2, none⟩ = some (.slice pe d.ops.length ce) ∧ w'.cell? ⟨gx, 0, none⟩ = some (.int .i64 3) ∧ w'.cell? ⟨gx, 3, none⟩ = some (.int .i64 vk) ∧ w'.cell? ⟨gx, 4, none⟩ = some (.int .i64 n))) := Lib.hid (fun w' hb => ⟨cell_later hb (HM3.out.wi.bx.cell 2 rfl), cell_later hb aT3, cell_later hb (HM3.out.box.cell 0 rfl), cell_later hb (HM3.out.box.cell 3 rfl), cell_later hb (HM3.out.box.cell 4 rfl)⟩)
    have hoi9 := owns_later hoi (Below.drew (Below.refl wc.heap.size wc))
    have HAdd : RowKit.Hid (∀ (ob : Obj) v4 w4, w4.ownsRow B 51 4 v4 (d.ops.length + 1) (d.ops.flatMap opc ++ opc (true, 0, vk, n)) → (wc.drew.alloc ob).grownBy w4 (Value.ownBlock (.slice pe d.ops.length ce)) → (v4.ownBlock = Value.ownBlock (.slice pe d.ops.length ce) ∨ v4.ownBlock = some (wc.drew.alloc ob).heap.size) →
      w4.cell? ⟨gT, i * 3 + 2, none⟩ = some (.slice pe d.ops.length ce) ∧ w4.frozen? ⟨gT, i * 3 + 2, none⟩ = false ∧ StQ w (w4.setCell ⟨gT, i * 3 + 2, none⟩ v4) B gm gx (L.set i { d with ops := d.ops ++ [(true, 0, vk, n)] }) (.slice (some ⟨gT, 0, none⟩) L.length cT) vN vK vL vO (E.set i (v4, .slice pk d.ks.length ck)) (3, s, key, vk, n, ln)) := Lib.hid (fun ob v4 w4 h1 h2 h3 => by
     have q := HQ3.out.addop hB hi (true, 0, vk, n) (by rw [hd]; exact h1) (by rw [he]; exact h2) (by rw [he]; exact h3)
     rw [hd, he] at q
     exact q)
    refine wp_region_keep (fun w' => w'.cell? ⟨gm, 2, none⟩ = some (.slice (some ⟨gT, 0, none⟩) L.length cT) ∧ w'.cell? ⟨gT, i * 3 + 2, none⟩ = some (.slice pe d.ops.length ce) ∧ w'.cell? ⟨gx, 0, none⟩ = some (.int .i64 3) ∧ w'.cell? ⟨gx, 3, none⟩ = some (.int .i64 vk) ∧ w'.cell? ⟨gx, 4, none⟩ = some (.int .i64 n)) [25] (by kernel_rfl) ?_
    have hB0 : Below (wc).heap.size (wc) (wc).drew := Below.drew (Below.refl _ _)
    have hS0 := HS.out _ hB0
    refine wfr 0 (v := ?_) rfl ?_ ?_
    rotate_left
    ·intro w' hw';go_simp;try with_reducible rfl
    try simp only [Act.put, sq]
    refine wfr 1 (v := ?_) rfl ?_ ?_
    rotate_left
    ·intro w' hw';go_simp;try with_reducible rfl
    try simp only [Act.put, sq]
    refine wfr 2 (v := ?_) rfl ?_ ?_
    rotate_left
    ·intro w' hw';go_simp;try with_reducible rfl
    try simp only [Act.put, sq]
    refine wfr 3 (v := ?_) rfl ?_ ?_
    rotate_left
    ·intro w' hw';go_simp;try with_reducible rfl
    try simp only [Act.put, sq]
    refine wtk 4 26 (v := ?_) rfl ?_ hS0 ?_
    rotate_left
    ·intro w' hw';(try dsimp only at hw');go_simp;try with_reducible rfl
    try simp only [Act.put, sq]
    refine wfr 5 (v := ?_) rfl ?_ ?_
    rotate_left
    ·intro w' hw';go_simp;try with_reducible rfl
    try simp only [Act.put, sq]
    refine wfr 6 (v := ?_) rfl ?_ ?_
    rotate_left
    ·intro w' hw';go_simp;try with_reducible rfl
    try simp only [Act.put, sq]
    refine wfr 7 (v := ?_) rfl ?_ ?_
    rotate_left
    ·intro w' hw';go_simp;try with_reducible rfl
    try simp only [Act.put, sq]
    refine wfr 8 (v := ?_) rfl ?_ ?_
    rotate_left
    ·intro w' hw';go_simp;try with_reducible rfl
    try simp only [Act.put, sq]
    refine wfr 9 (v := ?_) rfl ?_ ?_
    rotate_left
    ·intro w' hw';go_simp;try with_reducible rfl
    try simp only [Act.put, sq]
    refine wtk 10 26 (v := ?_) rfl ?_ hS0 ?_
    rotate_left
    ·intro w' hw';(try dsimp only at hw');go_simp;try with_reducible rfl
    try simp only [Act.put, sq]
    refine wfr 11 (v := ?_) rfl ?_ ?_
    rotate_left
    ·intro w' hw';go_simp;try with_reducible rfl
    try simp only [Act.put, sq]
    refine wfr 12 (v := ?_) rfl ?_ ?_
    rotate_left
    ·intro w' hw';go_simp;try with_reducible rfl
    try simp only [Act.put, sq]
    refine wfr 13 (v := ?_) rfl ?_ ?_
    rotate_left
    ·intro w' hw';go_simp;try with_reducible rfl
    try simp only [Act.put, sq]
    refine wtk 14 26 (v := ?_) rfl ?_ hS0 ?_
    rotate_left
    ·intro w' hw';(try dsimp only at hw');go_simp;try with_reducible rfl
    try simp only [Act.put, sq]
    refine wfr 15 (v := ?_) rfl ?_ ?_
    rotate_left
    ·intro w' hw';go_simp;try with_reducible rfl
    try simp only [Act.put, sq]
    refine wtk 16 26 (v := ?_) rfl ?_ hS0 ?_
    rotate_left
    ·intro w' hw';(try dsimp only at hw');go_simp;try with_reducible rfl
    try simp only [Act.put, sq]
    refine wfr 17 (v := ?_) rfl ?_ ?_
    rotate_left
    ·intro w' hw';go_simp;try with_reducible rfl
    try simp only [Act.put, sq]
    refine won 18 rfl fun K hK => ?_
    go_simp
    refine hK.out _ _ (fun _ h => h) ?_
    clear hK K
    try simp only [Act.put, sq]
    refine won 19 rfl fun K hK => ?_
    go_simp
    refine hK.out _ _ (fun _ h => h) ?_
    clear hK K
    try simp only [Act.put, sq]
    refine won 20 rfl fun K hK => ?_
    go_simp
    refine hK.out _ _ (fun _ h => h) ?_
    clear hK K
    try simp only [Act.put, sq]
    refine won 21 rfl fun K hK => ?_
    go_simp
    refine hK.out _ _ (fun _ _ => HS.out _ (hB0.alloc (Nat.le_refl _) _)) ?_
    clear hK K
    try simp only [Act.put, sq]
    refine won 22 rfl fun K hK => ?_
    refine step_append_own_at (by rfl) _ _ 45 (by rfl) B 51 i3 (.agg #[.bool false, .int .i64 0, .int .i64 0, .int .i64 0]) 4 32 Tryz.underlying45 hi3 hy0 hy1 hy2 rfl (by decide) (.slice pe d.ops.length ce) d.ops.length (d.ops.flatMap opc) (by rfl) (hoi9.alloc _) ⟨wc.heap.size, 0, none⟩ 1 1 (opc (true, 0, vk, n)) (by rfl) rfl (news_lit _ _ _ _ rfl) (ones_opc _) (by unfold maxLen; omega) (by omega) (by simp; omega) (fun v4 w4 hown4 hgrow4 hat4 => ?_)
    have kb : ∀ {q t}, Ty wc.drew q t → t ≠ 51 → w4.heap[q]? = wc.drew.heap[q]? := fun {q t} hq hne => (hgrow4.block q (Nat.lt_of_lt_of_le hq.lt (by simp)) (fun e => (hq.ne (owns_ty hoi9 e.symm) hne) rfl)).trans (heap_kept _ _ hq.lt)
    have hbx := HQ3.out.box.at (kb HQ3.out.box.ty (by decide))
    have hkS := And.intro ((HQ3.out.wi.bx.at (kb HQ3.out.wi.bx.ty (by decide))).cell 2 rfl) (And.intro ((World.cell?_of_block (a := ⟨gT, i * 3 + 2, none⟩) (kb (owns_ty HQ3.out.wi.rT (g := gT) rfl) (by decide))).trans aT3) (And.intro (hbx.cell 0 rfl) (And.intro (hbx.cell 3 rfl) (hbx.cell 4 rfl))))
    clear hbx kb
    refine hK.out _ _ (fun _ _ => hkS) ?_
    clear hK K
    try simp only [Act.put, sq]
    refine won 23 rfl fun K hK => ?_
    go_simp
    refine hK.out _ _ (fun _ h => h) ?_
    clear hK K
    try simp only [Act.put, sq]
    refine won 24 rfl fun K hK => ?_
    go_simp
    refine hK.out _ _ (fun _ h => h) ?_
    clear hK K
    try simp only [Act.put, sq]
    obtain ⟨p4, c4, rfl⟩ := owns_form hown4
    have hD := HAdd.out _ _ _ hown4 hgrow4 hat4
    have HD := Lib.hid hD
    have h40 := hD.1
    have h4f := hD.2.1
    clear hD hown4 hgrow4 hat4
    refine won 25 rfl fun K hK => ?_
    go_simp
    refine hK.out _ _ (fun h => absurd h (by decide)) ?_
    clear hK K
    try simp only [Act.put, sq]
    refine wpAnyM_done (by kernel_rfl) ?_ _
    try simp only [Act.put, sq]
    clear HS hS0 hB0 h40 h4f aT3 hoi hoi9 hki HAdd HM3 HQ3
    go_wp2_with fail
    generalize w4.setCell ⟨gT, i * 3 + 2, none⟩ (.slice p4 (d.ops.length + 1) c4) = w5 at *
    generalize Value.slice p4 (d.ops.length + 1) c4 = v4 at *
    have HQ5 := Lib.hid HD.out.2.2
    clear HD
    obtain ⟨L5, hL5⟩ : ∃ q, L.set i { d with ops := d.ops ++ [(true, 0, vk, n)] } = q := ⟨_, rfl⟩
    have hl5 : L5.length = L.length := by rw [← hL5, List.length_set]
    have hg5 : L5.getD i noD = { d with ops := d.ops ++ [(true, 0, vk, n)] } := by rw [← hL5, getD_setD L i i _ hi, if_pos rfl]
    have hiE : i < E.length := by
     have := HQ5.out.wi.len
     rw [List.length_set, List.length_set] at this
     omega
    obtain ⟨E5, hE5⟩ : ∃ q, E.set i ((v4, .slice pk d.ks.length ck) : EntR) = q := ⟨_, rfl⟩
    have hge5 : E5.getD i noR = (v4, .slice pk d.ks.length ck) := by rw [← hE5, getD_setR E i i _ hiE, if_pos rfl]
    rw [hL5, hE5] at HQ5
    obtain ⟨gK, cK, eK, aK, fK⟩ := own_cell (f := ksd) (s := 1) noR (fun _ => rfl) HQ5.out.wi.rK HQ5.out.wi.len i (by rw [hl5]; exact hi)
    rw [hl5] at eK
    subst eK
    have aK0 := aK 0 _ rfl
    simp only [Nat.mul_one, Nat.add_zero] at aK0
    rw [hge5] at aK0
    have hki := HQ5.out.wi.ks i (by rw [hl5]; exact hi)
    rw [hg5, hge5] at hki
    dsimp only at hki aK0
    have HQ6 := Lib.hid (HQ5.out.below (Below.drew (Below.refl w5.heap.size w5)) hB)
    have hB5 := Nat.le_trans hB HQ5.out.bel.size
    have HS : RowKit.Hid (∀ w', Below w5.heap.size w5 w' → (w'.cell? ⟨gm, 4, none⟩ = some (.slice (some ⟨gK, 0, none⟩) L.length cK) ∧ w'.cell? ⟨gK, i, none⟩ = some (.slice pk d.ks.length ck) ∧ w'.cell? ⟨gx, 2, none⟩ = some (.string (bs key)))) := Lib.hid (fun w' hb => ⟨cell_later hb (HQ5.out.wi.bx.cell 4 rfl), cell_later hb aK0, cell_later hb (HQ5.out.box.cell 2 rfl)⟩)
    have hki9 := owns_later hki (Below.drew (Below.refl w5.heap.size w5))
    have HKey : RowKit.Hid (∀ (ob : Obj) v6 w6, w6.ownsRow B 9 1 v6 (d.ks.length + 1) (strs d.ks ++ [.string (bs key)]) → (w5.drew.alloc ob).grownBy w6 (Value.ownBlock (.slice pk d.ks.length ck)) → (v6.ownBlock = Value.ownBlock (.slice pk d.ks.length ck) ∨ v6.ownBlock = some (w5.drew.alloc ob).heap.size) →
      w6.cell? ⟨gK, i, none⟩ = some (.slice pk d.ks.length ck) ∧ w6.frozen? ⟨gK, i, none⟩ = false ∧ StQ w (w6.setCell ⟨gK, i, none⟩ v6) B gm gx (L.set i (moreD d (3, s, key, vk, n, ln))) (.slice (some ⟨gT, 0, none⟩) L.length cT) vN (.slice (some ⟨gK, 0, none⟩) L.length cK) vL vO (E5.set i (v4, v6)) (3, s, key, vk, n, ln)) := Lib.hid (fun ob v6 w6 h1 h2 h3 => by
     have h5 := HQ6.out
     rw [← hl5] at h5
     have q := StQ.addkey h5 hB (by rw [hl5]; exact hi) key (by rw [hg5]; exact h1) (by rw [hge5]; exact h2) (by rw [hge5]; exact h3)
     rw [hg5, hge5, hl5] at q
     rw [← hL5, List.set_set] at q
     exact q)
    clear aK fK
    refine wp_region_keep (fun w' => w'.cell? ⟨gm, 4, none⟩ = some (.slice (some ⟨gK, 0, none⟩) L.length cK) ∧ w'.cell? ⟨gK, i, none⟩ = some (.slice pk d.ks.length ck) ∧ w'.cell? ⟨gx, 2, none⟩ = some (.string (bs key))) [17] (by kernel_rfl) ?_
    have hB0 : Below (w5).heap.size (w5) (w5).drew := Below.drew (Below.refl _ _)
    have hS0 := HS.out _ hB0
    refine wfr 0 (v := ?_) rfl ?_ ?_
    rotate_left
    ·intro w' hw';go_simp;try with_reducible rfl
    try simp only [Act.put, sq]
    refine wfr 1 (v := ?_) rfl ?_ ?_
    rotate_left
    ·intro w' hw';go_simp;try with_reducible rfl
    try simp only [Act.put, sq]
    refine wfr 2 (v := ?_) rfl ?_ ?_
    rotate_left
    ·intro w' hw';go_simp;try with_reducible rfl
    try simp only [Act.put, sq]
    refine wtk 3 18 (v := ?_) rfl ?_ hS0 ?_
    rotate_left
    ·intro w' hw';(try dsimp only at hw');go_simp;try with_reducible rfl
    try simp only [Act.put, sq]
    refine wfr 4 (v := ?_) rfl ?_ ?_
    rotate_left
    ·intro w' hw';go_simp;try with_reducible rfl
    try simp only [Act.put, sq]
    refine wfr 5 (v := ?_) rfl ?_ ?_
    rotate_left
    ·intro w' hw';go_simp;try with_reducible rfl
    try simp only [Act.put, sq]
    refine wfr 6 (v := ?_) rfl ?_ ?_
    rotate_left
    ·intro w' hw';go_simp;try with_reducible rfl
    try simp only [Act.put, sq]
    refine wfr 7 (v := ?_) rfl ?_ ?_
    rotate_left
    ·intro w' hw';go_simp;try with_reducible rfl
    try simp only [Act.put, sq]
    refine wtk 8 18 (v := ?_) rfl ?_ hS0 ?_
    rotate_left
    ·intro w' hw';(try dsimp only at hw');go_simp;try with_reducible rfl
    try simp only [Act.put, sq]
    refine wfr 9 (v := ?_) rfl ?_ ?_
    rotate_left
    ·intro w' hw';go_simp;try with_reducible rfl
    try simp only [Act.put, sq]
    refine wfr 10 (v := ?_) rfl ?_ ?_
    rotate_left
    ·intro w' hw';go_simp;try with_reducible rfl
    try simp only [Act.put, sq]
    refine wtk 11 18 (v := ?_) rfl ?_ hS0 ?_
    rotate_left
    ·intro w' hw';(try dsimp only at hw');go_simp;try with_reducible rfl
    try simp only [Act.put, sq]
    refine won 12 rfl fun K hK => ?_
    go_simp
    refine hK.out _ _ (fun _ h => h) ?_
    clear hK K
    try simp only [Act.put, sq]
    refine won 13 rfl fun K hK => ?_
    go_simp
    refine hK.out _ _ (fun _ h => h) ?_
    clear hK K
    try simp only [Act.put, sq]
    refine won 14 rfl fun K hK => ?_
    go_simp
    refine hK.out _ _ (fun _ _ => HS.out _ (hB0.alloc (Nat.le_refl _) _)) ?_
    clear hK K
    try simp only [Act.put, sq]
    refine won 15 rfl fun K hK => ?_
    refine step_append_own_at (by rfl) _ _ 22 (by rfl) B 9 i4 (.string ByteArray.empty) 1 16 Tryz.underlying22 hi4 hu0 hu1 hu2 rfl (by decide) (.slice pk d.ks.length ck) d.ks.length (strs d.ks) (by rfl) (hki9.alloc _) ⟨w5.heap.size, 0, none⟩ 1 1 [.string (bs key)] (by rfl) rfl (news_lit _ _ _ _ rfl) (ones_one _) (by unfold maxLen; omega) (by omega) (by simp; omega) (fun v6 w6 hown6 hgrow6 hat6 => ?_)
    have kb : ∀ {q t}, Ty w5.drew q t → t ≠ 9 → w6.heap[q]? = w5.drew.heap[q]? := fun {q t} hq hne => (hgrow6.block q (Nat.lt_of_lt_of_le hq.lt (by simp)) (fun e => (hq.ne (owns_ty hki9 e.symm) hne) rfl)).trans (heap_kept _ _ hq.lt)
    have hbx := HQ6.out.box.at (kb HQ6.out.box.ty (by decide))
    have hkS := And.intro ((HQ6.out.wi.bx.at (kb HQ6.out.wi.bx.ty (by decide))).cell 4 rfl) (And.intro ((World.cell?_of_block (a := ⟨gK, i, none⟩) (kb (owns_ty HQ6.out.wi.rK (g := gK) rfl) (by decide))).trans aK0) (hbx.cell 2 rfl))
    clear hbx kb
    refine hK.out _ _ (fun _ _ => hkS) ?_
    clear hK K
    try simp only [Act.put, sq]
    refine won 16 rfl fun K hK => ?_
    go_simp
    refine hK.out _ _ (fun _ h => h) ?_
    clear hK K
    try simp only [Act.put, sq]
    obtain ⟨p6, c6, rfl⟩ := owns_form hown6
    have hD6 := HKey.out _ _ _ hown6 hgrow6 hat6
    have HD6 := Lib.hid hD6
    have h60 := hD6.1
    have h6f := hD6.2.1
    clear hD6 hown6 hgrow6 hat6
    refine won 17 rfl fun K hK => ?_
    go_simp
    refine hK.out _ _ (fun h => absurd h (by decide)) ?_
    clear hK K
    try simp only [Act.put, sq]
    refine wpAnyM_done (by kernel_rfl) ?_ _
    try simp only [Act.put, sq]
    clear HS hS0 hB0 h60 h6f aK0 hki hki9 HKey HQ5 HQ6
    go_wp2_with fail
    go_ret
    rw [HP0.out]
    have hfin := HD6.out.2.2
    first | exact ⟨_, _, _, _, _, _, rfl, hfin.wi, hfin.bel⟩ | exact ⟨rfl, ⟨_, _, _, _, _, _, hfin.wi⟩, hfin.bel⟩
 ·have e9 : atI L s = -1 := if_neg hA
  rw [e9]
  clear e9
  have hP : putP L (3, s, key, vk, n, ln) = (L, 10) := put_shut L _ hmb (by dsimp only; omega) hA
  go_wp2_with fail
  go_ret
  try rw [hP]
  first | exact ⟨_, _, _, _, _, _, rfl, HM2.out.wi, HM2.out.bel.mono hB⟩ | exact ⟨rfl, ⟨_, _, _, _, _, _, HM2.out.wi⟩, HM2.out.bel.mono hB⟩
end Go.Proofs.YtmgchjddpmmglaaGreatDoor
