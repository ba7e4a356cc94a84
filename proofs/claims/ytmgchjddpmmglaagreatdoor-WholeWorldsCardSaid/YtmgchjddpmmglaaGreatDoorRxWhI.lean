/-
  Layer 17 (whole), the program: texts compared; agreement of operations and transactions, walked. No conditions.
-/
import Derived.Test.YtmgchjddpmmglaaGreatDoorRxWhB
import Derived.Test.YtmgchjddpmmglaaGreatDoorRxWhH
namespace Go.Proofs.YtmgchjddpmmglaaGreatDoor
open Go.RowKit Go.Lib
theorem texts_step (L M : List (List UInt8)) (i : Nat) (h : L.length = M.length) (hi : i < L.length) : decide (L.drop i = M.drop i) = (decide (L.getD i [] = M.getD i []) && decide (L.drop (i + 1) = M.drop (i + 1))) := by
 have e1 : L.drop i = L.getD i [] :: L.drop (i + 1) := by rw [List.drop_eq_getElem_cons hi]; simp [hi]
 have hi2 : i < M.length := by omega
 have e2 : M.drop i = M.getD i [] :: M.drop (i + 1) := by rw [List.drop_eq_getElem_cons hi2]; simp [hi2]
 rw [e1, e2, ← Bool.decide_and]
 exact decide_eq_decide.2 List.cons_eq_cons
set_option maxRecDepth 100000 in
set_option maxHeartbeats 4000000 in
theorem eqtexts_any {w : World} {v u : Value} {L M : List (List UInt8)} (hv : Texts w v L) (hu : Texts w u M) (hL : L.length ≤ 1000) (_hM : M.length ≤ 1000) :
  Calls Tryz.prog 96 #[v, u] w fun e w' => e = .returned (.bool (decide (L = M))) ∧ Below w.heap.size w w' := by
 obtain ⟨p, c, rfl, hp⟩ := hv
 obtain ⟨q, d, rfl, hq⟩ := hu
 have HX := Lib.hid hp
 have HY := Lib.hid hq
 clear hp hq
 by_cases hl : L.length = M.length
 ·have HSt := Lib.hid (fun i hi => texts_step L M i hl hi)
  obtain ⟨R, hR⟩ : ∃ R, decide (L = M) = R := ⟨_, rfl⟩
  have HR0 : RowKit.Hid (decide (L.drop 0 = M.drop 0) = R) := Lib.hid hR
  have HEn : RowKit.Hid (decide (L.drop L.length = M.drop L.length) = true) := Lib.hid (by rw [List.drop_length, hl, List.drop_length]; rfl)
  rw [hR]
  obtain ⟨n, hn⟩ : ∃ n, L.length = n := ⟨_, rfl⟩
  rw [hn] at HSt HEn hL hl ⊢
  have HL2 := Lib.hid hn
  have HM2 := Lib.hid hl.symm
  rw [HM2.out]
  clear hR hn hl _hM
  go_enter Tryz.func96, Tryz.ntmps96
  go_wp2_with fail
  go_loopw [13] (fun i wr => ∃ k : Nat, k ≤ n ∧ i = .int .i64 k ∧ decide (L.drop k = M.drop k) = R ∧ Below w.heap.size w wr) (fun i _ => n - (RowKit.intOf i).toNat)
  case atStart => exact ⟨0, Nat.zero_le _, rfl, HR0.out, Below.refl _ _⟩
  case round =>
   obtain ⟨k, hk, rfl, hr, hbw⟩ := hrel
   by_cases hk1 : k < n
   ·obtain ⟨g, rfl, h1⟩ := HX.out k (by rw [HL2.out]; exact hk1)
    obtain ⟨g', rfl, h2⟩ := HY.out k (by rw [HM2.out]; exact hk1)
    rw [HSt.out k hk1] at hr
    obtain ⟨x, hx⟩ : ∃ x, L.getD k [] = x := ⟨_, rfl⟩
    obtain ⟨y, hy⟩ : ∃ y, M.getD k [] = y := ⟨_, rfl⟩
    rw [hx] at h1 hr
    rw [hy] at h2 hr
    have h1 := cell_later hbw h1
    have h2 := cell_later hbw h2
    have HBw := Lib.hid hbw
    clear hx hy hbw
    by_cases hxy : x = y
    ·subst hxy
     have HR2 : RowKit.Hid (decide (L.drop (k + 1) = M.drop (k + 1)) = R) := Lib.hid (by rw [← hr]; simp)
     have HS : RowKit.Hid (∀ w', Below wr.heap.size wr w' → w'.cell? ⟨g, k, none⟩ = some (.string (bs x)) ∧ w'.cell? ⟨g', k, none⟩ = some (.string (bs x)) ∧ Below wr.heap.size wr w') := Lib.hid (fun w' hb => ⟨cell_later hb h1, cell_later hb h2, hb⟩)
     clear hr h1 h2
     go_upto_region 6 with fail
     refine wp_region_keep (fun w' => w'.cell? ⟨g, k, none⟩ = some (.string (bs x)) ∧ w'.cell? ⟨g', k, none⟩ = some (.string (bs x)) ∧ Below wr.heap.size wr w') [] (by kernel_rfl) ?_
     have hB0 : Below (wr).heap.size (wr) (wr).drew := Below.drew (Below.refl _ _)
     have hS0 := HS.out _ hB0
     refine wfr 0 (v := ?_) rfl ?_ ?_
     rotate_left
     ·intro w' hw';go_simp;try with_reducible rfl
     try simp only [Act.put, sq]
     refine wfr 1 (v := ?_) rfl ?_ ?_
     rotate_left
     ·intro w' hw';go_simp;try with_reducible rfl
     try simp only [Act.put, sq]
     refine wfr 2 (v := ?_) rfl ?_ ?_
     rotate_left
     ·intro w' hw';go_simp;try with_reducible rfl
     try simp only [Act.put, sq]
     refine wtk 3 9 (v := ?_) rfl ?_ hS0 ?_
     rotate_left
     ·intro w' hw';(try dsimp only at hw');go_simp;try with_reducible rfl
     try simp only [Act.put, sq]
     refine wfr 4 (v := ?_) rfl ?_ ?_
     rotate_left
     ·intro w' hw';go_simp;try with_reducible rfl
     try simp only [Act.put, sq]
     refine won 5 rfl fun K hK => ?_
     go_simp
     refine hK.out _ _ (fun _ h => h) ?_
     clear hK K
     try simp only [Act.put, sq]
     refine won 6 rfl fun K hK => ?_
     go_simp
     refine hK.out _ _ (fun _ h => h) ?_
     clear hK K
     try simp only [Act.put, sq]
     refine won 7 rfl fun K hK => ?_
     go_simp
     refine hK.out _ _ (fun _ h => h) ?_
     clear hK K
     try simp only [Act.put, sq]
     refine won 8 rfl fun K hK => ?_
     go_simp
     refine hK.out _ _ (fun _ h => h) ?_
     clear hK K
     try simp only [Act.put, sq]
     refine wpAnyM_done (by kernel_rfl) ?_ _
     try simp only [Act.put, sq]
     clear hS0
     go_wp2_with fail
     go_roundw
     case rel => exact ⟨k + 1, by omega, by go_num, HR2.out, below_next HBw.out hB0⟩
     case measure => simp [RowKit.intOf]; omega
    ·have HR2 : RowKit.Hid (R = false) := Lib.hid (by rw [← hr]; simp [hxy])
     have e1 : (x == y) = false := beq_eq_false_iff_ne.2 hxy
     have e2 : (x != y) = true := bne_iff_ne.2 hxy
     have HS : RowKit.Hid (∀ w', Below wr.heap.size wr w' → w'.cell? ⟨g, k, none⟩ = some (.string (bs x)) ∧ w'.cell? ⟨g', k, none⟩ = some (.string (bs y)) ∧ Below wr.heap.size wr w') := Lib.hid (fun w' hb => ⟨cell_later hb h1, cell_later hb h2, hb⟩)
     clear hr h1 h2
     go_upto_region 6 with fail
     refine wp_region_keep (fun w' => w'.cell? ⟨g, k, none⟩ = some (.string (bs x)) ∧ w'.cell? ⟨g', k, none⟩ = some (.string (bs y)) ∧ Below wr.heap.size wr w') [] (by kernel_rfl) ?_
     have hB0 : Below (wr).heap.size (wr) (wr).drew := Below.drew (Below.refl _ _)
     have hS0 := HS.out _ hB0
     refine wfr 0 (v := ?_) rfl ?_ ?_
     rotate_left
     ·intro w' hw';go_simp;try with_reducible rfl
     try simp only [Act.put, sq]
     refine wfr 1 (v := ?_) rfl ?_ ?_
     rotate_left
     ·intro w' hw';go_simp;try with_reducible rfl
     try simp only [Act.put, sq]
     refine wfr 2 (v := ?_) rfl ?_ ?_
     rotate_left
     ·intro w' hw';go_simp;try with_reducible rfl
     try simp only [Act.put, sq]
     refine wtk 3 9 (v := ?_) rfl ?_ hS0 ?_
     rotate_left
     ·intro w' hw';(try dsimp only at hw');go_simp;try with_reducible rfl
     try simp only [Act.put, sq]
     refine wfr 4 (v := ?_) rfl ?_ ?_
     rotate_left
     ·intro w' hw';go_simp;try with_reducible rfl
     try simp only [Act.put, sq]
     refine won 5 rfl fun K hK => ?_
     go_simp
     refine hK.out _ _ (fun _ h => h) ?_
     clear hK K
     try simp only [Act.put, sq]
     refine won 6 rfl fun K hK => ?_
     go_simp
     refine hK.out _ _ (fun _ h => h) ?_
     clear hK K
     try simp only [Act.put, sq]
     refine won 7 rfl fun K hK => ?_
     go_simp
     refine hK.out _ _ (fun _ h => h) ?_
     clear hK K
     try simp only [Act.put, sq]
     refine won 8 rfl fun K hK => ?_
     go_simp
     refine hK.out _ _ (fun _ h => h) ?_
     clear hK K
     try simp only [Act.put, sq]
     refine wpAnyM_done (by kernel_rfl) ?_ _
     try simp only [Act.put, sq]
     clear hS0
     go_wp2_with fail
     go_ret
     exact ⟨by rw [HR2.out] <;> rfl, below_next HBw.out hB0⟩
   ·have hke : k = n := by omega
    subst hke
    have HR2 : RowKit.Hid (R = true) := Lib.hid (by rw [← hr]; exact HEn.out)
    clear hr
    go_wp2_with fail
    go_ret
    exact ⟨by rw [HR2.out] <;> rfl, hbw⟩
 ·have hE : decide (L = M) = false := decide_eq_false (fun e => hl (by rw [e]))
  rw [hE]
  obtain ⟨n, hn⟩ : ∃ n, L.length = n := ⟨_, rfl⟩
  obtain ⟨n', hn'⟩ : ∃ n, M.length = n := ⟨_, rfl⟩
  rw [hn, hn'] at hl
  rw [hn, hn']
  have e1 : ((n : Int) == (n' : Int)) = false := beq_eq_false_iff_ne.2 (fun e => hl (by omega))
  have e2 : ((n : Int) != (n' : Int)) = true := bne_iff_ne.2 (fun e => hl (by omega))
  clear hE hn hn' hL _hM
  go_enter Tryz.func96, Tryz.ntmps96
  go_wp2_with fail
  go_ret
  exact ⟨rfl, Below.refl _ _⟩
set_option maxRecDepth 100000 in
set_option maxHeartbeats 4000000 in
theorem agree17_any (a b : OpM) (w : World) :
  Calls Tryz.prog 144 #[.agg #[.bool a.1, .int .i64 a.2.1, .int .i64 a.2.2.1, .int .i64 a.2.2.2], .agg #[.bool b.1, .int .i64 b.2.1, .int .i64 b.2.2.1, .int .i64 b.2.2.2]] w fun e w' => e = .returned (.bool (agreeO a b)) ∧ Below w.heap.size w w' := by
 obtain ⟨aw, ak, ad, an⟩ := a
 obtain ⟨bw, bk, bd, bn⟩ := b
 dsimp only
 have HAL := Lib.hid (((Below.refl w.heap.size w).alloc (Nat.le_refl _) (.cells #[.bool aw, .int .i64 ak, .int .i64 ad, .int .i64 an] 51)).alloc (by simp) (.cells #[.bool bw, .int .i64 bk, .int .i64 bd, .int .i64 bn] 51))
 have HBA := Lib.hid ((Blk.new w 51 [.bool aw, .int .i64 ak, .int .i64 ad, .int .i64 an]).alloc (.cells #[.bool bw, .int .i64 bk, .int .i64 bd, .int .i64 bn] 51))
 have hbb := Blk.new (w.alloc (.cells #[.bool aw, .int .i64 ak, .int .i64 ad, .int .i64 an] 51)) 51 [.bool bw, .int .i64 bk, .int .i64 bd, .int .i64 bn]
 simp only [World.size_alloc] at hbb
 have HBB := Lib.hid hbb
 clear hbb
 have HE : RowKit.Hid (agreeO (aw, ak, ad, an) (bw, bk, bd, bn) = if lostO (aw, ak, ad, an) then decide (aw = bw ∧ ak = bk) else decide (aw = bw ∧ ak = bk ∧ ad = bd ∧ an = bn)) := Lib.hid (by
  unfold agreeO
  split
  ·rfl
  ·exact decide_eq_decide.2 (by simp only [Prod.mk.injEq]))
 have HLo := Lib.hid (fun w' => lost17_any (aw, ak, ad, an) w')
 cases hlo : lostO (aw, ak, ad, an) with
 | true =>
  rw [hlo] at HLo HE
  rw [HE.out, if_pos rfl]
  clear hlo HE
  go_enter Tryz.func144, Tryz.ntmps144
  go_wp2_with fail
  refine (HLo.out _).mono ?_
  rintro e w1 ⟨rfl, hb1⟩
  have HB1 := Lib.hid (below_next HAL.out hb1)
  have x0 := (HBA.out.later hb1).cell 0 rfl
  have x1 := (HBA.out.later hb1).cell 1 rfl
  have x2 := (HBA.out.later hb1).cell 2 rfl
  have x3 := (HBA.out.later hb1).cell 3 rfl
  have y0 := (HBB.out.later hb1).cell 0 rfl
  have y1 := (HBB.out.later hb1).cell 1 rfl
  have y2 := (HBB.out.later hb1).cell 2 rfl
  have y3 := (HBB.out.later hb1).cell 3 rfl
  have f2 := (HBB.out.later hb1).frozen 2
  have f3 := (HBB.out.later hb1).frozen 3
  have fl := (HBB.out.later hb1).lt
  clear hb1
  by_cases h1 : aw = bw
  ·subst h1
   by_cases h2 : ak = bk
   ·subst h2
    go_wp2_with fail
    go_ret
    exact ⟨by first | rfl | simp, (HB1.out.setCell (by show w.heap.size ≤ w.heap.size + 1; omega) _).setCell (by show w.heap.size ≤ w.heap.size + 1; omega) _⟩
   ·have e1 : (ak == bk) = false := beq_eq_false_iff_ne.2 h2
    go_wp2_with fail
    go_ret
    exact ⟨by first | rfl | simp [h2], (HB1.out.setCell (by show w.heap.size ≤ w.heap.size + 1; omega) _).setCell (by show w.heap.size ≤ w.heap.size + 1; omega) _⟩
  ·have e1 : (aw == bw) = false := beq_eq_false_iff_ne.2 h1
   go_wp2_with fail
   go_ret
   exact ⟨by first | rfl | simp [h1], (HB1.out.setCell (by show w.heap.size ≤ w.heap.size + 1; omega) _).setCell (by show w.heap.size ≤ w.heap.size + 1; omega) _⟩
 | false =>
  rw [hlo] at HLo HE
  rw [HE.out, if_neg Bool.false_ne_true]
  clear hlo HE
  go_enter Tryz.func144, Tryz.ntmps144
  go_wp2_with fail
  refine (HLo.out _).mono ?_
  rintro e w1 ⟨rfl, hb1⟩
  have HB1 := Lib.hid (below_next HAL.out hb1)
  have x0 := (HBA.out.later hb1).cell 0 rfl
  have x1 := (HBA.out.later hb1).cell 1 rfl
  have x2 := (HBA.out.later hb1).cell 2 rfl
  have x3 := (HBA.out.later hb1).cell 3 rfl
  have y0 := (HBB.out.later hb1).cell 0 rfl
  have y1 := (HBB.out.later hb1).cell 1 rfl
  have y2 := (HBB.out.later hb1).cell 2 rfl
  have y3 := (HBB.out.later hb1).cell 3 rfl
  have f2 := (HBB.out.later hb1).frozen 2
  have f3 := (HBB.out.later hb1).frozen 3
  have fl := (HBB.out.later hb1).lt
  clear hb1
  by_cases h1 : aw = bw
  ·subst h1
   by_cases h2 : ak = bk
   ·subst h2
    by_cases h3 : ad = bd
    ·subst h3
     by_cases h4 : an = bn
     ·subst h4
      go_wp2_with fail
      go_ret
      exact ⟨by first | rfl | simp, HB1.out⟩
     ·have e1 : (an == bn) = false := beq_eq_false_iff_ne.2 h4
      go_wp2_with fail
      go_ret
      exact ⟨by first | rfl | simp [h4], HB1.out⟩
    ·have e1 : (ad == bd) = false := beq_eq_false_iff_ne.2 h3
     go_wp2_with fail
     go_ret
     exact ⟨by first | rfl | simp [h3], HB1.out⟩
   ·have e1 : (ak == bk) = false := beq_eq_false_iff_ne.2 h2
    go_wp2_with fail
    go_ret
    exact ⟨by first | rfl | simp [h2], HB1.out⟩
  ·have e1 : (aw == bw) = false := beq_eq_false_iff_ne.2 h1
   go_wp2_with fail
   go_ret
   exact ⟨by first | rfl | simp [h1], HB1.out⟩
set_option maxRecDepth 100000 in
set_option maxHeartbeats 4000000 in
theorem eqops_any {w : World} {v u : Value} {L M : List OpM} (hv : OpsS w v L) (hu : OpsS w u M) (hL : L.length ≤ 1000) (_hM : M.length ≤ 1000) :
  Calls Tryz.prog 143 #[v, u, .func (.func 144) #[] #[]] w fun e w' => e = .returned (.bool (agreeL L M)) ∧ Below w.heap.size w w' := by
 obtain ⟨p, c, rfl, -, hp⟩ := hv
 obtain ⟨q, d, rfl, -, hq⟩ := hu
 have HX := Lib.hid hp
 have HY := Lib.hid hq
 have en := enters_of Tryz.func144 (by kernel_rfl) rfl
 clear hp hq
 by_cases hl : L.length = M.length
 ·have HSt := Lib.hid (fun i hi => agreeL_step L M i hl hi)
  obtain ⟨R, hR⟩ : ∃ R, agreeL L M = R := ⟨_, rfl⟩
  have HR0 : RowKit.Hid (agreeL (L.drop 0) (M.drop 0) = R) := Lib.hid hR
  have HEn : RowKit.Hid (agreeL (L.drop L.length) (M.drop L.length) = true) := Lib.hid (agreeL_end L M hl)
  rw [hR]
  obtain ⟨n, hn⟩ : ∃ n, L.length = n := ⟨_, rfl⟩
  rw [hn] at HSt HEn hL hl ⊢
  have HL2 := Lib.hid hn
  have HM2 := Lib.hid hl.symm
  rw [HM2.out]
  clear hR hn hl _hM
  go_enter Tryz.func143, Tryz.ntmps143
  go_wp2_with fail
  go_loopw [17] (fun i wr => ∃ k : Nat, k ≤ n ∧ i = .int .i64 k ∧ agreeL (L.drop k) (M.drop k) = R ∧ Below w.heap.size w wr) (fun i _ => n - (RowKit.intOf i).toNat)
  case atStart => exact ⟨0, Nat.zero_le _, rfl, HR0.out, Below.refl _ _⟩
  case round =>
   obtain ⟨k, hk, rfl, hr, hbw⟩ := hrel
   by_cases hk1 : k < n
   ·obtain ⟨g, rfl, a1, a2, a3, a4⟩ := HX.out k (by rw [HL2.out]; exact hk1)
    obtain ⟨g', rfl, b1, b2, b3, b4⟩ := HY.out k (by rw [HM2.out]; exact hk1)
    rw [HSt.out k hk1] at hr
    have HC := Lib.hid (fun w' (hb : Below wr.heap.size wr w') => agree17_any (L.getD k noOp) (M.getD k noOp) w')
    obtain ⟨⟨aw, ak, ad, an⟩, hx⟩ : ∃ x, L.getD k noOp = x := ⟨_, rfl⟩
    obtain ⟨⟨bw, bk, bd, bn⟩, hy⟩ : ∃ y, M.getD k noOp = y := ⟨_, rfl⟩
    rw [hx] at a1 a2 a3 a4 hr HC
    rw [hy] at b1 b2 b3 b4 hr HC
    dsimp only at a1 a2 a3 a4 b1 b2 b3 b4 HC
    have a1 := cell_later hbw a1
    have a2 := cell_later hbw a2
    have a3 := cell_later hbw a3
    have a4 := cell_later hbw a4
    have b1 := cell_later hbw b1
    have b2 := cell_later hbw b2
    have b3 := cell_later hbw b3
    have b4 := cell_later hbw b4
    have hg1 := World.block_lt_of_cell? wr _ b1
    have HAq := (((Below.refl wr.heap.size wr).alloc (Nat.le_refl _) (.cells #[.bool aw, .int .i64 ak, .int .i64 ad, .int .i64 an] 51)).alloc (by simp) (.cells #[.bool bw, .int .i64 bk, .int .i64 bd, .int .i64 bn] 51))
    dsimp only at hg1
    clear hx hy
    have HBw := Lib.hid hbw
    clear hbw
    cases hc : agreeO (aw, ak, ad, an) (bw, bk, bd, bn) with
    | true =>
     rw [hc] at hr HC
     have HR2 : RowKit.Hid (agreeL (L.drop (k + 1)) (M.drop (k + 1)) = R) := Lib.hid (by rw [← hr]; rfl)
     clear hr hc
     go_wp2_with (first | (go_at_call 144; refine (HC.out _ HAq).mono ?_; rintro e w1 ⟨rfl, hb1⟩))
     go_roundw
     case rel => exact ⟨k + 1, by omega, by go_num, HR2.out, below_next HBw.out (below_next HAq hb1)⟩
     case measure => simp [RowKit.intOf]; omega
    | false =>
     rw [hc] at hr HC
     have HR2 : RowKit.Hid (R = false) := Lib.hid (by rw [← hr]; rfl)
     clear hr hc
     go_wp2_with (first | (go_at_call 144; refine (HC.out _ HAq).mono ?_; rintro e w1 ⟨rfl, hb1⟩))
     go_ret
     exact ⟨by rw [HR2.out] <;> rfl, below_next HBw.out (below_next HAq hb1)⟩
   ·have hke : k = n := by omega
    subst hke
    have HR2 : RowKit.Hid (R = true) := Lib.hid (by rw [← hr]; exact HEn.out)
    clear hr
    go_wp2_with fail
    go_ret
    exact ⟨by rw [HR2.out] <;> rfl, hbw⟩
 ·have hE : agreeL L M = false := agreeL_no hl
  rw [hE]
  obtain ⟨n, hn⟩ : ∃ n, L.length = n := ⟨_, rfl⟩
  obtain ⟨n', hn'⟩ : ∃ n, M.length = n := ⟨_, rfl⟩
  rw [hn, hn'] at hl
  rw [hn, hn']
  have e1 : ((n : Int) == (n' : Int)) = false := beq_eq_false_iff_ne.2 (fun e => hl (by omega))
  have e2 : ((n : Int) != (n' : Int)) = true := bne_iff_ne.2 (fun e => hl (by omega))
  clear hE hn hn' hL _hM
  go_enter Tryz.func143, Tryz.ntmps143
  go_wp2_with fail
  go_ret
  exact ⟨rfl, Below.refl _ _⟩
set_option maxRecDepth 100000 in
set_option maxHeartbeats 4000000 in
theorem agrees_any {w : World} {sa sb : Value} (t u : TxnM) (ha : OpsS w sa t.2.2) (hb : OpsS w sb u.2.2) (hl : t.2.2.length ≤ 1000) (hm : u.2.2.length ≤ 1000) :
  Calls Tryz.prog 98 #[.agg #[.int .i64 t.1, .int .i64 t.2.1, sa], .agg #[.int .i64 u.1, .int .i64 u.2.1, sb]] w fun e w' => e = .returned (.bool (agreeT t u)) ∧ Below w.heap.size w w' := by
 obtain ⟨ts, tf, tl⟩ := t
 obtain ⟨us, uf, ul⟩ := u
 dsimp only at ha hb hl hm ⊢
 have HEq := Lib.hid (fun w' (h9 : Below w.heap.size w w') => eqops_any (ha.below h9) (hb.below h9) hl hm)
 obtain ⟨pa, ca, rfl, -, -⟩ := ha
 obtain ⟨pb, cb, rfl, -, -⟩ := hb
 have HAL := Lib.hid (((Below.refl w.heap.size w).alloc (Nat.le_refl _) (.cells #[.int .i64 ts, .int .i64 tf, .slice pa tl.length ca] 47)).alloc (by simp) (.cells #[.int .i64 us, .int .i64 uf, .slice pb ul.length cb] 47))
 have HE : RowKit.Hid (agreeT (ts, tf, tl) (us, uf, ul) = (decide (ts = us) && (decide (tf = uf ∨ tf = 3) && agreeL tl ul))) := Lib.hid rfl
 rw [HE.out]
 generalize agreeL tl ul = R at *
 clear HE hl hm
 by_cases h1 : ts = us
 ·subst h1
  by_cases h2 : tf = uf
  ·subst h2
   have hR : (decide (ts = ts) && (decide (tf = tf ∨ tf = 3) && R)) = R := by simp
   rw [hR]
   clear hR
   go_enter Tryz.func98, Tryz.ntmps98
   go_wp2_with fail
   refine (HEq.out _ HAL.out).mono ?_
   rintro e w1 ⟨rfl, hb1⟩
   go_wp2_with fail
   go_ret
   exact ⟨rfl, below_next HAL.out hb1⟩
  ·have e2 : (tf == uf) = false := beq_eq_false_iff_ne.2 h2
   have e2' : (tf != uf) = true := bne_iff_ne.2 h2
   by_cases h3 : tf = 3
   ·subst h3
    have hR : (decide (ts = ts) && (decide ((3 : Int) = uf ∨ (3 : Int) = 3) && R)) = R := by simp
    rw [hR]
    clear hR
    go_enter Tryz.func98, Tryz.ntmps98
    go_wp2_with fail
    refine (HEq.out _ HAL.out).mono ?_
    rintro e w1 ⟨rfl, hb1⟩
    go_wp2_with fail
    go_ret
    exact ⟨rfl, below_next HAL.out hb1⟩
   ·have hR : (decide (ts = ts) && (decide (tf = uf ∨ tf = 3) && R)) = false := by simp [h2, h3]
    rw [hR]
    have e3 : (tf == 3) = false := beq_eq_false_iff_ne.2 h3
    have e3' : (tf != 3) = true := bne_iff_ne.2 h3
    clear hR HEq
    go_enter Tryz.func98, Tryz.ntmps98
    go_wp2_with fail
    go_ret
    exact ⟨rfl, HAL.out⟩
 ·have hR : (decide (ts = us) && (decide (tf = uf ∨ tf = 3) && R)) = false := by simp [h1]
  rw [hR]
  have e1 : (ts == us) = false := beq_eq_false_iff_ne.2 h1
  have e1' : (ts != us) = true := bne_iff_ne.2 h1
  clear hR HEq
  go_enter Tryz.func98, Tryz.ntmps98
  go_wp2_with fail
  go_ret
  exact ⟨rfl, HAL.out⟩
theorem ops_bound (L : List TxnM) (h : ∀ t ∈ L, t.2.2.length ≤ 1000) (k : Nat) : (L.getD k noTxn).2.2.length ≤ 1000 := by
 by_cases hk : k < L.length
 ·have e : L.getD k noTxn = L[k] := by simp [hk]
  rw [e]
  exact h _ (List.getElem_mem hk)
 ·rw [show L.getD k noTxn = noTxn by simp [Nat.le_of_not_lt hk]]
  exact Nat.zero_le _
set_option maxRecDepth 100000 in
set_option maxHeartbeats 4000000 in
theorem eqtxns_any {w : World} {v u : Value} {L M : List TxnM} (hv : TxnsS w v L) (hu : TxnsS w u M) (hL : L.length ≤ 1000) (_hM : M.length ≤ 1000) (hl1 : ∀ t ∈ L, t.2.2.length ≤ 1000) (hm1 : ∀ t ∈ M, t.2.2.length ≤ 1000) :
  Calls Tryz.prog 97 #[v, u, .func (.func 98) #[] #[]] w fun e w' => e = .returned (.bool (agreeG L M)) ∧ Below w.heap.size w w' := by
 obtain ⟨p, c, rfl, hp⟩ := hv
 obtain ⟨q, d, rfl, hq⟩ := hu
 have HX := Lib.hid hp
 have HY := Lib.hid hq
 have en := enters_of Tryz.func98 (by kernel_rfl) rfl
 have HTl := Lib.hid (fun k => ops_bound L hl1 k)
 have HTm := Lib.hid (fun k => ops_bound M hm1 k)
 clear hl1 hm1
 clear hp hq
 by_cases hl : L.length = M.length
 ·have HSt := Lib.hid (fun i hi => agreeG_step L M i hl hi)
  obtain ⟨R, hR⟩ : ∃ R, agreeG L M = R := ⟨_, rfl⟩
  have HR0 : RowKit.Hid (agreeG (L.drop 0) (M.drop 0) = R) := Lib.hid hR
  have HEn : RowKit.Hid (agreeG (L.drop L.length) (M.drop L.length) = true) := Lib.hid (agreeG_end L M hl)
  rw [hR]
  obtain ⟨n, hn⟩ : ∃ n, L.length = n := ⟨_, rfl⟩
  rw [hn] at HSt HEn hL hl ⊢
  have HL2 := Lib.hid hn
  have HM2 := Lib.hid hl.symm
  rw [HM2.out]
  clear hR hn hl _hM
  go_enter Tryz.func97, Tryz.ntmps97
  go_wp2_with fail
  go_loopw [17] (fun i wr => ∃ k : Nat, k ≤ n ∧ i = .int .i64 k ∧ agreeG (L.drop k) (M.drop k) = R ∧ Below w.heap.size w wr) (fun i _ => n - (RowKit.intOf i).toNat)
  case atStart => exact ⟨0, Nat.zero_le _, rfl, HR0.out, Below.refl _ _⟩
  case round =>
   obtain ⟨k, hk, rfl, hr, hbw⟩ := hrel
   by_cases hk1 : k < n
   ·obtain ⟨g, sa, rfl, a1, a2, a3, a4⟩ := HX.out k (by rw [HL2.out]; exact hk1)
    obtain ⟨g', sb, rfl, b1, b2, b3, b4⟩ := HY.out k (by rw [HM2.out]; exact hk1)
    rw [HSt.out k hk1] at hr
    have hml := HTl.out k
    have hmm := HTm.out k
    have HC := Lib.hid (fun w' (hb : Below wr.heap.size wr w') => agrees_any (L.getD k noTxn) (M.getD k noTxn) (a4.below (below_next hbw hb)) (b4.below (below_next hbw hb)) hml hmm)
    obtain ⟨⟨ts, tf, tl⟩, hx⟩ : ∃ x, L.getD k noTxn = x := ⟨_, rfl⟩
    obtain ⟨⟨us, uf, ul⟩, hy⟩ : ∃ y, M.getD k noTxn = y := ⟨_, rfl⟩
    rw [hx] at a1 a2 a4 hr HC
    rw [hy] at b1 b2 b4 hr HC
    dsimp only at a1 a2 a4 b1 b2 b4 HC
    obtain ⟨pa, ca, rfl, -, -⟩ := a4
    obtain ⟨pb, cb, rfl, -, -⟩ := b4
    have a1 := cell_later hbw a1
    have a2 := cell_later hbw a2
    have a3 := cell_later hbw a3
    have b1 := cell_later hbw b1
    have b2 := cell_later hbw b2
    have b3 := cell_later hbw b3
    have hg1 := World.block_lt_of_cell? wr _ b1
    have HAq := (((Below.refl wr.heap.size wr).alloc (Nat.le_refl _) (.cells #[.int .i64 ts, .int .i64 tf, .slice pa tl.length ca] 47)).alloc (by simp) (.cells #[.int .i64 us, .int .i64 uf, .slice pb ul.length cb] 47))
    dsimp only at hg1
    clear hx hy hml hmm
    have HBw := Lib.hid hbw
    clear hbw
    cases hc : agreeT (ts, tf, tl) (us, uf, ul) with
    | true =>
     rw [hc] at hr HC
     have HR2 : RowKit.Hid (agreeG (L.drop (k + 1)) (M.drop (k + 1)) = R) := Lib.hid (by rw [← hr]; rfl)
     clear hr hc
     go_wp2_with (first | (go_at_call 98; refine (HC.out _ HAq).mono ?_; rintro e w1 ⟨rfl, hb1⟩))
     go_roundw
     case rel => exact ⟨k + 1, by omega, by go_num, HR2.out, below_next HBw.out (below_next HAq hb1)⟩
     case measure => simp [RowKit.intOf]; omega
    | false =>
     rw [hc] at hr HC
     have HR2 : RowKit.Hid (R = false) := Lib.hid (by rw [← hr]; rfl)
     clear hr hc
     go_wp2_with (first | (go_at_call 98; refine (HC.out _ HAq).mono ?_; rintro e w1 ⟨rfl, hb1⟩))
     go_ret
     exact ⟨by rw [HR2.out] <;> rfl, below_next HBw.out (below_next HAq hb1)⟩
   ·have hke : k = n := by omega
    subst hke
    have HR2 : RowKit.Hid (R = true) := Lib.hid (by rw [← hr]; exact HEn.out)
    clear hr
    go_wp2_with fail
    go_ret
    exact ⟨by rw [HR2.out] <;> rfl, hbw⟩
 ·have hE : agreeG L M = false := agreeG_no hl
  rw [hE]
  obtain ⟨n, hn⟩ : ∃ n, L.length = n := ⟨_, rfl⟩
  obtain ⟨n', hn'⟩ : ∃ n, M.length = n := ⟨_, rfl⟩
  rw [hn, hn'] at hl
  rw [hn, hn']
  have e1 : ((n : Int) == (n' : Int)) = false := beq_eq_false_iff_ne.2 (fun e => hl (by omega))
  have e2 : ((n : Int) != (n' : Int)) = true := bne_iff_ne.2 (fun e => hl (by omega))
  clear hE hn hn' hL _hM
  go_enter Tryz.func97, Tryz.ntmps97
  go_wp2_with fail
  go_ret
  exact ⟨rfl, Below.refl _ _⟩
end Go.Proofs.YtmgchjddpmmglaaGreatDoor
