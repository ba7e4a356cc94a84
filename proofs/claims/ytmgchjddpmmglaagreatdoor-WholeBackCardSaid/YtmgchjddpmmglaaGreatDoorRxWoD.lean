/-
  Layer 16 (world): at most fifty fates and lost values of a world, walked. No conditions.
-/
import Derived.Test.YtmgchjddpmmglaaGreatDoorRxWoA
import Derived.Test.YtmgchjddpmmglaaGreatDoorRWp
namespace Go.Proofs.YtmgchjddpmmglaaGreatDoor
open Go.RowKit Go.Lib
theorem few_end {w : World} {B : Nat} {va vb : Value} {na nb : Nat} {mc : List Bool} {ml : List ValM} (ha : w.ownsRow B 4 1 va na (bools (mc.take 50))) (hb : w.ownsRow B 49 2 vb nb (valsC (ml.take 50))) (h1 : (mc.take 50).length = na) (h2 : (ml.take 50).length = nb) :
  WorldV w (.agg #[va, vb]) (fewW (mc, ml)) ∧ WorldA w (.agg #[va, vb]) (fewW (mc, ml)) := by
 refine ⟨⟨_, _, rfl, own_bools ha h1.symm, own_vals hb h2.symm⟩, ⟨_, _, rfl, own_boolsA (by rw [← h1] at ha; exact ha), own_valsA (by rw [← h2] at hb; exact hb)⟩⟩
theorem min_fifty (n : Nat) : ∃ k : Nat, min n 50 = k ∧ k ≤ n ∧ k ≤ 50 ∧ min (n : Int) 50 = (k : Int) ∧ (if (50 : Int) < (n : Int) then (50 : Int) else (n : Int)) = (k : Int) := by
 by_cases h : n ≤ 50
 ·exact ⟨n, by omega, by omega, by omega, by omega, if_neg (by omega)⟩
 ·exact ⟨50, by omega, by omega, by omega, by omega, if_pos (by omega)⟩
set_option maxRecDepth 100000 in
set_option maxHeartbeats 4000000 in
theorem fewW_any (w : World) (v : Value) (m : WorldM) (hv : WorldA w v m) :
  Calls Tryz.prog 42 #[v] w fun e w' => ∃ v', e = .returned v' ∧ (WorldV w' v' (fewW m) ∧ WorldA w' v' (fewW m)) ∧ Below w.heap.size w w' := by
 obtain ⟨mc, ml⟩ := m
 obtain ⟨v0, v1, rfl, h0, h1⟩ := hv
 obtain ⟨p0, c0, rfl, -⟩ := id h0
 obtain ⟨p1, c1, rfl, -⟩ := id h1
 dsimp only at h0 h1 ⊢
 obtain ⟨-, l0, m0, e0⟩ := bools_len h0
 obtain ⟨-, l1, m1, e1⟩ := valsA_len h1
 unfold maxLen at m0 m1
 obtain ⟨na, hna, na1, na2, na3, na4⟩ := min_fifty mc.length
 obtain ⟨nb, hnb, nb1, nb2, nb3, nb4⟩ := min_fifty ml.length
 have HLA : RowKit.Hid ((mc.take 50).length = na) := Lib.hid (by rw [List.length_take]; omega)
 have HLB : RowKit.Hid ((ml.take 50).length = nb) := Lib.hid (by rw [List.length_take]; omega)
 have hal := ((Below.refl w.heap.size w).alloc (Nat.le_refl _) (.cells #[.slice p0 mc.length c0, .slice p1 ml.length c1] 64)).alloc (by simp) (.cells #[.slice none 0 0, .slice none 0 0] 64)
 have hbx := (Blk.new w 64 [.slice p0 mc.length c0, .slice p1 ml.length c1]).alloc (.cells #[.slice none 0 0, .slice none 0 0] 64)
 have hbr := Blk.new (w.alloc (.cells #[.slice p0 mc.length c0, .slice p1 ml.length c1] 64)) 64 [.slice none 0 0, .slice none 0 0]
 simp only [World.size_alloc] at hbr
 have hac : na ≤ c0 := by omega
 have hbc : nb ≤ c1 := by omega
 have HAL := Lib.hid hal
 have HBX := Lib.hid hbx
 have HBR := Lib.hid hbr
 have H0 := Lib.hid h0
 have H1 := Lib.hid h1
 obtain ⟨i0, hi, hz0, hz1, hz2⟩ := info_parts info_truth
 obtain ⟨i1, hj, hj0, hj1, hj2⟩ := info_parts info_val
 have E0 := Lib.hid e0
 have E1 := Lib.hid e1
 clear hal hbx hbr h0 h1 hna hnb e0 e1
 go_enter Tryz.func42, Tryz.ntmps42
 go_upto_region 1 with fail
 obtain ⟨W1, hW1⟩ : ∃ q, (w.alloc (.cells #[.slice p0 mc.length c0, .slice p1 ml.length c1] 64)).alloc (.cells #[.slice none 0 0, .slice none 0 0] 64) = q := ⟨_, rfl⟩
 rw [hW1] at HAL HBX HBR ⊢
 clear hW1
 have HFin := Lib.hid (fun w' (hb : Below W1.heap.size W1 w') => below_next HAL.out hb)
 cases p0 with
 | none =>
  cases p1 with
  | none =>
   have hnil := E0.out rfl
   subst hnil
   have hna0 : na = 0 := by rw [← HLA.out]; rfl
   subst hna0
   have hnil := E1.out rfl
   subst hnil
   have hnb0 : nb = 0 := by rw [← HLB.out]; rfl
   subst hnb0
   have hm0 : min (0 : Int) 50 = 0 := by decide
   have hm1 : (if (50 : Int) < 0 then (50 : Int) else 0) = 0 := by decide
   have HS : RowKit.Hid (∀ w', Below W1.heap.size W1 w' → w'.cell? ⟨w.heap.size, 0, none⟩ = some (.slice none 0 c0) ∧ w'.cell? ⟨w.heap.size, 1, none⟩ = some (.slice none 0 c1) ∧ Below W1.heap.size W1 w') := Lib.hid (fun w' hb => ⟨(HBX.out.later hb).cell 0 rfl, (HBX.out.later hb).cell 1 rfl, hb⟩)
   refine wp_region_keep (fun w' => w'.cell? ⟨w.heap.size, 0, none⟩ = some (.slice none 0 c0) ∧ w'.cell? ⟨w.heap.size, 1, none⟩ = some (.slice none 0 c1) ∧ Below W1.heap.size W1 w') [19] (by kernel_rfl) ?_
   have hB0 : Below (W1).heap.size (W1) (W1).drew := Below.drew (Below.refl _ _)
   obtain ⟨wd, hwd⟩ : ∃ q, (W1).drew = q := ⟨_, rfl⟩
   rw [hwd] at hB0 ⊢
   clear hwd
   refine wfr 1 (v := ?_) rfl ?_ ?_
   rotate_left
   ·intro w' hw';go_simp;try with_reducible rfl
   try simp only [Act.put, sq]
   refine wtk 2 20 (v := ?_) rfl ?_ (HS.out _ hB0) ?_
   rotate_left
   ·intro w' hw';(try dsimp only at hw');go_simp;try with_reducible rfl
   try simp only [Act.put, sq]
   refine wfr 3 (v := ?_) rfl ?_ ?_
   rotate_left
   ·intro w' hw';go_simp;try with_reducible rfl
   try simp only [Act.put, sq]
   refine wtk 4 20 (v := ?_) rfl ?_ (HS.out _ hB0) ?_
   rotate_left
   ·intro w' hw';(try dsimp only at hw');go_simp;try with_reducible rfl
   try simp only [Act.put, sq]
   refine wfr 5 (v := ?_) rfl ?_ ?_
   rotate_left
   ·intro w' hw';go_simp;try with_reducible rfl
   try simp only [Act.put, sq]
   refine wfr 6 (v := ?_) rfl ?_ ?_
   rotate_left
   ·intro w' hw';go_simp;try with_reducible rfl
   try simp only [Act.put, sq]
   refine wfr 7 (v := ?_) rfl ?_ ?_
   rotate_left
   ·intro w' hw';go_simp;try with_reducible rfl
   try simp only [Act.put, sq]
   refine wfr 10 (v := ?_) rfl ?_ ?_
   rotate_left
   ·intro w' hw';go_simp;try with_reducible rfl
   try simp only [Act.put, sq]
   refine wtk 11 20 (v := ?_) rfl ?_ (HS.out _ hB0) ?_
   rotate_left
   ·intro w' hw';(try dsimp only at hw');go_simp;try with_reducible rfl
   try simp only [Act.put, sq]
   refine wfr 12 (v := ?_) rfl ?_ ?_
   rotate_left
   ·intro w' hw';go_simp;try with_reducible rfl
   try simp only [Act.put, sq]
   refine wtk 13 20 (v := ?_) rfl ?_ (HS.out _ hB0) ?_
   rotate_left
   ·intro w' hw';(try dsimp only at hw');go_simp;try with_reducible rfl
   try simp only [Act.put, sq]
   refine wfr 14 (v := ?_) rfl ?_ ?_
   rotate_left
   ·intro w' hw';go_simp;try with_reducible rfl
   try simp only [Act.put, sq]
   refine wfr 15 (v := ?_) rfl ?_ ?_
   rotate_left
   ·intro w' hw';go_simp;try with_reducible rfl
   try simp only [Act.put, sq]
   refine wfr 16 (v := ?_) rfl ?_ ?_
   rotate_left
   ·intro w' hw';go_simp;try with_reducible rfl
   try simp only [Act.put, sq]
   refine wpAnyM_two 0 9 rfl rfl (by kernel_rfl) (fun K hK => ?_) (fun K hK => ?_)
   ·go_simp
    have hA1 := hB0.alloc hB0.size (.cells #[] 4)
    have RA := Lib.hid (World.ownsRow_made (base := W1.heap.size) (size := 1) (e := 4) wd #[] 0 hB0.size (Nat.zero_le _) rfl)
    refine hK.out _ _ (fun _ _ => HS.out _ hA1) ?_
    clear hK K
    try simp only [Act.put, sq]
    obtain ⟨wa1, hwa1⟩ : ∃ q, wd.alloc (.cells #[] 4) = q := ⟨_, rfl⟩
    obtain ⟨gb1, hgb1⟩ : ∃ q, wd.heap.size = q := ⟨_, rfl⟩
    have hlt1 : W1.heap.size ≤ gb1 := by rw [← hgb1]; exact hB0.size
    rw [hwa1] at hA1 RA
    try simp only [hwa1]
    try rw [hgb1] at RA
    try simp only [hgb1]
    clear hwa1
    have hsz1 : gb1 < wa1.heap.size := by have := hA1.size; first | exact RA.out.lt | (have hh := RA.out.lt gb1 rfl; exact hh.2)
    clear hgb1
    refine wpAnyM_two 8 9 rfl rfl (by kernel_rfl) (fun K hK => ?_) (fun K hK => ?_)
    ·go_simp
     refine hK.out _ _ (fun _ h => h) ?_
     clear hK K
     try simp only [Act.put, sq]
     refine won 9 rfl fun K hK => ?_
     go_simp
     have hA2 := hA1.alloc hA1.size (.cells #[] 49)
     have RB := Lib.hid (World.ownsRow_made (base := W1.heap.size) (size := 2) (e := 49) wa1 #[] 0 hA1.size (Nat.zero_le _) rfl)
     replace RA := Lib.hid (RA.out.alloc (.cells #[] 49))
     refine hK.out _ _ (fun _ _ => HS.out _ hA2) ?_
     clear hK K
     try simp only [Act.put, sq]
     obtain ⟨wa2, hwa2⟩ : ∃ q, wa1.alloc (.cells #[] 49) = q := ⟨_, rfl⟩
     obtain ⟨gb2, hgb2⟩ : ∃ q, wa1.heap.size = q := ⟨_, rfl⟩
     have hlt2 : W1.heap.size ≤ gb2 := by rw [← hgb2]; exact hA1.size
     rw [hwa2] at hA2 RA RB
     try simp only [hwa2]
     try rw [hgb2] at RA
     try rw [hgb2] at RB
     try simp only [hgb2]
     clear hwa2
     have hsz2 : gb2 < wa2.heap.size := by have := hA2.size; first | exact RB.out.lt | (have hh := RB.out.lt gb2 rfl; exact hh.2)
     clear hgb2
     refine won 17 rfl fun K hK => ?_
     go_simp
     refine hK.out _ _ (fun _ h => h) ?_
     clear hK K
     try simp only [Act.put, sq]
     refine won 18 rfl fun K hK => ?_
     go_simp
     refine hK.out _ _ (fun _ h => h) ?_
     clear hK K
     try simp only [Act.put, sq]
     refine won 19 rfl fun K hK => ?_
     have r0 := (HBR.out.later hA2).cell 0 rfl
     have r1 := (HBR.out.later hA2).cell 1 rfl
     have f0 := (HBR.out.later hA2).frozen 0
     have f1 := (HBR.out.later hA2).frozen 1
     have fl := (HBR.out.later hA2).lt
     go_simp
     refine hK.out _ _ (fun h => absurd h (by decide)) ?_
     clear hK K r0 r1 f0 f1
     try simp only [Act.put, sq]
     refine wpAnyM_done (by kernel_rfl) ?_ _
     try simp only [Act.put, sq]
     have q0 := HBR.out.later hA2
     have ra := owns_store (owns_store RA.out q0 (by decide) 0 (.slice (some ⟨gb1, 0, none⟩) 0 0)) (q0.set 0 (.slice (some ⟨gb1, 0, none⟩) 0 0)) (by decide) 1 (.slice (some ⟨gb2, 0, none⟩) 0 0)
     have rb := owns_store (owns_store RB.out q0 (by decide) 0 (.slice (some ⟨gb1, 0, none⟩) 0 0)) (q0.set 0 (.slice (some ⟨gb1, 0, none⟩) 0 0)) (by decide) 1 (.slice (some ⟨gb2, 0, none⟩) 0 0)
     go_wp2_with fail
     refine bodyPost_ret (results_cell Tryz.results42 _ _ _ _ _ rfl (load_world ((q0.set 0 (.slice (some ⟨gb1, 0, none⟩) 0 0)).set 1 (.slice (some ⟨gb2, 0, none⟩) 0 0)))) rfl ?_
     exact ⟨_, rfl, few_end (by simpa [bools] using ra) (by simpa [valsC] using rb) HLA.out HLB.out, ((HFin.out _ hA2).setCell (by show w.heap.size ≤ w.heap.size + 1; omega) _).setCell (by show w.heap.size ≤ w.heap.size + 1; omega) _⟩
    ·go_simp
     have hA2 := hA1.alloc hA1.size (.cells #[] 49)
     have RB := Lib.hid (World.ownsRow_made (base := W1.heap.size) (size := 2) (e := 49) wa1 #[] 0 hA1.size (Nat.zero_le _) rfl)
     replace RA := Lib.hid (RA.out.alloc (.cells #[] 49))
     refine hK.out _ _ (fun _ _ => HS.out _ hA2) ?_
     clear hK K
     try simp only [Act.put, sq]
     obtain ⟨wa2, hwa2⟩ : ∃ q, wa1.alloc (.cells #[] 49) = q := ⟨_, rfl⟩
     obtain ⟨gb2, hgb2⟩ : ∃ q, wa1.heap.size = q := ⟨_, rfl⟩
     have hlt2 : W1.heap.size ≤ gb2 := by rw [← hgb2]; exact hA1.size
     rw [hwa2] at hA2 RA RB
     try simp only [hwa2]
     try rw [hgb2] at RA
     try rw [hgb2] at RB
     try simp only [hgb2]
     clear hwa2
     have hsz2 : gb2 < wa2.heap.size := by have := hA2.size; first | exact RB.out.lt | (have hh := RB.out.lt gb2 rfl; exact hh.2)
     clear hgb2
     refine won 8 rfl fun K hK => ?_
     go_simp
     refine hK.out _ _ (fun _ h => h) ?_
     clear hK K
     try simp only [Act.put, sq]
     refine won 17 rfl fun K hK => ?_
     go_simp
     refine hK.out _ _ (fun _ h => h) ?_
     clear hK K
     try simp only [Act.put, sq]
     refine won 18 rfl fun K hK => ?_
     go_simp
     refine hK.out _ _ (fun _ h => h) ?_
     clear hK K
     try simp only [Act.put, sq]
     refine won 19 rfl fun K hK => ?_
     have r0 := (HBR.out.later hA2).cell 0 rfl
     have r1 := (HBR.out.later hA2).cell 1 rfl
     have f0 := (HBR.out.later hA2).frozen 0
     have f1 := (HBR.out.later hA2).frozen 1
     have fl := (HBR.out.later hA2).lt
     go_simp
     refine hK.out _ _ (fun h => absurd h (by decide)) ?_
     clear hK K r0 r1 f0 f1
     try simp only [Act.put, sq]
     refine wpAnyM_done (by kernel_rfl) ?_ _
     try simp only [Act.put, sq]
     have q0 := HBR.out.later hA2
     have ra := owns_store (owns_store RA.out q0 (by decide) 0 (.slice (some ⟨gb1, 0, none⟩) 0 0)) (q0.set 0 (.slice (some ⟨gb1, 0, none⟩) 0 0)) (by decide) 1 (.slice (some ⟨gb2, 0, none⟩) 0 0)
     have rb := owns_store (owns_store RB.out q0 (by decide) 0 (.slice (some ⟨gb1, 0, none⟩) 0 0)) (q0.set 0 (.slice (some ⟨gb1, 0, none⟩) 0 0)) (by decide) 1 (.slice (some ⟨gb2, 0, none⟩) 0 0)
     go_wp2_with fail
     refine bodyPost_ret (results_cell Tryz.results42 _ _ _ _ _ rfl (load_world ((q0.set 0 (.slice (some ⟨gb1, 0, none⟩) 0 0)).set 1 (.slice (some ⟨gb2, 0, none⟩) 0 0)))) rfl ?_
     exact ⟨_, rfl, few_end (by simpa [bools] using ra) (by simpa [valsC] using rb) HLA.out HLB.out, ((HFin.out _ hA2).setCell (by show w.heap.size ≤ w.heap.size + 1; omega) _).setCell (by show w.heap.size ≤ w.heap.size + 1; omega) _⟩
   ·go_simp
    have hA1 := hB0.alloc hB0.size (.cells #[] 49)
    have RB := Lib.hid (World.ownsRow_made (base := W1.heap.size) (size := 2) (e := 49) wd #[] 0 hB0.size (Nat.zero_le _) rfl)
    refine hK.out _ _ (fun _ _ => HS.out _ hA1) ?_
    clear hK K
    try simp only [Act.put, sq]
    obtain ⟨wa1, hwa1⟩ : ∃ q, wd.alloc (.cells #[] 49) = q := ⟨_, rfl⟩
    obtain ⟨gb1, hgb1⟩ : ∃ q, wd.heap.size = q := ⟨_, rfl⟩
    have hlt1 : W1.heap.size ≤ gb1 := by rw [← hgb1]; exact hB0.size
    rw [hwa1] at hA1 RB
    try simp only [hwa1]
    try rw [hgb1] at RB
    try simp only [hgb1]
    clear hwa1
    have hsz1 : gb1 < wa1.heap.size := by have := hA1.size; first | exact RB.out.lt | (have hh := RB.out.lt gb1 rfl; exact hh.2)
    clear hgb1
    refine won 0 rfl fun K hK => ?_
    go_simp
    have hA2 := hA1.alloc hA1.size (.cells #[] 4)
    have RA := Lib.hid (World.ownsRow_made (base := W1.heap.size) (size := 1) (e := 4) wa1 #[] 0 hA1.size (Nat.zero_le _) rfl)
    replace RB := Lib.hid (RB.out.alloc (.cells #[] 4))
    refine hK.out _ _ (fun _ _ => HS.out _ hA2) ?_
    clear hK K
    try simp only [Act.put, sq]
    obtain ⟨wa2, hwa2⟩ : ∃ q, wa1.alloc (.cells #[] 4) = q := ⟨_, rfl⟩
    obtain ⟨gb2, hgb2⟩ : ∃ q, wa1.heap.size = q := ⟨_, rfl⟩
    have hlt2 : W1.heap.size ≤ gb2 := by rw [← hgb2]; exact hA1.size
    rw [hwa2] at hA2 RB RA
    try simp only [hwa2]
    try rw [hgb2] at RB
    try rw [hgb2] at RA
    try simp only [hgb2]
    clear hwa2
    have hsz2 : gb2 < wa2.heap.size := by have := hA2.size; first | exact RA.out.lt | (have hh := RA.out.lt gb2 rfl; exact hh.2)
    clear hgb2
    refine won 8 rfl fun K hK => ?_
    go_simp
    refine hK.out _ _ (fun _ h => h) ?_
    clear hK K
    try simp only [Act.put, sq]
    refine won 17 rfl fun K hK => ?_
    go_simp
    refine hK.out _ _ (fun _ h => h) ?_
    clear hK K
    try simp only [Act.put, sq]
    refine won 18 rfl fun K hK => ?_
    go_simp
    refine hK.out _ _ (fun _ h => h) ?_
    clear hK K
    try simp only [Act.put, sq]
    refine won 19 rfl fun K hK => ?_
    have r0 := (HBR.out.later hA2).cell 0 rfl
    have r1 := (HBR.out.later hA2).cell 1 rfl
    have f0 := (HBR.out.later hA2).frozen 0
    have f1 := (HBR.out.later hA2).frozen 1
    have fl := (HBR.out.later hA2).lt
    go_simp
    refine hK.out _ _ (fun h => absurd h (by decide)) ?_
    clear hK K r0 r1 f0 f1
    try simp only [Act.put, sq]
    refine wpAnyM_done (by kernel_rfl) ?_ _
    try simp only [Act.put, sq]
    have q0 := HBR.out.later hA2
    have ra := owns_store (owns_store RA.out q0 (by decide) 0 (.slice (some ⟨gb2, 0, none⟩) 0 0)) (q0.set 0 (.slice (some ⟨gb2, 0, none⟩) 0 0)) (by decide) 1 (.slice (some ⟨gb1, 0, none⟩) 0 0)
    have rb := owns_store (owns_store RB.out q0 (by decide) 0 (.slice (some ⟨gb2, 0, none⟩) 0 0)) (q0.set 0 (.slice (some ⟨gb2, 0, none⟩) 0 0)) (by decide) 1 (.slice (some ⟨gb1, 0, none⟩) 0 0)
    go_wp2_with fail
    refine bodyPost_ret (results_cell Tryz.results42 _ _ _ _ _ rfl (load_world ((q0.set 0 (.slice (some ⟨gb2, 0, none⟩) 0 0)).set 1 (.slice (some ⟨gb1, 0, none⟩) 0 0)))) rfl ?_
    exact ⟨_, rfl, few_end (by simpa [bools] using ra) (by simpa [valsC] using rb) HLA.out HLB.out, ((HFin.out _ hA2).setCell (by show w.heap.size ≤ w.heap.size + 1; omega) _).setCell (by show w.heap.size ≤ w.heap.size + 1; omega) _⟩
  | some a1 =>
   have hnil := E0.out rfl
   subst hnil
   have hna0 : na = 0 := by rw [← HLA.out]; rfl
   subst hna0
   have HNB := Lib.hid (vals_news (H1.out.below HAL.out) 50)
   have hm0 : min (0 : Int) 50 = 0 := by decide
   have hm1 : (if (50 : Int) < 0 then (50 : Int) else 0) = 0 := by decide
   have HS : RowKit.Hid (∀ w', Below W1.heap.size W1 w' → w'.cell? ⟨w.heap.size, 0, none⟩ = some (.slice none 0 c0) ∧ w'.cell? ⟨w.heap.size, 1, none⟩ = some (.slice (some a1) ml.length c1) ∧ Below W1.heap.size W1 w') := Lib.hid (fun w' hb => ⟨(HBX.out.later hb).cell 0 rfl, (HBX.out.later hb).cell 1 rfl, hb⟩)
   refine wp_region_keep (fun w' => w'.cell? ⟨w.heap.size, 0, none⟩ = some (.slice none 0 c0) ∧ w'.cell? ⟨w.heap.size, 1, none⟩ = some (.slice (some a1) ml.length c1) ∧ Below W1.heap.size W1 w') [19] (by kernel_rfl) ?_
   have hB0 : Below (W1).heap.size (W1) (W1).drew := Below.drew (Below.refl _ _)
   obtain ⟨wd, hwd⟩ : ∃ q, (W1).drew = q := ⟨_, rfl⟩
   rw [hwd] at hB0 ⊢
   clear hwd
   refine wfr 1 (v := ?_) rfl ?_ ?_
   rotate_left
   ·intro w' hw';go_simp;try with_reducible rfl
   try simp only [Act.put, sq]
   refine wtk 2 20 (v := ?_) rfl ?_ (HS.out _ hB0) ?_
   rotate_left
   ·intro w' hw';(try dsimp only at hw');go_simp;try with_reducible rfl
   try simp only [Act.put, sq]
   refine wfr 3 (v := ?_) rfl ?_ ?_
   rotate_left
   ·intro w' hw';go_simp;try with_reducible rfl
   try simp only [Act.put, sq]
   refine wtk 4 20 (v := ?_) rfl ?_ (HS.out _ hB0) ?_
   rotate_left
   ·intro w' hw';(try dsimp only at hw');go_simp;try with_reducible rfl
   try simp only [Act.put, sq]
   refine wfr 5 (v := ?_) rfl ?_ ?_
   rotate_left
   ·intro w' hw';go_simp;try with_reducible rfl
   try simp only [Act.put, sq]
   refine wfr 6 (v := ?_) rfl ?_ ?_
   rotate_left
   ·intro w' hw';go_simp;try with_reducible rfl
   try simp only [Act.put, sq]
   refine wfr 7 (v := ?_) rfl ?_ ?_
   rotate_left
   ·intro w' hw';go_simp;try with_reducible rfl
   try simp only [Act.put, sq]
   refine wfr 10 (v := ?_) rfl ?_ ?_
   rotate_left
   ·intro w' hw';go_simp;try with_reducible rfl
   try simp only [Act.put, sq]
   refine wtk 11 20 (v := ?_) rfl ?_ (HS.out _ hB0) ?_
   rotate_left
   ·intro w' hw';(try dsimp only at hw');go_simp;try with_reducible rfl
   try simp only [Act.put, sq]
   refine wfr 12 (v := ?_) rfl ?_ ?_
   rotate_left
   ·intro w' hw';go_simp;try with_reducible rfl
   try simp only [Act.put, sq]
   refine wtk 13 20 (v := ?_) rfl ?_ (HS.out _ hB0) ?_
   rotate_left
   ·intro w' hw';(try dsimp only at hw');go_simp;try with_reducible rfl
   try simp only [Act.put, sq]
   refine wfr 14 (v := ?_) rfl ?_ ?_
   rotate_left
   ·intro w' hw';go_simp;try with_reducible rfl
   try simp only [Act.put, sq]
   refine wfr 15 (v := ?_) rfl ?_ ?_
   rotate_left
   ·intro w' hw';go_simp;try with_reducible rfl
   try simp only [Act.put, sq]
   refine wfr 16 (v := ?_) rfl ?_ ?_
   rotate_left
   ·intro w' hw';go_simp;try with_reducible rfl
   try simp only [Act.put, sq]
   refine wpAnyM_two 0 9 rfl rfl (by kernel_rfl) (fun K hK => ?_) (fun K hK => ?_)
   ·go_simp
    have hA1 := hB0.alloc hB0.size (.cells #[] 4)
    have RA := Lib.hid (World.ownsRow_made (base := W1.heap.size) (size := 1) (e := 4) wd #[] 0 hB0.size (Nat.zero_le _) rfl)
    refine hK.out _ _ (fun _ _ => HS.out _ hA1) ?_
    clear hK K
    try simp only [Act.put, sq]
    obtain ⟨wa1, hwa1⟩ : ∃ q, wd.alloc (.cells #[] 4) = q := ⟨_, rfl⟩
    obtain ⟨gb1, hgb1⟩ : ∃ q, wd.heap.size = q := ⟨_, rfl⟩
    have hlt1 : W1.heap.size ≤ gb1 := by rw [← hgb1]; exact hB0.size
    rw [hwa1] at hA1 RA
    try simp only [hwa1]
    try rw [hgb1] at RA
    try simp only [hgb1]
    clear hwa1
    have hsz1 : gb1 < wa1.heap.size := by have := hA1.size; first | exact RA.out.lt | (have hh := RA.out.lt gb1 rfl; exact hh.2)
    clear hgb1
    refine wpAnyM_two 8 9 rfl rfl (by kernel_rfl) (fun K hK => ?_) (fun K hK => ?_)
    ·go_simp
     refine hK.out _ _ (fun _ h => h) ?_
     clear hK K
     try simp only [Act.put, sq]
     refine won 9 rfl fun K hK => ?_
     go_simp
     have hA2 := hA1.alloc hA1.size (.cells #[] 49)
     have RB := Lib.hid (World.ownsRow_made (base := W1.heap.size) (size := 2) (e := 49) wa1 #[] 0 hA1.size (Nat.zero_le _) rfl)
     replace RA := Lib.hid (RA.out.alloc (.cells #[] 49))
     refine hK.out _ _ (fun _ _ => HS.out _ hA2) ?_
     clear hK K
     try simp only [Act.put, sq]
     obtain ⟨wa2, hwa2⟩ : ∃ q, wa1.alloc (.cells #[] 49) = q := ⟨_, rfl⟩
     obtain ⟨gb2, hgb2⟩ : ∃ q, wa1.heap.size = q := ⟨_, rfl⟩
     have hlt2 : W1.heap.size ≤ gb2 := by rw [← hgb2]; exact hA1.size
     rw [hwa2] at hA2 RA RB
     try simp only [hwa2]
     try rw [hgb2] at RA
     try rw [hgb2] at RB
     try simp only [hgb2]
     clear hwa2
     have hsz2 : gb2 < wa2.heap.size := by have := hA2.size; first | exact RB.out.lt | (have hh := RB.out.lt gb2 rfl; exact hh.2)
     clear hgb2
     refine won 17 rfl fun K hK => ?_
     refine step_append_own (by rfl) _ _ 62 (by rfl) W1.heap.size 49 i1 (.agg #[.int .i64 0, .int .i64 0]) 2 16 Tryz.underlying62 hj hj0 hj1 hj2 rfl (by decide) _ 0 [] (by rfl) RB.out a1 nb c1 (valsC (ml.take 50)) (by rfl) (by rw [valsC_len, HLB.out]) (fun q u hq => cell_later hA2 (HNB.out q u hq)) (ones_vals _) (by unfold maxLen; omega) (by omega) hA2.size ?_
     intro v3 wa3 hown3 hg3 hnil3
     rw [Nat.zero_add, List.nil_append] at hown3
     obtain ⟨rbp, rbc, rfl⟩ := owns_form hown3
     have hA3 : Below W1.heap.size W1 wa3 := hA2.grown hg3 hA2.size (fun k hk => (RB.out.lt k hk).1)
     replace RA := Lib.hid (owns_other RA.out RB.out (by decide) hg3)
     replace RB := Lib.hid hown3
     clear hown3 hg3 hnil3
     refine hK.out _ _ (fun _ _ => HS.out _ hA3) ?_
     clear hK K
     try simp only [Act.put, sq]
     refine won 18 rfl fun K hK => ?_
     go_simp
     refine hK.out _ _ (fun _ h => h) ?_
     clear hK K
     try simp only [Act.put, sq]
     refine won 19 rfl fun K hK => ?_
     have r0 := (HBR.out.later hA3).cell 0 rfl
     have r1 := (HBR.out.later hA3).cell 1 rfl
     have f0 := (HBR.out.later hA3).frozen 0
     have f1 := (HBR.out.later hA3).frozen 1
     have fl := (HBR.out.later hA3).lt
     go_simp
     refine hK.out _ _ (fun h => absurd h (by decide)) ?_
     clear hK K r0 r1 f0 f1
     try simp only [Act.put, sq]
     refine wpAnyM_done (by kernel_rfl) ?_ _
     try simp only [Act.put, sq]
     have q0 := HBR.out.later hA3
     have ra := owns_store (owns_store RA.out q0 (by decide) 0 (.slice (some ⟨gb1, 0, none⟩) 0 0)) (q0.set 0 (.slice (some ⟨gb1, 0, none⟩) 0 0)) (by decide) 1 (.slice rbp nb rbc)
     have rb := owns_store (owns_store RB.out q0 (by decide) 0 (.slice (some ⟨gb1, 0, none⟩) 0 0)) (q0.set 0 (.slice (some ⟨gb1, 0, none⟩) 0 0)) (by decide) 1 (.slice rbp nb rbc)
     go_wp2_with fail
     refine bodyPost_ret (results_cell Tryz.results42 _ _ _ _ _ rfl (load_world ((q0.set 0 (.slice (some ⟨gb1, 0, none⟩) 0 0)).set 1 (.slice rbp nb rbc)))) rfl ?_
     exact ⟨_, rfl, few_end (by simpa [bools] using ra) rb HLA.out HLB.out, ((HFin.out _ hA3).setCell (by show w.heap.size ≤ w.heap.size + 1; omega) _).setCell (by show w.heap.size ≤ w.heap.size + 1; omega) _⟩
    ·go_simp
     have hA2 := hA1.alloc hA1.size (.cells #[] 49)
     have RB := Lib.hid (World.ownsRow_made (base := W1.heap.size) (size := 2) (e := 49) wa1 #[] 0 hA1.size (Nat.zero_le _) rfl)
     replace RA := Lib.hid (RA.out.alloc (.cells #[] 49))
     refine hK.out _ _ (fun _ _ => HS.out _ hA2) ?_
     clear hK K
     try simp only [Act.put, sq]
     obtain ⟨wa2, hwa2⟩ : ∃ q, wa1.alloc (.cells #[] 49) = q := ⟨_, rfl⟩
     obtain ⟨gb2, hgb2⟩ : ∃ q, wa1.heap.size = q := ⟨_, rfl⟩
     have hlt2 : W1.heap.size ≤ gb2 := by rw [← hgb2]; exact hA1.size
     rw [hwa2] at hA2 RA RB
     try simp only [hwa2]
     try rw [hgb2] at RA
     try rw [hgb2] at RB
     try simp only [hgb2]
     clear hwa2
     have hsz2 : gb2 < wa2.heap.size := by have := hA2.size; first | exact RB.out.lt | (have hh := RB.out.lt gb2 rfl; exact hh.2)
     clear hgb2
     refine won 8 rfl fun K hK => ?_
     go_simp
     refine hK.out _ _ (fun _ h => h) ?_
     clear hK K
     try simp only [Act.put, sq]
     refine won 17 rfl fun K hK => ?_
     refine step_append_own (by rfl) _ _ 62 (by rfl) W1.heap.size 49 i1 (.agg #[.int .i64 0, .int .i64 0]) 2 16 Tryz.underlying62 hj hj0 hj1 hj2 rfl (by decide) _ 0 [] (by rfl) RB.out a1 nb c1 (valsC (ml.take 50)) (by rfl) (by rw [valsC_len, HLB.out]) (fun q u hq => cell_later hA2 (HNB.out q u hq)) (ones_vals _) (by unfold maxLen; omega) (by omega) hA2.size ?_
     intro v3 wa3 hown3 hg3 hnil3
     rw [Nat.zero_add, List.nil_append] at hown3
     obtain ⟨rbp, rbc, rfl⟩ := owns_form hown3
     have hA3 : Below W1.heap.size W1 wa3 := hA2.grown hg3 hA2.size (fun k hk => (RB.out.lt k hk).1)
     replace RA := Lib.hid (owns_other RA.out RB.out (by decide) hg3)
     replace RB := Lib.hid hown3
     clear hown3 hg3 hnil3
     refine hK.out _ _ (fun _ _ => HS.out _ hA3) ?_
     clear hK K
     try simp only [Act.put, sq]
     refine won 18 rfl fun K hK => ?_
     go_simp
     refine hK.out _ _ (fun _ h => h) ?_
     clear hK K
     try simp only [Act.put, sq]
     refine won 19 rfl fun K hK => ?_
     have r0 := (HBR.out.later hA3).cell 0 rfl
     have r1 := (HBR.out.later hA3).cell 1 rfl
     have f0 := (HBR.out.later hA3).frozen 0
     have f1 := (HBR.out.later hA3).frozen 1
     have fl := (HBR.out.later hA3).lt
     go_simp
     refine hK.out _ _ (fun h => absurd h (by decide)) ?_
     clear hK K r0 r1 f0 f1
     try simp only [Act.put, sq]
     refine wpAnyM_done (by kernel_rfl) ?_ _
     try simp only [Act.put, sq]
     have q0 := HBR.out.later hA3
     have ra := owns_store (owns_store RA.out q0 (by decide) 0 (.slice (some ⟨gb1, 0, none⟩) 0 0)) (q0.set 0 (.slice (some ⟨gb1, 0, none⟩) 0 0)) (by decide) 1 (.slice rbp nb rbc)
     have rb := owns_store (owns_store RB.out q0 (by decide) 0 (.slice (some ⟨gb1, 0, none⟩) 0 0)) (q0.set 0 (.slice (some ⟨gb1, 0, none⟩) 0 0)) (by decide) 1 (.slice rbp nb rbc)
     go_wp2_with fail
     refine bodyPost_ret (results_cell Tryz.results42 _ _ _ _ _ rfl (load_world ((q0.set 0 (.slice (some ⟨gb1, 0, none⟩) 0 0)).set 1 (.slice rbp nb rbc)))) rfl ?_
     exact ⟨_, rfl, few_end (by simpa [bools] using ra) rb HLA.out HLB.out, ((HFin.out _ hA3).setCell (by show w.heap.size ≤ w.heap.size + 1; omega) _).setCell (by show w.heap.size ≤ w.heap.size + 1; omega) _⟩
   ·go_simp
    have hA1 := hB0.alloc hB0.size (.cells #[] 49)
    have RB := Lib.hid (World.ownsRow_made (base := W1.heap.size) (size := 2) (e := 49) wd #[] 0 hB0.size (Nat.zero_le _) rfl)
    refine hK.out _ _ (fun _ _ => HS.out _ hA1) ?_
    clear hK K
    try simp only [Act.put, sq]
    obtain ⟨wa1, hwa1⟩ : ∃ q, wd.alloc (.cells #[] 49) = q := ⟨_, rfl⟩
    obtain ⟨gb1, hgb1⟩ : ∃ q, wd.heap.size = q := ⟨_, rfl⟩
    have hlt1 : W1.heap.size ≤ gb1 := by rw [← hgb1]; exact hB0.size
    rw [hwa1] at hA1 RB
    try simp only [hwa1]
    try rw [hgb1] at RB
    try simp only [hgb1]
    clear hwa1
    have hsz1 : gb1 < wa1.heap.size := by have := hA1.size; first | exact RB.out.lt | (have hh := RB.out.lt gb1 rfl; exact hh.2)
    clear hgb1
    refine won 0 rfl fun K hK => ?_
    go_simp
    have hA2 := hA1.alloc hA1.size (.cells #[] 4)
    have RA := Lib.hid (World.ownsRow_made (base := W1.heap.size) (size := 1) (e := 4) wa1 #[] 0 hA1.size (Nat.zero_le _) rfl)
    replace RB := Lib.hid (RB.out.alloc (.cells #[] 4))
    refine hK.out _ _ (fun _ _ => HS.out _ hA2) ?_
    clear hK K
    try simp only [Act.put, sq]
    obtain ⟨wa2, hwa2⟩ : ∃ q, wa1.alloc (.cells #[] 4) = q := ⟨_, rfl⟩
    obtain ⟨gb2, hgb2⟩ : ∃ q, wa1.heap.size = q := ⟨_, rfl⟩
    have hlt2 : W1.heap.size ≤ gb2 := by rw [← hgb2]; exact hA1.size
    rw [hwa2] at hA2 RB RA
    try simp only [hwa2]
    try rw [hgb2] at RB
    try rw [hgb2] at RA
    try simp only [hgb2]
    clear hwa2
    have hsz2 : gb2 < wa2.heap.size := by have := hA2.size; first | exact RA.out.lt | (have hh := RA.out.lt gb2 rfl; exact hh.2)
    clear hgb2
    refine won 8 rfl fun K hK => ?_
    go_simp
    refine hK.out _ _ (fun _ h => h) ?_
    clear hK K
    try simp only [Act.put, sq]
    refine won 17 rfl fun K hK => ?_
    refine step_append_own (by rfl) _ _ 62 (by rfl) W1.heap.size 49 i1 (.agg #[.int .i64 0, .int .i64 0]) 2 16 Tryz.underlying62 hj hj0 hj1 hj2 rfl (by decide) _ 0 [] (by rfl) RB.out a1 nb c1 (valsC (ml.take 50)) (by rfl) (by rw [valsC_len, HLB.out]) (fun q u hq => cell_later hA2 (HNB.out q u hq)) (ones_vals _) (by unfold maxLen; omega) (by omega) hA2.size ?_
    intro v3 wa3 hown3 hg3 hnil3
    rw [Nat.zero_add, List.nil_append] at hown3
    obtain ⟨rbp, rbc, rfl⟩ := owns_form hown3
    have hA3 : Below W1.heap.size W1 wa3 := hA2.grown hg3 hA2.size (fun k hk => (RB.out.lt k hk).1)
    replace RA := Lib.hid (owns_other RA.out RB.out (by decide) hg3)
    replace RB := Lib.hid hown3
    clear hown3 hg3 hnil3
    refine hK.out _ _ (fun _ _ => HS.out _ hA3) ?_
    clear hK K
    try simp only [Act.put, sq]
    refine won 18 rfl fun K hK => ?_
    go_simp
    refine hK.out _ _ (fun _ h => h) ?_
    clear hK K
    try simp only [Act.put, sq]
    refine won 19 rfl fun K hK => ?_
    have r0 := (HBR.out.later hA3).cell 0 rfl
    have r1 := (HBR.out.later hA3).cell 1 rfl
    have f0 := (HBR.out.later hA3).frozen 0
    have f1 := (HBR.out.later hA3).frozen 1
    have fl := (HBR.out.later hA3).lt
    go_simp
    refine hK.out _ _ (fun h => absurd h (by decide)) ?_
    clear hK K r0 r1 f0 f1
    try simp only [Act.put, sq]
    refine wpAnyM_done (by kernel_rfl) ?_ _
    try simp only [Act.put, sq]
    have q0 := HBR.out.later hA3
    have ra := owns_store (owns_store RA.out q0 (by decide) 0 (.slice (some ⟨gb2, 0, none⟩) 0 0)) (q0.set 0 (.slice (some ⟨gb2, 0, none⟩) 0 0)) (by decide) 1 (.slice rbp nb rbc)
    have rb := owns_store (owns_store RB.out q0 (by decide) 0 (.slice (some ⟨gb2, 0, none⟩) 0 0)) (q0.set 0 (.slice (some ⟨gb2, 0, none⟩) 0 0)) (by decide) 1 (.slice rbp nb rbc)
    go_wp2_with fail
    refine bodyPost_ret (results_cell Tryz.results42 _ _ _ _ _ rfl (load_world ((q0.set 0 (.slice (some ⟨gb2, 0, none⟩) 0 0)).set 1 (.slice rbp nb rbc)))) rfl ?_
    exact ⟨_, rfl, few_end (by simpa [bools] using ra) rb HLA.out HLB.out, ((HFin.out _ hA3).setCell (by show w.heap.size ≤ w.heap.size + 1; omega) _).setCell (by show w.heap.size ≤ w.heap.size + 1; omega) _⟩
 | some a0 =>
  cases p1 with
  | none =>
   have HNA := Lib.hid (bools_news (H0.out.below HAL.out) 50)
   have hnil := E1.out rfl
   subst hnil
   have hnb0 : nb = 0 := by rw [← HLB.out]; rfl
   subst hnb0
   have hm0 : min (0 : Int) 50 = 0 := by decide
   have hm1 : (if (50 : Int) < 0 then (50 : Int) else 0) = 0 := by decide
   have HS : RowKit.Hid (∀ w', Below W1.heap.size W1 w' → w'.cell? ⟨w.heap.size, 0, none⟩ = some (.slice (some a0) mc.length c0) ∧ w'.cell? ⟨w.heap.size, 1, none⟩ = some (.slice none 0 c1) ∧ Below W1.heap.size W1 w') := Lib.hid (fun w' hb => ⟨(HBX.out.later hb).cell 0 rfl, (HBX.out.later hb).cell 1 rfl, hb⟩)
   refine wp_region_keep (fun w' => w'.cell? ⟨w.heap.size, 0, none⟩ = some (.slice (some a0) mc.length c0) ∧ w'.cell? ⟨w.heap.size, 1, none⟩ = some (.slice none 0 c1) ∧ Below W1.heap.size W1 w') [19] (by kernel_rfl) ?_
   have hB0 : Below (W1).heap.size (W1) (W1).drew := Below.drew (Below.refl _ _)
   obtain ⟨wd, hwd⟩ : ∃ q, (W1).drew = q := ⟨_, rfl⟩
   rw [hwd] at hB0 ⊢
   clear hwd
   refine wfr 1 (v := ?_) rfl ?_ ?_
   rotate_left
   ·intro w' hw';go_simp;try with_reducible rfl
   try simp only [Act.put, sq]
   refine wtk 2 20 (v := ?_) rfl ?_ (HS.out _ hB0) ?_
   rotate_left
   ·intro w' hw';(try dsimp only at hw');go_simp;try with_reducible rfl
   try simp only [Act.put, sq]
   refine wfr 3 (v := ?_) rfl ?_ ?_
   rotate_left
   ·intro w' hw';go_simp;try with_reducible rfl
   try simp only [Act.put, sq]
   refine wtk 4 20 (v := ?_) rfl ?_ (HS.out _ hB0) ?_
   rotate_left
   ·intro w' hw';(try dsimp only at hw');go_simp;try with_reducible rfl
   try simp only [Act.put, sq]
   refine wfr 5 (v := ?_) rfl ?_ ?_
   rotate_left
   ·intro w' hw';go_simp;try with_reducible rfl
   try simp only [Act.put, sq]
   refine wfr 6 (v := ?_) rfl ?_ ?_
   rotate_left
   ·intro w' hw';go_simp;try with_reducible rfl
   try simp only [Act.put, sq]
   refine wfr 7 (v := ?_) rfl ?_ ?_
   rotate_left
   ·intro w' hw';go_simp;try with_reducible rfl
   try simp only [Act.put, sq]
   refine wfr 10 (v := ?_) rfl ?_ ?_
   rotate_left
   ·intro w' hw';go_simp;try with_reducible rfl
   try simp only [Act.put, sq]
   refine wtk 11 20 (v := ?_) rfl ?_ (HS.out _ hB0) ?_
   rotate_left
   ·intro w' hw';(try dsimp only at hw');go_simp;try with_reducible rfl
   try simp only [Act.put, sq]
   refine wfr 12 (v := ?_) rfl ?_ ?_
   rotate_left
   ·intro w' hw';go_simp;try with_reducible rfl
   try simp only [Act.put, sq]
   refine wtk 13 20 (v := ?_) rfl ?_ (HS.out _ hB0) ?_
   rotate_left
   ·intro w' hw';(try dsimp only at hw');go_simp;try with_reducible rfl
   try simp only [Act.put, sq]
   refine wfr 14 (v := ?_) rfl ?_ ?_
   rotate_left
   ·intro w' hw';go_simp;try with_reducible rfl
   try simp only [Act.put, sq]
   refine wfr 15 (v := ?_) rfl ?_ ?_
   rotate_left
   ·intro w' hw';go_simp;try with_reducible rfl
   try simp only [Act.put, sq]
   refine wfr 16 (v := ?_) rfl ?_ ?_
   rotate_left
   ·intro w' hw';go_simp;try with_reducible rfl
   try simp only [Act.put, sq]
   refine wpAnyM_two 0 9 rfl rfl (by kernel_rfl) (fun K hK => ?_) (fun K hK => ?_)
   ·go_simp
    have hA1 := hB0.alloc hB0.size (.cells #[] 4)
    have RA := Lib.hid (World.ownsRow_made (base := W1.heap.size) (size := 1) (e := 4) wd #[] 0 hB0.size (Nat.zero_le _) rfl)
    refine hK.out _ _ (fun _ _ => HS.out _ hA1) ?_
    clear hK K
    try simp only [Act.put, sq]
    obtain ⟨wa1, hwa1⟩ : ∃ q, wd.alloc (.cells #[] 4) = q := ⟨_, rfl⟩
    obtain ⟨gb1, hgb1⟩ : ∃ q, wd.heap.size = q := ⟨_, rfl⟩
    have hlt1 : W1.heap.size ≤ gb1 := by rw [← hgb1]; exact hB0.size
    rw [hwa1] at hA1 RA
    try simp only [hwa1]
    try rw [hgb1] at RA
    try simp only [hgb1]
    clear hwa1
    have hsz1 : gb1 < wa1.heap.size := by have := hA1.size; first | exact RA.out.lt | (have hh := RA.out.lt gb1 rfl; exact hh.2)
    clear hgb1
    refine wpAnyM_two 8 9 rfl rfl (by kernel_rfl) (fun K hK => ?_) (fun K hK => ?_)
    ·refine step_append_own (by rfl) _ _ 61 (by rfl) W1.heap.size 4 i0 (.bool false) 1 1 Tryz.underlying61 hi hz0 hz1 hz2 rfl (by decide) _ 0 [] (by rfl) RA.out a0 na c0 (bools (mc.take 50)) (by rfl) (by rw [Nat.mul_one, bools_length, HLA.out]) (fun q u hq => cell_later hA1 (HNA.out q u hq)) (ones_bools _) (by unfold maxLen; omega) (by omega) hA1.size ?_
     intro v2 wa2 hown2 hg2 hnil2
     rw [Nat.zero_add, List.nil_append] at hown2
     obtain ⟨rap, rac, rfl⟩ := owns_form hown2
     have hA2 : Below W1.heap.size W1 wa2 := hA1.grown hg2 hA1.size (fun k hk => (RA.out.lt k hk).1)
     replace RA := Lib.hid hown2
     clear hown2 hg2 hnil2
     refine hK.out _ _ (fun _ _ => HS.out _ hA2) ?_
     clear hK K
     try simp only [Act.put, sq]
     refine won 9 rfl fun K hK => ?_
     go_simp
     have hA3 := hA2.alloc hA2.size (.cells #[] 49)
     have RB := Lib.hid (World.ownsRow_made (base := W1.heap.size) (size := 2) (e := 49) wa2 #[] 0 hA2.size (Nat.zero_le _) rfl)
     replace RA := Lib.hid (RA.out.alloc (.cells #[] 49))
     refine hK.out _ _ (fun _ _ => HS.out _ hA3) ?_
     clear hK K
     try simp only [Act.put, sq]
     obtain ⟨wa3, hwa3⟩ : ∃ q, wa2.alloc (.cells #[] 49) = q := ⟨_, rfl⟩
     obtain ⟨gb3, hgb3⟩ : ∃ q, wa2.heap.size = q := ⟨_, rfl⟩
     have hlt3 : W1.heap.size ≤ gb3 := by rw [← hgb3]; exact hA2.size
     rw [hwa3] at hA3 RA RB
     try simp only [hwa3]
     try rw [hgb3] at RA
     try rw [hgb3] at RB
     try simp only [hgb3]
     clear hwa3
     have hsz3 : gb3 < wa3.heap.size := by have := hA3.size; first | exact RB.out.lt | (have hh := RB.out.lt gb3 rfl; exact hh.2)
     clear hgb3
     refine won 17 rfl fun K hK => ?_
     go_simp
     refine hK.out _ _ (fun _ h => h) ?_
     clear hK K
     try simp only [Act.put, sq]
     refine won 18 rfl fun K hK => ?_
     go_simp
     refine hK.out _ _ (fun _ h => h) ?_
     clear hK K
     try simp only [Act.put, sq]
     refine won 19 rfl fun K hK => ?_
     have r0 := (HBR.out.later hA3).cell 0 rfl
     have r1 := (HBR.out.later hA3).cell 1 rfl
     have f0 := (HBR.out.later hA3).frozen 0
     have f1 := (HBR.out.later hA3).frozen 1
     have fl := (HBR.out.later hA3).lt
     go_simp
     refine hK.out _ _ (fun h => absurd h (by decide)) ?_
     clear hK K r0 r1 f0 f1
     try simp only [Act.put, sq]
     refine wpAnyM_done (by kernel_rfl) ?_ _
     try simp only [Act.put, sq]
     have q0 := HBR.out.later hA3
     have ra := owns_store (owns_store RA.out q0 (by decide) 0 (.slice rap na rac)) (q0.set 0 (.slice rap na rac)) (by decide) 1 (.slice (some ⟨gb3, 0, none⟩) 0 0)
     have rb := owns_store (owns_store RB.out q0 (by decide) 0 (.slice rap na rac)) (q0.set 0 (.slice rap na rac)) (by decide) 1 (.slice (some ⟨gb3, 0, none⟩) 0 0)
     go_wp2_with fail
     refine bodyPost_ret (results_cell Tryz.results42 _ _ _ _ _ rfl (load_world ((q0.set 0 (.slice rap na rac)).set 1 (.slice (some ⟨gb3, 0, none⟩) 0 0)))) rfl ?_
     exact ⟨_, rfl, few_end ra (by simpa [valsC] using rb) HLA.out HLB.out, ((HFin.out _ hA3).setCell (by show w.heap.size ≤ w.heap.size + 1; omega) _).setCell (by show w.heap.size ≤ w.heap.size + 1; omega) _⟩
    ·go_simp
     have hA2 := hA1.alloc hA1.size (.cells #[] 49)
     have RB := Lib.hid (World.ownsRow_made (base := W1.heap.size) (size := 2) (e := 49) wa1 #[] 0 hA1.size (Nat.zero_le _) rfl)
     replace RA := Lib.hid (RA.out.alloc (.cells #[] 49))
     refine hK.out _ _ (fun _ _ => HS.out _ hA2) ?_
     clear hK K
     try simp only [Act.put, sq]
     obtain ⟨wa2, hwa2⟩ : ∃ q, wa1.alloc (.cells #[] 49) = q := ⟨_, rfl⟩
     obtain ⟨gb2, hgb2⟩ : ∃ q, wa1.heap.size = q := ⟨_, rfl⟩
     have hlt2 : W1.heap.size ≤ gb2 := by rw [← hgb2]; exact hA1.size
     rw [hwa2] at hA2 RA RB
     try simp only [hwa2]
     try rw [hgb2] at RA
     try rw [hgb2] at RB
     try simp only [hgb2]
     clear hwa2
     have hsz2 : gb2 < wa2.heap.size := by have := hA2.size; first | exact RB.out.lt | (have hh := RB.out.lt gb2 rfl; exact hh.2)
     clear hgb2
     refine won 8 rfl fun K hK => ?_
     refine step_append_own (by rfl) _ _ 61 (by rfl) W1.heap.size 4 i0 (.bool false) 1 1 Tryz.underlying61 hi hz0 hz1 hz2 rfl (by decide) _ 0 [] (by rfl) RA.out a0 na c0 (bools (mc.take 50)) (by rfl) (by rw [Nat.mul_one, bools_length, HLA.out]) (fun q u hq => cell_later hA2 (HNA.out q u hq)) (ones_bools _) (by unfold maxLen; omega) (by omega) hA2.size ?_
     intro v3 wa3 hown3 hg3 hnil3
     rw [Nat.zero_add, List.nil_append] at hown3
     obtain ⟨rap, rac, rfl⟩ := owns_form hown3
     have hA3 : Below W1.heap.size W1 wa3 := hA2.grown hg3 hA2.size (fun k hk => (RA.out.lt k hk).1)
     replace RB := Lib.hid (owns_other RB.out RA.out (by decide) hg3)
     replace RA := Lib.hid hown3
     clear hown3 hg3 hnil3
     refine hK.out _ _ (fun _ _ => HS.out _ hA3) ?_
     clear hK K
     try simp only [Act.put, sq]
     refine won 17 rfl fun K hK => ?_
     go_simp
     refine hK.out _ _ (fun _ h => h) ?_
     clear hK K
     try simp only [Act.put, sq]
     refine won 18 rfl fun K hK => ?_
     go_simp
     refine hK.out _ _ (fun _ h => h) ?_
     clear hK K
     try simp only [Act.put, sq]
     refine won 19 rfl fun K hK => ?_
     have r0 := (HBR.out.later hA3).cell 0 rfl
     have r1 := (HBR.out.later hA3).cell 1 rfl
     have f0 := (HBR.out.later hA3).frozen 0
     have f1 := (HBR.out.later hA3).frozen 1
     have fl := (HBR.out.later hA3).lt
     go_simp
     refine hK.out _ _ (fun h => absurd h (by decide)) ?_
     clear hK K r0 r1 f0 f1
     try simp only [Act.put, sq]
     refine wpAnyM_done (by kernel_rfl) ?_ _
     try simp only [Act.put, sq]
     have q0 := HBR.out.later hA3
     have ra := owns_store (owns_store RA.out q0 (by decide) 0 (.slice rap na rac)) (q0.set 0 (.slice rap na rac)) (by decide) 1 (.slice (some ⟨gb2, 0, none⟩) 0 0)
     have rb := owns_store (owns_store RB.out q0 (by decide) 0 (.slice rap na rac)) (q0.set 0 (.slice rap na rac)) (by decide) 1 (.slice (some ⟨gb2, 0, none⟩) 0 0)
     go_wp2_with fail
     refine bodyPost_ret (results_cell Tryz.results42 _ _ _ _ _ rfl (load_world ((q0.set 0 (.slice rap na rac)).set 1 (.slice (some ⟨gb2, 0, none⟩) 0 0)))) rfl ?_
     exact ⟨_, rfl, few_end ra (by simpa [valsC] using rb) HLA.out HLB.out, ((HFin.out _ hA3).setCell (by show w.heap.size ≤ w.heap.size + 1; omega) _).setCell (by show w.heap.size ≤ w.heap.size + 1; omega) _⟩
   ·go_simp
    have hA1 := hB0.alloc hB0.size (.cells #[] 49)
    have RB := Lib.hid (World.ownsRow_made (base := W1.heap.size) (size := 2) (e := 49) wd #[] 0 hB0.size (Nat.zero_le _) rfl)
    refine hK.out _ _ (fun _ _ => HS.out _ hA1) ?_
    clear hK K
    try simp only [Act.put, sq]
    obtain ⟨wa1, hwa1⟩ : ∃ q, wd.alloc (.cells #[] 49) = q := ⟨_, rfl⟩
    obtain ⟨gb1, hgb1⟩ : ∃ q, wd.heap.size = q := ⟨_, rfl⟩
    have hlt1 : W1.heap.size ≤ gb1 := by rw [← hgb1]; exact hB0.size
    rw [hwa1] at hA1 RB
    try simp only [hwa1]
    try rw [hgb1] at RB
    try simp only [hgb1]
    clear hwa1
    have hsz1 : gb1 < wa1.heap.size := by have := hA1.size; first | exact RB.out.lt | (have hh := RB.out.lt gb1 rfl; exact hh.2)
    clear hgb1
    refine won 0 rfl fun K hK => ?_
    go_simp
    have hA2 := hA1.alloc hA1.size (.cells #[] 4)
    have RA := Lib.hid (World.ownsRow_made (base := W1.heap.size) (size := 1) (e := 4) wa1 #[] 0 hA1.size (Nat.zero_le _) rfl)
    replace RB := Lib.hid (RB.out.alloc (.cells #[] 4))
    refine hK.out _ _ (fun _ _ => HS.out _ hA2) ?_
    clear hK K
    try simp only [Act.put, sq]
    obtain ⟨wa2, hwa2⟩ : ∃ q, wa1.alloc (.cells #[] 4) = q := ⟨_, rfl⟩
    obtain ⟨gb2, hgb2⟩ : ∃ q, wa1.heap.size = q := ⟨_, rfl⟩
    have hlt2 : W1.heap.size ≤ gb2 := by rw [← hgb2]; exact hA1.size
    rw [hwa2] at hA2 RB RA
    try simp only [hwa2]
    try rw [hgb2] at RB
    try rw [hgb2] at RA
    try simp only [hgb2]
    clear hwa2
    have hsz2 : gb2 < wa2.heap.size := by have := hA2.size; first | exact RA.out.lt | (have hh := RA.out.lt gb2 rfl; exact hh.2)
    clear hgb2
    refine won 8 rfl fun K hK => ?_
    refine step_append_own (by rfl) _ _ 61 (by rfl) W1.heap.size 4 i0 (.bool false) 1 1 Tryz.underlying61 hi hz0 hz1 hz2 rfl (by decide) _ 0 [] (by rfl) RA.out a0 na c0 (bools (mc.take 50)) (by rfl) (by rw [Nat.mul_one, bools_length, HLA.out]) (fun q u hq => cell_later hA2 (HNA.out q u hq)) (ones_bools _) (by unfold maxLen; omega) (by omega) hA2.size ?_
    intro v3 wa3 hown3 hg3 hnil3
    rw [Nat.zero_add, List.nil_append] at hown3
    obtain ⟨rap, rac, rfl⟩ := owns_form hown3
    have hA3 : Below W1.heap.size W1 wa3 := hA2.grown hg3 hA2.size (fun k hk => (RA.out.lt k hk).1)
    replace RB := Lib.hid (owns_other RB.out RA.out (by decide) hg3)
    replace RA := Lib.hid hown3
    clear hown3 hg3 hnil3
    refine hK.out _ _ (fun _ _ => HS.out _ hA3) ?_
    clear hK K
    try simp only [Act.put, sq]
    refine won 17 rfl fun K hK => ?_
    go_simp
    refine hK.out _ _ (fun _ h => h) ?_
    clear hK K
    try simp only [Act.put, sq]
    refine won 18 rfl fun K hK => ?_
    go_simp
    refine hK.out _ _ (fun _ h => h) ?_
    clear hK K
    try simp only [Act.put, sq]
    refine won 19 rfl fun K hK => ?_
    have r0 := (HBR.out.later hA3).cell 0 rfl
    have r1 := (HBR.out.later hA3).cell 1 rfl
    have f0 := (HBR.out.later hA3).frozen 0
    have f1 := (HBR.out.later hA3).frozen 1
    have fl := (HBR.out.later hA3).lt
    go_simp
    refine hK.out _ _ (fun h => absurd h (by decide)) ?_
    clear hK K r0 r1 f0 f1
    try simp only [Act.put, sq]
    refine wpAnyM_done (by kernel_rfl) ?_ _
    try simp only [Act.put, sq]
    have q0 := HBR.out.later hA3
    have ra := owns_store (owns_store RA.out q0 (by decide) 0 (.slice rap na rac)) (q0.set 0 (.slice rap na rac)) (by decide) 1 (.slice (some ⟨gb1, 0, none⟩) 0 0)
    have rb := owns_store (owns_store RB.out q0 (by decide) 0 (.slice rap na rac)) (q0.set 0 (.slice rap na rac)) (by decide) 1 (.slice (some ⟨gb1, 0, none⟩) 0 0)
    go_wp2_with fail
    refine bodyPost_ret (results_cell Tryz.results42 _ _ _ _ _ rfl (load_world ((q0.set 0 (.slice rap na rac)).set 1 (.slice (some ⟨gb1, 0, none⟩) 0 0)))) rfl ?_
    exact ⟨_, rfl, few_end ra (by simpa [valsC] using rb) HLA.out HLB.out, ((HFin.out _ hA3).setCell (by show w.heap.size ≤ w.heap.size + 1; omega) _).setCell (by show w.heap.size ≤ w.heap.size + 1; omega) _⟩
  | some a1 =>
   have HNA := Lib.hid (bools_news (H0.out.below HAL.out) 50)
   have HNB := Lib.hid (vals_news (H1.out.below HAL.out) 50)
   have HS : RowKit.Hid (∀ w', Below W1.heap.size W1 w' → w'.cell? ⟨w.heap.size, 0, none⟩ = some (.slice (some a0) mc.length c0) ∧ w'.cell? ⟨w.heap.size, 1, none⟩ = some (.slice (some a1) ml.length c1) ∧ Below W1.heap.size W1 w') := Lib.hid (fun w' hb => ⟨(HBX.out.later hb).cell 0 rfl, (HBX.out.later hb).cell 1 rfl, hb⟩)
   refine wp_region_keep (fun w' => w'.cell? ⟨w.heap.size, 0, none⟩ = some (.slice (some a0) mc.length c0) ∧ w'.cell? ⟨w.heap.size, 1, none⟩ = some (.slice (some a1) ml.length c1) ∧ Below W1.heap.size W1 w') [19] (by kernel_rfl) ?_
   have hB0 : Below (W1).heap.size (W1) (W1).drew := Below.drew (Below.refl _ _)
   obtain ⟨wd, hwd⟩ : ∃ q, (W1).drew = q := ⟨_, rfl⟩
   rw [hwd] at hB0 ⊢
   clear hwd
   refine wfr 1 (v := ?_) rfl ?_ ?_
   rotate_left
   ·intro w' hw';go_simp;try with_reducible rfl
   try simp only [Act.put, sq]
   refine wtk 2 20 (v := ?_) rfl ?_ (HS.out _ hB0) ?_
   rotate_left
   ·intro w' hw';(try dsimp only at hw');go_simp;try with_reducible rfl
   try simp only [Act.put, sq]
   refine wfr 3 (v := ?_) rfl ?_ ?_
   rotate_left
   ·intro w' hw';go_simp;try with_reducible rfl
   try simp only [Act.put, sq]
   refine wtk 4 20 (v := ?_) rfl ?_ (HS.out _ hB0) ?_
   rotate_left
   ·intro w' hw';(try dsimp only at hw');go_simp;try with_reducible rfl
   try simp only [Act.put, sq]
   refine wfr 5 (v := ?_) rfl ?_ ?_
   rotate_left
   ·intro w' hw';go_simp;try with_reducible rfl
   try simp only [Act.put, sq]
   refine wfr 6 (v := ?_) rfl ?_ ?_
   rotate_left
   ·intro w' hw';go_simp;try with_reducible rfl
   try simp only [Act.put, sq]
   refine wfr 7 (v := ?_) rfl ?_ ?_
   rotate_left
   ·intro w' hw';go_simp;try with_reducible rfl
   try simp only [Act.put, sq]
   refine wfr 10 (v := ?_) rfl ?_ ?_
   rotate_left
   ·intro w' hw';go_simp;try with_reducible rfl
   try simp only [Act.put, sq]
   refine wtk 11 20 (v := ?_) rfl ?_ (HS.out _ hB0) ?_
   rotate_left
   ·intro w' hw';(try dsimp only at hw');go_simp;try with_reducible rfl
   try simp only [Act.put, sq]
   refine wfr 12 (v := ?_) rfl ?_ ?_
   rotate_left
   ·intro w' hw';go_simp;try with_reducible rfl
   try simp only [Act.put, sq]
   refine wtk 13 20 (v := ?_) rfl ?_ (HS.out _ hB0) ?_
   rotate_left
   ·intro w' hw';(try dsimp only at hw');go_simp;try with_reducible rfl
   try simp only [Act.put, sq]
   refine wfr 14 (v := ?_) rfl ?_ ?_
   rotate_left
   ·intro w' hw';go_simp;try with_reducible rfl
   try simp only [Act.put, sq]
   refine wfr 15 (v := ?_) rfl ?_ ?_
   rotate_left
   ·intro w' hw';go_simp;try with_reducible rfl
   try simp only [Act.put, sq]
   refine wfr 16 (v := ?_) rfl ?_ ?_
   rotate_left
   ·intro w' hw';go_simp;try with_reducible rfl
   try simp only [Act.put, sq]
   refine wpAnyM_two 0 9 rfl rfl (by kernel_rfl) (fun K hK => ?_) (fun K hK => ?_)
   ·go_simp
    have hA1 := hB0.alloc hB0.size (.cells #[] 4)
    have RA := Lib.hid (World.ownsRow_made (base := W1.heap.size) (size := 1) (e := 4) wd #[] 0 hB0.size (Nat.zero_le _) rfl)
    refine hK.out _ _ (fun _ _ => HS.out _ hA1) ?_
    clear hK K
    try simp only [Act.put, sq]
    obtain ⟨wa1, hwa1⟩ : ∃ q, wd.alloc (.cells #[] 4) = q := ⟨_, rfl⟩
    obtain ⟨gb1, hgb1⟩ : ∃ q, wd.heap.size = q := ⟨_, rfl⟩
    have hlt1 : W1.heap.size ≤ gb1 := by rw [← hgb1]; exact hB0.size
    rw [hwa1] at hA1 RA
    try simp only [hwa1]
    try rw [hgb1] at RA
    try simp only [hgb1]
    clear hwa1
    have hsz1 : gb1 < wa1.heap.size := by have := hA1.size; first | exact RA.out.lt | (have hh := RA.out.lt gb1 rfl; exact hh.2)
    clear hgb1
    refine wpAnyM_two 8 9 rfl rfl (by kernel_rfl) (fun K hK => ?_) (fun K hK => ?_)
    ·refine step_append_own (by rfl) _ _ 61 (by rfl) W1.heap.size 4 i0 (.bool false) 1 1 Tryz.underlying61 hi hz0 hz1 hz2 rfl (by decide) _ 0 [] (by rfl) RA.out a0 na c0 (bools (mc.take 50)) (by rfl) (by rw [Nat.mul_one, bools_length, HLA.out]) (fun q u hq => cell_later hA1 (HNA.out q u hq)) (ones_bools _) (by unfold maxLen; omega) (by omega) hA1.size ?_
     intro v2 wa2 hown2 hg2 hnil2
     rw [Nat.zero_add, List.nil_append] at hown2
     obtain ⟨rap, rac, rfl⟩ := owns_form hown2
     have hA2 : Below W1.heap.size W1 wa2 := hA1.grown hg2 hA1.size (fun k hk => (RA.out.lt k hk).1)
     replace RA := Lib.hid hown2
     clear hown2 hg2 hnil2
     refine hK.out _ _ (fun _ _ => HS.out _ hA2) ?_
     clear hK K
     try simp only [Act.put, sq]
     refine won 9 rfl fun K hK => ?_
     go_simp
     have hA3 := hA2.alloc hA2.size (.cells #[] 49)
     have RB := Lib.hid (World.ownsRow_made (base := W1.heap.size) (size := 2) (e := 49) wa2 #[] 0 hA2.size (Nat.zero_le _) rfl)
     replace RA := Lib.hid (RA.out.alloc (.cells #[] 49))
     refine hK.out _ _ (fun _ _ => HS.out _ hA3) ?_
     clear hK K
     try simp only [Act.put, sq]
     obtain ⟨wa3, hwa3⟩ : ∃ q, wa2.alloc (.cells #[] 49) = q := ⟨_, rfl⟩
     obtain ⟨gb3, hgb3⟩ : ∃ q, wa2.heap.size = q := ⟨_, rfl⟩
     have hlt3 : W1.heap.size ≤ gb3 := by rw [← hgb3]; exact hA2.size
     rw [hwa3] at hA3 RA RB
     try simp only [hwa3]
     try rw [hgb3] at RA
     try rw [hgb3] at RB
     try simp only [hgb3]
     clear hwa3
     have hsz3 : gb3 < wa3.heap.size := by have := hA3.size; first | exact RB.out.lt | (have hh := RB.out.lt gb3 rfl; exact hh.2)
     clear hgb3
     refine won 17 rfl fun K hK => ?_
     refine step_append_own (by rfl) _ _ 62 (by rfl) W1.heap.size 49 i1 (.agg #[.int .i64 0, .int .i64 0]) 2 16 Tryz.underlying62 hj hj0 hj1 hj2 rfl (by decide) _ 0 [] (by rfl) RB.out a1 nb c1 (valsC (ml.take 50)) (by rfl) (by rw [valsC_len, HLB.out]) (fun q u hq => cell_later hA3 (HNB.out q u hq)) (ones_vals _) (by unfold maxLen; omega) (by omega) hA3.size ?_
     intro v4 wa4 hown4 hg4 hnil4
     rw [Nat.zero_add, List.nil_append] at hown4
     obtain ⟨rbp, rbc, rfl⟩ := owns_form hown4
     have hA4 : Below W1.heap.size W1 wa4 := hA3.grown hg4 hA3.size (fun k hk => (RB.out.lt k hk).1)
     replace RA := Lib.hid (owns_other RA.out RB.out (by decide) hg4)
     replace RB := Lib.hid hown4
     clear hown4 hg4 hnil4
     refine hK.out _ _ (fun _ _ => HS.out _ hA4) ?_
     clear hK K
     try simp only [Act.put, sq]
     refine won 18 rfl fun K hK => ?_
     go_simp
     refine hK.out _ _ (fun _ h => h) ?_
     clear hK K
     try simp only [Act.put, sq]
     refine won 19 rfl fun K hK => ?_
     have r0 := (HBR.out.later hA4).cell 0 rfl
     have r1 := (HBR.out.later hA4).cell 1 rfl
     have f0 := (HBR.out.later hA4).frozen 0
     have f1 := (HBR.out.later hA4).frozen 1
     have fl := (HBR.out.later hA4).lt
     go_simp
     refine hK.out _ _ (fun h => absurd h (by decide)) ?_
     clear hK K r0 r1 f0 f1
     try simp only [Act.put, sq]
     refine wpAnyM_done (by kernel_rfl) ?_ _
     try simp only [Act.put, sq]
     have q0 := HBR.out.later hA4
     have ra := owns_store (owns_store RA.out q0 (by decide) 0 (.slice rap na rac)) (q0.set 0 (.slice rap na rac)) (by decide) 1 (.slice rbp nb rbc)
     have rb := owns_store (owns_store RB.out q0 (by decide) 0 (.slice rap na rac)) (q0.set 0 (.slice rap na rac)) (by decide) 1 (.slice rbp nb rbc)
     go_wp2_with fail
     refine bodyPost_ret (results_cell Tryz.results42 _ _ _ _ _ rfl (load_world ((q0.set 0 (.slice rap na rac)).set 1 (.slice rbp nb rbc)))) rfl ?_
     exact ⟨_, rfl, few_end ra rb HLA.out HLB.out, ((HFin.out _ hA4).setCell (by show w.heap.size ≤ w.heap.size + 1; omega) _).setCell (by show w.heap.size ≤ w.heap.size + 1; omega) _⟩
    ·go_simp
     have hA2 := hA1.alloc hA1.size (.cells #[] 49)
     have RB := Lib.hid (World.ownsRow_made (base := W1.heap.size) (size := 2) (e := 49) wa1 #[] 0 hA1.size (Nat.zero_le _) rfl)
     replace RA := Lib.hid (RA.out.alloc (.cells #[] 49))
     refine hK.out _ _ (fun _ _ => HS.out _ hA2) ?_
     clear hK K
     try simp only [Act.put, sq]
     obtain ⟨wa2, hwa2⟩ : ∃ q, wa1.alloc (.cells #[] 49) = q := ⟨_, rfl⟩
     obtain ⟨gb2, hgb2⟩ : ∃ q, wa1.heap.size = q := ⟨_, rfl⟩
     have hlt2 : W1.heap.size ≤ gb2 := by rw [← hgb2]; exact hA1.size
     rw [hwa2] at hA2 RA RB
     try simp only [hwa2]
     try rw [hgb2] at RA
     try rw [hgb2] at RB
     try simp only [hgb2]
     clear hwa2
     have hsz2 : gb2 < wa2.heap.size := by have := hA2.size; first | exact RB.out.lt | (have hh := RB.out.lt gb2 rfl; exact hh.2)
     clear hgb2
     refine won 8 rfl fun K hK => ?_
     refine step_append_own (by rfl) _ _ 61 (by rfl) W1.heap.size 4 i0 (.bool false) 1 1 Tryz.underlying61 hi hz0 hz1 hz2 rfl (by decide) _ 0 [] (by rfl) RA.out a0 na c0 (bools (mc.take 50)) (by rfl) (by rw [Nat.mul_one, bools_length, HLA.out]) (fun q u hq => cell_later hA2 (HNA.out q u hq)) (ones_bools _) (by unfold maxLen; omega) (by omega) hA2.size ?_
     intro v3 wa3 hown3 hg3 hnil3
     rw [Nat.zero_add, List.nil_append] at hown3
     obtain ⟨rap, rac, rfl⟩ := owns_form hown3
     have hA3 : Below W1.heap.size W1 wa3 := hA2.grown hg3 hA2.size (fun k hk => (RA.out.lt k hk).1)
     replace RB := Lib.hid (owns_other RB.out RA.out (by decide) hg3)
     replace RA := Lib.hid hown3
     clear hown3 hg3 hnil3
     refine hK.out _ _ (fun _ _ => HS.out _ hA3) ?_
     clear hK K
     try simp only [Act.put, sq]
     refine won 17 rfl fun K hK => ?_
     refine step_append_own (by rfl) _ _ 62 (by rfl) W1.heap.size 49 i1 (.agg #[.int .i64 0, .int .i64 0]) 2 16 Tryz.underlying62 hj hj0 hj1 hj2 rfl (by decide) _ 0 [] (by rfl) RB.out a1 nb c1 (valsC (ml.take 50)) (by rfl) (by rw [valsC_len, HLB.out]) (fun q u hq => cell_later hA3 (HNB.out q u hq)) (ones_vals _) (by unfold maxLen; omega) (by omega) hA3.size ?_
     intro v4 wa4 hown4 hg4 hnil4
     rw [Nat.zero_add, List.nil_append] at hown4
     obtain ⟨rbp, rbc, rfl⟩ := owns_form hown4
     have hA4 : Below W1.heap.size W1 wa4 := hA3.grown hg4 hA3.size (fun k hk => (RB.out.lt k hk).1)
     replace RA := Lib.hid (owns_other RA.out RB.out (by decide) hg4)
     replace RB := Lib.hid hown4
     clear hown4 hg4 hnil4
     refine hK.out _ _ (fun _ _ => HS.out _ hA4) ?_
     clear hK K
     try simp only [Act.put, sq]
     refine won 18 rfl fun K hK => ?_
     go_simp
     refine hK.out _ _ (fun _ h => h) ?_
     clear hK K
     try simp only [Act.put, sq]
     refine won 19 rfl fun K hK => ?_
     have r0 := (HBR.out.later hA4).cell 0 rfl
     have r1 := (HBR.out.later hA4).cell 1 rfl
     have f0 := (HBR.out.later hA4).frozen 0
     have f1 := (HBR.out.later hA4).frozen 1
     have fl := (HBR.out.later hA4).lt
     go_simp
     refine hK.out _ _ (fun h => absurd h (by decide)) ?_
     clear hK K r0 r1 f0 f1
     try simp only [Act.put, sq]
     refine wpAnyM_done (by kernel_rfl) ?_ _
     try simp only [Act.put, sq]
     have q0 := HBR.out.later hA4
     have ra := owns_store (owns_store RA.out q0 (by decide) 0 (.slice rap na rac)) (q0.set 0 (.slice rap na rac)) (by decide) 1 (.slice rbp nb rbc)
     have rb := owns_store (owns_store RB.out q0 (by decide) 0 (.slice rap na rac)) (q0.set 0 (.slice rap na rac)) (by decide) 1 (.slice rbp nb rbc)
     go_wp2_with fail
     refine bodyPost_ret (results_cell Tryz.results42 _ _ _ _ _ rfl (load_world ((q0.set 0 (.slice rap na rac)).set 1 (.slice rbp nb rbc)))) rfl ?_
     exact ⟨_, rfl, few_end ra rb HLA.out HLB.out, ((HFin.out _ hA4).setCell (by show w.heap.size ≤ w.heap.size + 1; omega) _).setCell (by show w.heap.size ≤ w.heap.size + 1; omega) _⟩
   ·go_simp
    have hA1 := hB0.alloc hB0.size (.cells #[] 49)
    have RB := Lib.hid (World.ownsRow_made (base := W1.heap.size) (size := 2) (e := 49) wd #[] 0 hB0.size (Nat.zero_le _) rfl)
    refine hK.out _ _ (fun _ _ => HS.out _ hA1) ?_
    clear hK K
    try simp only [Act.put, sq]
    obtain ⟨wa1, hwa1⟩ : ∃ q, wd.alloc (.cells #[] 49) = q := ⟨_, rfl⟩
    obtain ⟨gb1, hgb1⟩ : ∃ q, wd.heap.size = q := ⟨_, rfl⟩
    have hlt1 : W1.heap.size ≤ gb1 := by rw [← hgb1]; exact hB0.size
    rw [hwa1] at hA1 RB
    try simp only [hwa1]
    try rw [hgb1] at RB
    try simp only [hgb1]
    clear hwa1
    have hsz1 : gb1 < wa1.heap.size := by have := hA1.size; first | exact RB.out.lt | (have hh := RB.out.lt gb1 rfl; exact hh.2)
    clear hgb1
    refine won 0 rfl fun K hK => ?_
    go_simp
    have hA2 := hA1.alloc hA1.size (.cells #[] 4)
    have RA := Lib.hid (World.ownsRow_made (base := W1.heap.size) (size := 1) (e := 4) wa1 #[] 0 hA1.size (Nat.zero_le _) rfl)
    replace RB := Lib.hid (RB.out.alloc (.cells #[] 4))
    refine hK.out _ _ (fun _ _ => HS.out _ hA2) ?_
    clear hK K
    try simp only [Act.put, sq]
    obtain ⟨wa2, hwa2⟩ : ∃ q, wa1.alloc (.cells #[] 4) = q := ⟨_, rfl⟩
    obtain ⟨gb2, hgb2⟩ : ∃ q, wa1.heap.size = q := ⟨_, rfl⟩
    have hlt2 : W1.heap.size ≤ gb2 := by rw [← hgb2]; exact hA1.size
    rw [hwa2] at hA2 RB RA
    try simp only [hwa2]
    try rw [hgb2] at RB
    try rw [hgb2] at RA
    try simp only [hgb2]
    clear hwa2
    have hsz2 : gb2 < wa2.heap.size := by have := hA2.size; first | exact RA.out.lt | (have hh := RA.out.lt gb2 rfl; exact hh.2)
    clear hgb2
    refine won 8 rfl fun K hK => ?_
    refine step_append_own (by rfl) _ _ 61 (by rfl) W1.heap.size 4 i0 (.bool false) 1 1 Tryz.underlying61 hi hz0 hz1 hz2 rfl (by decide) _ 0 [] (by rfl) RA.out a0 na c0 (bools (mc.take 50)) (by rfl) (by rw [Nat.mul_one, bools_length, HLA.out]) (fun q u hq => cell_later hA2 (HNA.out q u hq)) (ones_bools _) (by unfold maxLen; omega) (by omega) hA2.size ?_
    intro v3 wa3 hown3 hg3 hnil3
    rw [Nat.zero_add, List.nil_append] at hown3
    obtain ⟨rap, rac, rfl⟩ := owns_form hown3
    have hA3 : Below W1.heap.size W1 wa3 := hA2.grown hg3 hA2.size (fun k hk => (RA.out.lt k hk).1)
    replace RB := Lib.hid (owns_other RB.out RA.out (by decide) hg3)
    replace RA := Lib.hid hown3
    clear hown3 hg3 hnil3
    refine hK.out _ _ (fun _ _ => HS.out _ hA3) ?_
    clear hK K
    try simp only [Act.put, sq]
    refine won 17 rfl fun K hK => ?_
    refine step_append_own (by rfl) _ _ 62 (by rfl) W1.heap.size 49 i1 (.agg #[.int .i64 0, .int .i64 0]) 2 16 Tryz.underlying62 hj hj0 hj1 hj2 rfl (by decide) _ 0 [] (by rfl) RB.out a1 nb c1 (valsC (ml.take 50)) (by rfl) (by rw [valsC_len, HLB.out]) (fun q u hq => cell_later hA3 (HNB.out q u hq)) (ones_vals _) (by unfold maxLen; omega) (by omega) hA3.size ?_
    intro v4 wa4 hown4 hg4 hnil4
    rw [Nat.zero_add, List.nil_append] at hown4
    obtain ⟨rbp, rbc, rfl⟩ := owns_form hown4
    have hA4 : Below W1.heap.size W1 wa4 := hA3.grown hg4 hA3.size (fun k hk => (RB.out.lt k hk).1)
    replace RA := Lib.hid (owns_other RA.out RB.out (by decide) hg4)
    replace RB := Lib.hid hown4
    clear hown4 hg4 hnil4
    refine hK.out _ _ (fun _ _ => HS.out _ hA4) ?_
    clear hK K
    try simp only [Act.put, sq]
    refine won 18 rfl fun K hK => ?_
    go_simp
    refine hK.out _ _ (fun _ h => h) ?_
    clear hK K
    try simp only [Act.put, sq]
    refine won 19 rfl fun K hK => ?_
    have r0 := (HBR.out.later hA4).cell 0 rfl
    have r1 := (HBR.out.later hA4).cell 1 rfl
    have f0 := (HBR.out.later hA4).frozen 0
    have f1 := (HBR.out.later hA4).frozen 1
    have fl := (HBR.out.later hA4).lt
    go_simp
    refine hK.out _ _ (fun h => absurd h (by decide)) ?_
    clear hK K r0 r1 f0 f1
    try simp only [Act.put, sq]
    refine wpAnyM_done (by kernel_rfl) ?_ _
    try simp only [Act.put, sq]
    have q0 := HBR.out.later hA4
    have ra := owns_store (owns_store RA.out q0 (by decide) 0 (.slice rap na rac)) (q0.set 0 (.slice rap na rac)) (by decide) 1 (.slice rbp nb rbc)
    have rb := owns_store (owns_store RB.out q0 (by decide) 0 (.slice rap na rac)) (q0.set 0 (.slice rap na rac)) (by decide) 1 (.slice rbp nb rbc)
    go_wp2_with fail
    refine bodyPost_ret (results_cell Tryz.results42 _ _ _ _ _ rfl (load_world ((q0.set 0 (.slice rap na rac)).set 1 (.slice rbp nb rbc)))) rfl ?_
    exact ⟨_, rfl, few_end ra rb HLA.out HLB.out, ((HFin.out _ hA4).setCell (by show w.heap.size ≤ w.heap.size + 1; omega) _).setCell (by show w.heap.size ≤ w.heap.size + 1; omega) _⟩
end Go.Proofs.YtmgchjddpmmglaaGreatDoor
