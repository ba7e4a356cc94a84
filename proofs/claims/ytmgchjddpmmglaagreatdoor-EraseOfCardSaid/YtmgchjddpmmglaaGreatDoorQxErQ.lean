/-
  Layer 14 (erase), the program: where an operation stands then. No conditions but that unicode/utf8's two tables are as their initialisers lay them.
-/
import Derived.Test.YtmgchjddpmmglaaGreatDoorQxHistVa
import Derived.Test.YtmgchjddpmmglaaGreatDoorQxInK
import Derived.Test.YtmgchjddpmmglaaGreatDoorQxErK
import Derived.Test.YtmgchjddpmmglaaGreatDoorQxErL
namespace Go.Proofs.YtmgchjddpmmglaaGreatDoor
open Go.RowKit Go.Lib
set_option maxRecDepth 100000 in
set_option maxHeartbeats 4000000 in
theorem place14_any {w : World} {v : Value} {h : HistM} (x y : Int) (hv : HistV w v h) (hm : Modst h) (hT : Lib.Utf8Tabs 1 2 w) :
  Calls Tryz.prog 25 #[v, .agg #[.int .i64 x, .int .i64 y]] w fun e w' => e = .returned (.tuple #[.agg #[.int .i64 (placeP h x y).1.1, .int .i64 (placeP h x y).1.2], .bool (placeP h x y).2]) ∧ Below w.heap.size w w' := by
 have H0 := Lib.hid hv
 obtain ⟨v0, v1, v2, rfl, ⟨p0, c0, rfl, -⟩, ⟨p1, c1, rfl, -⟩, ⟨p2, c2, rfl, k2⟩⟩ := hv
 have HX := Lib.hid k2
 have HMod := Lib.hid hm
 have hal := (((Below.refl w.heap.size w).alloc (Nat.le_refl _) (.cells #[.slice p0 h.1.length c0, .slice p1 h.2.1.length c1, .slice p2 h.2.2.length c2] 25)).alloc (by simp) (.cells #[.int .i64 x, .int .i64 y] 38)).alloc (by simp; omega) (.cells #[.int .i64 0, .int .i64 0] 38)
 have hbx := ((Blk.new w 25 [.slice p0 h.1.length c0, .slice p1 h.2.1.length c1, .slice p2 h.2.2.length c2]).alloc (.cells #[.int .i64 x, .int .i64 y] 38)).alloc (.cells #[.int .i64 0, .int .i64 0] 38)
 have hbp := (Blk.new (w.alloc (.cells #[.slice p0 h.1.length c0, .slice p1 h.2.1.length c1, .slice p2 h.2.2.length c2] 25)) 38 [.int .i64 x, .int .i64 y]).alloc (.cells #[.int .i64 0, .int .i64 0] 38)
 have hbr := Blk.new ((w.alloc (.cells #[.slice p0 h.1.length c0, .slice p1 h.2.1.length c1, .slice p2 h.2.2.length c2] 25)).alloc (.cells #[.int .i64 x, .int .i64 y] 38)) 38 [.int .i64 0, .int .i64 0]
 simp only [World.size_alloc] at hbp hbr
 have HMy := Lib.hid (fun w' (hb : Below w.heap.size w w') => hmay_v (H0.out.below hb) hm (Utf8Tabs_below hT hb))
 have HB0 := Lib.hid hal
 have KB := Lib.hid hbx
 have KP := Lib.hid hbp
 have KR := Lib.hid hbr
 clear k2 hm hT hal hbx hbp hbr
 go_enter Tryz.func25, Tryz.ntmps25
 go_upto_region 1 with fail
 obtain ⟨W0, hW0⟩ : ∃ q, ((w.alloc (.cells #[.slice p0 h.1.length c0, .slice p1 h.2.1.length c1, .slice p2 h.2.2.length c2] 25)).alloc (.cells #[.int .i64 x, .int .i64 y] 38)).alloc (.cells #[.int .i64 0, .int .i64 0] 38) = q := ⟨_, rfl⟩
 rw [hW0] at HB0 KB KP KR ⊢
 clear hW0
 have HMay := Lib.hid (fun w' (hb : Below W0.heap.size W0 w') => HMy.out w' (below_next HB0.out hb))
 have hz : w.heap.size + 1 + 1 < W0.heap.size := KR.out.lt
 clear HMy
 cases hmm : mayH h with
 | false =>
  have HEr := Lib.hid (err_no hmm)
  have HE : RowKit.Hid (placeP h x y = ((0, 0), false)) := Lib.hid (by unfold placeP; rw [if_neg (fun hh => by rw [hmm] at hh; exact Bool.false_ne_true hh.1)])
  have HS : RowKit.Hid (∀ w', Below W0.heap.size W0 w' → w'.cell? ⟨w.heap.size, 0, none⟩ = some (.slice p0 h.1.length c0) ∧ w'.cell? ⟨w.heap.size, 1, none⟩ = some (.slice p1 h.2.1.length c1) ∧ w'.cell? ⟨w.heap.size, 2, none⟩ = some (.slice p2 h.2.2.length c2) ∧ w'.cell? ⟨w.heap.size + 1, 0, none⟩ = some (.int .i64 x) ∧ w'.cell? ⟨w.heap.size + 1, 1, none⟩ = some (.int .i64 y) ∧ Below W0.heap.size W0 w') := Lib.hid (fun w' hb => ⟨(KB.out.later hb).cell 0 rfl, (KB.out.later hb).cell 1 rfl, (KB.out.later hb).cell 2 rfl, (KP.out.later hb).cell 0 rfl, (KP.out.later hb).cell 1 rfl, hb⟩)
  refine wp_region_keep (fun w' => w'.cell? ⟨w.heap.size, 0, none⟩ = some (.slice p0 h.1.length c0) ∧ w'.cell? ⟨w.heap.size, 1, none⟩ = some (.slice p1 h.2.1.length c1) ∧ w'.cell? ⟨w.heap.size, 2, none⟩ = some (.slice p2 h.2.2.length c2) ∧ w'.cell? ⟨w.heap.size + 1, 0, none⟩ = some (.int .i64 x) ∧ w'.cell? ⟨w.heap.size + 1, 1, none⟩ = some (.int .i64 y) ∧ Below W0.heap.size W0 w') [] (by kernel_rfl) ?_
  have hB0 : Below (W0).heap.size (W0) (W0).drew := Below.drew (Below.refl _ _)
  have hS0 := HS.out _ hB0
  refine won 0 rfl fun K hK => ?_
  go_simp
  refine hK.out _ _ (fun _ h => h) ?_
  clear hK K
  try simp only [Act.put, sq]
  refine won 1 rfl fun K hK => ?_
  go_simp
  refine (HMay.out _ hB0).mono ?_
  rintro e w1 ⟨he, hb1⟩
  have hB1 := below_next hB0 hb1
  have hS1 := HS.out _ hB1
  rw [HEr.out] at he
  subst he
  refine hK.out _ _ (fun _ _ => hS1) ?_
  clear hK K hS0
  try simp only [Act.put, sq]
  refine won 2 rfl fun K hK => ?_
  go_simp
  refine hK.out _ _ (fun _ h => h) ?_
  clear hK K
  try simp only [Act.put, sq]
  refine won 3 rfl fun K hK => ?_
  go_simp
  refine hK.out _ _ (fun _ h => h) ?_
  clear hK K
  try simp only [Act.put, sq]
  refine won 4 rfl fun K hK => ?_
  go_simp
  refine hK.out _ _ (fun _ h => h) ?_
  clear hK K
  try simp only [Act.put, sq]
  refine won 5 rfl fun K hK => ?_
  go_simp
  refine hK.out _ _ (fun _ h => h) ?_
  clear hK K
  try simp only [Act.put, sq]
  refine won 6 rfl fun K hK => ?_
  go_simp
  refine hK.out _ _ (fun _ h => h) ?_
  clear hK K
  try simp only [Act.put, sq]
  refine won 7 rfl fun K hK => ?_
  go_simp
  refine hK.out _ _ (fun _ h => h) ?_
  clear hK K
  try simp only [Act.put, sq]
  refine won 8 rfl fun K hK => ?_
  go_simp
  refine hK.out _ _ (fun _ h => h) ?_
  clear hK K
  try simp only [Act.put, sq]
  refine wpAnyM_free 9 (v := undef) rfl (by kernel_rfl) (by kernel_rfl) (by kernel_rfl) (fun _ _ _ h => h) (Or.inr ⟨by rfl, rfl⟩) ?_
  try simp only [Act.put, sq]
  refine wpAnyM_free 10 (v := undef) rfl (by kernel_rfl) (by kernel_rfl) (by kernel_rfl) (fun _ _ _ h => h) (Or.inr ⟨by rfl, rfl⟩) ?_
  try simp only [Act.put, sq]
  refine won 11 rfl fun K hK => ?_
  go_simp
  refine hK.out _ _ (fun _ h => h) ?_
  clear hK K
  try simp only [Act.put, sq]
  refine won 12 rfl fun K hK => ?_
  go_simp
  refine hK.out _ _ (fun _ h => h) ?_
  clear hK K
  try simp only [Act.put, sq]
  refine won 13 rfl fun K hK => ?_
  go_simp
  refine hK.out _ _ (fun _ h => h) ?_
  clear hK K
  try simp only [Act.put, sq]
  refine won 14 rfl fun K hK => ?_
  go_simp
  refine hK.out _ _ (fun _ h => h) ?_
  clear hK K
  try simp only [Act.put, sq]
  refine won 15 rfl fun K hK => ?_
  go_simp
  refine hK.out _ _ (fun _ h => h) ?_
  clear hK K
  try simp only [Act.put, sq]
  refine won 16 rfl fun K hK => ?_
  go_simp
  refine hK.out _ _ (fun _ h => h) ?_
  clear hK K
  try simp only [Act.put, sq]
  refine won 17 rfl fun K hK => ?_
  go_simp
  refine hK.out _ _ (fun _ h => h) ?_
  clear hK K
  try simp only [Act.put, sq]
  refine won 18 rfl fun K hK => ?_
  go_simp
  refine hK.out _ _ (fun _ h => h) ?_
  clear hK K
  try simp only [Act.put, sq]
  refine won 19 rfl fun K hK => ?_
  go_simp
  refine hK.out _ _ (fun _ h => h) ?_
  clear hK K
  try simp only [Act.put, sq]
  refine won 20 rfl fun K hK => ?_
  go_simp
  refine hK.out _ _ (fun _ h => h) ?_
  clear hK K
  try simp only [Act.put, sq]
  refine won 21 rfl fun K hK => ?_
  go_simp
  refine hK.out _ _ (fun _ h => h) ?_
  clear hK K
  try simp only [Act.put, sq]
  refine wpAnyM_free 22 (v := undef) rfl (by kernel_rfl) (by kernel_rfl) (by kernel_rfl) (fun _ _ _ h => h) (Or.inr ⟨by rfl, rfl⟩) ?_
  try simp only [Act.put, sq]
  refine wpAnyM_free 23 (v := undef) rfl (by kernel_rfl) (by kernel_rfl) (by kernel_rfl) (fun _ _ _ h => h) (Or.inr ⟨by rfl, rfl⟩) ?_
  try simp only [Act.put, sq]
  refine wpAnyM_free 24 (v := undef) rfl (by kernel_rfl) (by kernel_rfl) (by kernel_rfl) (fun _ _ _ h => h) (Or.inr ⟨by rfl, rfl⟩) ?_
  try simp only [Act.put, sq]
  refine wpAnyM_free 25 (v := undef) rfl (by kernel_rfl) (by kernel_rfl) (by kernel_rfl) (fun _ _ _ h => h) (Or.inr ⟨by rfl, rfl⟩) ?_
  try simp only [Act.put, sq]
  refine won 26 rfl fun K hK => ?_
  go_simp
  refine hK.out _ _ (fun _ h => h) ?_
  clear hK K
  try simp only [Act.put, sq]
  refine won 27 rfl fun K hK => ?_
  go_simp
  refine hK.out _ _ (fun _ h => h) ?_
  clear hK K
  try simp only [Act.put, sq]
  refine won 28 rfl fun K hK => ?_
  go_simp
  refine hK.out _ _ (fun _ h => h) ?_
  clear hK K
  try simp only [Act.put, sq]
  refine won 29 rfl fun K hK => ?_
  go_simp
  refine hK.out _ _ (fun _ h => h) ?_
  clear hK K
  try simp only [Act.put, sq]
  refine won 30 rfl fun K hK => ?_
  go_simp
  refine hK.out _ _ (fun _ h => h) ?_
  clear hK K
  try simp only [Act.put, sq]
  refine won 31 rfl fun K hK => ?_
  go_simp
  refine hK.out _ _ (fun _ h => h) ?_
  clear hK K
  try simp only [Act.put, sq]
  refine won 32 rfl fun K hK => ?_
  go_simp
  refine hK.out _ _ (fun _ h => h) ?_
  clear hK K
  try simp only [Act.put, sq]
  refine won 33 rfl fun K hK => ?_
  go_simp
  refine hK.out _ _ (fun _ h => h) ?_
  clear hK K
  try simp only [Act.put, sq]
  refine won 34 rfl fun K hK => ?_
  go_simp
  refine hK.out _ _ (fun _ h => h) ?_
  clear hK K
  try simp only [Act.put, sq]
  refine wpAnyM_free 35 (v := undef) rfl (by kernel_rfl) (by kernel_rfl) (by kernel_rfl) (fun _ _ _ h => h) (Or.inr ⟨by rfl, rfl⟩) ?_
  try simp only [Act.put, sq]
  refine wpAnyM_free 36 (v := undef) rfl (by kernel_rfl) (by kernel_rfl) (by kernel_rfl) (fun _ _ _ h => h) (Or.inr ⟨by rfl, rfl⟩) ?_
  try simp only [Act.put, sq]
  refine wpAnyM_free 37 (v := undef) rfl (by kernel_rfl) (by kernel_rfl) (by kernel_rfl) (fun _ _ _ h => h) (Or.inr ⟨by rfl, rfl⟩) ?_
  try simp only [Act.put, sq]
  refine wpAnyM_free 38 (v := undef) rfl (by kernel_rfl) (by kernel_rfl) (by kernel_rfl) (fun _ _ _ h => h) (Or.inr ⟨by rfl, rfl⟩) ?_
  try simp only [Act.put, sq]
  refine wpAnyM_free 39 (v := undef) rfl (by kernel_rfl) (by kernel_rfl) (by kernel_rfl) (fun _ _ _ h => h) (Or.inr ⟨by rfl, rfl⟩) ?_
  try simp only [Act.put, sq]
  refine wpAnyM_free 40 (v := undef) rfl (by kernel_rfl) (by kernel_rfl) (by kernel_rfl) (fun _ _ _ h => h) (Or.inr ⟨by rfl, rfl⟩) ?_
  try simp only [Act.put, sq]
  refine wpAnyM_free 41 (v := undef) rfl (by kernel_rfl) (by kernel_rfl) (by kernel_rfl) (fun _ _ _ h => h) (Or.inr ⟨by rfl, rfl⟩) ?_
  try simp only [Act.put, sq]
  refine won 42 rfl fun K hK => ?_
  go_simp
  refine hK.out _ _ (fun _ h => h) ?_
  clear hK K
  try simp only [Act.put, sq]
  refine won 43 rfl fun K hK => ?_
  go_simp
  refine hK.out _ _ (fun _ h => h) ?_
  clear hK K
  try simp only [Act.put, sq]
  refine won 44 rfl fun K hK => ?_
  go_simp
  refine hK.out _ _ (fun _ h => h) ?_
  clear hK K
  try simp only [Act.put, sq]
  refine won 45 rfl fun K hK => ?_
  go_simp
  refine hK.out _ _ (fun _ h => h) ?_
  clear hK K
  try simp only [Act.put, sq]
  refine won 46 rfl fun K hK => ?_
  go_simp
  refine hK.out _ _ (fun _ _ => hS1) ?_
  clear hK K
  try simp only [Act.put, sq]
  refine won 47 rfl fun K hK => ?_
  go_simp
  refine hK.out _ _ (fun _ h => h) ?_
  clear hK K
  try simp only [Act.put, sq]
  refine wpAnyM_done (by kernel_rfl) ?_ _
  try simp only [Act.put, sq]
  have HBk := Lib.hid hB1
  have HRk := Lib.hid (KR.out.later hB1)
  clear hB0
  have r0 := HRk.out.cell 0 rfl
  have r1 := HRk.out.cell 1 rfl
  have f0 := HRk.out.frozen 0
  have f1 := HRk.out.frozen 1
  go_wp2_with fail
  refine bodyPost_ret (results_ct Tryz.results25 _ _ _ _ _ rfl (load_pl (store2 HRk.out _ _))) rfl ?_
  exact ⟨by rw [HE.out] <;> rfl, below_two_sets (HB0.out.trans (HBk.out.mono HB0.out.size)) (by omega) _ _⟩
 | true =>
  have HEr := Lib.hid (err_yes hmm)
  have m3 : h.2.2.length ≤ 1000 := HMod.out.2.2.1
  by_cases g1 : x < 0
  ·have HE : RowKit.Hid (placeP h x y = ((0, 0), false)) := Lib.hid (by unfold placeP; rw [if_neg (by omega)])
   have HS : RowKit.Hid (∀ w', Below W0.heap.size W0 w' → w'.cell? ⟨w.heap.size, 0, none⟩ = some (.slice p0 h.1.length c0) ∧ w'.cell? ⟨w.heap.size, 1, none⟩ = some (.slice p1 h.2.1.length c1) ∧ w'.cell? ⟨w.heap.size, 2, none⟩ = some (.slice p2 h.2.2.length c2) ∧ w'.cell? ⟨w.heap.size + 1, 0, none⟩ = some (.int .i64 x) ∧ w'.cell? ⟨w.heap.size + 1, 1, none⟩ = some (.int .i64 y) ∧ Below W0.heap.size W0 w') := Lib.hid (fun w' hb => ⟨(KB.out.later hb).cell 0 rfl, (KB.out.later hb).cell 1 rfl, (KB.out.later hb).cell 2 rfl, (KP.out.later hb).cell 0 rfl, (KP.out.later hb).cell 1 rfl, hb⟩)
   refine wp_region_keep (fun w' => w'.cell? ⟨w.heap.size, 0, none⟩ = some (.slice p0 h.1.length c0) ∧ w'.cell? ⟨w.heap.size, 1, none⟩ = some (.slice p1 h.2.1.length c1) ∧ w'.cell? ⟨w.heap.size, 2, none⟩ = some (.slice p2 h.2.2.length c2) ∧ w'.cell? ⟨w.heap.size + 1, 0, none⟩ = some (.int .i64 x) ∧ w'.cell? ⟨w.heap.size + 1, 1, none⟩ = some (.int .i64 y) ∧ Below W0.heap.size W0 w') [] (by kernel_rfl) ?_
   have hB0 : Below (W0).heap.size (W0) (W0).drew := Below.drew (Below.refl _ _)
   have hS0 := HS.out _ hB0
   refine won 0 rfl fun K hK => ?_
   go_simp
   refine hK.out _ _ (fun _ h => h) ?_
   clear hK K
   try simp only [Act.put, sq]
   refine won 1 rfl fun K hK => ?_
   go_simp
   refine (HMay.out _ hB0).mono ?_
   rintro e w1 ⟨he, hb1⟩
   have hB1 := below_next hB0 hb1
   have hS1 := HS.out _ hB1
   rw [HEr.out] at he
   subst he
   refine hK.out _ _ (fun _ _ => hS1) ?_
   clear hK K hS0
   try simp only [Act.put, sq]
   refine won 2 rfl fun K hK => ?_
   go_simp
   refine hK.out _ _ (fun _ h => h) ?_
   clear hK K
   try simp only [Act.put, sq]
   refine won 3 rfl fun K hK => ?_
   go_simp
   refine hK.out _ _ (fun _ h => h) ?_
   clear hK K
   try simp only [Act.put, sq]
   refine won 4 rfl fun K hK => ?_
   go_simp
   refine hK.out _ _ (fun _ h => h) ?_
   clear hK K
   try simp only [Act.put, sq]
   refine won 5 rfl fun K hK => ?_
   go_simp
   refine hK.out _ _ (fun _ h => h) ?_
   clear hK K
   try simp only [Act.put, sq]
   refine won 6 rfl fun K hK => ?_
   go_simp
   refine hK.out _ _ (fun _ h => h) ?_
   clear hK K
   try simp only [Act.put, sq]
   refine won 7 rfl fun K hK => ?_
   go_simp
   refine hK.out _ _ (fun _ h => h) ?_
   clear hK K
   try simp only [Act.put, sq]
   refine won 8 rfl fun K hK => ?_
   go_simp
   refine hK.out _ _ (fun _ h => h) ?_
   clear hK K
   try simp only [Act.put, sq]
   refine wpAnyM_free 9 (v := undef) rfl (by kernel_rfl) (by kernel_rfl) (by kernel_rfl) (fun _ _ _ h => h) (Or.inr ⟨by rfl, rfl⟩) ?_
   try simp only [Act.put, sq]
   refine wpAnyM_free 10 (v := undef) rfl (by kernel_rfl) (by kernel_rfl) (by kernel_rfl) (fun _ _ _ h => h) (Or.inr ⟨by rfl, rfl⟩) ?_
   try simp only [Act.put, sq]
   refine won 11 rfl fun K hK => ?_
   go_simp
   refine hK.out _ _ (fun _ h => h) ?_
   clear hK K
   try simp only [Act.put, sq]
   refine won 12 rfl fun K hK => ?_
   go_simp
   refine hK.out _ _ (fun _ h => h) ?_
   clear hK K
   try simp only [Act.put, sq]
   refine won 13 rfl fun K hK => ?_
   go_simp
   refine hK.out _ _ (fun _ h => h) ?_
   clear hK K
   try simp only [Act.put, sq]
   refine won 14 rfl fun K hK => ?_
   go_simp
   refine hK.out _ _ (fun _ h => h) ?_
   clear hK K
   try simp only [Act.put, sq]
   refine won 15 rfl fun K hK => ?_
   go_simp
   refine hK.out _ _ (fun _ h => h) ?_
   clear hK K
   try simp only [Act.put, sq]
   refine won 16 rfl fun K hK => ?_
   go_simp
   refine hK.out _ _ (fun _ h => h) ?_
   clear hK K
   try simp only [Act.put, sq]
   refine won 17 rfl fun K hK => ?_
   go_simp
   refine hK.out _ _ (fun _ h => h) ?_
   clear hK K
   try simp only [Act.put, sq]
   refine won 18 rfl fun K hK => ?_
   go_simp
   refine hK.out _ _ (fun _ h => h) ?_
   clear hK K
   try simp only [Act.put, sq]
   refine won 19 rfl fun K hK => ?_
   go_simp
   refine hK.out _ _ (fun _ h => h) ?_
   clear hK K
   try simp only [Act.put, sq]
   refine won 20 rfl fun K hK => ?_
   go_simp
   refine hK.out _ _ (fun _ h => h) ?_
   clear hK K
   try simp only [Act.put, sq]
   refine won 21 rfl fun K hK => ?_
   go_simp
   refine hK.out _ _ (fun _ h => h) ?_
   clear hK K
   try simp only [Act.put, sq]
   refine wpAnyM_free 22 (v := undef) rfl (by kernel_rfl) (by kernel_rfl) (by kernel_rfl) (fun _ _ _ h => h) (Or.inr ⟨by rfl, rfl⟩) ?_
   try simp only [Act.put, sq]
   refine wpAnyM_free 23 (v := undef) rfl (by kernel_rfl) (by kernel_rfl) (by kernel_rfl) (fun _ _ _ h => h) (Or.inr ⟨by rfl, rfl⟩) ?_
   try simp only [Act.put, sq]
   refine wpAnyM_free 24 (v := undef) rfl (by kernel_rfl) (by kernel_rfl) (by kernel_rfl) (fun _ _ _ h => h) (Or.inr ⟨by rfl, rfl⟩) ?_
   try simp only [Act.put, sq]
   refine wpAnyM_free 25 (v := undef) rfl (by kernel_rfl) (by kernel_rfl) (by kernel_rfl) (fun _ _ _ h => h) (Or.inr ⟨by rfl, rfl⟩) ?_
   try simp only [Act.put, sq]
   refine won 26 rfl fun K hK => ?_
   go_simp
   refine hK.out _ _ (fun _ h => h) ?_
   clear hK K
   try simp only [Act.put, sq]
   refine won 27 rfl fun K hK => ?_
   go_simp
   refine hK.out _ _ (fun _ h => h) ?_
   clear hK K
   try simp only [Act.put, sq]
   refine won 28 rfl fun K hK => ?_
   go_simp
   refine hK.out _ _ (fun _ h => h) ?_
   clear hK K
   try simp only [Act.put, sq]
   refine won 29 rfl fun K hK => ?_
   go_simp
   refine hK.out _ _ (fun _ h => h) ?_
   clear hK K
   try simp only [Act.put, sq]
   refine won 30 rfl fun K hK => ?_
   go_simp
   refine hK.out _ _ (fun _ h => h) ?_
   clear hK K
   try simp only [Act.put, sq]
   refine won 31 rfl fun K hK => ?_
   go_simp
   refine hK.out _ _ (fun _ h => h) ?_
   clear hK K
   try simp only [Act.put, sq]
   refine won 32 rfl fun K hK => ?_
   go_simp
   refine hK.out _ _ (fun _ h => h) ?_
   clear hK K
   try simp only [Act.put, sq]
   refine won 33 rfl fun K hK => ?_
   go_simp
   refine hK.out _ _ (fun _ h => h) ?_
   clear hK K
   try simp only [Act.put, sq]
   refine won 34 rfl fun K hK => ?_
   go_simp
   refine hK.out _ _ (fun _ h => h) ?_
   clear hK K
   try simp only [Act.put, sq]
   refine wpAnyM_free 35 (v := undef) rfl (by kernel_rfl) (by kernel_rfl) (by kernel_rfl) (fun _ _ _ h => h) (Or.inr ⟨by rfl, rfl⟩) ?_
   try simp only [Act.put, sq]
   refine wpAnyM_free 36 (v := undef) rfl (by kernel_rfl) (by kernel_rfl) (by kernel_rfl) (fun _ _ _ h => h) (Or.inr ⟨by rfl, rfl⟩) ?_
   try simp only [Act.put, sq]
   refine wpAnyM_free 37 (v := undef) rfl (by kernel_rfl) (by kernel_rfl) (by kernel_rfl) (fun _ _ _ h => h) (Or.inr ⟨by rfl, rfl⟩) ?_
   try simp only [Act.put, sq]
   refine wpAnyM_free 38 (v := undef) rfl (by kernel_rfl) (by kernel_rfl) (by kernel_rfl) (fun _ _ _ h => h) (Or.inr ⟨by rfl, rfl⟩) ?_
   try simp only [Act.put, sq]
   refine wpAnyM_free 39 (v := undef) rfl (by kernel_rfl) (by kernel_rfl) (by kernel_rfl) (fun _ _ _ h => h) (Or.inr ⟨by rfl, rfl⟩) ?_
   try simp only [Act.put, sq]
   refine wpAnyM_free 40 (v := undef) rfl (by kernel_rfl) (by kernel_rfl) (by kernel_rfl) (fun _ _ _ h => h) (Or.inr ⟨by rfl, rfl⟩) ?_
   try simp only [Act.put, sq]
   refine wpAnyM_free 41 (v := undef) rfl (by kernel_rfl) (by kernel_rfl) (by kernel_rfl) (fun _ _ _ h => h) (Or.inr ⟨by rfl, rfl⟩) ?_
   try simp only [Act.put, sq]
   refine won 42 rfl fun K hK => ?_
   go_simp
   refine hK.out _ _ (fun _ h => h) ?_
   clear hK K
   try simp only [Act.put, sq]
   refine won 43 rfl fun K hK => ?_
   go_simp
   refine hK.out _ _ (fun _ h => h) ?_
   clear hK K
   try simp only [Act.put, sq]
   refine won 44 rfl fun K hK => ?_
   go_simp
   refine hK.out _ _ (fun _ h => h) ?_
   clear hK K
   try simp only [Act.put, sq]
   refine won 45 rfl fun K hK => ?_
   go_simp
   refine hK.out _ _ (fun _ h => h) ?_
   clear hK K
   try simp only [Act.put, sq]
   refine won 46 rfl fun K hK => ?_
   go_simp
   refine hK.out _ _ (fun _ _ => hS1) ?_
   clear hK K
   try simp only [Act.put, sq]
   refine won 47 rfl fun K hK => ?_
   go_simp
   refine hK.out _ _ (fun _ h => h) ?_
   clear hK K
   try simp only [Act.put, sq]
   refine wpAnyM_done (by kernel_rfl) ?_ _
   try simp only [Act.put, sq]
   have HBk := Lib.hid hB1
   have HRk := Lib.hid (KR.out.later hB1)
   clear hB0
   have r0 := HRk.out.cell 0 rfl
   have r1 := HRk.out.cell 1 rfl
   have f0 := HRk.out.frozen 0
   have f1 := HRk.out.frozen 1
   go_wp2_with fail
   refine bodyPost_ret (results_ct Tryz.results25 _ _ _ _ _ rfl (load_pl (store2 HRk.out _ _))) rfl ?_
   exact ⟨by rw [HE.out] <;> rfl, below_two_sets (HB0.out.trans (HBk.out.mono HB0.out.size)) (by omega) _ _⟩
  ·by_cases g2 : (h.2.2.length : Int) ≤ x
   ·have HE : RowKit.Hid (placeP h x y = ((0, 0), false)) := Lib.hid (by unfold placeP; rw [if_neg (by omega)])
    have HS : RowKit.Hid (∀ w', Below W0.heap.size W0 w' → w'.cell? ⟨w.heap.size, 0, none⟩ = some (.slice p0 h.1.length c0) ∧ w'.cell? ⟨w.heap.size, 1, none⟩ = some (.slice p1 h.2.1.length c1) ∧ w'.cell? ⟨w.heap.size, 2, none⟩ = some (.slice p2 h.2.2.length c2) ∧ w'.cell? ⟨w.heap.size + 1, 0, none⟩ = some (.int .i64 x) ∧ w'.cell? ⟨w.heap.size + 1, 1, none⟩ = some (.int .i64 y) ∧ Below W0.heap.size W0 w') := Lib.hid (fun w' hb => ⟨(KB.out.later hb).cell 0 rfl, (KB.out.later hb).cell 1 rfl, (KB.out.later hb).cell 2 rfl, (KP.out.later hb).cell 0 rfl, (KP.out.later hb).cell 1 rfl, hb⟩)
    refine wp_region_keep (fun w' => w'.cell? ⟨w.heap.size, 0, none⟩ = some (.slice p0 h.1.length c0) ∧ w'.cell? ⟨w.heap.size, 1, none⟩ = some (.slice p1 h.2.1.length c1) ∧ w'.cell? ⟨w.heap.size, 2, none⟩ = some (.slice p2 h.2.2.length c2) ∧ w'.cell? ⟨w.heap.size + 1, 0, none⟩ = some (.int .i64 x) ∧ w'.cell? ⟨w.heap.size + 1, 1, none⟩ = some (.int .i64 y) ∧ Below W0.heap.size W0 w') [] (by kernel_rfl) ?_
    have hB0 : Below (W0).heap.size (W0) (W0).drew := Below.drew (Below.refl _ _)
    have hS0 := HS.out _ hB0
    refine won 0 rfl fun K hK => ?_
    go_simp
    refine hK.out _ _ (fun _ h => h) ?_
    clear hK K
    try simp only [Act.put, sq]
    refine won 1 rfl fun K hK => ?_
    go_simp
    refine (HMay.out _ hB0).mono ?_
    rintro e w1 ⟨he, hb1⟩
    have hB1 := below_next hB0 hb1
    have hS1 := HS.out _ hB1
    rw [HEr.out] at he
    subst he
    refine hK.out _ _ (fun _ _ => hS1) ?_
    clear hK K hS0
    try simp only [Act.put, sq]
    refine won 2 rfl fun K hK => ?_
    go_simp
    refine hK.out _ _ (fun _ h => h) ?_
    clear hK K
    try simp only [Act.put, sq]
    refine won 3 rfl fun K hK => ?_
    go_simp
    refine hK.out _ _ (fun _ h => h) ?_
    clear hK K
    try simp only [Act.put, sq]
    refine won 4 rfl fun K hK => ?_
    go_simp
    refine hK.out _ _ (fun _ h => h) ?_
    clear hK K
    try simp only [Act.put, sq]
    refine won 5 rfl fun K hK => ?_
    go_simp
    refine hK.out _ _ (fun _ h => h) ?_
    clear hK K
    try simp only [Act.put, sq]
    refine won 6 rfl fun K hK => ?_
    go_simp
    refine hK.out _ _ (fun _ h => h) ?_
    clear hK K
    try simp only [Act.put, sq]
    refine won 7 rfl fun K hK => ?_
    go_simp
    refine hK.out _ _ (fun _ h => h) ?_
    clear hK K
    try simp only [Act.put, sq]
    refine won 8 rfl fun K hK => ?_
    go_simp
    refine hK.out _ _ (fun _ h => h) ?_
    clear hK K
    try simp only [Act.put, sq]
    refine wfr 9 (v := ?_) rfl ?_ ?_
    rotate_left
    ·intro w' hw';go_simp;try with_reducible rfl
    try simp only [Act.put, sq]
    refine wtk 10 48 (v := ?_) rfl ?_ hS1 ?_
    rotate_left
    ·intro w' hw';(try dsimp only at hw');go_simp;try with_reducible rfl
    try simp only [Act.put, sq]
    refine won 11 rfl fun K hK => ?_
    go_simp
    refine hK.out _ _ (fun _ h => h) ?_
    clear hK K
    try simp only [Act.put, sq]
    refine won 12 rfl fun K hK => ?_
    go_simp
    refine hK.out _ _ (fun _ h => h) ?_
    clear hK K
    try simp only [Act.put, sq]
    refine won 13 rfl fun K hK => ?_
    go_simp
    refine hK.out _ _ (fun _ h => h) ?_
    clear hK K
    try simp only [Act.put, sq]
    refine won 14 rfl fun K hK => ?_
    go_simp
    refine hK.out _ _ (fun _ h => h) ?_
    clear hK K
    try simp only [Act.put, sq]
    refine won 15 rfl fun K hK => ?_
    go_simp
    refine hK.out _ _ (fun _ h => h) ?_
    clear hK K
    try simp only [Act.put, sq]
    refine won 16 rfl fun K hK => ?_
    go_simp
    refine hK.out _ _ (fun _ h => h) ?_
    clear hK K
    try simp only [Act.put, sq]
    refine won 17 rfl fun K hK => ?_
    go_simp
    refine hK.out _ _ (fun _ h => h) ?_
    clear hK K
    try simp only [Act.put, sq]
    refine won 18 rfl fun K hK => ?_
    go_simp
    refine hK.out _ _ (fun _ h => h) ?_
    clear hK K
    try simp only [Act.put, sq]
    refine won 19 rfl fun K hK => ?_
    go_simp
    refine hK.out _ _ (fun _ h => h) ?_
    clear hK K
    try simp only [Act.put, sq]
    refine won 20 rfl fun K hK => ?_
    go_simp
    refine hK.out _ _ (fun _ h => h) ?_
    clear hK K
    try simp only [Act.put, sq]
    refine won 21 rfl fun K hK => ?_
    go_simp
    refine hK.out _ _ (fun _ h => h) ?_
    clear hK K
    try simp only [Act.put, sq]
    refine wpAnyM_free 22 (v := undef) rfl (by kernel_rfl) (by kernel_rfl) (by kernel_rfl) (fun _ _ _ h => h) (Or.inr ⟨by rfl, rfl⟩) ?_
    try simp only [Act.put, sq]
    refine wpAnyM_free 23 (v := undef) rfl (by kernel_rfl) (by kernel_rfl) (by kernel_rfl) (fun _ _ _ h => h) (Or.inr ⟨by rfl, rfl⟩) ?_
    try simp only [Act.put, sq]
    refine wpAnyM_free 24 (v := undef) rfl (by kernel_rfl) (by kernel_rfl) (by kernel_rfl) (fun _ _ _ h => h) (Or.inr ⟨by rfl, rfl⟩) ?_
    try simp only [Act.put, sq]
    refine wpAnyM_free 25 (v := undef) rfl (by kernel_rfl) (by kernel_rfl) (by kernel_rfl) (fun _ _ _ h => h) (Or.inr ⟨by rfl, rfl⟩) ?_
    try simp only [Act.put, sq]
    refine won 26 rfl fun K hK => ?_
    go_simp
    refine hK.out _ _ (fun _ h => h) ?_
    clear hK K
    try simp only [Act.put, sq]
    refine won 27 rfl fun K hK => ?_
    go_simp
    refine hK.out _ _ (fun _ h => h) ?_
    clear hK K
    try simp only [Act.put, sq]
    refine won 28 rfl fun K hK => ?_
    go_simp
    refine hK.out _ _ (fun _ h => h) ?_
    clear hK K
    try simp only [Act.put, sq]
    refine won 29 rfl fun K hK => ?_
    go_simp
    refine hK.out _ _ (fun _ h => h) ?_
    clear hK K
    try simp only [Act.put, sq]
    refine won 30 rfl fun K hK => ?_
    go_simp
    refine hK.out _ _ (fun _ h => h) ?_
    clear hK K
    try simp only [Act.put, sq]
    refine won 31 rfl fun K hK => ?_
    go_simp
    refine hK.out _ _ (fun _ h => h) ?_
    clear hK K
    try simp only [Act.put, sq]
    refine won 32 rfl fun K hK => ?_
    go_simp
    refine hK.out _ _ (fun _ h => h) ?_
    clear hK K
    try simp only [Act.put, sq]
    refine won 33 rfl fun K hK => ?_
    go_simp
    refine hK.out _ _ (fun _ h => h) ?_
    clear hK K
    try simp only [Act.put, sq]
    refine won 34 rfl fun K hK => ?_
    go_simp
    refine hK.out _ _ (fun _ h => h) ?_
    clear hK K
    try simp only [Act.put, sq]
    refine wpAnyM_free 35 (v := undef) rfl (by kernel_rfl) (by kernel_rfl) (by kernel_rfl) (fun _ _ _ h => h) (Or.inr ⟨by rfl, rfl⟩) ?_
    try simp only [Act.put, sq]
    refine wpAnyM_free 36 (v := undef) rfl (by kernel_rfl) (by kernel_rfl) (by kernel_rfl) (fun _ _ _ h => h) (Or.inr ⟨by rfl, rfl⟩) ?_
    try simp only [Act.put, sq]
    refine wpAnyM_free 37 (v := undef) rfl (by kernel_rfl) (by kernel_rfl) (by kernel_rfl) (fun _ _ _ h => h) (Or.inr ⟨by rfl, rfl⟩) ?_
    try simp only [Act.put, sq]
    refine wpAnyM_free 38 (v := undef) rfl (by kernel_rfl) (by kernel_rfl) (by kernel_rfl) (fun _ _ _ h => h) (Or.inr ⟨by rfl, rfl⟩) ?_
    try simp only [Act.put, sq]
    refine wpAnyM_free 39 (v := undef) rfl (by kernel_rfl) (by kernel_rfl) (by kernel_rfl) (fun _ _ _ h => h) (Or.inr ⟨by rfl, rfl⟩) ?_
    try simp only [Act.put, sq]
    refine wpAnyM_free 40 (v := undef) rfl (by kernel_rfl) (by kernel_rfl) (by kernel_rfl) (fun _ _ _ h => h) (Or.inr ⟨by rfl, rfl⟩) ?_
    try simp only [Act.put, sq]
    refine wpAnyM_free 41 (v := undef) rfl (by kernel_rfl) (by kernel_rfl) (by kernel_rfl) (fun _ _ _ h => h) (Or.inr ⟨by rfl, rfl⟩) ?_
    try simp only [Act.put, sq]
    refine won 42 rfl fun K hK => ?_
    go_simp
    refine hK.out _ _ (fun _ h => h) ?_
    clear hK K
    try simp only [Act.put, sq]
    refine won 43 rfl fun K hK => ?_
    go_simp
    refine hK.out _ _ (fun _ h => h) ?_
    clear hK K
    try simp only [Act.put, sq]
    refine won 44 rfl fun K hK => ?_
    go_simp
    refine hK.out _ _ (fun _ h => h) ?_
    clear hK K
    try simp only [Act.put, sq]
    refine won 45 rfl fun K hK => ?_
    go_simp
    refine hK.out _ _ (fun _ h => h) ?_
    clear hK K
    try simp only [Act.put, sq]
    refine won 46 rfl fun K hK => ?_
    go_simp
    refine hK.out _ _ (fun _ _ => hS1) ?_
    clear hK K
    try simp only [Act.put, sq]
    refine won 47 rfl fun K hK => ?_
    go_simp
    refine hK.out _ _ (fun _ h => h) ?_
    clear hK K
    try simp only [Act.put, sq]
    refine wpAnyM_done (by kernel_rfl) ?_ _
    try simp only [Act.put, sq]
    have HBk := Lib.hid hB1
    have HRk := Lib.hid (KR.out.later hB1)
    clear hB0
    have r0 := HRk.out.cell 0 rfl
    have r1 := HRk.out.cell 1 rfl
    have f0 := HRk.out.frozen 0
    have f1 := HRk.out.frozen 1
    go_wp2_with fail
    refine bodyPost_ret (results_ct Tryz.results25 _ _ _ _ _ rfl (load_pl (store2 HRk.out _ _))) rfl ?_
    exact ⟨by rw [HE.out] <;> rfl, below_two_sets (HB0.out.trans (HBk.out.mono HB0.out.size)) (by omega) _ _⟩
   ·obtain ⟨a, rfl⟩ : ∃ a : Nat, x = (a : Int) := ⟨x.toNat, by omega⟩
    have ha : a < h.2.2.length := by omega
    by_cases g3 : y < 0
    ·have HE : RowKit.Hid (placeP h a y = ((0, 0), false)) := Lib.hid (by unfold placeP; rw [if_neg (by omega)])
     have HS : RowKit.Hid (∀ w', Below W0.heap.size W0 w' → w'.cell? ⟨w.heap.size, 0, none⟩ = some (.slice p0 h.1.length c0) ∧ w'.cell? ⟨w.heap.size, 1, none⟩ = some (.slice p1 h.2.1.length c1) ∧ w'.cell? ⟨w.heap.size, 2, none⟩ = some (.slice p2 h.2.2.length c2) ∧ w'.cell? ⟨w.heap.size + 1, 0, none⟩ = some (.int .i64 a) ∧ w'.cell? ⟨w.heap.size + 1, 1, none⟩ = some (.int .i64 y) ∧ Below W0.heap.size W0 w') := Lib.hid (fun w' hb => ⟨(KB.out.later hb).cell 0 rfl, (KB.out.later hb).cell 1 rfl, (KB.out.later hb).cell 2 rfl, (KP.out.later hb).cell 0 rfl, (KP.out.later hb).cell 1 rfl, hb⟩)
     refine wp_region_keep (fun w' => w'.cell? ⟨w.heap.size, 0, none⟩ = some (.slice p0 h.1.length c0) ∧ w'.cell? ⟨w.heap.size, 1, none⟩ = some (.slice p1 h.2.1.length c1) ∧ w'.cell? ⟨w.heap.size, 2, none⟩ = some (.slice p2 h.2.2.length c2) ∧ w'.cell? ⟨w.heap.size + 1, 0, none⟩ = some (.int .i64 a) ∧ w'.cell? ⟨w.heap.size + 1, 1, none⟩ = some (.int .i64 y) ∧ Below W0.heap.size W0 w') [] (by kernel_rfl) ?_
     have hB0 : Below (W0).heap.size (W0) (W0).drew := Below.drew (Below.refl _ _)
     have hS0 := HS.out _ hB0
     refine won 0 rfl fun K hK => ?_
     go_simp
     refine hK.out _ _ (fun _ h => h) ?_
     clear hK K
     try simp only [Act.put, sq]
     refine won 1 rfl fun K hK => ?_
     go_simp
     refine (HMay.out _ hB0).mono ?_
     rintro e w1 ⟨he, hb1⟩
     have hB1 := below_next hB0 hb1
     have hS1 := HS.out _ hB1
     rw [HEr.out] at he
     subst he
     refine hK.out _ _ (fun _ _ => hS1) ?_
     clear hK K hS0
     try simp only [Act.put, sq]
     refine won 2 rfl fun K hK => ?_
     go_simp
     refine hK.out _ _ (fun _ h => h) ?_
     clear hK K
     try simp only [Act.put, sq]
     refine won 3 rfl fun K hK => ?_
     go_simp
     refine hK.out _ _ (fun _ h => h) ?_
     clear hK K
     try simp only [Act.put, sq]
     refine won 4 rfl fun K hK => ?_
     go_simp
     refine hK.out _ _ (fun _ h => h) ?_
     clear hK K
     try simp only [Act.put, sq]
     refine won 5 rfl fun K hK => ?_
     go_simp
     refine hK.out _ _ (fun _ h => h) ?_
     clear hK K
     try simp only [Act.put, sq]
     refine won 6 rfl fun K hK => ?_
     go_simp
     refine hK.out _ _ (fun _ h => h) ?_
     clear hK K
     try simp only [Act.put, sq]
     refine won 7 rfl fun K hK => ?_
     go_simp
     refine hK.out _ _ (fun _ h => h) ?_
     clear hK K
     try simp only [Act.put, sq]
     refine won 8 rfl fun K hK => ?_
     go_simp
     refine hK.out _ _ (fun _ h => h) ?_
     clear hK K
     try simp only [Act.put, sq]
     refine wfr 9 (v := ?_) rfl ?_ ?_
     rotate_left
     ·intro w' hw';go_simp;try with_reducible rfl
     try simp only [Act.put, sq]
     refine wtk 10 48 (v := ?_) rfl ?_ hS1 ?_
     rotate_left
     ·intro w' hw';(try dsimp only at hw');go_simp;try with_reducible rfl
     try simp only [Act.put, sq]
     refine won 11 rfl fun K hK => ?_
     go_simp
     refine hK.out _ _ (fun _ h => h) ?_
     clear hK K
     try simp only [Act.put, sq]
     refine won 12 rfl fun K hK => ?_
     go_simp
     refine hK.out _ _ (fun _ h => h) ?_
     clear hK K
     try simp only [Act.put, sq]
     refine won 13 rfl fun K hK => ?_
     go_simp
     refine hK.out _ _ (fun _ h => h) ?_
     clear hK K
     try simp only [Act.put, sq]
     refine won 14 rfl fun K hK => ?_
     go_simp
     refine hK.out _ _ (fun _ h => h) ?_
     clear hK K
     try simp only [Act.put, sq]
     refine won 15 rfl fun K hK => ?_
     go_simp
     refine hK.out _ _ (fun _ h => h) ?_
     clear hK K
     try simp only [Act.put, sq]
     refine won 16 rfl fun K hK => ?_
     go_simp
     refine hK.out _ _ (fun _ h => h) ?_
     clear hK K
     try simp only [Act.put, sq]
     refine won 17 rfl fun K hK => ?_
     go_simp
     refine hK.out _ _ (fun _ h => h) ?_
     clear hK K
     try simp only [Act.put, sq]
     refine won 18 rfl fun K hK => ?_
     go_simp
     refine hK.out _ _ (fun _ h => h) ?_
     clear hK K
     try simp only [Act.put, sq]
     refine won 19 rfl fun K hK => ?_
     go_simp
     refine hK.out _ _ (fun _ h => h) ?_
     clear hK K
     try simp only [Act.put, sq]
     refine won 20 rfl fun K hK => ?_
     go_simp
     refine hK.out _ _ (fun _ h => h) ?_
     clear hK K
     try simp only [Act.put, sq]
     refine won 21 rfl fun K hK => ?_
     go_simp
     refine hK.out _ _ (fun _ h => h) ?_
     clear hK K
     try simp only [Act.put, sq]
     refine wpAnyM_free 22 (v := undef) rfl (by kernel_rfl) (by kernel_rfl) (by kernel_rfl) (fun _ _ _ h => h) (Or.inr ⟨by rfl, rfl⟩) ?_
     try simp only [Act.put, sq]
     refine wpAnyM_free 23 (v := undef) rfl (by kernel_rfl) (by kernel_rfl) (by kernel_rfl) (fun _ _ _ h => h) (Or.inr ⟨by rfl, rfl⟩) ?_
     try simp only [Act.put, sq]
     refine wpAnyM_free 24 (v := undef) rfl (by kernel_rfl) (by kernel_rfl) (by kernel_rfl) (fun _ _ _ h => h) (Or.inr ⟨by rfl, rfl⟩) ?_
     try simp only [Act.put, sq]
     refine wpAnyM_free 25 (v := undef) rfl (by kernel_rfl) (by kernel_rfl) (by kernel_rfl) (fun _ _ _ h => h) (Or.inr ⟨by rfl, rfl⟩) ?_
     try simp only [Act.put, sq]
     refine won 26 rfl fun K hK => ?_
     go_simp
     refine hK.out _ _ (fun _ h => h) ?_
     clear hK K
     try simp only [Act.put, sq]
     refine won 27 rfl fun K hK => ?_
     go_simp
     refine hK.out _ _ (fun _ h => h) ?_
     clear hK K
     try simp only [Act.put, sq]
     refine won 28 rfl fun K hK => ?_
     go_simp
     refine hK.out _ _ (fun _ h => h) ?_
     clear hK K
     try simp only [Act.put, sq]
     refine won 29 rfl fun K hK => ?_
     go_simp
     refine hK.out _ _ (fun _ h => h) ?_
     clear hK K
     try simp only [Act.put, sq]
     refine won 30 rfl fun K hK => ?_
     go_simp
     refine hK.out _ _ (fun _ h => h) ?_
     clear hK K
     try simp only [Act.put, sq]
     refine won 31 rfl fun K hK => ?_
     go_simp
     refine hK.out _ _ (fun _ h => h) ?_
     clear hK K
     try simp only [Act.put, sq]
     refine won 32 rfl fun K hK => ?_
     go_simp
     refine hK.out _ _ (fun _ h => h) ?_
     clear hK K
     try simp only [Act.put, sq]
     refine won 33 rfl fun K hK => ?_
     go_simp
     refine hK.out _ _ (fun _ h => h) ?_
     clear hK K
     try simp only [Act.put, sq]
     refine won 34 rfl fun K hK => ?_
     go_simp
     refine hK.out _ _ (fun _ h => h) ?_
     clear hK K
     try simp only [Act.put, sq]
     refine wpAnyM_free 35 (v := undef) rfl (by kernel_rfl) (by kernel_rfl) (by kernel_rfl) (fun _ _ _ h => h) (Or.inr ⟨by rfl, rfl⟩) ?_
     try simp only [Act.put, sq]
     refine wpAnyM_free 36 (v := undef) rfl (by kernel_rfl) (by kernel_rfl) (by kernel_rfl) (fun _ _ _ h => h) (Or.inr ⟨by rfl, rfl⟩) ?_
     try simp only [Act.put, sq]
     refine wpAnyM_free 37 (v := undef) rfl (by kernel_rfl) (by kernel_rfl) (by kernel_rfl) (fun _ _ _ h => h) (Or.inr ⟨by rfl, rfl⟩) ?_
     try simp only [Act.put, sq]
     refine wpAnyM_free 38 (v := undef) rfl (by kernel_rfl) (by kernel_rfl) (by kernel_rfl) (fun _ _ _ h => h) (Or.inr ⟨by rfl, rfl⟩) ?_
     try simp only [Act.put, sq]
     refine wpAnyM_free 39 (v := undef) rfl (by kernel_rfl) (by kernel_rfl) (by kernel_rfl) (fun _ _ _ h => h) (Or.inr ⟨by rfl, rfl⟩) ?_
     try simp only [Act.put, sq]
     refine wpAnyM_free 40 (v := undef) rfl (by kernel_rfl) (by kernel_rfl) (by kernel_rfl) (fun _ _ _ h => h) (Or.inr ⟨by rfl, rfl⟩) ?_
     try simp only [Act.put, sq]
     refine wpAnyM_free 41 (v := undef) rfl (by kernel_rfl) (by kernel_rfl) (by kernel_rfl) (fun _ _ _ h => h) (Or.inr ⟨by rfl, rfl⟩) ?_
     try simp only [Act.put, sq]
     refine won 42 rfl fun K hK => ?_
     go_simp
     refine hK.out _ _ (fun _ h => h) ?_
     clear hK K
     try simp only [Act.put, sq]
     refine won 43 rfl fun K hK => ?_
     go_simp
     refine hK.out _ _ (fun _ h => h) ?_
     clear hK K
     try simp only [Act.put, sq]
     refine won 44 rfl fun K hK => ?_
     go_simp
     refine hK.out _ _ (fun _ h => h) ?_
     clear hK K
     try simp only [Act.put, sq]
     refine won 45 rfl fun K hK => ?_
     go_simp
     refine hK.out _ _ (fun _ h => h) ?_
     clear hK K
     try simp only [Act.put, sq]
     refine won 46 rfl fun K hK => ?_
     go_simp
     refine hK.out _ _ (fun _ _ => hS1) ?_
     clear hK K
     try simp only [Act.put, sq]
     refine won 47 rfl fun K hK => ?_
     go_simp
     refine hK.out _ _ (fun _ h => h) ?_
     clear hK K
     try simp only [Act.put, sq]
     refine wpAnyM_done (by kernel_rfl) ?_ _
     try simp only [Act.put, sq]
     have HBk := Lib.hid hB1
     have HRk := Lib.hid (KR.out.later hB1)
     clear hB0
     have r0 := HRk.out.cell 0 rfl
     have r1 := HRk.out.cell 1 rfl
     have f0 := HRk.out.frozen 0
     have f1 := HRk.out.frozen 1
     go_wp2_with fail
     refine bodyPost_ret (results_ct Tryz.results25 _ _ _ _ _ rfl (load_pl (store2 HRk.out _ _))) rfl ?_
     exact ⟨by rw [HE.out] <;> rfl, below_two_sets (HB0.out.trans (HBk.out.mono HB0.out.size)) (by omega) _ _⟩
    ·obtain ⟨b, rfl⟩ : ∃ b : Nat, y = (b : Int) := ⟨y.toNat, by omega⟩
     obtain ⟨g, sv, rfl, a1, a2, a3, a4⟩ := HX.out a ha
     have hP : placeP h a b = if mayH h ∧ 0 ≤ (a : Int) ∧ (a : Int) < h.2.2.length ∧ 0 ≤ (b : Int) ∧ (b : Int) < (h.2.2.getD a noTxn).2.2.length ∧ lostO ((h.2.2.getD a noTxn).2.2.getD b noOp) = false then (((a : Int), ((((h.2.2.getD a noTxn).2.2.take b).filter fun o => !lostO o).length : Int)), true) else ((0, 0), false) := rfl
     have htl : (h.2.2.getD a noTxn).2.2.length ≤ 1000 := by
      have e : h.2.2.getD a noTxn = h.2.2[a] := by simp [ha]
      rw [e]
      exact HMod.out.2.2.2.2.2 _ (List.getElem_mem ha)
     obtain ⟨⟨ts, tf, tl⟩, htt⟩ : ∃ q, h.2.2.getD a noTxn = q := ⟨_, rfl⟩
     rw [htt] at a1 a2 a4 hP htl
     dsimp only at a1 a2 a4 hP htl
     obtain ⟨p3, c3, rfl, hcap, hops⟩ := a4
     have HO := Lib.hid hops
     have ta := cell_later HB0.out a3
     clear hops a1 a2 a3 htt
     by_cases g4 : tl.length ≤ b
     ·have HE : RowKit.Hid (placeP h a b = ((0, 0), false)) := Lib.hid (by rw [hP, if_neg (by omega)])
      clear hP
      have HS : RowKit.Hid (∀ w', Below W0.heap.size W0 w' → w'.cell? ⟨w.heap.size, 0, none⟩ = some (.slice p0 h.1.length c0) ∧ w'.cell? ⟨w.heap.size, 1, none⟩ = some (.slice p1 h.2.1.length c1) ∧ w'.cell? ⟨w.heap.size, 2, none⟩ = some (.slice (some ⟨g, 0, none⟩) h.2.2.length c2) ∧ w'.cell? ⟨w.heap.size + 1, 0, none⟩ = some (.int .i64 a) ∧ w'.cell? ⟨w.heap.size + 1, 1, none⟩ = some (.int .i64 b) ∧ w'.cell? ⟨g, a * 3 + 2, none⟩ = some (.slice p3 tl.length c3) ∧ Below W0.heap.size W0 w') := Lib.hid (fun w' hb => ⟨(KB.out.later hb).cell 0 rfl, (KB.out.later hb).cell 1 rfl, (KB.out.later hb).cell 2 rfl, (KP.out.later hb).cell 0 rfl, (KP.out.later hb).cell 1 rfl, cell_later hb ta, hb⟩)
      refine wp_region_keep (fun w' => w'.cell? ⟨w.heap.size, 0, none⟩ = some (.slice p0 h.1.length c0) ∧ w'.cell? ⟨w.heap.size, 1, none⟩ = some (.slice p1 h.2.1.length c1) ∧ w'.cell? ⟨w.heap.size, 2, none⟩ = some (.slice (some ⟨g, 0, none⟩) h.2.2.length c2) ∧ w'.cell? ⟨w.heap.size + 1, 0, none⟩ = some (.int .i64 a) ∧ w'.cell? ⟨w.heap.size + 1, 1, none⟩ = some (.int .i64 b) ∧ w'.cell? ⟨g, a * 3 + 2, none⟩ = some (.slice p3 tl.length c3) ∧ Below W0.heap.size W0 w') [] (by kernel_rfl) ?_
      have hB0 : Below (W0).heap.size (W0) (W0).drew := Below.drew (Below.refl _ _)
      have hS0 := HS.out _ hB0
      refine won 0 rfl fun K hK => ?_
      go_simp
      refine hK.out _ _ (fun _ h => h) ?_
      clear hK K
      try simp only [Act.put, sq]
      refine won 1 rfl fun K hK => ?_
      go_simp
      refine (HMay.out _ hB0).mono ?_
      rintro e w1 ⟨he, hb1⟩
      have hB1 := below_next hB0 hb1
      have hS1 := HS.out _ hB1
      rw [HEr.out] at he
      subst he
      refine hK.out _ _ (fun _ _ => hS1) ?_
      clear hK K hS0
      try simp only [Act.put, sq]
      refine won 2 rfl fun K hK => ?_
      go_simp
      refine hK.out _ _ (fun _ h => h) ?_
      clear hK K
      try simp only [Act.put, sq]
      refine won 3 rfl fun K hK => ?_
      go_simp
      refine hK.out _ _ (fun _ h => h) ?_
      clear hK K
      try simp only [Act.put, sq]
      refine won 4 rfl fun K hK => ?_
      go_simp
      refine hK.out _ _ (fun _ h => h) ?_
      clear hK K
      try simp only [Act.put, sq]
      refine won 5 rfl fun K hK => ?_
      go_simp
      refine hK.out _ _ (fun _ h => h) ?_
      clear hK K
      try simp only [Act.put, sq]
      refine won 6 rfl fun K hK => ?_
      go_simp
      refine hK.out _ _ (fun _ h => h) ?_
      clear hK K
      try simp only [Act.put, sq]
      refine won 7 rfl fun K hK => ?_
      go_simp
      refine hK.out _ _ (fun _ h => h) ?_
      clear hK K
      try simp only [Act.put, sq]
      refine won 8 rfl fun K hK => ?_
      go_simp
      refine hK.out _ _ (fun _ h => h) ?_
      clear hK K
      try simp only [Act.put, sq]
      refine wfr 9 (v := ?_) rfl ?_ ?_
      rotate_left
      ·intro w' hw';go_simp;try with_reducible rfl
      try simp only [Act.put, sq]
      refine wtk 10 48 (v := ?_) rfl ?_ hS1 ?_
      rotate_left
      ·intro w' hw';(try dsimp only at hw');go_simp;try with_reducible rfl
      try simp only [Act.put, sq]
      refine won 11 rfl fun K hK => ?_
      go_simp
      refine hK.out _ _ (fun _ h => h) ?_
      clear hK K
      try simp only [Act.put, sq]
      refine won 12 rfl fun K hK => ?_
      go_simp
      refine hK.out _ _ (fun _ h => h) ?_
      clear hK K
      try simp only [Act.put, sq]
      refine won 13 rfl fun K hK => ?_
      go_simp
      refine hK.out _ _ (fun _ h => h) ?_
      clear hK K
      try simp only [Act.put, sq]
      refine won 14 rfl fun K hK => ?_
      go_simp
      refine hK.out _ _ (fun _ h => h) ?_
      clear hK K
      try simp only [Act.put, sq]
      refine won 15 rfl fun K hK => ?_
      go_simp
      refine hK.out _ _ (fun _ h => h) ?_
      clear hK K
      try simp only [Act.put, sq]
      refine won 16 rfl fun K hK => ?_
      go_simp
      refine hK.out _ _ (fun _ h => h) ?_
      clear hK K
      try simp only [Act.put, sq]
      refine won 17 rfl fun K hK => ?_
      go_simp
      refine hK.out _ _ (fun _ h => h) ?_
      clear hK K
      try simp only [Act.put, sq]
      refine won 18 rfl fun K hK => ?_
      go_simp
      refine hK.out _ _ (fun _ h => h) ?_
      clear hK K
      try simp only [Act.put, sq]
      refine won 19 rfl fun K hK => ?_
      go_simp
      refine hK.out _ _ (fun _ h => h) ?_
      clear hK K
      try simp only [Act.put, sq]
      refine won 20 rfl fun K hK => ?_
      go_simp
      refine hK.out _ _ (fun _ h => h) ?_
      clear hK K
      try simp only [Act.put, sq]
      refine won 21 rfl fun K hK => ?_
      go_simp
      refine hK.out _ _ (fun _ h => h) ?_
      clear hK K
      try simp only [Act.put, sq]
      refine wfr 22 (v := ?_) rfl ?_ ?_
      rotate_left
      ·intro w' hw';go_simp;try with_reducible rfl
      try simp only [Act.put, sq]
      refine wtk 23 48 (v := ?_) rfl ?_ hS1 ?_
      rotate_left
      ·intro w' hw';(try dsimp only at hw');go_simp;try with_reducible rfl
      try simp only [Act.put, sq]
      refine wfr 24 (v := ?_) rfl ?_ ?_
      rotate_left
      ·intro w' hw';go_simp;try with_reducible rfl
      try simp only [Act.put, sq]
      refine wtk 25 48 (v := ?_) rfl ?_ hS1 ?_
      rotate_left
      ·intro w' hw';(try dsimp only at hw');go_simp;try with_reducible rfl
      try simp only [Act.put, sq]
      refine won 26 rfl fun K hK => ?_
      go_simp
      refine hK.out _ _ (fun _ h => h) ?_
      clear hK K
      try simp only [Act.put, sq]
      refine won 27 rfl fun K hK => ?_
      go_simp
      refine hK.out _ _ (fun _ h => h) ?_
      clear hK K
      try simp only [Act.put, sq]
      refine won 28 rfl fun K hK => ?_
      go_simp
      refine hK.out _ _ (fun _ h => h) ?_
      clear hK K
      try simp only [Act.put, sq]
      refine won 29 rfl fun K hK => ?_
      go_simp
      refine hK.out _ _ (fun _ h => h) ?_
      clear hK K
      try simp only [Act.put, sq]
      refine won 30 rfl fun K hK => ?_
      go_simp
      refine hK.out _ _ (fun _ h => h) ?_
      clear hK K
      try simp only [Act.put, sq]
      refine won 31 rfl fun K hK => ?_
      go_simp
      refine hK.out _ _ (fun _ h => h) ?_
      clear hK K
      try simp only [Act.put, sq]
      refine won 32 rfl fun K hK => ?_
      go_simp
      refine hK.out _ _ (fun _ h => h) ?_
      clear hK K
      try simp only [Act.put, sq]
      refine won 33 rfl fun K hK => ?_
      go_simp
      refine hK.out _ _ (fun _ h => h) ?_
      clear hK K
      try simp only [Act.put, sq]
      refine won 34 rfl fun K hK => ?_
      go_simp
      refine hK.out _ _ (fun _ h => h) ?_
      clear hK K
      try simp only [Act.put, sq]
      refine wpAnyM_free 35 (v := undef) rfl (by kernel_rfl) (by kernel_rfl) (by kernel_rfl) (fun _ _ _ h => h) (Or.inr ⟨by rfl, rfl⟩) ?_
      try simp only [Act.put, sq]
      refine wpAnyM_free 36 (v := undef) rfl (by kernel_rfl) (by kernel_rfl) (by kernel_rfl) (fun _ _ _ h => h) (Or.inr ⟨by rfl, rfl⟩) ?_
      try simp only [Act.put, sq]
      refine wpAnyM_free 37 (v := undef) rfl (by kernel_rfl) (by kernel_rfl) (by kernel_rfl) (fun _ _ _ h => h) (Or.inr ⟨by rfl, rfl⟩) ?_
      try simp only [Act.put, sq]
      refine wpAnyM_free 38 (v := undef) rfl (by kernel_rfl) (by kernel_rfl) (by kernel_rfl) (fun _ _ _ h => h) (Or.inr ⟨by rfl, rfl⟩) ?_
      try simp only [Act.put, sq]
      refine wpAnyM_free 39 (v := undef) rfl (by kernel_rfl) (by kernel_rfl) (by kernel_rfl) (fun _ _ _ h => h) (Or.inr ⟨by rfl, rfl⟩) ?_
      try simp only [Act.put, sq]
      refine wpAnyM_free 40 (v := undef) rfl (by kernel_rfl) (by kernel_rfl) (by kernel_rfl) (fun _ _ _ h => h) (Or.inr ⟨by rfl, rfl⟩) ?_
      try simp only [Act.put, sq]
      refine wpAnyM_free 41 (v := undef) rfl (by kernel_rfl) (by kernel_rfl) (by kernel_rfl) (fun _ _ _ h => h) (Or.inr ⟨by rfl, rfl⟩) ?_
      try simp only [Act.put, sq]
      refine won 42 rfl fun K hK => ?_
      go_simp
      refine hK.out _ _ (fun _ h => h) ?_
      clear hK K
      try simp only [Act.put, sq]
      refine won 43 rfl fun K hK => ?_
      go_simp
      refine hK.out _ _ (fun _ h => h) ?_
      clear hK K
      try simp only [Act.put, sq]
      refine won 44 rfl fun K hK => ?_
      go_simp
      refine hK.out _ _ (fun _ h => h) ?_
      clear hK K
      try simp only [Act.put, sq]
      refine won 45 rfl fun K hK => ?_
      go_simp
      refine hK.out _ _ (fun _ h => h) ?_
      clear hK K
      try simp only [Act.put, sq]
      refine won 46 rfl fun K hK => ?_
      go_simp
      refine hK.out _ _ (fun _ _ => hS1) ?_
      clear hK K
      try simp only [Act.put, sq]
      refine won 47 rfl fun K hK => ?_
      go_simp
      refine hK.out _ _ (fun _ h => h) ?_
      clear hK K
      try simp only [Act.put, sq]
      refine wpAnyM_done (by kernel_rfl) ?_ _
      try simp only [Act.put, sq]
      have HBk := Lib.hid hB1
      have HRk := Lib.hid (KR.out.later hB1)
      clear hB0
      have r0 := HRk.out.cell 0 rfl
      have r1 := HRk.out.cell 1 rfl
      have f0 := HRk.out.frozen 0
      have f1 := HRk.out.frozen 1
      go_wp2_with fail
      refine bodyPost_ret (results_ct Tryz.results25 _ _ _ _ _ rfl (load_pl (store2 HRk.out _ _))) rfl ?_
      exact ⟨by rw [HE.out] <;> rfl, below_two_sets (HB0.out.trans (HBk.out.mono HB0.out.size)) (by omega) _ _⟩
     ·have hb1 : b < tl.length := by omega
      obtain ⟨go, rfl, q1, q2, q3, q4⟩ := HO.out b hb1
      have q1 := cell_later HB0.out q1
      have q2 := cell_later HB0.out q2
      have q3 := cell_later HB0.out q3
      have q4 := cell_later HB0.out q4
      obtain ⟨⟨ow, ok, od, on⟩, hoo⟩ : ∃ q, tl.getD b noOp = q := ⟨_, rfl⟩
      rw [hoo] at q1 q2 q3 q4 hP
      dsimp only at q1 q2 q3 q4
      clear hoo
      cases hlo : lostO (ow, ok, od, on) with
      | true =>
       skip
       have HE : RowKit.Hid (placeP h a b = ((0, 0), false)) := Lib.hid (by rw [hP, if_neg (by rw [hlo]; simp)])
       clear hP
       have HS : RowKit.Hid (∀ w', Below W0.heap.size W0 w' → w'.cell? ⟨w.heap.size, 0, none⟩ = some (.slice p0 h.1.length c0) ∧ w'.cell? ⟨w.heap.size, 1, none⟩ = some (.slice p1 h.2.1.length c1) ∧ w'.cell? ⟨w.heap.size, 2, none⟩ = some (.slice (some ⟨g, 0, none⟩) h.2.2.length c2) ∧ w'.cell? ⟨w.heap.size + 1, 0, none⟩ = some (.int .i64 a) ∧ w'.cell? ⟨w.heap.size + 1, 1, none⟩ = some (.int .i64 b) ∧ w'.cell? ⟨g, a * 3 + 2, none⟩ = some (.slice (some ⟨go, 0, none⟩) tl.length c3) ∧ w'.cell? ⟨go, b * 4, none⟩ = some (.bool ow) ∧ w'.cell? ⟨go, b * 4 + 1, none⟩ = some (.int .i64 ok) ∧ w'.cell? ⟨go, b * 4 + 2, none⟩ = some (.int .i64 od) ∧ w'.cell? ⟨go, b * 4 + 3, none⟩ = some (.int .i64 on) ∧ Below W0.heap.size W0 w') := Lib.hid (fun w' hb => ⟨(KB.out.later hb).cell 0 rfl, (KB.out.later hb).cell 1 rfl, (KB.out.later hb).cell 2 rfl, (KP.out.later hb).cell 0 rfl, (KP.out.later hb).cell 1 rfl, cell_later hb ta, cell_later hb q1, cell_later hb q2, cell_later hb q3, cell_later hb q4, hb⟩)
       refine wp_region_keep (fun w' => w'.cell? ⟨w.heap.size, 0, none⟩ = some (.slice p0 h.1.length c0) ∧ w'.cell? ⟨w.heap.size, 1, none⟩ = some (.slice p1 h.2.1.length c1) ∧ w'.cell? ⟨w.heap.size, 2, none⟩ = some (.slice (some ⟨g, 0, none⟩) h.2.2.length c2) ∧ w'.cell? ⟨w.heap.size + 1, 0, none⟩ = some (.int .i64 a) ∧ w'.cell? ⟨w.heap.size + 1, 1, none⟩ = some (.int .i64 b) ∧ w'.cell? ⟨g, a * 3 + 2, none⟩ = some (.slice (some ⟨go, 0, none⟩) tl.length c3) ∧ w'.cell? ⟨go, b * 4, none⟩ = some (.bool ow) ∧ w'.cell? ⟨go, b * 4 + 1, none⟩ = some (.int .i64 ok) ∧ w'.cell? ⟨go, b * 4 + 2, none⟩ = some (.int .i64 od) ∧ w'.cell? ⟨go, b * 4 + 3, none⟩ = some (.int .i64 on) ∧ Below W0.heap.size W0 w') [] (by kernel_rfl) ?_
       have hB0 : Below (W0).heap.size (W0) (W0).drew := Below.drew (Below.refl _ _)
       have hS0 := HS.out _ hB0
       refine won 0 rfl fun K hK => ?_
       go_simp
       refine hK.out _ _ (fun _ h => h) ?_
       clear hK K
       try simp only [Act.put, sq]
       refine won 1 rfl fun K hK => ?_
       go_simp
       refine (HMay.out _ hB0).mono ?_
       rintro e w1 ⟨he, hb1⟩
       have hB1 := below_next hB0 hb1
       have hS1 := HS.out _ hB1
       rw [HEr.out] at he
       subst he
       refine hK.out _ _ (fun _ _ => hS1) ?_
       clear hK K hS0
       try simp only [Act.put, sq]
       refine won 2 rfl fun K hK => ?_
       go_simp
       refine hK.out _ _ (fun _ h => h) ?_
       clear hK K
       try simp only [Act.put, sq]
       refine won 3 rfl fun K hK => ?_
       go_simp
       refine hK.out _ _ (fun _ h => h) ?_
       clear hK K
       try simp only [Act.put, sq]
       refine won 4 rfl fun K hK => ?_
       go_simp
       refine hK.out _ _ (fun _ h => h) ?_
       clear hK K
       try simp only [Act.put, sq]
       refine won 5 rfl fun K hK => ?_
       go_simp
       refine hK.out _ _ (fun _ h => h) ?_
       clear hK K
       try simp only [Act.put, sq]
       refine won 6 rfl fun K hK => ?_
       go_simp
       refine hK.out _ _ (fun _ h => h) ?_
       clear hK K
       try simp only [Act.put, sq]
       refine won 7 rfl fun K hK => ?_
       go_simp
       refine hK.out _ _ (fun _ h => h) ?_
       clear hK K
       try simp only [Act.put, sq]
       refine won 8 rfl fun K hK => ?_
       go_simp
       refine hK.out _ _ (fun _ h => h) ?_
       clear hK K
       try simp only [Act.put, sq]
       refine wfr 9 (v := ?_) rfl ?_ ?_
       rotate_left
       ·intro w' hw';go_simp;try with_reducible rfl
       try simp only [Act.put, sq]
       refine wtk 10 48 (v := ?_) rfl ?_ hS1 ?_
       rotate_left
       ·intro w' hw';(try dsimp only at hw');go_simp;try with_reducible rfl
       try simp only [Act.put, sq]
       refine won 11 rfl fun K hK => ?_
       go_simp
       refine hK.out _ _ (fun _ h => h) ?_
       clear hK K
       try simp only [Act.put, sq]
       refine won 12 rfl fun K hK => ?_
       go_simp
       refine hK.out _ _ (fun _ h => h) ?_
       clear hK K
       try simp only [Act.put, sq]
       refine won 13 rfl fun K hK => ?_
       go_simp
       refine hK.out _ _ (fun _ h => h) ?_
       clear hK K
       try simp only [Act.put, sq]
       refine won 14 rfl fun K hK => ?_
       go_simp
       refine hK.out _ _ (fun _ h => h) ?_
       clear hK K
       try simp only [Act.put, sq]
       refine won 15 rfl fun K hK => ?_
       go_simp
       refine hK.out _ _ (fun _ h => h) ?_
       clear hK K
       try simp only [Act.put, sq]
       refine won 16 rfl fun K hK => ?_
       go_simp
       refine hK.out _ _ (fun _ h => h) ?_
       clear hK K
       try simp only [Act.put, sq]
       refine won 17 rfl fun K hK => ?_
       go_simp
       refine hK.out _ _ (fun _ h => h) ?_
       clear hK K
       try simp only [Act.put, sq]
       refine won 18 rfl fun K hK => ?_
       go_simp
       refine hK.out _ _ (fun _ h => h) ?_
       clear hK K
       try simp only [Act.put, sq]
       refine won 19 rfl fun K hK => ?_
       go_simp
       refine hK.out _ _ (fun _ h => h) ?_
       clear hK K
       try simp only [Act.put, sq]
       refine won 20 rfl fun K hK => ?_
       go_simp
       refine hK.out _ _ (fun _ h => h) ?_
       clear hK K
       try simp only [Act.put, sq]
       refine won 21 rfl fun K hK => ?_
       go_simp
       refine hK.out _ _ (fun _ h => h) ?_
       clear hK K
       try simp only [Act.put, sq]
       refine wfr 22 (v := ?_) rfl ?_ ?_
       rotate_left
       ·intro w' hw';go_simp;try with_reducible rfl
       try simp only [Act.put, sq]
       refine wtk 23 48 (v := ?_) rfl ?_ hS1 ?_
       rotate_left
       ·intro w' hw';(try dsimp only at hw');go_simp;try with_reducible rfl
       try simp only [Act.put, sq]
       refine wfr 24 (v := ?_) rfl ?_ ?_
       rotate_left
       ·intro w' hw';go_simp;try with_reducible rfl
       try simp only [Act.put, sq]
       refine wtk 25 48 (v := ?_) rfl ?_ hS1 ?_
       rotate_left
       ·intro w' hw';(try dsimp only at hw');go_simp;try with_reducible rfl
       try simp only [Act.put, sq]
       refine won 26 rfl fun K hK => ?_
       go_simp
       refine hK.out _ _ (fun _ h => h) ?_
       clear hK K
       try simp only [Act.put, sq]
       refine won 27 rfl fun K hK => ?_
       go_simp
       refine hK.out _ _ (fun _ h => h) ?_
       clear hK K
       try simp only [Act.put, sq]
       refine won 28 rfl fun K hK => ?_
       go_simp
       refine hK.out _ _ (fun _ h => h) ?_
       clear hK K
       try simp only [Act.put, sq]
       refine won 29 rfl fun K hK => ?_
       go_simp
       refine hK.out _ _ (fun _ h => h) ?_
       clear hK K
       try simp only [Act.put, sq]
       refine won 30 rfl fun K hK => ?_
       go_simp
       refine hK.out _ _ (fun _ h => h) ?_
       clear hK K
       try simp only [Act.put, sq]
       refine won 31 rfl fun K hK => ?_
       go_simp
       refine hK.out _ _ (fun _ h => h) ?_
       clear hK K
       try simp only [Act.put, sq]
       refine won 32 rfl fun K hK => ?_
       go_simp
       refine hK.out _ _ (fun _ h => h) ?_
       clear hK K
       try simp only [Act.put, sq]
       refine won 33 rfl fun K hK => ?_
       go_simp
       refine hK.out _ _ (fun _ h => h) ?_
       clear hK K
       try simp only [Act.put, sq]
       refine won 34 rfl fun K hK => ?_
       go_simp
       refine hK.out _ _ (fun _ h => h) ?_
       clear hK K
       try simp only [Act.put, sq]
       refine wfr 35 (v := ?_) rfl ?_ ?_
       rotate_left
       ·intro w' hw';go_simp;try with_reducible rfl
       try simp only [Act.put, sq]
       refine wtk 36 48 (v := ?_) rfl ?_ hS1 ?_
       rotate_left
       ·intro w' hw';(try dsimp only at hw');go_simp;try with_reducible rfl
       try simp only [Act.put, sq]
       refine wfr 37 (v := ?_) rfl ?_ ?_
       rotate_left
       ·intro w' hw';go_simp;try with_reducible rfl
       try simp only [Act.put, sq]
       refine wtk 38 48 (v := ?_) rfl ?_ hS1 ?_
       rotate_left
       ·intro w' hw';(try dsimp only at hw');go_simp;try with_reducible rfl
       try simp only [Act.put, sq]
       refine wfr 39 (v := ?_) rfl ?_ ?_
       rotate_left
       ·intro w' hw';go_simp;try with_reducible rfl
       try simp only [Act.put, sq]
       refine wfr 40 (v := ?_) rfl ?_ ?_
       rotate_left
       ·intro w' hw';go_simp;try with_reducible rfl
       try simp only [Act.put, sq]
       refine wtk 41 48 (v := ?_) rfl ?_ hS1 ?_
       rotate_left
       ·intro w' hw';(try dsimp only at hw');go_simp;try with_reducible rfl
       try simp only [Act.put, sq]
       refine won 42 rfl fun K hK => ?_
       go_simp
       refine hK.out _ _ (fun _ h => h) ?_
       clear hK K
       try simp only [Act.put, sq]
       refine won 43 rfl fun K hK => ?_
       go_simp
       refine hK.out _ _ (fun _ h => h) ?_
       clear hK K
       try simp only [Act.put, sq]
       refine won 44 rfl fun K hK => ?_
       go_simp
       refine hK.out _ _ (fun _ h => h) ?_
       clear hK K
       try simp only [Act.put, sq]
       refine won 45 rfl fun K hK => ?_
       go_simp
       refine hK.out _ _ (fun _ h => h) ?_
       clear hK K
       try simp only [Act.put, sq]
       refine won 46 rfl fun K hK => ?_
       go_simp
       refine (lost14_any (ow, ok, od, on) _).mono ?_
       rintro e w2 ⟨he, hb2⟩
       have hB2 := below_next hB1 hb2
       have hS2 := HS.out _ hB2
       rw [hlo] at he
       subst he
       refine hK.out _ _ (fun _ _ => hS2) ?_
       clear hK K hS1
       try simp only [Act.put, sq]
       refine won 47 rfl fun K hK => ?_
       go_simp
       refine hK.out _ _ (fun _ h => h) ?_
       clear hK K
       try simp only [Act.put, sq]
       refine wpAnyM_done (by kernel_rfl) ?_ _
       try simp only [Act.put, sq]
       have HBk := Lib.hid hB2
       have HRk := Lib.hid (KR.out.later hB2)
       clear hB0
       have r0 := HRk.out.cell 0 rfl
       have r1 := HRk.out.cell 1 rfl
       have f0 := HRk.out.frozen 0
       have f1 := HRk.out.frozen 1
       go_wp2_with fail
       refine bodyPost_ret (results_ct Tryz.results25 _ _ _ _ _ rfl (load_pl (store2 HRk.out _ _))) rfl ?_
       exact ⟨by rw [HE.out] <;> rfl, below_two_sets (HB0.out.trans (HBk.out.mono HB0.out.size)) (by omega) _ _⟩
      | false =>
       have HE : RowKit.Hid (placeP h a b = (((a : Int), (((tl.take b).filter fun o => !lostO o).length : Int)), true)) := Lib.hid (by rw [hP, if_pos ⟨hmm, by omega, by omega, by omega, by omega, hlo⟩])
       clear hP
       have HS : RowKit.Hid (∀ w', Below W0.heap.size W0 w' → w'.cell? ⟨w.heap.size, 0, none⟩ = some (.slice p0 h.1.length c0) ∧ w'.cell? ⟨w.heap.size, 1, none⟩ = some (.slice p1 h.2.1.length c1) ∧ w'.cell? ⟨w.heap.size, 2, none⟩ = some (.slice (some ⟨g, 0, none⟩) h.2.2.length c2) ∧ w'.cell? ⟨w.heap.size + 1, 0, none⟩ = some (.int .i64 a) ∧ w'.cell? ⟨w.heap.size + 1, 1, none⟩ = some (.int .i64 b) ∧ w'.cell? ⟨g, a * 3 + 2, none⟩ = some (.slice (some ⟨go, 0, none⟩) tl.length c3) ∧ w'.cell? ⟨go, b * 4, none⟩ = some (.bool ow) ∧ w'.cell? ⟨go, b * 4 + 1, none⟩ = some (.int .i64 ok) ∧ w'.cell? ⟨go, b * 4 + 2, none⟩ = some (.int .i64 od) ∧ w'.cell? ⟨go, b * 4 + 3, none⟩ = some (.int .i64 on) ∧ Below W0.heap.size W0 w') := Lib.hid (fun w' hb => ⟨(KB.out.later hb).cell 0 rfl, (KB.out.later hb).cell 1 rfl, (KB.out.later hb).cell 2 rfl, (KP.out.later hb).cell 0 rfl, (KP.out.later hb).cell 1 rfl, cell_later hb ta, cell_later hb q1, cell_later hb q2, cell_later hb q3, cell_later hb q4, hb⟩)
       refine wp_region_keep (fun w' => w'.cell? ⟨w.heap.size, 0, none⟩ = some (.slice p0 h.1.length c0) ∧ w'.cell? ⟨w.heap.size, 1, none⟩ = some (.slice p1 h.2.1.length c1) ∧ w'.cell? ⟨w.heap.size, 2, none⟩ = some (.slice (some ⟨g, 0, none⟩) h.2.2.length c2) ∧ w'.cell? ⟨w.heap.size + 1, 0, none⟩ = some (.int .i64 a) ∧ w'.cell? ⟨w.heap.size + 1, 1, none⟩ = some (.int .i64 b) ∧ w'.cell? ⟨g, a * 3 + 2, none⟩ = some (.slice (some ⟨go, 0, none⟩) tl.length c3) ∧ w'.cell? ⟨go, b * 4, none⟩ = some (.bool ow) ∧ w'.cell? ⟨go, b * 4 + 1, none⟩ = some (.int .i64 ok) ∧ w'.cell? ⟨go, b * 4 + 2, none⟩ = some (.int .i64 od) ∧ w'.cell? ⟨go, b * 4 + 3, none⟩ = some (.int .i64 on) ∧ Below W0.heap.size W0 w') [] (by kernel_rfl) ?_
       have hB0 : Below (W0).heap.size (W0) (W0).drew := Below.drew (Below.refl _ _)
       have hS0 := HS.out _ hB0
       refine won 0 rfl fun K hK => ?_
       go_simp
       refine hK.out _ _ (fun _ h => h) ?_
       clear hK K
       try simp only [Act.put, sq]
       refine won 1 rfl fun K hK => ?_
       go_simp
       refine (HMay.out _ hB0).mono ?_
       rintro e w1 ⟨he, hb1⟩
       have hB1 := below_next hB0 hb1
       have hS1 := HS.out _ hB1
       rw [HEr.out] at he
       subst he
       refine hK.out _ _ (fun _ _ => hS1) ?_
       clear hK K hS0
       try simp only [Act.put, sq]
       refine won 2 rfl fun K hK => ?_
       go_simp
       refine hK.out _ _ (fun _ h => h) ?_
       clear hK K
       try simp only [Act.put, sq]
       refine won 3 rfl fun K hK => ?_
       go_simp
       refine hK.out _ _ (fun _ h => h) ?_
       clear hK K
       try simp only [Act.put, sq]
       refine won 4 rfl fun K hK => ?_
       go_simp
       refine hK.out _ _ (fun _ h => h) ?_
       clear hK K
       try simp only [Act.put, sq]
       refine won 5 rfl fun K hK => ?_
       go_simp
       refine hK.out _ _ (fun _ h => h) ?_
       clear hK K
       try simp only [Act.put, sq]
       refine won 6 rfl fun K hK => ?_
       go_simp
       refine hK.out _ _ (fun _ h => h) ?_
       clear hK K
       try simp only [Act.put, sq]
       refine won 7 rfl fun K hK => ?_
       go_simp
       refine hK.out _ _ (fun _ h => h) ?_
       clear hK K
       try simp only [Act.put, sq]
       refine won 8 rfl fun K hK => ?_
       go_simp
       refine hK.out _ _ (fun _ h => h) ?_
       clear hK K
       try simp only [Act.put, sq]
       refine wfr 9 (v := ?_) rfl ?_ ?_
       rotate_left
       ·intro w' hw';go_simp;try with_reducible rfl
       try simp only [Act.put, sq]
       refine wtk 10 48 (v := ?_) rfl ?_ hS1 ?_
       rotate_left
       ·intro w' hw';(try dsimp only at hw');go_simp;try with_reducible rfl
       try simp only [Act.put, sq]
       refine won 11 rfl fun K hK => ?_
       go_simp
       refine hK.out _ _ (fun _ h => h) ?_
       clear hK K
       try simp only [Act.put, sq]
       refine won 12 rfl fun K hK => ?_
       go_simp
       refine hK.out _ _ (fun _ h => h) ?_
       clear hK K
       try simp only [Act.put, sq]
       refine won 13 rfl fun K hK => ?_
       go_simp
       refine hK.out _ _ (fun _ h => h) ?_
       clear hK K
       try simp only [Act.put, sq]
       refine won 14 rfl fun K hK => ?_
       go_simp
       refine hK.out _ _ (fun _ h => h) ?_
       clear hK K
       try simp only [Act.put, sq]
       refine won 15 rfl fun K hK => ?_
       go_simp
       refine hK.out _ _ (fun _ h => h) ?_
       clear hK K
       try simp only [Act.put, sq]
       refine won 16 rfl fun K hK => ?_
       go_simp
       refine hK.out _ _ (fun _ h => h) ?_
       clear hK K
       try simp only [Act.put, sq]
       refine won 17 rfl fun K hK => ?_
       go_simp
       refine hK.out _ _ (fun _ h => h) ?_
       clear hK K
       try simp only [Act.put, sq]
       refine won 18 rfl fun K hK => ?_
       go_simp
       refine hK.out _ _ (fun _ h => h) ?_
       clear hK K
       try simp only [Act.put, sq]
       refine won 19 rfl fun K hK => ?_
       go_simp
       refine hK.out _ _ (fun _ h => h) ?_
       clear hK K
       try simp only [Act.put, sq]
       refine won 20 rfl fun K hK => ?_
       go_simp
       refine hK.out _ _ (fun _ h => h) ?_
       clear hK K
       try simp only [Act.put, sq]
       refine won 21 rfl fun K hK => ?_
       go_simp
       refine hK.out _ _ (fun _ h => h) ?_
       clear hK K
       try simp only [Act.put, sq]
       refine wfr 22 (v := ?_) rfl ?_ ?_
       rotate_left
       ·intro w' hw';go_simp;try with_reducible rfl
       try simp only [Act.put, sq]
       refine wtk 23 48 (v := ?_) rfl ?_ hS1 ?_
       rotate_left
       ·intro w' hw';(try dsimp only at hw');go_simp;try with_reducible rfl
       try simp only [Act.put, sq]
       refine wfr 24 (v := ?_) rfl ?_ ?_
       rotate_left
       ·intro w' hw';go_simp;try with_reducible rfl
       try simp only [Act.put, sq]
       refine wtk 25 48 (v := ?_) rfl ?_ hS1 ?_
       rotate_left
       ·intro w' hw';(try dsimp only at hw');go_simp;try with_reducible rfl
       try simp only [Act.put, sq]
       refine won 26 rfl fun K hK => ?_
       go_simp
       refine hK.out _ _ (fun _ h => h) ?_
       clear hK K
       try simp only [Act.put, sq]
       refine won 27 rfl fun K hK => ?_
       go_simp
       refine hK.out _ _ (fun _ h => h) ?_
       clear hK K
       try simp only [Act.put, sq]
       refine won 28 rfl fun K hK => ?_
       go_simp
       refine hK.out _ _ (fun _ h => h) ?_
       clear hK K
       try simp only [Act.put, sq]
       refine won 29 rfl fun K hK => ?_
       go_simp
       refine hK.out _ _ (fun _ h => h) ?_
       clear hK K
       try simp only [Act.put, sq]
       refine won 30 rfl fun K hK => ?_
       go_simp
       refine hK.out _ _ (fun _ h => h) ?_
       clear hK K
       try simp only [Act.put, sq]
       refine won 31 rfl fun K hK => ?_
       go_simp
       refine hK.out _ _ (fun _ h => h) ?_
       clear hK K
       try simp only [Act.put, sq]
       refine won 32 rfl fun K hK => ?_
       go_simp
       refine hK.out _ _ (fun _ h => h) ?_
       clear hK K
       try simp only [Act.put, sq]
       refine won 33 rfl fun K hK => ?_
       go_simp
       refine hK.out _ _ (fun _ h => h) ?_
       clear hK K
       try simp only [Act.put, sq]
       refine won 34 rfl fun K hK => ?_
       go_simp
       refine hK.out _ _ (fun _ h => h) ?_
       clear hK K
       try simp only [Act.put, sq]
       refine wfr 35 (v := ?_) rfl ?_ ?_
       rotate_left
       ·intro w' hw';go_simp;try with_reducible rfl
       try simp only [Act.put, sq]
       refine wtk 36 48 (v := ?_) rfl ?_ hS1 ?_
       rotate_left
       ·intro w' hw';(try dsimp only at hw');go_simp;try with_reducible rfl
       try simp only [Act.put, sq]
       refine wfr 37 (v := ?_) rfl ?_ ?_
       rotate_left
       ·intro w' hw';go_simp;try with_reducible rfl
       try simp only [Act.put, sq]
       refine wtk 38 48 (v := ?_) rfl ?_ hS1 ?_
       rotate_left
       ·intro w' hw';(try dsimp only at hw');go_simp;try with_reducible rfl
       try simp only [Act.put, sq]
       refine wfr 39 (v := ?_) rfl ?_ ?_
       rotate_left
       ·intro w' hw';go_simp;try with_reducible rfl
       try simp only [Act.put, sq]
       refine wfr 40 (v := ?_) rfl ?_ ?_
       rotate_left
       ·intro w' hw';go_simp;try with_reducible rfl
       try simp only [Act.put, sq]
       refine wtk 41 48 (v := ?_) rfl ?_ hS1 ?_
       rotate_left
       ·intro w' hw';(try dsimp only at hw');go_simp;try with_reducible rfl
       try simp only [Act.put, sq]
       refine won 42 rfl fun K hK => ?_
       go_simp
       refine hK.out _ _ (fun _ h => h) ?_
       clear hK K
       try simp only [Act.put, sq]
       refine won 43 rfl fun K hK => ?_
       go_simp
       refine hK.out _ _ (fun _ h => h) ?_
       clear hK K
       try simp only [Act.put, sq]
       refine won 44 rfl fun K hK => ?_
       go_simp
       refine hK.out _ _ (fun _ h => h) ?_
       clear hK K
       try simp only [Act.put, sq]
       refine won 45 rfl fun K hK => ?_
       go_simp
       refine hK.out _ _ (fun _ h => h) ?_
       clear hK K
       try simp only [Act.put, sq]
       refine won 46 rfl fun K hK => ?_
       go_simp
       refine (lost14_any (ow, ok, od, on) _).mono ?_
       rintro e w2 ⟨he, hb2⟩
       have hB2 := below_next hB1 hb2
       have hS2 := HS.out _ hB2
       rw [hlo] at he
       subst he
       refine hK.out _ _ (fun _ _ => hS2) ?_
       clear hK K hS1
       try simp only [Act.put, sq]
       refine won 47 rfl fun K hK => ?_
       go_simp
       refine hK.out _ _ (fun _ h => h) ?_
       clear hK K
       try simp only [Act.put, sq]
       refine wpAnyM_done (by kernel_rfl) ?_ _
       try simp only [Act.put, sq]
       have HBk := Lib.hid hB2
       have HRk := Lib.hid (KR.out.later hB2)
       have x0 := (KP.out.later hB2).cell 0 rfl
       have x1 := (KP.out.later hB2).cell 1 rfl
       have hk2 : w.heap.size + 1 + 1 < w2.heap.size := HRk.out.lt
       clear hB0
       go_upto_region 4 with fail
       have HQ0 := Lib.hid (Blk.new w2 38 [.int .i64 a, .int .i64 b])
       have HBz := Lib.hid (HBk.out.alloc HBk.out.size (.cells #[.int .i64 a, .int .i64 b] 38))
       have HRz := Lib.hid (HRk.out.alloc (.cells #[.int .i64 a, .int .i64 b] 38))
       obtain ⟨Q, hQ⟩ : ∃ q, w2.heap.size = q := ⟨_, rfl⟩
       obtain ⟨wz, hwz⟩ : ∃ q, w2.alloc (.cells #[.int .i64 a, .int .i64 b] 38) = q := ⟨_, rfl⟩
       rw [hwz] at HBz HRz
       rw [hwz, hQ] at HQ0
       rw [hQ] at hk2
       simp only [hwz, hQ]
       clear hwz hQ x0 x1
       have hs0 := HBz.out
       clear HS
       have HS : RowKit.Hid (∀ w', Below wz.heap.size wz w' → w'.cell? ⟨w.heap.size, 0, none⟩ = some (.slice p0 h.1.length c0) ∧ w'.cell? ⟨w.heap.size, 1, none⟩ = some (.slice p1 h.2.1.length c1) ∧ w'.cell? ⟨w.heap.size, 2, none⟩ = some (.slice (some ⟨g, 0, none⟩) h.2.2.length c2) ∧ w'.cell? ⟨w.heap.size + 1, 0, none⟩ = some (.int .i64 a) ∧ w'.cell? ⟨w.heap.size + 1, 1, none⟩ = some (.int .i64 b) ∧ w'.cell? ⟨g, a * 3 + 2, none⟩ = some (.slice (some ⟨go, 0, none⟩) tl.length c3) ∧ Below wz.heap.size wz w') := Lib.hid (fun w' hb' => by
        have hb := below_next HBz.out hb'
        exact ⟨(KB.out.later hb).cell 0 rfl, (KB.out.later hb).cell 1 rfl, (KB.out.later hb).cell 2 rfl, (KP.out.later hb).cell 0 rfl, (KP.out.later hb).cell 1 rfl, cell_later hb ta, hb'⟩)
       clear hs0
       have hcb : b ≤ c3 := by omega
       refine wp_region_keep (fun w' => w'.cell? ⟨w.heap.size, 0, none⟩ = some (.slice p0 h.1.length c0) ∧ w'.cell? ⟨w.heap.size, 1, none⟩ = some (.slice p1 h.2.1.length c1) ∧ w'.cell? ⟨w.heap.size, 2, none⟩ = some (.slice (some ⟨g, 0, none⟩) h.2.2.length c2) ∧ w'.cell? ⟨w.heap.size + 1, 0, none⟩ = some (.int .i64 a) ∧ w'.cell? ⟨w.heap.size + 1, 1, none⟩ = some (.int .i64 b) ∧ w'.cell? ⟨g, a * 3 + 2, none⟩ = some (.slice (some ⟨go, 0, none⟩) tl.length c3) ∧ Below wz.heap.size wz w') [] (by kernel_rfl) ?_
       have hB0 : Below (wz).heap.size (wz) (wz).drew := Below.drew (Below.refl _ _)
       have hS0 := HS.out _ hB0
       refine wfr 0 (v := ?_) rfl ?_ ?_
       rotate_left
       ·intro w' hw';go_simp;try with_reducible rfl
       try simp only [Act.put, sq]
       refine wtk 1 12 (v := ?_) rfl ?_ hS0 ?_
       rotate_left
       ·intro w' hw';(try dsimp only at hw');go_simp;try with_reducible rfl
       try simp only [Act.put, sq]
       refine wfr 2 (v := ?_) rfl ?_ ?_
       rotate_left
       ·intro w' hw';go_simp;try with_reducible rfl
       try simp only [Act.put, sq]
       refine wtk 3 12 (v := ?_) rfl ?_ hS0 ?_
       rotate_left
       ·intro w' hw';(try dsimp only at hw');go_simp;try with_reducible rfl
       try simp only [Act.put, sq]
       refine wfr 4 (v := ?_) rfl ?_ ?_
       rotate_left
       ·intro w' hw';go_simp;try with_reducible rfl
       try simp only [Act.put, sq]
       refine wfr 5 (v := ?_) rfl ?_ ?_
       rotate_left
       ·intro w' hw';go_simp;try with_reducible rfl
       try simp only [Act.put, sq]
       refine wtk 6 12 (v := ?_) rfl ?_ hS0 ?_
       rotate_left
       ·intro w' hw';(try dsimp only at hw');go_simp;try with_reducible rfl
       try simp only [Act.put, sq]
       refine wfr 7 (v := ?_) rfl ?_ ?_
       rotate_left
       ·intro w' hw';go_simp;try with_reducible rfl
       try simp only [Act.put, sq]
       refine wtk 8 12 (v := ?_) rfl ?_ hS0 ?_
       rotate_left
       ·intro w' hw';(try dsimp only at hw');go_simp;try with_reducible rfl
       try simp only [Act.put, sq]
       refine wfr 9 (v := ?_) rfl ?_ ?_
       rotate_left
       ·intro w' hw';go_simp;try with_reducible rfl
       try simp only [Act.put, sq]
       refine wfr 10 (v := ?_) rfl ?_ ?_
       rotate_left
       ·intro w' hw';go_simp;try with_reducible rfl
       try simp only [Act.put, sq]
       refine won 11 rfl fun K hK => ?_
       go_simp
       refine hK.out _ _ (fun _ h => h) ?_
       clear hK K
       try simp only [Act.put, sq]
       refine wpAnyM_done (by kernel_rfl) ?_ _
       try simp only [Act.put, sq]
       have hlt0 := HQ0.out.lt
       have HN : RowKit.Hid (∀ m, ((((tl.take m).filter lostO).length : Int)) + (((tl.take m).filter fun o => !lostO o).length : Int) = ((tl.take m).length : Int)) := Lib.hid (fun m => by have := filter_two lostO (tl.take m); omega)
       go_wp2_with fail
       go_loopw [70] (fun i wr => ∃ m : Nat, m ≤ b ∧ i = .int .i64 m ∧ Blk wr Q 38 [.int .i64 a, .int .i64 ((b : Int) - ((tl.take m).filter lostO).length)] ∧ Blk wr (w.heap.size + 1 + 1) 38 [.int .i64 0, .int .i64 0] ∧ Below w.heap.size w wr) (fun i _ => b - (RowKit.intOf i).toNat)
       case atStart => exact ⟨0, Nat.zero_le _, by first | rfl | simp, by simpa using HQ0.out.later hB0, HRz.out.later hB0, HB0.out.trans ((HBz.out.trans (hB0.mono HBz.out.size)).mono HB0.out.size)⟩
       case round =>
        obtain ⟨m, hm, rfl, hq, hr, hbw⟩ := hrel
        have hQR : Q ≠ w.heap.size + 1 + 1 := by omega
        by_cases hm1 : m < b
        ·obtain ⟨go2, e2, j1, j2, j3, j4⟩ := HO.out m (by omega)
         obtain rfl : go2 = go := by simpa using e2.symm
         have j1 := cell_later hbw j1
         have j2 := cell_later hbw j2
         have j3 := cell_later hbw j3
         have j4 := cell_later hbw j4
         have hsn := take_snoc tl m (by omega)
         have hcl : ((tl.take m).filter lostO).length ≤ m := Nat.le_trans (List.length_filter_le _ _) (by rw [List.length_take]; omega)
         obtain ⟨⟨ow, ok, od, on⟩, hoo⟩ : ∃ q, tl.getD m noOp = q := ⟨_, rfl⟩
         rw [hoo] at j1 j2 j3 j4 hsn
         dsimp only at j1 j2 j3 j4
         have hcn : ((tl.take (m + 1)).filter lostO).length = if lostO (ow, ok, od, on) then ((tl.take m).filter lostO).length + 1 else ((tl.take m).filter lostO).length := by
          rw [hsn, List.filter_append, List.length_append, List.filter_cons]
          split <;> simp
         obtain ⟨C, hC⟩ : ∃ C, ((tl.take m).filter lostO).length = C := ⟨_, rfl⟩
         rw [hC] at hq hcn hcl
         have HCn := Lib.hid hcn
         have HQ1 := Lib.hid (hq.alloc (.cells #[.bool ow, .int .i64 ok, .int .i64 od, .int .i64 on] 51))
         have HR1 := Lib.hid (hr.alloc (.cells #[.bool ow, .int .i64 ok, .int .i64 od, .int .i64 on] 51))
         have HB1 := Lib.hid (hbw.alloc hbw.size (.cells #[.bool ow, .int .i64 ok, .int .i64 od, .int .i64 on] 51))
         clear hsn hoo hcn hC hq hr hbw e2
         go_wp2_with fail
         refine (lost14_any (ow, ok, od, on) _).mono ?_
         rintro e w5 ⟨rfl, hb5⟩
         have HQ5 := Lib.hid (HQ1.out.later hb5)
         have HR5 := Lib.hid (HR1.out.later hb5)
         have HB5 := Lib.hid (below_next HB1.out hb5)
         have z1 := HQ5.out.cell 1 rfl
         have f1 := HQ5.out.frozen 1
         clear hb5 HQ1 HR1 HB1 j1 j2 j3 j4
         cases hl2 : lostO (ow, ok, od, on) with
         | true =>
          have HC2 : RowKit.Hid (((tl.take (m + 1)).filter lostO).length = C + 1) := Lib.hid (by rw [HCn.out, if_pos hl2])
          have HQ6 := Lib.hid (HQ5.out.set 1 (.int .i64 ((b : Int) - C - 1)))
          have HR6 := Lib.hid (HR5.out.far (a := ⟨Q, 1, none⟩) (by show w.heap.size + 1 + 1 ≠ Q; omega) (.int .i64 ((b : Int) - C - 1)))
          have HB6 := Lib.hid (HB5.out.setCell (show w.heap.size ≤ (⟨Q, 1, none⟩ : Addr).block from (by show w.heap.size ≤ Q; omega)) (.int .i64 ((b : Int) - C - 1)))
          have e9 : (b : Int) - ((C + 1 : Nat) : Int) = (b : Int) - C - 1 := by omega
          have HE9 := Lib.hid e9
          clear HCn hl2 e9
          go_wp2_with fail
          go_roundw
          case rel => exact ⟨m + 1, by omega, by go_num, by rw [HC2.out, HE9.out]; exact HQ6.out, HR6.out, HB6.out⟩
          case measure => simp [RowKit.intOf]; omega
         | false =>
          have HC2 : RowKit.Hid (((tl.take (m + 1)).filter lostO).length = C) := Lib.hid (by rw [HCn.out, if_neg (by rw [hl2]; exact Bool.false_ne_true)])
          clear HCn hl2
          go_wp2_with fail
          go_roundw
          case rel => exact ⟨m + 1, by omega, by go_num, by rw [HC2.out]; exact HQ5.out, HR5.out, HB5.out⟩
          case measure => simp [RowKit.intOf]; omega
        ·have hke : m = b := by omega
         subst hke
         have hnn := HN.out m
         rw [show (tl.take m).length = m by rw [List.length_take]; omega] at hnn
         have HNn := Lib.hid hnn
         have z0 := hq.cell 0 rfl
         have z1 := hq.cell 1 rfl
         have r0 := hr.cell 0 rfl
         have r1 := hr.cell 1 rfl
         have f0 := hr.frozen 0
         have f1 := hr.frozen 1
         have HRn := Lib.hid hr
         have HBn := Lib.hid hbw
         clear hq hr hbw hnn
         go_wp2_with fail
         refine bodyPost_ret (results_ct Tryz.results25 _ _ _ _ _ rfl (load_pl (store2 HRn.out _ _))) rfl ?_
         refine ⟨by rw [HE.out]; have e9 : (m : Int) - ((tl.take m).filter lostO).length = ((tl.take m).filter fun o => !lostO o).length := (by have := HNn.out; omega); rw [e9] <;> rfl, below_two_sets HBn.out (by omega) _ _⟩
end Go.Proofs.YtmgchjddpmmglaaGreatDoor
