/-
  Layer 14 (erase): the statement ErasePlace, walked. Conditions: unicode/utf8's two tables and event.words hold what their initialisers lay, internal/bytealg.MaxLen holds a number.
-/
import Derived.Test.YtmgchjddpmmglaaGreatDoorQIc
import Derived.Test.YtmgchjddpmmglaaGreatDoorQId
import Derived.Test.YtmgchjddpmmglaaGreatDoorQxErQ
import Derived.Test.YtmgchjddpmmglaaGreatDoorQxErR
import Derived.Test.YtmgchjddpmmglaaGreatDoorQxErW
namespace Go.Proofs.YtmgchjddpmmglaaGreatDoor
open Go.RowKit Go.Lib
set_option maxRecDepth 100000 in
set_option maxHeartbeats 4000000 in
theorem eraseplace_any (v : Value) (hM : HistM) (x y : Int) (w : World) (hv : HistA w v hM) (hT : Lib.Utf8Tabs 1 2 w) (hm : HasMax w) (hE : EvTab w) :
  Calls Tryz.prog 5 #[v, .agg #[.int .i64 x, .int .i64 y]] w fun e w' => e = .returned (.bool true) ∧ Below w.heap.size w w' := by
 have HA0 := Lib.hid hv
 obtain ⟨v0, v1, v2, rfl, ⟨p0, c0, rfl, -⟩, ⟨p1, c1, rfl, -⟩, ⟨p2, c2, rfl, -⟩⟩ := hv
 have HB0 := Lib.hid (((Below.refl w.heap.size w).alloc (Nat.le_refl _) (.cells #[.slice p0 hM.1.length c0, .slice p1 hM.2.1.length c1, .slice p2 hM.2.2.length c2] 25)).alloc (by simp) (.cells #[.int .i64 x, .int .i64 y] 38))
 have HF0 := Lib.hid (few11_any _ _ hM (HA0.out.below HB0.out))
 have B0 := Lib.hid ((Blk.new w 25 [.slice p0 hM.1.length c0, .slice p1 hM.2.1.length c1, .slice p2 hM.2.2.length c2]).alloc (.cells #[.int .i64 x, .int .i64 y] 38))
 have P0 := Blk.new (w.alloc (.cells #[.slice p0 hM.1.length c0, .slice p1 hM.2.1.length c1, .slice p2 hM.2.2.length c2] 25)) 38 [.int .i64 x, .int .i64 y]
 simp only [World.size_alloc] at P0
 have P0 := Lib.hid P0
 have y0 := B0.out.cell 0 rfl
 have y1 := B0.out.cell 1 rfl
 have y2 := B0.out.cell 2 rfl
 have HT := Lib.hid hT
 have HMo := Lib.hid (few_modst hM)
 have HMx := Lib.hid hm
 have HEt := Lib.hid hE
 clear hm hE hT
 go_enter Tryz.func5, Tryz.ntmps5
 go_wp2_with fail
 refine HF0.out.mono ?_
 rintro e w1 ⟨v', rfl, hv', ha', hb1⟩
 have HV1 := Lib.hid hv'
 have HA1 := Lib.hid ha'
 obtain ⟨u0, u1, u2, rfl, ⟨q0, d0, rfl, -⟩, ⟨q1, d1, rfl, -⟩, ⟨q2, d2, rfl, -⟩⟩ := hv'
 have z := B0.out.later hb1
 have z0 := z.cell 0 rfl
 have z1 := z.cell 1 rfl
 have z2 := z.cell 2 rfl
 have z3 := z.frozen 0
 have z4 := z.frozen 1
 have z5 := z.frozen 2
 have ST := Lib.hid (few_stored (HB0.out) B0.out (by intro x hx; simp at hx; rcases hx with rfl | rfl | rfl <;> exact ⟨_, _, _, rfl⟩) hb1 HV1.out HA1.out)
 have P1 := Lib.hid ((((P0.out.later hb1).far (a := ⟨w.heap.size, 0, none⟩) (by simp) (.slice q0 (fewH hM).1.length d0)).far (a := ⟨w.heap.size, 1, none⟩) (by simp) (.slice q1 (fewH hM).2.1.length d1)).far (a := ⟨w.heap.size, 2, none⟩) (by simp) (.slice q2 (fewH hM).2.2.length d2))
 clear ha' hb1 z P0 y0 y1 y2 HF0 HV1 HA1
 go_upto_region 2 with fail
 generalize (((w1.setCell ⟨w.heap.size, 0, none⟩ (.slice q0 (fewH hM).1.length d0)).setCell ⟨w.heap.size, 1, none⟩ (.slice q1 (fewH hM).2.1.length d1)).setCell ⟨w.heap.size, 2, none⟩ (.slice q2 (fewH hM).2.2.length d2)) = W2 at *
 obtain ⟨k0, HVx, HAx, hbW⟩ := ST.out
 have KB := Lib.hid k0
 have HV2 := Lib.hid HVx
 have HA2 := Lib.hid HAx
 have HBW := Lib.hid hbW
 have o0 := k0.cell 0 rfl
 have o1 := k0.cell 1 rfl
 have o2 := k0.cell 2 rfl
 have hl0 : w.heap.size < W2.heap.size := k0.lt
 clear ST k0 HVx HAx hbW z0 z1 z2 z3 z4 z5
 have HFF := Lib.hid (fun w' v (ha : HistA w' v (fewH hM)) => few_v ha)
 generalize fewH hM = hF at *
 clear o0 o1 o2 hl0
 have HS : RowKit.Hid (∀ w', Below W2.heap.size W2 w' → w'.cell? ⟨w.heap.size, 0, none⟩ = some (.slice q0 hF.1.length d0) ∧ w'.cell? ⟨w.heap.size, 1, none⟩ = some (.slice q1 hF.2.1.length d1) ∧ w'.cell? ⟨w.heap.size, 2, none⟩ = some (.slice q2 hF.2.2.length d2) ∧ w'.cell? ⟨w.heap.size + 1, 0, none⟩ = some (.int .i64 x) ∧ w'.cell? ⟨w.heap.size + 1, 1, none⟩ = some (.int .i64 y) ∧ Below W2.heap.size W2 w') := Lib.hid (fun w' hb => ⟨(KB.out.later hb).cell 0 rfl, (KB.out.later hb).cell 1 rfl, (KB.out.later hb).cell 2 rfl, (P1.out.later hb).cell 0 rfl, (P1.out.later hb).cell 1 rfl, hb⟩)
 have HAb := Lib.hid (fun w' (hb : Below W2.heap.size W2 w') => HA2.out.below hb)
 have HVb := Lib.hid (fun w' (hb : Below W2.heap.size W2 w') => HV2.out.below hb)
 have HTb := Lib.hid (fun w' (hb : Below W2.heap.size W2 w') => Utf8Tabs_below HT.out (HBW.out.trans (hb.mono HBW.out.size)))
 have HFin := Lib.hid (fun w' (hb : Below W2.heap.size W2 w') => HBW.out.trans (hb.mono HBW.out.size))
 have HMb := Lib.hid (fun w' (hb : Below W2.heap.size W2 w') => HMx.out.below (HFin.out _ hb))
 have HEb := Lib.hid (fun w' (hb : Below W2.heap.size W2 w') => HEt.out.below (HFin.out _ hb))
 obtain ⟨⟨⟨gk, gn⟩, gb⟩, hg⟩ : ∃ r, placeP hF x y = r := ⟨_, rfl⟩
 have HG := Lib.hid hg
 clear hg
 go_upto_region 2 with fail
 go_cut [5, 6] (fun s5 s6 wx => ∃ b, s5 = .pointer (some ⟨b, 0, none⟩) ∧ s6 = .bool gb ∧ Blk wx b 38 [.int .i64 gk, .int .i64 gn] ∧ Below W2.heap.size W2 wx)
 case first =>
  refine wp_region_keep (fun w' => w'.cell? ⟨w.heap.size, 0, none⟩ = some (.slice q0 hF.1.length d0) ∧ w'.cell? ⟨w.heap.size, 1, none⟩ = some (.slice q1 hF.2.1.length d1) ∧ w'.cell? ⟨w.heap.size, 2, none⟩ = some (.slice q2 hF.2.2.length d2) ∧ w'.cell? ⟨w.heap.size + 1, 0, none⟩ = some (.int .i64 x) ∧ w'.cell? ⟨w.heap.size + 1, 1, none⟩ = some (.int .i64 y) ∧ Below W2.heap.size W2 w') [8] (by kernel_rfl) ?_
  have hB0 : Below (W2).heap.size (W2) (W2).drew := Below.drew (Below.refl _ _)
  obtain ⟨wd, hwd⟩ : ∃ q, (W2).drew = q := ⟨_, rfl⟩
  rw [hwd] at hB0 ⊢
  have HZ0 : RowKit.Hid (wd.heap.size = (W2).heap.size) := Lib.hid (by rw [← hwd]; rfl)
  clear hwd
  refine wtk 0 10 (v := ?_) rfl ?_ (HS.out _ hB0) ?_
  rotate_left
  ·intro w' hw';(try dsimp only at hw');go_simp;try with_reducible rfl
  try simp only [Act.put, sq]
  refine wtk 2 10 (v := ?_) rfl ?_ (HS.out _ hB0) ?_
  rotate_left
  ·intro w' hw';(try dsimp only at hw');go_simp;try with_reducible rfl
  try simp only [Act.put, sq]
  refine wpAnyM_two 1 7 rfl rfl (by kernel_rfl) (fun K hK => ?_) (fun K hK => ?_)
  ·go_simp
   refine (HFF.out _ _ (HAb.out _ hB0)).mono ?_
   rintro e w1 ⟨va, rfl, hva, -, hb1⟩
   have HVa := Lib.hid hva
   clear hva
   have hB1 := below_next hB0 hb1
   refine hK.out _ _ (fun _ _ => HS.out _ hB1) ?_
   clear hK K
   try simp only [Act.put, sq]
   refine wpAnyM_two 3 7 rfl rfl (by kernel_rfl) (fun K hK => ?_) (fun K hK => ?_)
   ·go_simp
    refine (place14_any x y (by first | exact HVa.out | exact HVa.out.below hb7) HMo.out (HTb.out _ hB1)).mono ?_
    rintro e w3 ⟨he, hb3⟩
    rw [HG.out] at he
    dsimp only at he
    subst he
    have hB3 := below_next hB1 hb3
    refine hK.out _ _ (fun _ _ => HS.out _ hB3) ?_
    clear hK K
    try simp only [Act.put, sq]
    refine wfr 4 (v := ?_) rfl ?_ ?_
    rotate_left
    ·intro w' hw';go_simp;try with_reducible rfl
    try simp only [Act.put, sq]
    refine wfr 5 (v := ?_) rfl ?_ ?_
    rotate_left
    ·intro w' hw';go_simp;try with_reducible rfl
    try simp only [Act.put, sq]
    refine wfr 6 (v := ?_) rfl ?_ ?_
    rotate_left
    ·intro w' hw';go_simp;try with_reducible rfl
    try simp only [Act.put, sq]
    refine won 7 rfl fun K hK => ?_
    go_simp
    have hB7 := hB3.alloc hB3.size (.cells #[.int .i64 0, .int .i64 0] 38)
    have hBl := Blk.new (w3) 38 [.int .i64 0, .int .i64 0]
    have hb7 := (Below.refl (w3).heap.size (w3)).alloc (Nat.le_refl _) (.cells #[.int .i64 0, .int .i64 0] 38)
    have hgB : (w3).heap.size < ((w3).alloc (.cells #[.int .i64 0, .int .i64 0] 38)).heap.size := by simp
    have hge : (W2).heap.size ≤ (w3).heap.size := hB3.size
    have hgo : ∀ k, k < (w3).heap.size → ((w3).alloc (.cells #[.int .i64 0, .int .i64 0] 38)).heap[k]? = (w3).heap[k]? := fun k hk => heap_kept _ _ hk
    refine hK.out _ _ (fun _ _ => HS.out _ hB7) ?_
    clear hK K
    try simp only [Act.put, sq]
    obtain ⟨w7, hw7⟩ : ∃ q, (w3).alloc (.cells #[.int .i64 0, .int .i64 0] 38) = q := ⟨_, rfl⟩
    rw [hw7] at hB7 hb7 hBl hgB hgo
    try simp only [hw7]
    obtain ⟨gh, hgh⟩ : ∃ q, (w3).heap.size = q := ⟨_, rfl⟩
    rw [hgh] at hBl hgB hgo hge
    try simp only [hgh]
    have HBl := Lib.hid hBl
    clear hBl hw7
    refine won 8 rfl fun K hK => ?_
    have r0 := HBl.out.cell 0 rfl
    have r1 := HBl.out.cell 1 rfl
    have f0 := HBl.out.frozen 0
    have f1 := HBl.out.frozen 1
    go_simp
    refine hK.out _ _ (fun h => absurd h (by decide)) ?_
    clear hK K
    try simp only [Act.put, sq]
    clear r0 r1 f0 f1
    refine won 9 rfl fun K hK => ?_
    go_simp
    refine hK.out _ _ (fun _ h => h) ?_
    clear hK K
    try simp only [Act.put, sq]
    refine wpAnyM_done (by kernel_rfl) ?_ _
    try simp only [Act.put, sq]
    go_wp2_with fail
    go_meet
    exact ⟨gh, rfl, rfl, store2 HBl.out _ _, below_two_sets hB7 hge _ _⟩
   ·go_simp
    have hB7 := hB1.alloc hB1.size (.cells #[.int .i64 0, .int .i64 0] 38)
    have hBl := Blk.new (w1) 38 [.int .i64 0, .int .i64 0]
    have hb7 := (Below.refl (w1).heap.size (w1)).alloc (Nat.le_refl _) (.cells #[.int .i64 0, .int .i64 0] 38)
    have hgB : (w1).heap.size < ((w1).alloc (.cells #[.int .i64 0, .int .i64 0] 38)).heap.size := by simp
    have hge : (W2).heap.size ≤ (w1).heap.size := hB1.size
    have hgo : ∀ k, k < (w1).heap.size → ((w1).alloc (.cells #[.int .i64 0, .int .i64 0] 38)).heap[k]? = (w1).heap[k]? := fun k hk => heap_kept _ _ hk
    refine hK.out _ _ (fun _ _ => HS.out _ hB7) ?_
    clear hK K
    try simp only [Act.put, sq]
    obtain ⟨w7, hw7⟩ : ∃ q, (w1).alloc (.cells #[.int .i64 0, .int .i64 0] 38) = q := ⟨_, rfl⟩
    rw [hw7] at hB7 hb7 hBl hgB hgo
    try simp only [hw7]
    obtain ⟨gh, hgh⟩ : ∃ q, (w1).heap.size = q := ⟨_, rfl⟩
    rw [hgh] at hBl hgB hgo hge
    try simp only [hgh]
    have HBl := Lib.hid hBl
    clear hBl hw7
    refine won 3 rfl fun K hK => ?_
    go_simp
    refine (place14_any x y (by first | exact HVa.out | exact HVa.out.below hb7) HMo.out (HTb.out _ hB7)).mono ?_
    rintro e w3 ⟨he, hb3⟩
    rw [HG.out] at he
    dsimp only at he
    subst he
    have hB3 := below_next hB7 hb3
    replace HBl := Lib.hid (HBl.out.later hb3)
    refine hK.out _ _ (fun _ _ => HS.out _ hB3) ?_
    clear hK K
    try simp only [Act.put, sq]
    refine won 4 rfl fun K hK => ?_
    go_simp
    refine hK.out _ _ (fun _ h => h) ?_
    clear hK K
    try simp only [Act.put, sq]
    refine wfr 5 (v := ?_) rfl ?_ ?_
    rotate_left
    ·intro w' hw';go_simp;try with_reducible rfl
    try simp only [Act.put, sq]
    refine wfr 6 (v := ?_) rfl ?_ ?_
    rotate_left
    ·intro w' hw';go_simp;try with_reducible rfl
    try simp only [Act.put, sq]
    refine won 8 rfl fun K hK => ?_
    have r0 := HBl.out.cell 0 rfl
    have r1 := HBl.out.cell 1 rfl
    have f0 := HBl.out.frozen 0
    have f1 := HBl.out.frozen 1
    go_simp
    refine hK.out _ _ (fun h => absurd h (by decide)) ?_
    clear hK K
    try simp only [Act.put, sq]
    clear r0 r1 f0 f1
    refine won 9 rfl fun K hK => ?_
    go_simp
    refine hK.out _ _ (fun _ h => h) ?_
    clear hK K
    try simp only [Act.put, sq]
    refine wpAnyM_done (by kernel_rfl) ?_ _
    try simp only [Act.put, sq]
    go_wp2_with fail
    go_meet
    exact ⟨gh, rfl, rfl, store2 HBl.out _ _, below_two_sets hB3 hge _ _⟩
  ·go_simp
   have hB7 := hB0.alloc hB0.size (.cells #[.int .i64 0, .int .i64 0] 38)
   have hBl := Blk.new (wd) 38 [.int .i64 0, .int .i64 0]
   have hb7 := (Below.refl (wd).heap.size (wd)).alloc (Nat.le_refl _) (.cells #[.int .i64 0, .int .i64 0] 38)
   have hgB : (wd).heap.size < ((wd).alloc (.cells #[.int .i64 0, .int .i64 0] 38)).heap.size := by simp
   have hge : (W2).heap.size ≤ (wd).heap.size := hB0.size
   have hgo : ∀ k, k < (wd).heap.size → ((wd).alloc (.cells #[.int .i64 0, .int .i64 0] 38)).heap[k]? = (wd).heap[k]? := fun k hk => heap_kept _ _ hk
   refine hK.out _ _ (fun _ _ => HS.out _ hB7) ?_
   clear hK K
   try simp only [Act.put, sq]
   obtain ⟨w7, hw7⟩ : ∃ q, (wd).alloc (.cells #[.int .i64 0, .int .i64 0] 38) = q := ⟨_, rfl⟩
   rw [hw7] at hB7 hb7 hBl hgB hgo
   try simp only [hw7]
   obtain ⟨gh, hgh⟩ : ∃ q, (wd).heap.size = q := ⟨_, rfl⟩
   rw [hgh] at hBl hgB hgo hge
   try simp only [hgh]
   have HBl := Lib.hid hBl
   clear hBl hw7
   refine won 1 rfl fun K hK => ?_
   go_simp
   refine (HFF.out _ _ (HAb.out _ hB7)).mono ?_
   rintro e w1 ⟨va, rfl, hva, -, hb1⟩
   have HVa := Lib.hid hva
   clear hva
   have hB1 := below_next hB7 hb1
   replace HBl := Lib.hid (HBl.out.later hb1)
   refine hK.out _ _ (fun _ _ => HS.out _ hB1) ?_
   clear hK K
   try simp only [Act.put, sq]
   refine won 3 rfl fun K hK => ?_
   go_simp
   refine (place14_any x y (by first | exact HVa.out | exact HVa.out.below hb7) HMo.out (HTb.out _ hB1)).mono ?_
   rintro e w3 ⟨he, hb3⟩
   rw [HG.out] at he
   dsimp only at he
   subst he
   have hB3 := below_next hB1 hb3
   replace HBl := Lib.hid (HBl.out.later hb3)
   refine hK.out _ _ (fun _ _ => HS.out _ hB3) ?_
   clear hK K
   try simp only [Act.put, sq]
   refine won 4 rfl fun K hK => ?_
   go_simp
   refine hK.out _ _ (fun _ h => h) ?_
   clear hK K
   try simp only [Act.put, sq]
   refine wfr 5 (v := ?_) rfl ?_ ?_
   rotate_left
   ·intro w' hw';go_simp;try with_reducible rfl
   try simp only [Act.put, sq]
   refine wfr 6 (v := ?_) rfl ?_ ?_
   rotate_left
   ·intro w' hw';go_simp;try with_reducible rfl
   try simp only [Act.put, sq]
   refine won 8 rfl fun K hK => ?_
   have r0 := HBl.out.cell 0 rfl
   have r1 := HBl.out.cell 1 rfl
   have f0 := HBl.out.frozen 0
   have f1 := HBl.out.frozen 1
   go_simp
   refine hK.out _ _ (fun h => absurd h (by decide)) ?_
   clear hK K
   try simp only [Act.put, sq]
   clear r0 r1 f0 f1
   refine won 9 rfl fun K hK => ?_
   go_simp
   refine hK.out _ _ (fun _ h => h) ?_
   clear hK K
   try simp only [Act.put, sq]
   refine wpAnyM_done (by kernel_rfl) ?_ _
   try simp only [Act.put, sq]
   go_wp2_with fail
   go_meet
   exact ⟨gh, rfl, rfl, store2 HBl.out _ _, below_two_sets hB3 hge _ _⟩
 case rest =>
  obtain ⟨b, rfl, rfl, hbv, hbx⟩ := hcut
  have ca := (HS.out _ hbx).1
  have cb := (HS.out _ hbx).2.1
  have cc := (HS.out _ hbx).2.2.1
  have cd := (HS.out _ hbx).2.2.2.1
  have ce := (HS.out _ hbx).2.2.2.2.1
  have HBX := Lib.hid hbx
  have HBv := Lib.hid hbv
  clear hbv hbx
  go_wp2_with fail
  refine (rplace14_any x y (HVb.out _ HBX.out) HMo.out).mono ?_
  rintro e x3 ⟨he, hb3⟩
  rw [HG.out] at he
  dsimp only at he
  subst he
  have HB3 := Lib.hid (below_next HBX.out hb3)
  have hv3 := HBv.out.later hb3
  have n0 := hv3.cell 0 rfl
  have n1 := hv3.cell 1 rfl
  have nl := hv3.lt
  clear hb3 ca cb cc cd ce HBv HBX hv3
  have HBZ := Lib.hid (HB3.out.alloc HB3.out.size (.cells #[.int .i64 gk, .int .i64 gn] 38))
  go_wp2_with fail
  refine (works14_any _ (HTb.out _ HBZ.out) (HMb.out _ HBZ.out) (HEb.out _ HBZ.out)).mono ?_
  rintro e x4 ⟨rfl, hb4⟩
  have HB4 := Lib.hid (below_next HBZ.out hb4)
  clear hb4 n0 n1
  go_wp2_with fail
  go_ret
  exact ⟨rfl, HFin.out _ HB4.out⟩
end Go.Proofs.YtmgchjddpmmglaaGreatDoor
