/-
  Layer 13 (inner): the statement InnerLeaves, walked. Conditions: unicode/utf8's two tables and event.words hold what their initialisers lay, internal/bytealg.MaxLen holds a number.
-/
import Derived.Test.YtmgchjddpmmglaaGreatDoorQIc
import Derived.Test.YtmgchjddpmmglaaGreatDoorQxInS
import Derived.Test.YtmgchjddpmmglaaGreatDoorQxInT
namespace Go.Proofs.YtmgchjddpmmglaaGreatDoor
open Go.RowKit Go.Lib
theorem bads_len {h : HistM} (hm : Modst h) (t : Int) : (badL h t).length ≤ 1000 := Nat.le_trans (bad_len _ _) (opsI_len hm t)
set_option maxRecDepth 100000 in
set_option maxHeartbeats 4000000 in
theorem innerleaves_any (v : Value) (hM : HistM) (t key : Int) (w : World) (hv : HistA w v hM) (hT : Lib.Utf8Tabs 1 2 w) (hm : HasMax w) (hE : EvTab w) :
  Calls Tryz.prog 7 #[v, .int .i64 t, .int .i64 key] w fun e w' => e = .returned (.bool true) ∧ Below w.heap.size w w' := by
 have b0 : ∀ x0 x1 x2, Blk (w.alloc (.cells #[x0, x1, x2] 25)) w.heap.size 25 [x0, x1, x2] := fun x0 x1 x2 => Blk.new w _ [x0, x1, x2]
 have hb0 : ∀ o, Below w.heap.size w (w.alloc o) := fun o => (Below.refl _ w).alloc (Nat.le_refl _) o
 have HA0 := Lib.hid hv
 obtain ⟨v0, v1, v2, rfl, ⟨p0, c0, rfl, -⟩, ⟨p1, c1, rfl, -⟩, ⟨p2, c2, rfl, -⟩⟩ := hv
 have HF0 := Lib.hid (few11_any _ _ hM (HA0.out.below (hb0 (.cells #[.slice p0 hM.1.length c0, .slice p1 hM.2.1.length c1, .slice p2 hM.2.2.length c2] 25))))
 have HB0 := Lib.hid hb0
 have B0 := Lib.hid (b0 (.slice p0 hM.1.length c0) (.slice p1 hM.2.1.length c1) (.slice p2 hM.2.2.length c2))
 have y0 := B0.out.cell 0 rfl
 have y1 := B0.out.cell 1 rfl
 have y2 := B0.out.cell 2 rfl
 have HT := Lib.hid hT
 have HMo := Lib.hid (few_modst hM)
 clear b0 hb0 hT
 have HMx := Lib.hid hm
 have HEt := Lib.hid hE
 clear hm hE
 go_enter Tryz.func7, Tryz.ntmps7
 go_wp2_with fail
 refine HF0.out.mono ?_
 rintro e w1 ⟨v', rfl, hv', ha', hb1⟩
 have HV1 := Lib.hid hv'
 have HA1 := Lib.hid ha'
 obtain ⟨u0, u1, u2, rfl, ⟨q0, d0, rfl, -⟩, ⟨q1, d1, rfl, -⟩, ⟨q2, d2, rfl, -⟩⟩ := hv'
 have z := B0.out.later hb1
 have z0 := z.cell 0 rfl
 have z1 := z.cell 1 rfl
 have z2 := z.cell 2 rfl
 have z3 := z.frozen 0
 have z4 := z.frozen 1
 have z5 := z.frozen 2
 have ST := Lib.hid (few_stored (HB0.out _) B0.out (by intro x hx; simp at hx; rcases hx with rfl | rfl | rfl <;> exact ⟨_, _, _, rfl⟩) hb1 HV1.out HA1.out)
 clear ha' hb1 z y0 y1 y2 HF0 HV1 HA1
 go_upto_region 2 with fail
 generalize (((w1.setCell ⟨w.heap.size, 0, none⟩ (.slice q0 (fewH hM).1.length d0)).setCell ⟨w.heap.size, 1, none⟩ (.slice q1 (fewH hM).2.1.length d1)).setCell ⟨w.heap.size, 2, none⟩ (.slice q2 (fewH hM).2.2.length d2)) = W2 at *
 obtain ⟨k0, HVx, HAx, hbW⟩ := ST.out
 have KB := Lib.hid k0
 have HV2 := Lib.hid HVx
 have HA2 := Lib.hid HAx
 have HBW := Lib.hid hbW
 have o0 := k0.cell 0 rfl
 have o1 := k0.cell 1 rfl
 have o2 := k0.cell 2 rfl
 have hl0 : w.heap.size < W2.heap.size := k0.lt
 clear ST k0 HVx HAx hbW z0 z1 z2 z3 z4 z5
 have HFF := Lib.hid (fun w' v (ha : HistA w' v (fewH hM)) => few_v ha)
 generalize fewH hM = hF at *
 have HS : RowKit.Hid (∀ w', Below W2.heap.size W2 w' → (w'.cell? ⟨w.heap.size, 0, none⟩ = some (.slice q0 hF.1.length d0) ∧ w'.cell? ⟨w.heap.size, 1, none⟩ = some (.slice q1 hF.2.1.length d1) ∧ w'.cell? ⟨w.heap.size, 2, none⟩ = some (.slice q2 hF.2.2.length d2) ∧ Below W2.heap.size W2 w')) := Lib.hid (fun w' hb => ⟨(KB.out.later hb).cell 0 rfl, (KB.out.later hb).cell 1 rfl, (KB.out.later hb).cell 2 rfl, hb⟩)
 have HAb := Lib.hid (fun w' (hb : Below W2.heap.size W2 w') => HA2.out.below hb)
 have HVb := Lib.hid (fun w' (hb : Below W2.heap.size W2 w') => HV2.out.below hb)
 have HTb := Lib.hid (fun w' (hb : Below W2.heap.size W2 w') => Utf8Tabs_below HT.out (HBW.out.trans (hb.mono HBW.out.size)))
 have HFin := Lib.hid (fun w' (hb : Below W2.heap.size W2 w') => HBW.out.trans (hb.mono HBW.out.size))
 have HMb := Lib.hid (fun w' (hb : Below W2.heap.size W2 w') => HMx.out.below (HFin.out _ hb))
 have HEb := Lib.hid (fun w' (hb : Below W2.heap.size W2 w') => HEt.out.below (HFin.out _ hb))
 have HLb := Lib.hid (bads_len HMo.out t)
 have HLw := Lib.hid (whereL_len (writesP key) hF HMo.out)
 obtain ⟨⟨⟨gk, gn⟩, gb⟩, hg⟩ : ∃ r, rawO key (opsI hF t) = r := ⟨_, rfl⟩
 have HG := Lib.hid hg
 clear hg
 clear o0 o1 o2
 have ca0 := (HS.out _ (Below.refl _ _)).1
 have cb0 := (HS.out _ (Below.refl _ _)).2.1
 have cc0 := (HS.out _ (Below.refl _ _)).2.2.1
 go_wp2_with fail
 refine (HFF.out _ _ (HAb.out _ (Below.refl _ _))).mono ?_
 rintro e x1 ⟨va1, rfl, hva1, -, hb1⟩
 have hB1 : Below W2.heap.size W2 x1 := below_next (Below.refl _ _) hb1
 clear hb1
 clear ca0 cb0 cc0
 go_wp2_with fail
 refine (leaves13_any t key hva1 HMo.out (HTb.out _ hB1)).mono ?_
 rintro e x2 ⟨he, hb2⟩
 have hB2 : Below W2.heap.size W2 x2 := below_next hB1 hb2
 clear hb2
 rw [HG.out] at he
 dsimp only at he
 subst he
 clear hva1
 have ca2 := (HS.out _ hB2).1
 have cb2 := (HS.out _ hB2).2.1
 have cc2 := (HS.out _ hB2).2.2.1
 have hl2 : w.heap.size < x2.heap.size := (KB.out.later hB2).lt
 go_wp2_with fail
 have HAl := Lib.hid (hB2.alloc hB2.size (.cells #[.int .i64 gk, .int .i64 gn] 49))
 have HBv := Lib.hid (Blk.new x2 49 [.int .i64 gk, .int .i64 gn])
 refine (rleaves13_any t key (HVb.out _ HAl.out) HMo.out).mono ?_
 rintro e x3 ⟨he, hb3⟩
 rw [HG.out] at he
 dsimp only at he
 subst he
 have HB3 := Lib.hid (below_next HAl.out hb3)
 have HBv3 := Lib.hid (HBv.out.later hb3)
 clear hb3 ca2 cb2 cc2 HBv HAl
 go_wp2_with fail
 have HBZ := Lib.hid (HB3.out.alloc HB3.out.size (.cells #[.int .i64 gk, .int .i64 gn] 49))
 have HBu := Lib.hid (HBv3.out.alloc (.cells #[.int .i64 gk, .int .i64 gn] 49))
 have HBw := Lib.hid (Blk.new x3 49 [.int .i64 gk, .int .i64 gn])
 go_upto_region 4 with fail
 generalize x3.alloc (.cells #[.int .i64 gk, .int .i64 gn] 49) = WZ at *
 have HKZ := Lib.hid (KB.out.later HBZ.out)
 have HAb := Lib.hid (fun w' (hb : Below WZ.heap.size WZ w') => HAb.out w' (below_next HBZ.out hb))
 have HVb := Lib.hid (fun w' (hb : Below WZ.heap.size WZ w') => HVb.out w' (below_next HBZ.out hb))
 have HTb := Lib.hid (fun w' (hb : Below WZ.heap.size WZ w') => HTb.out w' (below_next HBZ.out hb))
 have HFin := Lib.hid (fun w' (hb : Below WZ.heap.size WZ w') => HFin.out w' (below_next HBZ.out hb))
 have HMb := Lib.hid (fun w' (hb : Below WZ.heap.size WZ w') => HMb.out w' (below_next HBZ.out hb))
 have HEb := Lib.hid (fun w' (hb : Below WZ.heap.size WZ w') => HEb.out w' (below_next HBZ.out hb))
 clear HS
 have HS : RowKit.Hid (∀ w', Below WZ.heap.size WZ w' → w'.cell? ⟨w.heap.size, 0, none⟩ = some (.slice q0 hF.1.length d0) ∧ w'.cell? ⟨w.heap.size, 1, none⟩ = some (.slice q1 hF.2.1.length d1) ∧ w'.cell? ⟨w.heap.size, 2, none⟩ = some (.slice q2 hF.2.2.length d2) ∧ w'.cell? ⟨x2.heap.size, 0, none⟩ = some (.int .i64 gk) ∧ w'.cell? ⟨x2.heap.size, 1, none⟩ = some (.int .i64 gn) ∧ w'.cell? ⟨x3.heap.size, 0, none⟩ = some (.int .i64 gk) ∧ w'.cell? ⟨x3.heap.size, 1, none⟩ = some (.int .i64 gn) ∧ Below WZ.heap.size WZ w') := Lib.hid (fun w' hb => ⟨(HKZ.out.later hb).cell 0 rfl, (HKZ.out.later hb).cell 1 rfl, (HKZ.out.later hb).cell 2 rfl, (HBu.out.later hb).cell 0 rfl, (HBu.out.later hb).cell 1 rfl, (HBw.out.later hb).cell 0 rfl, (HBw.out.later hb).cell 1 rfl, hb⟩)
 refine wp_region_keep (fun w' => w'.cell? ⟨w.heap.size, 0, none⟩ = some (.slice q0 hF.1.length d0) ∧ w'.cell? ⟨w.heap.size, 1, none⟩ = some (.slice q1 hF.2.1.length d1) ∧ w'.cell? ⟨w.heap.size, 2, none⟩ = some (.slice q2 hF.2.2.length d2) ∧ w'.cell? ⟨x2.heap.size, 0, none⟩ = some (.int .i64 gk) ∧ w'.cell? ⟨x2.heap.size, 1, none⟩ = some (.int .i64 gn) ∧ w'.cell? ⟨x3.heap.size, 0, none⟩ = some (.int .i64 gk) ∧ w'.cell? ⟨x3.heap.size, 1, none⟩ = some (.int .i64 gn) ∧ Below WZ.heap.size WZ w') [] (by kernel_rfl) ?_
 have hB0 : Below (WZ).heap.size (WZ) (WZ).drew := Below.drew (Below.refl _ _)
 have hS0 := HS.out _ hB0
 refine wtk 0 32 (v := ?_) rfl ?_ hS0 ?_
 rotate_left
 ·intro w' hw';(try dsimp only at hw');go_simp;try with_reducible rfl
 try simp only [Act.put, sq]
 refine won 1 rfl fun K hK => ?_
 go_simp
 refine hK.out _ _ (fun _ h => h) ?_
 clear hK K
 try simp only [Act.put, sq]
 refine won 2 rfl fun K hK => ?_
 go_simp
 refine hK.out _ _ (fun _ h => h) ?_
 clear hK K
 try simp only [Act.put, sq]
 refine won 3 rfl fun K hK => ?_
 go_simp
 refine hK.out _ _ (fun _ h => h) ?_
 clear hK K
 try simp only [Act.put, sq]
 refine wfr 4 (v := ?_) rfl ?_ ?_
 rotate_left
 ·intro w' hw';go_simp;try with_reducible rfl
 try simp only [Act.put, sq]
 refine won 5 rfl fun K hK => ?_
 go_simp
 refine hK.out _ _ (fun _ h => h) ?_
 clear hK K
 try simp only [Act.put, sq]
 refine won 6 rfl fun K hK => ?_
 go_simp
 refine hK.out _ _ (fun _ h => h) ?_
 clear hK K
 try simp only [Act.put, sq]
 refine won 7 rfl fun K hK => ?_
 go_simp
 refine hK.out _ _ (fun _ h => h) ?_
 clear hK K
 try simp only [Act.put, sq]
 refine won 8 rfl fun K hK => ?_
 go_simp
 refine hK.out _ _ (fun _ h => h) ?_
 clear hK K
 try simp only [Act.put, sq]
 refine wtk 9 32 (v := ?_) rfl ?_ hS0 ?_
 rotate_left
 ·intro w' hw';(try dsimp only at hw');go_simp;try with_reducible rfl
 try simp only [Act.put, sq]
 refine wfr 11 (v := ?_) rfl ?_ ?_
 rotate_left
 ·intro w' hw';go_simp;try with_reducible rfl
 try simp only [Act.put, sq]
 refine wtk 13 32 (v := ?_) rfl ?_ hS0 ?_
 rotate_left
 ·intro w' hw';(try dsimp only at hw');go_simp;try with_reducible rfl
 try simp only [Act.put, sq]
 refine wfr 14 (v := ?_) rfl ?_ ?_
 rotate_left
 ·intro w' hw';go_simp;try with_reducible rfl
 try simp only [Act.put, sq]
 refine won 10 rfl fun K hK => ?_
 go_simp
 refine (HFF.out _ _ (HAb.out _ hB0)).mono ?_
 rintro e w1 ⟨va, rfl, hva, -, hb1⟩
 have hB1 := below_next hB0 hb1
 have hS1 := HS.out _ hB1
 refine hK.out _ _ (fun _ _ => hS1) ?_
 clear hK K hS0
 try simp only [Act.put, sq]
 refine won 12 rfl fun K hK => ?_
 go_simp
 refine (bad13_any t hva HMo.out (HTb.out _ hB1)).mono ?_
 rintro e w2 ⟨vb, rfl, hib, hb2⟩
 have hB2 := below_next hB1 hb2
 have hS2 := HS.out _ hB2
 refine hK.out _ _ (fun _ _ => hS2) ?_
 clear hK K hS1
 try simp only [Act.put, sq]
 refine won 15 rfl fun K hK => ?_
 go_simp
 refine (rbad13_any t (HVb.out _ hB2) HMo.out).mono ?_
 rintro e w3 ⟨vc, rfl, hic, hb3⟩
 have hB3 := below_next hB2 hb3
 have hS3 := HS.out _ hB3
 have hib := hib.below hb3
 refine hK.out _ _ (fun _ _ => hS3) ?_
 clear hK K hS2
 try simp only [Act.put, sq]
 refine won 16 rfl fun K hK => ?_
 go_simp
 refine (sameints_eq hib hic HLb.out).mono ?_
 rintro e w4 ⟨rfl, hb4⟩
 have hB4 := below_next hB3 hb4
 have hS4 := HS.out _ hB4
 clear hib hic hva
 refine hK.out _ _ (fun _ _ => hS4) ?_
 clear hK K hS3
 try simp only [Act.put, sq]
 refine won 17 rfl fun K hK => ?_
 go_simp
 refine hK.out _ _ (fun _ h => h) ?_
 clear hK K
 try simp only [Act.put, sq]
 refine won 18 rfl fun K hK => ?_
 go_simp
 refine hK.out _ _ (fun _ h => h) ?_
 clear hK K
 try simp only [Act.put, sq]
 refine wtk 19 32 (v := ?_) rfl ?_ hS4 ?_
 rotate_left
 ·intro w' hw';(try dsimp only at hw');go_simp;try with_reducible rfl
 try simp only [Act.put, sq]
 refine wfr 21 (v := ?_) rfl ?_ ?_
 rotate_left
 ·intro w' hw';go_simp;try with_reducible rfl
 try simp only [Act.put, sq]
 refine wtk 23 32 (v := ?_) rfl ?_ hS4 ?_
 rotate_left
 ·intro w' hw';(try dsimp only at hw');go_simp;try with_reducible rfl
 try simp only [Act.put, sq]
 refine wfr 24 (v := ?_) rfl ?_ ?_
 rotate_left
 ·intro w' hw';go_simp;try with_reducible rfl
 try simp only [Act.put, sq]
 refine won 20 rfl fun K hK => ?_
 go_simp
 refine (HFF.out _ _ (HAb.out _ hB4)).mono ?_
 rintro e w5 ⟨va, rfl, hva, -, hb5⟩
 have hB5 := below_next hB4 hb5
 have hS5 := HS.out _ hB5
 refine hK.out _ _ (fun _ _ => hS5) ?_
 clear hK K hS4
 try simp only [Act.put, sq]
 refine won 22 rfl fun K hK => ?_
 go_simp
 refine (writers13_any key hva HMo.out (HTb.out _ hB5)).mono ?_
 rintro e w6 ⟨vb, rfl, hib, hb6⟩
 have hB6 := below_next hB5 hb6
 have hS6 := HS.out _ hB6
 refine hK.out _ _ (fun _ _ => hS6) ?_
 clear hK K hS5
 try simp only [Act.put, sq]
 refine won 25 rfl fun K hK => ?_
 go_simp
 refine (rwriters13_any key (HVb.out _ hB6) HMo.out).mono ?_
 rintro e w7 ⟨vc, rfl, hic, hb7⟩
 have hB7 := below_next hB6 hb7
 have hS7 := HS.out _ hB7
 have hib := hib.below hb7
 refine hK.out _ _ (fun _ _ => hS7) ?_
 clear hK K hS6
 try simp only [Act.put, sq]
 refine won 26 rfl fun K hK => ?_
 go_simp
 refine (sameints_eq hib hic HLw.out).mono ?_
 rintro e w8 ⟨rfl, hb8⟩
 have hB8 := below_next hB7 hb8
 have hS8 := HS.out _ hB8
 clear hib hic hva
 refine hK.out _ _ (fun _ _ => hS8) ?_
 clear hK K hS7
 try simp only [Act.put, sq]
 refine won 27 rfl fun K hK => ?_
 go_simp
 refine hK.out _ _ (fun _ h => h) ?_
 clear hK K
 try simp only [Act.put, sq]
 refine won 28 rfl fun K hK => ?_
 go_simp
 refine hK.out _ _ (fun _ h => h) ?_
 clear hK K
 try simp only [Act.put, sq]
 refine won 29 rfl fun K hK => ?_
 go_simp
 refine (works13_any _ (HTb.out _ hB8) (HMb.out _ hB8) (HEb.out _ hB8)).mono ?_
 rintro e w9 ⟨rfl, hb9⟩
 have hB9 := below_next hB8 hb9
 have hS9 := HS.out _ hB9
 refine hK.out _ _ (fun _ _ => hS9) ?_
 clear hK K hS8
 try simp only [Act.put, sq]
 refine won 30 rfl fun K hK => ?_
 go_simp
 refine hK.out _ _ (fun _ h => h) ?_
 clear hK K
 try simp only [Act.put, sq]
 refine won 31 rfl fun K hK => ?_
 go_simp
 refine hK.out _ _ (fun _ h => h) ?_
 clear hK K
 try simp only [Act.put, sq]
 refine wpAnyM_done (by kernel_rfl) ?_ _
 try simp only [Act.put, sq]
 go_wp2_with fail
 go_ret
 exact ⟨rfl, HFin.out _ hB9⟩
end Go.Proofs.YtmgchjddpmmglaaGreatDoor
