/-
  Layer 13 (inner), the program: outer reads, bad reads. No conditions but that unicode/utf8's two tables are as their initialisers lay them.
-/
import Derived.Test.YtmgchjddpmmglaaGreatDoorQAk
import Derived.Test.YtmgchjddpmmglaaGreatDoorQxInC
import Derived.Deep.CutBlock
namespace Go.Proofs.YtmgchjddpmmglaaGreatDoor
open Go.RowKit Go.Lib
set_option maxRecDepth 100000 in
set_option maxHeartbeats 4000000 in
theorem outer13_any {w : World} {v : Value} {h : HistM} (t o : Int) (hv : HistV w v h) (hm : Modst h) (hT : Lib.Utf8Tabs 1 2 w) :
  Calls Tryz.prog 39 #[v, .agg #[.int .i64 t, .int .i64 o]] w fun e w' => e = .returned (.bool (outerP h t o)) ∧ Below w.heap.size w w' := by
 have H0 := Lib.hid hv
 obtain ⟨v0, v1, v2, rfl, ⟨p0, c0, rfl, -⟩, ⟨p1, c1, rfl, -⟩, ⟨p2, c2, rfl, -⟩⟩ := hv
 have hal := ((Below.refl w.heap.size w).alloc (Nat.le_refl _) (.cells #[.slice p0 h.1.length c0, .slice p1 h.2.1.length c1, .slice p2 h.2.2.length c2] 25)).alloc (by simp) (.cells #[.int .i64 t, .int .i64 o] 38)
 have HTx := Lib.hid (txn13_any t (H0.out.below hal) hm (Utf8Tabs_below hT hal))
 have hpx := Blk.new (w.alloc (.cells #[.slice p0 h.1.length c0, .slice p1 h.2.1.length c1, .slice p2 h.2.2.length c2] 25)) 38 [.int .i64 t, .int .i64 o]
 simp only [World.size_alloc] at hpx
 have HPX := Lib.hid hpx
 have HAL := Lib.hid hal
 have hlen := opsI_len hm t
 clear hT hal hm H0 hpx
 go_enter Tryz.func39, Tryz.ntmps39
 go_wp2_with fail
 refine HTx.out.mono ?_
 rintro e w1 ⟨sv, rfl, ⟨ps, cs, rfl, hcap, ho⟩, hb1⟩
 have HB1 := Lib.hid (below_next HAL.out hb1)
 have hp1 := HPX.out.later hb1
 have q1 := hp1.cell 1 rfl
 have plt := hp1.lt
 have HP1 := Lib.hid hp1
 have HO := Lib.hid ho
 have hP : outerP h t o = if 0 ≤ o ∧ o < ((opsI h t).length : Int) then !((opsI h t).getD o.toNat noOp).1 && !(rawO ((opsI h t).getD o.toNat noOp).2.1 ((opsI h t).take o.toNat)).2 else false := rfl
 obtain ⟨L, hL⟩ : ∃ L, opsI h t = L := ⟨_, rfl⟩
 rw [hL] at hP HO hlen hcap ⊢
 have HP := Lib.hid hP
 clear hb1 HTx HPX HAL hp1 ho hP hL
 by_cases g1 : o < 0
 ·have HE : RowKit.Hid (outerP h t o = false) := Lib.hid (by rw [HP.out, if_neg (by omega)])
  go_wp2_with fail
  go_ret
  exact ⟨by rw [HE.out] <;> rfl, HB1.out⟩
 ·by_cases g2 : (L.length : Int) ≤ o
  ·have HE : RowKit.Hid (outerP h t o = false) := Lib.hid (by rw [HP.out, if_neg (by omega)])
   go_wp2_with fail
   go_ret
   exact ⟨by rw [HE.out] <;> rfl, HB1.out⟩
  ·obtain ⟨k, rfl⟩ : ∃ k : Nat, o = (k : Int) := ⟨o.toNat, by omega⟩
   have hk : k < L.length := by omega
   have hkc : k ≤ cs := by omega
   have hE : outerP h t k = (!(L.getD k noOp).1 && !(rawO (L.getD k noOp).2.1 (L.take k)).2) := by rw [HP.out, if_pos (by omega), Int.toNat_natCast]
   obtain ⟨g, rfl, a1, a2, -, -⟩ := HO.out k hk
   have HOt := Lib.hid (fun w' (hb : Below w1.heap.size w1 w') => hasOps_take (HO.out.below hb) k)
   obtain ⟨⟨ow, ok, ov⟩, hoo⟩ : ∃ q, L.getD k noOp = q := ⟨_, rfl⟩
   rw [hoo] at a1 a2 hE
   dsimp only at a1 a2 hE
   obtain ⟨⟨⟨gk, gn⟩, gb⟩, hg⟩ : ∃ r, rawO ok (L.take k) = r := ⟨_, rfl⟩
   rw [hg] at hE
   dsimp only at hE
   have HG := Lib.hid hg
   have HE := Lib.hid hE
   clear hg hE hoo
   cases ow with
   | true =>
    go_wp2_with fail
    go_ret
    exact ⟨by rw [HE.out] <;> rfl, HB1.out⟩
   | false =>
    have HS : RowKit.Hid (∀ w', Below w1.heap.size w1 w' → w'.cell? ⟨w.heap.size + 1, 1, none⟩ = some (.int .i64 (k : Nat)) ∧ w'.cell? ⟨g, k * 4 + 1, none⟩ = some (.int .i64 ok) ∧ Below w1.heap.size w1 w') := Lib.hid (fun w' hb => ⟨cell_later hb q1, cell_later hb a2, hb⟩)
    go_upto_region 4 with fail
    go_cut [6, 7] (fun s6 s7 wx => ∃ b, s6 = .pointer (some ⟨b, 0, none⟩) ∧ s7 = .bool gb ∧ Below w1.heap.size w1 wx)
    case first =>
     refine wp_region_keep (fun w' => w'.cell? ⟨w.heap.size + 1, 1, none⟩ = some (.int .i64 (k : Nat)) ∧ w'.cell? ⟨g, k * 4 + 1, none⟩ = some (.int .i64 ok) ∧ Below w1.heap.size w1 w') [15] (by kernel_rfl) ?_
     have hB0 : Below (w1).heap.size (w1) (w1).drew := Below.drew (Below.refl _ _)
     obtain ⟨wd, hwd⟩ : ∃ q, (w1).drew = q := ⟨_, rfl⟩
     rw [hwd] at hB0 ⊢
     have HZ0 : RowKit.Hid (wd.heap.size = (w1).heap.size) := Lib.hid (by rw [← hwd]; rfl)
     clear hwd
     refine wfr 0 (v := ?_) rfl ?_ ?_
     rotate_left
     ·intro w' hw';go_simp;try with_reducible rfl
     try simp only [Act.put, sq]
     refine wfr 1 (v := ?_) rfl ?_ ?_
     rotate_left
     ·intro w' hw';go_simp;try with_reducible rfl
     try simp only [Act.put, sq]
     refine wtk 2 17 (v := ?_) rfl ?_ (HS.out _ hB0) ?_
     rotate_left
     ·intro w' hw';(try dsimp only at hw');go_simp;try with_reducible rfl
     try simp only [Act.put, sq]
     refine wfr 3 (v := ?_) rfl ?_ ?_
     rotate_left
     ·intro w' hw';go_simp;try with_reducible rfl
     try simp only [Act.put, sq]
     refine wfr 4 (v := ?_) rfl ?_ ?_
     rotate_left
     ·intro w' hw';go_simp;try with_reducible rfl
     try simp only [Act.put, sq]
     refine wfr 5 (v := ?_) rfl ?_ ?_
     rotate_left
     ·intro w' hw';go_simp;try with_reducible rfl
     try simp only [Act.put, sq]
     refine wtk 6 17 (v := ?_) rfl ?_ (HS.out _ hB0) ?_
     rotate_left
     ·intro w' hw';(try dsimp only at hw');go_simp;try with_reducible rfl
     try simp only [Act.put, sq]
     refine wfr 7 (v := ?_) rfl ?_ ?_
     rotate_left
     ·intro w' hw';go_simp;try with_reducible rfl
     try simp only [Act.put, sq]
     refine wfr 8 (v := ?_) rfl ?_ ?_
     rotate_left
     ·intro w' hw';go_simp;try with_reducible rfl
     try simp only [Act.put, sq]
     refine wtk 9 17 (v := ?_) rfl ?_ (HS.out _ hB0) ?_
     rotate_left
     ·intro w' hw';(try dsimp only at hw');go_simp;try with_reducible rfl
     try simp only [Act.put, sq]
     refine wpAnyM_two 10 14 rfl rfl (by kernel_rfl) (fun K hK => ?_) (fun K hK => ?_)
     ·go_simp
      refine (last_at (some ⟨g, 0, none⟩) _ k (L.take k) ok _ (by rw [List.length_take]; omega) (by omega) (HOt.out _ hB0)).mono ?_
      rintro e w10 ⟨he, hb10⟩
      rw [HG.out] at he
      dsimp only at he
      subst he
      have hB10 := below_next hB0 hb10
      refine hK.out _ _ (fun _ _ => HS.out _ hB10) ?_
      clear hK K
      try simp only [Act.put, sq]
      refine wfr 11 (v := ?_) rfl ?_ ?_
      rotate_left
      ·intro w' hw';go_simp;try with_reducible rfl
      try simp only [Act.put, sq]
      refine wfr 12 (v := ?_) rfl ?_ ?_
      rotate_left
      ·intro w' hw';go_simp;try with_reducible rfl
      try simp only [Act.put, sq]
      refine wfr 13 (v := ?_) rfl ?_ ?_
      rotate_left
      ·intro w' hw';go_simp;try with_reducible rfl
      try simp only [Act.put, sq]
      refine won 14 rfl fun K hK => ?_
      go_simp
      have hB14 := hB10.alloc hB10.size (.cells #[.int .i64 0, .int .i64 0] 49)
      have hBl := Blk.new (w10) 49 [.int .i64 0, .int .i64 0]
      have hb14 := (Below.refl (w10).heap.size (w10)).alloc (Nat.le_refl _) (.cells #[.int .i64 0, .int .i64 0] 49)
      have hgB : (w10).heap.size < ((w10).alloc (.cells #[.int .i64 0, .int .i64 0] 49)).heap.size := by simp
      have hge : (w1).heap.size ≤ (w10).heap.size := hB10.size
      have hgo : ∀ k, k < (w10).heap.size → ((w10).alloc (.cells #[.int .i64 0, .int .i64 0] 49)).heap[k]? = (w10).heap[k]? := fun k hk => heap_kept _ _ hk
      refine hK.out _ _ (fun _ _ => HS.out _ hB14) ?_
      clear hK K
      try simp only [Act.put, sq]
      obtain ⟨w14, hw14⟩ : ∃ q, (w10).alloc (.cells #[.int .i64 0, .int .i64 0] 49) = q := ⟨_, rfl⟩
      rw [hw14] at hB14 hb14 hBl hgB hgo
      try simp only [hw14]
      obtain ⟨gh, hgh⟩ : ∃ q, (w10).heap.size = q := ⟨_, rfl⟩
      rw [hgh] at hBl hgB hgo hge
      try simp only [hgh]
      have HBl := Lib.hid hBl
      clear hBl hw14
      refine won 15 rfl fun K hK => ?_
      have r0 := HBl.out.cell 0 rfl
      have r1 := HBl.out.cell 1 rfl
      have f0 := HBl.out.frozen 0
      have f1 := HBl.out.frozen 1
      go_simp
      refine hK.out _ _ (fun h => absurd h (by decide)) ?_
      clear hK K
      try simp only [Act.put, sq]
      clear r0 r1 f0 f1
      refine won 16 rfl fun K hK => ?_
      go_simp
      refine hK.out _ _ (fun _ h => h) ?_
      clear hK K
      try simp only [Act.put, sq]
      refine wpAnyM_done (by kernel_rfl) ?_ _
      try simp only [Act.put, sq]
      go_wp2_with fail
      go_meet
      exact ⟨gh, rfl, rfl, below_two_sets hB14 hge _ _⟩
     ·go_simp
      have hB14 := hB0.alloc hB0.size (.cells #[.int .i64 0, .int .i64 0] 49)
      have hBl := Blk.new (wd) 49 [.int .i64 0, .int .i64 0]
      have hb14 := (Below.refl (wd).heap.size (wd)).alloc (Nat.le_refl _) (.cells #[.int .i64 0, .int .i64 0] 49)
      have hgB : (wd).heap.size < ((wd).alloc (.cells #[.int .i64 0, .int .i64 0] 49)).heap.size := by simp
      have hge : (w1).heap.size ≤ (wd).heap.size := hB0.size
      have hgo : ∀ k, k < (wd).heap.size → ((wd).alloc (.cells #[.int .i64 0, .int .i64 0] 49)).heap[k]? = (wd).heap[k]? := fun k hk => heap_kept _ _ hk
      refine hK.out _ _ (fun _ _ => HS.out _ hB14) ?_
      clear hK K
      try simp only [Act.put, sq]
      obtain ⟨w14, hw14⟩ : ∃ q, (wd).alloc (.cells #[.int .i64 0, .int .i64 0] 49) = q := ⟨_, rfl⟩
      rw [hw14] at hB14 hb14 hBl hgB hgo
      try simp only [hw14]
      obtain ⟨gh, hgh⟩ : ∃ q, (wd).heap.size = q := ⟨_, rfl⟩
      rw [hgh] at hBl hgB hgo hge
      try simp only [hgh]
      have HBl := Lib.hid hBl
      clear hBl hw14
      refine won 10 rfl fun K hK => ?_
      go_simp
      refine (last_at (some ⟨g, 0, none⟩) _ k (L.take k) ok _ (by rw [List.length_take]; omega) (by omega) (HOt.out _ hB14)).mono ?_
      rintro e w10 ⟨he, hb10⟩
      rw [HG.out] at he
      dsimp only at he
      subst he
      have hB10 := below_next hB14 hb10
      replace HBl := Lib.hid (HBl.out.later hb10)
      refine hK.out _ _ (fun _ _ => HS.out _ hB10) ?_
      clear hK K
      try simp only [Act.put, sq]
      refine won 11 rfl fun K hK => ?_
      go_simp
      refine hK.out _ _ (fun _ h => h) ?_
      clear hK K
      try simp only [Act.put, sq]
      refine wfr 12 (v := ?_) rfl ?_ ?_
      rotate_left
      ·intro w' hw';go_simp;try with_reducible rfl
      try simp only [Act.put, sq]
      refine wfr 13 (v := ?_) rfl ?_ ?_
      rotate_left
      ·intro w' hw';go_simp;try with_reducible rfl
      try simp only [Act.put, sq]
      refine won 15 rfl fun K hK => ?_
      have r0 := HBl.out.cell 0 rfl
      have r1 := HBl.out.cell 1 rfl
      have f0 := HBl.out.frozen 0
      have f1 := HBl.out.frozen 1
      go_simp
      refine hK.out _ _ (fun h => absurd h (by decide)) ?_
      clear hK K
      try simp only [Act.put, sq]
      clear r0 r1 f0 f1
      refine won 16 rfl fun K hK => ?_
      go_simp
      refine hK.out _ _ (fun _ h => h) ?_
      clear hK K
      try simp only [Act.put, sq]
      refine wpAnyM_done (by kernel_rfl) ?_ _
      try simp only [Act.put, sq]
      go_wp2_with fail
      go_meet
      exact ⟨gh, rfl, rfl, below_two_sets hB10 hge _ _⟩
    case rest =>
     obtain ⟨b, rfl, rfl, hbx⟩ := hcut
     have HBX := Lib.hid (below_next HB1.out hbx)
     clear hbx
     go_wp2_with fail
     go_ret
     exact ⟨by rw [HE.out] <;> rfl, HBX.out⟩
set_option maxRecDepth 100000 in
set_option maxHeartbeats 4000000 in
theorem bad13_any {w : World} {v : Value} {h : HistM} (i : Int) (hv : HistV w v h) (hm : Modst h) (hT : Lib.Utf8Tabs 1 2 w) :
  Calls Tryz.prog 32 #[v, .int .i64 i] w fun e w' => ∃ v', e = .returned v' ∧ IntsS w' v' (badL h i) ∧ Below w.heap.size w w' := by
 have H0 := Lib.hid hv
 obtain ⟨v0, v1, v2, rfl, ⟨p0, c0, rfl, -⟩, ⟨p1, c1, rfl, -⟩, ⟨p2, c2, rfl, -⟩⟩ := hv
 have hal := (Below.refl w.heap.size w).alloc (Nat.le_refl _) (.cells #[.slice p0 h.1.length c0, .slice p1 h.2.1.length c1, .slice p2 h.2.2.length c2] 25)
 have HTx := Lib.hid (txn13_any i (H0.out.below hal) hm (Utf8Tabs_below hT hal))
 have HAL := Lib.hid hal
 have hlen := opsI_len hm i
 have hBL : badL h i = badK (opsI h i) (opsI h i).length := rfl
 obtain ⟨i0, hi, hz0, hz1, hz2⟩ := info_parts info_i64
 clear hT hal hm H0
 go_enter Tryz.func32, Tryz.ntmps32
 go_wp2_with fail
 refine HTx.out.mono ?_
 rintro e w1 ⟨sv, rfl, ⟨ps, cs, rfl, hcap, ho⟩, hb1⟩
 have HB1 := Lib.hid (below_next HAL.out hb1)
 have HO := Lib.hid ho
 obtain ⟨L, hL⟩ : ∃ L, opsI h i = L := ⟨_, rfl⟩
 rw [hL] at hBL HO hlen hcap ⊢
 have HBL := Lib.hid hBL
 clear hb1 HTx HAL ho hL hBL
 go_wp2_with fail
 go_loopw [5, 16] (fun l i wr => ∃ k : Nat, k ≤ L.length ∧ i = .int .i64 k ∧ wr.ownsRow w1.heap.size 3 1 l (badK L k).length (vints (badK L k)) ∧ Below w1.heap.size w1 wr) (fun _ i _ => L.length - (RowKit.intOf i).toNat)
 case atStart => exact ⟨0, Nat.zero_le _, rfl, World.ownsRow_nil _ _ _ _, Below.refl _ _⟩
 case round =>
  obtain ⟨k, hk, rfl, hown, hbw⟩ := hrel
  by_cases hk1 : k < L.length
  ·obtain ⟨g, rfl, a1, a2, a3, a4⟩ := HO.out k hk1
   have a1 := cell_later hbw a1
   have a2 := cell_later hbw a2
   have a3 := cell_later hbw a3
   have a4 := cell_later hbw a4
   have hkc : k ≤ cs := by omega
   have hnx := bad_next L k
   have hil := bad_len L k
   have hbd : isBad L k = (!(L.getD k noOp).1 && ((L.getD k noOp).2.2.1 != 2 && ((rawO (L.getD k noOp).2.1 (L.take k)).2 && (rawO (L.getD k noOp).2.1 (L.take k)).1 != (L.getD k noOp).2.2))) := rfl
   obtain ⟨I, hI⟩ : ∃ I, badK L k = I := ⟨_, rfl⟩
   rw [hI] at hown hnx hil
   obtain ⟨⟨ow, ok, od, on⟩, hoo⟩ : ∃ q, L.getD k noOp = q := ⟨_, rfl⟩
   rw [hoo] at a1 a2 a3 a4 hbd
   dsimp only at a1 a2 a3 a4 hbd
   obtain ⟨⟨⟨gk, gn⟩, gb⟩, hg⟩ : ∃ r, rawO ok (L.take k) = r := ⟨_, rfl⟩
   rw [hg] at hbd
   dsimp only at hbd
   have HG := Lib.hid hg
   have HN : RowKit.Hid (isBad L k = true → badK L (k + 1) = I ++ [(k : Int)]) := Lib.hid (fun e => by rw [hnx, if_pos e])
   have HF : RowKit.Hid (isBad L k = false → badK L (k + 1) = I) := Lib.hid (fun e => by rw [hnx, if_neg (by rw [e]; exact Bool.false_ne_true)])
   have HBd := Lib.hid hbd
   have HOt := Lib.hid (fun w' (hb : Below w1.heap.size w1 w') => hasOps_take (HO.out.below hb) k)
   clear hg hoo hI hnx hbd
   have hbo := hbw.alloc hbw.size (.cells #[.bool ow, .int .i64 ok, .int .i64 od, .int .i64 on] 51)
   have hob := Blk.new wr 51 [.bool ow, .int .i64 ok, .int .i64 od, .int .i64 on]
   have howo := hown.alloc (.cells #[.bool ow, .int .i64 ok, .int .i64 od, .int .i64 on] 51)
   have HBO := Lib.hid hbo
   have HOB := Lib.hid hob
   have HOW := Lib.hid howo
   clear hbo hob howo hown hbw
   cases ow with
   | true =>
    have HN2 := Lib.hid (HF.out (by rw [HBd.out]; rfl))
    clear HN HF HBd
    go_wp2_with fail
    go_roundw
    case rel => exact ⟨k + 1, by omega, by go_num, by rw [HN2.out]; exact HOW.out, HBO.out⟩
    case measure => simp [RowKit.intOf]; omega
   | false =>
    by_cases hod : od = 2
    ·subst hod
     have HN2 := Lib.hid (HF.out (by rw [HBd.out]; rfl))
     clear HN HF HBd
     go_wp2_with fail
     go_roundw
     case rel => exact ⟨k + 1, by omega, by go_num, by rw [HN2.out]; exact HOW.out, HBO.out⟩
     case measure => simp [RowKit.intOf]; omega
    ·have hod2 : (od == 2) = false := beq_eq_false_iff_ne.2 hod
     have hod3 : (od != 2) = true := by simp [bne, hod2]
     have hbd2 : isBad L k = (gb && ((gk, gn) != (od, on))) := by rw [HBd.out, hod3]; rfl
     have HBd2 := Lib.hid hbd2
     clear HBd hbd2 hod hod3
     go_upto_region 7 with fail
     obtain ⟨wo, hwo⟩ : ∃ q, wr.alloc (.cells #[.bool false, .int .i64 ok, .int .i64 od, .int .i64 on] 51) = q := ⟨_, rfl⟩
     rw [hwo] at HBO HOB HOW ⊢
     have x1 := HOB.out.cell 1 rfl
     have HOt2 := Lib.hid (fun w' (hb : Below wo.heap.size wo w') => HOt.out _ (HBO.out.trans (hb.mono HBO.out.size)))
     have HS : RowKit.Hid (∀ w', Below wo.heap.size wo w' → w'.cell? ⟨wr.heap.size, 1, none⟩ = some (.int .i64 ok) ∧ Below wo.heap.size wo w') := Lib.hid (fun w' hb => ⟨cell_later hb x1, hb⟩)
     clear hwo
     go_cut [9, 10] (fun s9 s10 wx => ∃ b, s9 = .pointer (some ⟨b, 0, none⟩) ∧ s10 = .bool gb ∧ Blk wx b 49 [.int .i64 gk, .int .i64 gn] ∧ Below wo.heap.size wo wx)
     case first =>
      refine wp_region_keep (fun w' => w'.cell? ⟨wr.heap.size, 1, none⟩ = some (.int .i64 ok) ∧ Below wo.heap.size wo w') [10] (by kernel_rfl) ?_
      have hB0 : Below (wo).heap.size (wo) (wo).drew := Below.drew (Below.refl _ _)
      obtain ⟨wd, hwd⟩ : ∃ q, (wo).drew = q := ⟨_, rfl⟩
      rw [hwd] at hB0 ⊢
      have HZ0 : RowKit.Hid (wd.heap.size = (wo).heap.size) := Lib.hid (by rw [← hwd]; rfl)
      clear hwd
      refine wfr 0 (v := ?_) rfl ?_ ?_
      rotate_left
      ·intro w' hw';go_simp;try with_reducible rfl
      try simp only [Act.put, sq]
      refine wfr 1 (v := ?_) rfl ?_ ?_
      rotate_left
      ·intro w' hw';go_simp;try with_reducible rfl
      try simp only [Act.put, sq]
      refine wfr 2 (v := ?_) rfl ?_ ?_
      rotate_left
      ·intro w' hw';go_simp;try with_reducible rfl
      try simp only [Act.put, sq]
      refine wfr 3 (v := ?_) rfl ?_ ?_
      rotate_left
      ·intro w' hw';go_simp;try with_reducible rfl
      try simp only [Act.put, sq]
      refine wtk 4 12 (v := ?_) rfl ?_ (HS.out _ hB0) ?_
      rotate_left
      ·intro w' hw';(try dsimp only at hw');go_simp;try with_reducible rfl
      try simp only [Act.put, sq]
      refine wpAnyM_two 5 9 rfl rfl (by kernel_rfl) (fun K hK => ?_) (fun K hK => ?_)
      ·go_simp
       refine (last_at (some ⟨g, 0, none⟩) _ k (L.take k) ok _ (by rw [List.length_take]; omega) (by omega) (HOt2.out _ hB0)).mono ?_
       rintro e w5 ⟨he, hb5⟩
       rw [HG.out] at he
       dsimp only at he
       subst he
       have hB5 := below_next hB0 hb5
       refine hK.out _ _ (fun _ _ => HS.out _ hB5) ?_
       clear hK K
       try simp only [Act.put, sq]
       refine wfr 6 (v := ?_) rfl ?_ ?_
       rotate_left
       ·intro w' hw';go_simp;try with_reducible rfl
       try simp only [Act.put, sq]
       refine wfr 7 (v := ?_) rfl ?_ ?_
       rotate_left
       ·intro w' hw';go_simp;try with_reducible rfl
       try simp only [Act.put, sq]
       refine wfr 8 (v := ?_) rfl ?_ ?_
       rotate_left
       ·intro w' hw';go_simp;try with_reducible rfl
       try simp only [Act.put, sq]
       refine won 9 rfl fun K hK => ?_
       go_simp
       have hB9 := hB5.alloc hB5.size (.cells #[.int .i64 0, .int .i64 0] 49)
       have hBl := Blk.new (w5) 49 [.int .i64 0, .int .i64 0]
       have hb9 := (Below.refl (w5).heap.size (w5)).alloc (Nat.le_refl _) (.cells #[.int .i64 0, .int .i64 0] 49)
       have hgB : (w5).heap.size < ((w5).alloc (.cells #[.int .i64 0, .int .i64 0] 49)).heap.size := by simp
       have hge : (wo).heap.size ≤ (w5).heap.size := hB5.size
       have hgo : ∀ k, k < (w5).heap.size → ((w5).alloc (.cells #[.int .i64 0, .int .i64 0] 49)).heap[k]? = (w5).heap[k]? := fun k hk => heap_kept _ _ hk
       refine hK.out _ _ (fun _ _ => HS.out _ hB9) ?_
       clear hK K
       try simp only [Act.put, sq]
       obtain ⟨w9, hw9⟩ : ∃ q, (w5).alloc (.cells #[.int .i64 0, .int .i64 0] 49) = q := ⟨_, rfl⟩
       rw [hw9] at hB9 hb9 hBl hgB hgo
       try simp only [hw9]
       obtain ⟨gh, hgh⟩ : ∃ q, (w5).heap.size = q := ⟨_, rfl⟩
       rw [hgh] at hBl hgB hgo hge
       try simp only [hgh]
       have HBl := Lib.hid hBl
       clear hBl hw9
       refine won 10 rfl fun K hK => ?_
       have r0 := HBl.out.cell 0 rfl
       have r1 := HBl.out.cell 1 rfl
       have f0 := HBl.out.frozen 0
       have f1 := HBl.out.frozen 1
       go_simp
       refine hK.out _ _ (fun h => absurd h (by decide)) ?_
       clear hK K
       try simp only [Act.put, sq]
       clear r0 r1 f0 f1
       refine won 11 rfl fun K hK => ?_
       go_simp
       refine hK.out _ _ (fun _ h => h) ?_
       clear hK K
       try simp only [Act.put, sq]
       refine wpAnyM_done (by kernel_rfl) ?_ _
       try simp only [Act.put, sq]
       go_wp2_with fail
       go_meet
       exact ⟨gh, rfl, rfl, store2 HBl.out _ _, below_two_sets hB9 hge _ _⟩
      ·go_simp
       have hB9 := hB0.alloc hB0.size (.cells #[.int .i64 0, .int .i64 0] 49)
       have hBl := Blk.new (wd) 49 [.int .i64 0, .int .i64 0]
       have hb9 := (Below.refl (wd).heap.size (wd)).alloc (Nat.le_refl _) (.cells #[.int .i64 0, .int .i64 0] 49)
       have hgB : (wd).heap.size < ((wd).alloc (.cells #[.int .i64 0, .int .i64 0] 49)).heap.size := by simp
       have hge : (wo).heap.size ≤ (wd).heap.size := hB0.size
       have hgo : ∀ k, k < (wd).heap.size → ((wd).alloc (.cells #[.int .i64 0, .int .i64 0] 49)).heap[k]? = (wd).heap[k]? := fun k hk => heap_kept _ _ hk
       refine hK.out _ _ (fun _ _ => HS.out _ hB9) ?_
       clear hK K
       try simp only [Act.put, sq]
       obtain ⟨w9, hw9⟩ : ∃ q, (wd).alloc (.cells #[.int .i64 0, .int .i64 0] 49) = q := ⟨_, rfl⟩
       rw [hw9] at hB9 hb9 hBl hgB hgo
       try simp only [hw9]
       obtain ⟨gh, hgh⟩ : ∃ q, (wd).heap.size = q := ⟨_, rfl⟩
       rw [hgh] at hBl hgB hgo hge
       try simp only [hgh]
       have HBl := Lib.hid hBl
       clear hBl hw9
       refine won 5 rfl fun K hK => ?_
       go_simp
       refine (last_at (some ⟨g, 0, none⟩) _ k (L.take k) ok _ (by rw [List.length_take]; omega) (by omega) (HOt2.out _ hB9)).mono ?_
       rintro e w5 ⟨he, hb5⟩
       rw [HG.out] at he
       dsimp only at he
       subst he
       have hB5 := below_next hB9 hb5
       replace HBl := Lib.hid (HBl.out.later hb5)
       refine hK.out _ _ (fun _ _ => HS.out _ hB5) ?_
       clear hK K
       try simp only [Act.put, sq]
       refine won 6 rfl fun K hK => ?_
       go_simp
       refine hK.out _ _ (fun _ h => h) ?_
       clear hK K
       try simp only [Act.put, sq]
       refine wfr 7 (v := ?_) rfl ?_ ?_
       rotate_left
       ·intro w' hw';go_simp;try with_reducible rfl
       try simp only [Act.put, sq]
       refine wfr 8 (v := ?_) rfl ?_ ?_
       rotate_left
       ·intro w' hw';go_simp;try with_reducible rfl
       try simp only [Act.put, sq]
       refine won 10 rfl fun K hK => ?_
       have r0 := HBl.out.cell 0 rfl
       have r1 := HBl.out.cell 1 rfl
       have f0 := HBl.out.frozen 0
       have f1 := HBl.out.frozen 1
       go_simp
       refine hK.out _ _ (fun h => absurd h (by decide)) ?_
       clear hK K
       try simp only [Act.put, sq]
       clear r0 r1 f0 f1
       refine won 11 rfl fun K hK => ?_
       go_simp
       refine hK.out _ _ (fun _ h => h) ?_
       clear hK K
       try simp only [Act.put, sq]
       refine wpAnyM_done (by kernel_rfl) ?_ _
       try simp only [Act.put, sq]
       go_wp2_with fail
       go_meet
       exact ⟨gh, rfl, rfl, store2 HBl.out _ _, below_two_sets hB5 hge _ _⟩
     case rest =>
      obtain ⟨b, rfl, rfl, hbv, hbx⟩ := hcut
      have x2 := (HOB.out.later hbx).cell 2 rfl
      have x3 := (HOB.out.later hbx).cell 3 rfl
      have y0 := hbv.cell 0 rfl
      have y1 := hbv.cell 1 rfl
      have HOX := Lib.hid (owns_later HOW.out hbx)
      have HBX := Lib.hid (HBO.out.trans (hbx.mono HBO.out.size))
      clear x1 hbv hbx
      cases gb with
      | false =>
       have HN2 := Lib.hid (HF.out (by rw [HBd2.out]; rfl))
       clear HN HF HBd2
       go_wp2_with fail
       go_roundw
       case rel => exact ⟨k + 1, by omega, by go_num, by rw [HN2.out]; exact HOX.out, HBX.out⟩
       case measure => simp [RowKit.intOf]; omega
      | true =>
       by_cases hv1 : gk = od
       ·by_cases hv2 : gn = on
        ·subst hv1 hv2
         have HN2 := Lib.hid (HF.out (by rw [HBd2.out]; simp))
         clear HN HF HBd2
         go_wp2_with fail
         go_roundw
         case rel => exact ⟨k + 1, by omega, by go_num, by rw [HN2.out]; exact HOX.out, HBX.out⟩
         case measure => simp [RowKit.intOf]; omega
        ·have hne : ((gk, gn) != (od, on)) = true := by rw [bne_iff_ne]; intro e; injection e with e1 e2; exact hv2 e2
         have HN2 := Lib.hid (HN.out (by rw [HBd2.out, hne]; rfl))
         clear HN HF HBd2 hne
         go_wp2_with (at_builtin; refine wpList_append_own _ rfl _ _ 56 rfl w1.heap.size 3 i0 (.int .i64 0) 1 8 Tryz.underlying56 hi hz0 hz1 hz2 rfl (by decide) _ _ _ rfl (HOX.out.alloc _) ⟨wc.heap.size, 0, none⟩ 1 1 [.int .i64 (k : Nat)] rfl rfl (news_int _ _ _) (ones_int _) (by unfold maxLen; omega) (by omega) (by have := HBX.out.size; simp; omega) ?_)
         intro v4 w4 hown4 hgrow hnil
         have hb4 : Below w1.heap.size w1 w4 := (HBX.out.alloc HBX.out.size _).grown hgrow (by have := HBX.out.size; simp; omega) (fun k hk => (HOX.out.lt k hk).1)
         have HO4 : RowKit.Hid (w4.ownsRow w1.heap.size 3 1 v4 (badK L (k + 1)).length (vints (badK L (k + 1)))) := Lib.hid (by rw [HN2.out, ← vints_snoc, List.length_append]; exact hown4)
         clear hown4 hgrow hnil
         go_wp2_with fail
         go_roundw
         case rel => exact ⟨k + 1, by omega, by go_num, HO4.out, hb4⟩
         case measure => simp [RowKit.intOf]; omega
       ·have hne : ((gk, gn) != (od, on)) = true := by rw [bne_iff_ne]; intro e; injection e with e1 e2; exact hv1 e1
        have HN2 := Lib.hid (HN.out (by rw [HBd2.out, hne]; rfl))
        clear HN HF HBd2 hne
        go_wp2_with (at_builtin; refine wpList_append_own _ rfl _ _ 56 rfl w1.heap.size 3 i0 (.int .i64 0) 1 8 Tryz.underlying56 hi hz0 hz1 hz2 rfl (by decide) _ _ _ rfl (HOX.out.alloc _) ⟨wc.heap.size, 0, none⟩ 1 1 [.int .i64 (k : Nat)] rfl rfl (news_int _ _ _) (ones_int _) (by unfold maxLen; omega) (by omega) (by have := HBX.out.size; simp; omega) ?_)
        intro v4 w4 hown4 hgrow hnil
        have hb4 : Below w1.heap.size w1 w4 := (HBX.out.alloc HBX.out.size _).grown hgrow (by have := HBX.out.size; simp; omega) (fun k hk => (HOX.out.lt k hk).1)
        have HO4 : RowKit.Hid (w4.ownsRow w1.heap.size 3 1 v4 (badK L (k + 1)).length (vints (badK L (k + 1)))) := Lib.hid (by rw [HN2.out, ← vints_snoc, List.length_append]; exact hown4)
        clear hown4 hgrow hnil
        go_wp2_with fail
        go_roundw
        case rel => exact ⟨k + 1, by omega, by go_num, HO4.out, hb4⟩
        case measure => simp [RowKit.intOf]; omega
  ·have hke : k = L.length := by omega
   subst hke
   have HOn := Lib.hid (own_intsI hown)
   clear hown
   go_wp2_with fail
   go_ret
   exact ⟨_, rfl, by rw [HBL.out]; exact HOn.out, HB1.out.trans (hbw.mono HB1.out.size)⟩
end Go.Proofs.YtmgchjddpmmglaaGreatDoor
