/-
  Layer 13 (inner), the program: a transaction's operations, own values, what is left. No conditions but that unicode/utf8's two tables are as their initialisers lay them.
-/
import Derived.Test.YtmgchjddpmmglaaGreatDoorQxHistVa
import Derived.Test.YtmgchjddpmmglaaGreatDoorQxInL
namespace Go.Proofs.YtmgchjddpmmglaaGreatDoor
open Go.RowKit Go.Lib
theorem ops_none (w : World) : OpsS w (.slice none 0 0) [] := ⟨none, 0, rfl, Nat.le_refl _, fun j hj => absurd hj (Nat.not_lt_zero j)⟩
theorem hasOps_take {w : World} {p : Option Addr} {L : List OpM} (h : HasOps w p L) (k : Nat) : HasOps w p (L.take k) := fun j hj => by
 have hj' : j < L.length := by rw [List.length_take] at hj; omega
 have hk : j < k := by rw [List.length_take] at hj; omega
 have e : (L.take k).getD j noOp = L.getD j noOp := by simp [hk]
 rw [e]
 exact h j hj'
theorem last_at (p : Option Addr) (c m : Nat) (L : List OpM) (key : Int) (w : World) (hm : L.length = m) (hL : m ≤ 1000) (ho : HasOps w p L) :
  Calls Tryz.prog 82 #[.slice p m c, .int .i64 key] w fun e w' => e = .returned (.tuple #[.agg #[.int .i64 (rawO key L).1.1, .int .i64 (rawO key L).1.2], .bool (rawO key L).2]) ∧ Below w.heap.size w w' := by
 subst hm
 exact last_any p c L key w hL ho
set_option maxRecDepth 100000 in
set_option maxHeartbeats 2000000 in
theorem txn13_any {w : World} {v : Value} {h : HistM} (i : Int) (hv : HistV w v h) (hm : Modst h) (hT : Lib.Utf8Tabs 1 2 w) :
  Calls Tryz.prog 83 #[v, .int .i64 i] w fun e w' => ∃ sv, e = .returned sv ∧ OpsS w' sv (opsI h i) ∧ Below w.heap.size w w' := by
 have H0 := Lib.hid hv
 obtain ⟨v0, v1, v2, rfl, ⟨p0, c0, rfl, -⟩, ⟨p1, c1, rfl, -⟩, ⟨p2, c2, rfl, k2⟩⟩ := hv
 have hal := (Below.refl w.heap.size w).alloc (Nat.le_refl _) (.cells #[.slice p0 h.1.length c0, .slice p1 h.2.1.length c1, .slice p2 h.2.2.length c2] 25)
 have HMay := Lib.hid (hmay_v (H0.out.below hal) hm (Utf8Tabs_below hT hal))
 have HBx := Lib.hid (Blk.new w 25 [.slice p0 h.1.length c0, .slice p1 h.2.1.length c1, .slice p2 h.2.2.length c2])
 have HX := Lib.hid k2
 have HAL := Lib.hid hal
 clear hT hal hm H0 k2
 go_enter Tryz.func83, Tryz.ntmps83
 go_wp2_with fail
 refine HMay.out.mono ?_
 rintro e w1 ⟨rfl, hb1⟩
 clear HMay
 have hbw1 := below_next HAL.out hb1
 have hx1 := HBx.out.later hb1
 have o2 := hx1.cell 2 rfl
 have olt := hx1.lt
 clear hb1 HAL HBx hx1
 cases hmm : mayH h with
 | false =>
  have HE := Lib.hid (opsI_no hmm i)
  rw [err_no hmm]
  clear hmm
  go_wp2_with fail
  go_ret
  exact ⟨_, rfl, by rw [HE.out]; exact ops_none _, hbw1⟩
 | true =>
  rw [err_yes hmm]
  by_cases g1 : i < 0
  ·have HE := Lib.hid (opsI_low (h := h) i g1)
   clear hmm
   go_wp2_with fail
   go_ret
   exact ⟨_, rfl, by rw [HE.out]; exact ops_none _, hbw1⟩
  ·by_cases g2 : (h.2.2.length : Int) ≤ i
   ·have HE := Lib.hid (opsI_high (h := h) i g2)
    clear hmm
    go_wp2_with fail
    go_ret
    exact ⟨_, rfl, by rw [HE.out]; exact ops_none _, hbw1⟩
   ·obtain ⟨k, rfl⟩ : ∃ k : Nat, i = (k : Int) := ⟨i.toNat, by omega⟩
    have hk : k < h.2.2.length := by omega
    have HE := Lib.hid (opsI_yes hmm k hk)
    obtain ⟨g, sv, rfl, -, -, a3, a4⟩ := HX.out k hk
    have a3' := cell_later hbw1 a3
    have A4 := Lib.hid (a4.below hbw1)
    clear hmm a3 a4 g1 g2
    go_wp2_with fail
    go_ret
    exact ⟨_, rfl, by rw [HE.out]; exact A4.out, hbw1⟩
set_option maxRecDepth 100000 in
set_option maxHeartbeats 4000000 in
theorem own13_any {w : World} {v : Value} {h : HistM} (t o : Int) (hv : HistV w v h) (hm : Modst h) (hT : Lib.Utf8Tabs 1 2 w) :
  Calls Tryz.prog 37 #[v, .agg #[.int .i64 t, .int .i64 o]] w fun e w' => e = .returned (.tuple #[.agg #[.int .i64 (ownP h t o).1.1, .int .i64 (ownP h t o).1.2], .bool (ownP h t o).2]) ∧ Below w.heap.size w w' := by
 have H0 := Lib.hid hv
 obtain ⟨v0, v1, v2, rfl, ⟨p0, c0, rfl, -⟩, ⟨p1, c1, rfl, -⟩, ⟨p2, c2, rfl, -⟩⟩ := hv
 have hal := (((Below.refl w.heap.size w).alloc (Nat.le_refl _) (.cells #[.slice p0 h.1.length c0, .slice p1 h.2.1.length c1, .slice p2 h.2.2.length c2] 25)).alloc (by simp) (.cells #[.int .i64 t, .int .i64 o] 38)).alloc (by simp; omega) (.cells #[.int .i64 0, .int .i64 0] 49)
 have HTx := Lib.hid (txn13_any t (H0.out.below hal) hm (Utf8Tabs_below hT hal))
 have hpx := (Blk.new (w.alloc (.cells #[.slice p0 h.1.length c0, .slice p1 h.2.1.length c1, .slice p2 h.2.2.length c2] 25)) 38 [.int .i64 t, .int .i64 o]).alloc (.cells #[.int .i64 0, .int .i64 0] 49)
 have hvx := Blk.new ((w.alloc (.cells #[.slice p0 h.1.length c0, .slice p1 h.2.1.length c1, .slice p2 h.2.2.length c2] 25)).alloc (.cells #[.int .i64 t, .int .i64 o] 38)) 49 [.int .i64 0, .int .i64 0]
 simp only [World.size_alloc] at hpx hvx
 have HPX := Lib.hid hpx
 have HVX := Lib.hid hvx
 have HAL := Lib.hid hal
 have hlen := opsI_len hm t
 clear hT hal hm H0 hpx hvx
 go_enter Tryz.func37, Tryz.ntmps37
 go_wp2_with fail
 refine HTx.out.mono ?_
 rintro e w1 ⟨sv, rfl, ⟨ps, cs, rfl, hcap, ho⟩, hb1⟩
 have HB1 := Lib.hid (below_next HAL.out hb1)
 have hp1 := HPX.out.later hb1
 have HV1 := Lib.hid (HVX.out.later hb1)
 have q1 := hp1.cell 1 rfl
 have plt := hp1.lt
 have HP1 := Lib.hid hp1
 have HO := Lib.hid ho
 have hP : ownP h t o = if 0 ≤ o ∧ o < ((opsI h t).length : Int) then rawO ((opsI h t).getD o.toNat noOp).2.1 ((opsI h t).take o.toNat) else noGot := rfl
 obtain ⟨L, hL⟩ : ∃ L, opsI h t = L := ⟨_, rfl⟩
 rw [hL] at hP HO hlen hcap ⊢
 have HP := Lib.hid hP
 clear hb1 HTx HPX HVX HAL hp1 ho hP hL
 have r0 := HV1.out.cell 0 rfl
 have r1 := HV1.out.cell 1 rfl
 have f0 := HV1.out.frozen 0
 have f1 := HV1.out.frozen 1
 by_cases g1 : o < 0
 ·have HE : RowKit.Hid (ownP h t o = noGot) := Lib.hid (by rw [HP.out, if_neg (by omega)])
  go_wp2_with fail
  refine bodyPost_ret (results_ct Tryz.results37 _ _ _ _ _ rfl (load_val (store2 HV1.out _ _))) rfl ?_
  exact ⟨by rw [HE.out] <;> rfl, below_two_sets HB1.out (by omega) _ _⟩
 ·by_cases g2 : (L.length : Int) ≤ o
  ·have HE : RowKit.Hid (ownP h t o = noGot) := Lib.hid (by rw [HP.out, if_neg (by omega)])
   go_wp2_with fail
   refine bodyPost_ret (results_ct Tryz.results37 _ _ _ _ _ rfl (load_val (store2 HV1.out _ _))) rfl ?_
   exact ⟨by rw [HE.out] <;> rfl, below_two_sets HB1.out (by omega) _ _⟩
  ·obtain ⟨k, rfl⟩ : ∃ k : Nat, o = (k : Int) := ⟨o.toNat, by omega⟩
   have hk : k < L.length := by omega
   have hkc : k ≤ cs := by omega
   have hE : ownP h t k = rawO (L.getD k noOp).2.1 (L.take k) := by rw [HP.out, if_pos (by omega), Int.toNat_natCast]
   obtain ⟨g, rfl, -, a2, -, -⟩ := HO.out k hk
   have HOt := Lib.hid (fun w' (hb : Below w1.heap.size w1 w') => hasOps_take (HO.out.below hb) k)
   obtain ⟨ok, hok⟩ : ∃ q, (L.getD k noOp).2.1 = q := ⟨_, rfl⟩
   rw [hok] at a2 hE
   obtain ⟨⟨⟨gk, gn⟩, gb⟩, hg⟩ : ∃ r, rawO ok (L.take k) = r := ⟨_, rfl⟩
   rw [hg] at hE
   have HG := Lib.hid hg
   have HE := Lib.hid hE
   clear hg
   have HS : RowKit.Hid (∀ w', Below w1.heap.size w1 w' → w'.cell? ⟨w.heap.size + 1, 1, none⟩ = some (.int .i64 (k : Nat)) ∧ w'.cell? ⟨g, k * 4 + 1, none⟩ = some (.int .i64 ok) ∧ Below w1.heap.size w1 w') := Lib.hid (fun w' hb => ⟨cell_later hb q1, cell_later hb a2, hb⟩)
   clear hE hok a2 r0 r1 f0 f1
   go_wp2_with fail
   refine wp_region_keep (fun w' => w'.cell? ⟨w.heap.size + 1, 1, none⟩ = some (.int .i64 (k : Nat)) ∧ w'.cell? ⟨g, k * 4 + 1, none⟩ = some (.int .i64 ok) ∧ Below w1.heap.size w1 w') [13] (by kernel_rfl) ?_
   have hB0 : Below (w1).heap.size (w1) (w1).drew := Below.drew (Below.refl _ _)
   have hS0 := HS.out _ hB0
   refine wfr 0 (v := ?_) rfl ?_ ?_
   rotate_left
   ·intro w' hw';go_simp;try with_reducible rfl
   try simp only [Act.put, sq]
   refine wfr 1 (v := ?_) rfl ?_ ?_
   rotate_left
   ·intro w' hw';go_simp;try with_reducible rfl
   try simp only [Act.put, sq]
   refine wtk 2 15 (v := ?_) rfl ?_ hS0 ?_
   rotate_left
   ·intro w' hw';(try dsimp only at hw');go_simp;try with_reducible rfl
   try simp only [Act.put, sq]
   refine wfr 3 (v := ?_) rfl ?_ ?_
   rotate_left
   ·intro w' hw';go_simp;try with_reducible rfl
   try simp only [Act.put, sq]
   refine wfr 4 (v := ?_) rfl ?_ ?_
   rotate_left
   ·intro w' hw';go_simp;try with_reducible rfl
   try simp only [Act.put, sq]
   refine won 5 rfl fun K hK => ?_
   go_simp
   refine hK.out _ _ (fun _ h => h) ?_
   clear hK K
   try simp only [Act.put, sq]
   refine won 6 rfl fun K hK => ?_
   go_simp
   refine hK.out _ _ (fun _ h => h) ?_
   clear hK K
   try simp only [Act.put, sq]
   refine won 7 rfl fun K hK => ?_
   go_simp
   refine hK.out _ _ (fun _ h => h) ?_
   clear hK K
   try simp only [Act.put, sq]
   refine won 8 rfl fun K hK => ?_
   go_simp
   refine hK.out _ _ (fun _ h => h) ?_
   clear hK K
   try simp only [Act.put, sq]
   refine won 9 rfl fun K hK => ?_
   go_simp
   refine hK.out _ _ (fun _ h => h) ?_
   clear hK K
   try simp only [Act.put, sq]
   refine won 10 rfl fun K hK => ?_
   go_simp
   refine (last_at (some ⟨g, 0, none⟩) _ k (L.take k) ok _ (by rw [List.length_take]; omega) (by omega) (HOt.out _ hB0)).mono ?_
   rintro e w1 ⟨he, hb1⟩
   have hB1 := below_next hB0 hb1
   have hS1 := HS.out _ hB1
   rw [HG.out] at he
   dsimp only at he
   subst he
   refine hK.out _ _ (fun _ _ => hS1) ?_
   clear hK K hS0
   try simp only [Act.put, sq]
   refine wfr 11 (v := ?_) rfl ?_ ?_
   rotate_left
   ·intro w' hw';go_simp;try with_reducible rfl
   try simp only [Act.put, sq]
   refine won 12 rfl fun K hK => ?_
   go_simp
   refine hK.out _ _ (fun _ h => h) ?_
   clear hK K
   try simp only [Act.put, sq]
   have hvk := HV1.out.later hB1
   have r0 := hvk.cell 0 rfl
   have r1 := hvk.cell 1 rfl
   have f0 := hvk.frozen 0
   have f1 := hvk.frozen 1
   have HVk := Lib.hid hvk
   clear hvk
   refine won 13 rfl fun K hK => ?_
   go_simp
   refine hK.out _ _ (fun h => absurd h (by decide)) ?_
   clear hK K
   try simp only [Act.put, sq]
   refine won 14 rfl fun K hK => ?_
   go_simp
   refine hK.out _ _ (fun _ h => h) ?_
   clear hK K
   try simp only [Act.put, sq]
   refine wpAnyM_done (by kernel_rfl) ?_ _
   try simp only [Act.put, sq]
   go_wp2_with fail
   refine bodyPost_ret (results_ct Tryz.results37 _ _ _ _ _ rfl (load_val (store2 HVk.out _ _))) rfl ?_
   exact ⟨by rw [HE.out] <;> rfl, below_two_sets (below_next HB1.out hB1) (by omega) _ _⟩
set_option maxRecDepth 100000 in
set_option maxHeartbeats 4000000 in
theorem leaves13_any {w : World} {v : Value} {h : HistM} (i key : Int) (hv : HistV w v h) (hm : Modst h) (hT : Lib.Utf8Tabs 1 2 w) :
  Calls Tryz.prog 29 #[v, .int .i64 i, .int .i64 key] w fun e w' => e = .returned (.tuple #[.agg #[.int .i64 (rawO key (opsI h i)).1.1, .int .i64 (rawO key (opsI h i)).1.2], .bool (rawO key (opsI h i)).2]) ∧ Below w.heap.size w w' := by
 have H0 := Lib.hid hv
 obtain ⟨v0, v1, v2, rfl, ⟨p0, c0, rfl, -⟩, ⟨p1, c1, rfl, -⟩, ⟨p2, c2, rfl, -⟩⟩ := hv
 have hal := ((Below.refl w.heap.size w).alloc (Nat.le_refl _) (.cells #[.slice p0 h.1.length c0, .slice p1 h.2.1.length c1, .slice p2 h.2.2.length c2] 25)).alloc (by simp) (.cells #[.int .i64 0, .int .i64 0] 49)
 have HTx := Lib.hid (txn13_any i (H0.out.below hal) hm (Utf8Tabs_below hT hal))
 have hvx := Blk.new (w.alloc (.cells #[.slice p0 h.1.length c0, .slice p1 h.2.1.length c1, .slice p2 h.2.2.length c2] 25)) 49 [.int .i64 0, .int .i64 0]
 simp only [World.size_alloc] at hvx
 have HVX := Lib.hid hvx
 have HAL := Lib.hid hal
 have HLen := Lib.hid (opsI_len hm i)
 clear hT hal hm H0 hvx
 go_enter Tryz.func29, Tryz.ntmps29
 go_wp2_with fail
 refine HTx.out.mono ?_
 rintro e w1 ⟨sv, rfl, ⟨ps, cs, rfl, hcap, ho⟩, hb1⟩
 have HB1 := Lib.hid (below_next HAL.out hb1)
 have HV1 := Lib.hid (HVX.out.later hb1)
 have HO := Lib.hid ho
 clear hb1 HTx HVX HAL ho
 go_wp2_with fail
 refine (last_any ps cs (opsI h i) key w1 HLen.out HO.out).mono ?_
 rintro e w2 ⟨he, hb2⟩
 obtain ⟨⟨⟨gk, gn⟩, gb⟩, hg⟩ : ∃ r, rawO key (opsI h i) = r := ⟨_, rfl⟩
 rw [hg] at he
 dsimp only at he
 subst he
 have HG := Lib.hid hg
 clear hg
 have HB2 := Lib.hid (below_next HB1.out hb2)
 have HV2 := Lib.hid (HV1.out.later hb2)
 have r0 := HV2.out.cell 0 rfl
 have r1 := HV2.out.cell 1 rfl
 have f0 := HV2.out.frozen 0
 have f1 := HV2.out.frozen 1
 clear hb2 HB1 HV1
 go_wp2_with fail
 refine bodyPost_ret (results_ct Tryz.results29 _ _ _ _ _ rfl (load_val (store2 HV2.out _ _))) rfl ?_
 exact ⟨by rw [HG.out] <;> rfl, below_two_sets HB2.out (by omega) _ _⟩
end Go.Proofs.YtmgchjddpmmglaaGreatDoor
