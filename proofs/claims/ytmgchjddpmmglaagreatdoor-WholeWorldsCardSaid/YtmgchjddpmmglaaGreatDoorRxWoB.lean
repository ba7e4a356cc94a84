/-
  Layer 16 (world), the program: whether a world of a history may be, walked. No conditions but that unicode/utf8's two tables are as their initialisers lay them.
-/
import Derived.Test.YtmgchjddpmmglaaGreatDoorRxWoA
import Derived.Test.YtmgchjddpmmglaaGreatDoorRWo
namespace Go.Proofs.YtmgchjddpmmglaaGreatDoor
open Go.RowKit Go.Lib
theorem valsS_at {w : World} {p : Option Addr} {L : List ValM} (h : HasVals w p L) (k : Nat) (hk : k < L.length) : ∃ g, p = some ⟨g, 0, none⟩ ∧ w.cell? ⟨g, k * 2, none⟩ = some (.int .i64 (L.getD k noVal).1) ∧ w.cell? ⟨g, k * 2 + 1, none⟩ = some (.int .i64 (L.getD k noVal).2) := h k hk
set_option maxRecDepth 100000 in
set_option maxHeartbeats 2000000 in
theorem wmay1_any (x : ValM) (w : World) :
  Calls Tryz.prog 112 #[.agg #[.int .i64 x.1, .int .i64 x.2]] w fun e w' => e = .returned (.bool (!okVal x)) ∧ Below w.heap.size w w' := by
 obtain ⟨k, n⟩ := x
 by_cases hk : k = 1
 ·subst hk
  have hE : okVal (1, n) = true := rfl
  rw [hE]
  clear hE
  go_enter Tryz.func112, Tryz.ntmps112
  go_wp2
  go_ret
  exact ⟨rfl, by go_grown⟩
 ·by_cases h0 : k = 0
  ·subst h0
   by_cases hn : n = 0
   ·subst hn
    have hE : okVal (0, 0) = true := rfl
    rw [hE]
    clear hE hk
    go_enter Tryz.func112, Tryz.ntmps112
    go_wp2
    go_ret
    exact ⟨rfl, by go_grown⟩
   ·have hE : okVal (0, n) = false := by unfold okVal; simpa using hn
    rw [hE]
    have hn2 : (n == 0) = false := by simpa using hn
    clear hE hk
    go_enter Tryz.func112, Tryz.ntmps112
    go_wp2
    go_ret
    exact ⟨by first | rfl | simp [hn], by go_grown⟩
  ·have hE : okVal (k, n) = false := by unfold okVal; simp [hk, h0]
   rw [hE]
   have hk2 : (k == 1) = false := by simpa using hk
   have h02 : (k == 0) = false := by simpa using h0
   clear hE
   go_enter Tryz.func112, Tryz.ntmps112
   go_wp2
   go_ret
   exact ⟨by first | rfl | simp [hk], by go_grown⟩
set_option maxRecDepth 100000 in
set_option maxHeartbeats 2000000 in
theorem ixvals_any (v : Value) (L : List ValM) (w : World) (hv : ValsS w v L) (hL : L.length ≤ 1000000) :
  Calls Tryz.prog 147 #[v, .func (.func 112) #[] #[]] w fun e w' => ∃ i : Int, e = .returned (.int .i64 i) ∧ decide (0 ≤ i) = !(L.all okVal) ∧ Below w.heap.size w w' := by
 obtain ⟨p, c, rfl, -, hp⟩ := hv
 have HX := Lib.hid hp
 have en := enters_of Tryz.func112 (by kernel_rfl) rfl
 have HYes : RowKit.Hid (∀ k : Nat, k < L.length → okVal (L.getD k noVal) = false → decide ((0 : Int) ≤ (k : Int)) = !(L.all okVal)) := Lib.hid (fun k hk hf => by
  have : L.all okVal = false := by
   rw [List.all_eq_false]
   refine ⟨L.getD k noVal, ?_, by rw [hf]; exact Bool.false_ne_true⟩
   have : L.getD k noVal = L[k] := by simp [hk]
   rw [this]
   exact List.getElem_mem hk
  rw [this]
  simp)
 have HNo : RowKit.Hid ((∀ k : Nat, k < L.length → okVal (L.getD k noVal) = true) → decide ((0 : Int) ≤ -1) = !(L.all okVal)) := Lib.hid (fun h => by
  have : L.all okVal = true := by
   rw [List.all_eq_true]
   intro x hx
   obtain ⟨k, hk, e⟩ := List.getElem_of_mem hx
   have := h k hk
   simpa [hk, e] using this
  rw [this]
  rfl)
 generalize (!(L.all okVal)) = R at *
 clear hp
 go_enter Tryz.func147, Tryz.ntmps147
 go_wp2_with fail
 go_loopw [8] (fun i wr => ∃ k : Nat, k ≤ L.length ∧ i = .int .i64 k ∧ (∀ j, j < k → okVal (L.getD j noVal) = true) ∧ Below w.heap.size w wr) (fun i _ => L.length - (RowKit.intOf i).toNat)
 case atStart => exact ⟨0, Nat.zero_le _, rfl, fun j hj => absurd hj (Nat.not_lt_zero j), Below.refl _ _⟩
 case round =>
  obtain ⟨k, hk, rfl, hn, hbw⟩ := hrel
  have HN := Lib.hid hn
  clear hn
  by_cases hk1 : k < L.length
  ·obtain ⟨g, rfl, b0, b1⟩ := HX.out k hk1
   have a0 := cell_later hbw b0
   have a1 := cell_later hbw b1
   have HM := Lib.hid (wmay1_any (L.getD k noVal) wr)
   have HY := Lib.hid (HYes.out k hk1)
   have HK : RowKit.Hid (okVal (L.getD k noVal) = true → ∀ j, j < k + 1 → okVal (L.getD j noVal) = true) := Lib.hid (fun h j hj => by
    by_cases hjk : j < k
    ·exact HN.out j hjk
    ·obtain rfl : j = k := by omega
     exact h)
   obtain ⟨b, hb⟩ : ∃ b, okVal (L.getD k noVal) = b := ⟨_, rfl⟩
   rw [hb] at HM HY HK
   obtain ⟨⟨t1, t2⟩, ht⟩ : ∃ t, L.getD k noVal = t := ⟨_, rfl⟩
   rw [ht] at HM a0 a1
   simp only at HM a0 a1
   clear b0 b1 hb ht
   cases b with
   | false =>
    go_wp2_with (first | (go_at_call 112; refine HM.out.mono ?_; rintro e w1 ⟨rfl, hb1⟩))
    go_ret
    exact ⟨_, rfl, HY.out trivial, below_next hbw hb1⟩
   | true =>
    go_wp2_with (first | (go_at_call 112; refine HM.out.mono ?_; rintro e w1 ⟨rfl, hb1⟩))
    go_roundw
    case rel => exact ⟨k + 1, by omega, by go_num, HK.out trivial, below_next hbw hb1⟩
    case measure => simp [RowKit.intOf]; omega
  ·have hke : k = L.length := by omega
   subst hke
   have H1 := Lib.hid (HNo.out HN.out)
   go_wp2_with fail
   go_ret
   exact ⟨_, rfl, H1.out, hbw⟩
set_option maxRecDepth 100000 in
set_option maxHeartbeats 2000000 in
theorem cfvals_any (v : Value) (L : List ValM) (w : World) (hv : ValsS w v L) (hL : L.length ≤ 1000000) :
  Calls Tryz.prog 111 #[v, .func (.func 112) #[] #[]] w fun e w' => e = .returned (.bool (!(L.all okVal))) ∧ Below w.heap.size w w' := by
 have H1 := Lib.hid (ixvals_any v L w hv hL)
 generalize (!(L.all okVal)) = R at *
 clear hv hL
 go_enter Tryz.func111, Tryz.ntmps111
 go_wp2_with fail
 refine H1.out.mono ?_
 rintro e w1 ⟨i, rfl, hi, hb1⟩
 have HI := Lib.hid hi
 clear hi
 go_wp2_with fail
 go_ret
 refine ⟨?_, hb1⟩
 rw [← HI.out]
 rfl
theorem few_million (m : WorldM) : (fewW m).1.length ≤ 1000000 ∧ (fewW m).2.length ≤ 1000000 := ⟨by have := (fewW_len m).1; omega, by have := (fewW_len m).2; omega⟩
theorem mayW_no {h : HistM} {m : WorldM} (hm : mayH h = false) : mayW h m = false := by unfold mayW; rw [hm]; rfl
theorem mayW_no1 {h : HistM} {m : WorldM} (hm : m.1.length ≠ (whereL infosP h).length) : mayW h m = false := by unfold mayW; simp [hm]
theorem mayW_no2 {h : HistM} {m : WorldM} (hm : m.2.length ≠ (lostL h).length) : mayW h m = false := by unfold mayW; simp [hm]
theorem mayW_all {h : HistM} {m : WorldM} (hm : mayH h = true) (h1 : m.1.length = (whereL infosP h).length) (h2 : m.2.length = (lostL h).length) : mayW h m = m.2.all okVal := by unfold mayW; rw [hm, h1, h2]; simp
set_option maxRecDepth 100000 in
set_option maxHeartbeats 2000000 in
theorem mayw16_any {w : World} {v u : Value} {h : HistM} {m : WorldM} (hv : HistV w v h) (hu : WorldV w u m) (hm : Modst h) (h50 : m.1.length ≤ 1000000 ∧ m.2.length ≤ 1000000) (hT : Lib.Utf8Tabs 1 2 w) :
  Calls Tryz.prog 65 #[v, u] w fun e w' => e = .returned (.bool (mayW h m)) ∧ Below w.heap.size w w' := by
 have H0 := Lib.hid hv
 obtain ⟨v0, v1, v2, rfl, ⟨p0, c0, rfl, -⟩, ⟨p1, c1, rfl, -⟩, ⟨p2, c2, rfl, -⟩⟩ := hv
 obtain ⟨pb, cb, pv, cv, rfl, hb, hvv, -, hcv⟩ := worldV_form hu
 obtain ⟨h51, h52⟩ := h50
 have hal := ((Below.refl w.heap.size w).alloc (Nat.le_refl _) (.cells #[.slice p0 h.1.length c0, .slice p1 h.2.1.length c1, .slice p2 h.2.2.length c2] 25)).alloc (by simp) (.cells #[.slice pb m.1.length cb, .slice pv m.2.length cv] 64)
 have hbx := (Blk.new w 25 [.slice p0 h.1.length c0, .slice p1 h.2.1.length c1, .slice p2 h.2.2.length c2]).alloc (.cells #[.slice pb m.1.length cb, .slice pv m.2.length cv] 64)
 have hbw := Blk.new (w.alloc (.cells #[.slice p0 h.1.length c0, .slice p1 h.2.1.length c1, .slice p2 h.2.2.length c2] 25)) 64 [.slice pb m.1.length cb, .slice pv m.2.length cv]
 simp only [World.size_alloc] at hbw
 have HMo := Lib.hid hm
 have HVa := Lib.hid hvv
 have HCv := Lib.hid hcv
 have HAL := Lib.hid hal
 have HBX := Lib.hid hbx
 have HBW := Lib.hid hbw
 have HT := Lib.hid hT
 clear hT hm hal hbx hbw hb hvv hcv hu
 go_enter Tryz.func65, Tryz.ntmps65
 go_upto_region 1 with fail
 obtain ⟨W1, hW1⟩ : ∃ q, (w.alloc (.cells #[.slice p0 h.1.length c0, .slice p1 h.2.1.length c1, .slice p2 h.2.2.length c2] 25)).alloc (.cells #[.slice pb m.1.length cb, .slice pv m.2.length cv] 64) = q := ⟨_, rfl⟩
 rw [hW1] at HAL HBX HBW ⊢
 clear hW1
 have HV1 := Lib.hid (H0.out.below HAL.out)
 have HVa1 := Lib.hid (HVa.out.below HAL.out)
 have HMy := Lib.hid (fun w' (hb : Below W1.heap.size W1 w') => hmay_v (HV1.out.below hb) HMo.out (Utf8Tabs_below HT.out (below_next HAL.out hb)))
 have HIn := Lib.hid (fun w' (hb : Below W1.heap.size W1 w') => infos_v (HV1.out.below hb) HMo.out (Utf8Tabs_below HT.out (below_next HAL.out hb)))
 have HLo := Lib.hid (fun w' (hb : Below W1.heap.size W1 w') => lost_v (HV1.out.below hb) HMo.out (Utf8Tabs_below HT.out (below_next HAL.out hb)))
 have HS : RowKit.Hid (∀ w', Below W1.heap.size W1 w' → w'.cell? ⟨w.heap.size, 0, none⟩ = some (.slice p0 h.1.length c0) ∧ w'.cell? ⟨w.heap.size, 1, none⟩ = some (.slice p1 h.2.1.length c1) ∧ w'.cell? ⟨w.heap.size, 2, none⟩ = some (.slice p2 h.2.2.length c2) ∧ w'.cell? ⟨w.heap.size + 1, 0, none⟩ = some (.slice pb m.1.length cb) ∧ w'.cell? ⟨w.heap.size + 1, 1, none⟩ = some (.slice pv m.2.length cv) ∧ Below W1.heap.size W1 w') := Lib.hid (fun w' hb => ⟨(HBX.out.later hb).cell 0 rfl, (HBX.out.later hb).cell 1 rfl, (HBX.out.later hb).cell 2 rfl, (HBW.out.later hb).cell 0 rfl, (HBW.out.later hb).cell 1 rfl, hb⟩)
 have HFin := Lib.hid (fun w' (hb : Below W1.heap.size W1 w') => below_next HAL.out hb)
 clear HMo H0 HVa
 cases hmm : mayH h with
 | false =>
  have HEr := Lib.hid (err_no hmm)
  have HE := Lib.hid (@mayW_no h m hmm)
  clear hmm
  refine wp_region_keep (fun w' => w'.cell? ⟨w.heap.size, 0, none⟩ = some (.slice p0 h.1.length c0) ∧ w'.cell? ⟨w.heap.size, 1, none⟩ = some (.slice p1 h.2.1.length c1) ∧ w'.cell? ⟨w.heap.size, 2, none⟩ = some (.slice p2 h.2.2.length c2) ∧ w'.cell? ⟨w.heap.size + 1, 0, none⟩ = some (.slice pb m.1.length cb) ∧ w'.cell? ⟨w.heap.size + 1, 1, none⟩ = some (.slice pv m.2.length cv) ∧ Below W1.heap.size W1 w') [] (by kernel_rfl) ?_
  have hB0 : Below (W1).heap.size (W1) (W1).drew := Below.drew (Below.refl _ _)
  have hS0 := HS.out _ hB0
  refine won 0 rfl fun K hK => ?_
  go_simp
  refine hK.out _ _ (fun _ h => h) ?_
  clear hK K
  try simp only [Act.put, sq]
  refine won 1 rfl fun K hK => ?_
  go_simp
  refine (HMy.out _ hB0).mono ?_
  rintro e w1 ⟨he, hb1⟩
  have hB1 := below_next hB0 hb1
  have hS1 := HS.out _ hB1
  rw [HEr.out] at he
  subst he
  refine hK.out _ _ (fun _ _ => hS1) ?_
  clear hK K hS0
  try simp only [Act.put, sq]
  refine won 2 rfl fun K hK => ?_
  go_simp
  refine hK.out _ _ (fun _ h => h) ?_
  clear hK K
  try simp only [Act.put, sq]
  refine won 3 rfl fun K hK => ?_
  go_simp
  refine hK.out _ _ (fun _ h => h) ?_
  clear hK K
  try simp only [Act.put, sq]
  refine wpAnyM_free 4 (v := undef) rfl (by kernel_rfl) (by kernel_rfl) (by kernel_rfl) (fun _ _ _ h => h) (Or.inr ⟨by rfl, rfl⟩) ?_
  try simp only [Act.put, sq]
  refine wpAnyM_free 5 (v := undef) rfl (by kernel_rfl) (by kernel_rfl) (by kernel_rfl) (fun _ _ _ h => h) (Or.inr ⟨by rfl, rfl⟩) ?_
  try simp only [Act.put, sq]
  refine wpAnyM_free 6 (v := undef) rfl (by kernel_rfl) (by kernel_rfl) (by kernel_rfl) (fun _ _ _ h => h) (Or.inr ⟨by rfl, rfl⟩) ?_
  try simp only [Act.put, sq]
  refine won 7 rfl fun K hK => ?_
  go_simp
  refine hK.out _ _ (fun _ h => h) ?_
  clear hK K
  try simp only [Act.put, sq]
  refine won 8 rfl fun K hK => ?_
  go_simp
  refine hK.out _ _ (fun _ _ => hS1) ?_
  clear hK K
  try simp only [Act.put, sq]
  refine won 9 rfl fun K hK => ?_
  go_simp
  refine hK.out _ _ (fun _ h => h) ?_
  clear hK K
  try simp only [Act.put, sq]
  refine won 10 rfl fun K hK => ?_
  go_simp
  refine hK.out _ _ (fun _ h => h) ?_
  clear hK K
  try simp only [Act.put, sq]
  refine won 11 rfl fun K hK => ?_
  go_simp
  refine hK.out _ _ (fun _ h => h) ?_
  clear hK K
  try simp only [Act.put, sq]
  refine won 12 rfl fun K hK => ?_
  go_simp
  refine hK.out _ _ (fun _ h => h) ?_
  clear hK K
  try simp only [Act.put, sq]
  refine wpAnyM_free 13 (v := undef) rfl (by kernel_rfl) (by kernel_rfl) (by kernel_rfl) (fun _ _ _ h => h) (Or.inr ⟨by rfl, rfl⟩) ?_
  try simp only [Act.put, sq]
  refine wpAnyM_free 14 (v := undef) rfl (by kernel_rfl) (by kernel_rfl) (by kernel_rfl) (fun _ _ _ h => h) (Or.inr ⟨by rfl, rfl⟩) ?_
  try simp only [Act.put, sq]
  refine wpAnyM_free 15 (v := undef) rfl (by kernel_rfl) (by kernel_rfl) (by kernel_rfl) (fun _ _ _ h => h) (Or.inr ⟨by rfl, rfl⟩) ?_
  try simp only [Act.put, sq]
  refine won 16 rfl fun K hK => ?_
  go_simp
  refine hK.out _ _ (fun _ h => h) ?_
  clear hK K
  try simp only [Act.put, sq]
  refine won 17 rfl fun K hK => ?_
  go_simp
  refine hK.out _ _ (fun _ _ => hS1) ?_
  clear hK K
  try simp only [Act.put, sq]
  refine won 18 rfl fun K hK => ?_
  go_simp
  refine hK.out _ _ (fun _ h => h) ?_
  clear hK K
  try simp only [Act.put, sq]
  refine won 19 rfl fun K hK => ?_
  go_simp
  refine hK.out _ _ (fun _ h => h) ?_
  clear hK K
  try simp only [Act.put, sq]
  refine won 20 rfl fun K hK => ?_
  go_simp
  refine hK.out _ _ (fun _ h => h) ?_
  clear hK K
  try simp only [Act.put, sq]
  refine wpAnyM_done (by kernel_rfl) ?_ _
  try simp only [Act.put, sq]
  go_wp2_with fail
  go_ret
  exact ⟨by rw [HE.out] <;> rfl, HFin.out _ hB1⟩
 | true =>
  have HEr := Lib.hid (err_yes hmm)
  have HMM := Lib.hid hmm
  have HWh : RowKit.Hid (whereL infosP h = idxs infosP h.2.2 h.2.2.length) := Lib.hid (whereL_yes _ hmm)
  have HWl : RowKit.Hid (lostL h = lostI (itH h.2.2 h.2.2.length)) := Lib.hid (lostL_yes hmm)
  obtain ⟨n1, hn1⟩ : ∃ n, (whereL infosP h).length = n := ⟨_, rfl⟩
  obtain ⟨n2, hn2⟩ : ∃ n, (lostL h).length = n := ⟨_, rfl⟩
  have HN1 := Lib.hid hn1
  have HN2 := Lib.hid hn2
  clear hmm hn1 hn2
  by_cases h1 : m.1.length = n1
  ·have H1 := Lib.hid h1
   have h1b : ((m.1.length : Int) == (n1 : Int)) = true := beq_iff_eq.2 (by omega)
   have h1c : ((m.1.length : Int) != (n1 : Int)) = false := by simp [h1]
   clear h1
   refine wp_region_keep (fun w' => w'.cell? ⟨w.heap.size, 0, none⟩ = some (.slice p0 h.1.length c0) ∧ w'.cell? ⟨w.heap.size, 1, none⟩ = some (.slice p1 h.2.1.length c1) ∧ w'.cell? ⟨w.heap.size, 2, none⟩ = some (.slice p2 h.2.2.length c2) ∧ w'.cell? ⟨w.heap.size + 1, 0, none⟩ = some (.slice pb m.1.length cb) ∧ w'.cell? ⟨w.heap.size + 1, 1, none⟩ = some (.slice pv m.2.length cv) ∧ Below W1.heap.size W1 w') [] (by kernel_rfl) ?_
   have hB0 : Below (W1).heap.size (W1) (W1).drew := Below.drew (Below.refl _ _)
   have hS0 := HS.out _ hB0
   refine won 0 rfl fun K hK => ?_
   go_simp
   refine hK.out _ _ (fun _ h => h) ?_
   clear hK K
   try simp only [Act.put, sq]
   refine won 1 rfl fun K hK => ?_
   go_simp
   refine (HMy.out _ hB0).mono ?_
   rintro e w1 ⟨he, hb1⟩
   have hB1 := below_next hB0 hb1
   have hS1 := HS.out _ hB1
   rw [HEr.out] at he
   subst he
   refine hK.out _ _ (fun _ _ => hS1) ?_
   clear hK K hS0
   try simp only [Act.put, sq]
   refine won 2 rfl fun K hK => ?_
   go_simp
   refine hK.out _ _ (fun _ h => h) ?_
   clear hK K
   try simp only [Act.put, sq]
   refine won 3 rfl fun K hK => ?_
   go_simp
   refine hK.out _ _ (fun _ h => h) ?_
   clear hK K
   try simp only [Act.put, sq]
   refine wfr 4 (v := ?_) rfl ?_ ?_
   rotate_left
   ·intro w' hw';go_simp;try with_reducible rfl
   try simp only [Act.put, sq]
   refine wtk 5 21 (v := ?_) rfl ?_ hS1 ?_
   rotate_left
   ·intro w' hw';(try dsimp only at hw');go_simp;try with_reducible rfl
   try simp only [Act.put, sq]
   refine wfr 6 (v := ?_) rfl ?_ ?_
   rotate_left
   ·intro w' hw';go_simp;try with_reducible rfl
   try simp only [Act.put, sq]
   refine won 7 rfl fun K hK => ?_
   go_simp
   refine hK.out _ _ (fun _ h => h) ?_
   clear hK K
   try simp only [Act.put, sq]
   refine won 8 rfl fun K hK => ?_
   go_simp
   refine (HIn.out _ hB1).mono ?_
   rintro e w2 ⟨vi, rfl, hi, hb2⟩
   have hB2 := below_next hB1 hb2
   have hS2 := HS.out _ hB2
   obtain ⟨pi, ci, rfl, -⟩ := hi
   rw [HN1.out]
   refine hK.out _ _ (fun _ _ => hS2) ?_
   clear hK K hS1
   try simp only [Act.put, sq]
   refine won 9 rfl fun K hK => ?_
   go_simp
   refine hK.out _ _ (fun _ h => h) ?_
   clear hK K
   try simp only [Act.put, sq]
   refine won 10 rfl fun K hK => ?_
   go_simp
   refine hK.out _ _ (fun _ h => h) ?_
   clear hK K
   try simp only [Act.put, sq]
   refine won 11 rfl fun K hK => ?_
   go_simp
   refine hK.out _ _ (fun _ h => h) ?_
   clear hK K
   try simp only [Act.put, sq]
   refine won 12 rfl fun K hK => ?_
   go_simp
   refine hK.out _ _ (fun _ h => h) ?_
   clear hK K
   try simp only [Act.put, sq]
   refine wfr 13 (v := ?_) rfl ?_ ?_
   rotate_left
   ·intro w' hw';go_simp;try with_reducible rfl
   try simp only [Act.put, sq]
   refine wtk 14 21 (v := ?_) rfl ?_ hS2 ?_
   rotate_left
   ·intro w' hw';(try dsimp only at hw');go_simp;try with_reducible rfl
   try simp only [Act.put, sq]
   refine wfr 15 (v := ?_) rfl ?_ ?_
   rotate_left
   ·intro w' hw';go_simp;try with_reducible rfl
   try simp only [Act.put, sq]
   refine won 16 rfl fun K hK => ?_
   go_simp
   refine hK.out _ _ (fun _ h => h) ?_
   clear hK K
   try simp only [Act.put, sq]
   refine won 17 rfl fun K hK => ?_
   go_simp
   refine (HLo.out _ hB2).mono ?_
   rintro e w3 ⟨vj, rfl, hj, hb3⟩
   have hB3 := below_next hB2 hb3
   have hS3 := HS.out _ hB3
   obtain ⟨pj, cj, rfl, -⟩ := hj
   rw [HN2.out]
   refine hK.out _ _ (fun _ _ => hS3) ?_
   clear hK K hS2
   try simp only [Act.put, sq]
   refine won 18 rfl fun K hK => ?_
   go_simp
   refine hK.out _ _ (fun _ h => h) ?_
   clear hK K
   try simp only [Act.put, sq]
   refine won 19 rfl fun K hK => ?_
   go_simp
   refine hK.out _ _ (fun _ h => h) ?_
   clear hK K
   try simp only [Act.put, sq]
   refine won 20 rfl fun K hK => ?_
   go_simp
   refine hK.out _ _ (fun _ h => h) ?_
   clear hK K
   try simp only [Act.put, sq]
   refine wpAnyM_done (by kernel_rfl) ?_ _
   try simp only [Act.put, sq]
   by_cases h2 : m.2.length = n2
   ·have HE := Lib.hid (mayW_all HMM.out (H1.out.trans HN1.out.symm) (h2.trans HN2.out.symm))
    have h2b : ((m.2.length : Int) == (n2 : Int)) = true := beq_iff_eq.2 (by omega)
    have h2c : ((m.2.length : Int) != (n2 : Int)) = false := by simp [h2]
    subst h2
    have HB3 := Lib.hid hB3
    have y1 := (HS.out _ hB3).2.2.2.2.1
    have HVs : RowKit.Hid (ValsS w3 (.slice pv m.2.length cv) m.2) := Lib.hid ⟨pv, cv, rfl, HCv.out, HVa1.out.below hB3⟩
    clear hS3 h1b h1c h2b h2c
    go_wp2_with fail
    refine (cfvals_any _ m.2 _ HVs.out (by omega)).mono ?_
    rintro e w4 ⟨rfl, hb4⟩
    go_wp2_with fail
    go_ret
    exact ⟨by rw [HE.out]; simp, HFin.out _ (below_next HB3.out hb4)⟩
   ·have HE := Lib.hid (@mayW_no2 h m (fun e => h2 (e.trans HN2.out)))
    have h2b : ((m.2.length : Int) == (n2 : Int)) = false := beq_eq_false_iff_ne.2 (fun e => h2 (by omega))
    have h2c : ((m.2.length : Int) != (n2 : Int)) = true := bne_iff_ne.2 (fun e => h2 (by omega))
    clear h2
    go_wp2_with fail
    go_ret
    exact ⟨by rw [HE.out] <;> rfl, HFin.out _ hB3⟩
  ·have HE := Lib.hid (@mayW_no1 h m (fun e => h1 (e.trans HN1.out)))
   have h1b : ((m.1.length : Int) == (n1 : Int)) = false := beq_eq_false_iff_ne.2 (fun e => h1 (by omega))
   have h1c : ((m.1.length : Int) != (n1 : Int)) = true := bne_iff_ne.2 (fun e => h1 (by omega))
   clear h1
   refine wp_region_keep (fun w' => w'.cell? ⟨w.heap.size, 0, none⟩ = some (.slice p0 h.1.length c0) ∧ w'.cell? ⟨w.heap.size, 1, none⟩ = some (.slice p1 h.2.1.length c1) ∧ w'.cell? ⟨w.heap.size, 2, none⟩ = some (.slice p2 h.2.2.length c2) ∧ w'.cell? ⟨w.heap.size + 1, 0, none⟩ = some (.slice pb m.1.length cb) ∧ w'.cell? ⟨w.heap.size + 1, 1, none⟩ = some (.slice pv m.2.length cv) ∧ Below W1.heap.size W1 w') [] (by kernel_rfl) ?_
   have hB0 : Below (W1).heap.size (W1) (W1).drew := Below.drew (Below.refl _ _)
   have hS0 := HS.out _ hB0
   refine won 0 rfl fun K hK => ?_
   go_simp
   refine hK.out _ _ (fun _ h => h) ?_
   clear hK K
   try simp only [Act.put, sq]
   refine won 1 rfl fun K hK => ?_
   go_simp
   refine (HMy.out _ hB0).mono ?_
   rintro e w1 ⟨he, hb1⟩
   have hB1 := below_next hB0 hb1
   have hS1 := HS.out _ hB1
   rw [HEr.out] at he
   subst he
   refine hK.out _ _ (fun _ _ => hS1) ?_
   clear hK K hS0
   try simp only [Act.put, sq]
   refine won 2 rfl fun K hK => ?_
   go_simp
   refine hK.out _ _ (fun _ h => h) ?_
   clear hK K
   try simp only [Act.put, sq]
   refine won 3 rfl fun K hK => ?_
   go_simp
   refine hK.out _ _ (fun _ h => h) ?_
   clear hK K
   try simp only [Act.put, sq]
   refine wfr 4 (v := ?_) rfl ?_ ?_
   rotate_left
   ·intro w' hw';go_simp;try with_reducible rfl
   try simp only [Act.put, sq]
   refine wtk 5 21 (v := ?_) rfl ?_ hS1 ?_
   rotate_left
   ·intro w' hw';(try dsimp only at hw');go_simp;try with_reducible rfl
   try simp only [Act.put, sq]
   refine wfr 6 (v := ?_) rfl ?_ ?_
   rotate_left
   ·intro w' hw';go_simp;try with_reducible rfl
   try simp only [Act.put, sq]
   refine won 7 rfl fun K hK => ?_
   go_simp
   refine hK.out _ _ (fun _ h => h) ?_
   clear hK K
   try simp only [Act.put, sq]
   refine won 8 rfl fun K hK => ?_
   go_simp
   refine (HIn.out _ hB1).mono ?_
   rintro e w2 ⟨vi, rfl, hi, hb2⟩
   have hB2 := below_next hB1 hb2
   have hS2 := HS.out _ hB2
   obtain ⟨pi, ci, rfl, -⟩ := hi
   rw [HN1.out]
   refine hK.out _ _ (fun _ _ => hS2) ?_
   clear hK K hS1
   try simp only [Act.put, sq]
   refine won 9 rfl fun K hK => ?_
   go_simp
   refine hK.out _ _ (fun _ h => h) ?_
   clear hK K
   try simp only [Act.put, sq]
   refine won 10 rfl fun K hK => ?_
   go_simp
   refine hK.out _ _ (fun _ h => h) ?_
   clear hK K
   try simp only [Act.put, sq]
   refine won 11 rfl fun K hK => ?_
   go_simp
   refine hK.out _ _ (fun _ h => h) ?_
   clear hK K
   try simp only [Act.put, sq]
   refine won 12 rfl fun K hK => ?_
   go_simp
   refine hK.out _ _ (fun _ h => h) ?_
   clear hK K
   try simp only [Act.put, sq]
   refine wpAnyM_free 13 (v := undef) rfl (by kernel_rfl) (by kernel_rfl) (by kernel_rfl) (fun _ _ _ h => h) (Or.inr ⟨by rfl, rfl⟩) ?_
   try simp only [Act.put, sq]
   refine wpAnyM_free 14 (v := undef) rfl (by kernel_rfl) (by kernel_rfl) (by kernel_rfl) (fun _ _ _ h => h) (Or.inr ⟨by rfl, rfl⟩) ?_
   try simp only [Act.put, sq]
   refine wpAnyM_free 15 (v := undef) rfl (by kernel_rfl) (by kernel_rfl) (by kernel_rfl) (fun _ _ _ h => h) (Or.inr ⟨by rfl, rfl⟩) ?_
   try simp only [Act.put, sq]
   refine won 16 rfl fun K hK => ?_
   go_simp
   refine hK.out _ _ (fun _ h => h) ?_
   clear hK K
   try simp only [Act.put, sq]
   refine won 17 rfl fun K hK => ?_
   go_simp
   refine hK.out _ _ (fun _ _ => hS2) ?_
   clear hK K
   try simp only [Act.put, sq]
   refine won 18 rfl fun K hK => ?_
   go_simp
   refine hK.out _ _ (fun _ h => h) ?_
   clear hK K
   try simp only [Act.put, sq]
   refine won 19 rfl fun K hK => ?_
   go_simp
   refine hK.out _ _ (fun _ h => h) ?_
   clear hK K
   try simp only [Act.put, sq]
   refine won 20 rfl fun K hK => ?_
   go_simp
   refine hK.out _ _ (fun _ h => h) ?_
   clear hK K
   try simp only [Act.put, sq]
   refine wpAnyM_done (by kernel_rfl) ?_ _
   try simp only [Act.put, sq]
   go_wp2_with fail
   go_ret
   exact ⟨by rw [HE.out] <;> rfl, HFin.out _ hB2⟩
end Go.Proofs.YtmgchjddpmmglaaGreatDoor
