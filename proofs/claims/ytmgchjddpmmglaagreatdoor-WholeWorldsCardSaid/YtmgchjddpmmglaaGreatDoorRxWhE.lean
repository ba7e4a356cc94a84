/-
  Layer 17 (whole): whether a history is whole, the program and the document; who committed. No conditions but that unicode/utf8's two tables are as their initialisers lay them (the program's).
-/
import Derived.Test.YtmgchjddpmmglaaGreatDoorRxWhP
import Derived.Test.YtmgchjddpmmglaaGreatDoorRWo
import Derived.Test.YtmgchjddpmmglaaGreatDoorRWq
namespace Go.Proofs.YtmgchjddpmmglaaGreatDoor
open Go.RowKit Go.Lib
def okP (t : TxnM) : Bool := t.2.1 == 1
def committedP (h : HistM) : List Int := if wholeP h then idxs okP h.2.2 h.2.2.length else []
theorem whole_eq {h : HistM} (hm : mayH h = true) : wholeP h = decide ((whereL infosP h).length + (lostL h).length = 0) := by
 unfold wholeP
 rw [hm, Bool.true_and, ← Bool.decide_and]
 exact decide_eq_decide.2 (by omega)
theorem lostL_len (h : HistM) (hm : Modst h) : (lostL h).length ≤ 1000000 := by
 by_cases hmm : mayH h = true
 ·rw [lostL_yes hmm, losts_len]
  refine Nat.le_trans (List.length_filter_le _ _) ?_
  have h1 : ∀ T : List TxnM, (∀ t ∈ T, t.2.2.length ≤ 1000) → (T.flatMap (·.2.2)).length ≤ 1000 * T.length := by
   intro T
   induction T with
   | nil => intro _; simp
   | cons t r ih =>
    intro ht
    have e1 := ih (fun x hx => ht x (List.mem_cons_of_mem _ hx))
    have e2 := ht t (List.mem_cons_self ..)
    rw [List.flatMap_cons, List.length_append, List.length_cons]
    omega
  have := h1 h.2.2 hm.2.2.2.2.2
  have := hm.2.2.1
  omega
 ·have e : lostL h = [] := by unfold lostL; simp [hmm]
  rw [e]
  simp
set_option maxRecDepth 100000 in
set_option maxHeartbeats 4000000 in
theorem wis_any {w : World} {v : Value} {h : HistM} (hv : HistV w v h) (hm : Modst h) (hT : Lib.Utf8Tabs 1 2 w) :
  Calls Tryz.prog 45 #[v] w fun e w' => e = .returned (.bool (wholeP h)) ∧ Below w.heap.size w w' := by
 have H0 := Lib.hid hv
 obtain ⟨v0, v1, v2, rfl, ⟨p0, c0, rfl, -⟩, ⟨p1, c1, rfl, -⟩, ⟨p2, c2, rfl, -⟩⟩ := hv
 have HMod := Lib.hid hm
 have HT := Lib.hid hT
 have HAL := Lib.hid ((Below.refl w.heap.size w).alloc (Nat.le_refl _) (.cells #[.slice p0 h.1.length c0, .slice p1 h.2.1.length c1, .slice p2 h.2.2.length c2] 25))
 have HBX := Lib.hid (Blk.new w 25 [.slice p0 h.1.length c0, .slice p1 h.2.1.length c1, .slice p2 h.2.2.length c2])
 clear hm hT
 go_enter Tryz.func45, Tryz.ntmps45
 go_upto_region 1 with fail
 obtain ⟨W1, hW1⟩ : ∃ q, w.alloc (.cells #[.slice p0 h.1.length c0, .slice p1 h.2.1.length c1, .slice p2 h.2.2.length c2] 25) = q := ⟨_, rfl⟩
 rw [hW1] at HAL HBX ⊢
 clear hW1
 have HV1 := Lib.hid (H0.out.below HAL.out)
 have HFin := Lib.hid (fun w' (hb : Below W1.heap.size W1 w') => below_next HAL.out hb)
 have HMy := Lib.hid (fun w' (hb : Below W1.heap.size W1 w') => hmay_v (HV1.out.below hb) HMod.out (Utf8Tabs_below HT.out (below_next HAL.out hb)))
 have HIn := Lib.hid (fun w' (hb : Below W1.heap.size W1 w') => infos_v (HV1.out.below hb) HMod.out (Utf8Tabs_below HT.out (below_next HAL.out hb)))
 have HLo := Lib.hid (fun w' (hb : Below W1.heap.size W1 w') => lost_v (HV1.out.below hb) HMod.out (Utf8Tabs_below HT.out (below_next HAL.out hb)))
 have x0 := HBX.out.cell 0 rfl
 have x1 := HBX.out.cell 1 rfl
 have x2 := HBX.out.cell 2 rfl
 go_wp2_with fail
 refine (HMy.out _ (Below.refl _ _)).mono ?_
 rintro e w1 ⟨rfl, hb1⟩
 have HB1 := Lib.hid hb1
 clear x0 x1 x2 hb1
 have x0 := (HBX.out.later HB1.out).cell 0 rfl
 have x1 := (HBX.out.later HB1.out).cell 1 rfl
 have x2 := (HBX.out.later HB1.out).cell 2 rfl
 cases hmm : mayH h with
 | false =>
  have HEr := Lib.hid (err_no hmm)
  rw [HEr.out]
  have HE : RowKit.Hid (wholeP h = false) := Lib.hid (by unfold wholeP; rw [hmm]; rfl)
  clear hmm
  go_wp2_with fail
  go_ret
  exact ⟨by rw [HE.out] <;> rfl, HFin.out _ HB1.out⟩
 | true =>
  have HEr := Lib.hid (err_yes hmm)
  rw [HEr.out]
  have HWh : RowKit.Hid (whereL infosP h = idxs infosP h.2.2 h.2.2.length) := Lib.hid (whereL_yes _ hmm)
  have HWl : RowKit.Hid (lostL h = lostI (itH h.2.2 h.2.2.length)) := Lib.hid (lostL_yes hmm)
  have HWe := Lib.hid (whole_eq hmm)
  have hb1 := whereL_len infosP h HMod.out
  have hb2 := lostL_len h HMod.out
  obtain ⟨n1, hn1⟩ : ∃ n, (whereL infosP h).length = n := ⟨_, rfl⟩
  obtain ⟨n2, hn2⟩ : ∃ n, (lostL h).length = n := ⟨_, rfl⟩
  rw [hn1] at hb1
  rw [hn2] at hb2
  have HN1 := Lib.hid hn1
  have HN2 := Lib.hid hn2
  clear hmm hn1 hn2
  clear hb1 hb2
  go_wp2_with fail
  refine (HIn.out _ HB1.out).mono ?_
  rintro e w2 ⟨vi, rfl, hi, hb2⟩
  obtain ⟨pi, ci, rfl, -⟩ := hi
  rw [HN1.out]
  have HB2 := Lib.hid (below_next HB1.out hb2)
  clear x0 x1 x2 hb2
  have x0 := (HBX.out.later HB2.out).cell 0 rfl
  have x1 := (HBX.out.later HB2.out).cell 1 rfl
  have x2 := (HBX.out.later HB2.out).cell 2 rfl
  by_cases h1 : n1 = 0
  ·subst h1
   go_wp2_with fail
   refine (HLo.out _ HB2.out).mono ?_
   rintro e w3 ⟨vj, rfl, hj, hb3⟩
   obtain ⟨pj, cj, rfl, -⟩ := hj
   rw [HN2.out]
   have HB3 := Lib.hid (below_next HB2.out hb3)
   clear x0 x1 x2 hb3
   by_cases h2 : n2 = 0
   ·subst h2
    have HE : RowKit.Hid (wholeP h = true) := Lib.hid (by rw [HWe.out, HN1.out, HN2.out]; rfl)
    go_wp2_with fail
    go_ret
    exact ⟨by rw [HE.out] <;> rfl, HFin.out _ HB3.out⟩
   ·have HE : RowKit.Hid (wholeP h = false) := Lib.hid (by rw [HWe.out, HN1.out, HN2.out]; simpa using h2)
    have h2b : ((n2 : Int) == 0) = false := beq_eq_false_iff_ne.2 (fun e => h2 (by omega))
    have h2c : ¬ (n2 : Int) = 0 := fun e => h2 (by omega)
    go_wp2_with fail
    go_ret
    exact ⟨by rw [HE.out] <;> rfl, HFin.out _ HB3.out⟩
  ·have HE : RowKit.Hid (wholeP h = false) := Lib.hid (by rw [HWe.out, HN1.out, HN2.out]; exact decide_eq_false (by omega))
   have h1b : ((n1 : Int) == 0) = false := beq_eq_false_iff_ne.2 (fun e => h1 (by omega))
   have h1c : ¬ (n1 : Int) = 0 := fun e => h1 (by omega)
   go_wp2_with fail
   go_ret
   exact ⟨by rw [HE.out] <;> rfl, HFin.out _ HB2.out⟩
set_option maxRecDepth 100000 in
set_option maxHeartbeats 4000000 in
theorem rwis_any {w : World} {v : Value} {h : HistM} (hv : HistV w v h) (hm : Modst h) :
  Calls Tryz.prog 46 #[v] w fun e w' => e = .returned (.bool (wholeP h)) ∧ Below w.heap.size w w' := by
 have H0 := Lib.hid hv
 obtain ⟨v0, v1, v2, rfl, ⟨p0, c0, rfl, -⟩, ⟨p1, c1, rfl, -⟩, ⟨p2, c2, rfl, -⟩⟩ := hv
 have HMod := Lib.hid hm
 have HAL := Lib.hid ((Below.refl w.heap.size w).alloc (Nat.le_refl _) (.cells #[.slice p0 h.1.length c0, .slice p1 h.2.1.length c1, .slice p2 h.2.2.length c2] 25))
 have HBX := Lib.hid (Blk.new w 25 [.slice p0 h.1.length c0, .slice p1 h.2.1.length c1, .slice p2 h.2.2.length c2])
 clear hm
 go_enter Tryz.func46, Tryz.ntmps46
 go_upto_region 1 with fail
 obtain ⟨W1, hW1⟩ : ∃ q, w.alloc (.cells #[.slice p0 h.1.length c0, .slice p1 h.2.1.length c1, .slice p2 h.2.2.length c2] 25) = q := ⟨_, rfl⟩
 rw [hW1] at HAL HBX ⊢
 clear hW1
 have HV1 := Lib.hid (H0.out.below HAL.out)
 have HFin := Lib.hid (fun w' (hb : Below W1.heap.size W1 w') => below_next HAL.out hb)
 have HMy := Lib.hid (fun w' (hb : Below W1.heap.size W1 w') => rmay_v (HV1.out.below hb) HMod.out)
 have HIn := Lib.hid (fun w' (hb : Below W1.heap.size W1 w') => rinfos_v (HV1.out.below hb) HMod.out)
 have HLo := Lib.hid (fun w' (hb : Below W1.heap.size W1 w') => rlost_v (HV1.out.below hb) HMod.out)
 have HS : RowKit.Hid (∀ w', Below W1.heap.size W1 w' → w'.cell? ⟨w.heap.size, 0, none⟩ = some (.slice p0 h.1.length c0) ∧ w'.cell? ⟨w.heap.size, 1, none⟩ = some (.slice p1 h.2.1.length c1) ∧ w'.cell? ⟨w.heap.size, 2, none⟩ = some (.slice p2 h.2.2.length c2) ∧ Below W1.heap.size W1 w') := Lib.hid (fun w' hb => ⟨(HBX.out.later hb).cell 0 rfl, (HBX.out.later hb).cell 1 rfl, (HBX.out.later hb).cell 2 rfl, hb⟩)
 cases hmm : mayH h with
 | false =>
  have HEr := Lib.hid (err_no hmm)
  have HE : RowKit.Hid (wholeP h = false) := Lib.hid (by unfold wholeP; rw [hmm]; rfl)
  clear hmm
  refine wp_region_keep (fun w' => w'.cell? ⟨w.heap.size, 0, none⟩ = some (.slice p0 h.1.length c0) ∧ w'.cell? ⟨w.heap.size, 1, none⟩ = some (.slice p1 h.2.1.length c1) ∧ w'.cell? ⟨w.heap.size, 2, none⟩ = some (.slice p2 h.2.2.length c2) ∧ Below W1.heap.size W1 w') [] (by kernel_rfl) ?_
  have hB0 : Below (W1).heap.size (W1) (W1).drew := Below.drew (Below.refl _ _)
  have hS0 := HS.out _ hB0
  refine won 0 rfl fun K hK => ?_
  go_simp
  refine hK.out _ _ (fun _ h => h) ?_
  clear hK K
  try simp only [Act.put, sq]
  refine won 1 rfl fun K hK => ?_
  go_simp
  refine (HMy.out _ hB0).mono ?_
  rintro e w1 ⟨he, hb1⟩
  have hB1 := below_next hB0 hb1
  have hS1 := HS.out _ hB1
  rw [HEr.out] at he
  subst he
  refine hK.out _ _ (fun _ _ => hS1) ?_
  clear hK K hS0
  try simp only [Act.put, sq]
  refine won 2 rfl fun K hK => ?_
  go_simp
  refine hK.out _ _ (fun _ h => h) ?_
  clear hK K
  try simp only [Act.put, sq]
  refine won 3 rfl fun K hK => ?_
  go_simp
  refine hK.out _ _ (fun _ h => h) ?_
  clear hK K
  try simp only [Act.put, sq]
  refine wpAnyM_free 4 (v := undef) rfl (by kernel_rfl) (by kernel_rfl) (by kernel_rfl) (fun _ _ _ h => h) (Or.inr ⟨by rfl, rfl⟩) ?_
  try simp only [Act.put, sq]
  refine wpAnyM_free 5 (v := undef) rfl (by kernel_rfl) (by kernel_rfl) (by kernel_rfl) (fun _ _ _ h => h) (Or.inr ⟨by rfl, rfl⟩) ?_
  try simp only [Act.put, sq]
  refine wpAnyM_free 6 (v := undef) rfl (by kernel_rfl) (by kernel_rfl) (by kernel_rfl) (fun _ _ _ h => h) (Or.inr ⟨by rfl, rfl⟩) ?_
  try simp only [Act.put, sq]
  refine won 7 rfl fun K hK => ?_
  go_simp
  refine hK.out _ _ (fun _ h => h) ?_
  clear hK K
  try simp only [Act.put, sq]
  refine won 8 rfl fun K hK => ?_
  go_simp
  refine hK.out _ _ (fun _ _ => hS1) ?_
  clear hK K
  try simp only [Act.put, sq]
  refine won 9 rfl fun K hK => ?_
  go_simp
  refine hK.out _ _ (fun _ h => h) ?_
  clear hK K
  try simp only [Act.put, sq]
  refine won 10 rfl fun K hK => ?_
  go_simp
  refine hK.out _ _ (fun _ h => h) ?_
  clear hK K
  try simp only [Act.put, sq]
  refine won 11 rfl fun K hK => ?_
  go_simp
  refine hK.out _ _ (fun _ h => h) ?_
  clear hK K
  try simp only [Act.put, sq]
  refine won 12 rfl fun K hK => ?_
  go_simp
  refine hK.out _ _ (fun _ h => h) ?_
  clear hK K
  try simp only [Act.put, sq]
  refine won 13 rfl fun K hK => ?_
  go_simp
  refine hK.out _ _ (fun _ h => h) ?_
  clear hK K
  try simp only [Act.put, sq]
  refine wpAnyM_done (by kernel_rfl) ?_ _
  try simp only [Act.put, sq]
  go_wp2_with fail
  go_ret
  exact ⟨by rw [HE.out] <;> rfl, HFin.out _ hB1⟩
 | true =>
  have HEr := Lib.hid (err_yes hmm)
  have HWh : RowKit.Hid (whereL infosP h = idxs infosP h.2.2 h.2.2.length) := Lib.hid (whereL_yes _ hmm)
  have HWl : RowKit.Hid (lostL h = lostI (itH h.2.2 h.2.2.length)) := Lib.hid (lostL_yes hmm)
  have HWe := Lib.hid (whole_eq hmm)
  have hb1 := whereL_len infosP h HMod.out
  have hb2 := lostL_len h HMod.out
  obtain ⟨n1, hn1⟩ : ∃ n, (whereL infosP h).length = n := ⟨_, rfl⟩
  obtain ⟨n2, hn2⟩ : ∃ n, (lostL h).length = n := ⟨_, rfl⟩
  rw [hn1] at hb1
  rw [hn2] at hb2
  have HN1 := Lib.hid hn1
  have HN2 := Lib.hid hn2
  clear hmm hn1 hn2
  by_cases h1 : n1 + n2 = 0
  ·have HE : RowKit.Hid (wholeP h = true) := Lib.hid (by rw [HWe.out, HN1.out, HN2.out]; exact decide_eq_true h1)
   have e1 : n1 = 0 := by omega
   have e2 : n2 = 0 := by omega
   subst e1 e2
   clear h1 hb1 hb2
   refine wp_region_keep (fun w' => w'.cell? ⟨w.heap.size, 0, none⟩ = some (.slice p0 h.1.length c0) ∧ w'.cell? ⟨w.heap.size, 1, none⟩ = some (.slice p1 h.2.1.length c1) ∧ w'.cell? ⟨w.heap.size, 2, none⟩ = some (.slice p2 h.2.2.length c2) ∧ Below W1.heap.size W1 w') [] (by kernel_rfl) ?_
   have hB0 : Below (W1).heap.size (W1) (W1).drew := Below.drew (Below.refl _ _)
   obtain ⟨wd, hwd⟩ : ∃ q, (W1).drew = q := ⟨_, rfl⟩
   rw [hwd] at hB0 ⊢
   clear hwd
   have hSn := HS.out _ hB0
   refine won 0 rfl fun K hK => ?_
   go_simp
   refine hK.out _ _ (fun _ h => h) ?_
   clear hK K
   clear hSn
   try simp only [Act.put, sq]
   refine won 1 rfl fun K hK => ?_
   go_simp
   refine (HMy.out _ hB0).mono ?_
   rintro e wb1 ⟨he, hc1⟩
   rw [HEr.out] at he
   subst he
   have hB1 := below_next hB0 hc1
   refine hK.out _ _ (fun _ _ => HS.out _ hB1) ?_
   clear hK K hc1
   try simp only [Act.put, sq]
   refine won 2 rfl fun K hK => ?_
   go_simp
   refine hK.out _ _ (fun _ h => h) ?_
   clear hK K
   try simp only [Act.put, sq]
   refine won 3 rfl fun K hK => ?_
   go_simp
   refine hK.out _ _ (fun _ h => h) ?_
   clear hK K
   try simp only [Act.put, sq]
   refine wtk 4 14 (v := ?_) rfl ?_ (HS.out _ hB1) ?_
   rotate_left
   ·intro w' hw';(try dsimp only at hw');go_simp;try with_reducible rfl
   try simp only [Act.put, sq]
   refine wtk 7 14 (v := ?_) rfl ?_ (HS.out _ hB1) ?_
   rotate_left
   ·intro w' hw';(try dsimp only at hw');go_simp;try with_reducible rfl
   try simp only [Act.put, sq]
   refine won 5 rfl fun K hK => ?_
   go_simp
   refine (HIn.out _ hB1).mono ?_
   rintro e wb2 ⟨vi2, rfl, hi2, hc2⟩
   rw [← HWh.out] at hi2
   obtain ⟨pi2, ci2, rfl, -⟩ := hi2
   rw [HN1.out]
   have hB2 := below_next hB1 hc2
   refine hK.out _ _ (fun _ _ => HS.out _ hB2) ?_
   clear hK K hc2
   try simp only [Act.put, sq]
   refine wfr 6 (v := ?_) rfl ?_ ?_
   rotate_left
   ·intro w' hw';go_simp;try with_reducible rfl
   try simp only [Act.put, sq]
   refine won 8 rfl fun K hK => ?_
   go_simp
   refine (HLo.out _ hB2).mono ?_
   rintro e wb3 ⟨vj3, rfl, hj3, hc3⟩
   rw [← HWl.out] at hj3
   obtain ⟨pj3, cj3, rfl, -⟩ := hj3
   rw [HN2.out]
   have hB3 := below_next hB2 hc3
   refine hK.out _ _ (fun _ _ => HS.out _ hB3) ?_
   clear hK K hc3
   try simp only [Act.put, sq]
   refine won 9 rfl fun K hK => ?_
   go_simp
   refine hK.out _ _ (fun _ h => h) ?_
   clear hK K
   try simp only [Act.put, sq]
   refine won 10 rfl fun K hK => ?_
   go_simp
   refine hK.out _ _ (fun _ h => h) ?_
   clear hK K
   try simp only [Act.put, sq]
   refine won 11 rfl fun K hK => ?_
   go_simp
   refine hK.out _ _ (fun _ h => h) ?_
   clear hK K
   try simp only [Act.put, sq]
   refine won 12 rfl fun K hK => ?_
   go_simp
   refine hK.out _ _ (fun _ h => h) ?_
   clear hK K
   try simp only [Act.put, sq]
   refine won 13 rfl fun K hK => ?_
   go_simp
   refine hK.out _ _ (fun _ h => h) ?_
   clear hK K
   try simp only [Act.put, sq]
   refine wpAnyM_done (by kernel_rfl) ?_ _
   try simp only [Act.put, sq]
   go_wp2_with fail
   go_ret
   exact ⟨by rw [HE.out] <;> rfl, HFin.out _ hB3⟩
  ·have HE : RowKit.Hid (wholeP h = false) := Lib.hid (by rw [HWe.out, HN1.out, HN2.out]; exact decide_eq_false h1)
   have hwr : IntKind.i64.wrap ((n1 : Int) + (n2 : Int)) = (n1 : Int) + (n2 : Int) := IntWalk.i64_in _ (by omega)
   have h1w : (IntKind.i64.wrap ((n1 : Int) + (n2 : Int)) == 0) = false := by rw [hwr]; exact beq_eq_false_iff_ne.2 (fun e => h1 (by omega))
   have h1b : (((n1 : Int) + (n2 : Int)) == 0) = false := beq_eq_false_iff_ne.2 (fun e => h1 (by omega))
   have h1c : ¬ ((n1 : Int) + (n2 : Int)) = 0 := fun e => h1 (by omega)
   refine wp_region_keep (fun w' => w'.cell? ⟨w.heap.size, 0, none⟩ = some (.slice p0 h.1.length c0) ∧ w'.cell? ⟨w.heap.size, 1, none⟩ = some (.slice p1 h.2.1.length c1) ∧ w'.cell? ⟨w.heap.size, 2, none⟩ = some (.slice p2 h.2.2.length c2) ∧ Below W1.heap.size W1 w') [] (by kernel_rfl) ?_
   have hB0 : Below (W1).heap.size (W1) (W1).drew := Below.drew (Below.refl _ _)
   obtain ⟨wd, hwd⟩ : ∃ q, (W1).drew = q := ⟨_, rfl⟩
   rw [hwd] at hB0 ⊢
   clear hwd
   have hSn := HS.out _ hB0
   refine won 0 rfl fun K hK => ?_
   go_simp
   refine hK.out _ _ (fun _ h => h) ?_
   clear hK K
   clear hSn
   try simp only [Act.put, sq]
   refine won 1 rfl fun K hK => ?_
   go_simp
   refine (HMy.out _ hB0).mono ?_
   rintro e wb1 ⟨he, hc1⟩
   rw [HEr.out] at he
   subst he
   have hB1 := below_next hB0 hc1
   refine hK.out _ _ (fun _ _ => HS.out _ hB1) ?_
   clear hK K hc1
   try simp only [Act.put, sq]
   refine won 2 rfl fun K hK => ?_
   go_simp
   refine hK.out _ _ (fun _ h => h) ?_
   clear hK K
   try simp only [Act.put, sq]
   refine won 3 rfl fun K hK => ?_
   go_simp
   refine hK.out _ _ (fun _ h => h) ?_
   clear hK K
   try simp only [Act.put, sq]
   refine wtk 4 14 (v := ?_) rfl ?_ (HS.out _ hB1) ?_
   rotate_left
   ·intro w' hw';(try dsimp only at hw');go_simp;try with_reducible rfl
   try simp only [Act.put, sq]
   refine wtk 7 14 (v := ?_) rfl ?_ (HS.out _ hB1) ?_
   rotate_left
   ·intro w' hw';(try dsimp only at hw');go_simp;try with_reducible rfl
   try simp only [Act.put, sq]
   refine won 5 rfl fun K hK => ?_
   go_simp
   refine (HIn.out _ hB1).mono ?_
   rintro e wb2 ⟨vi2, rfl, hi2, hc2⟩
   rw [← HWh.out] at hi2
   obtain ⟨pi2, ci2, rfl, -⟩ := hi2
   rw [HN1.out]
   have hB2 := below_next hB1 hc2
   refine hK.out _ _ (fun _ _ => HS.out _ hB2) ?_
   clear hK K hc2
   try simp only [Act.put, sq]
   refine wfr 6 (v := ?_) rfl ?_ ?_
   rotate_left
   ·intro w' hw';go_simp;try with_reducible rfl
   try simp only [Act.put, sq]
   refine won 8 rfl fun K hK => ?_
   go_simp
   refine (HLo.out _ hB2).mono ?_
   rintro e wb3 ⟨vj3, rfl, hj3, hc3⟩
   rw [← HWl.out] at hj3
   obtain ⟨pj3, cj3, rfl, -⟩ := hj3
   rw [HN2.out]
   have hB3 := below_next hB2 hc3
   refine hK.out _ _ (fun _ _ => HS.out _ hB3) ?_
   clear hK K hc3
   try simp only [Act.put, sq]
   refine won 9 rfl fun K hK => ?_
   go_simp
   refine hK.out _ _ (fun _ h => h) ?_
   clear hK K
   try simp only [Act.put, sq]
   refine won 10 rfl fun K hK => ?_
   go_simp
   refine hK.out _ _ (fun _ h => h) ?_
   clear hK K
   try simp only [Act.put, sq]
   refine won 11 rfl fun K hK => ?_
   go_simp
   refine hK.out _ _ (fun _ h => h) ?_
   clear hK K
   try simp only [Act.put, sq]
   refine won 12 rfl fun K hK => ?_
   go_simp
   refine hK.out _ _ (fun _ h => h) ?_
   clear hK K
   try simp only [Act.put, sq]
   refine won 13 rfl fun K hK => ?_
   go_simp
   refine hK.out _ _ (fun _ h => h) ?_
   clear hK K
   try simp only [Act.put, sq]
   refine wpAnyM_done (by kernel_rfl) ?_ _
   try simp only [Act.put, sq]
   go_wp2_with fail
   go_ret
   exact ⟨by rw [HE.out] <;> rfl, HFin.out _ hB3⟩
theorem committedI_len (T : List TxnM) (k : Nat) : (idxs okP T k).length ≤ k := by
 unfold idxs
 rw [List.length_map]
 have := List.length_filter_le (fun i => okP (T.getD i noTxn)) (List.range k)
 rwa [List.length_range] at this
set_option maxRecDepth 100000 in
set_option maxHeartbeats 4000000 in
theorem committed_any {w : World} {v : Value} {h : HistM} (hv : HistV w v h) (hm : Modst h) (hT : Lib.Utf8Tabs 1 2 w) :
  Calls Tryz.prog 52 #[v] w fun e w' => ∃ v', e = .returned v' ∧ IntsS w' v' (committedP h) ∧ Below w.heap.size w w' := by
 have H0 := Lib.hid hv
 obtain ⟨v0, v1, v2, rfl, ⟨p0, c0, rfl, -⟩, ⟨p1, c1, rfl, -⟩, ⟨p2, c2, rfl, k2⟩⟩ := hv
 have HMod := Lib.hid hm
 have HT := Lib.hid hT
 have HAL := Lib.hid ((Below.refl w.heap.size w).alloc (Nat.le_refl _) (.cells #[.slice p0 h.1.length c0, .slice p1 h.2.1.length c1, .slice p2 h.2.2.length c2] 25))
 have HBX := Lib.hid (Blk.new w 25 [.slice p0 h.1.length c0, .slice p1 h.2.1.length c1, .slice p2 h.2.2.length c2])
 have HX := Lib.hid k2
 have m3 : h.2.2.length ≤ 1000 := hm.2.2.1
 clear hm hT
 go_enter Tryz.func52, Tryz.ntmps52
 go_upto_region 1 with fail
 obtain ⟨W1, hW1⟩ : ∃ q, w.alloc (.cells #[.slice p0 h.1.length c0, .slice p1 h.2.1.length c1, .slice p2 h.2.2.length c2] 25) = q := ⟨_, rfl⟩
 rw [hW1] at HAL HBX ⊢
 clear hW1
 have HV1 := Lib.hid (H0.out.below HAL.out)
 have HFin := Lib.hid (fun w' (hb : Below W1.heap.size W1 w') => below_next HAL.out hb)
 obtain ⟨j0, hj, hj0, hj1, hj2⟩ := info_parts info_i64
 have x0 := HBX.out.cell 0 rfl
 have x1 := HBX.out.cell 1 rfl
 have x2 := HBX.out.cell 2 rfl
 go_wp2_with fail
 refine (wis_any HV1.out HMod.out (Utf8Tabs_below HT.out HAL.out)).mono ?_
 rintro e w1 ⟨rfl, hb1⟩
 have HB1 := Lib.hid hb1
 clear x0 x1 x2 hb1
 cases hmw : wholeP h with
 | false =>
  have HE : RowKit.Hid (committedP h = []) := Lib.hid (by unfold committedP; rw [hmw]; rfl)
  clear hmw
  go_wp2_with fail
  go_ret
  exact ⟨_, rfl, by rw [HE.out]; exact ints_none _, HFin.out _ HB1.out⟩
 | true =>
  have HE : RowKit.Hid (committedP h = idxs okP h.2.2 h.2.2.length) := Lib.hid (by unfold committedP; rw [hmw]; rfl)
  clear hmw
  have x2 := (HBX.out.later HB1.out).cell 2 rfl
  go_wp2_with fail
  clear x2
  go_loopw [3, 12] (fun l i wr => ∃ k : Nat, k ≤ h.2.2.length ∧ i = .int .i64 k ∧ wr.ownsRow w1.heap.size 3 1 l (idxs okP h.2.2 k).length (vints (idxs okP h.2.2 k)) ∧ Below w1.heap.size w1 wr) (fun _ i _ => h.2.2.length - (RowKit.intOf i).toNat)
  case atStart => exact ⟨0, Nat.zero_le _, rfl, World.ownsRow_nil _ _ _ _, Below.refl _ _⟩
  case round =>
   obtain ⟨k, hk, rfl, hrow, hbw⟩ := hrel
   by_cases hk1 : k < h.2.2.length
   ·have hb0 := HFin.out _ (below_next HB1.out hbw)
    obtain ⟨g, sv, rfl, a1, a2, a3, a4⟩ := HX.out k hk1
    have a1 := cell_later hb0 a1
    have a2 := cell_later hb0 a2
    have a3 := cell_later hb0 a3
    have hnx := idxs_next okP h.2.2 k
    have hll := committedI_len h.2.2 k
    obtain ⟨⟨ts, tf, tl⟩, htt⟩ : ∃ q, h.2.2.getD k noTxn = q := ⟨_, rfl⟩
    rw [htt] at a1 a2 a4 hnx
    dsimp only at a1 a2 a4
    obtain ⟨p3, c3, rfl, -, -⟩ := a4
    have hip : okP (ts, tf, tl) = (tf == 1) := rfl
    rw [hip] at hnx
    have HRw := Lib.hid hrow
    have HBw := Lib.hid hbw
    have HNx := Lib.hid hnx
    clear hrow hbw hnx htt hip hb0
    by_cases h1 : tf = 1
    ·subst h1
     have HN2 : RowKit.Hid (idxs okP h.2.2 (k + 1) = idxs okP h.2.2 k ++ [(k : Int)]) := Lib.hid HNx.out
     clear HNx
     obtain ⟨p9, c9, rfl⟩ := owns_form HRw.out
     go_wp2_with (at_builtin; refine wpList_append_own _ rfl _ _ 56 rfl w1.heap.size 3 j0 (.int .i64 0) 1 8 Tryz.underlying56 hj hj0 hj1 hj2 rfl (by decide) _ _ _ rfl ((HRw.out.alloc _).alloc _) ⟨wr.heap.size + 1, 0, none⟩ 1 1 [.int .i64 (k : Nat)] rfl rfl (news_lit _ _ _ _ (by simp)) (ones_int _) (by unfold maxLen; omega) (by omega) (by have := HBw.out.size; simp; omega) ?_)
     intro v4 w4 hown4 hgrow hnil
     have hA := (HBw.out.alloc HBw.out.size (.cells #[.int .i64 ts, .int .i64 1, .slice p3 tl.length c3] 47)).alloc (by have := HBw.out.size; simp; omega) (.cells #[.int .i64 (k : Nat)] 3)
     have hR := (HRw.out.alloc (.cells #[.int .i64 ts, .int .i64 1, .slice p3 tl.length c3] 47)).alloc (.cells #[.int .i64 (k : Nat)] 3)
     have HB4 := Lib.hid (hA.grown hgrow hA.size (fun q hq => (hR.lt q hq).1))
     have HO4 : RowKit.Hid (w4.ownsRow w1.heap.size 3 1 v4 (idxs okP h.2.2 (k + 1)).length (vints (idxs okP h.2.2 (k + 1)))) := Lib.hid (by rw [HN2.out, ← vints_snoc, List.length_append]; exact hown4)
     clear hown4 hgrow hnil hA hR
     go_wp2_with fail
     go_roundw
     case rel => exact ⟨k + 1, by omega, by go_num, HO4.out, HB4.out⟩
     case measure => simp [RowKit.intOf]; omega
    ·have h1b : (tf == 1) = false := by simpa using h1
     have HN2 : RowKit.Hid (idxs okP h.2.2 (k + 1) = idxs okP h.2.2 k) := Lib.hid (by rw [HNx.out, if_neg (by rw [h1b]; exact Bool.false_ne_true)])
     clear HNx
     go_wp2_with fail
     go_roundw
     case rel => exact ⟨k + 1, by omega, by go_num, by rw [HN2.out]; exact HRw.out.alloc _, HBw.out.alloc HBw.out.size _⟩
     case measure => simp [RowKit.intOf]; omega
   ·have hke : k = h.2.2.length := by omega
    subst hke
    have HRw := Lib.hid hrow
    obtain ⟨p9, c9, rfl⟩ := owns_form hrow
    clear hrow
    go_wp2_with fail
    go_ret
    exact ⟨_, rfl, by rw [HE.out]; exact own_intsI HRw.out, HFin.out _ (below_next HB1.out hbw)⟩
end Go.Proofs.YtmgchjddpmmglaaGreatDoor
