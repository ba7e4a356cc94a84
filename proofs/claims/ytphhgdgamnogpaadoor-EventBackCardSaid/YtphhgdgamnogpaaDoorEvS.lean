/-
  The walk of layer 7's reference (event): an event's line. No conditions but texts of at most 1,000,000 bytes.
-/
import Derived.Test.YtphhgdgamnogpaaDoorEvQ
import Derived.Test.YtphhgdgamnogpaaDoorEvW
import Derived.Test.YtphhgdgamnogpaaDoorLate
namespace Go.Proofs.YtphhgdgamnogpaaDoor
open Go.RowKit Go.Lib

theorem join2_eq (a b : List UInt8) : join [a, b] [32] = a ++ 32 :: b := by rw [join_two, join_one]
theorem join4_eq (a b c d : List UInt8) : join [a, b, c, d] [32] = a ++ 32 :: (b ++ 32 :: (c ++ 32 :: d)) := by rw [join_two, join_two, join_two, join_one]
theorem bs_sp (l : List UInt8) : bs l ++ ({ data := #[32] } : ByteArray) = bs (l ++ [32]) := bs_append l [32]
theorem sp_bs (l : List UInt8) : ({ data := #[32] } : ByteArray) ++ bs l = bs ([32] ++ l) := bs_append [32] l
section
attribute [local go_sem] bs_sp sp_bs
set_option maxRecDepth 100000 in
set_option maxHeartbeats 4000000 in
theorem reprint_any (k : Int) (s key : List UInt8) (vk n ln : Int) (hs : s.length ≤ 1000000) (hk : key.length ≤ 1000000) (h0 : -9223372036854775808 ≤ n) (h1 : n ≤ 9223372036854775807) (w : World) :
    Calls Tryd.prog 22 #[.agg #[.int .i64 k, .string (bs s), .string (bs key), .int .i64 vk, .int .i64 n, .int .i64 ln]] w fun e w' => e = .returned (.tuple #[.string (bs (lineE (k, s, key, vk, n, ln))), .int .i64 (errE (k, s, key, vk, n, ln))]) ∧ Below w.heap.size w w' := by
  have HM := Lib.hid (fun w' (_ : Below w.heap.size w w') => remay_any k s key vk n ln hs hk w')
  have HV := Lib.hid (fun w' (_ : Below w.heap.size w w') => refvprint_any vk n h0 h1 w')
  have tl := txt_len vk n h0 h1
  clear h0 h1
  cases hm : mayE (k, s, key, vk, n, ln) with
  | false =>
    have HLine : RowKit.Hid (lineE (k, s, key, vk, n, ln) = []) := Lib.hid (by unfold lineE; rw [hm]; rfl)
    have HErr : RowKit.Hid (errE (k, s, key, vk, n, ln) = 4) := Lib.hid (by unfold errE; rw [hm]; rfl)
    rw [hm] at HM
    clear hm tl hs hk
    go_enter Tryd.func22, Tryd.ntmps22
    go_wp2_with (fail)
    refine (HM.out _ (by (repeat' (first | (with_reducible exact Below.refl _ _) | (with_reducible assumption) | (refine below_next ?_ (by with_reducible assumption)) | (with_reducible refine Below.setCell ?_ ?_ _) | (with_reducible refine Below.alloc ?_ ?_ _) | (with_reducible refine Below.drew ?_) | (with_reducible refine below_drewN ?_ _) | omega | (simp; done) | (simp; omega))))).mono ?_
    rintro e w1 ⟨rfl, hb1⟩
    obtain ⟨hc1, hf1⟩ := bcell hb1
    have hz1 := hb1.size
    try simp at hz1
    have hl1_0 : w.heap.size < w1.heap.size := by omega
    go_wp2_with fail
    go_ret2
    exact ⟨by rw [HLine.out, HErr.out]; rfl, by (repeat' (first | (with_reducible exact Below.refl _ _) | (with_reducible assumption) | (refine below_next ?_ (by with_reducible assumption)) | (with_reducible refine Below.alloc ?_ ?_ _) | (with_reducible refine Below.drew ?_) | (with_reducible refine below_drewN ?_ _) | omega | (simp; done) | (simp; omega)))⟩
  | true =>
    have hr := may_range _ hm
    have hkl := kindW_len k
    obtain ⟨i, rfl⟩ := Int.eq_ofNat_of_zero_le (show (0 : Int) ≤ k by have := hr.1; simp only at this; omega)
    have hi1 : 1 ≤ i := by have := hr.1; simp only at this; omega
    have hi6 : i ≤ 6 := by have := hr.2; simp only at this; omega
    have HErr : RowKit.Hid (errE ((i : Int), s, key, vk, n, ln) = 0) := Lib.hid (by unfold errE; rw [hm]; rfl)
    rcases long_cases (i : Int) with ⟨hi, hl⟩ | ⟨hi, hl⟩ | ⟨hk2, hk3, hl⟩
    · have HLine : RowKit.Hid (lineE ((i : Int), s, key, vk, n, ln) = kindW (i : Int) ++ 32 :: (s ++ 32 :: (key ++ 32 :: vTxt vk n))) := Lib.hid (by unfold lineE wordsE; rw [hm, if_pos rfl, hl, ← join4_eq]; rfl)
      rw [hm] at HM
      have hi2 : ((i : Int) == 2) = true := by simpa using hi
      clear hm hl hr hi
      go_enter Tryd.func22, Tryd.ntmps22
      go_wp2_with (fail)
      refine (HM.out _ (by (repeat' (first | (with_reducible exact Below.refl _ _) | (with_reducible assumption) | (refine below_next ?_ (by with_reducible assumption)) | (with_reducible refine Below.setCell ?_ ?_ _) | (with_reducible refine Below.alloc ?_ ?_ _) | (with_reducible refine Below.drew ?_) | (with_reducible refine below_drewN ?_ _) | omega | (simp; done) | (simp; omega))))).mono ?_
      rintro e w1 ⟨rfl, hb1⟩
      obtain ⟨hc1, hf1⟩ := bcell hb1
      have hz1 := hb1.size
      try simp at hz1
      have hl1_0 : w.heap.size < w1.heap.size := by omega
      have q0 : w1.cell? ⟨w.heap.size, 0, none⟩ = some (.int .i64 (i : Int)) := by go_simp
      have q1 : w1.cell? ⟨w.heap.size, 1, none⟩ = some (.string (bs s)) := by go_simp
      have q2 : w1.cell? ⟨w.heap.size, 2, none⟩ = some (.string (bs key)) := by go_simp
      have q3 : w1.cell? ⟨w.heap.size, 3, none⟩ = some (.int .i64 vk) := by go_simp
      have q4 : w1.cell? ⟨w.heap.size, 4, none⟩ = some (.int .i64 n) := by go_simp
      have hbx : Below w.heap.size w w1 := (by (repeat' (first | (with_reducible exact Below.refl _ _) | (with_reducible assumption) | (refine below_next ?_ (by with_reducible assumption)) | (with_reducible refine Below.setCell ?_ ?_ _) | (with_reducible refine Below.alloc ?_ ?_ _) | (with_reducible refine Below.drew ?_) | (with_reducible refine below_drewN ?_ _) | omega | (simp; done) | (simp; omega))))
      have HBX := Lib.hid hbx
      have hq1 : ¬ 9223372036854775807 < (kindW (i : Int)).length + 1 := by omega
      have hq2 : ¬ 9223372036854775807 < (kindW (i : Int)).length + 1 + s.length := by omega
      have HS : RowKit.Hid (∀ w', Below w1.heap.size w1 w' → (w'.cell? ⟨w.heap.size, 0, none⟩ = some (.int .i64 (i : Int)) ∧ w'.cell? ⟨w.heap.size, 1, none⟩ = some (.string (bs s)) ∧ Below w1.heap.size w1 w')) := Lib.hid (fun w' hb => ⟨cell_later hb q0, cell_later hb q1, hb⟩)
      go_wp2_with fail
      refine wp_region_late (fun w' => w'.cell? ⟨w.heap.size, 0, none⟩ = some (.int .i64 (i : Int)) ∧ w'.cell? ⟨w.heap.size, 1, none⟩ = some (.string (bs s)) ∧ Below w1.heap.size w1 w') [] (by kernel_rfl) ?_
      have hB0 : Below (w1).heap.size (w1) (w1).drew := Below.drew (Below.refl _ _)
      have hS0 := HS.out _ hB0
      refine wpAnyL_take 1 10 (v := ?_) rfl (by kernel_rfl) (by kernel_rfl) (by kernel_rfl) (by kernel_rfl) (by kernel_rfl) (fun _ _ _ h => h) (Or.inl ⟨by rfl, ?_⟩) hS0 ?_
      rotate_left
      · intro w' hw'
        try dsimp only at hw'
        go_simp
        try with_reducible rfl
      try simp only [Act.put, List.setIfInBounds_toArray, List.set_cons_zero, List.set_cons_succ]
      refine wpAnyL_take 2 10 (v := ?_) rfl (by kernel_rfl) (by kernel_rfl) (by kernel_rfl) (by kernel_rfl) (by kernel_rfl) (fun _ _ _ h => h) (Or.inl ⟨by rfl, ?_⟩) hS0 ?_
      rotate_left
      · intro w' hw'
        try dsimp only at hw'
        go_simp
        try with_reducible rfl
      try simp only [Act.put, List.setIfInBounds_toArray, List.set_cons_zero, List.set_cons_succ]
      refine wpAnyL_take 6 10 (v := ?_) rfl (by kernel_rfl) (by kernel_rfl) (by kernel_rfl) (by kernel_rfl) (by kernel_rfl) (fun _ _ _ h => h) (Or.inl ⟨by rfl, ?_⟩) hS0 ?_
      rotate_left
      · intro w' hw'
        try dsimp only at hw'
        go_simp
        try with_reducible rfl
      try simp only [Act.put, List.setIfInBounds_toArray, List.set_cons_zero, List.set_cons_succ]
      refine wpAnyL_take 7 10 (v := ?_) rfl (by kernel_rfl) (by kernel_rfl) (by kernel_rfl) (by kernel_rfl) (by kernel_rfl) (fun _ _ _ h => h) (Or.inl ⟨by rfl, ?_⟩) hS0 ?_
      rotate_left
      · intro w' hw'
        try dsimp only at hw'
        go_simp
        try with_reducible rfl
      try simp only [Act.put, List.setIfInBounds_toArray, List.set_cons_zero, List.set_cons_succ]
      refine wpAnyL_one 0 rfl (by kernel_rfl) (fun K hK => ?_)
      go_simp
      refine (rkinds_any _).mono ?_
      rintro e w2 ⟨rfl, hkc, hgl, hb2⟩
      have hB1 := below_next hB0 hb2
      have hS1 := HS.out _ hB1
      have hkw : w2.cell? ⟨w1.heap.size, i, none⟩ = some (.string (bs (kindW (i : Int)))) := hkc i (by omega)
      have hi0 : (0 : Int) ≤ (i : Int) := by omega
      have hi7 : (i : Int) < 7 := by omega
      refine hK.out _ _ (fun _ => hS1) ?_
      clear hK K hS0
      try simp only [Act.put, List.setIfInBounds_toArray, List.set_cons_zero, List.set_cons_succ]
      refine wpAnyL_one 3 rfl (by kernel_rfl) (fun K hK => ?_)
      go_simp
      refine hK.out _ _ (fun _ => hS1) ?_
      clear hK K
      try simp only [Act.put, List.setIfInBounds_toArray, List.set_cons_zero, List.set_cons_succ]
      refine wpAnyL_one 4 rfl (by kernel_rfl) (fun K hK => ?_)
      go_simp
      refine hK.out _ _ (fun _ => hS1) ?_
      clear hK K
      try simp only [Act.put, List.setIfInBounds_toArray, List.set_cons_zero, List.set_cons_succ]
      refine wpAnyL_one 5 rfl (by kernel_rfl) (fun K hK => ?_)
      go_simp
      refine hK.out _ _ (fun _ => hS1) ?_
      clear hK K
      try simp only [Act.put, List.setIfInBounds_toArray, List.set_cons_zero, List.set_cons_succ]
      refine wpAnyL_one 8 rfl (by kernel_rfl) (fun K hK => ?_)
      go_simp
      refine hK.out _ _ (fun _ => hS1) ?_
      clear hK K
      try simp only [Act.put, List.setIfInBounds_toArray, List.set_cons_zero, List.set_cons_succ]
      refine wpAnyL_one 9 rfl (by kernel_rfl) (fun K hK => ?_)
      go_simp
      refine hK.out _ _ (fun _ => hS1) ?_
      clear hK K
      try simp only [Act.put, List.setIfInBounds_toArray, List.set_cons_zero, List.set_cons_succ]
      refine wpAnyL_done (by kernel_rfl) ?_ _
      try simp only [Act.put, List.setIfInBounds_toArray, List.set_cons_zero, List.set_cons_succ]
      have r0 := cell_later hB1 q0
      have r1 := cell_later hB1 q1
      have r2 := cell_later hB1 q2
      have r3 := cell_later hB1 q3
      have r4 := cell_later hB1 q4
      have hb02 : Below w.heap.size w w2 := below_next HBX.out hB1
      clear q0 q1 q2 q3 q4 hS1 hB0 hB1 hbx hc1 hf1 hkc hkw hb2
      go_wp2_with fail
      refine (HV.out _ hb02).mono ?_
      rintro e w3 ⟨rfl, hb3⟩
      have s2 := cell_later hb3 r2
      go_wp2_with fail
      go_ret2
      exact ⟨by rw [HLine.out, HErr.out]; rfl, (by (repeat' (first | (with_reducible exact Below.refl _ _) | (with_reducible assumption) | (refine below_next ?_ (by with_reducible assumption)) | (with_reducible refine Below.setCell ?_ ?_ _) | (with_reducible refine Below.alloc ?_ ?_ _) | (with_reducible refine Below.drew ?_) | (with_reducible refine below_drewN ?_ _) | omega | (simp; done) | (simp; omega))))⟩
    · have HLine : RowKit.Hid (lineE ((i : Int), s, key, vk, n, ln) = kindW (i : Int) ++ 32 :: (s ++ 32 :: (key ++ 32 :: vTxt vk n))) := Lib.hid (by unfold lineE wordsE; rw [hm, if_pos rfl, hl, ← join4_eq]; rfl)
      rw [hm] at HM
      have hi2 : ((i : Int) == 3) = true := by simpa using hi
      have hi3 : ((i : Int) == 2) = false := by rw [beq_eq_false_iff_ne]; omega
      clear hm hl hr hi
      go_enter Tryd.func22, Tryd.ntmps22
      go_wp2_with (fail)
      refine (HM.out _ (by (repeat' (first | (with_reducible exact Below.refl _ _) | (with_reducible assumption) | (refine below_next ?_ (by with_reducible assumption)) | (with_reducible refine Below.setCell ?_ ?_ _) | (with_reducible refine Below.alloc ?_ ?_ _) | (with_reducible refine Below.drew ?_) | (with_reducible refine below_drewN ?_ _) | omega | (simp; done) | (simp; omega))))).mono ?_
      rintro e w1 ⟨rfl, hb1⟩
      obtain ⟨hc1, hf1⟩ := bcell hb1
      have hz1 := hb1.size
      try simp at hz1
      have hl1_0 : w.heap.size < w1.heap.size := by omega
      have q0 : w1.cell? ⟨w.heap.size, 0, none⟩ = some (.int .i64 (i : Int)) := by go_simp
      have q1 : w1.cell? ⟨w.heap.size, 1, none⟩ = some (.string (bs s)) := by go_simp
      have q2 : w1.cell? ⟨w.heap.size, 2, none⟩ = some (.string (bs key)) := by go_simp
      have q3 : w1.cell? ⟨w.heap.size, 3, none⟩ = some (.int .i64 vk) := by go_simp
      have q4 : w1.cell? ⟨w.heap.size, 4, none⟩ = some (.int .i64 n) := by go_simp
      have hbx : Below w.heap.size w w1 := (by (repeat' (first | (with_reducible exact Below.refl _ _) | (with_reducible assumption) | (refine below_next ?_ (by with_reducible assumption)) | (with_reducible refine Below.setCell ?_ ?_ _) | (with_reducible refine Below.alloc ?_ ?_ _) | (with_reducible refine Below.drew ?_) | (with_reducible refine below_drewN ?_ _) | omega | (simp; done) | (simp; omega))))
      have HBX := Lib.hid hbx
      have hq1 : ¬ 9223372036854775807 < (kindW (i : Int)).length + 1 := by omega
      have hq2 : ¬ 9223372036854775807 < (kindW (i : Int)).length + 1 + s.length := by omega
      have HS : RowKit.Hid (∀ w', Below w1.heap.size w1 w' → (w'.cell? ⟨w.heap.size, 0, none⟩ = some (.int .i64 (i : Int)) ∧ w'.cell? ⟨w.heap.size, 1, none⟩ = some (.string (bs s)) ∧ Below w1.heap.size w1 w')) := Lib.hid (fun w' hb => ⟨cell_later hb q0, cell_later hb q1, hb⟩)
      go_wp2_with fail
      refine wp_region_late (fun w' => w'.cell? ⟨w.heap.size, 0, none⟩ = some (.int .i64 (i : Int)) ∧ w'.cell? ⟨w.heap.size, 1, none⟩ = some (.string (bs s)) ∧ Below w1.heap.size w1 w') [] (by kernel_rfl) ?_
      have hB0 : Below (w1).heap.size (w1) (w1).drew := Below.drew (Below.refl _ _)
      have hS0 := HS.out _ hB0
      refine wpAnyL_take 1 10 (v := ?_) rfl (by kernel_rfl) (by kernel_rfl) (by kernel_rfl) (by kernel_rfl) (by kernel_rfl) (fun _ _ _ h => h) (Or.inl ⟨by rfl, ?_⟩) hS0 ?_
      rotate_left
      · intro w' hw'
        try dsimp only at hw'
        go_simp
        try with_reducible rfl
      try simp only [Act.put, List.setIfInBounds_toArray, List.set_cons_zero, List.set_cons_succ]
      refine wpAnyL_take 2 10 (v := ?_) rfl (by kernel_rfl) (by kernel_rfl) (by kernel_rfl) (by kernel_rfl) (by kernel_rfl) (fun _ _ _ h => h) (Or.inl ⟨by rfl, ?_⟩) hS0 ?_
      rotate_left
      · intro w' hw'
        try dsimp only at hw'
        go_simp
        try with_reducible rfl
      try simp only [Act.put, List.setIfInBounds_toArray, List.set_cons_zero, List.set_cons_succ]
      refine wpAnyL_take 6 10 (v := ?_) rfl (by kernel_rfl) (by kernel_rfl) (by kernel_rfl) (by kernel_rfl) (by kernel_rfl) (fun _ _ _ h => h) (Or.inl ⟨by rfl, ?_⟩) hS0 ?_
      rotate_left
      · intro w' hw'
        try dsimp only at hw'
        go_simp
        try with_reducible rfl
      try simp only [Act.put, List.setIfInBounds_toArray, List.set_cons_zero, List.set_cons_succ]
      refine wpAnyL_take 7 10 (v := ?_) rfl (by kernel_rfl) (by kernel_rfl) (by kernel_rfl) (by kernel_rfl) (by kernel_rfl) (fun _ _ _ h => h) (Or.inl ⟨by rfl, ?_⟩) hS0 ?_
      rotate_left
      · intro w' hw'
        try dsimp only at hw'
        go_simp
        try with_reducible rfl
      try simp only [Act.put, List.setIfInBounds_toArray, List.set_cons_zero, List.set_cons_succ]
      refine wpAnyL_one 0 rfl (by kernel_rfl) (fun K hK => ?_)
      go_simp
      refine (rkinds_any _).mono ?_
      rintro e w2 ⟨rfl, hkc, hgl, hb2⟩
      have hB1 := below_next hB0 hb2
      have hS1 := HS.out _ hB1
      have hkw : w2.cell? ⟨w1.heap.size, i, none⟩ = some (.string (bs (kindW (i : Int)))) := hkc i (by omega)
      have hi0 : (0 : Int) ≤ (i : Int) := by omega
      have hi7 : (i : Int) < 7 := by omega
      refine hK.out _ _ (fun _ => hS1) ?_
      clear hK K hS0
      try simp only [Act.put, List.setIfInBounds_toArray, List.set_cons_zero, List.set_cons_succ]
      refine wpAnyL_one 3 rfl (by kernel_rfl) (fun K hK => ?_)
      go_simp
      refine hK.out _ _ (fun _ => hS1) ?_
      clear hK K
      try simp only [Act.put, List.setIfInBounds_toArray, List.set_cons_zero, List.set_cons_succ]
      refine wpAnyL_one 4 rfl (by kernel_rfl) (fun K hK => ?_)
      go_simp
      refine hK.out _ _ (fun _ => hS1) ?_
      clear hK K
      try simp only [Act.put, List.setIfInBounds_toArray, List.set_cons_zero, List.set_cons_succ]
      refine wpAnyL_one 5 rfl (by kernel_rfl) (fun K hK => ?_)
      go_simp
      refine hK.out _ _ (fun _ => hS1) ?_
      clear hK K
      try simp only [Act.put, List.setIfInBounds_toArray, List.set_cons_zero, List.set_cons_succ]
      refine wpAnyL_one 8 rfl (by kernel_rfl) (fun K hK => ?_)
      go_simp
      refine hK.out _ _ (fun _ => hS1) ?_
      clear hK K
      try simp only [Act.put, List.setIfInBounds_toArray, List.set_cons_zero, List.set_cons_succ]
      refine wpAnyL_one 9 rfl (by kernel_rfl) (fun K hK => ?_)
      go_simp
      refine hK.out _ _ (fun _ => hS1) ?_
      clear hK K
      try simp only [Act.put, List.setIfInBounds_toArray, List.set_cons_zero, List.set_cons_succ]
      refine wpAnyL_done (by kernel_rfl) ?_ _
      try simp only [Act.put, List.setIfInBounds_toArray, List.set_cons_zero, List.set_cons_succ]
      have r0 := cell_later hB1 q0
      have r1 := cell_later hB1 q1
      have r2 := cell_later hB1 q2
      have r3 := cell_later hB1 q3
      have r4 := cell_later hB1 q4
      have hb02 : Below w.heap.size w w2 := below_next HBX.out hB1
      clear q0 q1 q2 q3 q4 hS1 hB0 hB1 hbx hc1 hf1 hkc hkw hb2
      go_wp2_with fail
      refine (HV.out _ hb02).mono ?_
      rintro e w3 ⟨rfl, hb3⟩
      have s2 := cell_later hb3 r2
      go_wp2_with fail
      go_ret2
      exact ⟨by rw [HLine.out, HErr.out]; rfl, (by (repeat' (first | (with_reducible exact Below.refl _ _) | (with_reducible assumption) | (refine below_next ?_ (by with_reducible assumption)) | (with_reducible refine Below.setCell ?_ ?_ _) | (with_reducible refine Below.alloc ?_ ?_ _) | (with_reducible refine Below.drew ?_) | (with_reducible refine below_drewN ?_ _) | omega | (simp; done) | (simp; omega))))⟩
    · have HLine : RowKit.Hid (lineE ((i : Int), s, key, vk, n, ln) = kindW (i : Int) ++ 32 :: s) := Lib.hid (by unfold lineE wordsE; rw [hm, if_pos rfl, hl, ← join2_eq]; rfl)
      rw [hm] at HM
      clear hm hl hr
      go_enter Tryd.func22, Tryd.ntmps22
      go_wp2_with (fail)
      refine (HM.out _ (by (repeat' (first | (with_reducible exact Below.refl _ _) | (with_reducible assumption) | (refine below_next ?_ (by with_reducible assumption)) | (with_reducible refine Below.setCell ?_ ?_ _) | (with_reducible refine Below.alloc ?_ ?_ _) | (with_reducible refine Below.drew ?_) | (with_reducible refine below_drewN ?_ _) | omega | (simp; done) | (simp; omega))))).mono ?_
      rintro e w1 ⟨rfl, hb1⟩
      obtain ⟨hc1, hf1⟩ := bcell hb1
      have hz1 := hb1.size
      try simp at hz1
      have hl1_0 : w.heap.size < w1.heap.size := by omega
      have q0 : w1.cell? ⟨w.heap.size, 0, none⟩ = some (.int .i64 (i : Int)) := by go_simp
      have q1 : w1.cell? ⟨w.heap.size, 1, none⟩ = some (.string (bs s)) := by go_simp
      have q2 : w1.cell? ⟨w.heap.size, 2, none⟩ = some (.string (bs key)) := by go_simp
      have q3 : w1.cell? ⟨w.heap.size, 3, none⟩ = some (.int .i64 vk) := by go_simp
      have q4 : w1.cell? ⟨w.heap.size, 4, none⟩ = some (.int .i64 n) := by go_simp
      have hbx : Below w.heap.size w w1 := (by (repeat' (first | (with_reducible exact Below.refl _ _) | (with_reducible assumption) | (refine below_next ?_ (by with_reducible assumption)) | (with_reducible refine Below.setCell ?_ ?_ _) | (with_reducible refine Below.alloc ?_ ?_ _) | (with_reducible refine Below.drew ?_) | (with_reducible refine below_drewN ?_ _) | omega | (simp; done) | (simp; omega))))
      have HBX := Lib.hid hbx
      have hq1 : ¬ 9223372036854775807 < (kindW (i : Int)).length + 1 := by omega
      have hq2 : ¬ 9223372036854775807 < (kindW (i : Int)).length + 1 + s.length := by omega
      have HS : RowKit.Hid (∀ w', Below w1.heap.size w1 w' → (w'.cell? ⟨w.heap.size, 0, none⟩ = some (.int .i64 (i : Int)) ∧ w'.cell? ⟨w.heap.size, 1, none⟩ = some (.string (bs s)) ∧ Below w1.heap.size w1 w')) := Lib.hid (fun w' hb => ⟨cell_later hb q0, cell_later hb q1, hb⟩)
      go_wp2_with fail
      refine wp_region_late (fun w' => w'.cell? ⟨w.heap.size, 0, none⟩ = some (.int .i64 (i : Int)) ∧ w'.cell? ⟨w.heap.size, 1, none⟩ = some (.string (bs s)) ∧ Below w1.heap.size w1 w') [] (by kernel_rfl) ?_
      have hB0 : Below (w1).heap.size (w1) (w1).drew := Below.drew (Below.refl _ _)
      have hS0 := HS.out _ hB0
      refine wpAnyL_take 1 10 (v := ?_) rfl (by kernel_rfl) (by kernel_rfl) (by kernel_rfl) (by kernel_rfl) (by kernel_rfl) (fun _ _ _ h => h) (Or.inl ⟨by rfl, ?_⟩) hS0 ?_
      rotate_left
      · intro w' hw'
        try dsimp only at hw'
        go_simp
        try with_reducible rfl
      try simp only [Act.put, List.setIfInBounds_toArray, List.set_cons_zero, List.set_cons_succ]
      refine wpAnyL_take 2 10 (v := ?_) rfl (by kernel_rfl) (by kernel_rfl) (by kernel_rfl) (by kernel_rfl) (by kernel_rfl) (fun _ _ _ h => h) (Or.inl ⟨by rfl, ?_⟩) hS0 ?_
      rotate_left
      · intro w' hw'
        try dsimp only at hw'
        go_simp
        try with_reducible rfl
      try simp only [Act.put, List.setIfInBounds_toArray, List.set_cons_zero, List.set_cons_succ]
      refine wpAnyL_take 6 10 (v := ?_) rfl (by kernel_rfl) (by kernel_rfl) (by kernel_rfl) (by kernel_rfl) (by kernel_rfl) (fun _ _ _ h => h) (Or.inl ⟨by rfl, ?_⟩) hS0 ?_
      rotate_left
      · intro w' hw'
        try dsimp only at hw'
        go_simp
        try with_reducible rfl
      try simp only [Act.put, List.setIfInBounds_toArray, List.set_cons_zero, List.set_cons_succ]
      refine wpAnyL_take 7 10 (v := ?_) rfl (by kernel_rfl) (by kernel_rfl) (by kernel_rfl) (by kernel_rfl) (by kernel_rfl) (fun _ _ _ h => h) (Or.inl ⟨by rfl, ?_⟩) hS0 ?_
      rotate_left
      · intro w' hw'
        try dsimp only at hw'
        go_simp
        try with_reducible rfl
      try simp only [Act.put, List.setIfInBounds_toArray, List.set_cons_zero, List.set_cons_succ]
      refine wpAnyL_one 0 rfl (by kernel_rfl) (fun K hK => ?_)
      go_simp
      refine (rkinds_any _).mono ?_
      rintro e w2 ⟨rfl, hkc, hgl, hb2⟩
      have hB1 := below_next hB0 hb2
      have hS1 := HS.out _ hB1
      have hkw : w2.cell? ⟨w1.heap.size, i, none⟩ = some (.string (bs (kindW (i : Int)))) := hkc i (by omega)
      have hi0 : (0 : Int) ≤ (i : Int) := by omega
      have hi7 : (i : Int) < 7 := by omega
      refine hK.out _ _ (fun _ => hS1) ?_
      clear hK K hS0
      try simp only [Act.put, List.setIfInBounds_toArray, List.set_cons_zero, List.set_cons_succ]
      refine wpAnyL_one 3 rfl (by kernel_rfl) (fun K hK => ?_)
      go_simp
      refine hK.out _ _ (fun _ => hS1) ?_
      clear hK K
      try simp only [Act.put, List.setIfInBounds_toArray, List.set_cons_zero, List.set_cons_succ]
      refine wpAnyL_one 4 rfl (by kernel_rfl) (fun K hK => ?_)
      go_simp
      refine hK.out _ _ (fun _ => hS1) ?_
      clear hK K
      try simp only [Act.put, List.setIfInBounds_toArray, List.set_cons_zero, List.set_cons_succ]
      refine wpAnyL_one 5 rfl (by kernel_rfl) (fun K hK => ?_)
      go_simp
      refine hK.out _ _ (fun _ => hS1) ?_
      clear hK K
      try simp only [Act.put, List.setIfInBounds_toArray, List.set_cons_zero, List.set_cons_succ]
      refine wpAnyL_one 8 rfl (by kernel_rfl) (fun K hK => ?_)
      go_simp
      refine hK.out _ _ (fun _ => hS1) ?_
      clear hK K
      try simp only [Act.put, List.setIfInBounds_toArray, List.set_cons_zero, List.set_cons_succ]
      refine wpAnyL_one 9 rfl (by kernel_rfl) (fun K hK => ?_)
      go_simp
      refine hK.out _ _ (fun _ => hS1) ?_
      clear hK K
      try simp only [Act.put, List.setIfInBounds_toArray, List.set_cons_zero, List.set_cons_succ]
      refine wpAnyL_done (by kernel_rfl) ?_ _
      try simp only [Act.put, List.setIfInBounds_toArray, List.set_cons_zero, List.set_cons_succ]
      have r0 := cell_later hB1 q0
      have r1 := cell_later hB1 q1
      have r2 := cell_later hB1 q2
      have r3 := cell_later hB1 q3
      have r4 := cell_later hB1 q4
      have hb02 : Below w.heap.size w w2 := below_next HBX.out hB1
      clear q0 q1 q2 q3 q4 hS1 hB0 hB1 hbx hc1 hf1 hkc hkw hb2
      go_wp2_with fail
      go_ret2
      exact ⟨by rw [HLine.out, HErr.out]; rfl, (by (repeat' (first | (with_reducible exact Below.refl _ _) | (with_reducible assumption) | (refine below_next ?_ (by with_reducible assumption)) | (with_reducible refine Below.setCell ?_ ?_ _) | (with_reducible refine Below.alloc ?_ ?_ _) | (with_reducible refine Below.drew ?_) | (with_reducible refine below_drewN ?_ _) | omega | (simp; done) | (simp; omega))))⟩
end
end Go.Proofs.YtphhgdgamnogpaaDoor
