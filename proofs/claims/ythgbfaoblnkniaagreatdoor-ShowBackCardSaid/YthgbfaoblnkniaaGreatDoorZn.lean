/-
  The walk of layer 7's reference (event): an event's line. No conditions but texts of at most 1,000,000 bytes.
  A strings.Builder of the call's own: written, measured, read. No conditions but those on sizes.
  The walks of layer 8 (log): events' text, in the program and in the reference. Conditions: unicode/utf8's two tables, and event.words, hold what their initialisers lay; names of at most 1,000,000 bytes.
  Events as an argument: what its reading says of its cells; rows of a call's own as such. No conditions.
  A region that draws its order: one condition on the world that all but the late operations keep; what asks nothing of the world may come when it will. No conditions.
  The statements' own cut of events (not too many, names not too long), walked; events as an argument. No conditions.
  Layer 8 (log): events cut short, as slices and as arguments; cut again. No conditions.
-/
import Derived.Test.YthgbfaoblnkniaaGreatDoorZm
import Derived.Test.YthgbfaoblnkniaaGreatDoorZi
import Derived.Test.YthgbfaoblnkniaaGreatDoorZe
import Derived.Shelf.Strings.Builder1
import Derived.Deep.DeepCutAuto
import Derived.Deep.CutBlock
import Derived.Test.YthgbfaoblnkniaaGreatDoorZa
import Derived.OrdersHeld
import Derived.Laws.OwnMore
namespace Go.Proofs.YthgbfaoblnkniaaGreatDoor
open Go.RowKit Go.Lib
theorem join2_eq (a b : List UInt8) : join [a, b] [32] = a ++ 32 :: b := by rw [join_two, join_one]
theorem join4_eq (a b c d : List UInt8) : join [a, b, c, d] [32] = a ++ 32 :: (b ++ 32 :: (c ++ 32 :: d)) := by rw [join_two, join_two, join_two, join_one]
theorem bs_sp (l : List UInt8) : bs l ++ ({ data := #[32] } : ByteArray) = bs (l ++ [32]) := bs_append l [32]
theorem sp_bs (l : List UInt8) : ({ data := #[32] } : ByteArray) ++ bs l = bs ([32] ++ l) := bs_append [32] l
section
attribute [local go_sem] bs_sp sp_bs
set_option maxRecDepth 100000 in
set_option maxHeartbeats 4000000 in
theorem reprint_any (k : Int) (s key : List UInt8) (vk n ln : Int) (hs : s.length ≤ 1000000) (hk : key.length ≤ 1000000) (h0 : -9223372036854775808 ≤ n) (h1 : n ≤ 9223372036854775807) (w : World) :
  Calls Tryz.prog 46 #[.agg #[.int .i64 k, .string (bs s), .string (bs key), .int .i64 vk, .int .i64 n, .int .i64 ln]] w fun e w' => e = .returned (.tuple #[.string (bs (lineE (k, s, key, vk, n, ln))), .int .i64 (errE (k, s, key, vk, n, ln))]) ∧ Below w.heap.size w w' := by
 have HM := Lib.hid (fun w' (_ : Below w.heap.size w w') => remay_any k s key vk n ln hs hk w')
 have HV := Lib.hid (fun w' (_ : Below w.heap.size w w') => refvprint_any vk n h0 h1 w')
 have tl := txt_len vk n h0 h1
 clear h0 h1
 cases hm : mayE (k, s, key, vk, n, ln) with
 | false =>
  have HLine : RowKit.Hid (lineE (k, s, key, vk, n, ln) = []) := Lib.hid (by unfold lineE; rw [hm]; rfl)
  have HErr : RowKit.Hid (errE (k, s, key, vk, n, ln) = 4) := Lib.hid (by unfold errE; rw [hm]; rfl)
  rw [hm] at HM
  clear hm tl hs hk
  go_enter Tryz.func46, Tryz.ntmps46
  go_wp2_with (fail)
  refine (HM.out _ (by (repeat' (first | (with_reducible exact Below.refl _ _) | (with_reducible assumption) | (refine below_next ?_ (by with_reducible assumption)) | (with_reducible refine Below.setCell ?_ ?_ _) | (with_reducible refine Below.alloc ?_ ?_ _) | (with_reducible refine Below.drew ?_) | (with_reducible refine below_drewN ?_ _) | omega | (simp; done) | (simp; omega))))).mono ?_
  rintro e w1 ⟨rfl, hb1⟩
  obtain ⟨hc1, hf1⟩ := bcell hb1
  have hz1 := hb1.size
  try simp at hz1
  have hl1_0 : w.heap.size < w1.heap.size := by omega
  go_wp2_with fail
  go_ret2
  exact ⟨by rw [HLine.out, HErr.out]; rfl, by (repeat' (first | (with_reducible exact Below.refl _ _) | (with_reducible assumption) | (refine below_next ?_ (by with_reducible assumption)) | (with_reducible refine Below.alloc ?_ ?_ _) | (with_reducible refine Below.drew ?_) | (with_reducible refine below_drewN ?_ _) | omega | (simp; done) | (simp; omega)))⟩
 | true =>
  have hr := may_range _ hm
  have hkl := kindW_len k
  obtain ⟨i, rfl⟩ := Int.eq_ofNat_of_zero_le (show (0 : Int) ≤ k by have := hr.1; simp only at this; omega)
  have hi1 : 1 ≤ i := by have := hr.1; simp only at this; omega
  have hi6 : i ≤ 6 := by have := hr.2; simp only at this; omega
  have HErr : RowKit.Hid (errE ((i : Int), s, key, vk, n, ln) = 0) := Lib.hid (by unfold errE; rw [hm]; rfl)
  rcases long_cases (i : Int) with ⟨hi, hl⟩ | ⟨hi, hl⟩ | ⟨hk2, hk3, hl⟩
  ·have HLine : RowKit.Hid (lineE ((i : Int), s, key, vk, n, ln) = kindW (i : Int) ++ 32 :: (s ++ 32 :: (key ++ 32 :: vTxt vk n))) := Lib.hid (by unfold lineE wordsE; rw [hm, if_pos rfl, hl, ← join4_eq]; rfl)
   rw [hm] at HM
   have hi2 : ((i : Int) == 2) = true := by simpa using hi
   clear hm hl hr hi
   go_enter Tryz.func46, Tryz.ntmps46
   go_wp2_with (fail)
   refine (HM.out _ (by (repeat' (first | (with_reducible exact Below.refl _ _) | (with_reducible assumption) | (refine below_next ?_ (by with_reducible assumption)) | (with_reducible refine Below.setCell ?_ ?_ _) | (with_reducible refine Below.alloc ?_ ?_ _) | (with_reducible refine Below.drew ?_) | (with_reducible refine below_drewN ?_ _) | omega | (simp; done) | (simp; omega))))).mono ?_
   rintro e w1 ⟨rfl, hb1⟩
   obtain ⟨hc1, hf1⟩ := bcell hb1
   have hz1 := hb1.size
   try simp at hz1
   have hl1_0 : w.heap.size < w1.heap.size := by omega
   have q0 : w1.cell? ⟨w.heap.size, 0, none⟩ = some (.int .i64 (i : Int)) := by go_simp
   have q1 : w1.cell? ⟨w.heap.size, 1, none⟩ = some (.string (bs s)) := by go_simp
   have q2 : w1.cell? ⟨w.heap.size, 2, none⟩ = some (.string (bs key)) := by go_simp
   have q3 : w1.cell? ⟨w.heap.size, 3, none⟩ = some (.int .i64 vk) := by go_simp
   have q4 : w1.cell? ⟨w.heap.size, 4, none⟩ = some (.int .i64 n) := by go_simp
   have hbx : Below w.heap.size w w1 := (by (repeat' (first | (with_reducible exact Below.refl _ _) | (with_reducible assumption) | (refine below_next ?_ (by with_reducible assumption)) | (with_reducible refine Below.setCell ?_ ?_ _) | (with_reducible refine Below.alloc ?_ ?_ _) | (with_reducible refine Below.drew ?_) | (with_reducible refine below_drewN ?_ _) | omega | (simp; done) | (simp; omega))))
   have HBX := Lib.hid hbx
   have hq1 : ¬ 9223372036854775807 < (kindW (i : Int)).length + 1 := by omega
   have hq2 : ¬ 9223372036854775807 < (kindW (i : Int)).length + 1 + s.length := by omega
   have HS : RowKit.Hid (∀ w', Below w1.heap.size w1 w' → (w'.cell? ⟨w.heap.size, 0, none⟩ = some (.int .i64 (i : Int)) ∧ w'.cell? ⟨w.heap.size, 1, none⟩ = some (.string (bs s)) ∧ Below w1.heap.size w1 w')) := Lib.hid (fun w' hb => ⟨cell_later hb q0, cell_later hb q1, hb⟩)
   go_wp2_with fail
   refine wp_region_late (fun w' => w'.cell? ⟨w.heap.size, 0, none⟩ = some (.int .i64 (i : Int)) ∧ w'.cell? ⟨w.heap.size, 1, none⟩ = some (.string (bs s)) ∧ Below w1.heap.size w1 w') [] (by kernel_rfl) ?_
   have hB0 : Below (w1).heap.size (w1) (w1).drew := Below.drew (Below.refl _ _)
   have hS0 := HS.out _ hB0
   refine wpAnyL_take 1 10 (v := ?_) rfl (by kernel_rfl) (by kernel_rfl) (by kernel_rfl) (by kernel_rfl) (by kernel_rfl) (fun _ _ _ h => h) (Or.inl ⟨by rfl, ?_⟩) hS0 ?_
   rotate_left
   ·intro w' hw';(try dsimp only at hw');go_simp;try with_reducible rfl
   try simp only [Act.put, sq0, sq1, sq2]
   refine wpAnyL_take 2 10 (v := ?_) rfl (by kernel_rfl) (by kernel_rfl) (by kernel_rfl) (by kernel_rfl) (by kernel_rfl) (fun _ _ _ h => h) (Or.inl ⟨by rfl, ?_⟩) hS0 ?_
   rotate_left
   ·intro w' hw';(try dsimp only at hw');go_simp;try with_reducible rfl
   try simp only [Act.put, sq0, sq1, sq2]
   refine wpAnyL_take 6 10 (v := ?_) rfl (by kernel_rfl) (by kernel_rfl) (by kernel_rfl) (by kernel_rfl) (by kernel_rfl) (fun _ _ _ h => h) (Or.inl ⟨by rfl, ?_⟩) hS0 ?_
   rotate_left
   ·intro w' hw';(try dsimp only at hw');go_simp;try with_reducible rfl
   try simp only [Act.put, sq0, sq1, sq2]
   refine wpAnyL_take 7 10 (v := ?_) rfl (by kernel_rfl) (by kernel_rfl) (by kernel_rfl) (by kernel_rfl) (by kernel_rfl) (fun _ _ _ h => h) (Or.inl ⟨by rfl, ?_⟩) hS0 ?_
   rotate_left
   ·intro w' hw';(try dsimp only at hw');go_simp;try with_reducible rfl
   try simp only [Act.put, sq0, sq1, sq2]
   refine wpAnyL_one 0 rfl (by kernel_rfl) (fun K hK => ?_)
   go_simp
   refine (rkinds_any _).mono ?_
   rintro e w2 ⟨rfl, hkc, hgl, hb2⟩
   have hB1 := below_next hB0 hb2
   have hS1 := HS.out _ hB1
   have hkw : w2.cell? ⟨w1.heap.size, i, none⟩ = some (.string (bs (kindW (i : Int)))) := hkc i (by omega)
   have hi0 : (0 : Int) ≤ (i : Int) := by omega
   have hi7 : (i : Int) < 7 := by omega
   refine hK.out _ _ (fun _ => hS1) ?_
   clear hK K hS0
   try simp only [Act.put, sq0, sq1, sq2]
   refine wpAnyL_one 3 rfl (by kernel_rfl) (fun K hK => ?_)
   go_simp
   refine hK.out _ _ (fun _ => hS1) ?_
   clear hK K
   try simp only [Act.put, sq0, sq1, sq2]
   refine wpAnyL_one 4 rfl (by kernel_rfl) (fun K hK => ?_)
   go_simp
   refine hK.out _ _ (fun _ => hS1) ?_
   clear hK K
   try simp only [Act.put, sq0, sq1, sq2]
   refine wpAnyL_one 5 rfl (by kernel_rfl) (fun K hK => ?_)
   go_simp
   refine hK.out _ _ (fun _ => hS1) ?_
   clear hK K
   try simp only [Act.put, sq0, sq1, sq2]
   refine wpAnyL_one 8 rfl (by kernel_rfl) (fun K hK => ?_)
   go_simp
   refine hK.out _ _ (fun _ => hS1) ?_
   clear hK K
   try simp only [Act.put, sq0, sq1, sq2]
   refine wpAnyL_one 9 rfl (by kernel_rfl) (fun K hK => ?_)
   go_simp
   refine hK.out _ _ (fun _ => hS1) ?_
   clear hK K
   try simp only [Act.put, sq0, sq1, sq2]
   refine wpAnyL_done (by kernel_rfl) ?_ _
   try simp only [Act.put, sq0, sq1, sq2]
   have r0 := cell_later hB1 q0
   have r1 := cell_later hB1 q1
   have r2 := cell_later hB1 q2
   have r3 := cell_later hB1 q3
   have r4 := cell_later hB1 q4
   have hb02 : Below w.heap.size w w2 := below_next HBX.out hB1
   clear q0 q1 q2 q3 q4 hS1 hB0 hB1 hbx hc1 hf1 hkc hkw hb2
   go_wp2_with fail
   refine (HV.out _ hb02).mono ?_
   rintro e w3 ⟨rfl, hb3⟩
   have s2 := cell_later hb3 r2
   go_wp2_with fail
   go_ret2
   exact ⟨by rw [HLine.out, HErr.out]; rfl, (by (repeat' (first | (with_reducible exact Below.refl _ _) | (with_reducible assumption) | (refine below_next ?_ (by with_reducible assumption)) | (with_reducible refine Below.setCell ?_ ?_ _) | (with_reducible refine Below.alloc ?_ ?_ _) | (with_reducible refine Below.drew ?_) | (with_reducible refine below_drewN ?_ _) | omega | (simp; done) | (simp; omega))))⟩
  ·have HLine : RowKit.Hid (lineE ((i : Int), s, key, vk, n, ln) = kindW (i : Int) ++ 32 :: (s ++ 32 :: (key ++ 32 :: vTxt vk n))) := Lib.hid (by unfold lineE wordsE; rw [hm, if_pos rfl, hl, ← join4_eq]; rfl)
   rw [hm] at HM
   have hi2 : ((i : Int) == 3) = true := by simpa using hi
   have hi3 : ((i : Int) == 2) = false := by rw [beq_eq_false_iff_ne]; omega
   clear hm hl hr hi
   go_enter Tryz.func46, Tryz.ntmps46
   go_wp2_with (fail)
   refine (HM.out _ (by (repeat' (first | (with_reducible exact Below.refl _ _) | (with_reducible assumption) | (refine below_next ?_ (by with_reducible assumption)) | (with_reducible refine Below.setCell ?_ ?_ _) | (with_reducible refine Below.alloc ?_ ?_ _) | (with_reducible refine Below.drew ?_) | (with_reducible refine below_drewN ?_ _) | omega | (simp; done) | (simp; omega))))).mono ?_
   rintro e w1 ⟨rfl, hb1⟩
   obtain ⟨hc1, hf1⟩ := bcell hb1
   have hz1 := hb1.size
   try simp at hz1
   have hl1_0 : w.heap.size < w1.heap.size := by omega
   have q0 : w1.cell? ⟨w.heap.size, 0, none⟩ = some (.int .i64 (i : Int)) := by go_simp
   have q1 : w1.cell? ⟨w.heap.size, 1, none⟩ = some (.string (bs s)) := by go_simp
   have q2 : w1.cell? ⟨w.heap.size, 2, none⟩ = some (.string (bs key)) := by go_simp
   have q3 : w1.cell? ⟨w.heap.size, 3, none⟩ = some (.int .i64 vk) := by go_simp
   have q4 : w1.cell? ⟨w.heap.size, 4, none⟩ = some (.int .i64 n) := by go_simp
   have hbx : Below w.heap.size w w1 := (by (repeat' (first | (with_reducible exact Below.refl _ _) | (with_reducible assumption) | (refine below_next ?_ (by with_reducible assumption)) | (with_reducible refine Below.setCell ?_ ?_ _) | (with_reducible refine Below.alloc ?_ ?_ _) | (with_reducible refine Below.drew ?_) | (with_reducible refine below_drewN ?_ _) | omega | (simp; done) | (simp; omega))))
   have HBX := Lib.hid hbx
   have hq1 : ¬ 9223372036854775807 < (kindW (i : Int)).length + 1 := by omega
   have hq2 : ¬ 9223372036854775807 < (kindW (i : Int)).length + 1 + s.length := by omega
   have HS : RowKit.Hid (∀ w', Below w1.heap.size w1 w' → (w'.cell? ⟨w.heap.size, 0, none⟩ = some (.int .i64 (i : Int)) ∧ w'.cell? ⟨w.heap.size, 1, none⟩ = some (.string (bs s)) ∧ Below w1.heap.size w1 w')) := Lib.hid (fun w' hb => ⟨cell_later hb q0, cell_later hb q1, hb⟩)
   go_wp2_with fail
   refine wp_region_late (fun w' => w'.cell? ⟨w.heap.size, 0, none⟩ = some (.int .i64 (i : Int)) ∧ w'.cell? ⟨w.heap.size, 1, none⟩ = some (.string (bs s)) ∧ Below w1.heap.size w1 w') [] (by kernel_rfl) ?_
   have hB0 : Below (w1).heap.size (w1) (w1).drew := Below.drew (Below.refl _ _)
   have hS0 := HS.out _ hB0
   refine wpAnyL_take 1 10 (v := ?_) rfl (by kernel_rfl) (by kernel_rfl) (by kernel_rfl) (by kernel_rfl) (by kernel_rfl) (fun _ _ _ h => h) (Or.inl ⟨by rfl, ?_⟩) hS0 ?_
   rotate_left
   ·intro w' hw';(try dsimp only at hw');go_simp;try with_reducible rfl
   try simp only [Act.put, sq0, sq1, sq2]
   refine wpAnyL_take 2 10 (v := ?_) rfl (by kernel_rfl) (by kernel_rfl) (by kernel_rfl) (by kernel_rfl) (by kernel_rfl) (fun _ _ _ h => h) (Or.inl ⟨by rfl, ?_⟩) hS0 ?_
   rotate_left
   ·intro w' hw';(try dsimp only at hw');go_simp;try with_reducible rfl
   try simp only [Act.put, sq0, sq1, sq2]
   refine wpAnyL_take 6 10 (v := ?_) rfl (by kernel_rfl) (by kernel_rfl) (by kernel_rfl) (by kernel_rfl) (by kernel_rfl) (fun _ _ _ h => h) (Or.inl ⟨by rfl, ?_⟩) hS0 ?_
   rotate_left
   ·intro w' hw';(try dsimp only at hw');go_simp;try with_reducible rfl
   try simp only [Act.put, sq0, sq1, sq2]
   refine wpAnyL_take 7 10 (v := ?_) rfl (by kernel_rfl) (by kernel_rfl) (by kernel_rfl) (by kernel_rfl) (by kernel_rfl) (fun _ _ _ h => h) (Or.inl ⟨by rfl, ?_⟩) hS0 ?_
   rotate_left
   ·intro w' hw';(try dsimp only at hw');go_simp;try with_reducible rfl
   try simp only [Act.put, sq0, sq1, sq2]
   refine wpAnyL_one 0 rfl (by kernel_rfl) (fun K hK => ?_)
   go_simp
   refine (rkinds_any _).mono ?_
   rintro e w2 ⟨rfl, hkc, hgl, hb2⟩
   have hB1 := below_next hB0 hb2
   have hS1 := HS.out _ hB1
   have hkw : w2.cell? ⟨w1.heap.size, i, none⟩ = some (.string (bs (kindW (i : Int)))) := hkc i (by omega)
   have hi0 : (0 : Int) ≤ (i : Int) := by omega
   have hi7 : (i : Int) < 7 := by omega
   refine hK.out _ _ (fun _ => hS1) ?_
   clear hK K hS0
   try simp only [Act.put, sq0, sq1, sq2]
   refine wpAnyL_one 3 rfl (by kernel_rfl) (fun K hK => ?_)
   go_simp
   refine hK.out _ _ (fun _ => hS1) ?_
   clear hK K
   try simp only [Act.put, sq0, sq1, sq2]
   refine wpAnyL_one 4 rfl (by kernel_rfl) (fun K hK => ?_)
   go_simp
   refine hK.out _ _ (fun _ => hS1) ?_
   clear hK K
   try simp only [Act.put, sq0, sq1, sq2]
   refine wpAnyL_one 5 rfl (by kernel_rfl) (fun K hK => ?_)
   go_simp
   refine hK.out _ _ (fun _ => hS1) ?_
   clear hK K
   try simp only [Act.put, sq0, sq1, sq2]
   refine wpAnyL_one 8 rfl (by kernel_rfl) (fun K hK => ?_)
   go_simp
   refine hK.out _ _ (fun _ => hS1) ?_
   clear hK K
   try simp only [Act.put, sq0, sq1, sq2]
   refine wpAnyL_one 9 rfl (by kernel_rfl) (fun K hK => ?_)
   go_simp
   refine hK.out _ _ (fun _ => hS1) ?_
   clear hK K
   try simp only [Act.put, sq0, sq1, sq2]
   refine wpAnyL_done (by kernel_rfl) ?_ _
   try simp only [Act.put, sq0, sq1, sq2]
   have r0 := cell_later hB1 q0
   have r1 := cell_later hB1 q1
   have r2 := cell_later hB1 q2
   have r3 := cell_later hB1 q3
   have r4 := cell_later hB1 q4
   have hb02 : Below w.heap.size w w2 := below_next HBX.out hB1
   clear q0 q1 q2 q3 q4 hS1 hB0 hB1 hbx hc1 hf1 hkc hkw hb2
   go_wp2_with fail
   refine (HV.out _ hb02).mono ?_
   rintro e w3 ⟨rfl, hb3⟩
   have s2 := cell_later hb3 r2
   go_wp2_with fail
   go_ret2
   exact ⟨by rw [HLine.out, HErr.out]; rfl, (by (repeat' (first | (with_reducible exact Below.refl _ _) | (with_reducible assumption) | (refine below_next ?_ (by with_reducible assumption)) | (with_reducible refine Below.setCell ?_ ?_ _) | (with_reducible refine Below.alloc ?_ ?_ _) | (with_reducible refine Below.drew ?_) | (with_reducible refine below_drewN ?_ _) | omega | (simp; done) | (simp; omega))))⟩
  ·have HLine : RowKit.Hid (lineE ((i : Int), s, key, vk, n, ln) = kindW (i : Int) ++ 32 :: s) := Lib.hid (by unfold lineE wordsE; rw [hm, if_pos rfl, hl, ← join2_eq]; rfl)
   rw [hm] at HM
   clear hm hl hr
   go_enter Tryz.func46, Tryz.ntmps46
   go_wp2_with (fail)
   refine (HM.out _ (by (repeat' (first | (with_reducible exact Below.refl _ _) | (with_reducible assumption) | (refine below_next ?_ (by with_reducible assumption)) | (with_reducible refine Below.setCell ?_ ?_ _) | (with_reducible refine Below.alloc ?_ ?_ _) | (with_reducible refine Below.drew ?_) | (with_reducible refine below_drewN ?_ _) | omega | (simp; done) | (simp; omega))))).mono ?_
   rintro e w1 ⟨rfl, hb1⟩
   obtain ⟨hc1, hf1⟩ := bcell hb1
   have hz1 := hb1.size
   try simp at hz1
   have hl1_0 : w.heap.size < w1.heap.size := by omega
   have q0 : w1.cell? ⟨w.heap.size, 0, none⟩ = some (.int .i64 (i : Int)) := by go_simp
   have q1 : w1.cell? ⟨w.heap.size, 1, none⟩ = some (.string (bs s)) := by go_simp
   have q2 : w1.cell? ⟨w.heap.size, 2, none⟩ = some (.string (bs key)) := by go_simp
   have q3 : w1.cell? ⟨w.heap.size, 3, none⟩ = some (.int .i64 vk) := by go_simp
   have q4 : w1.cell? ⟨w.heap.size, 4, none⟩ = some (.int .i64 n) := by go_simp
   have hbx : Below w.heap.size w w1 := (by (repeat' (first | (with_reducible exact Below.refl _ _) | (with_reducible assumption) | (refine below_next ?_ (by with_reducible assumption)) | (with_reducible refine Below.setCell ?_ ?_ _) | (with_reducible refine Below.alloc ?_ ?_ _) | (with_reducible refine Below.drew ?_) | (with_reducible refine below_drewN ?_ _) | omega | (simp; done) | (simp; omega))))
   have HBX := Lib.hid hbx
   have hq1 : ¬ 9223372036854775807 < (kindW (i : Int)).length + 1 := by omega
   have hq2 : ¬ 9223372036854775807 < (kindW (i : Int)).length + 1 + s.length := by omega
   have HS : RowKit.Hid (∀ w', Below w1.heap.size w1 w' → (w'.cell? ⟨w.heap.size, 0, none⟩ = some (.int .i64 (i : Int)) ∧ w'.cell? ⟨w.heap.size, 1, none⟩ = some (.string (bs s)) ∧ Below w1.heap.size w1 w')) := Lib.hid (fun w' hb => ⟨cell_later hb q0, cell_later hb q1, hb⟩)
   go_wp2_with fail
   refine wp_region_late (fun w' => w'.cell? ⟨w.heap.size, 0, none⟩ = some (.int .i64 (i : Int)) ∧ w'.cell? ⟨w.heap.size, 1, none⟩ = some (.string (bs s)) ∧ Below w1.heap.size w1 w') [] (by kernel_rfl) ?_
   have hB0 : Below (w1).heap.size (w1) (w1).drew := Below.drew (Below.refl _ _)
   have hS0 := HS.out _ hB0
   refine wpAnyL_take 1 10 (v := ?_) rfl (by kernel_rfl) (by kernel_rfl) (by kernel_rfl) (by kernel_rfl) (by kernel_rfl) (fun _ _ _ h => h) (Or.inl ⟨by rfl, ?_⟩) hS0 ?_
   rotate_left
   ·intro w' hw';(try dsimp only at hw');go_simp;try with_reducible rfl
   try simp only [Act.put, sq0, sq1, sq2]
   refine wpAnyL_take 2 10 (v := ?_) rfl (by kernel_rfl) (by kernel_rfl) (by kernel_rfl) (by kernel_rfl) (by kernel_rfl) (fun _ _ _ h => h) (Or.inl ⟨by rfl, ?_⟩) hS0 ?_
   rotate_left
   ·intro w' hw';(try dsimp only at hw');go_simp;try with_reducible rfl
   try simp only [Act.put, sq0, sq1, sq2]
   refine wpAnyL_take 6 10 (v := ?_) rfl (by kernel_rfl) (by kernel_rfl) (by kernel_rfl) (by kernel_rfl) (by kernel_rfl) (fun _ _ _ h => h) (Or.inl ⟨by rfl, ?_⟩) hS0 ?_
   rotate_left
   ·intro w' hw';(try dsimp only at hw');go_simp;try with_reducible rfl
   try simp only [Act.put, sq0, sq1, sq2]
   refine wpAnyL_take 7 10 (v := ?_) rfl (by kernel_rfl) (by kernel_rfl) (by kernel_rfl) (by kernel_rfl) (by kernel_rfl) (fun _ _ _ h => h) (Or.inl ⟨by rfl, ?_⟩) hS0 ?_
   rotate_left
   ·intro w' hw';(try dsimp only at hw');go_simp;try with_reducible rfl
   try simp only [Act.put, sq0, sq1, sq2]
   refine wpAnyL_one 0 rfl (by kernel_rfl) (fun K hK => ?_)
   go_simp
   refine (rkinds_any _).mono ?_
   rintro e w2 ⟨rfl, hkc, hgl, hb2⟩
   have hB1 := below_next hB0 hb2
   have hS1 := HS.out _ hB1
   have hkw : w2.cell? ⟨w1.heap.size, i, none⟩ = some (.string (bs (kindW (i : Int)))) := hkc i (by omega)
   have hi0 : (0 : Int) ≤ (i : Int) := by omega
   have hi7 : (i : Int) < 7 := by omega
   refine hK.out _ _ (fun _ => hS1) ?_
   clear hK K hS0
   try simp only [Act.put, sq0, sq1, sq2]
   refine wpAnyL_one 3 rfl (by kernel_rfl) (fun K hK => ?_)
   go_simp
   refine hK.out _ _ (fun _ => hS1) ?_
   clear hK K
   try simp only [Act.put, sq0, sq1, sq2]
   refine wpAnyL_one 4 rfl (by kernel_rfl) (fun K hK => ?_)
   go_simp
   refine hK.out _ _ (fun _ => hS1) ?_
   clear hK K
   try simp only [Act.put, sq0, sq1, sq2]
   refine wpAnyL_one 5 rfl (by kernel_rfl) (fun K hK => ?_)
   go_simp
   refine hK.out _ _ (fun _ => hS1) ?_
   clear hK K
   try simp only [Act.put, sq0, sq1, sq2]
   refine wpAnyL_one 8 rfl (by kernel_rfl) (fun K hK => ?_)
   go_simp
   refine hK.out _ _ (fun _ => hS1) ?_
   clear hK K
   try simp only [Act.put, sq0, sq1, sq2]
   refine wpAnyL_one 9 rfl (by kernel_rfl) (fun K hK => ?_)
   go_simp
   refine hK.out _ _ (fun _ => hS1) ?_
   clear hK K
   try simp only [Act.put, sq0, sq1, sq2]
   refine wpAnyL_done (by kernel_rfl) ?_ _
   try simp only [Act.put, sq0, sq1, sq2]
   have r0 := cell_later hB1 q0
   have r1 := cell_later hB1 q1
   have r2 := cell_later hB1 q2
   have r3 := cell_later hB1 q3
   have r4 := cell_later hB1 q4
   have hb02 : Below w.heap.size w w2 := below_next HBX.out hB1
   clear q0 q1 q2 q3 q4 hS1 hB0 hB1 hbx hc1 hf1 hkc hkw hb2
   go_wp2_with fail
   go_ret2
   exact ⟨by rw [HLine.out, HErr.out]; rfl, (by (repeat' (first | (with_reducible exact Below.refl _ _) | (with_reducible assumption) | (refine below_next ?_ (by with_reducible assumption)) | (with_reducible refine Below.setCell ?_ ?_ _) | (with_reducible refine Below.alloc ?_ ?_ _) | (with_reducible refine Below.drew ?_) | (with_reducible refine below_drewN ?_ _) | omega | (simp; done) | (simp; omega))))⟩
end
end Go.Proofs.YthgbfaoblnkniaaGreatDoor

namespace Go.Proofs.YthgbfaoblnkniaaGreatDoor
open Go.RowKit Go.Lib
def IsB (B b : Nat) (l : List UInt8) (w : World) : Prop := Lib.IsBuilder 76 5 B b (Lib.byteCells l) w
theorem isB_new (w : World) : IsB w.heap.size w.heap.size [] (w.alloc (.cells #[.pointer none, .slice none 0 0] 76)) := Lib.fresh_isBuilder _ _ w
theorem builderAt_later {T e : TypeId} {B b : Nat} {p : Value} {cs : List Value} {w w' : World} (h : Lib.BuilderAt T e B b p cs w) (hb : Below w.heap.size w w') : Lib.BuilderAt T e B b p cs w' := by
 have hlt := h.lt
 obtain ⟨hB, v, hbk, hown, hne⟩ := h
 exact ⟨hB, v, (hb.block b hlt).trans hbk, owns_later hown hb, hne⟩
theorem IsB.later {B b : Nat} {l : List UInt8} {w w' : World} (h : IsB B b l w) (hb : Below w.heap.size w w') : IsB B b l w' := by
 rcases h with h | h
 ·exact .inl (builderAt_later h hb)
 ·exact .inr (builderAt_later h hb)
theorem IsB.alloc {B b : Nat} {l : List UInt8} {w : World} (h : IsB B b l w) (o : Obj) : IsB B b l (w.alloc o) := h.later ((Below.refl _ _).alloc (Nat.le_refl _) o)
theorem IsB.drew {B b : Nat} {l : List UInt8} {w : World} (h : IsB B b l w) : IsB B b l w.drew := h.later (Below.refl _ _).drew
theorem IsB.lt {B b : Nat} {l : List UInt8} {w : World} (h : IsB B b l w) : b < w.heap.size := by
 rcases h with h | h
 ·exact h.lt
 ·exact h.lt
def Tryz.laysLen_ren : Go.Shelf.Ren := ⟨fun | 170 => 43 | n => n, Tryz.laysJoin_ren.t, fun n => n⟩
theorem Tryz.laysLen : Go.Proofs.Lays.n170 Tryz.prog Tryz.laysLen_ren := { Tryz.laysJoin with f170 := Tryz.func43.trans (congrArg some (by kernel_rfl)) }
theorem bwrite_any (B b : Nat) (l t : List UInt8) (w : World) (h : IsB B b l w) (hl : l.length + t.length ≤ 140737488355328) (hB : B ≤ w.heap.size) :
  Calls Tryz.prog 42 #[.pointer (some ⟨b, 0, none⟩), .string (bs t)] w fun e w' => e = .returned (.tuple #[.int .i64 t.length, .nilIface]) ∧ IsB B b (l ++ t) w' ∧ Below B w w' := by
 have h1 := Any.Builder_WriteString { Tryz.laysJoin with } Tryz.extraJoin B b (Lib.byteCells l) (bs t) w h (by rw [Lib.byteCells_length, bs_size]; exact hl) hB
 refine h1.mono ?_
 rintro e w' ⟨rfl, h2, h3⟩
 refine ⟨by rw [bs_size], ?_, h3⟩
 have e1 : Lib.byteCells l ++ Lib.strCells (bs t) = Lib.byteCells (l ++ t) := by
  rw [show Lib.strCells (bs t) = Lib.byteCells t from rfl]
  simp [Lib.byteCells]
 rw [e1] at h2
 exact .inr h2
theorem bstring_any (B b : Nat) (l : List UInt8) (w : World) (h : IsB B b l w) (hB : B ≤ w.heap.size) :
  Calls Tryz.prog 44 #[.pointer (some ⟨b, 0, none⟩)] w fun e w' => e = .returned (.string (bs l)) ∧ Below B w w' :=
 Any.Builder_String_any { Tryz.laysJoin with } Tryz.extraJoin B b l w h hB
theorem blen_any (B b : Nat) (l : List UInt8) (w : World) (h : IsB B b l w) :
  Calls Tryz.prog 43 #[.pointer (some ⟨b, 0, none⟩)] w fun e w' => e = .returned (.int .i64 l.length) ∧ w = w' := by
 have h1 := Any.Builder_Len Tryz.laysLen B b (Lib.byteCells l) w h
 refine h1.mono ?_
 rintro e w' ⟨rfl, h2⟩
 exact ⟨by rw [Lib.byteCells_length], h2.symm⟩
end Go.Proofs.YthgbfaoblnkniaaGreatDoor

namespace Go.Proofs.YthgbfaoblnkniaaGreatDoor
open Go.RowKit Go.Lib
theorem join_one (x : List UInt8) : join [x] [32] = x := by simp [join]
theorem lineE_len (x : EventM) (h1 : x.2.1.length ≤ 1000000) (h2 : x.2.2.1.length ≤ 1000000) (h3 : NumE x) : (lineE x).length ≤ 3000000 := by
 unfold lineE
 split
 ·unfold wordsE
  have hk := kindW_len x.1
  have hv := txt_len x.2.2.2.1 x.2.2.2.2.1 h3.1 h3.2
  split
  ·rw [join_two, join_two, join_two, join_one]
   simp only [List.length_append, List.length_cons]
   omega
  ·rw [join_two, join_one]
   simp only [List.length_append, List.length_cons]
   omega
 ·simp
theorem cat_stop (x : EventM) (r : List EventM) (s : List UInt8) (h : 65536 < (s ++ (lineE x ++ [10])).length) : catGo (x :: r) s = ([], 6) := by
 unfold catGo
 rw [if_pos (by rw [List.append_assoc]; exact h)]
theorem cat_more (x : EventM) (r : List EventM) (s : List UInt8) (h : ¬ 65536 < (s ++ (lineE x ++ [10])).length) : catGo (x :: r) s = catGo r (s ++ (lineE x ++ [10])) := by
 rw [catGo, if_neg (by rw [List.append_assoc]; exact h), List.append_assoc]
theorem drop_cons (L : List EventM) (k : Nat) (h : k < L.length) : L.drop k = L.getD k noEv :: L.drop (k + 1) := by
 rw [List.drop_eq_getElem_cons h]
 simp [h]
set_option maxRecDepth 100000 in
set_option maxHeartbeats 4000000 in
theorem logprint_any (v : Value) (L : List EventM) (w : World) (hv : EvsS w v L) (hL : L.length ≤ 1000000) (hM : ModE L) (hT : Lib.Utf8Tabs 1 2 w) (hE : EvTab w) :
  Calls Tryz.prog 21 #[v] w fun e w' => e = .returned (.tuple #[.string (bs (writeL L).1), .int .i64 (writeL L).2]) ∧ Below w.heap.size w w' := by
 have HA := Lib.hid (evcontains_any v L w hv hL hM hT)
 have HP := Lib.hid (fun k (hk : k < L.length) w' (h : Below w.heap.size w w') => eprint_any (L.getD k noEv).1 (L.getD k noEv).2.1 (L.getD k noEv).2.2.1 (L.getD k noEv).2.2.2.1 (L.getD k noEv).2.2.2.2.1 (L.getD k noEv).2.2.2.2.2 (hM.at k hk).1 (hM.at k hk).2.1 (hM.at k hk).2.2.1 (hM.at k hk).2.2.2 w' (Utf8Tabs_below hT h) (hE.below h))
 have HLn := Lib.hid (fun k (hk : k < L.length) => lineE_len (L.getD k noEv) (hM.at k hk).1 (hM.at k hk).2.1 (hM.at k hk).2.2)
 have hen := enters_of Tryz.func39 (by kernel_rfl) rfl
 obtain ⟨p, c, rfl, hp⟩ := hv
 have HX := Lib.hid hp
 clear hp hT hE hM hen
 unfold writeL
 cases hall : L.all mayE with
 | false =>
  rw [hall] at HA
  rw [if_neg (by decide)]
  clear hall HP HLn
  go_enter Tryz.func21, Tryz.ntmps21
  go_wp2_with fail
  refine HA.out.mono ?_
  rintro e w1 ⟨rfl, hb1⟩
  go_wp2_with fail
  go_ret2
  exact ⟨rfl, hb1⟩
 | true =>
  rw [hall] at HA
  rw [if_pos rfl]
  clear hall
  obtain ⟨R, hR⟩ : ∃ R, catGo L [] = R := ⟨_, rfl⟩
  rw [hR]
  have HR0 := Lib.hid hR
  clear hR
  go_enter Tryz.func21, Tryz.ntmps21
  go_wp2_with fail
  refine HA.out.mono ?_
  rintro e w1 ⟨rfl, hb1⟩
  have HB1 := Lib.hid hb1
  have HN1 := Lib.hid (isB_new w1)
  clear hb1
  go_wp2_with fail
  go_loopw [13] (fun i wr => ∃ (k : Nat) (s : List UInt8), k ≤ L.length ∧ i = .int .i64 k ∧ s.length ≤ 65536 ∧ IsB w1.heap.size w1.heap.size s wr ∧ RowKit.Hid (catGo (L.drop k) s = R) ∧ Below w1.heap.size w1 wr) (fun i _ => L.length - (RowKit.intOf i).toNat)
  case atStart => exact ⟨0, [], Nat.zero_le _, rfl, Nat.zero_le _, HN1.out, Lib.hid (by rw [List.drop_zero]; exact HR0.out), (Below.refl _ _).alloc (Nat.le_refl _) _⟩
  case round =>
   obtain ⟨k, s, hk, rfl, hs, hB, HR, hbw⟩ := hrel
   have HIB := Lib.hid hB
   have hBz := hbw.size
   clear hB
   by_cases hk1 : k < L.length
   ·obtain ⟨g, rfl, hcell⟩ := HX.out k hk1
    have hd := drop_cons L k hk1
    have HG := Lib.hid HR.out
    rw [hd] at HG
    have hbo := below_next HB1.out hbw
    have HPk := Lib.hid (HP.out k hk1)
    have hln := HLn.out k hk1
    have hfr := HB1.out
    have a0 := cell_later hbo (hcell 0 _ rfl)
    have a1 := cell_later hbo (hcell 1 _ rfl)
    have a2 := cell_later hbo (hcell 2 _ rfl)
    have a3 := cell_later hbo (hcell 3 _ rfl)
    have a4 := cell_later hbo (hcell 4 _ rfl)
    have a5 := cell_later hbo (hcell 5 _ rfl)
    simp only [Nat.add_zero] at a0 a1 a2 a3 a4 a5
    clear hcell hd HR hfr
    obtain ⟨t, ht⟩ : ∃ t, L.getD k noEv = t := ⟨_, rfl⟩
    rw [ht] at HG HPk hln a0 a1 a2 a3 a4 a5
    obtain ⟨x1, x2, x3, x4, x5, x6⟩ := t
    simp only at HPk a0 a1 a2 a3 a4 a5
    have HBO := Lib.hid hbo
    have HBW := Lib.hid hbw
    obtain ⟨tl, htl⟩ : ∃ tl, lineE (x1, x2, x3, x4, x5, x6) = tl := ⟨_, rfl⟩
    have HST := Lib.hid (cat_stop (x1, x2, x3, x4, x5, x6) (L.drop (k + 1)) s)
    have HMO := Lib.hid (cat_more (x1, x2, x3, x4, x5, x6) (L.drop (k + 1)) s)
    rw [htl] at HPk hln HST HMO
    clear ht hbo hbw htl
    go_wp2_with fail
    refine (HPk.out _ (HBO.out.alloc HBO.out.size _)).mono ?_
    rintro e w2 ⟨rfl, hb2⟩
    have hw2 : Below wr.heap.size wr w2 := below_next ((Below.refl _ _).alloc (Nat.le_refl _) _) hb2
    have hB2 := HIB.out.later hw2
    have hz2 := hw2.size
    go_wp2_with fail
    refine (bwrite_any w1.heap.size w1.heap.size s (tl ++ [10]) _ hB2 (by simp; omega) (by omega)).mono ?_
    rintro e w3 ⟨rfl, hB3, hb3⟩
    obtain ⟨S', hS'⟩ : ∃ S', s ++ (tl ++ [10]) = S' := ⟨_, rfl⟩
    rw [hS'] at hB3 HST HMO
    have HB3 := Lib.hid hB3
    have hbw3 : Below w1.heap.size w1 w3 := (HBW.out.trans (hw2.mono hBz)).trans hb3
    have HBW3 := Lib.hid hbw3
    clear hB2 hb2 hS' hB3 hb3 hbw3
    by_cases hbig : 65536 < S'.length
    ·have HE : RowKit.Hid (R = ([], 6)) := Lib.hid (by rw [← HG.out]; exact HST.out hbig)
     have hdec : decide ((65536 : Int) < (S'.length : Int)) = true := decide_eq_true (by omega)
     clear HST HMO HG
     go_wp2_with fail
     refine (blen_any w1.heap.size w1.heap.size S' _ HB3.out).mono ?_
     rintro e w4 ⟨rfl, rfl⟩
     go_wp2_with fail
     go_ret2
     exact ⟨by rw [HE.out]; rfl, below_next HB1.out HBW3.out⟩
    ·have HE : RowKit.Hid (catGo (L.drop (k + 1)) S' = R) := Lib.hid (by rw [← HG.out]; exact (HMO.out hbig).symm)
     have hdec : decide ((65536 : Int) < (S'.length : Int)) = false := decide_eq_false (by omega)
     clear HST HMO HG
     go_wp2_with fail
     refine (blen_any w1.heap.size w1.heap.size S' _ HB3.out).mono ?_
     rintro e w4 ⟨rfl, rfl⟩
     go_wp2_with fail
     go_roundw
     case rel => exact ⟨k + 1, S', by omega, by go_num, by omega, HB3.out, HE, HBW3.out⟩
     case measure => simp [RowKit.intOf]; omega
   ·have hke : k = L.length := by omega
    subst hke
    have HE : RowKit.Hid (R = (s, 0)) := Lib.hid (by rw [← HR.out, List.drop_length]; rfl)
    clear HR
    go_wp2_with fail
    refine (bstring_any w1.heap.size w1.heap.size s _ HIB.out (by omega)).mono ?_
    rintro e w4 ⟨rfl, hb4⟩
    go_wp2_with fail
    go_ret2
    exact ⟨by rw [HE.out]; rfl, below_next HB1.out (hbw.trans hb4)⟩
theorem write_no (L : List EventM) (k : Nat) (hk : k < L.length) (h : mayE (L.getD k noEv) = false) : writeL L = ([], 4) := by
 unfold writeL
 rw [if_neg]
 intro h1
 rw [List.all_eq_true] at h1
 have := h1 (L.getD k noEv) (by
  have : L.getD k noEv = L[k] := by simp [hk]
  rw [this]
  exact List.getElem_mem hk)
 rw [h] at this
 cases this
theorem write_yes (L : List EventM) (h : ∀ k, k < L.length → mayE (L.getD k noEv) = true) : writeL L = catGo L [] := by
 unfold writeL
 rw [if_pos]
 rw [List.all_eq_true]
 intro x hx
 obtain ⟨k, hk, e⟩ := List.getElem_of_mem hx
 have := h k hk
 simpa [hk, e] using this
set_option maxRecDepth 100000 in
set_option maxHeartbeats 4000000 in
theorem rlogprint_any (v : Value) (L : List EventM) (w : World) (hv : EvsS w v L) (hL : L.length ≤ 1000000) (hM : ModE L) :
  Calls Tryz.prog 22 #[v] w fun e w' => e = .returned (.tuple #[.string (bs (writeL L).1), .int .i64 (writeL L).2]) ∧ Below w.heap.size w w' := by
 have HP := Lib.hid (fun k (hk : k < L.length) w' => reprint_any (L.getD k noEv).1 (L.getD k noEv).2.1 (L.getD k noEv).2.2.1 (L.getD k noEv).2.2.2.1 (L.getD k noEv).2.2.2.2.1 (L.getD k noEv).2.2.2.2.2 (hM.at k hk).1 (hM.at k hk).2.1 (hM.at k hk).2.2.1 (hM.at k hk).2.2.2 w')
 have HQ := Lib.hid (fun k (hk : k < L.length) w' => remay_any (L.getD k noEv).1 (L.getD k noEv).2.1 (L.getD k noEv).2.2.1 (L.getD k noEv).2.2.2.1 (L.getD k noEv).2.2.2.2.1 (L.getD k noEv).2.2.2.2.2 (hM.at k hk).1 (hM.at k hk).2.1 w')
 have HLn := Lib.hid (fun k (hk : k < L.length) => lineE_len (L.getD k noEv) (hM.at k hk).1 (hM.at k hk).2.1 (hM.at k hk).2.2)
 have HNo := Lib.hid (fun k (hk : k < L.length) => write_no L k hk)
 have HYes := Lib.hid (write_yes L)
 obtain ⟨R, hR⟩ : ∃ R, writeL L = R := ⟨_, rfl⟩
 rw [hR] at HNo HYes
 rw [hR]
 obtain ⟨p, c, rfl, hp⟩ := hv
 have HX := Lib.hid hp
 clear hp hM hR
 go_enter Tryz.func22, Tryz.ntmps22
 go_upto_block 0 with fail
 go_cut [] (fun wx => (∀ k, k < L.length → mayE (L.getD k noEv) = true) ∧ Below w.heap.size w wx)
 case first =>
  go_wp2_with fail
  go_loopw [4] (fun i wr => ∃ k : Nat, k ≤ L.length ∧ i = .int .i64 k ∧ (∀ j, j < k → mayE (L.getD j noEv) = true) ∧ Below w.heap.size w wr) (fun i _ => L.length - (RowKit.intOf i).toNat)
  case atStart => exact ⟨0, Nat.zero_le _, rfl, fun j hj => absurd hj (Nat.not_lt_zero j), Below.refl _ _⟩
  case round =>
   obtain ⟨k, hk, rfl, hn, hbw⟩ := hrel
   have HN := Lib.hid hn
   clear hn
   by_cases hk1 : k < L.length
   ·obtain ⟨g, rfl, hcell⟩ := HX.out k hk1
    have HM := Lib.hid (HQ.out k hk1 wr)
    have HY := Lib.hid (HNo.out k hk1)
    have HK : RowKit.Hid (mayE (L.getD k noEv) = true → ∀ j, j < k + 1 → mayE (L.getD j noEv) = true) := Lib.hid (fun h j hj => by
     by_cases hjk : j < k
     ·exact HN.out j hjk
     ·obtain rfl : j = k := by omega
      exact h)
    have a0 := cell_later hbw (hcell 0 _ rfl)
    have a1 := cell_later hbw (hcell 1 _ rfl)
    have a2 := cell_later hbw (hcell 2 _ rfl)
    have a3 := cell_later hbw (hcell 3 _ rfl)
    have a4 := cell_later hbw (hcell 4 _ rfl)
    have a5 := cell_later hbw (hcell 5 _ rfl)
    simp only [Nat.add_zero] at a0 a1 a2 a3 a4 a5
    obtain ⟨t, ht⟩ : ∃ t, L.getD k noEv = t := ⟨_, rfl⟩
    rw [ht] at HM HY HK a0 a1 a2 a3 a4 a5
    obtain ⟨x1, x2, x3, x4, x5, x6⟩ := t
    obtain ⟨b, hb⟩ : ∃ b, mayE (x1, x2, x3, x4, x5, x6) = b := ⟨_, rfl⟩
    simp only at HM a0 a1 a2 a3 a4 a5
    rw [hb] at HM HY HK
    clear hcell hb ht
    cases b with
    | false =>
     have hR := HY.out rfl
     subst hR
     go_wp2_with (first | (go_at_call 45; refine HM.out.mono ?_; rintro e w1 ⟨rfl, hb1⟩))
     go_ret2
     exact ⟨rfl, below_next hbw hb1⟩
    | true =>
     go_wp2_with (first | (go_at_call 45; refine HM.out.mono ?_; rintro e w1 ⟨rfl, hb1⟩))
     go_roundw
     case rel => exact ⟨k + 1, by omega, by go_num, HK.out trivial, below_next hbw hb1⟩
     case measure => simp [RowKit.intOf]; omega
   ·have hke : k = L.length := by omega
    subst hke
    go_wp2_with fail
    go_meet
    exact ⟨HN.out, hbw⟩
 case rest =>
  obtain ⟨hall, hbw0⟩ := hcut
  obtain ⟨wo, rfl⟩ : ∃ wo : World, wo = wc := ⟨_, rfl⟩
  have HRe := Lib.hid (HYes.out hall)
  clear hall
  go_wp2_with fail
  go_loopw [5, 6] (fun v5 i wr => ∃ (k : Nat) (s : List UInt8), k ≤ L.length ∧ v5 = .string (bs s) ∧ i = .int .i64 k ∧ s.length ≤ 65536 ∧ RowKit.Hid (catGo (L.drop k) s = R) ∧ Below wo.heap.size wo wr) (fun _ i _ => L.length - (RowKit.intOf i).toNat)
  case atStart => exact ⟨0, [], Nat.zero_le _, rfl, rfl, Nat.zero_le _, Lib.hid (by rw [List.drop_zero]; exact HRe.out.symm), Below.refl _ _⟩
  case round =>
   obtain ⟨k, s, hk, rfl, rfl, hs, HR, hbw⟩ := hrel
   by_cases hk1 : k < L.length
   ·obtain ⟨g, rfl, hcell⟩ := HX.out k hk1
    have hd := drop_cons L k hk1
    have HG := Lib.hid HR.out
    rw [hd] at HG
    have hbo := below_next hbw0 hbw
    have HPk := Lib.hid (HP.out k hk1)
    have hln := HLn.out k hk1
    have a0 := cell_later hbo (hcell 0 _ rfl)
    have a1 := cell_later hbo (hcell 1 _ rfl)
    have a2 := cell_later hbo (hcell 2 _ rfl)
    have a3 := cell_later hbo (hcell 3 _ rfl)
    have a4 := cell_later hbo (hcell 4 _ rfl)
    have a5 := cell_later hbo (hcell 5 _ rfl)
    simp only [Nat.add_zero] at a0 a1 a2 a3 a4 a5
    clear hcell hd HR
    obtain ⟨t, ht⟩ : ∃ t, L.getD k noEv = t := ⟨_, rfl⟩
    rw [ht] at HG HPk hln a0 a1 a2 a3 a4 a5
    obtain ⟨x1, x2, x3, x4, x5, x6⟩ := t
    simp only at HPk a0 a1 a2 a3 a4 a5
    obtain ⟨tl, htl⟩ : ∃ tl, lineE (x1, x2, x3, x4, x5, x6) = tl := ⟨_, rfl⟩
    have HST := Lib.hid (cat_stop (x1, x2, x3, x4, x5, x6) (L.drop (k + 1)) s)
    have HMO := Lib.hid (cat_more (x1, x2, x3, x4, x5, x6) (L.drop (k + 1)) s)
    rw [htl] at HPk hln HST HMO
    clear ht hbo htl
    have hlen : (s ++ (tl ++ [10])).length = s.length + (tl.length + 1) := by simp
    rw [hlen] at HST HMO
    clear hlen
    by_cases hbig : 65536 < s.length + (tl.length + 1)
    ·have HE : RowKit.Hid (R = ([], 6)) := Lib.hid (by rw [← HG.out]; exact HST.out hbig)
     have hdec : decide ((65536 : Int) < (s.length : Int) + ((tl.length : Int) + 1)) = true := decide_eq_true (by omega)
     clear HST HMO HG hbig
     go_wp2_with fail
     refine (HPk.out _).mono ?_
     rintro e w2 ⟨rfl, hb2⟩
     go_wp2_with fail
     go_ret2
     exact ⟨by rw [HE.out]; rfl, below_next hbw0 (below_next hbw hb2)⟩
    ·have HE : RowKit.Hid (catGo (L.drop (k + 1)) (s ++ (tl ++ [10])) = R) := Lib.hid (by rw [← HG.out]; exact (HMO.out hbig).symm)
     have hdec : decide ((65536 : Int) < (s.length : Int) + ((tl.length : Int) + 1)) = false := decide_eq_false (by omega)
     have HBG := Lib.hid hbig
     clear HST HMO HG hbig
     go_wp2_with fail
     refine (HPk.out _).mono ?_
     rintro e w2 ⟨rfl, hb2⟩
     go_wp2_with fail
     go_roundw
     case rel => exact ⟨k + 1, s ++ (tl ++ [10]), by omega, rfl, by go_num, by have := HBG.out; simp; omega, HE, below_next hbw hb2⟩
     case measure => simp [RowKit.intOf]; omega
   ·have hke : k = L.length := by omega
    subst hke
    have HE : RowKit.Hid (R = (s, 0)) := Lib.hid (by rw [← HR.out, List.drop_length]; rfl)
    clear HR
    go_wp2_with fail
    go_ret2
    exact ⟨by rw [HE.out]; rfl, below_next hbw0 hbw⟩
end Go.Proofs.YthgbfaoblnkniaaGreatDoor

namespace Go.Proofs.YthgbfaoblnkniaaGreatDoor
open Go.ChangeShapes Go.WideShapes Go.ChangeAt Go.RowKit Go.Joins
def EvsA (w : World) (v : Value) (L : List EventM) : Prop := SlR 6 EvR w v L
theorem EvsA.below {w w' : World} {v : Value} {L : List EventM} (h : EvsA w v L) (hb : Below w.heap.size w w') : EvsA w' v L := SlR.below (fun _ _ _ _ _ h => h) h hb
section
variable {H : Type} {enc : TypeId × Value → H} {w : World} {base : Nat} {spare : Nat → Bool} {held : Bool}
end
theorem own_evsA {w : World} {B : Nat} {e : TypeId} {v : Value} {L : List EventM} (h : w.ownsRow B e 6 v L.length (evcs L)) (hL : ∀ x ∈ L, x.2.1.length ≤ 9223372036854775807 ∧ x.2.2.1.length ≤ 9223372036854775807 ∧ NumE x) : EvsA w v L := by
 obtain ⟨h1, ⟨rfl, h0⟩ | ⟨g, cap, cur, rfl, -, hw, hc, hm, hs, ht⟩⟩ := h
 ·have : L = [] := List.eq_nil_of_length_eq_zero h0
  subst this
  exact ⟨none, 0, rfl, Nat.le_refl _, Nat.zero_le _, fun j hj => absurd hj (Nat.not_lt_zero j)⟩
 ·refine ⟨_, cap, rfl, hc, hm, fun j hj => ⟨⟨g, 0, none⟩, evc L[j], rfl, rfl, fun i u hu => ?_, rfl, hL _ (List.getElem_mem hj)⟩⟩
  have hi : i < 6 := (List.getElem?_eq_some_iff.1 hu).1
  have hD : L.getD j noEv = L[j] := by simp [hj]
  have h2 := congrArg (fun x : List Value => x[j * 6 + i]?) ht
  simp only [List.getElem?_take, show j * 6 + i < L.length * 6 by omega, if_true, Array.getElem?_toList] at h2
  rw [Addr.add_lit, Nat.zero_add, cell_of_row w g (j * 6 + i) _ _ (0, 0) hw, h2, evcs_get L j i hj hi, hD]
  exact hu
theorem few_good {L : List EventM} (hL : ∀ x ∈ L, x.2.1.length ≤ 9223372036854775807 ∧ x.2.2.1.length ≤ 9223372036854775807 ∧ NumE x) : ∀ x ∈ fewE L, x.2.1.length ≤ 200 ∧ x.2.2.1.length ≤ 200 ∧ NumE x := by
 intro x hx
 unfold fewE at hx
 obtain ⟨y, hy, rfl⟩ := List.mem_map.1 hx
 have h3 := (hL y (List.mem_of_mem_take hy)).2.2
 refine ⟨?_, ?_, h3⟩
 ·simp [cutE]; omega
 ·simp [cutE]; omega
end Go.Proofs.YthgbfaoblnkniaaGreatDoor

namespace Go.Proofs.YthgbfaoblnkniaaGreatDoor
open Go.RowKit
section
variable {P : Program} {ops : Array Oper} {Q : Exit → Act → World → Prop} {md : Region.Mode} {S : World → Prop} {late : List Nat}
def wpAnyM (P : Program) (md : Region.Mode) (ops : Array Oper) (Q : Exit → Act → World → Prop) (S : World → Prop) (late : List Nat) : Nat → Array Bool → Act → World → Prop
 | 0, listed, a, w => Region.ready md ops listed = [] ∧ Q .normal a w
 | fuel + 1, listed, a, w =>
  (Region.ready md ops listed = [] → Q .normal a w) ∧
  ∀ i ∈ Region.ready md ops listed, wpOp P ops Q i (fun a' w' => (late.contains i = false → S w → S w') ∧ wpAnyM P md ops Q S late fuel (listed.setIfInBounds i true) a' w') a w
theorem wpAny_of_keep : ∀ (fuel : Nat) (listed : Array Bool) (a : Act) (w : World), wpAnyM P md ops Q S late fuel listed a w → wpAny P md ops Q fuel listed a w
 | 0, _, _, _, h => h
 | fuel + 1, _, _, _, h => ⟨h.1, fun i hi => wpOp_mono (fun a' w' h' => wpAny_of_keep fuel _ a' w' h'.2) (h.2 i hi)⟩
def waitsN' (md : Region.Mode) (ops : Array Oper) : Nat → Nat → Nat → Bool
 | 0, _, _ => false
 | n + 1, l, i => match ops[l]? with
  | some o => o.after.any fun e => Region.binds md e && (e.on == i || waitsN' md ops n e.on i)
  | none => false
def closedB' (md : Region.Mode) (ops : Array Oper) (listed : Array Bool) : Bool := (List.range ops.size).all fun j => !listed.getD j true || match ops[j]? with
 | some o => o.after.all fun e => !Region.binds md e || listed.getD e.on true
 | none => true
def ClosedM (md : Region.Mode) (ops : Array Oper) (listed : Array Bool) : Prop := ∀ j o, ops[j]? = some o → listed.getD j true = true → ∀ e ∈ o.after, Region.binds md e = true → listed.getD e.on true = true
theorem closed_of' {listed : Array Bool} (h : closedB' md ops listed = true) : ClosedM md ops listed := by
 intro j o ho hj e he hb
 have hlt : j < ops.size := (Array.getElem?_eq_some_iff.1 ho).1
 have h1 := List.all_eq_true.1 h j (List.mem_range.2 hlt)
 simp only [hj, Bool.not_true, Bool.false_or, ho] at h1
 have h2 := Array.all_eq_true_iff_forall_mem.1 h1 e he
 simpa [hb] using h2
theorem ready_on' {listed : Array Bool} {j : Nat} {o : Oper} (hj : j ∈ Region.ready md ops listed) (ho : ops[j]? = some o) : ∀ e ∈ o.after, Region.binds md e = true → listed.getD e.on true = true := by
 intro e he hb
 obtain ⟨-, o', ho', hall⟩ := mem_ready.1 hj
 obtain rfl := Option.some.inj (ho.symm.trans ho')
 have h1 := hall e he hb
 rcases Nat.lt_or_ge e.on listed.size with h' | h'
 ·simp [h'] at h1 ⊢; exact h1
 ·simp [Array.getElem?_eq_none h'] at h1
theorem ClosedM.next {listed : Array Bool} (h : ClosedM md ops listed) {j : Nat} (hj : j ∈ Region.ready md ops listed) : ClosedM md ops (listed.setIfInBounds j true) := by
 have up : ∀ k, listed.getD k true = true → (listed.setIfInBounds j true).getD k true = true := by
  intro k hk
  by_cases hjk : j = k
  ·subst hjk
   rcases Nat.lt_or_ge j listed.size with h' | h'
   ·simp [h']
   ·simp
  ·rw [getD_set_ne true hjk]; exact hk
 intro k o ho hk e he hb
 apply up
 by_cases hjk : j = k
 ·subst hjk
  exact ready_on' hj ho e he hb
 ·rw [getD_set_ne true hjk] at hk
  exact h k o ho hk e he hb
theorem waits_open' {i : Nat} {listed : Array Bool} (hc : ClosedM md ops listed) (hi : listed.getD i true = false) : ∀ n l, waitsN' md ops n l i = true → listed.getD l true = false ∧ l ∉ Region.ready md ops listed
 | 0, _, h => by cases h
 | n + 1, l, h => by
  unfold waitsN' at h
  split at h
  ·rename_i o ho
   obtain ⟨e, he, hb⟩ := Array.any_eq_true'.1 h
   simp only [Bool.and_eq_true, Bool.or_eq_true, beq_iff_eq] at hb
   have hne : listed.getD e.on true = false := by
    rcases hb.2 with h1 | h1
    ·rw [h1]; exact hi
    ·exact (waits_open' hc hi n e.on h1).1
   constructor
   ·cases hl : listed.getD l true with
    | false => rfl
    | true => rw [hc l o ho hl e he hb.1] at hne; cases hne
   ·intro hr
    rw [ready_on' hr ho e he hb.1] at hne
    cases hne
  ·cases h
theorem wpAnyM_first {i n : Nat} {oi : Oper} {v : Value} (hi : ops[i]? = some oi) (hsel : ∀ (j : Nat) (o : Oper) cs b, ops[j]? = some o → o.op ≠ .select cs b)
  (hQ : ∀ c a w, Q (.panic c) (a.put oi.dst v) w → Q (.panic c) a w) (hw : late.all (fun l => waitsN' md ops n l i) = true) :
  ∀ (fuel : Nat) (listed : Array Bool) (a : Act) (w : World), ClosedM md ops listed →
   (∀ j oj, ops[j]? = some oj → j ≠ i → listed.getD j true = false → (∀ e ∈ oj.after, Region.binds md e = true → e.on ≠ i) → oi.apart ops oj = true) →
   i ∈ Region.ready md ops listed → YieldsIf P ops S oi v a → S w →
   wpAnyM P md ops Q S late fuel (listed.setIfInBounds i true) (a.put oi.dst v) w → wpAnyM P md ops Q S late (fuel + 1) listed a w := by
 intro fuel
 induction fuel with
 | zero =>
  intro listed a w _ _ hr hy hS H
  refine ⟨fun h => (by rw [h] at hr; cases hr), fun j hj => ?_⟩
  by_cases hji : j = i
  ·subst hji; exact hy.wpOp hi hS ⟨fun _ h => h, H⟩
  ·have := ready_mono hj hji
   rw [H.1] at this
   cases this
 | succ fuel ih =>
  intro listed a w hcl hfree hr hy hS H
  refine ⟨fun h => (by rw [h] at hr; cases hr), fun j hj => ?_⟩
  by_cases hji : j = i
  ·subst hji; exact hy.wpOp hi hS ⟨fun _ h => h, H⟩
  ·have hjl : late.contains j = false := by
    cases hc : late.contains j with
    | false => rfl
    | true =>
     have hm : j ∈ late := by simpa using hc
     exact absurd hj (waits_open' hcl (mem_ready.1 hr).1 n j (List.all_eq_true.1 hw j hm)).2
   have h1 := H.2 j (ready_mono hj hji)
   obtain ⟨hjun, oj, hoj, hall⟩ := mem_ready.1 hj
   have hnot : ∀ e ∈ oj.after, Region.binds md e = true → e.on ≠ i := fun e he hb heq => by
    have h1 := hall e he hb
    have h0 := (mem_ready.1 hr).1
    rw [heq] at h1
    rcases Nat.lt_or_ge i listed.size with h' | h'
    ·simp [h'] at h0 h1; rw [h0] at h1; cases h1
    ·simp [Array.getElem?_eq_none h'] at h1
   have h2 := wpOp_putIf hoj (hfree j oj hoj hji hjun hnot) (fun cs b => hsel i oi cs b hi) (fun cs b => hsel j oj cs b hoj) hQ hy h1
   have hfree' : ∀ k ok, ops[k]? = some ok → k ≠ i → (listed.setIfInBounds j true).getD k true = false →
     (∀ e ∈ ok.after, Region.binds md e = true → e.on ≠ i) → oi.apart ops ok = true := fun k ok hk hki hun hno => by
    refine hfree k ok hk hki ?_ hno
    by_cases hjk : j = k
    ·subst hjk; exact hjun
    ·rw [getD_set_ne true hjk] at hun; exact hun
   refine wpOp_mono (fun a' w' h3 => ⟨fun _ => h3.2.1 hjl, ih (listed.setIfInBounds j true) a' w' (hcl.next hj) hfree' (ready_mono hr (Ne.symm hji)) h3.1 (h3.2.1 hjl hS) ?_⟩) h2
   rw [Array.setIfInBounds_comm _ _ hji]
   exact h3.2.2
theorem wpAnyM_loose {i : Nat} {oi : Oper} {v : Value} (hi : ops[i]? = some oi) (hsel : ∀ (j : Nat) (o : Oper) cs b, ops[j]? = some o → o.op ≠ .select cs b)
  (hQ : ∀ c a w, Q (.panic c) (a.put oi.dst v) w → Q (.panic c) a w) :
  ∀ (fuel : Nat) (listed : Array Bool) (a : Act) (w : World),
   (∀ j oj, ops[j]? = some oj → j ≠ i → listed.getD j true = false → (∀ e ∈ oj.after, Region.binds md e = true → e.on ≠ i) → oi.apart ops oj = true) →
   i ∈ Region.ready md ops listed → YieldsIf P ops (fun _ => True) oi v a →
   wpAnyM P md ops Q S late fuel (listed.setIfInBounds i true) (a.put oi.dst v) w → wpAnyM P md ops Q S late (fuel + 1) listed a w := by
 intro fuel
 induction fuel with
 | zero =>
  intro listed a w _ hr hy H
  refine ⟨fun h => (by rw [h] at hr; cases hr), fun j hj => ?_⟩
  by_cases hji : j = i
  ·subst hji; exact hy.wpOp hi trivial ⟨fun _ h => h, H⟩
  ·have := ready_mono hj hji
   rw [H.1] at this
   cases this
 | succ fuel ih =>
  intro listed a w hfree hr hy H
  refine ⟨fun h => (by rw [h] at hr; cases hr), fun j hj => ?_⟩
  by_cases hji : j = i
  ·subst hji; exact hy.wpOp hi trivial ⟨fun _ h => h, H⟩
  ·have h1 := H.2 j (ready_mono hj hji)
   obtain ⟨hjun, oj, hoj, hall⟩ := mem_ready.1 hj
   have hnot : ∀ e ∈ oj.after, Region.binds md e = true → e.on ≠ i := fun e he hb heq => by
    have h1 := hall e he hb
    have h0 := (mem_ready.1 hr).1
    rw [heq] at h1
    rcases Nat.lt_or_ge i listed.size with h' | h'
    ·simp [h'] at h0 h1; rw [h0] at h1; cases h1
    ·simp [Array.getElem?_eq_none h'] at h1
   have h2 := wpOp_putIf hoj (hfree j oj hoj hji hjun hnot) (fun cs b => hsel i oi cs b hi) (fun cs b => hsel j oj cs b hoj) hQ hy h1
   have hfree' : ∀ k ok, ops[k]? = some ok → k ≠ i → (listed.setIfInBounds j true).getD k true = false →
     (∀ e ∈ ok.after, Region.binds md e = true → e.on ≠ i) → oi.apart ops ok = true := fun k ok hk hki hun hno => by
    refine hfree k ok hk hki ?_ hno
    by_cases hjk : j = k
    ·subst hjk; exact hjun
    ·rw [getD_set_ne true hjk] at hun; exact hun
   refine wpOp_mono (fun a' w' h3 => ⟨h3.2.1, ih (listed.setIfInBounds j true) a' w' hfree' (ready_mono hr (Ne.symm hji)) h3.1 ?_⟩) h2
   rw [Array.setIfInBounds_comm _ _ hji]
   exact h3.2.2
theorem wpAnyM_free (i : Nat) {d : Tmp} {op : Op} {ty : TypeId} {pos : String} {aft : Array Edge} {gd : Option (Nat × Bool)} {v : Value} {fuel : Nat} {listed : Array Bool} {a : Act} {w : World} (hi : ops[i]? = some ⟨some d, op, ty, pos, aft, gd⟩)
  (hs : Region.noSelect ops = true) (hf : Region.free md ops listed i = true) (hr : (Region.ready md ops listed).contains i = true)
  (hQ : ∀ c a w, Q (.panic c) (a.put (some d) v) w → Q (.panic c) a w) (hy : YieldsIf P ops (fun _ => True) ⟨some d, op, ty, pos, aft, gd⟩ v a)
  (h : wpAnyM P md ops Q S late fuel (listed.setIfInBounds i true) (a.put (some d) v) w) : wpAnyM P md ops Q S late (fuel + 1) listed a w :=
 wpAnyM_loose hi (Region.noSelect_spec hs) hQ fuel listed a w (Region.free_spec hi hf) (by simpa using hr) hy h
theorem wpAnyM_take (i n : Nat) {d : Tmp} {op : Op} {ty : TypeId} {pos : String} {aft : Array Edge} {gd : Option (Nat × Bool)} {v : Value} {fuel : Nat} {listed : Array Bool} {a : Act} {w : World} (hi : ops[i]? = some ⟨some d, op, ty, pos, aft, gd⟩)
  (hs : Region.noSelect ops = true) (hf : Region.free md ops listed i = true) (hr : (Region.ready md ops listed).contains i = true) (hw : late.all (fun l => waitsN' md ops n l i) = true) (hcl : closedB' md ops listed = true)
  (hQ : ∀ c a w, Q (.panic c) (a.put (some d) v) w → Q (.panic c) a w) (hy : YieldsIf P ops S ⟨some d, op, ty, pos, aft, gd⟩ v a) (hS : S w)
  (h : wpAnyM P md ops Q S late fuel (listed.setIfInBounds i true) (a.put (some d) v) w) : wpAnyM P md ops Q S late (fuel + 1) listed a w :=
 wpAnyM_first hi (Region.noSelect_spec hs) hQ hw fuel listed a w (closed_of' hcl) (Region.free_spec hi hf) (by simpa using hr) hy hS h
theorem wpAnyM_one (i : Nat) {d : Option Tmp} {op : Op} {ty : TypeId} {pos : String} {aft : Array Edge} {gd : Option (Nat × Bool)} {fuel : Nat} {listed : Array Bool} {a : Act} {w : World} (ho : ops[i]? = some ⟨d, op, ty, pos, aft, gd⟩) (hr : Region.ready md ops listed = [i])
  (h : ∀ K : Act → World → Prop, RowKit.Hid (∀ a' w', (late.contains i = false → S w → S w') → wpAnyM P md ops Q S late fuel (listed.setIfInBounds i true) a' w' → K a' w') → if Region.wanted ⟨d, op, ty, pos, aft, gd⟩ (yielded ops a.tmps) = true then Oper.wp P ⟨d, op, ty, pos, aft, gd⟩ a w K Q else K (a.put d undef) w) : wpAnyM P md ops Q S late (fuel + 1) listed a w := by
 refine ⟨fun h0 => (by rw [hr] at h0; cases h0), fun j hj => ?_⟩
 rw [hr] at hj
 obtain rfl : j = i := by simpa using hj
 exact wpOp_step ho (fun K hK => h K (Lib.hid (fun a' w' h1 h2 => hK a' w' ⟨h1, h2⟩)))
theorem wpAnyM_done {listed : Array Bool} {a : Act} {w : World} (hr : Region.ready md ops listed = []) (h : Q .normal a w) : ∀ fuel, wpAnyM P md ops Q S late fuel listed a w
 | 0 => ⟨hr, h⟩
 | _ + 1 => ⟨fun _ => h, by rw [hr]; simp⟩
theorem wp_region_keep (S : World → Prop) (late : List Nat) {id : Nat} {a : Act} {w : World} (hm : P.follows .mixedOrders = true)
  (h : wpAnyM P .any ops Q S late ops.size (Array.replicate ops.size false) a w.drew) : (Code.region id ops true).wp P Q a w :=
 wp_region_any hm (wpAny_of_keep _ _ _ _ h)
end
end Go.Proofs.YthgbfaoblnkniaaGreatDoor

namespace Go.Proofs.YthgbfaoblnkniaaGreatDoor
open Go.RowKit Go.Lib
end Go.Proofs.YthgbfaoblnkniaaGreatDoor

namespace Go.Proofs.YthgbfaoblnkniaaGreatDoor
open Go.RowKit Go.Lib
theorem few_both {L : List EventM} {w : World} {B : Nat} {v : Value} (hL : ∀ x ∈ L, x.2.1.length ≤ 9223372036854775807 ∧ x.2.2.1.length ≤ 9223372036854775807 ∧ NumE x) (h : w.ownsRow B 47 6 v (fewE L).length (evcs (fewE L))) : EvsS w v (fewE L) ∧ EvsA w v (fewE L) :=
 ⟨own_evs h, own_evsA h (fun x hx => by
  obtain ⟨h1, h2, h3⟩ := few_good hL x hx
  exact ⟨by omega, by omega, h3⟩)⟩
end Go.Proofs.YthgbfaoblnkniaaGreatDoor
