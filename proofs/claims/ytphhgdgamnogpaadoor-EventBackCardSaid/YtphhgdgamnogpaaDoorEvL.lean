/-
  The statement EventPrints of layer 7 (event), walked; the chapter's example. Conditions: unicode/utf8's two tables, and event.words, hold what their initialisers lay, internal/bytealg.MaxLen holds a number.
-/
import Derived.Test.YtphhgdgamnogpaaDoorEvR
import Derived.Test.YtphhgdgamnogpaaDoorEvS
namespace Go.Proofs.YtphhgdgamnogpaaDoor
open Go.RowKit Go.Lib

set_option maxRecDepth 100000 in
set_option maxHeartbeats 1000000 in
theorem eshort_any (l : List UInt8) (hs : l.length ≤ 9223372036854775807) (w : World) :
    Calls Tryd.prog 20 #[.string (bs l)] w fun e w' => e = .returned (.string (bs (l.take 1000))) ∧ w = w' := by
  have e : l.take (min (l.length : Int) 1000).toNat = l.take 1000 := by
    by_cases h : l.length ≤ 1000
    · rw [show (min (l.length : Int) 1000).toNat = l.length by omega, List.take_length, List.take_of_length_le h]
    · rw [show (min (l.length : Int) 1000).toNat = 1000 by omega]
  have E := Lib.hid e
  clear e
  go_enter Tryd.func20, Tryd.ntmps20
  go_wp2
  go_ret
  refine ⟨?_, rfl⟩
  rw [← E.out]
  rfl

theorem exE1 : parseE [119, 114, 105, 116, 101, 32, 115, 32, 120, 32, 53] = ((3, [115], [120], 1, 5, 0), true, 0) := by decide +kernel
theorem exE2 : lineE (3, [115], [120], 1, 5, 0) = [119, 114, 105, 116, 101, 32, 115, 32, 120, 32, 53] := by decide +kernel
theorem exE3 : errE (3, [115], [120], 1, 5, 0) = 0 := by decide +kernel
set_option maxRecDepth 100000 in
set_option maxHeartbeats 2000000 in
theorem eworks_any (w : World) (hT : Lib.Utf8Tabs 4 5 w) (hm : HasMax w) (hE : EvTab w) :
    Calls Tryd.prog 25 #[] w fun e w' => e = .returned (.bool true) ∧ Below w.heap.size w w' := by
  have H1 := Lib.hid (eparse_any [119, 114, 105, 116, 101, 32, 115, 32, 120, 32, 53] (by decide) w hT hm hE)
  have H2 := Lib.hid (fun w' (h : Below w.heap.size w w') => eprint_any 3 [115] [120] 1 5 0 (by decide) (by decide) (by decide) (by decide) w' (Utf8Tabs_below hT h) (hE.below h))
  rw [exE1] at H1
  rw [exE2, exE3] at H2
  unfold evV at H1
  dsimp only at H1
  clear hT hm hE
  go_enter Tryd.func25, Tryd.ntmps25
  go_wp2_with fail
  refine H1.out.mono ?_
  rintro e w1 ⟨rfl, hb1⟩
  have hz1 := hb1.size
  go_wp2_with fail
  refine (H2.out _ (by (repeat' (first | (with_reducible exact Below.refl _ _) | (with_reducible assumption) | (refine below_next ?_ (by with_reducible assumption)) | (with_reducible refine Below.setCell ?_ ?_ _) | (with_reducible refine Below.alloc ?_ ?_ _) | (with_reducible refine Below.drew ?_) | (with_reducible refine below_drewN ?_ _) | omega | (simp; done) | (simp; omega))))).mono ?_
  rintro e w2 ⟨rfl, hb2⟩
  obtain ⟨hc2, hf2⟩ := bcell hb2
  have hl2 : w1.heap.size < w2.heap.size := by have := hb2.size; simp at this; omega
  go_wp2_with fail
  go_ret
  exact ⟨rfl, (by (repeat' (first | (with_reducible exact Below.refl _ _) | (with_reducible assumption) | (refine below_next ?_ (by with_reducible assumption)) | (with_reducible refine Below.setCell ?_ ?_ _) | (with_reducible refine Below.alloc ?_ ?_ _) | (with_reducible refine Below.drew ?_) | (with_reducible refine below_drewN ?_ _) | omega | (simp; done) | (simp; omega))))⟩

set_option maxRecDepth 100000 in
set_option maxHeartbeats 4000000 in
theorem eventprints_any (k vk n ln : Int) (s key : List UInt8) (hs : s.length ≤ 9223372036854775807) (hk : key.length ≤ 9223372036854775807) (h0 : -9223372036854775808 ≤ n) (h1 : n ≤ 9223372036854775807) (w : World) (hT : Lib.Utf8Tabs 4 5 w) (hm : HasMax w) (hE : EvTab w) :
    Calls Tryd.prog 4 #[.agg #[.int .i64 k, .string (bs s), .string (bs key), .int .i64 vk, .int .i64 n, .int .i64 ln]] w fun e w' => e = .returned (.bool true) ∧ Below w.heap.size w w' := by
  have HSh1 := Lib.hid (fun w' => eshort_any s hs w')
  have HSh2 := Lib.hid (fun w' => eshort_any key hk w')
  have l1 : (s.take 1000).length ≤ 1000 := by simp; omega
  have l2 : (key.take 1000).length ≤ 1000 := by simp; omega
  clear hs hk
  generalize s.take 1000 = s1 at *
  generalize key.take 1000 = key1 at *
  have HP := Lib.hid (fun w' (h : Below w.heap.size w w') => eprint_any k s1 key1 vk n ln (by omega) (by omega) h0 h1 w' (Utf8Tabs_below hT h) (hE.below h))
  have HR := Lib.hid (fun w' (_ : Below w.heap.size w w') => reprint_any k s1 key1 vk n ln (by omega) (by omega) h0 h1 w')
  have HM := Lib.hid (fun w' (h : Below w.heap.size w w') => emay_any k s1 key1 vk n ln (by omega) (by omega) w' (Utf8Tabs_below hT h))
  have HRM := Lib.hid (fun w' (_ : Below w.heap.size w w') => remay_any k s1 key1 vk n ln (by omega) (by omega) w')
  have HWk := Lib.hid (fun w' (h : Below w.heap.size w w') => eworks_any w' (Utf8Tabs_below hT h) (hm.below h) (hE.below h))
  have hb00 : Below w.heap.size w ((w.alloc (.cells #[.int .i64 k, .string (bs s), .string (bs key), .int .i64 vk, .int .i64 n, .int .i64 ln] 37))) := (Below.refl _ _).alloc (Nat.le_refl _) _
  have y1 : ((w.alloc (.cells #[.int .i64 k, .string (bs s), .string (bs key), .int .i64 vk, .int .i64 n, .int .i64 ln] 37))).cell? ⟨w.heap.size, 1, none⟩ = some (.string (bs s)) := by go_simp
  have y2 : ((w.alloc (.cells #[.int .i64 k, .string (bs s), .string (bs key), .int .i64 vk, .int .i64 n, .int .i64 ln] 37))).cell? ⟨w.heap.size, 2, none⟩ = some (.string (bs key)) := by go_simp
  have HS : RowKit.Hid (∀ w', Below ((w.alloc (.cells #[.int .i64 k, .string (bs s), .string (bs key), .int .i64 vk, .int .i64 n, .int .i64 ln] 37))).heap.size ((w.alloc (.cells #[.int .i64 k, .string (bs s), .string (bs key), .int .i64 vk, .int .i64 n, .int .i64 ln] 37))) w' → (w'.cell? ⟨w.heap.size, 1, none⟩ = some (.string (bs s)) ∧ w'.cell? ⟨w.heap.size, 2, none⟩ = some (.string (bs key)) ∧ Below ((w.alloc (.cells #[.int .i64 k, .string (bs s), .string (bs key), .int .i64 vk, .int .i64 n, .int .i64 ln] 37))).heap.size ((w.alloc (.cells #[.int .i64 k, .string (bs s), .string (bs key), .int .i64 vk, .int .i64 n, .int .i64 ln] 37))) w')) := Lib.hid (fun w' hb => ⟨cell_later hb y1, cell_later hb y2, hb⟩)
  clear hb00 y1 y2 h0 h1
  clear hT hm hE
  go_enter Tryd.func4, Tryd.ntmps4
  go_wp2_with fail
  refine wp_region_late (fun w' => w'.cell? ⟨w.heap.size, 1, none⟩ = some (.string (bs s)) ∧ w'.cell? ⟨w.heap.size, 2, none⟩ = some (.string (bs key)) ∧ Below ((w.alloc (.cells #[.int .i64 k, .string (bs s), .string (bs key), .int .i64 vk, .int .i64 n, .int .i64 ln] 37))).heap.size ((w.alloc (.cells #[.int .i64 k, .string (bs s), .string (bs key), .int .i64 vk, .int .i64 n, .int .i64 ln] 37))) w') [7, 8, 9] (by kernel_rfl) ?_
  have hB0 : Below ((w.alloc (.cells #[.int .i64 k, .string (bs s), .string (bs key), .int .i64 vk, .int .i64 n, .int .i64 ln] 37))).heap.size ((w.alloc (.cells #[.int .i64 k, .string (bs s), .string (bs key), .int .i64 vk, .int .i64 n, .int .i64 ln] 37))) ((w.alloc (.cells #[.int .i64 k, .string (bs s), .string (bs key), .int .i64 vk, .int .i64 n, .int .i64 ln] 37))).drew := Below.drew (Below.refl _ _)
  have hS0 := HS.out _ hB0
  refine wpAnyL_take 0 10 (v := ?_) rfl (by kernel_rfl) (by kernel_rfl) (by kernel_rfl) (by kernel_rfl) (by kernel_rfl) (fun _ _ _ h => h) (Or.inl ⟨by rfl, ?_⟩) hS0 ?_
  rotate_left
  · intro w' hw'
    try dsimp only at hw'
    go_simp
    try with_reducible rfl
  try simp only [Act.put, List.setIfInBounds_toArray, List.set_cons_zero, List.set_cons_succ]
  refine wpAnyL_take 1 10 (v := ?_) rfl (by kernel_rfl) (by kernel_rfl) (by kernel_rfl) (by kernel_rfl) (by kernel_rfl) (fun _ _ _ h => h) (Or.inl ⟨by rfl, ?_⟩) hS0 ?_
  rotate_left
  · intro w' hw'
    try dsimp only at hw'
    go_simp
    try with_reducible rfl
  try simp only [Act.put, List.setIfInBounds_toArray, List.set_cons_zero, List.set_cons_succ]
  refine wpAnyL_take 3 10 (v := ?_) rfl (by kernel_rfl) (by kernel_rfl) (by kernel_rfl) (by kernel_rfl) (by kernel_rfl) (fun _ _ _ h => h) (Or.inl ⟨by rfl, ?_⟩) hS0 ?_
  rotate_left
  · intro w' hw'
    try dsimp only at hw'
    go_simp
    try with_reducible rfl
  try simp only [Act.put, List.setIfInBounds_toArray, List.set_cons_zero, List.set_cons_succ]
  refine wpAnyL_take 4 10 (v := ?_) rfl (by kernel_rfl) (by kernel_rfl) (by kernel_rfl) (by kernel_rfl) (by kernel_rfl) (fun _ _ _ h => h) (Or.inl ⟨by rfl, ?_⟩) hS0 ?_
  rotate_left
  · intro w' hw'
    try dsimp only at hw'
    go_simp
    try with_reducible rfl
  try simp only [Act.put, List.setIfInBounds_toArray, List.set_cons_zero, List.set_cons_succ]
  refine wpAnyL_one 2 rfl (by kernel_rfl) (fun K hK => ?_)
  go_simp
  refine (HSh1.out _).mono ?_
  rintro e wz ⟨rfl, rfl⟩
  refine hK.out _ _ (fun _ => hS0) ?_
  clear hK K
  try simp only [Act.put, List.setIfInBounds_toArray, List.set_cons_zero, List.set_cons_succ]
  refine wpAnyL_take 6 10 (v := ?_) rfl (by kernel_rfl) (by kernel_rfl) (by kernel_rfl) (by kernel_rfl) (by kernel_rfl) (fun _ _ _ h => h) (Or.inl ⟨by rfl, ?_⟩) hS0 ?_
  rotate_left
  · intro w' hw'
    try dsimp only at hw'
    go_simp
    try with_reducible rfl
  try simp only [Act.put, List.setIfInBounds_toArray, List.set_cons_zero, List.set_cons_succ]
  refine wpAnyL_one 5 rfl (by kernel_rfl) (fun K hK => ?_)
  go_simp
  refine (HSh2.out _).mono ?_
  rintro e wz ⟨rfl, rfl⟩
  refine hK.out _ _ (fun _ => hS0) ?_
  clear hK K
  try simp only [Act.put, List.setIfInBounds_toArray, List.set_cons_zero, List.set_cons_succ]
  refine wpAnyL_one 7 rfl (by kernel_rfl) (fun K hK => ?_)
  go_simp
  refine hK.out _ _ (fun h => absurd h (by decide)) ?_
  clear hK K
  try simp only [Act.put, List.setIfInBounds_toArray, List.set_cons_zero, List.set_cons_succ]
  refine wpAnyL_free 8 (v := ?_) rfl (by kernel_rfl) (by kernel_rfl) (by kernel_rfl) (by kernel_rfl) (fun _ _ _ h => h) (Or.inl ⟨by rfl, ?_⟩) ?_
  rotate_left
  · intro w' hw'
    go_simp
    try with_reducible rfl
  try simp only [Act.put, List.setIfInBounds_toArray, List.set_cons_zero, List.set_cons_succ]
  refine wpAnyL_one 9 rfl (by kernel_rfl) (fun K hK => ?_)
  go_simp
  refine hK.out _ _ (fun h => absurd h (by decide)) ?_
  clear hK K
  try simp only [Act.put, List.setIfInBounds_toArray, List.set_cons_zero, List.set_cons_succ]
  refine wpAnyL_done (by kernel_rfl) ?_ _
  try simp only [Act.put, List.setIfInBounds_toArray, List.set_cons_zero, List.set_cons_succ]
  clear hB0 hS0
  go_wp2_with fail
  refine (HP.out _ (by (repeat' (first | (with_reducible exact Below.refl _ _) | (with_reducible assumption) | (refine below_next ?_ (by with_reducible assumption)) | (with_reducible refine Below.setCell ?_ ?_ _) | (with_reducible refine Below.alloc ?_ ?_ _) | (with_reducible refine Below.drew ?_) | (with_reducible refine below_drewN ?_ _) | omega | (simp; done) | (simp; omega))))).mono ?_
  rintro e w2 ⟨rfl, hb2⟩
  have hb02 : Below w.heap.size w w2 := (by (repeat' (first | (with_reducible exact Below.refl _ _) | (with_reducible assumption) | (refine below_next ?_ (by with_reducible assumption)) | (with_reducible refine Below.setCell ?_ ?_ _) | (with_reducible refine Below.alloc ?_ ?_ _) | (with_reducible refine Below.drew ?_) | (with_reducible refine below_drewN ?_ _) | omega | (simp; done) | (simp; omega))))
  obtain ⟨hc2, hf2⟩ := bcell hb2
  have hl2 : w.heap.size < w2.heap.size := by have := hb2.size; simp at this; omega
  go_wp2_with fail
  refine (HR.out _ (by (repeat' (first | (with_reducible exact Below.refl _ _) | (with_reducible assumption) | (refine below_next ?_ (by with_reducible assumption)) | (with_reducible refine Below.setCell ?_ ?_ _) | (with_reducible refine Below.alloc ?_ ?_ _) | (with_reducible refine Below.drew ?_) | (with_reducible refine below_drewN ?_ _) | omega | (simp; done) | (simp; omega))))).mono ?_
  rintro e w3 ⟨rfl, hb3⟩
  have hb03 : Below w.heap.size w w3 := below_next hb02 hb3
  have hz3 := hb3.size
  have hl3 : w.heap.size < w3.heap.size := by omega
  have q0 : w3.cell? ⟨w.heap.size, 0, none⟩ = some (.int .i64 k) := cell_later hb3 (show w2.cell? ⟨w.heap.size, 0, none⟩ = some (.int .i64 k) by go_simp)
  have q1 : w3.cell? ⟨w.heap.size, 1, none⟩ = some (.string (bs s1)) := cell_later hb3 (show w2.cell? ⟨w.heap.size, 1, none⟩ = some (.string (bs s1)) by go_simp)
  have q2 : w3.cell? ⟨w.heap.size, 2, none⟩ = some (.string (bs key1)) := cell_later hb3 (show w2.cell? ⟨w.heap.size, 2, none⟩ = some (.string (bs key1)) by go_simp)
  have q3 : w3.cell? ⟨w.heap.size, 3, none⟩ = some (.int .i64 vk) := cell_later hb3 (show w2.cell? ⟨w.heap.size, 3, none⟩ = some (.int .i64 vk) by go_simp)
  have q4 : w3.cell? ⟨w.heap.size, 4, none⟩ = some (.int .i64 n) := cell_later hb3 (show w2.cell? ⟨w.heap.size, 4, none⟩ = some (.int .i64 n) by go_simp)
  have q5 : w3.cell? ⟨w.heap.size, 5, none⟩ = some (.int .i64 ln) := cell_later hb3 (show w2.cell? ⟨w.heap.size, 5, none⟩ = some (.int .i64 ln) by go_simp)
  clear HS
  have HS : RowKit.Hid (∀ w', Below w3.heap.size w3 w' → (w'.cell? ⟨w.heap.size, 0, none⟩ = some (.int .i64 k) ∧ w'.cell? ⟨w.heap.size, 1, none⟩ = some (.string (bs s1)) ∧ w'.cell? ⟨w.heap.size, 2, none⟩ = some (.string (bs key1)) ∧ w'.cell? ⟨w.heap.size, 3, none⟩ = some (.int .i64 vk) ∧ w'.cell? ⟨w.heap.size, 4, none⟩ = some (.int .i64 n) ∧ w'.cell? ⟨w.heap.size, 5, none⟩ = some (.int .i64 ln) ∧ Below w3.heap.size w3 w')) := Lib.hid (fun w' hb => ⟨cell_later hb q0, cell_later hb q1, cell_later hb q2, cell_later hb q3, cell_later hb q4, cell_later hb q5, hb⟩)
  clear q0 q1 q2 q3 q4 q5 hc2 hf2 hb2 hb3
  go_wp2_with fail
  refine wp_region_late (fun w' => w'.cell? ⟨w.heap.size, 0, none⟩ = some (.int .i64 k) ∧ w'.cell? ⟨w.heap.size, 1, none⟩ = some (.string (bs s1)) ∧ w'.cell? ⟨w.heap.size, 2, none⟩ = some (.string (bs key1)) ∧ w'.cell? ⟨w.heap.size, 3, none⟩ = some (.int .i64 vk) ∧ w'.cell? ⟨w.heap.size, 4, none⟩ = some (.int .i64 n) ∧ w'.cell? ⟨w.heap.size, 5, none⟩ = some (.int .i64 ln) ∧ Below w3.heap.size w3 w') [] (by kernel_rfl) ?_
  have hB0 : Below (w3).heap.size (w3) (w3).drew := Below.drew (Below.refl _ _)
  have hS0 := HS.out _ hB0
  refine wpAnyL_take 0 19 (v := ?_) rfl (by kernel_rfl) (by kernel_rfl) (by kernel_rfl) (by kernel_rfl) (by kernel_rfl) (fun _ _ _ h => h) (Or.inl ⟨by rfl, ?_⟩) hS0 ?_
  rotate_left
  · intro w' hw'
    try dsimp only at hw'
    go_simp
    try with_reducible rfl
  try simp only [Act.put, List.setIfInBounds_toArray, List.set_cons_zero, List.set_cons_succ]
  refine wpAnyL_one 1 rfl (by kernel_rfl) (fun K hK => ?_)
  go_simp
  refine hK.out _ _ (fun _ => hS0) ?_
  clear hK K
  try simp only [Act.put, List.setIfInBounds_toArray, List.set_cons_zero, List.set_cons_succ]
  refine wpAnyL_one 2 rfl (by kernel_rfl) (fun K hK => ?_)
  go_simp
  refine hK.out _ _ (fun _ => hS0) ?_
  clear hK K
  try simp only [Act.put, List.setIfInBounds_toArray, List.set_cons_zero, List.set_cons_succ]
  refine wpAnyL_one 3 rfl (by kernel_rfl) (fun K hK => ?_)
  go_simp
  refine hK.out _ _ (fun _ => hS0) ?_
  clear hK K
  try simp only [Act.put, List.setIfInBounds_toArray, List.set_cons_zero, List.set_cons_succ]
  refine wpAnyL_take 4 19 (v := ?_) rfl (by kernel_rfl) (by kernel_rfl) (by kernel_rfl) (by kernel_rfl) (by kernel_rfl) (fun _ _ _ h => h) (Or.inl ⟨by rfl, ?_⟩) hS0 ?_
  rotate_left
  · intro w' hw'
    try dsimp only at hw'
    go_simp
    try with_reducible rfl
  try simp only [Act.put, List.setIfInBounds_toArray, List.set_cons_zero, List.set_cons_succ]
  refine wpAnyL_one 5 rfl (by kernel_rfl) (fun K hK => ?_)
  go_simp
  refine hK.out _ _ (fun _ => hS0) ?_
  clear hK K
  try simp only [Act.put, List.setIfInBounds_toArray, List.set_cons_zero, List.set_cons_succ]
  refine wpAnyL_one 6 rfl (by kernel_rfl) (fun K hK => ?_)
  go_simp
  refine hK.out _ _ (fun _ => hS0) ?_
  clear hK K
  try simp only [Act.put, List.setIfInBounds_toArray, List.set_cons_zero, List.set_cons_succ]
  refine wpAnyL_one 7 rfl (by kernel_rfl) (fun K hK => ?_)
  go_simp
  refine hK.out _ _ (fun _ => hS0) ?_
  clear hK K
  try simp only [Act.put, List.setIfInBounds_toArray, List.set_cons_zero, List.set_cons_succ]
  refine wpAnyL_one 8 rfl (by kernel_rfl) (fun K hK => ?_)
  go_simp
  refine hK.out _ _ (fun _ => hS0) ?_
  clear hK K
  try simp only [Act.put, List.setIfInBounds_toArray, List.set_cons_zero, List.set_cons_succ]
  refine wpAnyL_take 9 19 (v := ?_) rfl (by kernel_rfl) (by kernel_rfl) (by kernel_rfl) (by kernel_rfl) (by kernel_rfl) (fun _ _ _ h => h) (Or.inl ⟨by rfl, ?_⟩) hS0 ?_
  rotate_left
  · intro w' hw'
    try dsimp only at hw'
    go_simp
    try with_reducible rfl
  try simp only [Act.put, List.setIfInBounds_toArray, List.set_cons_zero, List.set_cons_succ]
  refine wpAnyL_take 11 19 (v := ?_) rfl (by kernel_rfl) (by kernel_rfl) (by kernel_rfl) (by kernel_rfl) (by kernel_rfl) (fun _ _ _ h => h) (Or.inl ⟨by rfl, ?_⟩) hS0 ?_
  rotate_left
  · intro w' hw'
    try dsimp only at hw'
    go_simp
    try with_reducible rfl
  try simp only [Act.put, List.setIfInBounds_toArray, List.set_cons_zero, List.set_cons_succ]
  refine wpAnyL_one 10 rfl (by kernel_rfl) (fun K hK => ?_)
  go_simp
  refine (HM.out _ (below_next hb03 hB0)).mono ?_
  rintro e w4 ⟨rfl, hb4⟩
  have hB1 := below_next hB0 hb4
  have hS1 := HS.out _ hB1
  refine hK.out _ _ (fun _ => hS1) ?_
  clear hK K hS0
  try simp only [Act.put, List.setIfInBounds_toArray, List.set_cons_zero, List.set_cons_succ]
  refine wpAnyL_one 12 rfl (by kernel_rfl) (fun K hK => ?_)
  go_simp
  refine (HRM.out _ (below_next hb03 hB1)).mono ?_
  rintro e w5 ⟨rfl, hb5⟩
  have hB2 := below_next hB1 hb5
  have hS2 := HS.out _ hB2
  refine hK.out _ _ (fun _ => hS2) ?_
  clear hK K hS1
  try simp only [Act.put, List.setIfInBounds_toArray, List.set_cons_zero, List.set_cons_succ]
  refine wpAnyL_one 13 rfl (by kernel_rfl) (fun K hK => ?_)
  go_simp
  refine hK.out _ _ (fun _ => hS2) ?_
  clear hK K
  try simp only [Act.put, List.setIfInBounds_toArray, List.set_cons_zero, List.set_cons_succ]
  refine wpAnyL_one 14 rfl (by kernel_rfl) (fun K hK => ?_)
  go_simp
  refine hK.out _ _ (fun _ => hS2) ?_
  clear hK K
  try simp only [Act.put, List.setIfInBounds_toArray, List.set_cons_zero, List.set_cons_succ]
  refine wpAnyL_one 15 rfl (by kernel_rfl) (fun K hK => ?_)
  go_simp
  refine hK.out _ _ (fun _ => hS2) ?_
  clear hK K
  try simp only [Act.put, List.setIfInBounds_toArray, List.set_cons_zero, List.set_cons_succ]
  refine wpAnyL_one 16 rfl (by kernel_rfl) (fun K hK => ?_)
  go_simp
  refine (HWk.out _ (below_next hb03 hB2)).mono ?_
  rintro e w6 ⟨rfl, hb6⟩
  have hB3 := below_next hB2 hb6
  have hS3 := HS.out _ hB3
  refine hK.out _ _ (fun _ => hS3) ?_
  clear hK K hS2
  try simp only [Act.put, List.setIfInBounds_toArray, List.set_cons_zero, List.set_cons_succ]
  refine wpAnyL_one 17 rfl (by kernel_rfl) (fun K hK => ?_)
  go_simp
  refine hK.out _ _ (fun _ => hS3) ?_
  clear hK K
  try simp only [Act.put, List.setIfInBounds_toArray, List.set_cons_zero, List.set_cons_succ]
  refine wpAnyL_one 18 rfl (by kernel_rfl) (fun K hK => ?_)
  go_simp
  refine hK.out _ _ (fun _ => hS3) ?_
  clear hK K
  try simp only [Act.put, List.setIfInBounds_toArray, List.set_cons_zero, List.set_cons_succ]
  refine wpAnyL_done (by kernel_rfl) ?_ _
  try simp only [Act.put, List.setIfInBounds_toArray, List.set_cons_zero, List.set_cons_succ]
  go_wp2_with fail
  go_ret
  exact ⟨rfl, below_next hb03 hB3⟩
end Go.Proofs.YtphhgdgamnogpaaDoor
