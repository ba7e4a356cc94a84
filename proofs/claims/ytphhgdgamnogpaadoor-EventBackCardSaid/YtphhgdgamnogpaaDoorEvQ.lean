/-
  The walk of layer 7 (event): an event's line. Conditions: unicode/utf8's two tables, and event.words, hold what their initialisers lay; texts of at most 1,000,000 bytes.
-/
import Derived.Test.YtphhgdgamnogpaaDoorEvM
import Derived.Test.YtphhgdgamnogpaaDoorSplitS
namespace Go.Proofs.YtphhgdgamnogpaaDoor
open Go.RowKit Go.Lib

theorem textsC_two (W : World) (a b : List UInt8) (t : TypeId) : TextsC (W.alloc (.cells #[.string (bs a), .string (bs b)] t)) (.slice (some ⟨W.heap.size, 0, none⟩) 2 2) [a, b] := by
  refine ⟨_, 2, rfl, Nat.le_refl _, fun j hj => ⟨_, rfl, ?_⟩⟩
  rw [cell_of_row _ W.heap.size j _ _ (0, 0) (heap_alloc_new W _)]
  match j, hj with
  | 0, _ => rfl
  | 1, _ => rfl
theorem textsC_four (W : World) (a b c d : List UInt8) (t : TypeId) : TextsC (W.alloc (.cells #[.string (bs a), .string (bs b), .string (bs c), .string (bs d)] t)) (.slice (some ⟨W.heap.size, 0, none⟩) 4 4) [a, b, c, d] := by
  refine ⟨_, 4, rfl, Nat.le_refl _, fun j hj => ⟨_, rfl, ?_⟩⟩
  rw [cell_of_row _ W.heap.size j _ _ (0, 0) (heap_alloc_new W _)]
  match j, hj with
  | 0, _ => rfl
  | 1, _ => rfl
  | 2, _ => rfl
  | 3, _ => rfl
theorem kindW_len (k : Int) : (kindW k).length ≤ 5 := by
  unfold kindW
  (repeat' split) <;> simp
theorem may_range (x : EventM) (h : mayE x = true) : 1 ≤ x.1 ∧ x.1 ≤ 6 := by
  unfold mayE at h
  simp only [Bool.and_eq_true, decide_eq_true_eq] at h
  exact ⟨h.1, h.2.1⟩
theorem join2_len (a b : List UInt8) : (join [a, b] [32]).length = a.length + b.length + 1 := by
  rw [join_two, join_one]
  simp
  omega
theorem join4_len (a b c d : List UInt8) : (join [a, b, c, d] [32]).length = a.length + b.length + c.length + d.length + 3 := by
  rw [join_two, join_two, join_two, join_one]
  simp
  omega

set_option maxRecDepth 100000 in
set_option maxHeartbeats 4000000 in
theorem eprint_any (k : Int) (s key : List UInt8) (vk n ln : Int) (hs : s.length ≤ 1000000) (hk : key.length ≤ 1000000) (h0 : -9223372036854775808 ≤ n) (h1 : n ≤ 9223372036854775807) (w : World) (hT : Lib.Utf8Tabs 4 5 w) (hE : EvTab w) :
    Calls Tryd.prog 21 #[.agg #[.int .i64 k, .string (bs s), .string (bs key), .int .i64 vk, .int .i64 n, .int .i64 ln]] w fun e w' => e = .returned (.tuple #[.string (bs (lineE (k, s, key, vk, n, ln))), .int .i64 (errE (k, s, key, vk, n, ln))]) ∧ Below w.heap.size w w' := by
  have HM := Lib.hid (fun w' (h : Below w.heap.size w w') => emay_any k s key vk n ln hs hk w' (Utf8Tabs_below hT h))
  have HV := Lib.hid (fun w' (_ : Below w.heap.size w w') => vprint_any vk n h0 h1 w')
  have HE := Lib.hid (fun w' (h : Below w.heap.size w w') => hE.below h)
  have tl := txt_len vk n h0 h1
  clear hT hE h0 h1
  cases hm : mayE (k, s, key, vk, n, ln) with
  | false =>
    have HLine : RowKit.Hid (lineE (k, s, key, vk, n, ln) = []) := Lib.hid (by unfold lineE; rw [hm]; rfl)
    have HErr : RowKit.Hid (errE (k, s, key, vk, n, ln) = 4) := Lib.hid (by unfold errE; rw [hm]; rfl)
    rw [hm] at HM
    clear hm tl
    go_enter Tryd.func21, Tryd.ntmps21
    go_wp2_with (fail)
    refine (HM.out _ (by (repeat' (first | (with_reducible exact Below.refl _ _) | (with_reducible assumption) | (refine below_next ?_ (by with_reducible assumption)) | (with_reducible refine Below.alloc ?_ ?_ _) | (with_reducible refine Below.drew ?_) | (with_reducible refine below_drewN ?_ _) | omega | (simp; done) | (simp; omega))))).mono ?_
    rintro e w1 ⟨rfl, hb1⟩
    obtain ⟨hc1, hf1⟩ := bcell hb1
    have hz1 := hb1.size
    try simp at hz1
    have hl1_0 : w.heap.size < w1.heap.size := by omega
    go_wp2_with fail
    go_ret2
    exact ⟨by rw [HLine.out, HErr.out]; rfl, by (repeat' (first | (with_reducible exact Below.refl _ _) | (with_reducible assumption) | (refine below_next ?_ (by with_reducible assumption)) | (with_reducible refine Below.alloc ?_ ?_ _) | (with_reducible refine Below.drew ?_) | (with_reducible refine below_drewN ?_ _) | omega | (simp; done) | (simp; omega)))⟩
  | true =>
    have hr := may_range _ hm
    obtain ⟨i, rfl⟩ := Int.eq_ofNat_of_zero_le (show (0 : Int) ≤ k by have := hr.1; simp only at this; omega)
    have hi1 : 1 ≤ i := by have := hr.1; simp only at this; omega
    have hi6 : i ≤ 6 := by have := hr.2; simp only at this; omega
    have HErr : RowKit.Hid (errE ((i : Int), s, key, vk, n, ln) = 0) := Lib.hid (by unfold errE; rw [hm]; rfl)
    have hkl := kindW_len (i : Int)
    cases hl : longK (i : Int) with
    | false =>
      have HLine : RowKit.Hid (lineE ((i : Int), s, key, vk, n, ln) = join [kindW (i : Int), s] [32]) := Lib.hid (by unfold lineE wordsE; rw [hm, if_pos rfl, hl]; rfl)
      have HLen := Lib.hid (show (join [kindW (i : Int), s] [32]).length ≤ 10000000 by rw [join2_len]; omega)
      have HL := Lib.hid (long_any (i : Int))
      rw [hm] at HM
      rw [hl] at HL
      clear hm hl hr tl hkl
      go_enter Tryd.func21, Tryd.ntmps21
      go_wp2_with (fail)
      refine (HM.out _ (by (repeat' (first | (with_reducible exact Below.refl _ _) | (with_reducible assumption) | (refine below_next ?_ (by with_reducible assumption)) | (with_reducible refine Below.alloc ?_ ?_ _) | (with_reducible refine Below.drew ?_) | (with_reducible refine below_drewN ?_ _) | omega | (simp; done) | (simp; omega))))).mono ?_
      rintro e w1 ⟨rfl, hb1⟩
      obtain ⟨hc1, hf1⟩ := bcell hb1
      have hz1 := hb1.size
      try simp at hz1
      have hl1_0 : w.heap.size < w1.heap.size := by omega
      have q0 : w1.cell? ⟨w.heap.size, 0, none⟩ = some (.int .i64 (i : Int)) := by go_simp
      have q1 : w1.cell? ⟨w.heap.size, 1, none⟩ = some (.string (bs s)) := by go_simp
      have hbx : Below w.heap.size w w1 := by (repeat' (first | (with_reducible exact Below.refl _ _) | (with_reducible assumption) | (refine below_next ?_ (by with_reducible assumption)) | (with_reducible refine Below.alloc ?_ ?_ _) | (with_reducible refine Below.drew ?_) | (with_reducible refine below_drewN ?_ _) | omega | (simp; done) | (simp; omega)))
      go_wp2_with fail
      refine (HL.out _).mono ?_
      rintro e wl ⟨rfl, rfl⟩
      go_wp2_with fail
      have HS : RowKit.Hid (∀ w', Below w1.heap.size w1 w' → (w'.cell? ⟨w.heap.size, 0, none⟩ = some (.int .i64 (i : Int)) ∧ w'.cell? ⟨w.heap.size, 1, none⟩ = some (.string (bs s)) ∧ w'.cell? ⟨1, i, none⟩ = some (.string (bs (kindW i))) ∧ Below w1.heap.size w1 w')) := Lib.hid (fun w' hb => ⟨cell_later hb q0, cell_later hb q1, cell_later hb (HE.out _ hbx i (by omega)), hb⟩)
      have hi0 : (0 : Int) ≤ (i : Int) := by omega
      have hi7 : (i : Int) < 7 := by omega
      go_region_held3 (fun w' => w'.cell? ⟨w.heap.size, 0, none⟩ = some (.int .i64 (i : Int)) ∧ w'.cell? ⟨w.heap.size, 1, none⟩ = some (.string (bs s)) ∧ w'.cell? ⟨1, i, none⟩ = some (.string (bs (kindW i))) ∧ Below w1.heap.size w1 w')
        ((go_split_ands; exact HS.out _ (by (repeat' (first | (with_reducible exact Below.refl _ _) | (with_reducible assumption) | (refine below_next ?_ (by with_reducible assumption)) | (with_reducible refine Below.alloc ?_ ?_ _) | (with_reducible refine Below.drew ?_) | omega | (simp; done) | (simp; omega))))))
        ((go_split_ands; first
          | (go_at_call 58; refine (sjoin_any _ _ [kindW (i : Int), s] (by first | exact textsC_two _ _ _ _ | exact textsC_four _ _ _ _ _ _) (by simp) HLen.out).mono ?_; rintro e w9 ⟨rfl, hb9⟩)))
      all_goals
        go_split_ands
        go_wp2_with fail
        go_ret2
        exact ⟨by rw [HLine.out, HErr.out]; rfl, by (repeat' (first | (with_reducible exact Below.refl _ _) | (with_reducible assumption) | (refine below_next ?_ (by with_reducible assumption)) | (with_reducible refine Below.alloc ?_ ?_ _) | (with_reducible refine Below.drew ?_) | (with_reducible refine below_drewN ?_ _) | omega | (simp; done) | (simp; omega)))⟩
    | true =>
      have HLine : RowKit.Hid (lineE ((i : Int), s, key, vk, n, ln) = join [kindW (i : Int), s, key, vTxt vk n] [32]) := Lib.hid (by unfold lineE wordsE; rw [hm, if_pos rfl, hl]; rfl)
      have HLen := Lib.hid (show (join [kindW (i : Int), s, key, vTxt vk n] [32]).length ≤ 10000000 by rw [join4_len]; omega)
      have HL := Lib.hid (long_any (i : Int))
      rw [hm] at HM
      rw [hl] at HL
      clear hm hl hr tl hkl
      go_enter Tryd.func21, Tryd.ntmps21
      go_wp2_with (fail)
      refine (HM.out _ (by (repeat' (first | (with_reducible exact Below.refl _ _) | (with_reducible assumption) | (refine below_next ?_ (by with_reducible assumption)) | (with_reducible refine Below.alloc ?_ ?_ _) | (with_reducible refine Below.drew ?_) | (with_reducible refine below_drewN ?_ _) | omega | (simp; done) | (simp; omega))))).mono ?_
      rintro e w1 ⟨rfl, hb1⟩
      obtain ⟨hc1, hf1⟩ := bcell hb1
      have hz1 := hb1.size
      try simp at hz1
      have hl1_0 : w.heap.size < w1.heap.size := by omega
      have q0' : w1.cell? ⟨w.heap.size, 0, none⟩ = some (.int .i64 (i : Int)) := by go_simp
      have q1' : w1.cell? ⟨w.heap.size, 1, none⟩ = some (.string (bs s)) := by go_simp
      have q2' : w1.cell? ⟨w.heap.size, 2, none⟩ = some (.string (bs key)) := by go_simp
      go_wp2_with fail
      refine (HL.out _).mono ?_
      rintro e wl ⟨rfl, rfl⟩
      go_wp2_with (fail)
      refine (HV.out _ (by (repeat' (first | (with_reducible exact Below.refl _ _) | (with_reducible assumption) | (refine below_next ?_ (by with_reducible assumption)) | (with_reducible refine Below.alloc ?_ ?_ _) | (with_reducible refine Below.drew ?_) | (with_reducible refine below_drewN ?_ _) | omega | (simp; done) | (simp; omega))))).mono ?_
      rintro e w2 ⟨rfl, hb2⟩
      obtain ⟨hc2, hf2⟩ := bcell hb2
      have hz2 := hb2.size
      try simp at hz2
      have hl2_0 : w.heap.size < w2.heap.size := by omega
      have q0 := cell_later hb2 q0'
      have q1 := cell_later hb2 q1'
      have q2 := cell_later hb2 q2'
      have hbx : Below w.heap.size w w2 := by (repeat' (first | (with_reducible exact Below.refl _ _) | (with_reducible assumption) | (refine below_next ?_ (by with_reducible assumption)) | (with_reducible refine Below.alloc ?_ ?_ _) | (with_reducible refine Below.drew ?_) | (with_reducible refine below_drewN ?_ _) | omega | (simp; done) | (simp; omega)))
      clear q0' q1' q2'
      go_wp2_with fail
      have HS : RowKit.Hid (∀ w', Below w2.heap.size w2 w' → (w'.cell? ⟨w.heap.size, 0, none⟩ = some (.int .i64 (i : Int)) ∧ w'.cell? ⟨w.heap.size, 1, none⟩ = some (.string (bs s)) ∧ w'.cell? ⟨1, i, none⟩ = some (.string (bs (kindW i))) ∧ w'.cell? ⟨w.heap.size, 2, none⟩ = some (.string (bs key)) ∧ Below w2.heap.size w2 w')) := Lib.hid (fun w' hb => ⟨cell_later hb q0, cell_later hb q1, cell_later hb (HE.out _ hbx i (by omega)), cell_later hb q2, hb⟩)
      have hi0 : (0 : Int) ≤ (i : Int) := by omega
      have hi7 : (i : Int) < 7 := by omega
      go_region_held3 (fun w' => w'.cell? ⟨w.heap.size, 0, none⟩ = some (.int .i64 (i : Int)) ∧ w'.cell? ⟨w.heap.size, 1, none⟩ = some (.string (bs s)) ∧ w'.cell? ⟨1, i, none⟩ = some (.string (bs (kindW i))) ∧ w'.cell? ⟨w.heap.size, 2, none⟩ = some (.string (bs key)) ∧ Below w2.heap.size w2 w')
        ((go_split_ands; exact HS.out _ (by (repeat' (first | (with_reducible exact Below.refl _ _) | (with_reducible assumption) | (refine below_next ?_ (by with_reducible assumption)) | (with_reducible refine Below.alloc ?_ ?_ _) | (with_reducible refine Below.drew ?_) | omega | (simp; done) | (simp; omega))))))
        ((go_split_ands; first
          | (go_at_call 58; refine (sjoin_any _ _ [kindW (i : Int), s, key, vTxt vk n] (by first | exact textsC_two _ _ _ _ | exact textsC_four _ _ _ _ _ _) (by simp) HLen.out).mono ?_; rintro e w9 ⟨rfl, hb9⟩)))
      all_goals
        go_split_ands
        go_wp2_with fail
        go_ret2
        exact ⟨by rw [HLine.out, HErr.out]; rfl, by (repeat' (first | (with_reducible exact Below.refl _ _) | (with_reducible assumption) | (refine below_next ?_ (by with_reducible assumption)) | (with_reducible refine Below.alloc ?_ ?_ _) | (with_reducible refine Below.drew ?_) | (with_reducible refine below_drewN ?_ _) | omega | (simp; done) | (simp; omega)))⟩
end Go.Proofs.YtphhgdgamnogpaaDoor
