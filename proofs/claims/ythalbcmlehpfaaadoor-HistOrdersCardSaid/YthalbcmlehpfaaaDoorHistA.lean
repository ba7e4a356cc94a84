/-
  The walks of layer 11 (hist): a history in memory; whether an operation, a transaction, the tables may be. No conditions but that unicode/utf8's two tables are as their initialisers lay them.
-/
import Derived.Test.YthalbcmlehpfaaaDoorHistM
import Derived.Test.YthalbcmlehpfaaaDoorCellA
import Derived.Test.YthalbcmlehpfaaaDoorValA
import Derived.Test.YthalbcmlehpfaaaDoorTabE
namespace Go.Proofs.YthalbcmlehpfaaaDoor
open Go.RowKit Go.Lib

section
attribute [local go_sem] as_nil as_nil_lost as_int64 as_lost as_int64_no as_lost_no
set_option maxHeartbeats 2000000 in
theorem vmay_any (k n : Int) (w : World) :
    Calls Tryd.prog 70 #[.agg #[.int .i64 k, .int .i64 n]] w fun e w' => e = .returned (.bool (mayV k n)) ∧ Below w.heap.size w w' := by
  rcases may_cases k n with ⟨rfl, h⟩ | ⟨rfl, rfl, h⟩ | ⟨rfl, rfl, h⟩ | ⟨rfl, h1, h2, h⟩ | ⟨rfl, h1, h2, h⟩ | ⟨h1, h2, h3, h4, h⟩ <;> rw [h] <;> clear h
  all_goals
    go_enter Tryd.func70, Tryd.ntmps70
    go_wp2
    go_ret
    exact ⟨rfl, by go_grown⟩
set_option maxHeartbeats 2000000 in
theorem rvmay_any (k n : Int) (w : World) :
    Calls Tryd.prog 66 #[.agg #[.int .i64 k, .int .i64 n]] w fun e w' => e = .returned (.bool (mayV k n)) ∧ Below w.heap.size w w' := by
  rcases may_cases k n with ⟨rfl, h⟩ | ⟨rfl, rfl, h⟩ | ⟨rfl, rfl, h⟩ | ⟨rfl, h1, h2, h⟩ | ⟨rfl, h1, h2, h⟩ | ⟨h1, h2, h3, h4, h⟩ <;> rw [h] <;> clear h
  all_goals
    go_enter Tryd.func66, Tryd.ntmps66
    go_wp2
    go_ret
    exact ⟨rfl, by go_grown⟩
end

/-! ### The small functions -/
set_option maxHeartbeats 1000000 in
theorem within_any (n : Int) (p : Option Addr) (m c : Nat) (w : World) :
    Calls Tryd.prog 69 #[.int .i64 n, .slice p m c] w fun e w' => e = .returned (.bool (inside n m)) ∧ w = w' := by
  unfold inside
  by_cases h : 0 ≤ n
  · have e1 : decide (0 ≤ n) = true := decide_eq_true h
    rw [e1, Bool.true_and]
    go_enter Tryd.func69, Tryd.ntmps69
    go_wp2
    go_ret
    exact ⟨rfl, rfl⟩
  · have e1 : decide (0 ≤ n) = false := decide_eq_false h
    rw [e1, Bool.false_and]
    go_enter Tryd.func69, Tryd.ntmps69
    go_wp2
    go_ret
    exact ⟨rfl, rfl⟩

set_option maxRecDepth 100000 in
set_option maxHeartbeats 2000000 in
theorem txn_any (v0 v1 v2 sv : Value) (S : List (List UInt8)) (t : TxnM) (w : World) (h0 : Texts w v0 S) (hs : OpsS w sv t.2.2) :
    Calls Tryd.prog 48 #[.agg #[v0, v1, v2], .agg #[.int .i64 t.1, .int .i64 t.2.1, sv]] w fun e w' => e = .returned (.bool (okTxn S.length t)) ∧ Below w.heap.size w w' := by
  obtain ⟨p0, c0, rfl, -⟩ := h0
  obtain ⟨ps, cs, rfl, -⟩ := hs
  obtain ⟨s, f, l⟩ := t
  simp only [okTxn]
  have HW := Lib.hid (within_any s p0 S.length c0)
  generalize l.length = q
  generalize inside s S.length = I at *
  cases I with
  | false =>
    go_enter Tryd.func48, Tryd.ntmps48
    go_wp2_with (first | (go_at_call 69; refine (HW.out _).mono ?_; rintro e w1 ⟨rfl, rfl⟩))
    go_ret
    exact ⟨rfl, by go_grown⟩
  | true =>
    by_cases h1 : 1 ≤ f
    · have e1 : decide (1 ≤ f) = true := decide_eq_true h1
      by_cases h2 : f ≤ 3
      · have e2 : decide (f ≤ 3) = true := decide_eq_true h2
        rw [e1, e2]
        go_enter Tryd.func48, Tryd.ntmps48
        go_wp2_with (first | (go_at_call 69; refine (HW.out _).mono ?_; rintro e w1 ⟨rfl, rfl⟩))
        go_ret
        exact ⟨by simp; try omega, by go_grown⟩
      · have e2 : decide (f ≤ 3) = false := decide_eq_false h2
        rw [e1, e2]
        go_enter Tryd.func48, Tryd.ntmps48
        go_wp2_with (first | (go_at_call 69; refine (HW.out _).mono ?_; rintro e w1 ⟨rfl, rfl⟩))
        go_ret
        exact ⟨rfl, by go_grown⟩
    · have e1 : decide (1 ≤ f) = false := decide_eq_false h1
      rw [e1]
      go_enter Tryd.func48, Tryd.ntmps48
      go_wp2_with (first | (go_at_call 69; refine (HW.out _).mono ?_; rintro e w1 ⟨rfl, rfl⟩))
      go_ret
      exact ⟨rfl, by go_grown⟩

theorem below_two {w w2 : World} {A B : Obj} (h : Below (w.heap.size + 1 + 1) ((w.alloc A).alloc B) w2) : Below w.heap.size w w2 :=
  below_next (((Below.refl _ _).alloc (Nat.le_refl _) A).alloc (by simp) B) (by simpa using h)
set_option maxRecDepth 100000 in
set_option maxHeartbeats 2000000 in
theorem op_any (v0 v1 v2 : Value) (K : List (List UInt8)) (o : OpM) (w : World) (h1 : Texts w v1 K) :
    Calls Tryd.prog 49 #[.agg #[v0, v1, v2], .agg #[.bool o.1, .int .i64 o.2.1, .int .i64 o.2.2.1, .int .i64 o.2.2.2]] w fun e w' => e = .returned (.bool (okOp K.length o)) ∧ Below w.heap.size w w' := by
  obtain ⟨p1, c1, rfl, -⟩ := h1
  obtain ⟨b, k, kd, n⟩ := o
  simp only [okOp]
  have HW := Lib.hid (within_any k p1 K.length c1)
  have HM := Lib.hid (vmay_any kd n)
  generalize inside k K.length = I at *
  generalize mayV kd n = M at *
  cases I with
  | false =>
    go_enter Tryd.func49, Tryd.ntmps49
    go_wp2_with (first | (go_at_call 69; refine (HW.out _).mono ?_; rintro e w1 ⟨rfl, rfl⟩))
    go_ret
    exact ⟨rfl, by go_grown⟩
  | true =>
    cases M with
    | false =>
      go_enter Tryd.func49, Tryd.ntmps49
      go_wp2_with (first | (go_at_call 69; refine (HW.out _).mono ?_; rintro e w1 ⟨rfl, rfl⟩) | (go_at_call 70; refine (HM.out _).mono ?_; rintro e w2 ⟨rfl, hb2⟩))
      go_ret
      exact ⟨rfl, by (repeat' (first | (with_reducible exact Below.refl _ _) | (with_reducible assumption) | (refine below_next ?_ (by with_reducible assumption)) | (with_reducible refine Below.alloc ?_ ?_ _) | (with_reducible refine Below.drew ?_) | (with_reducible refine below_drewN ?_ _) | omega | (simp; done) | (simp; omega)))⟩
    | true =>
      have ext : ∀ (w2 : World) (hb2 : Below (w.heap.size + 1 + 1) ((w.alloc (.cells #[v0, .slice p1 K.length c1, v2] 25)).alloc (.cells #[.bool b, .int .i64 k, .int .i64 kd, .int .i64 n] 62)) w2), w2.cell? ⟨w.heap.size + 1, 0, none⟩ = some (.bool b) ∧ w2.cell? ⟨w.heap.size + 1, 2, none⟩ = some (.int .i64 kd) := fun w2 hb2 => by
        have e0 := hb2.cell (p := ⟨w.heap.size + 1, 0, none⟩) (by show w.heap.size + 1 < w.heap.size + 1 + 1; omega)
        have e2 := hb2.cell (p := ⟨w.heap.size + 1, 2, none⟩) (by show w.heap.size + 1 < w.heap.size + 1 + 1; omega)
        rw [e0, e2]
        have hr := heap_alloc_new (w.alloc (.cells #[v0, .slice p1 K.length c1, v2] 25)) (.cells #[.bool b, .int .i64 k, .int .i64 kd, .int .i64 n] 62)
        rw [show (w.alloc (.cells #[v0, .slice p1 K.length c1, v2] 25)).heap.size = w.heap.size + 1 by simp] at hr
        exact ⟨by rw [cell_of_row _ _ 0 _ _ (0, 0) hr]; rfl, by rw [cell_of_row _ _ 2 _ _ (0, 0) hr]; rfl⟩
      cases b with
      | false =>
        go_enter Tryd.func49, Tryd.ntmps49
        go_wp2_with (first | (go_at_call 69; refine (HW.out _).mono ?_; rintro e w1 ⟨rfl, rfl⟩) | (go_at_call 70; refine (HM.out _).mono ?_; rintro e w2 ⟨rfl, hb2⟩; try simp at hb2; obtain ⟨x1, x2⟩ := ext w2 hb2))
        go_ret
        exact ⟨rfl, below_two hb2⟩
      | true =>
        go_enter Tryd.func49, Tryd.ntmps49
        go_wp2_with (first | (go_at_call 69; refine (HW.out _).mono ?_; rintro e w1 ⟨rfl, rfl⟩) | (go_at_call 70; refine (HM.out _).mono ?_; rintro e w2 ⟨rfl, hb2⟩; try simp at hb2; obtain ⟨x1, x2⟩ := ext w2 hb2))
        go_ret
        exact ⟨by simp, below_two hb2⟩
end Go.Proofs.YthalbcmlehpfaaaDoor
