/-
  The walks of layer 4 (cell): what each function of package cell, and of its reference, returns; each leaves all memory that was there as it was. No conditions.
-/
import Derived.Test.YtbeblcmlljnmiaaBase
import Derived.Handy
import Derived.WalkSpells
import Derived.WalkLawsBesides
import Derived.Deep.RegionHeld3
import Derived.Deep.DrawnRows
namespace Go.Proofs.Ytbeblcmlljnmiaa
open Go.RowKit

/-! ### Type assertions, as closed facts of the program's own tables. -/
theorem as_nil (t : Nat) (w : World) (h : t = 2 ∨ t = 3) : (Instr.typeAssert .nilIface 20 t true).run Try.prog w = .ok (.tuple #[.int .i64 0, .bool false]) w := by
  rcases h with rfl | rfl <;> kernel_rfl
theorem as_nil_lost (w : World) : (Instr.typeAssert .nilIface 20 60 true).run Try.prog w = .ok (.tuple #[.agg #[], .bool false]) w := by kernel_rfl
theorem as_int64 (v : Value) (w : World) : (Instr.typeAssert (.iface 2 v) 20 2 true).run Try.prog w = .ok (.tuple #[v, .bool true]) w := by kernel_rfl
theorem as_int64_must (v : Value) (w : World) : (Instr.typeAssert (.iface 2 v) 20 2 false).run Try.prog w = .ok v w := by kernel_rfl
theorem as_int (v : Value) (w : World) : (Instr.typeAssert (.iface 3 v) 20 3 true).run Try.prog w = .ok (.tuple #[v, .bool true]) w := by kernel_rfl
theorem as_lost (v : Value) (w : World) : (Instr.typeAssert (.iface 60 v) 20 60 true).run Try.prog w = .ok (.tuple #[v, .bool true]) w := by kernel_rfl
theorem zero_int64 (w : World) : ((do pure (Value.tuple #[← zeroValue 2, .bool false])) : Sem Value).run Try.prog w = .ok (.tuple #[.int .i64 0, .bool false]) w := by kernel_rfl
theorem zero_int (w : World) : ((do pure (Value.tuple #[← zeroValue 3, .bool false])) : Sem Value).run Try.prog w = .ok (.tuple #[.int .i64 0, .bool false]) w := by kernel_rfl
theorem zero_lost (w : World) : ((do pure (Value.tuple #[← zeroValue 60, .bool false])) : Sem Value).run Try.prog w = .ok (.tuple #[.agg #[], .bool false]) w := by kernel_rfl
theorem as_int64_no (u : TypeId) (v : Value) (w : World) (h : (u == 2) = false) : (Instr.typeAssert (.iface u v) 20 2 true).run Try.prog w = .ok (.tuple #[.int .i64 0, .bool false]) w := by
  have e : (Instr.typeAssert (.iface u v) 20 2 true).run Try.prog w = (if u = 2 then (pure (Value.tuple #[v, .bool true]) : Sem Value) else (do pure (Value.tuple #[← zeroValue 2, .bool false]))).run Try.prog w := by kernel_rfl
  rw [e, if_neg (by simpa using h)]; exact zero_int64 w
theorem as_int_no (u : TypeId) (v : Value) (w : World) (h : (u == 3) = false) : (Instr.typeAssert (.iface u v) 20 3 true).run Try.prog w = .ok (.tuple #[.int .i64 0, .bool false]) w := by
  have e : (Instr.typeAssert (.iface u v) 20 3 true).run Try.prog w = (if u = 3 then (pure (Value.tuple #[v, .bool true]) : Sem Value) else (do pure (Value.tuple #[← zeroValue 3, .bool false]))).run Try.prog w := by kernel_rfl
  rw [e, if_neg (by simpa using h)]; exact zero_int w
theorem as_lost_no (u : TypeId) (v : Value) (w : World) (h : (u == 60) = false) : (Instr.typeAssert (.iface u v) 20 60 true).run Try.prog w = .ok (.tuple #[.agg #[], .bool false]) w := by
  have e : (Instr.typeAssert (.iface u v) 20 60 true).run Try.prog w = (if u = 60 then (pure (Value.tuple #[v, .bool true]) : Sem Value) else (do pure (Value.tuple #[← zeroValue 60, .bool false]))).run Try.prog w := by kernel_rfl
  rw [e, if_neg (by simpa using h)]; exact zero_lost w
attribute [local go_sem] as_nil as_nil_lost as_int64 as_int64_must as_int as_lost as_int64_no as_int_no as_lost_no

set_option maxHeartbeats 400000 in
theorem of_int (n : Int) (w : World) :
    Calls Try.prog 15 #[.agg #[.int .i64 1, .int .i64 n]] w fun e w' => e = .returned (.agg #[.iface 2 (.int .i64 n)]) ∧ Below w.heap.size w w' := by
  go_enter Try.func15, Try.ntmps15
  go_wp2
  go_returns
  exact ⟨rfl, by go_grown⟩
set_option maxHeartbeats 400000 in
theorem of_lost (n : Int) (w : World) :
    Calls Try.prog 15 #[.agg #[.int .i64 2, .int .i64 n]] w fun e w' => e = .returned (.agg #[.iface 60 (.agg #[])]) ∧ Below w.heap.size w w' := by
  go_enter Try.func15, Try.ntmps15
  go_wp2
  go_returns
  exact ⟨rfl, by go_grown⟩
set_option maxHeartbeats 400000 in
theorem of_nil (k n : Int) (w : World) (h1 : (k == 1) = false) (h2 : (k == 2) = false) :
    Calls Try.prog 15 #[.agg #[.int .i64 k, .int .i64 n]] w fun e w' => e = .returned (.agg #[.nilIface]) ∧ Below w.heap.size w w' := by
  go_enter Try.func15, Try.ntmps15
  go_wp2
  go_returns
  exact ⟨rfl, by go_grown⟩

/-- What a cell holds, of a value: seen as a plain function. -/
def ofV (k n : Int) : Value := if k = 1 then .iface 2 (.int .i64 n) else if k = 2 then .iface 60 (.agg #[]) else .nilIface

theorem of_any (k n : Int) (w : World) :
    Calls Try.prog 15 #[.agg #[.int .i64 k, .int .i64 n]] w fun e w' => e = .returned (.agg #[ofV k n]) ∧ Below w.heap.size w w' := by
  by_cases h1 : k = 1
  · subst h1; exact of_int n w
  · by_cases h2 : k = 2
    · subst h2; exact of_lost n w
    · have e : ofV k n = .nilIface := by simp [ofV, h1, h2]
      rw [e]; exact of_nil k n w (by simpa using h1) (by simpa using h2)

set_option maxHeartbeats 400000 in
theorem back_int (n : Int) (w : World) :
    Calls Try.prog 14 #[.agg #[.iface 2 (.int .i64 n)]] w fun e w' => e = .returned (.tuple #[.agg #[.int .i64 1, .int .i64 n], .int .i64 0]) ∧ Below w.heap.size w w' := by
  go_enter Try.func14, Try.ntmps14
  go_wp2
  go_returns
  exact ⟨rfl, by go_grown⟩
set_option maxHeartbeats 400000 in
theorem back_lost (w : World) :
    Calls Try.prog 14 #[.agg #[.iface 60 (.agg #[])]] w fun e w' => e = .returned (.tuple #[.agg #[.int .i64 2, .int .i64 0], .int .i64 0]) ∧ Below w.heap.size w w' := by
  go_enter Try.func14, Try.ntmps14
  go_wp2
  go_returns
  exact ⟨rfl, by go_grown⟩
set_option maxHeartbeats 400000 in
theorem back_nil (w : World) :
    Calls Try.prog 14 #[.agg #[.nilIface]] w fun e w' => e = .returned (.tuple #[.agg #[.int .i64 0, .int .i64 0], .int .i64 0]) ∧ Below w.heap.size w w' := by
  go_enter Try.func14, Try.ntmps14
  go_wp2
  go_returns
  exact ⟨rfl, by go_grown⟩
set_option maxHeartbeats 400000 in
theorem back_other (u : TypeId) (v : Value) (w : World) (h1 : (u == 2) = false) (h2 : (u == 60) = false) :
    Calls Try.prog 14 #[.agg #[.iface u v]] w fun e w' => e = .returned (.tuple #[.agg #[.int .i64 0, .int .i64 0], .int .i64 15]) ∧ Below w.heap.size w w' := by
  go_enter Try.func14, Try.ntmps14
  go_wp2
  go_returns
  exact ⟨rfl, by go_grown⟩

/-! ### Cells seen as values: what a fair cell is. -/
/-- What a cell may hold here: nothing, an int64, a Lost, or something else. -/
def Fit (v : Value) : Prop := v = .nilIface ∨ (∃ n, v = .iface 2 (.int .i64 n)) ∨ v = .iface 60 (.agg #[]) ∨ ∃ u x, v = .iface u x ∧ (u == 2) = false ∧ (u == 60) = false
/-- Its kind among values. -/
def kindOf : Value → Int | .iface t _ => if t = 2 then 1 else if t = 60 then 2 else 0 | _ => 0
/-- Is it fair? -/
def fairOf : Value → Bool | .iface t _ => t == 2 || t == 60 | _ => true
/-- Its number. -/
def numOf : Value → Int | .iface _ (.int _ n) => n | _ => 0

set_option maxHeartbeats 400000 in
theorem rank_of (v : Value) (m n c : Int) (w : World) (hb : ∀ W, Calls Try.prog 14 #[.agg #[v]] W fun e w' => e = .returned (.tuple #[.agg #[.int .i64 m, .int .i64 n], .int .i64 c]) ∧ Below W.heap.size W w') :
    Calls Try.prog 47 #[.agg #[v]] w fun e w' => e = .returned (.tuple #[.int .i64 m, .bool (c == 0)]) ∧ Below w.heap.size w w' := by
  have H := Lib.hid hb; clear hb
  go_enter Try.func47, Try.ntmps47
  go_wp2_with (go_at_call 14; refine (H.out _).mono ?_; rintro e w1 ⟨rfl, hb1⟩)
  go_ret2
  exact ⟨rfl, Below.alloc (Below.trans (Below.alloc (Below.refl _ _) (Nat.le_refl _) _) (hb1.mono (by simp))) (by have := hb1.size; simp at this; omega) _⟩

theorem rank_any (v : Value) (hv : Fit v) (w : World) :
    Calls Try.prog 47 #[.agg #[v]] w fun e w' => e = .returned (.tuple #[.int .i64 (kindOf v), .bool (fairOf v)]) ∧ Below w.heap.size w w' := by
  rcases hv with rfl | ⟨n, rfl⟩ | rfl | ⟨u, x, rfl, h1, h2⟩
  · exact rank_of _ 0 0 0 w back_nil
  · exact rank_of _ 1 n 0 w (back_int n)
  · exact rank_of _ 2 0 0 w back_lost
  · have e1 : kindOf (.iface u x) = 0 := by simp [kindOf, show ¬ u = 2 by simpa using h1, show ¬ u = 60 by simpa using h2]
    have e2 : fairOf (.iface u x) = false := by simp [fairOf, h1, h2]
    rw [e1, e2]
    exact rank_of _ 0 0 15 w (fun W => back_other u x W h1 h2)

set_option maxHeartbeats 400000 in
theorem must_int (n : Int) (w : World) :
    Calls Try.prog 22 #[.agg #[.iface 2 (.int .i64 n)]] w fun e w' => e = .returned (.int .i64 n) ∧ Below w.heap.size w w' := by
  go_enter Try.func22, Try.ntmps22
  go_wp2
  go_ret
  exact ⟨rfl, by go_grown⟩

theorem fit_int {v : Value} (hv : Fit v) (h : kindOf v = 1) : ∃ n, v = .iface 2 (.int .i64 n) := by
  rcases hv with rfl | ⟨n, rfl⟩ | rfl | ⟨u, x, rfl, h1, h2⟩
  · simp [kindOf] at h
  · exact ⟨n, rfl⟩
  · simp [kindOf] at h
  · simp [kindOf, show ¬ u = 2 by simpa using h1, show ¬ u = 60 by simpa using h2] at h

/-- Are two cells fair, and the same? -/
def sameB (a b : Value) : Bool := fairOf a && fairOf b && kindOf a == kindOf b && (kindOf a != 1 || numOf a == numOf b)
/-- Is a fair cell ahead of another one? -/
def lessB (a b : Value) : Bool := fairOf a && fairOf b && (if kindOf a = kindOf b then kindOf a == 1 && decide (numOf a < numOf b) else decide (kindOf a < kindOf b))

theorem rank_int (n : Int) (w : World) :
    Calls Try.prog 47 #[.agg #[.iface 2 (.int .i64 n)]] w fun e w' => e = .returned (.tuple #[.int .i64 1, .bool true]) ∧ Below w.heap.size w w' :=
  rank_of _ 1 n 0 w (back_int n)

set_option maxHeartbeats 400000 in
theorem same_any (a b : Value) (ha : Fit a) (hb : Fit b) (w : World) :
    Calls Try.prog 24 #[.agg #[a], .agg #[b]] w fun e w' => e = .returned (.bool (sameB a b)) ∧ Below w.heap.size w w' := by
  by_cases h1 : fairOf a = true ∧ fairOf b = true ∧ kindOf a = 1 ∧ kindOf b = 1
  · obtain ⟨-, -, k1, k2⟩ := h1
    obtain ⟨x, rfl⟩ := fit_int ha k1
    obtain ⟨y, rfl⟩ := fit_int hb k2
    have es : sameB (.iface 2 (.int .i64 x)) (.iface 2 (.int .i64 y)) = (x == y) := by simp [sameB, fairOf, kindOf, numOf]
    rw [es]
    clear ha hb k1 k2 es
    go_enter Try.func24, Try.ntmps24
    go_wp2_with (fail)
    refine (rank_int _ _).mono ?_
    rintro e w1 ⟨rfl, hb1⟩
    have c1 : w1.cell? ⟨w.heap.size, 0, none⟩ = some (.iface 2 (.int .i64 x)) := cell_later hb1 (by go_simp)
    have c2 : w1.cell? ⟨w.heap.size + 1, 0, none⟩ = some (.iface 2 (.int .i64 y)) := cell_later hb1 (by go_simp)
    have b1 : Below w.heap.size w w1 := below_next (by go_grown) hb1
    go_wp2_with (fail)
    refine (rank_int _ _).mono ?_
    rintro e w2 ⟨rfl, hb2⟩
    have d1 := cell_later hb2 c1
    have d2 := cell_later hb2 c2
    have b2 := below_next b1 hb2
    clear c1 c2 hb1 b1 hb2
    go_wp2_with (fail)
    go_region_held3 (fun w' => w'.cell? ⟨w.heap.size, 0, none⟩ = some (.iface 2 (.int .i64 x)) ∧ w'.cell? ⟨w.heap.size + 1, 0, none⟩ = some (.iface 2 (.int .i64 y)) ∧ Below w.heap.size w w') ((first | (go_split_ands; (repeat' (refine And.intro ?_ ?_)) <;> (first | (with_reducible assumption) | exact cell_later (by assumption) (by assumption) | exact cell_past _ (by assumption) | exact cell_drew (by assumption) | (refine below_next ?_ (by assumption); assumption) | (refine Below.drew ?_; assumption))) | ((repeat' (refine And.intro ?_ ?_)) <;> (first | (go_simp; done) | (go_grown; done)))))
      (first | (go_at_call 22; refine (must_int _ _).mono ?_; rintro e w3 ⟨rfl, hb3⟩))
    go_wp2
    go_ret
    exact ⟨rfl, by go_split_ands; assumption⟩
  · have es : sameB a b = (fairOf a && fairOf b && kindOf a == kindOf b) := by
      unfold sameB
      cases hf1 : fairOf a <;> cases hf2 : fairOf b <;> simp
      intro hk
      by_cases k1 : kindOf a = 1
      · exact absurd ⟨hf1, hf2, k1, by omega⟩ h1
      · exact .inl k1
    rw [es]
    have k1 : fairOf a = true → fairOf b = true → kindOf a = kindOf b → (kindOf b != 1) = true := fun q1 q2 q3 => by
      rw [bne_iff_ne]; intro q4; exact h1 ⟨q1, q2, by omega, q4⟩
    clear h1 es
    by_cases hk : kindOf a = kindOf b
    all_goals cases hf1 : fairOf a <;> cases hf2 : fairOf b
    all_goals
      first | (have k2 := k1 hf1 hf2 hk; clear k1) | clear k1
      first | (have hk' : (kindOf a != kindOf b) = true := by simpa using hk) | (have hk' : (kindOf a != kindOf b) = false := by simpa using hk)
      go_enter Try.func24, Try.ntmps24
      go_wp2_with (fail)
      refine (rank_any _ ha _).mono ?_
      rintro e w1 ⟨rfl, hb1⟩
      have c2 : w1.cell? ⟨w.heap.size + 1, 0, none⟩ = some b := cell_later hb1 (by go_simp)
      have b1 : Below w.heap.size w w1 := below_next (by go_grown) hb1
      go_wp2_with (fail)
      refine (rank_any _ hb _).mono ?_
      rintro e w2 ⟨rfl, hb2⟩
      have b2 := below_next b1 hb2
      go_wp2_with (fail)
      clear ha hb hb1 hb2 c2 b1
      first
        | (go_ret; exact ⟨by simp [hk], b2⟩)
        | (go_quiet (fail); go_wp2; go_ret; exact ⟨by simp [hk], below_drewN b2 _⟩)
set_option maxHeartbeats 400000 in
theorem less_any (a b : Value) (ha : Fit a) (hb : Fit b) (w : World) :
    Calls Try.prog 23 #[.agg #[a], .agg #[b]] w fun e w' => e = .returned (.bool (lessB a b)) ∧ Below w.heap.size w w' := by
  by_cases h1 : fairOf a = true ∧ fairOf b = true ∧ kindOf a = 1 ∧ kindOf b = 1
  · obtain ⟨-, -, k1, k2⟩ := h1
    obtain ⟨x, rfl⟩ := fit_int ha k1
    obtain ⟨y, rfl⟩ := fit_int hb k2
    have es : lessB (.iface 2 (.int .i64 x)) (.iface 2 (.int .i64 y)) = (decide (x < y)) := by unfold lessB; rw [if_pos (by simp [kindOf])]; simp only [fairOf, kindOf, numOf, beq_self_eq_true, Bool.true_or, Bool.true_and, if_true]; exact decide_eq_decide.2 Iff.rfl
    rw [es]
    clear ha hb k1 k2 es
    go_enter Try.func23, Try.ntmps23
    go_wp2_with (fail)
    refine (rank_int _ _).mono ?_
    rintro e w1 ⟨rfl, hb1⟩
    have c1 : w1.cell? ⟨w.heap.size, 0, none⟩ = some (.iface 2 (.int .i64 x)) := cell_later hb1 (by go_simp)
    have c2 : w1.cell? ⟨w.heap.size + 1, 0, none⟩ = some (.iface 2 (.int .i64 y)) := cell_later hb1 (by go_simp)
    have b1 : Below w.heap.size w w1 := below_next (by go_grown) hb1
    go_wp2_with (fail)
    refine (rank_int _ _).mono ?_
    rintro e w2 ⟨rfl, hb2⟩
    have d1 := cell_later hb2 c1
    have d2 := cell_later hb2 c2
    have b2 := below_next b1 hb2
    clear c1 c2 hb1 b1 hb2
    go_wp2_with (fail)
    go_region_held3 (fun w' => w'.cell? ⟨w.heap.size, 0, none⟩ = some (.iface 2 (.int .i64 x)) ∧ w'.cell? ⟨w.heap.size + 1, 0, none⟩ = some (.iface 2 (.int .i64 y)) ∧ Below w.heap.size w w') ((first | (go_split_ands; (repeat' (refine And.intro ?_ ?_)) <;> (first | (with_reducible assumption) | exact cell_later (by assumption) (by assumption) | exact cell_past _ (by assumption) | exact cell_drew (by assumption) | (refine below_next ?_ (by assumption); assumption) | (refine Below.drew ?_; assumption))) | ((repeat' (refine And.intro ?_ ?_)) <;> (first | (go_simp; done) | (go_grown; done)))))
      (first | (go_at_call 22; refine (must_int _ _).mono ?_; rintro e w3 ⟨rfl, hb3⟩))
    go_wp2
    go_ret
    exact ⟨rfl, by go_split_ands; assumption⟩
  · have es : lessB a b = (fairOf a && fairOf b && kindOf a != kindOf b && decide (kindOf a < kindOf b)) := by
      unfold lessB
      cases hf1 : fairOf a <;> cases hf2 : fairOf b <;> simp
      by_cases hk : kindOf a = kindOf b <;> simp [hk]
      intro k1
      exact absurd ⟨hf1, hf2, by omega, k1⟩ h1
    rw [es]
    have k1 : fairOf a = true → fairOf b = true → kindOf a = kindOf b → (kindOf b == 1) = false := fun q1 q2 q3 => by
      rw [beq_eq_false_iff_ne]; intro q4; exact h1 ⟨q1, q2, by omega, q4⟩
    clear h1 es
    by_cases hk : kindOf a = kindOf b
    all_goals cases hf1 : fairOf a <;> cases hf2 : fairOf b
    all_goals
      first | (have k2 := k1 hf1 hf2 hk; clear k1) | clear k1
      first | (have hk' : (kindOf a != kindOf b) = true := by simpa using hk) | (have hk' : (kindOf a != kindOf b) = false := by simpa using hk)
      go_enter Try.func23, Try.ntmps23
      go_wp2_with (fail)
      refine (rank_any _ ha _).mono ?_
      rintro e w1 ⟨rfl, hb1⟩
      have c2 : w1.cell? ⟨w.heap.size + 1, 0, none⟩ = some b := cell_later hb1 (by go_simp)
      have b1 : Below w.heap.size w w1 := below_next (by go_grown) hb1
      go_wp2_with (fail)
      refine (rank_any _ hb _).mono ?_
      rintro e w2 ⟨rfl, hb2⟩
      have b2 := below_next b1 hb2
      go_wp2_with (fail)
      clear ha hb hb1 hb2 c2 b1
      first
        | (go_ret; exact ⟨by simp [hk], b2⟩)
        | (go_quiet (fail); go_wp2; go_ret; exact ⟨by simp [hk], below_drewN b2 _⟩)


/-! ### The statements' own cells. -/
/-- What the law's 'made' puts into a cell. -/
def heldOf (t n : Int) : Value := if t = 0 then .nilIface else if t = 1 then .iface 2 (.int .i64 n) else if t = 2 then .iface 60 (.agg #[]) else if t = 3 then .iface 3 (.int .i64 n) else .iface 9 (.string { data := #[120] })
theorem held_cases (t n : Int) : (t = 0 ∧ heldOf t n = .nilIface) ∨ (t = 1 ∧ heldOf t n = .iface 2 (.int .i64 n)) ∨ (t = 2 ∧ heldOf t n = .iface 60 (.agg #[])) ∨ (t = 3 ∧ heldOf t n = .iface 3 (.int .i64 n)) ∨
    ((t == 0) = false ∧ (t == 1) = false ∧ (t == 2) = false ∧ (t == 3) = false ∧ heldOf t n = .iface 9 (.string { data := #[120] })) := by
  by_cases h0 : t = 0
  · exact .inl ⟨h0, by simp [heldOf, h0]⟩
  by_cases h1 : t = 1
  · exact .inr (.inl ⟨h1, by simp [heldOf, h1]⟩)
  by_cases h2 : t = 2
  · exact .inr (.inr (.inl ⟨h2, by simp [heldOf, h2]⟩))
  by_cases h3 : t = 3
  · exact .inr (.inr (.inr (.inl ⟨h3, by simp [heldOf, h3]⟩)))
  · exact .inr (.inr (.inr (.inr ⟨by simpa using h0, by simpa using h1, by simpa using h2, by simpa using h3, by simp [heldOf, h0, h1, h2, h3]⟩)))
theorem held_fit (t n : Int) : Fit (heldOf t n) := by
  rcases held_cases t n with ⟨-, h⟩ | ⟨-, h⟩ | ⟨-, h⟩ | ⟨-, h⟩ | ⟨-, -, -, -, h⟩ <;> rw [h]
  · exact .inl rfl
  · exact .inr (.inl ⟨n, rfl⟩)
  · exact .inr (.inr (.inl rfl))
  · exact .inr (.inr (.inr ⟨_, _, rfl, rfl, rfl⟩))
  · exact .inr (.inr (.inr ⟨_, _, rfl, rfl, rfl⟩))

set_option maxHeartbeats 1000000 in
theorem made_any (t n : Int) (_hn : IntKind.i64.wrap n = n) (w : World) :
    Calls Try.prog 18 #[.agg #[.int .i64 t, .int .i64 n]] w fun e w' => e = .returned (.agg #[heldOf t n]) ∧ Below w.heap.size w w' := by
  rcases held_cases t n with ⟨rfl, h⟩ | ⟨rfl, h⟩ | ⟨rfl, h⟩ | ⟨rfl, h⟩ | ⟨h0, h1, h2, h3, h⟩ <;> rw [h] <;> clear h
  all_goals
    go_enter Try.func18, Try.ntmps18
    go_wp2
    go_returns
    exact ⟨rfl, by go_grown⟩

def kindB (t : Int) : Int := if t = 1 then 1 else if t = 2 then 2 else 0
def numB (t n : Int) : Int := if t = 1 then n else 0
def errB (t : Int) : Int := if t = 0 ∨ t = 1 ∨ t = 2 then 0 else 15
def numI (t n : Int) : Int := if t = 1 ∨ t = 3 then n else 0
def errI (t : Int) : Int := if t = 1 ∨ t = 3 then 0 else 15

set_option maxHeartbeats 1000000 in
theorem back_held (t n : Int) (w : World) :
    Calls Try.prog 14 #[.agg #[heldOf t n]] w fun e w' => e = .returned (.tuple #[.agg #[.int .i64 (kindB t), .int .i64 (numB t n)], .int .i64 (errB t)]) ∧ Below w.heap.size w w' := by
  rcases held_cases t n with ⟨rfl, h⟩ | ⟨rfl, h⟩ | ⟨rfl, h⟩ | ⟨rfl, h⟩ | ⟨h0, h1, h2, h3, h⟩ <;> rw [h] <;> clear h
  · exact back_nil w
  · exact back_int n w
  · exact back_lost w
  · exact back_other _ _ w rfl rfl
  · have e1 : kindB t = 0 := by simp [kindB, show ¬ t = 1 by simpa using h1, show ¬ t = 2 by simpa using h2]
    have e2 : numB t n = 0 := by simp [numB, show ¬ t = 1 by simpa using h1]
    have e3 : errB t = 15 := by simp [errB, show ¬ t = 0 by simpa using h0, show ¬ t = 1 by simpa using h1, show ¬ t = 2 by simpa using h2]
    rw [e1, e2, e3]
    exact back_other _ _ w rfl rfl

set_option maxHeartbeats 1000000 in
theorem refback_any (t n : Int) (w : World) :
    Calls Try.prog 19 #[.agg #[.int .i64 t, .int .i64 n]] w fun e w' => e = .returned (.tuple #[.agg #[.int .i64 (kindB t), .int .i64 (numB t n)], .int .i64 (errB t)]) ∧ Below w.heap.size w w' := by
  rcases held_cases t n with ⟨rfl, h⟩ | ⟨rfl, h⟩ | ⟨rfl, h⟩ | ⟨rfl, h⟩ | ⟨h0, h1, h2, h3, h⟩ <;> clear h
  all_goals
    first
      | (have e1 : kindB t = 0 := by simp [kindB, show ¬ t = 1 by simpa using h1, show ¬ t = 2 by simpa using h2]
         have e2 : numB t n = 0 := by simp [numB, show ¬ t = 1 by simpa using h1]
         have e3 : errB t = 15 := by simp [errB, show ¬ t = 0 by simpa using h0, show ¬ t = 1 by simpa using h1, show ¬ t = 2 by simpa using h2]
         rw [e1, e2, e3]; clear e1 e2 e3)
      | simp only [kindB, numB, errB]
    go_enter Try.func19, Try.ntmps19
    go_wp2
    go_returns
    exact ⟨rfl, by go_grown⟩

set_option maxHeartbeats 1000000 in
theorem int_held (t n : Int) (_hn : IntKind.i64.wrap n = n) (w : World) :
    Calls Try.prog 20 #[.agg #[heldOf t n]] w fun e w' => e = .returned (.tuple #[.int .i64 (numI t n), .int .i64 (errI t)]) ∧ Below w.heap.size w w' := by
  rcases held_cases t n with ⟨rfl, h⟩ | ⟨rfl, h⟩ | ⟨rfl, h⟩ | ⟨rfl, h⟩ | ⟨h0, h1, h2, h3, h⟩ <;> rw [h] <;> clear h
  all_goals
    first
      | (have e1 : numI t n = 0 := by simp [numI, show ¬ t = 1 by simpa using h1, show ¬ t = 3 by simpa using h3]
         have e3 : errI t = 15 := by simp [errI, show ¬ t = 1 by simpa using h1, show ¬ t = 3 by simpa using h3]
         rw [e1, e3]; clear e1 e3)
      | simp only [numI, errI]
    go_enter Try.func20, Try.ntmps20
    go_wp2
    go_returns
    exact ⟨by simp, by go_grown⟩

set_option maxHeartbeats 1000000 in
theorem refint_any (t n : Int) (w : World) :
    Calls Try.prog 21 #[.agg #[.int .i64 t, .int .i64 n]] w fun e w' => e = .returned (.tuple #[.int .i64 (numI t n), .int .i64 (errI t)]) ∧ Below w.heap.size w w' := by
  rcases held_cases t n with ⟨rfl, h⟩ | ⟨rfl, h⟩ | ⟨rfl, h⟩ | ⟨rfl, h⟩ | ⟨h0, h1, h2, h3, h⟩ <;> clear h
  all_goals
    first
      | (have e1 : numI t n = 0 := by simp [numI, show ¬ t = 1 by simpa using h1, show ¬ t = 3 by simpa using h3]
         have e3 : errI t = 15 := by simp [errI, show ¬ t = 1 by simpa using h1, show ¬ t = 3 by simpa using h3]
         rw [e1, e3]; clear e1 e3)
      | simp only [numI, errI]
    go_enter Try.func21, Try.ntmps21
    go_wp2
    go_returns
    exact ⟨by simp, by go_grown⟩
end Go.Proofs.Ytbeblcmlljnmiaa
