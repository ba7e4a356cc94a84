/-
  CellOne walked: of two fair cells that are not the same just one is ahead; three never stand in a ring. No conditions.
-/
import Derived.Test.YtbeblcmlljnmiaaCellL
import Derived.Test.YtbeblcmlljnmiaaInv
namespace Go.Proofs.Ytbeblcmlljnmiaa
open Go.RowKit
attribute [local go_sem] Later.cell Later.frozen

theorem ofV_fit (k n : Int) : Fit (ofV k n) := by
  unfold ofV
  split
  · exact .inr (.inl ⟨n, rfl⟩)
  · split
    · exact .inr (.inr (.inl rfl))
    · exact .inl rfl

/-- The kind and the number of a value's cell. -/
def kdV (k : Int) : Int := if k = 1 then 1 else if k = 2 then 2 else 0
theorem kind_ofV (k n : Int) : kindOf (ofV k n) = kdV k := by
  unfold ofV kdV
  split
  · simp [kindOf]
  · split
    · simp [kindOf]
    · simp [kindOf]
theorem fair_ofV (k n : Int) : fairOf (ofV k n) = true := by
  unfold ofV
  split
  · simp [fairOf]
  · split
    · simp [fairOf]
    · simp [fairOf]
theorem num_ofV (k n : Int) (h : kdV k = 1) : numOf (ofV k n) = n := by
  have h1 : k = 1 := by
    unfold kdV at h
    split at h
    · assumption
    · split at h <;> omega
  subst h1
  simp [ofV, numOf]
theorem less_ofV (k n k' n' : Int) : lessB (ofV k n) (ofV k' n') = true ↔ kdV k < kdV k' ∨ (kdV k = kdV k' ∧ kdV k = 1 ∧ n < n') := by
  unfold lessB
  rw [fair_ofV, fair_ofV, kind_ofV, kind_ofV]
  by_cases h : kdV k = kdV k'
  · rw [if_pos h]
    by_cases h1 : kdV k = 1
    · rw [num_ofV k n h1, num_ofV k' n' (by omega)]
      simp [h1]; omega
    · simp [h1]; omega
  · rw [if_neg h]; simp; omega
theorem same_ofV (k n k' n' : Int) : sameB (ofV k n) (ofV k' n') = true ↔ kdV k = kdV k' ∧ (kdV k = 1 → n = n') := by
  unfold sameB
  rw [fair_ofV, fair_ofV, kind_ofV, kind_ofV]
  by_cases h : kdV k = kdV k'
  · by_cases h1 : kdV k = 1
    · rw [num_ofV k n h1, num_ofV k' n' (by omega)]
      simp [← h, h1]
    · simp [← h, h1]
  · simp [h]

/-- A variable of the statement's own: a block of one cell, set or not. -/
def Box (w0 w : World) (u : Value) (done : Bool) (x : Value) : Prop :=
  ∃ b, u = .pointer (some ⟨b, 0, none⟩) ∧ w0.heap.size ≤ b ∧ b < w.heap.size ∧ w.heap[b]? = some (.cells #[if done then x else .nilIface] 28 (0, 0))
theorem Box.below {w0 w w' : World} {u : Value} {done : Bool} {x : Value} (h : Box w0 w u done x) (hb : Below w.heap.size w w') : Box w0 w' u done x := by
  obtain ⟨b, h1, h2, h3, h4⟩ := h
  exact ⟨b, h1, h2, Nat.lt_of_lt_of_le h3 hb.size, (hb.block b h3).trans h4⟩
theorem Box.far {w0 w : World} {u : Value} {done : Bool} {x : Value} (h : Box w0 w u done x) {b : Nat} (hb : u ≠ .pointer (some ⟨b, 0, none⟩)) (v : Value) : Box w0 (w.setCell ⟨b, 0, none⟩ v) u done x := by
  obtain ⟨c, h1, h2, h3, h4⟩ := h
  refine ⟨c, h1, h2, by simpa [World.setCell] using h3, ?_⟩
  rw [Below.heap_setCell _ _ _ _ (fun e => hb (by rw [h1, e]))]
  exact h4

/-- What holds while the three cells are made, whichever operation comes up: 'd j': number j has come up. -/
def R3 (W : World) (p3 p4 p5 : Nat) (V0 V1 V2 A B C : Value) (d : Nat → Bool) (a : Act) (w : World) : Prop :=
  ∃ u7 u8 u9 t14 t15 t16 t17 t18 t19 : Value,
    a = ⟨#[V0, V1, V2, .pointer (some ⟨p3, 0, none⟩), .pointer (some ⟨p4, 0, none⟩), .pointer (some ⟨p5, 0, none⟩), .bool false, u7, u8, u9, undef, undef, .bool true, .bool false, t14, t15, t16, t17, t18, t19,
      undef, undef, undef, undef, undef, undef, undef, undef, undef, undef, undef, undef, undef, undef, undef, undef, undef, undef, undef, undef, undef, undef, undef, undef, undef, undef, undef, undef, undef, undef, undef, undef, undef, undef, undef, undef, undef, undef], []⟩ ∧
    Below W.heap.size W w ∧
    (d 0 = true → t14 = V0) ∧ (d 1 = true → t15 = .agg #[A]) ∧ (d 2 = true → t16 = V1) ∧ (d 3 = true → t17 = .agg #[B]) ∧ (d 4 = true → t18 = V2) ∧ (d 5 = true → t19 = .agg #[C]) ∧
    (d 6 = true → Box W w u7 (d 9) A) ∧ (d 7 = true → Box W w u8 (d 10) B) ∧ (d 8 = true → Box W w u9 (d 11) C) ∧
    (d 6 = true → d 7 = true → u7 ≠ u8) ∧ (d 6 = true → d 8 = true → u7 ≠ u9) ∧ (d 7 = true → d 8 = true → u8 ≠ u9) ∧
    (d 9 = true → d 6 = true) ∧ (d 10 = true → d 7 = true) ∧ (d 11 = true → d 8 = true)

theorem Box.new (W w : World) (h : W.heap.size ≤ w.heap.size) (x : Value) : Box W (w.alloc (.cells #[.nilIface] 28)) (.pointer (some ⟨w.heap.size, 0, none⟩)) false x :=
  ⟨w.heap.size, rfl, h, by simp, heap_alloc_new w _⟩
theorem Box.ne_new {W w : World} {u : Value} {done : Bool} {x : Value} (h : Box W w u done x) : u ≠ .pointer (some ⟨w.heap.size, 0, none⟩) := by
  obtain ⟨b, h1, h2, h3, h4⟩ := h
  subst h1
  intro e
  injection e with e; injection e with e; injection e with e
  omega

theorem Box.cell {W w : World} {b : Nat} {x : Value} (h : Box W w (.pointer (some ⟨b, 0, none⟩)) false x) : w.cell? ⟨b, 0, none⟩ = some .nilIface ∧ w.frozen? ⟨b, 0, none⟩ = false ∧ W.heap.size ≤ b := by
  obtain ⟨c, h1, h2, h3, h4⟩ := h
  injection h1 with h1; injection h1 with h1; injection h1 with h1
  subst h1
  exact ⟨(cell_of_row w b 0 _ _ (0, 0) h4).trans (by simp), by simp [World.frozen?, h4], h2⟩
theorem Box.set_ {W w : World} {b : Nat} {x : Value} (h : Box W w (.pointer (some ⟨b, 0, none⟩)) false x) : Box W (w.setCell ⟨b, 0, none⟩ x) (.pointer (some ⟨b, 0, none⟩)) true x := by
  obtain ⟨c, h1, h2, h3, h4⟩ := h
  injection h1 with h1; injection h1 with h1; injection h1 with h1
  subst h1
  exact ⟨b, rfl, h2, by simpa [World.setCell] using h3, by simp [World.setCell, Array.getElem?_modify, h4]⟩
theorem store_ofV (k n : Int) (W : World) (a : Addr) (u : Value) (hc : W.cell? a = some u) (hf : W.frozen? a = false) : (store a (ofV k n)).run Try.prog W = .ok () (W.setCell a (ofV k n)) := by
  unfold ofV
  split
  · go_simp
  · split
    · go_simp
    · go_simp
theorem Box.ptr {W w : World} {u : Value} {done : Bool} {x : Value} (h : Box W w u done x) : ∃ b, u = .pointer (some ⟨b, 0, none⟩) := by
  obtain ⟨b, h1, _⟩ := h; exact ⟨b, h1⟩
theorem not_yet {p q : Bool} (h : p = true → q = true) (hq : q = false) : p = false := by
  cases p
  · rfl
  · rw [h rfl] at hq; cases hq

set_option maxRecDepth 20000 in
set_option maxHeartbeats 4000000 in
theorem cellone_any (k0 n0 k1 n1 k2 n2 : Int) (w : World) :
    Calls Try.prog 5 #[.agg #[.int .i64 k0, .int .i64 n0], .agg #[.int .i64 k1, .int .i64 n1], .agg #[.int .i64 k2, .int .i64 n2]] w fun e w' => e = .returned (.bool true) ∧ Below w.heap.size w w' := by
  go_enter Try.func5, Try.ntmps5
  go_wp2_with (fail)
  refine (works4 _).mono ?_
  rintro e w1 ⟨rfl, hb1⟩
  obtain ⟨hc1, hf1⟩ := bcell hb1
  have hz1 := hb1.size
  try simp at hz1
  have hl1_0 : w.heap.size < w1.heap.size := by omega
  have hl1_1 : w.heap.size+1 < w1.heap.size := by omega
  have hl1_2 : w.heap.size+1+1 < w1.heap.size := by omega
  go_wp2_with fail
  have q00 : w1.cell? ⟨w.heap.size, 0, none⟩ = some (.int .i64 k0) := by go_simp
  have q01 : w1.cell? ⟨w.heap.size, 1, none⟩ = some (.int .i64 n0) := by go_simp
  have q10 : w1.cell? ⟨w.heap.size + 1, 0, none⟩ = some (.int .i64 k1) := by go_simp
  have q11 : w1.cell? ⟨w.heap.size + 1, 1, none⟩ = some (.int .i64 n1) := by go_simp
  have q20 : w1.cell? ⟨w.heap.size + 1 + 1, 0, none⟩ = some (.int .i64 k2) := by go_simp
  have q21 : w1.cell? ⟨w.heap.size + 1 + 1, 1, none⟩ = some (.int .i64 n2) := by go_simp
  have hB : Below w.heap.size w w1 := by (repeat' (first | (with_reducible exact Below.refl _ _) | (with_reducible assumption) | (refine below_next ?_ (by with_reducible assumption)) | (with_reducible refine Below.alloc ?_ ?_ _) | (with_reducible refine Below.drew ?_) | (with_reducible refine below_drewN ?_ _) | omega | (simp; done) | (simp; omega)))
  clear hc1 hf1 hb1
  refine wp_region_inv (by kernel_rfl) (by kernel_rfl) (R3 w1 w.heap.size (w.heap.size + 1) (w.heap.size + 1 + 1) (.agg #[.int .i64 k0, .int .i64 n0]) (.agg #[.int .i64 k1, .int .i64 n1]) (.agg #[.int .i64 k2, .int .i64 n2]) (ofV k0 n0) (ofV k1 n1) (ofV k2 n2)) ?_ ?_ ?_
  · exact ⟨_, _, _, _, _, _, _, _, _, rfl, (Below.refl _ _).drew, by simp, by simp, by simp, by simp, by simp, by simp, by simp, by simp, by simp, by simp, by simp, by simp, by simp, by simp, by simp⟩
  · intro d a w' i o hR ho hd hdeps
    obtain ⟨u7, u8, u9, t14, t15, t16, t17, t18, t19, rfl, hb, h0, h1, h2, h3, h4, h5, h6, h7, h8, h67, h68, h78, g9, g10, g11⟩ := hR
    obtain ⟨hcW, hfW⟩ := bcell hb
    have r00 := (hcW _ 0 hl1_0).trans q00
    have r01 := (hcW _ 1 hl1_0).trans q01
    have r10 := (hcW _ 0 hl1_1).trans q10
    have r11 := (hcW _ 1 hl1_1).trans q11
    have r20 := (hcW _ 0 hl1_2).trans q20
    have r21 := (hcW _ 1 hl1_2).trans q21
    clear hcW hfW q00 q01 q10 q11 q20 q21
    match i, ho with
    | 0, ho =>
      clear ho hdeps
      refine wpOp_left (by rfl) (by rfl) ?_
      have H := Lib.hid (And.intro h0 (And.intro h1 (And.intro h2 (And.intro h3 (And.intro h4 (And.intro h5 (And.intro h6 (And.intro h7 (And.intro h8 (And.intro h67 (And.intro h68 (And.intro h78 (And.intro g9 (And.intro g10 (g11)))))))))))))))
      clear h0 h1 h2 h3 h4 h5 h6 h7 h8 h67 h68 h78 g9 g10 g11
      go_simp
      obtain ⟨h0, h1, h2, h3, h4, h5, h6, h7, h8, h67, h68, h78, g9, g10, g11⟩ := H.out
      exact ⟨_, _, _, _, _, _, _, _, _, rfl, hb, fun _ => rfl, fun h => h1 h, fun h => h2 h, fun h => h3 h, fun h => h4 h, fun h => h5 h, fun h => h6 h, fun h => h7 h, fun h => h8 h, fun h h_ => h67 h h_, fun h h_ => h68 h h_, fun h h_ => h78 h h_, fun h => g9 h, fun h => g10 h, fun h => g11 h⟩
    | 1, ho =>
      obtain rfl := Option.some.inj ho
      have e := h0 (hdeps ⟨0, .data⟩ (by simp) rfl)
      subst e
      clear ho hdeps
      refine wpOp_left (by rfl) (by rfl) ?_
      have H := Lib.hid (And.intro h0 (And.intro h1 (And.intro h2 (And.intro h3 (And.intro h4 (And.intro h5 (And.intro h6 (And.intro h7 (And.intro h8 (And.intro h67 (And.intro h68 (And.intro h78 (And.intro g9 (And.intro g10 (g11)))))))))))))))
      clear h0 h1 h2 h3 h4 h5 h6 h7 h8 h67 h68 h78 g9 g10 g11
      go_simp
      refine (of_any _ _ _).mono ?_
      rintro e w2 ⟨rfl, hb2⟩
      obtain ⟨h0, h1, h2, h3, h4, h5, h6, h7, h8, h67, h68, h78, g9, g10, g11⟩ := H.out
      exact ⟨_, _, _, _, _, _, _, _, _, rfl, (below_next hb hb2), fun h => h0 h, fun _ => rfl, fun h => h2 h, fun h => h3 h, fun h => h4 h, fun h => h5 h, fun h => (h6 h).below hb2, fun h => (h7 h).below hb2, fun h => (h8 h).below hb2, fun h h_ => h67 h h_, fun h h_ => h68 h h_, fun h h_ => h78 h h_, fun h => g9 h, fun h => g10 h, fun h => g11 h⟩
    | 2, ho =>
      clear ho hdeps
      refine wpOp_left (by rfl) (by rfl) ?_
      have H := Lib.hid (And.intro h0 (And.intro h1 (And.intro h2 (And.intro h3 (And.intro h4 (And.intro h5 (And.intro h6 (And.intro h7 (And.intro h8 (And.intro h67 (And.intro h68 (And.intro h78 (And.intro g9 (And.intro g10 (g11)))))))))))))))
      clear h0 h1 h2 h3 h4 h5 h6 h7 h8 h67 h68 h78 g9 g10 g11
      go_simp
      obtain ⟨h0, h1, h2, h3, h4, h5, h6, h7, h8, h67, h68, h78, g9, g10, g11⟩ := H.out
      exact ⟨_, _, _, _, _, _, _, _, _, rfl, hb, fun h => h0 h, fun h => h1 h, fun _ => rfl, fun h => h3 h, fun h => h4 h, fun h => h5 h, fun h => h6 h, fun h => h7 h, fun h => h8 h, fun h h_ => h67 h h_, fun h h_ => h68 h h_, fun h h_ => h78 h h_, fun h => g9 h, fun h => g10 h, fun h => g11 h⟩
    | 3, ho =>
      obtain rfl := Option.some.inj ho
      have e := h2 (hdeps ⟨2, .data⟩ (by simp) rfl)
      subst e
      clear ho hdeps
      refine wpOp_left (by rfl) (by rfl) ?_
      have H := Lib.hid (And.intro h0 (And.intro h1 (And.intro h2 (And.intro h3 (And.intro h4 (And.intro h5 (And.intro h6 (And.intro h7 (And.intro h8 (And.intro h67 (And.intro h68 (And.intro h78 (And.intro g9 (And.intro g10 (g11)))))))))))))))
      clear h0 h1 h2 h3 h4 h5 h6 h7 h8 h67 h68 h78 g9 g10 g11
      go_simp
      refine (of_any _ _ _).mono ?_
      rintro e w2 ⟨rfl, hb2⟩
      obtain ⟨h0, h1, h2, h3, h4, h5, h6, h7, h8, h67, h68, h78, g9, g10, g11⟩ := H.out
      exact ⟨_, _, _, _, _, _, _, _, _, rfl, (below_next hb hb2), fun h => h0 h, fun h => h1 h, fun h => h2 h, fun _ => rfl, fun h => h4 h, fun h => h5 h, fun h => (h6 h).below hb2, fun h => (h7 h).below hb2, fun h => (h8 h).below hb2, fun h h_ => h67 h h_, fun h h_ => h68 h h_, fun h h_ => h78 h h_, fun h => g9 h, fun h => g10 h, fun h => g11 h⟩
    | 4, ho =>
      clear ho hdeps
      refine wpOp_left (by rfl) (by rfl) ?_
      have H := Lib.hid (And.intro h0 (And.intro h1 (And.intro h2 (And.intro h3 (And.intro h4 (And.intro h5 (And.intro h6 (And.intro h7 (And.intro h8 (And.intro h67 (And.intro h68 (And.intro h78 (And.intro g9 (And.intro g10 (g11)))))))))))))))
      clear h0 h1 h2 h3 h4 h5 h6 h7 h8 h67 h68 h78 g9 g10 g11
      go_simp
      obtain ⟨h0, h1, h2, h3, h4, h5, h6, h7, h8, h67, h68, h78, g9, g10, g11⟩ := H.out
      exact ⟨_, _, _, _, _, _, _, _, _, rfl, hb, fun h => h0 h, fun h => h1 h, fun h => h2 h, fun h => h3 h, fun _ => rfl, fun h => h5 h, fun h => h6 h, fun h => h7 h, fun h => h8 h, fun h h_ => h67 h h_, fun h h_ => h68 h h_, fun h h_ => h78 h h_, fun h => g9 h, fun h => g10 h, fun h => g11 h⟩
    | 5, ho =>
      obtain rfl := Option.some.inj ho
      have e := h4 (hdeps ⟨4, .data⟩ (by simp) rfl)
      subst e
      clear ho hdeps
      refine wpOp_left (by rfl) (by rfl) ?_
      have H := Lib.hid (And.intro h0 (And.intro h1 (And.intro h2 (And.intro h3 (And.intro h4 (And.intro h5 (And.intro h6 (And.intro h7 (And.intro h8 (And.intro h67 (And.intro h68 (And.intro h78 (And.intro g9 (And.intro g10 (g11)))))))))))))))
      clear h0 h1 h2 h3 h4 h5 h6 h7 h8 h67 h68 h78 g9 g10 g11
      go_simp
      refine (of_any _ _ _).mono ?_
      rintro e w2 ⟨rfl, hb2⟩
      obtain ⟨h0, h1, h2, h3, h4, h5, h6, h7, h8, h67, h68, h78, g9, g10, g11⟩ := H.out
      exact ⟨_, _, _, _, _, _, _, _, _, rfl, (below_next hb hb2), fun h => h0 h, fun h => h1 h, fun h => h2 h, fun h => h3 h, fun h => h4 h, fun _ => rfl, fun h => (h6 h).below hb2, fun h => (h7 h).below hb2, fun h => (h8 h).below hb2, fun h h_ => h67 h h_, fun h h_ => h68 h h_, fun h h_ => h78 h h_, fun h => g9 h, fun h => g10 h, fun h => g11 h⟩
    | 6, ho =>
      clear ho hdeps
      have e9 : d 9 = false := not_yet g9 hd
      refine wpOp_left (by rfl) (by rfl) ?_
      have H := Lib.hid (And.intro h0 (And.intro h1 (And.intro h2 (And.intro h3 (And.intro h4 (And.intro h5 (And.intro h6 (And.intro h7 (And.intro h8 (And.intro h67 (And.intro h68 (And.intro h78 (And.intro g9 (And.intro g10 (g11)))))))))))))))
      clear h0 h1 h2 h3 h4 h5 h6 h7 h8 h67 h68 h78 g9 g10 g11
      go_simp
      obtain ⟨h0, h1, h2, h3, h4, h5, h6, h7, h8, h67, h68, h78, g9, g10, g11⟩ := H.out
      have hbx : Box w1 (w'.alloc (.cells #[.nilIface] 28)) (.pointer (some ⟨w'.heap.size, 0, none⟩)) (d 9) (ofV k0 n0) := by rw [e9]; exact Box.new _ _ hb.size _
      have hba : Below w'.heap.size w' (w'.alloc (.cells #[.nilIface] 28)) := (Below.refl _ _).alloc (Nat.le_refl _) _
      exact ⟨_, _, _, _, _, _, _, _, _, rfl, (below_next hb hba), fun h => h0 h, fun h => h1 h, fun h => h2 h, fun h => h3 h, fun h => h4 h, fun h => h5 h, fun _ => hbx, fun h => (h7 h).below hba, fun h => (h8 h).below hba, fun _ h => (h7 h).ne_new.symm, fun _ h => (h8 h).ne_new.symm, fun h h_ => h78 h h_, fun _ => rfl, fun h => g10 h, fun h => g11 h⟩
    | 7, ho =>
      clear ho hdeps
      have e9 : d 10 = false := not_yet g10 hd
      refine wpOp_left (by rfl) (by rfl) ?_
      have H := Lib.hid (And.intro h0 (And.intro h1 (And.intro h2 (And.intro h3 (And.intro h4 (And.intro h5 (And.intro h6 (And.intro h7 (And.intro h8 (And.intro h67 (And.intro h68 (And.intro h78 (And.intro g9 (And.intro g10 (g11)))))))))))))))
      clear h0 h1 h2 h3 h4 h5 h6 h7 h8 h67 h68 h78 g9 g10 g11
      go_simp
      obtain ⟨h0, h1, h2, h3, h4, h5, h6, h7, h8, h67, h68, h78, g9, g10, g11⟩ := H.out
      have hbx : Box w1 (w'.alloc (.cells #[.nilIface] 28)) (.pointer (some ⟨w'.heap.size, 0, none⟩)) (d 10) (ofV k1 n1) := by rw [e9]; exact Box.new _ _ hb.size _
      have hba : Below w'.heap.size w' (w'.alloc (.cells #[.nilIface] 28)) := (Below.refl _ _).alloc (Nat.le_refl _) _
      exact ⟨_, _, _, _, _, _, _, _, _, rfl, (below_next hb hba), fun h => h0 h, fun h => h1 h, fun h => h2 h, fun h => h3 h, fun h => h4 h, fun h => h5 h, fun h => (h6 h).below hba, fun _ => hbx, fun h => (h8 h).below hba, fun h _ => (h6 h).ne_new, fun h h_ => h68 h h_, fun _ h => (h8 h).ne_new.symm, fun h => g9 h, fun _ => rfl, fun h => g11 h⟩
    | 8, ho =>
      clear ho hdeps
      have e9 : d 11 = false := not_yet g11 hd
      refine wpOp_left (by rfl) (by rfl) ?_
      have H := Lib.hid (And.intro h0 (And.intro h1 (And.intro h2 (And.intro h3 (And.intro h4 (And.intro h5 (And.intro h6 (And.intro h7 (And.intro h8 (And.intro h67 (And.intro h68 (And.intro h78 (And.intro g9 (And.intro g10 (g11)))))))))))))))
      clear h0 h1 h2 h3 h4 h5 h6 h7 h8 h67 h68 h78 g9 g10 g11
      go_simp
      obtain ⟨h0, h1, h2, h3, h4, h5, h6, h7, h8, h67, h68, h78, g9, g10, g11⟩ := H.out
      have hbx : Box w1 (w'.alloc (.cells #[.nilIface] 28)) (.pointer (some ⟨w'.heap.size, 0, none⟩)) (d 11) (ofV k2 n2) := by rw [e9]; exact Box.new _ _ hb.size _
      have hba : Below w'.heap.size w' (w'.alloc (.cells #[.nilIface] 28)) := (Below.refl _ _).alloc (Nat.le_refl _) _
      exact ⟨_, _, _, _, _, _, _, _, _, rfl, (below_next hb hba), fun h => h0 h, fun h => h1 h, fun h => h2 h, fun h => h3 h, fun h => h4 h, fun h => h5 h, fun h => (h6 h).below hba, fun h => (h7 h).below hba, fun _ => hbx, fun h h_ => h67 h h_, fun h _ => (h6 h).ne_new, fun h _ => (h7 h).ne_new, fun h => g9 h, fun h => g10 h, fun _ => rfl⟩
    | 9, ho =>
      obtain rfl := Option.some.inj ho
      have d6 := hdeps ⟨6, .data⟩ (by simp) rfl
      have e := h1 (hdeps ⟨1, .data⟩ (by simp) rfl)
      subst e
      have hx := h6 d6
      rw [hd] at hx
      obtain ⟨b, rfl⟩ := hx.ptr
      obtain ⟨x1, x2, x3⟩ := hx.cell
      have HX := Lib.hid hx
      have D6 := Lib.hid d6
      clear ho hdeps hx d6
      refine wpOp_left (by rfl) (by rfl) ?_
      have H := Lib.hid (And.intro h0 (And.intro h1 (And.intro h2 (And.intro h3 (And.intro h4 (And.intro h5 (And.intro h6 (And.intro h7 (And.intro h8 (And.intro h67 (And.intro h68 (And.intro h78 (And.intro g9 (And.intro g10 (g11)))))))))))))))
      clear h0 h1 h2 h3 h4 h5 h6 h7 h8 h67 h68 h78 g9 g10 g11
      have hst := store_ofV k0 n0 _ _ _ x1 x2
      go_simp
      obtain ⟨h0, h1, h2, h3, h4, h5, h6, h7, h8, h67, h68, h78, g9, g10, g11⟩ := H.out
      exact ⟨_, _, _, _, _, _, _, _, _, rfl, (hb.setCell x3 _), fun h => h0 h, fun h => h1 h, fun h => h2 h, fun h => h3 h, fun h => h4 h, fun h => h5 h, fun _ => HX.out.set_, fun h => (h7 h).far (h67 D6.out h).symm _, fun h => (h8 h).far (h68 D6.out h).symm _, fun h h_ => h67 h h_, fun h h_ => h68 h h_, fun h h_ => h78 h h_, fun _ => D6.out, fun h => g10 h, fun h => g11 h⟩
    | 10, ho =>
      obtain rfl := Option.some.inj ho
      have d7 := hdeps ⟨7, .data⟩ (by simp) rfl
      have e := h3 (hdeps ⟨3, .data⟩ (by simp) rfl)
      subst e
      have hx := h7 d7
      rw [hd] at hx
      obtain ⟨b, rfl⟩ := hx.ptr
      obtain ⟨x1, x2, x3⟩ := hx.cell
      have HX := Lib.hid hx
      have D7 := Lib.hid d7
      clear ho hdeps hx d7
      refine wpOp_left (by rfl) (by rfl) ?_
      have H := Lib.hid (And.intro h0 (And.intro h1 (And.intro h2 (And.intro h3 (And.intro h4 (And.intro h5 (And.intro h6 (And.intro h7 (And.intro h8 (And.intro h67 (And.intro h68 (And.intro h78 (And.intro g9 (And.intro g10 (g11)))))))))))))))
      clear h0 h1 h2 h3 h4 h5 h6 h7 h8 h67 h68 h78 g9 g10 g11
      have hst := store_ofV k1 n1 _ _ _ x1 x2
      go_simp
      obtain ⟨h0, h1, h2, h3, h4, h5, h6, h7, h8, h67, h68, h78, g9, g10, g11⟩ := H.out
      exact ⟨_, _, _, _, _, _, _, _, _, rfl, (hb.setCell x3 _), fun h => h0 h, fun h => h1 h, fun h => h2 h, fun h => h3 h, fun h => h4 h, fun h => h5 h, fun h => (h6 h).far (h67 h D7.out) _, fun _ => HX.out.set_, fun h => (h8 h).far (h78 D7.out h).symm _, fun h h_ => h67 h h_, fun h h_ => h68 h h_, fun h h_ => h78 h h_, fun h => g9 h, fun _ => D7.out, fun h => g11 h⟩
    | 11, ho =>
      obtain rfl := Option.some.inj ho
      have d8 := hdeps ⟨8, .data⟩ (by simp) rfl
      have e := h5 (hdeps ⟨5, .data⟩ (by simp) rfl)
      subst e
      have hx := h8 d8
      rw [hd] at hx
      obtain ⟨b, rfl⟩ := hx.ptr
      obtain ⟨x1, x2, x3⟩ := hx.cell
      have HX := Lib.hid hx
      have D8 := Lib.hid d8
      clear ho hdeps hx d8
      refine wpOp_left (by rfl) (by rfl) ?_
      have H := Lib.hid (And.intro h0 (And.intro h1 (And.intro h2 (And.intro h3 (And.intro h4 (And.intro h5 (And.intro h6 (And.intro h7 (And.intro h8 (And.intro h67 (And.intro h68 (And.intro h78 (And.intro g9 (And.intro g10 (g11)))))))))))))))
      clear h0 h1 h2 h3 h4 h5 h6 h7 h8 h67 h68 h78 g9 g10 g11
      have hst := store_ofV k2 n2 _ _ _ x1 x2
      go_simp
      obtain ⟨h0, h1, h2, h3, h4, h5, h6, h7, h8, h67, h68, h78, g9, g10, g11⟩ := H.out
      exact ⟨_, _, _, _, _, _, _, _, _, rfl, (hb.setCell x3 _), fun h => h0 h, fun h => h1 h, fun h => h2 h, fun h => h3 h, fun h => h4 h, fun h => h5 h, fun h => (h6 h).far (h68 h D8.out) _, fun h => (h7 h).far (h78 h D8.out) _, fun _ => HX.out.set_, fun h h_ => h67 h h_, fun h h_ => h68 h h_, fun h h_ => h78 h h_, fun h => g9 h, fun h => g10 h, fun _ => D8.out⟩
    | i + 12, ho => simp at ho
  · intro d a w' hR hd
    obtain ⟨u7, u8, u9, t14, t15, t16, t17, t18, t19, rfl, hb, h0, h1, h2, h3, h4, h5, h6, h7, h8, h67, h68, h78, -, -, -⟩ := hR
    have x6 := h6 (hd 6)
    have x7 := h7 (hd 7)
    have x8 := h8 (hd 8)
    rw [hd 9] at x6
    rw [hd 10] at x7
    rw [hd 11] at x8
    obtain ⟨b7, rfl, y7, z7, e7⟩ := x6
    obtain ⟨b8, rfl, y8, z8, e8⟩ := x7
    obtain ⟨b9, rfl, y9, z9, e9⟩ := x8
    have c7 : w'.cell? ⟨b7, 0, none⟩ = some (ofV k0 n0) := (cell_of_row w' b7 0 _ _ (0, 0) e7).trans (by simp)
    have c8 : w'.cell? ⟨b8, 0, none⟩ = some (ofV k1 n1) := (cell_of_row w' b8 0 _ _ (0, 0) e8).trans (by simp)
    have c9 : w'.cell? ⟨b9, 0, none⟩ = some (ofV k2 n2) := (cell_of_row w' b9 0 _ _ (0, 0) e9).trans (by simp)
    have hB' := below_next hB hb
    clear h0 h1 h2 h3 h4 h5 h6 h7 h8 h67 h68 h78 e7 e8 e9 hd q00 q01 q10 q11 q20 q21 hb hB hl1_0 hl1_1 hl1_2 hz1
    have hs := same_ofV k0 n0 k1 n1
    have ha := less_ofV k0 n0 k1 n1
    have hb := less_ofV k1 n1 k0 n0
    have hc := less_ofV k1 n1 k2 n2
    have hd := less_ofV k0 n0 k2 n2
    rcases (show (lessB (ofV k0 n0) (ofV k1 n1) = true ∧ lessB (ofV k1 n1) (ofV k0 n0) = false ∧ sameB (ofV k0 n0) (ofV k1 n1) = false ∧ lessB (ofV k1 n1) (ofV k2 n2) = true ∧ lessB (ofV k0 n0) (ofV k2 n2) = true) ∨
        (lessB (ofV k0 n0) (ofV k1 n1) = true ∧ lessB (ofV k1 n1) (ofV k0 n0) = false ∧ sameB (ofV k0 n0) (ofV k1 n1) = false ∧ lessB (ofV k1 n1) (ofV k2 n2) = false) ∨
        (lessB (ofV k0 n0) (ofV k1 n1) = false ∧ lessB (ofV k1 n1) (ofV k0 n0) = true ∧ sameB (ofV k0 n0) (ofV k1 n1) = false) ∨
        (lessB (ofV k0 n0) (ofV k1 n1) = false ∧ lessB (ofV k1 n1) (ofV k0 n0) = false ∧ sameB (ofV k0 n0) (ofV k1 n1) = true) by
      cases h1 : lessB (ofV k0 n0) (ofV k1 n1) <;> cases h2 : lessB (ofV k1 n1) (ofV k0 n0) <;> cases h3 : sameB (ofV k0 n0) (ofV k1 n1) <;> cases h4 : lessB (ofV k1 n1) (ofV k2 n2) <;> cases h5 : lessB (ofV k0 n0) (ofV k2 n2) <;>
        simp [h1, h2, h3, h4, h5] at hs ha hb hc hd ⊢ <;> omega) with ⟨f1, f2, f3, f4, f5⟩ | ⟨f1, f2, f3, f4⟩ | ⟨f1, f2, f3⟩ | ⟨f1, f2, f3⟩
    all_goals clear hs ha hb hc hd
    · go_wp2_with (fail)
      refine wp_region_later (by kernel_rfl) (by kernel_rfl) ?_
      repeat (quiet_step (first | (go_at_call 24; exact Later.call (same_any _ _ (ofV_fit _ _) (ofV_fit _ _) _)) | (go_at_call 23; exact Later.call (less_any _ _ (ofV_fit _ _) (ofV_fit _ _) _))))
      refine wpQuiet_nil ?_
      intro _ hw'
      obtain ⟨⟨w9, hb9⟩, hw''⟩ := hw'
      have hw3 : w9 = _ := hw''.symm
      subst hw3
      obtain ⟨hc9, hf9⟩ := bcell hb9
      have hz9 := hb9.size
      try simp at hz9
      try dsimp only at hb9 hc9 hf9 hz9
      have k7 : w9.cell? ⟨b7, 0, none⟩ = some (ofV k0 n0) := cell_later hb9 c7
      have k8 : w9.cell? ⟨b8, 0, none⟩ = some (ofV k1 n1) := cell_later hb9 c8
      have k9 : w9.cell? ⟨b9, 0, none⟩ = some (ofV k2 n2) := cell_later hb9 c9
      have hB9 := below_next hB' hb9
      clear hw'' hc9 hf9 hb9 hz9 c7 c8 c9
      go_wp2_with (fail)
      refine (same_any _ _ (ofV_fit _ _) (ofV_fit _ _) _).mono ?_
      rintro e v1 ⟨rfl, hv1⟩
      have m17 := cell_later hv1 k7
      have m18 := cell_later hv1 k8
      have m19 := cell_later hv1 k9
      have hB21 := below_next hB9 hv1
      clear hv1
      go_wp2_with (fail)
      refine (less_any _ _ (ofV_fit _ _) (ofV_fit _ _) _).mono ?_
      rintro e v2 ⟨rfl, hv2⟩
      have m27 := cell_later hv2 m17
      have m28 := cell_later hv2 m18
      have m29 := cell_later hv2 m19
      have hB22 := below_next hB21 hv2
      clear hv2
      go_wp2_with (fail)
      refine (less_any _ _ (ofV_fit _ _) (ofV_fit _ _) _).mono ?_
      rintro e v3 ⟨rfl, hv3⟩
      have m37 := cell_later hv3 m27
      have m38 := cell_later hv3 m28
      have m39 := cell_later hv3 m29
      have hB23 := below_next hB22 hv3
      clear hv3
      go_wp2_with (fail)
      go_ret
      exact ⟨rfl, by assumption⟩
    · go_wp2_with (fail)
      refine wp_region_later (by kernel_rfl) (by kernel_rfl) ?_
      repeat (quiet_step (first | (go_at_call 24; exact Later.call (same_any _ _ (ofV_fit _ _) (ofV_fit _ _) _)) | (go_at_call 23; exact Later.call (less_any _ _ (ofV_fit _ _) (ofV_fit _ _) _))))
      refine wpQuiet_nil ?_
      intro _ hw'
      obtain ⟨⟨w9, hb9⟩, hw''⟩ := hw'
      have hw3 : w9 = _ := hw''.symm
      subst hw3
      obtain ⟨hc9, hf9⟩ := bcell hb9
      have hz9 := hb9.size
      try simp at hz9
      try dsimp only at hb9 hc9 hf9 hz9
      have k7 : w9.cell? ⟨b7, 0, none⟩ = some (ofV k0 n0) := cell_later hb9 c7
      have k8 : w9.cell? ⟨b8, 0, none⟩ = some (ofV k1 n1) := cell_later hb9 c8
      have k9 : w9.cell? ⟨b9, 0, none⟩ = some (ofV k2 n2) := cell_later hb9 c9
      have hB9 := below_next hB' hb9
      clear hw'' hc9 hf9 hb9 hz9 c7 c8 c9
      go_wp2_with (fail)
      refine (same_any _ _ (ofV_fit _ _) (ofV_fit _ _) _).mono ?_
      rintro e v1 ⟨rfl, hv1⟩
      have m17 := cell_later hv1 k7
      have m18 := cell_later hv1 k8
      have m19 := cell_later hv1 k9
      have hB21 := below_next hB9 hv1
      clear hv1
      go_wp2_with (fail)
      refine (less_any _ _ (ofV_fit _ _) (ofV_fit _ _) _).mono ?_
      rintro e v2 ⟨rfl, hv2⟩
      have m27 := cell_later hv2 m17
      have m28 := cell_later hv2 m18
      have m29 := cell_later hv2 m19
      have hB22 := below_next hB21 hv2
      clear hv2
      go_wp2_with (fail)
      go_ret
      exact ⟨rfl, by assumption⟩
    · go_wp2_with (fail)
      refine wp_region_later (by kernel_rfl) (by kernel_rfl) ?_
      repeat (quiet_step (first | (go_at_call 24; exact Later.call (same_any _ _ (ofV_fit _ _) (ofV_fit _ _) _)) | (go_at_call 23; exact Later.call (less_any _ _ (ofV_fit _ _) (ofV_fit _ _) _))))
      refine wpQuiet_nil ?_
      intro _ hw'
      obtain ⟨⟨w9, hb9⟩, hw''⟩ := hw'
      have hw3 : w9 = _ := hw''.symm
      subst hw3
      obtain ⟨hc9, hf9⟩ := bcell hb9
      have hz9 := hb9.size
      try simp at hz9
      try dsimp only at hb9 hc9 hf9 hz9
      have k7 : w9.cell? ⟨b7, 0, none⟩ = some (ofV k0 n0) := cell_later hb9 c7
      have k8 : w9.cell? ⟨b8, 0, none⟩ = some (ofV k1 n1) := cell_later hb9 c8
      have k9 : w9.cell? ⟨b9, 0, none⟩ = some (ofV k2 n2) := cell_later hb9 c9
      have hB9 := below_next hB' hb9
      clear hw'' hc9 hf9 hb9 hz9 c7 c8 c9
      go_wp2_with (fail)
      refine (same_any _ _ (ofV_fit _ _) (ofV_fit _ _) _).mono ?_
      rintro e v1 ⟨rfl, hv1⟩
      have m17 := cell_later hv1 k7
      have m18 := cell_later hv1 k8
      have m19 := cell_later hv1 k9
      have hB21 := below_next hB9 hv1
      clear hv1
      go_wp2_with (fail)
      go_ret
      exact ⟨rfl, by assumption⟩
    · go_wp2_with (fail)
      refine wp_region_later (by kernel_rfl) (by kernel_rfl) ?_
      repeat (quiet_step (first | (go_at_call 24; exact Later.call (same_any _ _ (ofV_fit _ _) (ofV_fit _ _) _)) | (go_at_call 23; exact Later.call (less_any _ _ (ofV_fit _ _) (ofV_fit _ _) _))))
      refine wpQuiet_nil ?_
      intro _ hw'
      obtain ⟨⟨w9, hb9⟩, hw''⟩ := hw'
      have hw3 : w9 = _ := hw''.symm
      subst hw3
      obtain ⟨hc9, hf9⟩ := bcell hb9
      have hz9 := hb9.size
      try simp at hz9
      try dsimp only at hb9 hc9 hf9 hz9
      have k7 : w9.cell? ⟨b7, 0, none⟩ = some (ofV k0 n0) := cell_later hb9 c7
      have k8 : w9.cell? ⟨b8, 0, none⟩ = some (ofV k1 n1) := cell_later hb9 c8
      have k9 : w9.cell? ⟨b9, 0, none⟩ = some (ofV k2 n2) := cell_later hb9 c9
      have hB9 := below_next hB' hb9
      clear hw'' hc9 hf9 hb9 hz9 c7 c8 c9
      go_wp2_with (fail)
      refine (same_any _ _ (ofV_fit _ _) (ofV_fit _ _) _).mono ?_
      rintro e v1 ⟨rfl, hv1⟩
      have m17 := cell_later hv1 k7
      have m18 := cell_later hv1 k8
      have m19 := cell_later hv1 k9
      have hB21 := below_next hB9 hv1
      clear hv1
      go_wp2_with (fail)
      go_ret
      exact ⟨rfl, by assumption⟩
end Go.Proofs.Ytbeblcmlljnmiaa
