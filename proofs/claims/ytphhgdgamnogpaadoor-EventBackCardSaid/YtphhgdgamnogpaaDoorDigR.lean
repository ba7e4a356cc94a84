/-
  The walks of Print, of package digit and of its reference: any number's text. No conditions but that the number is an int64.
-/
import Derived.Test.YtphhgdgamnogpaaDoorDigV
namespace Go.Proofs.YtphhgdgamnogpaaDoor
open Go.RowKit

theorem decL_len (k m : Nat) (hk : 0 < k) (h : m < 10 ^ k) : (decL m).length ≤ k := by
  induction k generalizing m with
  | zero => omega
  | succ k ih =>
    rw [decL]
    split
    · simp
    · rename_i h10
      rw [Nat.pow_succ] at h
      rcases Nat.eq_zero_or_pos k with h0 | h0
      · subst h0; simp at h; omega
      · have := ih (m / 10) h0 (by omega)
        simp; omega
/-- What is still to be written, y, and what has been, suf. -/
def Left (m y : Nat) (suf : List UInt8) : Prop := decL m = if suf = [] ∨ 0 < y then decL y ++ suf else suf
theorem left_step (m y : Nat) (suf : List UInt8) (h : Left m y suf) (hc : suf = [] ∨ 0 < y) : Left m (y / 10) (UInt8.ofNat (48 + y % 10) :: suf) := by
  unfold Left at *
  rw [if_pos hc] at h
  rw [h]
  by_cases h1 : 0 < y / 10
  · rw [if_pos (.inr h1), decL, if_neg (by omega)]; simp
  · rw [if_neg (by simpa using h1), decL, if_pos (by omega)]
    have : y % 10 = y := by omega
    rw [this]; rfl
theorem left_len (m y : Nat) (suf : List UInt8) (hm : m ≤ 9223372036854775808) (h : Left m y suf) (hc : suf = [] ∨ 0 < y) : suf.length ≤ 18 ∧ y ≤ m := by
  unfold Left at h
  rw [if_pos hc] at h
  have h1 := decL_len 19 m (by omega) (by omega)
  rw [h] at h1
  have h2 := List.length_pos_iff.2 (decL_ne y)
  rw [List.length_append] at h1
  have h3 := congrArg valL h
  rw [decL_val] at h3
  refine ⟨by omega, ?_⟩
  rw [h3]
  have : ∀ s : List UInt8, y ≤ valL (decL y ++ s) := by
    intro s
    induction s using snoc_ind with
    | h0 => simp [decL_val]
    | h1 s c ih => rw [← List.append_assoc, valL_snoc]; omega
  exact this suf
theorem left_end (m : Nat) (suf : List UInt8) (h : Left m 0 suf) (hs : suf ≠ []) : decL m = suf := by
  unfold Left at h
  rwa [if_neg (by simp [hs])] at h

/-- The array as it stands: j places free, the digits behind. -/
def rowOf (j : Nat) (suf : List UInt8) : Array Value := (List.replicate j (Value.int .u8 0) ++ suf.map fun b => Value.int .u8 (b.toNat : Int)).toArray
theorem row_free (j : Nat) (suf : List UInt8) (h : 1 ≤ j) : (rowOf j suf)[j - 1]? = some (.int .u8 0) := by
  unfold rowOf
  rw [List.getElem?_toArray, List.getElem?_append_left (by simp; omega)]
  rw [List.getElem?_replicate, if_pos (by omega)]
theorem row_at (j : Nat) (suf : List UInt8) (q : Nat) (h : q < suf.length) : (rowOf j suf)[j + q]? = some (.int .u8 (suf[q].toNat : Int)) := by
  unfold rowOf
  rw [List.getElem?_toArray, List.getElem?_append_right (by simp)]
  simp [h]
theorem row_set (j : Nat) (suf : List UInt8) (b : UInt8) (h : 1 ≤ j) : (rowOf j suf).setIfInBounds (j - 1) (.int .u8 (b.toNat : Int)) = rowOf (j - 1) (b :: suf) := by
  obtain ⟨i, rfl⟩ : ∃ i, j = i + 1 := ⟨j - 1, by omega⟩
  unfold rowOf
  rw [List.setIfInBounds_toArray, List.replicate_succ', List.append_assoc, List.set_append_right _ _ (by simp)]
  simp

theorem cell_row {w : World} {g : Nat} {t : TypeId} {C : Array Value} (h : w.heap[g]? = some (.cells C t (0, 0))) (i : Nat) : w.cell? ⟨g, i, none⟩ = C[i]? := cell_of_row w g i C t (0, 0) h
theorem free_row {w : World} {g : Nat} {t : TypeId} {C : Array Value} (h : w.heap[g]? = some (.cells C t (0, 0))) (i : Nat) : w.frozen? ⟨g, i, none⟩ = false := by simp [World.frozen?, h]
theorem set_row {w : World} {g : Nat} {t : TypeId} {C : Array Value} (h : w.heap[g]? = some (.cells C t (0, 0))) (i : Nat) (v : Value) : (w.setCell ⟨g, i, none⟩ v).heap[g]? = some (.cells (C.setIfInBounds i v) t (0, 0)) := by
  simp [World.setCell, Array.getElem?_modify, h]

set_option maxRecDepth 100000 in
/-- b[i:] of the array. -/
theorem slice_arr (w : World) (g : Nat) (l : Int) (j : Nat) (h0 : 0 ≤ l) (h1 : l < 20) (hl : l.toNat = j) :
    (Instr.sliceAt 181 (.pointer (some ⟨g, 0, none⟩)) (some (.int .i64 l)) none none).run Tryd.prog w = .ok (.slice (some ⟨g, j, none⟩) (20 - j) (20 - j)) w := by
  have e20 : Tryd.prog.arrayLen 181 = 20 := by kernel_rfl
  have es : (sizeOf (Tryd.prog.elem 181)).run Tryd.prog w = .ok 1 w := by kernel_rfl
  rw [run_sliceAt_array_l (P := Tryd.prog) w 181 ⟨g, 0, none⟩ (by kernel_rfl) .i64 l h0 (by rw [e20]; omega), es, e20, hl]
  simp only [Result.andThen_ok, slicedAt]
  rw [if_neg (by omega)]
  congr 3
  unfold Addr.add
  split <;> simp_all

/-- The text out of the array. -/
theorem text_of_row {w : World} {g j : Nat} {t : TypeId} {suf : List UInt8} (h : w.heap[g]? = some (.cells (rowOf j suf) t (0, 0))) (n cap : Nat) (hn : suf.length = n) :
    (convert 104 9 (.slice (some ⟨g, j, none⟩) n cap)).run Tryd.prog w = .ok (.string (bs suf)) w := by
  rw [← hn]
  refine run_convert_bytes_back w _ _ 5 _ cap suf Tryd.underlying104 Tryd.underlying5 Tryd.underlying9 (fun q hq => ?_)
  have := row_at j suf q hq
  rw [← cell_row h] at this
  have e : (⟨g, j, none⟩ : Addr).add q = ⟨g, j + q, none⟩ := by unfold Addr.add; split <;> simp_all
  rw [e]; exact this

/-- The relation of Print's loop. -/
def PrintRel (m : Nat) (w : World) (X : Nat → Int) (i x : Value) (wr : World) : Prop :=
  ∃ (j y : Nat) (suf : List UInt8), j + suf.length = 20 ∧ i = .int .i64 (j : Int) ∧ x = .int .i64 (X y) ∧ Left m y suf ∧
    wr.heap[w.heap.size]? = some (.cells (rowOf j suf) 181 (0, 0)) ∧ Below w.heap.size w wr ∧ suf.length ≤ 19

set_option maxRecDepth 20000 in
set_option maxHeartbeats 2000000 in
theorem print_pos (m : Nat) (hm : m ≤ 9223372036854775807) (w : World) :
    Calls Tryd.prog 107 #[.int .i64 (m : Int)] w fun e w' => e = .returned (.string (bs (decL m))) ∧ Below w.heap.size w w' := by
  obtain ⟨out, hout⟩ : ∃ out, out = decL m := ⟨_, rfl⟩
  rw [← hout]
  have HO := Lib.hid hout
  clear hout
  go_enter Tryd.func107, Tryd.ntmps107
  go_wp2_with fail
  go_loopw [4, 5, 6] (fun i x _ wr => PrintRel m w (fun y => (y : Int)) i x wr) (fun i _ _ _ => (intOf i).toNat)
  case atStart => exact ⟨20, m, [], rfl, rfl, rfl, by simp [Left], heap_alloc_new w _, by go_grown, by simp⟩
  case round =>
    obtain ⟨j, y, suf, hj, rfl, rfl, hL, hC, hb, hs⟩ := hrel
    have HL := Lib.hid hL
    have HJ := Lib.hid hj
    have HC := Lib.hid hC
    clear hL hC
    by_cases hc : suf = [] ∨ 0 < y
    · have hlen := left_len m y suf (by omega) HL.out hc
      have HS := Lib.hid (left_step m y suf HL.out hc)
      have h1 : wr.cell? ⟨w.heap.size, j - 1, none⟩ = some (.int .u8 0) := by rw [cell_row HC.out]; exact row_free j suf (by omega)
      have h2 : wr.frozen? ⟨w.heap.size, j - 1, none⟩ = false := free_row HC.out _
      have hj1 : (2 : Int) ≤ (j : Int) := by omega
      have hj2 : (j : Int) ≤ 20 := by omega
      have hy0 : y ≤ 9223372036854775808 := by omega
      have hy1 : y ≤ 9223372036854775807 := by omega
      have HR := Lib.hid (set_row HC.out (j - 1) (.int .u8 (48 + (y : Int) % 10)))
      have HR2 : Hid ((rowOf j suf).setIfInBounds (j - 1) (.int .u8 (48 + (y : Int) % 10)) = rowOf (j - 1) (UInt8.ofNat (48 + y % 10) :: suf)) := by
        have := row_set j suf (UInt8.ofNat (48 + y % 10)) (by omega)
        rw [toNat_dig _ (by omega)] at this
        rw [Hid, ← this]; congr 2
      have hl2 := hlen.1
      clear hlen hj
      have hor : (j : Int) = 20 ∨ ((j : Int) < 20 ∧ 0 < y) := by
        rcases hc with rfl | hc
        · left; have := HJ.out; simp at this; omega
        · by_cases hj3 : (j : Int) = 20
          · exact .inl hj3
          · exact .inr ⟨by omega, hc⟩
      clear hc
      rcases hor with h20 | ⟨h20, hy⟩
      · have h20' : ((j : Int) == 20) = true := by simpa using h20
        clear h20
        go_wp2
        go_roundw
        case rel => exact ⟨j - 1, y / 10, _, by have := HJ.out; simp; omega, by go_num, by go_num, HS.out, by rw [HR.out, HR2.out], hb.setCell (by simp) _, by simp; omega⟩
        case measure => simp [intOf]; omega
      · have h20' : ((j : Int) == 20) = false := by rw [beq_eq_false_iff_ne]; omega
        have hy' : (((y : Int)) != 0) = true := by rw [bne_iff_ne]; omega
        go_wp2
        go_roundw
        case rel => exact ⟨j - 1, y / 10, _, by have := HJ.out; simp; omega, by go_num, by go_num, HS.out, by rw [HR.out, HR2.out], hb.setCell (by simp) _, by simp; omega⟩
        case measure => simp [intOf]; omega
    · have hsuf : suf ≠ [] := fun h => hc (.inl h)
      have hy : y = 0 := by have : ¬ 0 < y := fun h => hc (.inr h)
                            omega
      subst hy
      have hj2 : 0 < suf.length := List.length_pos_iff.2 hsuf
      have HE := Lib.hid (left_end m suf HL.out hsuf)
      clear hc hsuf
      have h20 : ((j : Int) == 20) = false := by rw [beq_eq_false_iff_ne]; omega
      have hj3 : (1 : Int) ≤ (j : Int) := by omega
      have hj4 : (j : Int) ≤ 19 := by omega
      have hcv := text_of_row HC.out (20 - j) (20 - j) (by omega)
      have hsl := slice_arr wr w.heap.size (j : Int) j (by omega) (by omega) (by omega)
      clear hj hs hj2
      go_wp2
      go_ret
      exact ⟨by rw [HO.out, HE.out]; rfl, hb⟩

set_option maxRecDepth 20000 in
set_option maxHeartbeats 2000000 in
theorem print_neg (m : Nat) (hm : m ≤ 9223372036854775808) (hm0 : 0 < m) (w : World) :
    Calls Tryd.prog 107 #[.int .i64 (-(m : Int))] w fun e w' => e = .returned (.string (bs (45 :: decL m))) ∧ Below w.heap.size w w' := by
  obtain ⟨out, hout⟩ : ∃ out, out = decL m := ⟨_, rfl⟩
  rw [← hout]
  have HO := Lib.hid hout
  clear hout
  have hmz : (-(m : Int)) < 0 := by omega
  clear hm0
  go_enter Tryd.func107, Tryd.ntmps107
  go_wp2_with fail
  go_loopw [4, 5, 6] (fun i x _ wr => PrintRel m w (fun y => -(y : Int)) i x wr) (fun i _ _ _ => (intOf i).toNat)
  case atStart => exact ⟨20, m, [], rfl, rfl, rfl, by simp [Left], heap_alloc_new w _, by go_grown, by simp⟩
  case round =>
    obtain ⟨j, y, suf, hj, rfl, rfl, hL, hC, hb, hs⟩ := hrel
    have HL := Lib.hid hL
    have HJ := Lib.hid hj
    have HC := Lib.hid hC
    clear hL hC
    by_cases hc : suf = [] ∨ 0 < y
    · have hlen := left_len m y suf (by omega) HL.out hc
      have HS := Lib.hid (left_step m y suf HL.out hc)
      have h1 : wr.cell? ⟨w.heap.size, j - 1, none⟩ = some (.int .u8 0) := by rw [cell_row HC.out]; exact row_free j suf (by omega)
      have h2 : wr.frozen? ⟨w.heap.size, j - 1, none⟩ = false := free_row HC.out _
      have hj1 : (2 : Int) ≤ (j : Int) := by omega
      have hj2 : (j : Int) ≤ 20 := by omega
      have hy0 : y ≤ 9223372036854775808 := by omega
      have hrem : (-(y : Int)).tmod 10 = -((y : Int) % 10) := by rw [Int.neg_tmod, Int.tmod_eq_emod_of_nonneg (by omega)]
      have hmax : (if -((y : Int) % 10) < (y : Int) % 10 then (y : Int) % 10 else -((y : Int) % 10)) = (y : Int) % 10 := by split <;> omega
      have hquo : (-(y : Int)).tdiv 10 = -((y : Int) / 10) := by rw [Int.neg_tdiv, Int.tdiv_eq_ediv_of_nonneg (by omega)]
      have HR := Lib.hid (set_row HC.out (j - 1) (.int .u8 (48 + (y : Int) % 10)))
      have HR2 : Hid ((rowOf j suf).setIfInBounds (j - 1) (.int .u8 (48 + (y : Int) % 10)) = rowOf (j - 1) (UInt8.ofNat (48 + y % 10) :: suf)) := by
        have := row_set j suf (UInt8.ofNat (48 + y % 10)) (by omega)
        rw [toNat_dig _ (by omega)] at this
        rw [Hid, ← this]; congr 2
      have hl2 := hlen.1
      clear hlen hj
      have hor : (j : Int) = 20 ∨ ((j : Int) < 20 ∧ 0 < y) := by
        rcases hc with rfl | hc
        · left; have := HJ.out; simp at this; omega
        · by_cases hj3 : (j : Int) = 20
          · exact .inl hj3
          · exact .inr ⟨by omega, hc⟩
      clear hc
      rcases hor with h20 | ⟨h20, hy⟩
      · have h20' : ((j : Int) == 20) = true := by simpa using h20
        clear h20
        go_wp2
        go_roundw
        case rel => exact ⟨j - 1, y / 10, _, by have := HJ.out; simp; omega, by go_num, by go_num, HS.out, by rw [HR.out, HR2.out], hb.setCell (by simp) _, by simp; omega⟩
        case measure => simp [intOf]; omega
      · have h20' : ((j : Int) == 20) = false := by rw [beq_eq_false_iff_ne]; omega
        have hy' : ((-(y : Int)) != 0) = true := by rw [bne_iff_ne]; omega
        go_wp2
        go_roundw
        case rel => exact ⟨j - 1, y / 10, _, by have := HJ.out; simp; omega, by go_num, by go_num, HS.out, by rw [HR.out, HR2.out], hb.setCell (by simp) _, by simp; omega⟩
        case measure => simp [intOf]; omega
    · have hsuf : suf ≠ [] := fun h => hc (.inl h)
      have hy : y = 0 := by have : ¬ 0 < y := fun h => hc (.inr h)
                            omega
      subst hy
      have hj2 : 0 < suf.length := List.length_pos_iff.2 hsuf
      have HE := Lib.hid (left_end m suf HL.out hsuf)
      clear hc hsuf
      have h20 : ((j : Int) == 20) = false := by rw [beq_eq_false_iff_ne]; omega
      have hj3 : (1 : Int) ≤ (j : Int) := by omega
      have hj4 : (j : Int) ≤ 19 := by omega
      have h1 : wr.cell? ⟨w.heap.size, j - 1, none⟩ = some (.int .u8 0) := by rw [cell_row HC.out]; exact row_free j suf (by omega)
      have h2 : wr.frozen? ⟨w.heap.size, j - 1, none⟩ = false := free_row HC.out _
      have HR : (wr.setCell ⟨w.heap.size, j - 1, none⟩ (.int .u8 45)).heap[w.heap.size]? = some (.cells (rowOf (j - 1) (45 :: suf)) 181 (0, 0)) := by
        rw [set_row HC.out (j - 1) (.int .u8 45)]
        have := row_set j suf 45 (by omega)
        rw [← this]; rfl
      have hcv := text_of_row HR (20 - (j - 1)) (20 - (j - 1)) (by simp; omega)
      have hsl := slice_arr (wr.setCell ⟨w.heap.size, j - 1, none⟩ (.int .u8 45)) w.heap.size ((j : Int) - 1) (j - 1) (by omega) (by omega) (by omega)
      clear hj hs hj2 HR
      go_wp2
      go_ret
      exact ⟨by rw [HO.out, HE.out]; rfl, hb.setCell (by simp) _⟩

theorem print_any (n : Int) (h0 : -9223372036854775808 ≤ n) (h1 : n ≤ 9223372036854775807) (w : World) :
    Calls Tryd.prog 107 #[.int .i64 n] w fun e w' => e = .returned (.string (bs (printL n))) ∧ Below w.heap.size w w' := by
  by_cases h : n < 0
  · obtain ⟨m, rfl⟩ : ∃ m : Nat, n = -(m : Int) := ⟨n.natAbs, by omega⟩
    have e : printL (-(m : Int)) = 45 :: decL m := by unfold printL; rw [if_pos h]; congr 2; omega
    rw [e]
    exact print_neg m (by omega) (by omega) w
  · obtain ⟨m, rfl⟩ : ∃ m : Nat, n = (m : Int) := ⟨n.toNat, by omega⟩
    have e : printL (m : Int) = decL m := by unfold printL; rw [if_neg h]; congr 1
    rw [e]
    exact print_pos m (by omega) w

/-! ### The reference's Print. -/
/-- A text of one byte, made of a slice. -/
theorem one_byte (b : UInt8) (v : Int) (hv : v = (b.toNat : Int)) (W : World) :
    (convert 104 9 (.slice (some ⟨W.heap.size, 0, none⟩) 1 1)).run Tryd.prog (W.alloc (.cells #[.int .u8 v] 5)) = .ok (.string (bs [b])) (W.alloc (.cells #[.int .u8 v] 5)) := by
  subst hv
  refine run_convert_bytes_back (P := Tryd.prog) _ _ _ 5 _ 1 [b] Tryd.underlying104 Tryd.underlying5 Tryd.underlying9 (fun q hq => ?_)
  have : q = 0 := by simp at hq; omega
  subst this
  simp [Addr.add]
/-- The relation of its loop. -/
def RefRel (m : Nat) (w : World) (X : Nat → Int) (s x : Value) (wr : World) : Prop :=
  ∃ (y : Nat) (suf : List UInt8), s = .string (bs suf) ∧ x = .int .i64 (X y) ∧ Left m y suf ∧ Below w.heap.size w wr ∧ suf.length ≤ 19

set_option maxRecDepth 20000 in
set_option maxHeartbeats 2000000 in
theorem refprint_pos (m : Nat) (hm : m ≤ 9223372036854775807) (hm0 : 0 < m) (w : World) :
    Calls Tryd.prog 108 #[.int .i64 (m : Int)] w fun e w' => e = .returned (.string (bs (decL m))) ∧ Below w.heap.size w w' := by
  obtain ⟨out, hout⟩ : ∃ out, out = decL m := ⟨_, rfl⟩
  rw [← hout]
  have HO := Lib.hid hout
  have HM := Lib.hid hm0
  clear hout
  have hmz : ((m : Int) == 0) = false := by rw [beq_eq_false_iff_ne]; omega
  have hlt : 0 < (m : Int) := by omega
  clear hm0
  go_enter Tryd.func108, Tryd.ntmps108
  go_wp2_with fail
  clear hmz
  go_loopw [3, 4, 5] (fun s x _ wr => RefRel m w (fun y => (y : Int)) s x wr) (fun _ x _ _ => (intOf x).natAbs)
  case atStart => exact ⟨m, [], rfl, rfl, by simp [Left], by go_grown, by simp⟩
  case round =>
    obtain ⟨y, suf, rfl, rfl, hL, hb, hs⟩ := hrel
    have HL := Lib.hid hL
    clear hL
    by_cases hy : 0 < y
    · have hlen := left_len m y suf (by omega) HL.out (.inr hy)
      have HS := Lib.hid (left_step m y suf HL.out (.inr hy))
      have hy0 : (((y : Int)) != 0) = true := by rw [bne_iff_ne]; omega
      have hy1 : y ≤ 9223372036854775808 := by omega
      have hy2 : y ≤ 9223372036854775807 := by omega
      have hl2 := hlen.1
      clear hlen
      obtain ⟨b, hbe⟩ : ∃ b, b = UInt8.ofNat (48 + y % 10) := ⟨_, rfl⟩
      have HBV : Hid (48 + (y : Int) % 10 = (b.toNat : Int)) := by rw [Hid, hbe, toNat_dig _ (by omega)]; omega
      have hcv := one_byte b (48 + (y : Int) % 10) HBV.out
      rw [← hbe] at HS
      clear hbe
      all_goals
        go_wp2
        go_roundw
        case rel => exact ⟨y / 10, b :: suf, rfl, by go_num, HS.out, hb.alloc hb.size _, by simp; omega⟩
        case measure => simp [intOf]; omega
    · have hy0 : y = 0 := by omega
      subst hy0
      clear hy
      have hsuf : suf ≠ [] := fun h => by
        subst h
        have := HL.out
        unfold Left at this
        rw [if_pos (.inl rfl)] at this
        have := congrArg valL this
        rw [decL_val, List.append_nil, decL_val] at this
        have := HM.out
        omega
      have HE := Lib.hid (left_end m suf HL.out hsuf)
      clear hsuf
      go_wp2
      go_ret
      exact ⟨by rw [HO.out, HE.out]; rfl, hb⟩

set_option maxRecDepth 20000 in
set_option maxHeartbeats 2000000 in
theorem refprint_neg (m : Nat) (hm : m ≤ 9223372036854775808) (hm0 : 0 < m) (w : World) :
    Calls Tryd.prog 108 #[.int .i64 (-(m : Int))] w fun e w' => e = .returned (.string (bs (45 :: decL m))) ∧ Below w.heap.size w w' := by
  obtain ⟨out, hout⟩ : ∃ out, out = decL m := ⟨_, rfl⟩
  rw [← hout]
  have HO := Lib.hid hout
  have HM := Lib.hid hm0
  clear hout
  have hmz : ((-(m : Int)) == 0) = false := by rw [beq_eq_false_iff_ne]; omega
  have hlt : (-(m : Int)) < 0 := by omega
  clear hm0
  go_enter Tryd.func108, Tryd.ntmps108
  go_wp2_with fail
  clear hmz
  go_loopw [3, 4, 5] (fun s x _ wr => RefRel m w (fun y => -(y : Int)) s x wr) (fun _ x _ _ => (intOf x).natAbs)
  case atStart => exact ⟨m, [], rfl, rfl, by simp [Left], by go_grown, by simp⟩
  case round =>
    obtain ⟨y, suf, rfl, rfl, hL, hb, hs⟩ := hrel
    have HL := Lib.hid hL
    clear hL
    by_cases hy : 0 < y
    · have hlen := left_len m y suf (by omega) HL.out (.inr hy)
      have HS := Lib.hid (left_step m y suf HL.out (.inr hy))
      have hy0 : ((-(y : Int)) != 0) = true := by rw [bne_iff_ne]; omega
      have hy1 : y ≤ 9223372036854775808 := by omega
      have hrem : (-(y : Int)).tmod 10 = -((y : Int) % 10) := by rw [Int.neg_tmod, Int.tmod_eq_emod_of_nonneg (by omega)]
      have hquo : (-(y : Int)).tdiv 10 = -((y : Int) / 10) := by rw [Int.neg_tdiv, Int.tdiv_eq_ediv_of_nonneg (by omega)]
      have hd0 : 0 ≤ (y : Int) % 10 := by omega
      have hd1 : (y : Int) % 10 ≤ 9 := by omega
      have hl2 := hlen.1
      clear hlen
      obtain ⟨b, hbe⟩ : ∃ b, b = UInt8.ofNat (48 + y % 10) := ⟨_, rfl⟩
      have HBV : Hid (48 + (y : Int) % 10 = (b.toNat : Int)) := by rw [Hid, hbe, toNat_dig _ (by omega)]; omega
      have hcv := one_byte b (48 + (y : Int) % 10) HBV.out
      rw [← hbe] at HS
      clear hbe
      rcases (show ((y : Int) % 10 = 0) ∨ 0 < (y : Int) % 10 by omega) with hz | hz
      · have hcv2 := one_byte b 48 (by have := HBV.out; omega)
        clear hcv
        go_wp2
        go_roundw
        case rel => exact ⟨y / 10, b :: suf, rfl, by go_num, HS.out, hb.alloc hb.size _, by simp; omega⟩
        case measure => simp [intOf]; omega
      · go_wp2
        go_roundw
        case rel => exact ⟨y / 10, b :: suf, rfl, by go_num, HS.out, hb.alloc hb.size _, by simp; omega⟩
        case measure => simp [intOf]; omega
    · have hy0 : y = 0 := by omega
      subst hy0
      clear hy
      have hsuf : suf ≠ [] := fun h => by
        subst h
        have := HL.out
        unfold Left at this
        rw [if_pos (.inl rfl)] at this
        have := congrArg valL this
        rw [decL_val, List.append_nil, decL_val] at this
        have := HM.out
        omega
      have HE := Lib.hid (left_end m suf HL.out hsuf)
      clear hsuf
      go_wp2
      go_ret
      exact ⟨by rw [HO.out, HE.out]; rfl, hb⟩

set_option maxHeartbeats 400000 in
theorem refprint_zero (w : World) :
    Calls Tryd.prog 108 #[.int .i64 0] w fun e w' => e = .returned (.string (bs [48])) ∧ Below w.heap.size w w' := by
  go_enter Tryd.func108, Tryd.ntmps108
  go_wp2
  go_ret
  exact ⟨rfl, Below.refl _ _⟩
theorem refprint_any (n : Int) (h0 : -9223372036854775808 ≤ n) (h1 : n ≤ 9223372036854775807) (w : World) :
    Calls Tryd.prog 108 #[.int .i64 n] w fun e w' => e = .returned (.string (bs (printL n))) ∧ Below w.heap.size w w' := by
  by_cases h : n < 0
  · obtain ⟨m, rfl⟩ : ∃ m : Nat, n = -(m : Int) := ⟨n.natAbs, by omega⟩
    have e : printL (-(m : Int)) = 45 :: decL m := by unfold printL; rw [if_pos h]; congr 2; omega
    rw [e]
    exact refprint_neg m (by omega) (by omega) w
  · by_cases hz : n = 0
    · subst hz
      have e : printL 0 = [48] := by unfold printL; rw [if_neg (by omega)]; exact decL_zero
      rw [e]
      exact refprint_zero w
    · obtain ⟨m, rfl⟩ : ∃ m : Nat, n = (m : Int) := ⟨n.toNat, by omega⟩
      have e : printL (m : Int) = decL m := by unfold printL; rw [if_neg h]; congr 1
      rw [e]
      exact refprint_pos m (by omega) (by omega) w

theorem print_len (n : Int) (h0 : -9223372036854775808 ≤ n) (h1 : n ≤ 9223372036854775807) : (printL n).length ≤ 20 := by
  have := decL_len 19 n.natAbs (by omega) (by omega)
  unfold printL
  split <;> simp <;> omega
end Go.Proofs.YtphhgdgamnogpaaDoor
