/-
  Layer 1 (line) in plain words: a text without blanks at its ends, as strings.TrimFunc goes and byte by byte; no program in sight. No conditions.
-/
import Derived.Test.YtphhgdgamnogpaaDoorNameP
import Derived.Test.YtphhgdgamnogpaaDoorNameD
import Derived.Shelf.GgClosure.StringsTrimFunc
namespace Go.Proofs.YtphhgdgamnogpaaDoor
open Go.Lib

/-- Is a rune a blank? -/
def blankR (c : Nat) : Bool := decide (c = 9) || decide (c = 13) || decide (c = 32)
def blankB (b : UInt8) : Bool := blankR b.toNat
theorem blankB_low (b : UInt8) (h : blankB b = true) : b.toNat < 128 := by
  unfold blankB blankR at h
  simp only [Bool.or_eq_true, decide_eq_true_eq] at h
  omega
theorem blankR_high (c : Nat) (h : 128 ≤ c) : blankR c = false := by
  unfold blankR
  simp only [Bool.or_eq_false_iff, decide_eq_false_iff_not]
  omega
theorem decN_high (n b0 b1 b2 b3 : Nat) (h : 128 ≤ b0) : 128 ≤ (decodeN n b0 b1 b2 b3).1 := by
  unfold decodeN
  repeat' split
  all_goals (simp only; omega)
theorem dec_blank (b : UInt8) (t : List UInt8) : blankR (decodeL (b :: t)).1 = blankB b ∧ (blankB b = true → (decodeL (b :: t)).2 = 1) := by
  by_cases h : b.toNat < 128
  · rw [decodeL_ascii b t h]
    exact ⟨rfl, fun _ => rfl⟩
  · have h2 := decN_high (b :: t).length ((b :: t).getD 0 0).toNat ((b :: t).getD 1 0).toNat ((b :: t).getD 2 0).toNat ((b :: t).getD 3 0).toNat (by simp only [List.getD_cons_zero]; omega)
    rw [← decodeL_N] at h2
    rw [blankR_high _ h2]
    refine ⟨(blankR_high _ (by omega)).symm, fun hb => absurd (blankB_low b hb) h⟩

/-! ### from the left -/
def strL (l : List UInt8) : List UInt8 := l.dropWhile blankB
theorem strL_cons (b : UInt8) (t : List UInt8) : strL (b :: t) = if blankB b then strL t else b :: t := by
  unfold strL
  rw [List.dropWhile_cons]
theorem bs_list (l : List UInt8) : (bs l).data.toList = l := by simp [bs]
theorem idx_left (l : List UInt8) : ∀ (f p : Nat), p ≤ l.length → l.length - p ≤ f →
    (strL (l.drop p) = [] ∧ idxFuncFrom blankR false (bs l) f p = -1) ∨ (∃ q : Nat, p ≤ q ∧ q < l.length ∧ idxFuncFrom blankR false (bs l) f p = q ∧ strL (l.drop p) = l.drop q)
  | 0, p, hp, hf => by
    have e : l.drop p = [] := List.drop_eq_nil_of_le (by omega)
    rw [e]
    exact .inl ⟨rfl, rfl⟩
  | f + 1, p, hp, hf => by
    unfold idxFuncFrom
    rw [bs_size]
    by_cases h : p < l.length
    · rw [if_pos h, ← decodeL_drop, bs_list]
      have e : l.drop p = l[p] :: l.drop (p + 1) := List.drop_eq_getElem_cons h
      rw [e]
      obtain ⟨h1, h2⟩ := dec_blank l[p] (l.drop (p + 1))
      rw [h1, strL_cons]
      by_cases hb : blankB l[p] = true
      · rw [h2 hb, hb]
        simp only [if_true, Bool.true_eq_false, if_false]
        rcases idx_left l f (p + 1) (by omega) (by omega) with ⟨h3, h4⟩ | ⟨q, h3, h4, h5, h6⟩
        · exact .inl ⟨h3, h4⟩
        · exact .inr ⟨q, by omega, h4, h5, h6⟩
      · rw [if_neg hb]
        have hb' : blankB l[p] = false := by simpa using hb
        rw [hb']
        simp only [if_true]
        exact .inr ⟨p, Nat.le_refl _, h, rfl, e.symm⟩
    · rw [if_neg h]
      have e : l.drop p = [] := List.drop_eq_nil_of_le (by omega)
      rw [e]
      exact .inl ⟨rfl, rfl⟩
theorem left_eq (l : List UInt8) : trimLeftF blankR (bs l) = bs (strL l) := by
  unfold trimLeftF idxFunc
  rcases idx_left l (bs l).size 0 (Nat.zero_le _) (by rw [bs_size]; omega) with ⟨h1, h2⟩ | ⟨q, -, h2, h3, h4⟩
  · rw [h2, if_pos rfl]
    rw [List.drop_zero] at h1
    rw [h1]
    rfl
  · rw [h3, if_neg (by omega)]
    rw [List.drop_zero] at h4
    rw [h4, bs_extract, bs_size, show ((q : Int)).toNat = q by omega, List.take_of_length_le (by rw [List.length_drop]; omega)]

/-! ### from the right -/
def strR (l : List UInt8) : List UInt8 := (l.reverse.dropWhile blankB).reverse
theorem strR_snoc (t : List UInt8) (b : UInt8) : strR (t ++ [b]) = if blankB b then strR t else t ++ [b] := by
  unfold strR
  rw [List.reverse_append]
  simp only [List.reverse_cons, List.reverse_nil, List.nil_append, List.singleton_append, List.dropWhile_cons]
  split
  · rfl
  · simp
theorem decN_app (n m b0 b1 b2 b3 c1 c2 c3 : Nat) (hn : 1 ≤ n) (hm : n ≤ m) (h : (decodeN n b0 b1 b2 b3).2 = n) (h1 : if 1 < n then c1 = b1 else c1 < 128) (h2 : if 2 < n then c2 = b2 else c2 < 128) (h3 : if 3 < n then c3 = b3 else c3 < 128) :
    (decodeN m b0 c1 c2 c3).2 = n := by
  have hn4 : n = 1 ∨ n = 2 ∨ n = 3 ∨ n = 4 := by
    rw [← h]
    unfold decodeN
    repeat' split
    all_goals simp
  rcases hn4 with rfl | rfl | rfl | rfl
  · simp only [Nat.lt_irrefl, if_false] at h1
    have hc : ¬ c1 / 64 = 2 := by omega
    unfold decodeN
    simp only [hc, and_false, false_and, if_false]
    split <;> rfl
  · simp only [show (1 : Nat) < 2 from by decide, if_true] at h1
    subst h1
    unfold decodeN at h ⊢
    split at h
    · simp at h
    · rename_i hA
      split at h
      · rename_i hB
        rw [if_neg hA, if_pos ⟨hB.1, by omega, hB.2.2⟩]
        exact h
      · exfalso
        split at h
        · rename_i hC
          omega
        · split at h
          · rename_i hD
            omega
          · simp at h
  · simp only [show (1 : Nat) < 3 from by decide, show (2 : Nat) < 3 from by decide, if_true] at h1 h2
    subst h1 h2
    unfold decodeN at h ⊢
    split at h
    · simp at h
    · rename_i hA
      split at h
      · split at h <;> simp at h
      · rename_i hB
        split at h
        · rename_i hC
          rw [if_neg hA, if_neg (fun x => hB ⟨x.1, by omega, x.2.2⟩), if_pos ⟨hC.1, ⟨by omega, hC.2.1.2⟩, by omega, hC.2.2.2⟩]
          exact h
        · exfalso
          split at h
          · rename_i hD
            omega
          · simp at h
  · simp only [show (1 : Nat) < 4 from by decide, show (2 : Nat) < 4 from by decide, show (3 : Nat) < 4 from by decide, if_true] at h1 h2 h3
    subst h1 h2 h3
    unfold decodeN at h ⊢
    split at h
    · simp at h
    · rename_i hA
      split at h
      · split at h <;> simp at h
      · rename_i hB
        split at h
        · split at h <;> simp at h
        · rename_i hC
          split at h
          · rename_i hD
            rw [if_neg hA, if_neg (fun x => hB ⟨x.1, by omega, x.2.2⟩), if_neg (fun x => hC ⟨x.1, ⟨by omega, x.2.1.2⟩, by omega, x.2.2.2⟩), if_pos ⟨hD.1, ⟨by omega, hD.2.1.2⟩, ⟨by omega, hD.2.2.1.2⟩, by omega, hD.2.2.2.2⟩]
            exact h
          · simp at h
theorem getD_appL (y z : List UInt8) (i : Nat) (h : i < y.length) : (y ++ z).getD i 0 = y.getD i 0 := by
  simp [List.getD, List.getElem?_append_left h]
theorem getD_appR (y z : List UInt8) (i : Nat) (h : ¬ i < y.length) (hz : ∀ b ∈ z, b.toNat < 128) : ((y ++ z).getD i 0).toNat < 128 := by
  simp only [List.getD, List.getElem?_append_right (Nat.le_of_not_lt h)]
  cases hx : z[i - y.length]? with
  | none => simp
  | some b => exact hz b (List.mem_of_getElem? hx)
/-- A rune that ends where a text ends has its width with low bytes behind it, too. -/
theorem dec_app (y z : List UInt8) (hy : y ≠ []) (h : (decodeL y).2 = y.length) (hz : ∀ b ∈ z, b.toNat < 128) : (decodeL (y ++ z)).2 = y.length := by
  have hl : 0 < y.length := List.length_pos_iff.2 hy
  rw [decodeL_N] at h ⊢
  rw [getD_appL y z 0 hl]
  refine decN_app y.length _ _ _ _ _ _ _ _ hl (by rw [List.length_append]; omega) h ?_ ?_ ?_
  all_goals
    split
    · rename_i hi
      rw [getD_appL y z _ hi]
    · rename_i hi
      exact getD_appR y z _ hi hz
theorem lastL_high (x : List UInt8) (b : UInt8) (h : 128 ≤ b.toNat) : 128 ≤ (decodeLastL (x ++ [b])).1 ∧
    ∃ y, y ≠ [] ∧ (∃ u, x ++ [b] = u ++ y) ∧ (decodeLastL (x ++ [b])).2 = y.length ∧ (decodeL y).2 = y.length := by
  have hlast : (x ++ [b]).getD ((x ++ [b]).length - 1) 0 = b := by simp [List.getD]
  have hone : (decodeL [b]).2 = 1 := by
    rw [decodeL_N]
    unfold decodeN
    simp only [List.length_cons, List.length_nil, Nat.zero_add, Nat.lt_irrefl, false_and, and_false, if_false, List.getD_cons_zero, List.getD_cons_succ, List.getD_nil]
    split <;> rfl
  unfold decodeLastL
  rw [if_neg (by simp), hlast, if_neg (by omega)]
  simp only
  by_cases hc : lastStart (x ++ [b]) + (decodeL ((x ++ [b]).drop (lastStart (x ++ [b])))).2 = (x ++ [b]).length
  · rw [if_pos hc]
    have hw := decodeL_width ((x ++ [b]).drop (lastStart (x ++ [b])))
    have hlen : ((x ++ [b]).drop (lastStart (x ++ [b]))).length = (decodeL ((x ++ [b]).drop (lastStart (x ++ [b])))).2 := by
      rw [List.length_drop]; omega
    have hne : (x ++ [b]).drop (lastStart (x ++ [b])) ≠ [] := fun e => by
      rw [e] at hlen hw
      simp only [List.length_nil] at hlen
      omega
    refine ⟨?_, _, hne, ⟨_, (List.take_append_drop (lastStart (x ++ [b])) _).symm⟩, hlen.symm, hlen.symm⟩
    generalize lastStart (x ++ [b]) = s at *
    obtain ⟨c, t, hct⟩ : ∃ c t, (x ++ [b]).drop s = c :: t := by
      cases he : (x ++ [b]).drop s with
      | nil => exact absurd he hne
      | cons c t => exact ⟨c, t, rfl⟩
    rw [hct] at hlen ⊢
    by_cases hlow : c.toNat < 128
    · rw [decodeL_ascii c t hlow] at hlen
      simp only [List.length_cons] at hlen
      have ht : t = [] := List.eq_nil_of_length_eq_zero (by omega)
      subst ht
      have hb : c = b := by
        have := congrArg (fun l : List UInt8 => l.getLast?) hct
        simp only [List.getLast?_drop, List.getLast?_singleton] at this
        split at this
        · simp at this
        · simpa using this.symm
      rw [hb] at hlow
      omega
    · rw [decodeL_N]
      exact decN_high _ _ _ _ _ (by simp only [List.getD_cons_zero]; omega)
  · rw [if_neg hc]
    exact ⟨by decide, [b], by simp, ⟨x, rfl⟩, rfl, hone⟩
theorem idx_right (l : List UInt8) : ∀ (f i : Nat), i ≤ l.length → i ≤ f →
    (strR (l.take i) = [] ∧ lastIdxFuncFrom blankR false (bs l) f i = -1) ∨ (∃ u y z, y ≠ [] ∧ l.take i = u ++ y ++ z ∧ (∀ b ∈ z, b.toNat < 128) ∧ (decodeL y).2 = y.length ∧ lastIdxFuncFrom blankR false (bs l) f i = (u.length : Nat) ∧ strR (l.take i) = u ++ y)
  | 0, i, hi, hf => by
    obtain rfl : i = 0 := by omega
    exact .inl ⟨rfl, rfl⟩
  | f + 1, i, hi, hf => by
    unfold lastIdxFuncFrom
    rw [bs_list]
    by_cases h : 0 < i
    · rw [if_pos h]
      obtain ⟨k, rfl⟩ : ∃ k, i = k + 1 := ⟨i - 1, by omega⟩
      have hk : k < l.length := by omega
      have e : l.take (k + 1) = l.take k ++ [l[k]] := by
        rw [List.take_add_one]
        simp [hk]
      rw [e, strR_snoc]
      by_cases hlow : l[k].toNat < 128
      · rw [decodeLastL_ascii _ _ hlow]
        have hb0 : blankR l[k].toNat = blankB l[k] := rfl
        rw [hb0]
        by_cases hb : blankB l[k] = true
        · rw [hb]
          simp only [if_true, Bool.true_eq_false, if_false, Nat.add_sub_cancel]
          rcases idx_right l f k (by omega) (by omega) with ⟨h3, h4⟩ | ⟨u, y, z, h3, h4, h5, h6, h7, h8⟩
          · exact .inl ⟨h3, h4⟩
          · refine .inr ⟨u, y, z ++ [l[k]], h3, by rw [h4]; simp, ?_, h6, h7, h8⟩
            intro b hb
            rcases List.mem_append.1 hb with hb | hb
            · exact h5 b hb
            · simp only [List.mem_singleton] at hb
              rw [hb]; exact hlow
        · have hb' : blankB l[k] = false := by simpa using hb
          rw [hb']
          simp only [if_true, Bool.false_eq_true, if_false, Nat.add_sub_cancel]
          refine .inr ⟨l.take k, [l[k]], [], by simp, by simp, by simp, ?_, ?_, rfl⟩
          · rw [decodeL_ascii _ _ hlow]; rfl
          · rw [List.length_take]; omega
      · have hb' : blankB l[k] = false := by
          by_cases hb : blankB l[k] = true
          · exact absurd (blankB_low _ hb) hlow
          · simpa using hb
        obtain ⟨h1, y, hy, ⟨u, hu⟩, h2, h3⟩ := lastL_high (l.take k) l[k] (by omega)
        rw [blankR_high _ h1, hb', h2]
        simp only [if_true, Bool.false_eq_true, if_false]
        refine .inr ⟨u, y, [], hy, by rw [hu]; simp, by simp, h3, ?_, hu⟩
        have hlen := congrArg List.length hu
        simp only [List.length_append, List.length_cons, List.length_nil, List.length_take] at hlen
        omega
    · rw [if_neg h]
      obtain rfl : i = 0 := by omega
      exact .inl ⟨rfl, rfl⟩
theorem right_eq (l : List UInt8) : trimRightF blankR (bs l) = bs (strR l) := by
  unfold trimRightF rightEndF lastIdxFunc
  rw [bs_size]
  have h := idx_right l l.length l.length (Nat.le_refl _) (Nat.le_refl _)
  rw [List.take_length] at h
  rcases h with ⟨h1, h2⟩ | ⟨u, y, z, h1, h2, h3, h4, h5, h6⟩
  · rw [h2, if_neg (by decide), h1, bs_extract]
    simp
  · rw [h5, if_pos (by omega), h6, bs_extract, bs_extract]
    have e : ((l.drop ((u.length : Nat) : Int).toNat).take (l.length - ((u.length : Nat) : Int).toNat)) = y ++ z := by
      rw [show ((u.length : Nat) : Int).toNat = u.length by omega, List.take_of_length_le (by rw [List.length_drop]; omega), h2, List.append_assoc, List.drop_left]
    rw [e]
    have hy := List.length_pos_iff.2 h1
    have hw : (decodeGoB (bs (y ++ z))).2 = y.length := by
      unfold decodeGoB
      rw [bs_size, if_neg (by rw [List.length_append]; omega), ← decodeL_drop, bs_list, List.drop_zero]
      exact dec_app y z h1 h4 h3
    rw [hw, List.drop_zero, show ((u.length : Nat) : Int).toNat + y.length - 0 = (u ++ y).length by rw [List.length_append]; omega, h2, List.take_left]
theorem trim_eq (l : List UInt8) : trimF blankR (bs l) = bs (strR (strL l)) := by
  unfold trimF
  rw [left_eq, right_eq]
end Go.Proofs.YtphhgdgamnogpaaDoor
