/-
  Layer 6 (split) in plain words: a line's words, by bytes and by runes; no program in sight. No conditions.
-/
import Derived.Test.YtphhgdgamnogpaaDoorLineR
namespace Go.Proofs.YtphhgdgamnogpaaDoor
open Go.Lib

/-! ### the decoder at a text that is cut ahead of a low byte -/
theorem decN_ext (n m b0 b1 b2 b3 c1 c2 c3 : Nat) (hn : 1 ≤ n) (hm : n ≤ m) (h1 : 1 < n → c1 = b1) (h2 : 2 < n → c2 = b2) (h3 : 3 < n → c3 = b3)
    (l1 : n = 1 → c1 < 128) (l2 : n = 2 → c2 < 128) (l3 : n = 3 → c3 < 128) : decodeN m b0 c1 c2 c3 = decodeN n b0 b1 b2 b3 := by
  rcases (show n = 1 ∨ n = 2 ∨ n = 3 ∨ 4 ≤ n by omega) with rfl | rfl | rfl | h4
  · have hc : ¬ c1 / 64 = 2 := by have := l1 rfl; omega
    unfold decodeN
    simp only [hc, Nat.lt_irrefl, and_false, false_and, if_false]
  · have e1 := h1 (by omega)
    have hc : ¬ c2 / 64 = 2 := by have := l2 rfl; omega
    have hm1 : 1 < m := by omega
    subst e1
    unfold decodeN
    simp only [hc, hm1, show (1 : Nat) < 2 from by decide, Nat.lt_irrefl, and_false, false_and, true_and, if_false]
  · have e1 := h1 (by omega)
    have e2 := h2 (by omega)
    have hc : ¬ c3 / 64 = 2 := by have := l3 rfl; omega
    have hm1 : 1 < m := by omega
    have hm2 : 2 < m := by omega
    subst e1 e2
    unfold decodeN
    simp only [hc, hm1, hm2, show (1 : Nat) < 3 from by decide, show (2 : Nat) < 3 from by decide, Nat.lt_irrefl, and_false, false_and, true_and, if_false]
  · have e1 := h1 (by omega)
    have e2 := h2 (by omega)
    have e3 := h3 (by omega)
    subst e1 e2 e3
    unfold decodeN
    simp only [show 1 < m by omega, show 2 < m by omega, show 3 < m by omega, show 1 < n by omega, show 2 < n by omega, show 3 < n by omega]
theorem dec_cut (x y : List UInt8) (c : UInt8) (hx : x ≠ []) (hc : c.toNat < 128) : decodeL (x ++ c :: y) = decodeL x := by
  have hl : 0 < x.length := List.length_pos_iff.2 hx
  have hat : (x ++ c :: y).getD x.length 0 = c := by simp [List.getD]
  rw [decodeL_N, decodeL_N, getD_appL x _ 0 hl]
  refine decN_ext x.length _ _ _ _ _ _ _ _ hl (by rw [List.length_append]; omega) ?_ ?_ ?_ ?_ ?_ ?_
  · intro h; rw [getD_appL x _ 1 h]
  · intro h; rw [getD_appL x _ 2 h]
  · intro h; rw [getD_appL x _ 3 h]
  · intro h; rw [h] at hat; rw [hat]; exact hc
  · intro h; rw [h] at hat; rw [hat]; exact hc
  · intro h; rw [h] at hat; rw [hat]; exact hc
theorem valid_cut : ∀ (n : Nat) (x y : List UInt8) (c : UInt8), x.length ≤ n → c.toNat < 128 → validD (x ++ c :: y) = (validD x && validD y)
  | 0, x, y, c, hn, hc => by
    have : x = [] := List.eq_nil_of_length_eq_zero (by omega)
    subst this
    rw [List.nil_append, validD_cons c y hc]
    rfl
  | n + 1, x, y, c, hn, hc => by
    by_cases hx : x = []
    · subst hx
      rw [List.nil_append, validD_cons c y hc]
      rfl
    · have hw := decodeL_le' x hx
      rw [validD_step _ (by simp), validD_step x hx, dec_cut x y c hx hc]
      split
      · rfl
      · rw [List.drop_append_of_le_length hw.2, valid_cut n (x.drop (decodeL x).2) y c (by rw [List.length_drop]; omega) hc]
theorem dec_cont (l : List UInt8) (j : Nat) (hj : 1 ≤ j) (h : j < (decodeL l).2) : 128 ≤ (l.getD j 0).toNat := by
  rw [decodeL_N] at h
  generalize (l.getD 0 0).toNat = b0 at h
  generalize h1 : (l.getD 1 0).toNat = b1 at h
  generalize h2 : (l.getD 2 0).toNat = b2 at h
  generalize h3 : (l.getD 3 0).toNat = b3 at h
  have hj3 : j = 1 ∨ j = 2 ∨ j = 3 := by
    have : (decodeN l.length b0 b1 b2 b3).2 ≤ 4 := by
      unfold decodeN
      repeat' split
      all_goals simp
    omega
  unfold decodeN at h
  split at h
  · simp only at h; omega
  · split at h
    · rename_i hc
      split at h
      · simp only at h
        obtain rfl : j = 1 := by omega
        rw [h1]; omega
      · simp only at h; omega
    · split at h
      · rename_i hc
        split at h
        · simp only at h
          rcases (show j = 1 ∨ j = 2 by omega) with rfl | rfl
          · rw [h1]; omega
          · rw [h2]; omega
        · simp only at h; omega
      · split at h
        · rename_i hc
          split at h
          · simp only at h
            rcases hj3 with rfl | rfl | rfl
            · rw [h1]; omega
            · rw [h2]; omega
            · rw [h3]; omega
          · simp only at h; omega
        · simp only at h; omega

/-! ### the words, byte by byte -/
def scanGo (l : List UInt8) : Nat → Nat → Option Nat → List (Nat × Nat)
  | 0, _, none => []
  | 0, i, some f => [(f, i)]
  | n + 1, i, fr => if blankB (l.getD i 0) then (match fr with | some f => (f, i) :: scanGo l n (i + 1) none | none => scanGo l n (i + 1) none) else scanGo l n (i + 1) (some (fr.getD i))
/-- The word that ends here, if there is one. -/
def pushed : Option Nat → Nat → List (Nat × Nat)
  | some f, i => [(f, i)]
  | none, _ => []
def scanL (l : List UInt8) : List (Nat × Nat) := scanGo l l.length 0 none
theorem scan_blank (l : List UInt8) (i : Nat) (fr : Option Nat) (hi : i < l.length) (hb : blankB l[i] = true) :
    scanGo l (l.length - i) i fr = pushed fr i ++ scanGo l (l.length - (i + 1)) (i + 1) none := by
  rw [show l.length - i = (l.length - (i + 1)) + 1 by omega]
  conv => lhs; unfold scanGo
  rw [getD_at l i hi, if_pos hb]
  cases fr <;> rfl
theorem scan_go (l : List UInt8) (i : Nat) (fr : Option Nat) (hi : i < l.length) (hb : blankB l[i] = false) :
    scanGo l (l.length - i) i fr = scanGo l (l.length - (i + 1)) (i + 1) (some (fr.getD i)) := by
  rw [show l.length - i = (l.length - (i + 1)) + 1 by omega]
  conv => lhs; unfold scanGo
  rw [getD_at l i hi, hb]
  rfl
theorem scan_end (l : List UInt8) (i : Nat) (fr : Option Nat) (hi : l.length ≤ i) : scanGo l (l.length - i) i fr = pushed fr i := by
  rw [show l.length - i = 0 by omega]
  cases fr <;> rfl
theorem scan_many (l : List UInt8) (f : Nat) : ∀ (k i : Nat), i + k ≤ l.length → (∀ j, j < k → blankB (l.getD (i + j) 0) = false) → scanGo l (l.length - i) i (some f) = scanGo l (l.length - (i + k)) (i + k) (some f)
  | 0, i, _, _ => rfl
  | k + 1, i, hk, hb => by
    have h0 := hb 0 (by omega)
    rw [Nat.add_zero, getD_at l i (by omega)] at h0
    rw [scan_go l i (some f) (by omega) h0]
    show scanGo l (l.length - (i + 1)) (i + 1) (some f) = _
    rw [scan_many l f k (i + 1) (by omega) (fun j hj => by have := hb (j + 1) (by omega); rwa [show i + (j + 1) = i + 1 + j by omega] at this), show i + 1 + k = i + (k + 1) by omega]
/-- One rune further. -/
theorem scan_rune (l : List UInt8) (p : Nat) (fr : Option Nat) (hp : p < l.length) :
    (blankR (oneAt l p).1 = true → scanGo l (l.length - p) p fr = pushed fr p ++ scanGo l (l.length - (p + (oneAt l p).2)) (p + (oneAt l p).2) none) ∧
    (blankR (oneAt l p).1 = false → scanGo l (l.length - p) p fr = scanGo l (l.length - (p + (oneAt l p).2)) (p + (oneAt l p).2) (some (fr.getD p))) := by
  have e : l.drop p = l[p] :: l.drop (p + 1) := List.drop_eq_getElem_cons hp
  have eo : oneAt l p = decodeL (l.drop p) := rfl
  have hb := one_bounds l p hp
  obtain ⟨h1, h2⟩ := dec_blank l[p] (l.drop (p + 1))
  rw [← e, ← eo] at h1 h2
  constructor
  · intro h
    rw [h1] at h
    rw [h2 h]
    exact scan_blank l p fr hp h
  · intro h
    rw [h1] at h
    rw [scan_go l p fr hp h, scan_many l _ ((oneAt l p).2 - 1) (p + 1) (by omega) ?_, show p + 1 + ((oneAt l p).2 - 1) = p + (oneAt l p).2 by omega]
    intro j hj
    have hc := dec_cont (l.drop p) (j + 1) (by omega) (by rw [← eo]; omega)
    rw [getD_dropU, show p + (j + 1) = p + 1 + j by omega] at hc
    cases hz : blankB (l.getD (p + 1 + j) 0) with
    | true => have := blankB_low _ hz; omega
    | false => rfl

theorem col_le (l : List UInt8) (at' : Int) : ∀ (k p : Nat), l.length - p ≤ k → colN l p at' ≤ l.length - p
  | 0, p, hk => by
    rw [col_end l p at' (by omega)]
    exact Nat.zero_le _
  | k + 1, p, hk => by
    by_cases h : p < l.length
    · have hb := one_bounds l p h
      have := col_le l at' k (p + (oneAt l p).2) (by omega)
      rw [col_step l p at' h]
      split <;> omega
    · rw [col_end l p at' (by omega)]
      exact Nat.zero_le _

/-! ### where words begin, in runes -/
/-- So many runes begin ahead of this byte, at which one begins. -/
def RunesTo (l : List UInt8) (p n : Nat) : Prop := ∀ at' : Int, (p : Int) ≤ at' → colN l 0 at' = n + colN l p at'
theorem runesTo_start (l : List UInt8) : RunesTo l 0 0 := fun _ _ => by omega
theorem runesTo_step (l : List UInt8) (p n : Nat) (hp : p < l.length) (h : RunesTo l p n) : RunesTo l (p + (oneAt l p).2) (n + 1) := fun at' hat => by
  have hb := one_bounds l p hp
  have := h at' (by omega)
  rw [col_step l p at' hp, if_pos (by omega)] at this
  omega
theorem runesTo_col (l : List UInt8) (p n : Nat) (h : RunesTo l p n) : colN l 0 p = n := by
  have := h p (Int.le_refl _)
  rw [col_past l p p (Int.le_refl _)] at this
  omega
theorem runesTo_less (l : List UInt8) (p n q : Nat) (h : RunesTo l p n) (hp : p < l.length) (hq : p < q) : colN l 0 p < colN l 0 q := by
  rw [runesTo_col l p n h]
  have := h q (by omega)
  rw [col_step l p q hp, if_pos (by omega)] at this
  omega
/-- A word: its text, and where it begins. -/
def wordAt (l : List UInt8) (r : Nat × Nat) : List UInt8 × Nat := (curL l r.1 r.2, colN l 0 r.1 + 1)
def wordsL (l : List UInt8) : List (List UInt8 × Nat) := (scanL l).map (wordAt l)
/-- What stands ahead of a remark. -/
def aheadL (s : List UInt8) : List UInt8 := s.takeWhile (fun b => decide (b ≠ 35))
theorem ahead_app (s : List UInt8) : aheadL s = s ∨ ∃ y, s = aheadL s ++ 35 :: y := by
  unfold aheadL
  have h := List.takeWhile_append_dropWhile (p := fun b : UInt8 => decide (b ≠ 35)) (l := s)
  cases hd : s.dropWhile (fun b => decide (b ≠ 35)) with
  | nil => left; rw [hd, List.append_nil] at h; exact h
  | cons b y =>
    right
    have hb : b = 35 := by
      have := List.head?_dropWhile_not (fun b : UInt8 => decide (b ≠ 35)) s
      rw [hd] at this
      simpa using this
    rw [hd, hb] at h
    exact ⟨y, h.symm⟩
theorem oneAt_ahead (s : List UInt8) (p : Nat) (hp : p < (aheadL s).length) : oneAt (aheadL s) p = oneAt s p := by
  rcases ahead_app s with h | ⟨y, h⟩
  · rw [h]
  · have hne : (aheadL s).drop p ≠ [] := fun e => by
      have := congrArg List.length e
      rw [List.length_drop, List.length_nil] at this
      omega
    unfold oneAt
    conv => rhs; rw [h, List.drop_append_of_le_length (by omega)]
    exact (dec_cut _ y 35 hne (by decide)).symm
theorem col_ahead (s : List UInt8) (at' : Nat) (hat : at' ≤ (aheadL s).length) (hle : (aheadL s).length ≤ s.length) : ∀ (k p : Nat), (aheadL s).length - p ≤ k → p ≤ (aheadL s).length → colN (aheadL s) p at' = colN s p at'
  | 0, p, hk, hp => by
    rw [col_past _ p _ (by omega), col_past _ p _ (by omega)]
  | k + 1, p, hk, hp => by
    by_cases h : p < at'
    · have hb := one_bounds (aheadL s) p (by omega)
      have e := oneAt_ahead s p (by omega)
      rw [col_step _ p _ (by omega), col_step s p _ (by omega), if_pos (by omega), if_pos (by omega), ← e, col_ahead s at' hat hle k _ (by omega) (by omega)]
    · rw [col_past _ p _ (by omega), col_past _ p _ (by omega)]
theorem ahead_len (s : List UInt8) : (aheadL s).length ≤ s.length := by
  rcases ahead_app s with h | ⟨y, h⟩
  · rw [h]; exact Nat.le_refl _
  · conv => rhs; rw [h]
    rw [List.length_append]
    omega
end Go.Proofs.YtphhgdgamnogpaaDoor
