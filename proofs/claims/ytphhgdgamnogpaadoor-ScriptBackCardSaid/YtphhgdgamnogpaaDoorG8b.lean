/-
  The walks of layer 1 (line): the runes ahead of a byte, and a text without blanks, in the program and in its reference; the statement LineRunes. No conditions but that unicode/utf8's two tables are as their initialisers lay them and that internal/bytealg.MaxLen holds a number.
  Layer 6 (split) in plain words: a line's words, by bytes and by runes; no program in sight. No conditions.
  DERIVED: THE SHELF's CONTRACTS AT THIS DUMP, IN PLAIN WORDS (tools/lay-plain.mjs out of 'TrydShelfS4.lean', which tools/lay-shelf.mjs wrote): THE SAME DECLARATIONS UNDER THE SAME NAMES: 'import', 'namespace', 'open', 'def', 'theorem' AND NOTHING ELSE: no command of the shelf's: FOR A HAND-IN. Each laying: the table of numbers ('.._ren') and one theorem, a field a fact of the dump's own or the kernel's comparison; each contract: ONE APPLICATION.
  The walks of layer 6 (split): a line's words, in the program. No conditions but that internal/bytealg.MaxLen holds a number.
  The walks of layer 6's reference (split): a line's words. No conditions.
  The walks of layer 6 (split): remarks, texts joined, and the statement SplitWords. No conditions but that unicode/utf8's two tables are as their initialisers lay them and that internal/bytealg.MaxLen holds a number.
  Layer 6 (split): words joined and parted again are the same words, in plain words; and the statements SplitJoins and SplitAgain, walked. No conditions but that unicode/utf8's two tables are as their initialisers lay them and that internal/bytealg.MaxLen holds a number.
  Type assertions on a cell's value, as closed facts of the program's own tables. No conditions.
  Which values may be, in plain words. No conditions.
  Plain law of layer 3 (digit): a number's decimal text, the number of a text; they undo one another. No program in sight.
  The walks of layer 3 (digit): what each function of package digit, and of its reference, returns; memory that was there stands as it was. No conditions.
-/
import Derived.Test.YtphhgdgamnogpaaDoorG8a
import Derived.Ground.NamesProg
import Derived.Shelf.LaysM
import Derived.Shelf.Strings.Cut
import Derived.Shelf.Strings.Search3
import Derived.Shelf.Strings.OnBuilder
import Derived.Test.YtphhgdgamnogpaaDoorProg
import Derived.WalkSmall
import Derived.Deep.RegionHeld3
import Derived.Deep.AppendLies
import Derived.IntWalk
import Derived.Lib.Join
namespace Go.Proofs.YtphhgdgamnogpaaDoor
open Go.RowKit Go.Lib

/-! ### the runes that begin ahead of a byte -/
def colGo : Nat → List UInt8 → Nat → Int → Nat
  | 0, _, _, _ => 0
  | f + 1, l, p, at' => if p < l.length ∧ (p : Int) < at' then 1 + colGo f l (p + (oneAt l p).2) at' else 0
def colN (l : List UInt8) (p : Nat) (at' : Int) : Nat := colGo (l.length - p) l p at'
theorem colGo_fuel (l : List UInt8) (at' : Int) : ∀ (f g p : Nat), l.length - p ≤ f → l.length - p ≤ g → colGo f l p at' = colGo g l p at'
  | 0, 0, _, _, _ => rfl
  | 0, g + 1, p, hf, _ => by
    unfold colGo
    rw [if_neg (by omega)]
  | f + 1, 0, p, _, hg => by
    unfold colGo
    rw [if_neg (by omega)]
  | f + 1, g + 1, p, hf, hg => by
    unfold colGo
    by_cases h : p < l.length ∧ (p : Int) < at'
    · have hb := one_bounds l p h.1
      rw [if_pos h, if_pos h, colGo_fuel l at' f g (p + (oneAt l p).2) (by omega) (by omega)]
    · rw [if_neg h, if_neg h]
theorem col_step (l : List UInt8) (p : Nat) (at' : Int) (hp : p < l.length) : colN l p at' = if (p : Int) < at' then 1 + colN l (p + (oneAt l p).2) at' else 0 := by
  have hb := one_bounds l p hp
  unfold colN
  obtain ⟨f, hf⟩ : ∃ f, l.length - p = f + 1 := ⟨l.length - p - 1, by omega⟩
  rw [hf]
  by_cases h : (p : Int) < at'
  · rw [if_pos h]
    show (if p < l.length ∧ (p : Int) < at' then _ else _) = _
    rw [if_pos ⟨hp, h⟩, colGo_fuel l at' f _ (p + (oneAt l p).2) (by omega) (Nat.le_refl _)]
  · rw [if_neg h]
    show (if p < l.length ∧ (p : Int) < at' then _ else _) = _
    rw [if_neg (fun x => h x.2)]
theorem col_end (l : List UInt8) (p : Nat) (at' : Int) (hp : l.length ≤ p) : colN l p at' = 0 := by
  unfold colN
  rw [show l.length - p = 0 by omega]
  rfl
theorem col_past (l : List UInt8) (p : Nat) (at' : Int) (h : at' ≤ (p : Int)) : colN l p at' = 0 := by
  by_cases hp : p < l.length
  · rw [col_step l p at' hp, if_neg (by omega)]
  · exact col_end l p at' (by omega)
/-- How many runes of a text begin ahead of a byte; 0 for a text that is no UTF-8. -/
def colT (l : List UInt8) (at' : Int) : Nat := if validD l then colN l 0 at' else 0
theorem valid_at (l : List UInt8) (p : Nat) (hp : p < l.length) (h : validD (l.drop p) = true) : sizeAt l p = (oneAt l p).2 ∧ validD (l.drop (p + (oneAt l p).2)) = true := by
  have hne : l.drop p ≠ [] := by
    intro e
    have := congrArg List.length e
    simp at this
    omega
  have hw := one_bounds l p hp
  rw [validD_step _ hne] at h
  split at h
  · simp at h
  · rename_i hc
    have hs : sizeAt l p = (oneAt l p).2 := by
      unfold sizeAt szD
      exact if_neg hc
    refine ⟨hs, ?_⟩
    rw [List.drop_drop] at h
    exact h

set_option maxRecDepth 100000 in
set_option maxHeartbeats 1000000 in
theorem rcolumn_any (l : List UInt8) (hs : l.length ≤ 1000000) (at' : Int) (w : World) :
    Calls Tryd.prog 102 #[.string (bs l), .int .i64 at'] w fun e w' => e = .returned (.int .i64 (colT l at' : Nat)) ∧ w = w' := by
  have HC := Lib.hid (rrunes_any l hs)
  have hv := runesN_snd l
  generalize runesN l = N at *
  obtain ⟨N1, N2⟩ := N
  simp only at HC hv
  subst hv
  by_cases hval : validD l = true
  · have e : colT l at' = colN l 0 at' := if_pos hval
    rw [e]
    obtain ⟨R, hR⟩ : ∃ R, colN l 0 at' = R := ⟨_, rfl⟩
    rw [hR]
    have HR := Lib.hid hR
    have HV := Lib.hid hval
    rw [hval] at HC
    clear e hval
    by_cases hneg : at' < 0
    · rw [col_past l 0 at' (by omega)] at hR
      have H2 := Lib.hid hR
      clear hR
      go_enter Tryd.func102, Tryd.ntmps102
      go_wp2_with fail
      refine (HC.out _).mono ?_
      rintro e w1 ⟨rfl, rfl⟩
      go_wp2_with fail
      go_ret
      rw [← H2.out]
      exact ⟨rfl, rfl⟩
    · have hneg' : 0 ≤ at' := by omega
      clear hR hneg
      go_enter Tryd.func102, Tryd.ntmps102
      go_wp2_with fail
      refine (HC.out _).mono ?_
      rintro e w1 ⟨rfl, rfl⟩
      go_wp2_with fail
      go_loop [7, 8] (fun n i => ∃ p k : Nat, p ≤ l.length ∧ k ≤ p ∧ i = .int .i64 p ∧ n = .int .i64 k ∧ validD (l.drop p) = true ∧ k + colN l p at' = R) (fun _ i => l.length - (RowKit.intOf i).toNat)
      case atStart => exact ⟨0, 0, Nat.zero_le _, Nat.le_refl _, rfl, rfl, HV.out, by rw [HR.out]; omega⟩
      case round =>
        obtain ⟨p, k, hp, hk, rfl, rfl, hv, hr⟩ := hrel
        by_cases hlt : p < l.length
        · have hb := one_bounds l p hlt
          obtain ⟨v1, v2⟩ := valid_at l p hlt hv
          have HZ := Lib.hid (size_any l p hlt (by omega))
          rw [col_step l p at' hlt] at hr
          rw [v1] at HZ
          obtain ⟨D, hD⟩ : ∃ D, (oneAt l p).2 = D := ⟨_, rfl⟩
          rw [hD] at hr hb HZ v2
          have HV2 := Lib.hid v2
          clear hD v1 v2 hv
          by_cases hat : (p : Int) < at'
          · rw [if_pos hat] at hr
            have H2 := Lib.hid hr
            clear hr
            go_wp2_with fail
            refine (HZ.out _).mono ?_
            rintro e w1 ⟨rfl, rfl⟩
            go_wp2_with fail
            go_round
            case rel => exact ⟨p + D, k + 1, hb.2, by omega, by go_num, by go_num, HV2.out, by have := H2.out; omega⟩
            case measure => simp [RowKit.intOf]; omega
          · rw [if_neg hat] at hr
            have H2 := Lib.hid hr
            have hat' : at' ≤ (p : Int) := by omega
            clear hr hat
            go_wp2_with fail
            go_ret
            rw [← H2.out]
            exact ⟨rfl, rfl⟩
        · rw [col_end l p at' (by omega)] at hr
          have HS := Lib.hid hr
          clear hr
          go_wp2_with fail
          go_ret
          rw [← HS.out]
          exact ⟨rfl, rfl⟩
  · have e : colT l at' = 0 := if_neg hval
    have hval' : validD l = false := by simpa using hval
    rw [e]
    rw [hval'] at HC
    clear e hval hval'
    go_enter Tryd.func102, Tryd.ntmps102
    go_wp2_with fail
    refine (HC.out _).mono ?_
    rintro e w1 ⟨rfl, rfl⟩
    go_wp2_with fail
    go_ret
    exact ⟨rfl, rfl⟩

/-! ### blanks -/
theorem strL_at (x : List UInt8) (h : 0 < x.length) : strL x = if blankB x[0] then strL (x.drop 1) else x := by
  cases x with
  | nil => simp at h
  | cons b t => exact strL_cons b t
theorem strR_at (x : List UInt8) (h : 0 < x.length) : strR x = if blankB x[x.length - 1] then strR (x.take (x.length - 1)) else x := by
  rcases snoc_cases x with h0 | ⟨t, b, rfl⟩
  · rw [h0] at h; simp at h
  · rw [strR_snoc]
    simp

end Go.Proofs.YtphhgdgamnogpaaDoor

namespace Go.Proofs.YtphhgdgamnogpaaDoor
open Go.Lib

/-! ### the decoder at a text that is cut ahead of a low byte -/
theorem decN_ext (n m b0 b1 b2 b3 c1 c2 c3 : Nat) (hn : 1 ≤ n) (hm : n ≤ m) (h1 : 1 < n → c1 = b1) (h2 : 2 < n → c2 = b2) (h3 : 3 < n → c3 = b3)
    (l1 : n = 1 → c1 < 128) (l2 : n = 2 → c2 < 128) (l3 : n = 3 → c3 < 128) : decodeN m b0 c1 c2 c3 = decodeN n b0 b1 b2 b3 := by
  rcases (show n = 1 ∨ n = 2 ∨ n = 3 ∨ 4 ≤ n by omega) with rfl | rfl | rfl | h4
  · have hc : ¬ c1 / 64 = 2 := by have := l1 rfl; omega
    unfold decodeN
    simp only [hc, Nat.lt_irrefl, and_false, false_and, if_false]
  · have e1 := h1 (by omega)
    have hc : ¬ c2 / 64 = 2 := by have := l2 rfl; omega
    have hm1 : 1 < m := by omega
    subst e1
    unfold decodeN
    simp only [hc, hm1, show (1 : Nat) < 2 from by decide, Nat.lt_irrefl, and_false, false_and, true_and, if_false]
  · have e1 := h1 (by omega)
    have e2 := h2 (by omega)
    have hc : ¬ c3 / 64 = 2 := by have := l3 rfl; omega
    have hm1 : 1 < m := by omega
    have hm2 : 2 < m := by omega
    subst e1 e2
    unfold decodeN
    simp only [hc, hm1, hm2, show (1 : Nat) < 3 from by decide, show (2 : Nat) < 3 from by decide, Nat.lt_irrefl, and_false, false_and, true_and, if_false]
  · have e1 := h1 (by omega)
    have e2 := h2 (by omega)
    have e3 := h3 (by omega)
    subst e1 e2 e3
    unfold decodeN
    simp only [show 1 < m by omega, show 2 < m by omega, show 3 < m by omega, show 1 < n by omega, show 2 < n by omega, show 3 < n by omega]
theorem dec_cut (x y : List UInt8) (c : UInt8) (hx : x ≠ []) (hc : c.toNat < 128) : decodeL (x ++ c :: y) = decodeL x := by
  have hl : 0 < x.length := List.length_pos_iff.2 hx
  have hat : (x ++ c :: y).getD x.length 0 = c := by simp [List.getD]
  rw [decodeL_N, decodeL_N, getD_appL x _ 0 hl]
  refine decN_ext x.length _ _ _ _ _ _ _ _ hl (by rw [List.length_append]; omega) ?_ ?_ ?_ ?_ ?_ ?_
  · intro h; rw [getD_appL x _ 1 h]
  · intro h; rw [getD_appL x _ 2 h]
  · intro h; rw [getD_appL x _ 3 h]
  · intro h; rw [h] at hat; rw [hat]; exact hc
  · intro h; rw [h] at hat; rw [hat]; exact hc
  · intro h; rw [h] at hat; rw [hat]; exact hc
theorem valid_cut : ∀ (n : Nat) (x y : List UInt8) (c : UInt8), x.length ≤ n → c.toNat < 128 → validD (x ++ c :: y) = (validD x && validD y)
  | 0, x, y, c, hn, hc => by
    have : x = [] := List.eq_nil_of_length_eq_zero (by omega)
    subst this
    rw [List.nil_append, validD_cons c y hc]
    rfl
  | n + 1, x, y, c, hn, hc => by
    by_cases hx : x = []
    · subst hx
      rw [List.nil_append, validD_cons c y hc]
      rfl
    · have hw := decodeL_le' x hx
      rw [validD_step _ (by simp), validD_step x hx, dec_cut x y c hx hc]
      split
      · rfl
      · rw [List.drop_append_of_le_length hw.2, valid_cut n (x.drop (decodeL x).2) y c (by rw [List.length_drop]; omega) hc]
theorem dec_cont (l : List UInt8) (j : Nat) (hj : 1 ≤ j) (h : j < (decodeL l).2) : 128 ≤ (l.getD j 0).toNat := by
  rw [decodeL_N] at h
  generalize (l.getD 0 0).toNat = b0 at h
  generalize h1 : (l.getD 1 0).toNat = b1 at h
  generalize h2 : (l.getD 2 0).toNat = b2 at h
  generalize h3 : (l.getD 3 0).toNat = b3 at h
  have hj3 : j = 1 ∨ j = 2 ∨ j = 3 := by
    have : (decodeN l.length b0 b1 b2 b3).2 ≤ 4 := by
      unfold decodeN
      repeat' split
      all_goals simp
    omega
  unfold decodeN at h
  split at h
  · simp only at h; omega
  · split at h
    · rename_i hc
      split at h
      · simp only at h
        obtain rfl : j = 1 := by omega
        rw [h1]; omega
      · simp only at h; omega
    · split at h
      · rename_i hc
        split at h
        · simp only at h
          rcases (show j = 1 ∨ j = 2 by omega) with rfl | rfl
          · rw [h1]; omega
          · rw [h2]; omega
        · simp only at h; omega
      · split at h
        · rename_i hc
          split at h
          · simp only at h
            rcases hj3 with rfl | rfl | rfl
            · rw [h1]; omega
            · rw [h2]; omega
            · rw [h3]; omega
          · simp only at h; omega
        · simp only at h; omega

/-! ### the words, byte by byte -/
def scanGo (l : List UInt8) : Nat → Nat → Option Nat → List (Nat × Nat)
  | 0, _, none => []
  | 0, i, some f => [(f, i)]
  | n + 1, i, fr => if blankB (l.getD i 0) then (match fr with | some f => (f, i) :: scanGo l n (i + 1) none | none => scanGo l n (i + 1) none) else scanGo l n (i + 1) (some (fr.getD i))
/-- The word that ends here, if there is one. -/
def pushed : Option Nat → Nat → List (Nat × Nat)
  | some f, i => [(f, i)]
  | none, _ => []
def scanL (l : List UInt8) : List (Nat × Nat) := scanGo l l.length 0 none
theorem scan_blank (l : List UInt8) (i : Nat) (fr : Option Nat) (hi : i < l.length) (hb : blankB l[i] = true) :
    scanGo l (l.length - i) i fr = pushed fr i ++ scanGo l (l.length - (i + 1)) (i + 1) none := by
  rw [show l.length - i = (l.length - (i + 1)) + 1 by omega]
  conv => lhs; unfold scanGo
  rw [getD_at l i hi, if_pos hb]
  cases fr <;> rfl
theorem scan_go (l : List UInt8) (i : Nat) (fr : Option Nat) (hi : i < l.length) (hb : blankB l[i] = false) :
    scanGo l (l.length - i) i fr = scanGo l (l.length - (i + 1)) (i + 1) (some (fr.getD i)) := by
  rw [show l.length - i = (l.length - (i + 1)) + 1 by omega]
  conv => lhs; unfold scanGo
  rw [getD_at l i hi, hb]
  rfl
theorem scan_end (l : List UInt8) (i : Nat) (fr : Option Nat) (hi : l.length ≤ i) : scanGo l (l.length - i) i fr = pushed fr i := by
  rw [show l.length - i = 0 by omega]
  cases fr <;> rfl
theorem scan_many (l : List UInt8) (f : Nat) : ∀ (k i : Nat), i + k ≤ l.length → (∀ j, j < k → blankB (l.getD (i + j) 0) = false) → scanGo l (l.length - i) i (some f) = scanGo l (l.length - (i + k)) (i + k) (some f)
  | 0, i, _, _ => rfl
  | k + 1, i, hk, hb => by
    have h0 := hb 0 (by omega)
    rw [Nat.add_zero, getD_at l i (by omega)] at h0
    rw [scan_go l i (some f) (by omega) h0]
    show scanGo l (l.length - (i + 1)) (i + 1) (some f) = _
    rw [scan_many l f k (i + 1) (by omega) (fun j hj => by have := hb (j + 1) (by omega); rwa [show i + (j + 1) = i + 1 + j by omega] at this), show i + 1 + k = i + (k + 1) by omega]
/-- One rune further. -/
theorem scan_rune (l : List UInt8) (p : Nat) (fr : Option Nat) (hp : p < l.length) :
    (blankR (oneAt l p).1 = true → scanGo l (l.length - p) p fr = pushed fr p ++ scanGo l (l.length - (p + (oneAt l p).2)) (p + (oneAt l p).2) none) ∧
    (blankR (oneAt l p).1 = false → scanGo l (l.length - p) p fr = scanGo l (l.length - (p + (oneAt l p).2)) (p + (oneAt l p).2) (some (fr.getD p))) := by
  have e : l.drop p = l[p] :: l.drop (p + 1) := List.drop_eq_getElem_cons hp
  have eo : oneAt l p = decodeL (l.drop p) := rfl
  have hb := one_bounds l p hp
  obtain ⟨h1, h2⟩ := dec_blank l[p] (l.drop (p + 1))
  rw [← e, ← eo] at h1 h2
  constructor
  · intro h
    rw [h1] at h
    rw [h2 h]
    exact scan_blank l p fr hp h
  · intro h
    rw [h1] at h
    rw [scan_go l p fr hp h, scan_many l _ ((oneAt l p).2 - 1) (p + 1) (by omega) ?_, show p + 1 + ((oneAt l p).2 - 1) = p + (oneAt l p).2 by omega]
    intro j hj
    have hc := dec_cont (l.drop p) (j + 1) (by omega) (by rw [← eo]; omega)
    rw [getD_dropU, show p + (j + 1) = p + 1 + j by omega] at hc
    cases hz : blankB (l.getD (p + 1 + j) 0) with
    | true => have := blankB_low _ hz; omega
    | false => rfl

theorem col_le (l : List UInt8) (at' : Int) : ∀ (k p : Nat), l.length - p ≤ k → colN l p at' ≤ l.length - p
  | 0, p, hk => by
    rw [col_end l p at' (by omega)]
    exact Nat.zero_le _
  | k + 1, p, hk => by
    by_cases h : p < l.length
    · have hb := one_bounds l p h
      have := col_le l at' k (p + (oneAt l p).2) (by omega)
      rw [col_step l p at' h]
      split <;> omega
    · rw [col_end l p at' (by omega)]
      exact Nat.zero_le _

/-! ### where words begin, in runes -/
/-- So many runes begin ahead of this byte, at which one begins. -/
def RunesTo (l : List UInt8) (p n : Nat) : Prop := ∀ at' : Int, (p : Int) ≤ at' → colN l 0 at' = n + colN l p at'
theorem runesTo_start (l : List UInt8) : RunesTo l 0 0 := fun _ _ => by omega
theorem runesTo_step (l : List UInt8) (p n : Nat) (hp : p < l.length) (h : RunesTo l p n) : RunesTo l (p + (oneAt l p).2) (n + 1) := fun at' hat => by
  have hb := one_bounds l p hp
  have := h at' (by omega)
  rw [col_step l p at' hp, if_pos (by omega)] at this
  omega
theorem runesTo_col (l : List UInt8) (p n : Nat) (h : RunesTo l p n) : colN l 0 p = n := by
  have := h p (Int.le_refl _)
  rw [col_past l p p (Int.le_refl _)] at this
  omega
theorem runesTo_less (l : List UInt8) (p n q : Nat) (h : RunesTo l p n) (hp : p < l.length) (hq : p < q) : colN l 0 p < colN l 0 q := by
  rw [runesTo_col l p n h]
  have := h q (by omega)
  rw [col_step l p q hp, if_pos (by omega)] at this
  omega
/-- A word: its text, and where it begins. -/
def wordAt (l : List UInt8) (r : Nat × Nat) : List UInt8 × Nat := (curL l r.1 r.2, colN l 0 r.1 + 1)
def wordsL (l : List UInt8) : List (List UInt8 × Nat) := (scanL l).map (wordAt l)
/-- What stands ahead of a remark. -/
def aheadL (s : List UInt8) : List UInt8 := s.takeWhile (fun b => decide (b ≠ 35))
theorem ahead_app (s : List UInt8) : aheadL s = s ∨ ∃ y, s = aheadL s ++ 35 :: y := by
  unfold aheadL
  have h := List.takeWhile_append_dropWhile (p := fun b : UInt8 => decide (b ≠ 35)) (l := s)
  cases hd : s.dropWhile (fun b => decide (b ≠ 35)) with
  | nil => left; rw [hd, List.append_nil] at h; exact h
  | cons b y =>
    right
    have hb : b = 35 := by
      have := List.head?_dropWhile_not (fun b : UInt8 => decide (b ≠ 35)) s
      rw [hd] at this
      simpa using this
    rw [hd, hb] at h
    exact ⟨y, h.symm⟩
theorem oneAt_ahead (s : List UInt8) (p : Nat) (hp : p < (aheadL s).length) : oneAt (aheadL s) p = oneAt s p := by
  rcases ahead_app s with h | ⟨y, h⟩
  · rw [h]
  · have hne : (aheadL s).drop p ≠ [] := fun e => by
      have := congrArg List.length e
      rw [List.length_drop, List.length_nil] at this
      omega
    unfold oneAt
    conv => rhs; rw [h, List.drop_append_of_le_length (by omega)]
    exact (dec_cut _ y 35 hne (by decide)).symm
theorem col_ahead (s : List UInt8) (at' : Nat) (hat : at' ≤ (aheadL s).length) (hle : (aheadL s).length ≤ s.length) : ∀ (k p : Nat), (aheadL s).length - p ≤ k → p ≤ (aheadL s).length → colN (aheadL s) p at' = colN s p at'
  | 0, p, hk, hp => by
    rw [col_past _ p _ (by omega), col_past _ p _ (by omega)]
  | k + 1, p, hk, hp => by
    by_cases h : p < at'
    · have hb := one_bounds (aheadL s) p (by omega)
      have e := oneAt_ahead s p (by omega)
      rw [col_step _ p _ (by omega), col_step s p _ (by omega), if_pos (by omega), if_pos (by omega), ← e, col_ahead s at' hat hle k _ (by omega) (by omega)]
    · rw [col_past _ p _ (by omega), col_past _ p _ (by omega)]
theorem ahead_len (s : List UInt8) : (aheadL s).length ≤ s.length := by
  rcases ahead_app s with h | ⟨y, h⟩
  · rw [h]; exact Nat.le_refl _
  · conv => rhs; rw [h]
    rw [List.length_append]
    omega
end Go.Proofs.YtphhgdgamnogpaaDoor

namespace Go.Proofs
open Go.Shelf
def Tryd.laysContains_ren : Go.Shelf.Ren := ⟨fun | 144 => 96 | 143 => 132 | 219 => 153 | 217 => 164 | 225 => 165 | 224 => 166 | 267 => 167 | 266 => 182 | 314 => 183 | n => n, fun | 9 => 9 | 4 => 4 | 3 => 3 | 5 => 5 | 46 => 187 | 146 => 218 | 51 => 215 | n => n, fun | 1 => 6 | n => n⟩
theorem Tryd.laysContains : Go.Proofs.Lays.n144 Tryd.prog Tryd.laysContains_ren := {
  mixed := by kernel_rfl
  f143 := Tryd.func132.trans (congrArg some (by kernel_rfl))
  f144 := Tryd.func96.trans (congrArg some (by kernel_rfl))
  f217 := Tryd.func164.trans (congrArg some (by kernel_rfl))
  f219 := Tryd.func153.trans (congrArg some (by kernel_rfl))
  f224 := Tryd.func166.trans (congrArg some (by kernel_rfl))
  f225 := Tryd.func165.trans (congrArg some (by kernel_rfl))
  f266 := Tryd.func182.trans (congrArg some (by kernel_rfl))
  f267 := Tryd.func167.trans (congrArg some (by kernel_rfl))
  f314 := Tryd.func183.trans (congrArg some (by kernel_rfl))
  t3 := Tryd.underlying3
  a3 := Tryd.isAgg3
  z3 := Tryd.sizeOf3
  v3 := Tryd.zeroValue3
  t4 := Tryd.underlying4
  a4 := Tryd.isAgg4
  z4 := Tryd.sizeOf4
  v4 := Tryd.zeroValue4
  t5 := Tryd.underlying5
  a5 := Tryd.isAgg5
  z5 := Tryd.sizeOf5
  v5 := Tryd.zeroValue5
  t9 := Tryd.underlying9
  a9 := Tryd.isAgg9
  z9 := Tryd.sizeOf9
  v9 := Tryd.zeroValue9
  t46 := Tryd.underlying187
  a46 := Tryd.isAgg187
  z46 := Tryd.sizeOf187
  v46 := Tryd.zeroValue187
  t51 := Tryd.underlying215
  a51 := Tryd.isAgg215
  z51 := Tryd.sizeOf215
  v51 := Tryd.zeroValue215
  t146 := Tryd.underlying218
  a146 := Tryd.isAgg218
  z146 := Tryd.sizeOf218
  v146 := Tryd.zeroValue218
  g1 := by kernel_rfl }
def Tryd.laysCut_ren : Go.Shelf.Ren := ⟨fun | 145 => 97 | 220 => 133 | 219 => 153 | 217 => 164 | 225 => 165 | 224 => 166 | 267 => 167 | 266 => 182 | 314 => 183 | n => n, fun | 9 => 9 | 4 => 4 | 59 => 147 | 3 => 3 | 5 => 5 | 46 => 187 | 146 => 218 | 51 => 215 | n => n, fun | 1 => 6 | n => n⟩
theorem Tryd.laysCut : Go.Proofs.Lays.n145 Tryd.prog Tryd.laysCut_ren := {
  mixed := by kernel_rfl
  f145 := Tryd.func97.trans (congrArg some (by kernel_rfl))
  f217 := Tryd.func164.trans (congrArg some (by kernel_rfl))
  f219 := Tryd.func153.trans (congrArg some (by kernel_rfl))
  f220 := Tryd.func133.trans (congrArg some (by kernel_rfl))
  f224 := Tryd.func166.trans (congrArg some (by kernel_rfl))
  f225 := Tryd.func165.trans (congrArg some (by kernel_rfl))
  f266 := Tryd.func182.trans (congrArg some (by kernel_rfl))
  f267 := Tryd.func167.trans (congrArg some (by kernel_rfl))
  f314 := Tryd.func183.trans (congrArg some (by kernel_rfl))
  t3 := Tryd.underlying3
  a3 := Tryd.isAgg3
  z3 := Tryd.sizeOf3
  v3 := Tryd.zeroValue3
  t4 := Tryd.underlying4
  a4 := Tryd.isAgg4
  z4 := Tryd.sizeOf4
  v4 := Tryd.zeroValue4
  t5 := Tryd.underlying5
  a5 := Tryd.isAgg5
  z5 := Tryd.sizeOf5
  v5 := Tryd.zeroValue5
  t9 := Tryd.underlying9
  a9 := Tryd.isAgg9
  z9 := Tryd.sizeOf9
  v9 := Tryd.zeroValue9
  t46 := Tryd.underlying187
  a46 := Tryd.isAgg187
  z46 := Tryd.sizeOf187
  v46 := Tryd.zeroValue187
  t51 := Tryd.underlying215
  a51 := Tryd.isAgg215
  z51 := Tryd.sizeOf215
  v51 := Tryd.zeroValue215
  t59 := Tryd.underlying147
  a59 := Tryd.isAgg147
  z59 := Tryd.sizeOf147
  v59 := Tryd.zeroValue147
  t146 := Tryd.underlying218
  a146 := Tryd.isAgg218
  z146 := Tryd.sizeOf218
  v146 := Tryd.zeroValue218
  g1 := by kernel_rfl }
def Tryd.laysJoin_ren : Go.Shelf.Ren := ⟨fun | 156 => 104 | 165 => 138 | 166 => 69 | 169 => 71 | 240 => 119 | 241 => 157 | 276 => 141 | 277 => 169 | n => n, fun | 31 => 61 | 9 => 9 | 3 => 3 | 4 => 4 | 0 => 0 | 20 => 20 | 72 => 106 | 76 => 109 | 70 => 103 | 37 => 104 | 75 => 108 | 127 => 165 | 164 => 190 | 5 => 5 | 80 => 112 | n => n, fun | n => n⟩
theorem Tryd.laysJoin : Go.Proofs.Lays.n156 Tryd.prog Tryd.laysJoin_ren := {
  mixed := by kernel_rfl
  f156 := Tryd.func104.trans (congrArg some (by kernel_rfl))
  f165 := Tryd.func138.trans (congrArg some (by kernel_rfl))
  f166 := Tryd.func69.trans (congrArg some (by kernel_rfl))
  f169 := Tryd.func71.trans (congrArg some (by kernel_rfl))
  f240 := Tryd.func119.trans (congrArg some (by kernel_rfl))
  f241 := Tryd.func157.trans (congrArg some (by kernel_rfl))
  f276 := Tryd.func141.trans (congrArg some (by kernel_rfl))
  f277 := Tryd.func169.trans (congrArg some (by kernel_rfl))
  t0 := Tryd.underlying0
  a0 := Tryd.isAgg0
  z0 := Tryd.sizeOf0
  v0 := Tryd.zeroValue0
  t3 := Tryd.underlying3
  a3 := Tryd.isAgg3
  z3 := Tryd.sizeOf3
  v3 := Tryd.zeroValue3
  t4 := Tryd.underlying4
  a4 := Tryd.isAgg4
  z4 := Tryd.sizeOf4
  v4 := Tryd.zeroValue4
  t9 := Tryd.underlying9
  a9 := Tryd.isAgg9
  z9 := Tryd.sizeOf9
  v9 := Tryd.zeroValue9
  t20 := Tryd.underlying20
  a20 := Tryd.isAgg20
  z20 := Tryd.sizeOf20
  v20 := Tryd.zeroValue20
  t31 := Tryd.underlying61
  a31 := Tryd.isAgg61
  z31 := Tryd.sizeOf61
  v31 := Tryd.zeroValue61
  t37 := Tryd.underlying104
  a37 := Tryd.isAgg104
  z37 := Tryd.sizeOf104
  v37 := Tryd.zeroValue104
  t70 := Tryd.underlying103
  a70 := Tryd.isAgg103
  z70 := Tryd.sizeOf103
  v70 := Tryd.zeroValue103
  t72 := Tryd.underlying106
  a72 := Tryd.isAgg106
  z72 := Tryd.sizeOf106
  v72 := Tryd.zeroValue106
  t75 := Tryd.underlying108
  a75 := Tryd.isAgg108
  z75 := Tryd.sizeOf108
  v75 := Tryd.zeroValue108
  t76 := Tryd.underlying109
  a76 := Tryd.isAgg109
  z76 := Tryd.sizeOf109
  v76 := Tryd.zeroValue109
  t127 := Tryd.underlying165
  a127 := Tryd.isAgg165
  z127 := Tryd.sizeOf165
  v127 := Tryd.zeroValue165
  t164 := Tryd.underlying190
  a164 := Tryd.isAgg190
  z164 := Tryd.sizeOf190
  v164 := Tryd.zeroValue190 }
/-- What strings.Builder's contracts ask beside. -/
theorem Tryd.extraJoin : Builder.Extra Tryd.prog Tryd.laysJoin_ren := {
  sizeBuilder := by kernel_rfl
  liesBuilder := by kernel_rfl
  t5 := Tryd.underlying5
  a5 := Tryd.isAgg5
  z5 := Tryd.sizeOf5
  v5 := Tryd.zeroValue5
  infoByte := by kernel_rfl
  cellsByte := by kernel_rfl
  sizeByte := by kernel_rfl
  neB5 := by decide }
end Go.Proofs

namespace Go.Proofs.YtphhgdgamnogpaaDoor
open Go.RowKit Go.Lib

/-! ### slices of words -/
/-- Words as cells. -/
def wcells (W : List (List UInt8 × Nat)) : List Value := W.flatMap fun x => [.string (bs x.1), .int .i64 (x.2 : Int)]
theorem wcells_snoc (W : List (List UInt8 × Nat)) (x : List UInt8) (n : Nat) : wcells W ++ [.string (bs x), .int .i64 (n : Int)] = wcells (W ++ [(x, n)]) := by simp [wcells]
theorem wcells_next (W : List (List UInt8 × Nat)) (x : List UInt8) (n : Nat) : wcells W ++ [.string (bs x), .int .i64 ((n : Int) + 1)] = wcells (W ++ [(x, n + 1)]) := by simp [wcells]
theorem wcells_at : ∀ (W : List (List UInt8 × Nat)) (j : Nat), j < W.length → (wcells W)[j * 2]? = some (.string (bs (W.getD j ([], 0)).1)) ∧ (wcells W)[j * 2 + 1]? = some (.int .i64 ((W.getD j ([], 0)).2 : Nat))
  | [], j, h => absurd h (Nat.not_lt_zero j)
  | x :: W, 0, _ => ⟨rfl, rfl⟩
  | x :: W, j + 1, h => by
    have := wcells_at W j (by simpa using h)
    have e : wcells (x :: W) = .string (bs x.1) :: .int .i64 (x.2 : Int) :: wcells W := by simp [wcells]
    rw [e, show (j + 1) * 2 = j * 2 + 1 + 1 by omega]
    simpa using this
def HasWords (w : World) (p : Option Addr) (W : List (List UInt8 × Nat)) : Prop :=
  ∀ j, j < W.length → ∃ g, p = some ⟨g, 0, none⟩ ∧ w.cell? ⟨g, j * 2, none⟩ = some (.string (bs (W.getD j ([], 0)).1)) ∧ w.cell? ⟨g, j * 2 + 1, none⟩ = some (.int .i64 ((W.getD j ([], 0)).2 : Nat))
theorem HasWords.below {w w' : World} {p : Option Addr} {W : List (List UInt8 × Nat)} (h : HasWords w p W) (hb : Below w.heap.size w w') : HasWords w' p W := fun j hj => by
  obtain ⟨g, hp, hc, hd⟩ := h j hj
  exact ⟨g, hp, cell_later hb hc, cell_later hb hd⟩
def Words (w : World) (v : Value) (W : List (List UInt8 × Nat)) : Prop := ∃ p cap, v = .slice p W.length cap ∧ HasWords w p W ∧ W.length ≤ cap ∧ cap ≤ maxLen
theorem words_none (w : World) : Words w (.slice none 0 0) [] := ⟨none, 0, rfl, fun j hj => absurd hj (Nat.not_lt_zero j), Nat.le_refl _, Nat.zero_le _⟩
theorem own_words {w : World} {B : Nat} {e : TypeId} {v : Value} {W : List (List UInt8 × Nat)} (h : w.ownsRow B e 2 v W.length (wcells W)) : Words w v W := by
  obtain ⟨-, ⟨h0, hn⟩ | ⟨g, cap, cur, hv, -, hw, hnc, hcm, -, ht⟩⟩ := h
  · have : W = [] := List.eq_nil_of_length_eq_zero hn
    subst this h0
    exact words_none w
  · refine ⟨_, cap, hv, fun j hj => ⟨g, rfl, ?_, ?_⟩, hnc, hcm⟩
    · have h1 := congrArg (fun x : List Value => x[j * 2]?) ht
      simp only [List.getElem?_take, show j * 2 < W.length * 2 by omega, if_true, Array.getElem?_toList] at h1
      rw [cell_of_row w g (j * 2) _ _ (0, 0) hw, h1]
      exact (wcells_at W j hj).1
    · have h1 := congrArg (fun x : List Value => x[j * 2 + 1]?) ht
      simp only [List.getElem?_take, show j * 2 + 1 < W.length * 2 by omega, if_true, Array.getElem?_toList] at h1
      rw [cell_of_row w g (j * 2 + 1) _ _ (0, 0) hw, h1]
      exact (wcells_at W j hj).2
theorem info_word : (Tryd.prog.info? 86).map (fun i => (i.zero, i.size, i.bytes)) = some (some (.agg #[.string ByteArray.empty, .int .i64 0]), 2, 24) := by kernel_rfl
theorem info_rword : (Tryd.prog.info? 153).map (fun i => (i.zero, i.size, i.bytes)) = some (some (.agg #[.string ByteArray.empty, .int .i64 0]), 2, 24) := by kernel_rfl

/-! ### the library's functions -/
theorem sblank_any (c : Nat) (w : World) :
    Calls Tryd.prog 98 #[.int .i32 c] w fun e w' => e = .returned (.bool (blankR c)) ∧ w = w' := by
  go_enter Tryd.func98, Tryd.ntmps98
  go_wp2
  all_goals
    go_ret
    refine ⟨?_, rfl⟩
    unfold blankR
    refine congrArg (fun b => Ending.returned (Value.bool b)) ?_
    rw [Bool.eq_iff_iff]
    simp
    try omega
/-- Has a text a line feed? -/
def hasFeed (s : List UInt8) : Bool := decide (0 ≤ index s [10])
theorem contains_any (l : List UInt8) (hs : l.length ≤ 1000000) (w : World) (hm : HasMax w) :
    Calls Tryd.prog 96 #[.string (bs l), .string (bs [10])] w fun e w' => e = .returned (.bool (hasFeed l)) ∧ w = w' := by
  obtain ⟨m, hm⟩ := hm
  have h := Any.strings_Contains Tryd.laysContains (bs l) (bs [10]) m w (by rw [bs_size]; omega) hm
  rw [bs_list, bs_list] at h
  exact h.mono fun _ _ ⟨a, b⟩ => ⟨a, b.symm⟩
theorem feed_at (l : List UInt8) : hasFeed l = l.any (fun b => decide (b = 10)) := by
  unfold hasFeed
  induction l with
  | nil => simp [index]
  | cons b t ih =>
    by_cases hb : b = 10
    · subst hb
      have hi : index ((10 : UInt8) :: t) [10] = 0 := by rw [index]; simp [List.isPrefixOf]
      rw [hi]
      simp
    · rw [index_cons_ne b t hb]
      have hge := index_ge t [10]
      simp only [List.any_cons, hb, decide_false, Bool.false_or]
      rw [← ih]
      by_cases hm : index t [10] = -1
      · rw [hm]; decide
      · have hm' : ¬ (index t [10] == -1) = true := fun e => hm (beq_iff_eq.1 e)
        rw [if_neg hm']
        simp only [decide_eq_decide]
        omega
theorem index35_ne (b : UInt8) (l : List UInt8) (h : b ≠ 35) : index (b :: l) [35] = if index l [35] == -1 then -1 else index l [35] + 1 := by
  have hp : ([35] : List UInt8).isPrefixOf (b :: l) = false := by simp [List.isPrefixOf, Ne.symm h]
  rw [index, hp]
  simp
theorem index35 : ∀ l : List UInt8, (index l [35] = -1 ∧ aheadL l = l) ∨ (index l [35] = (aheadL l).length ∧ (aheadL l).length < l.length)
  | [] => .inl ⟨by simp [index], rfl⟩
  | b :: t => by
    by_cases hb : b = 35
    · subst hb
      right
      have hi : index ((35 : UInt8) :: t) [35] = 0 := by rw [index]; simp [List.isPrefixOf]
      rw [hi]
      simp [aheadL]
    · have e : aheadL (b :: t) = b :: aheadL t := by simp [aheadL, hb]
      rw [index35_ne b t hb, e]
      rcases index35 t with ⟨h1, h2⟩ | ⟨h1, h2⟩
      · left
        rw [h1, h2]
        exact ⟨rfl, rfl⟩
      · right
        have hm' : ¬ (((aheadL t).length : Int) == -1) = true := fun e => by have := beq_iff_eq.1 e; omega
        rw [h1, if_neg hm']
        simp only [List.length_cons]
        omega
theorem ahead_take (l : List UInt8) : aheadL l = l.take (aheadL l).length := by
  rcases ahead_app l with h | ⟨y, h⟩
  · rw [h, List.take_length]
  · have e := congrArg (List.take (aheadL l).length) h
    rw [List.take_left] at e
    exact e.symm
theorem cut_any (l : List UInt8) (hs : l.length ≤ 1000000) (w : World) (hm : HasMax w) :
    Calls Tryd.prog 97 #[.string (bs l), .string (bs [35])] w fun e w' => e = .returned (.tuple #[.string (bs (aheadL l)), .string (bs (l.drop ((aheadL l).length + 1))), .bool (decide ((aheadL l).length < l.length))]) ∧ ∃ n, w' = w.drewN n := by
  obtain ⟨m, hm⟩ := hm
  have h := Any.strings_Cut Tryd.laysCut (bs l) (bs [35]) m w (by rw [bs_size]; omega) hm
  rw [bs_list, bs_list] at h
  have e : cut l [35] = (aheadL l, l.drop ((aheadL l).length + 1), decide ((aheadL l).length < l.length)) := by
    unfold cut
    rcases index35 l with ⟨h1, h2⟩ | ⟨h1, h2⟩
    · rw [h1, h2, if_neg (by decide), List.drop_eq_nil_of_le (by omega), decide_eq_false (Nat.lt_irrefl _)]
    · rw [h1, if_pos (by omega), show ((aheadL l).length : Int).toNat = (aheadL l).length by omega, ← ahead_take, decide_eq_true h2]
      rfl
  rw [e] at h
  exact h

/-! ### the program's words -/
/-- A place that may be none, as the program keeps it. -/
def frV : Option Nat → Value
  | some f => .int .i64 (f : Int)
  | none => .int .i64 (-1)
/-- The words of a line, and the error. -/
def wordsR (s : List UInt8) : List (List UInt8 × Nat) × Nat := if validD s && !hasFeed s then (wordsL (aheadL s), 0) else ([], 5)
theorem scan_len (l : List UInt8) : ∀ (n i : Nat) (fr : Option Nat), (scanGo l n i fr).length ≤ n + 1
  | 0, i, fr => by cases fr <;> simp [scanGo]
  | n + 1, i, fr => by
    unfold scanGo
    split
    · cases fr with
      | none => have := scan_len l n (i + 1) none; simp only; omega
      | some f => have := scan_len l n (i + 1) none; simp only [List.length_cons]; omega
    · have := scan_len l n (i + 1) (some (fr.getD i)); omega

/-- The program's state over a line's runes. -/
def WordsAt (t : List UInt8) (w wr : World) (k0 : Nat) (v fr fi n : Value) (R : List (Nat × Nat)) : Prop :=
  ∃ p k : Nat, ∃ st : Option Nat, ∃ done : List (Nat × Nat), p ≤ t.length ∧ k ≤ p ∧ n = .int .i64 k ∧ fr = frV st ∧ (∀ f, st = some f → f ≤ p ∧ fi = .int .i64 ((colN t 0 f + 1 : Nat) : Int)) ∧
    wr.ownsRow (k0 + 1) 86 2 v done.length (wcells (done.map (wordAt t))) ∧ wr.heap[k0]? = some (.stringIter (bs t) p) ∧ Below w.heap.size w wr ∧ k0 < wr.heap.size ∧
    RunesTo t p k ∧ R = done ++ scanGo t (t.length - p) p st ∧ done.length ≤ p

set_option maxRecDepth 100000 in
set_option maxHeartbeats 2000000 in
theorem swords_any (s : List UInt8) (hs : s.length ≤ 1000000) (w : World) (hm : HasMax w) :
    Calls Tryd.prog 52 #[.string (bs s)] w fun e w' => ∃ v, e = .returned (.tuple #[v, .int .i64 ((wordsR s).2 : Nat)]) ∧ Words w' v (wordsR s).1 ∧ Below w.heap.size w w' := by
  have HC := Lib.hid (lrunes_any s hs)
  have hv := runesN_snd s
  generalize runesN s = N at *
  obtain ⟨N1, N2⟩ := N
  simp only at HC hv
  subst hv
  have HF := Lib.hid (contains_any s hs)
  have HX := Lib.hid (cut_any s hs)
  have HM := Lib.hid hm
  clear hm
  have eR : wordsR s = if validD s && !hasFeed s then (wordsL (aheadL s), 0) else ([], 5) := rfl
  rw [eR]
  clear eR
  have hlen := ahead_len s
  generalize validD s = V at *
  generalize hasFeed s = F at *
  cases V with
  | false =>
    go_enter Tryd.func52, Tryd.ntmps52
    go_wp2_with fail
    refine (HC.out _).mono ?_
    rintro e w1 ⟨rfl, hb1⟩
    go_wp2_with fail
    go_ret2
    exact ⟨_, rfl, words_none _, hb1⟩
  | true =>
    cases F with
    | true =>
      go_enter Tryd.func52, Tryd.ntmps52
      go_wp2_with fail
      refine (HC.out _).mono ?_
      rintro e w1 ⟨rfl, hb1⟩
      have HM1 := Lib.hid (HM.out.below hb1)
      go_wp2_with fail
      refine (HF.out _ HM1.out).mono ?_
      rintro e w' ⟨rfl, rfl⟩
      go_wp2_with fail
      go_ret2
      exact ⟨_, rfl, words_none _, hb1⟩
    | false =>
      show Calls _ _ _ _ fun e w' => ∃ v, e = .returned (.tuple #[v, .int .i64 ((0 : Nat) : Int)]) ∧ Words w' v (wordsL (aheadL s)) ∧ Below w.heap.size w w'
      have hlt : (aheadL s).length ≤ 1000000 := by omega
      generalize aheadL s = t at *
      obtain ⟨R, hR⟩ : ∃ R, scanL t = R := ⟨_, rfl⟩
      have eW : wordsL t = R.map (wordAt t) := by rw [← hR]; rfl
      rw [eW]
      have HR := Lib.hid hR
      clear hR eW hlen
      obtain ⟨i0, hi, hz0, hz1, hz2⟩ := info_parts info_word
      go_enter Tryd.func52, Tryd.ntmps52
      go_wp2_with fail
      refine (HC.out _).mono ?_
      rintro e w1 ⟨rfl, hb1⟩
      have HM1 := Lib.hid (HM.out.below hb1)
      go_wp2_with fail
      refine (HF.out _ HM1.out).mono ?_
      rintro e w' ⟨rfl, rfl⟩
      go_wp2_with fail
      refine (HX.out _ HM1.out).mono ?_
      rintro e w2 ⟨rfl, q, rfl⟩
      have hb2 : Below w.heap.size w (w1.drewN q) := hb1.trans ⟨rfl, rfl, rfl, Nat.le_refl _, fun _ _ => rfl⟩
      go_wp2_with fail
      go_loopw [6, 7, 8, 9] (fun v fr fi n wr => WordsAt t w wr w1.heap.size v fr fi n R) (fun _ _ _ _ wr => t.length - wr.iterPos w1.heap.size)
      case atStart =>
        refine ⟨0, 0, none, [], Nat.zero_le _, Nat.le_refl _, rfl, rfl, (fun f hf => by cases hf), World.ownsRow_nil _ _ _ _, ?_, hb2.alloc (by have := hb1.size; simpa using this) _, by simp [World.iter], runesTo_start t, by rw [← HR.out]; rfl, Nat.le_refl _⟩
        have h5 := World.iter_heap (w1.drewN q) (bs t) 0
        exact h5
      case round =>
        obtain ⟨p, k, st, done, hp, hkp, rfl, rfl, hfi, hown, hit, hbw, hk0, hrt, hR, hdl⟩ := hrel
        have HFI := Lib.hid hfi
        have HRT := Lib.hid hrt
        have HRR := Lib.hid hR
        clear hfi hrt hR
        by_cases hlt : p < t.length
        · have hb := one_bounds t p hlt
          have hnx := fun ty => run_next_any_at (P := Tryd.prog) wr w1.heap.size (bs t) p ty hit (by rw [bs_size]; exact hlt)
          rw [← decodeL_drop, bs_list] at hnx
          have eo : decodeL (t.drop p) = oneAt t p := rfl
          rw [eo] at hnx
          have hit2 := iterAt_heap wr w1.heap.size (bs t) p (p + (oneAt t p).2) hit
          have hbw2 := below_iterAt hbw (k := w1.heap.size) (by have := hb1.size; omega) (bs t) (p + (oneAt t p).2)
          have hown' := ownsRow_iterAt hown (k := w1.heap.size) (by omega) (bs t) (p + (oneAt t p).2)
          have hsz := iterAt_size wr w1.heap.size (bs t) (p + (oneAt t p).2)
          obtain ⟨sr1, sr2⟩ := scan_rune t p st hlt
          have hrt2 := Lib.hid (runesTo_step t p k hlt HRT.out)
          have hcol := runesTo_col t p k HRT.out
          have hle : (oneAt t p).1 ≤ 1114111 := decodeL_rune _
          have HB := Lib.hid (sblank_any (oneAt t p).1)
          obtain ⟨D, hD⟩ : ∃ D, oneAt t p = D := ⟨_, rfl⟩
          rw [hD] at hb hnx hit2 hbw2 hown' sr1 sr2 hrt2 hle HB hsz
          obtain ⟨WW, hWW⟩ : ∃ WW, wr.iterAt w1.heap.size (bs t) (p + D.2) = WW := ⟨_, rfl⟩
          rw [hWW] at hnx hit2 hbw2 hown' hsz
          have hpos : WW.iterPos w1.heap.size = p + D.2 := iterPos_of hit2
          have hpos0 : wr.iterPos w1.heap.size = p := iterPos_of hit
          have hk1 : w1.heap.size < WW.heap.size := by omega
          have hk2 := hbw2.size
          clear eo hD hWW hown hit hbw hsz
          cases hbl : blankR D.1 with
          | true =>
            rw [hbl] at HB
            have hs1 := Lib.hid (sr1 hbl)
            clear sr1 sr2 hbl
            cases st with
            | none =>
              have hR2 := Lib.hid (HRR.out.trans (congrArg (done ++ ·) hs1.out))
              clear HRR hs1
              simp only [frV, pushed, List.nil_append] at hR2 ⊢
              go_wp2_with (go_at_call 98; refine (HB.out _).mono ?_; rintro e w3 ⟨rfl, rfl⟩)
              go_roundw
              case rel => exact ⟨p + D.2, k + 1, none, done, hb.2, by omega, by go_num, rfl, (fun f hf => by cases hf), hown', hit2, hbw2, hk1, hrt2.out, hR2.out, by omega⟩
              case measure => rw [hpos, hpos0]; omega
            | some f =>
              obtain ⟨hfp, rfl⟩ := HFI.out f rfl
              have hR2 := Lib.hid (HRR.out.trans (congrArg (done ++ ·) hs1.out))
              clear HRR hs1 HFI
              simp only [frV, pushed] at hR2 ⊢
              go_wp2_with (first
                | (go_at_call 98; refine (HB.out _).mono ?_; rintro e w3 ⟨rfl, rfl⟩)
                | (at_builtin; refine wpList_append_own _ rfl _ _ 81 rfl (w1.heap.size + 1) 86 i0 (.agg #[.string ByteArray.empty, .int .i64 0]) 2 24 Tryd.underlying81 hi hz0 hz1 hz2 rfl (by decide) _ _ _ rfl (hown'.alloc _) ⟨WW.heap.size, 0, none⟩ 1 1 [.string (bs (curL t f p)), .int .i64 ((colN t 0 f + 1 : Nat) : Int)] rfl rfl ?c1 ?c2 ?c3 ?c4 ?c5 ?_))
              case c1 =>
                intro j u hj
                match j, hj with
                | 0, hj => simp at hj; subst hj; simp [Addr.add, curL]
                | 1, hj => simp at hj; subst hj; simp [Addr.add]
              case c2 => intro u hu; simp at hu; rcases hu with rfl | rfl <;> rfl
              case c3 => unfold maxLen; omega
              case c4 => omega
              case c5 => simp; omega
              · intro v' w4 hown4 hgrow hnil
                have hlow := hown'.lt
                have hit4 : w4.heap[w1.heap.size]? = some (.stringIter (bs t) (p + D.2)) := by
                  rw [hgrow.block w1.heap.size (by simp; omega) (fun e => by have := (hlow _ e.symm).1; omega), heap_alloc_old WW _ hk1]
                  exact hit2
                have hb4 : Below w.heap.size w w4 := (hbw2.alloc hk2 _).grown hgrow (by simp; omega) (fun k hk => by have := (hlow k hk).1; have := hb1.size; omega)
                have hk4 : w1.heap.size < w4.heap.size := by have := hgrow.size; simp at this; omega
                have hpos4 : w4.iterPos w1.heap.size = p + D.2 := iterPos_of hit4
                have HO := Lib.hid hown4
                clear hown4 hnil hit2 hbw2 hown' hgrow hlow
                go_wp2_with fail
                go_roundw
                case rel =>
                  refine ⟨p + D.2, k + 1, none, done ++ [(f, p)], hb.2, by omega, by go_num, rfl, (fun f hf => by cases hf), ?_, hit4, hb4, hk4, hrt2.out, by rw [hR2.out]; simp, by simp; omega⟩
                  have h5 := HO.out
                  rw [wcells_next] at h5
                  simpa [wordAt] using h5
                case measure => rw [hpos4, hpos0]; omega
          | false =>
            rw [hbl] at HB
            have hs2 := Lib.hid (sr2 hbl)
            clear sr1 sr2 hbl
            cases st with
            | none =>
              have hR2 := Lib.hid (HRR.out.trans (congrArg (done ++ ·) hs2.out))
              clear HRR hs2
              simp only [frV, Option.getD_none] at hR2 ⊢
              go_wp2_with (go_at_call 98; refine (HB.out _).mono ?_; rintro e w3 ⟨rfl, rfl⟩)
              go_roundw
              case rel => exact ⟨p + D.2, k + 1, some p, done, hb.2, by omega, by go_num, rfl, (fun f hf => by obtain rfl := Option.some.inj hf; exact ⟨by omega, by rw [hcol]; go_num⟩), hown', hit2, hbw2, hk1, hrt2.out, hR2.out, by omega⟩
              case measure => rw [hpos, hpos0]; omega
            | some f =>
              obtain ⟨hfp, rfl⟩ := HFI.out f rfl
              have hR2 := Lib.hid (HRR.out.trans (congrArg (done ++ ·) hs2.out))
              clear HRR hs2 HFI
              simp only [frV, Option.getD_some] at hR2 ⊢
              go_wp2_with (go_at_call 98; refine (HB.out _).mono ?_; rintro e w3 ⟨rfl, rfl⟩)
              go_roundw
              case rel => exact ⟨p + D.2, k + 1, some f, done, hb.2, by omega, by go_num, rfl, (fun g hg => by obtain rfl := Option.some.inj hg; exact ⟨by omega, rfl⟩), hown', hit2, hbw2, hk1, hrt2.out, hR2.out, by omega⟩
              case measure => rw [hpos, hpos0]; omega
        · have hnx := fun ty => run_next_end_at (P := Tryd.prog) wr w1.heap.size (bs t) p ty hit (by rw [bs_size]; exact hlt)
          have hep : p = t.length := by omega
          have hR2 := Lib.hid (HRR.out.trans (congrArg (done ++ ·) (scan_end t p st (by omega))))
          subst hep
          clear HRR
          cases st with
          | none =>
            simp only [frV, pushed, List.append_nil] at hR2 ⊢
            go_wp2_with fail
            go_ret2
            rw [hR2.out]
            exact ⟨_, rfl, own_words (by rw [List.length_map]; exact hown), hbw⟩
          | some f =>
            obtain ⟨hfp, rfl⟩ := HFI.out f rfl
            simp only [frV, pushed] at hR2 ⊢
            go_wp2_with (at_builtin; refine wpList_append_own _ rfl _ _ 81 rfl (w1.heap.size + 1) 86 i0 (.agg #[.string ByteArray.empty, .int .i64 0]) 2 24 Tryd.underlying81 hi hz0 hz1 hz2 rfl (by decide) _ _ _ rfl (hown.alloc _) ⟨wr.heap.size, 0, none⟩ 1 1 [.string (bs (curL t f t.length)), .int .i64 ((colN t 0 f + 1 : Nat) : Int)] rfl rfl ?c1 ?c2 ?c3 ?c4 ?c5 ?_)
            case c1 =>
              intro j u hj
              match j, hj with
              | 0, hj => simp at hj; subst hj; simp [Addr.add, curL]
              | 1, hj => simp at hj; subst hj; simp [Addr.add]
            case c2 => intro u hu; simp at hu; rcases hu with rfl | rfl <;> rfl
            case c3 => unfold maxLen; omega
            case c4 => omega
            case c5 => simp; omega
            · intro v' w4 hown4 hgrow hnil
              have HO := Lib.hid hown4
              clear hown4 hnil
              go_wp2_with fail
              go_ret2
              rw [hR2.out]
              refine ⟨_, rfl, own_words (B := w1.heap.size + 1) (e := 86) ?_, ?_⟩
              · have h5 := HO.out
                rw [wcells_next] at h5
                simpa [wordAt] using h5
              · exact (hbw.alloc hbw.size _).grown hgrow (by have := hbw.size; simp; omega) (fun k hk => by have := (hown.lt k hk).1; have := hb1.size; omega)
end Go.Proofs.YtphhgdgamnogpaaDoor

namespace Go.Proofs.YtphhgdgamnogpaaDoor
open Go.RowKit Go.Lib

theorem news_word (w : World) (x : ByteArray) (n : Int) (e : TypeId) : ∀ (j : Nat) (u : Value), ([.string x, .int .i64 n] : List Value)[j]? = some u → (w.alloc (.cells #[.string x, .int .i64 n] e)).cell? ((⟨w.heap.size, 0, none⟩ : Addr).add j) = some u := by
  intro j u hj
  match j, hj with
  | 0, hj => simp at hj; subst hj; simp [Addr.add]
  | 1, hj => simp at hj; subst hj; simp [Addr.add]
theorem ones_word (x : ByteArray) (n : Int) : ∀ u ∈ ([.string x, .int .i64 n] : List Value), u.oneCell' = true := by
  intro u hu
  simp at hu
  rcases hu with rfl | rfl <;> rfl
theorem wrap_one (n : Nat) (h : n ≤ 1000000) : IntKind.i64.wrap ((n : Int) + 1) = (n : Int) + 1 := IntWalk.i64_in _ (by omega)
theorem ahead_none (s : List UInt8) : ∀ i, i ≤ s.length → (∀ j, j < i → s.getD j 0 ≠ 35) → (i = s.length → aheadL s = s) ∧ (∀ h : i < s.length, s[i] = 35 → aheadL s = s.take i) := by
  induction s with
  | nil => intro i _ _; exact ⟨fun _ => rfl, fun h => absurd h (Nat.not_lt_zero i)⟩
  | cons b t ih =>
    intro i hi hn
    cases i with
    | zero =>
      refine ⟨fun h => by simp at h, fun h hb => ?_⟩
      have hb' : b = 35 := hb
      simp [aheadL, hb']
    | succ i =>
      have h0 := hn 0 (Nat.succ_pos i)
      have hb : b ≠ 35 := h0
      have e : aheadL (b :: t) = b :: aheadL t := by simp [aheadL, hb]
      obtain ⟨h1, h2⟩ := ih i (by simpa using hi) (fun j hj => by have := hn (j + 1) (by omega); simpa using this)
      refine ⟨fun h => by rw [e, h1 (by simpa using h)], fun h hx => ?_⟩
      rw [e, h2 (by simpa using h) (by simpa using hx)]
      rfl

set_option maxRecDepth 100000 in
set_option maxHeartbeats 1000000 in
theorem rahead_any (s : List UInt8) (hs : s.length ≤ 1000000) (w : World) :
    Calls Tryd.prog 101 #[.string (bs s)] w fun e w' => e = .returned (.string (bs (aheadL s))) ∧ w = w' := by
  have HA := Lib.hid (ahead_none s)
  generalize aheadL s = t at *
  go_enter Tryd.func101, Tryd.ntmps101
  go_wp2_with fail
  go_loop [3] (fun v => ∃ i : Nat, i ≤ s.length ∧ v = .int .i64 i ∧ ∀ j, j < i → s.getD j 0 ≠ 35) (fun v => s.length - (RowKit.intOf v).toNat)
  case atStart => exact ⟨0, Nat.zero_le _, rfl, fun j hj => absurd hj (Nat.not_lt_zero j)⟩
  case round =>
    obtain ⟨i, hi, rfl, hn⟩ := hrel
    have HN := Lib.hid hn
    clear hn
    by_cases hlt : i < s.length
    · by_cases hb : s[i] = 35
      · have e1 : ((s[i].toNat : Int) == 35) = true := by rw [hb]; rfl
        have H2 := Lib.hid ((HA.out i hi HN.out).2 hlt hb)
        clear hb
        go_wp2_with fail
        go_ret
        exact ⟨by rw [H2.out]; rfl, rfl⟩
      · have e1 : ((s[i].toNat : Int) == 35) = false := by
          rw [beq_eq_false_iff_ne]
          intro h
          exact hb (UInt8.toNat_inj.1 (by simpa using (by omega : s[i].toNat = 35)))
        have H2 : RowKit.Hid (∀ j, j < i + 1 → s.getD j 0 ≠ 35) := Lib.hid (by
          intro j hj
          by_cases hji : j < i
          · exact HN.out j hji
          · obtain rfl : j = i := by omega
            rw [getD_at s j hlt]
            exact hb)
        clear hb
        go_wp2_with fail
        go_round
        case rel => exact ⟨i + 1, by omega, by go_num, H2.out⟩
        case measure => simp [RowKit.intOf]; omega
    · have hie : i = s.length := by omega
      have H2 := Lib.hid ((HA.out i hi HN.out).1 hie)
      subst hie
      clear hlt
      go_wp2_with fail
      go_ret
      exact ⟨by rw [H2.out]; rfl, rfl⟩

/-- The reference's way over a line's bytes, the line's end counted. -/
def refW (t : List UInt8) (done : List (Nat × Nat)) (i : Nat) (st : Option Nat) : List (Nat × Nat) := if i ≤ t.length then done ++ scanGo t (t.length - i) i st else done
theorem refW_blank (t : List UInt8) (done : List (Nat × Nat)) (i : Nat) (st : Option Nat) (h : i = t.length ∨ ∃ h : i < t.length, blankB t[i] = true) : refW t done i st = refW t (done ++ pushed st i) (i + 1) none := by
  unfold refW
  rcases h with h | ⟨h, hb⟩
  · rw [if_pos (by omega), if_neg (by omega), scan_end t i st (by omega)]
  · rw [if_pos (by omega), if_pos (by omega), scan_blank t i st h hb, List.append_assoc]
theorem refW_go (t : List UInt8) (done : List (Nat × Nat)) (i : Nat) (st : Option Nat) (h : i < t.length) (hb : blankB t[i] = false) : refW t done i st = refW t done (i + 1) (some (st.getD i)) := by
  unfold refW
  rw [if_pos (by omega), if_pos (by omega), scan_go t i st h hb]
theorem any_drop (s : List UInt8) (i : Nat) (h : i < s.length) : (s.drop i).any (fun b => decide (b = 10)) = (decide (s[i] = 10) || (s.drop (i + 1)).any (fun b => decide (b = 10))) := by
  rw [List.drop_eq_getElem_cons h, List.any_cons]
theorem colT_ahead (s : List UInt8) (f : Nat) (hv : validD s = true) (hf : f ≤ (aheadL s).length) : colT s f = colN (aheadL s) 0 f := by
  unfold colT
  rw [if_pos hv]
  exact (col_ahead s f hf (ahead_len s) _ 0 (Nat.le_refl _) (Nat.zero_le _)).symm

set_option maxRecDepth 100000 in
set_option maxHeartbeats 2000000 in
theorem rwords_any (s : List UInt8) (hs : s.length ≤ 1000000) (w : World) :
    Calls Tryd.prog 55 #[.string (bs s)] w fun e w' => ∃ v, e = .returned (.tuple #[v, .int .i64 ((wordsR s).2 : Nat)]) ∧ Words w' v (wordsR s).1 ∧ Below w.heap.size w w' := by
  have HC := Lib.hid (rrunes_any s hs)
  have hv := runesN_snd s
  generalize runesN s = N at *
  obtain ⟨N1, N2⟩ := N
  simp only at HC hv
  subst hv
  have HA := Lib.hid (rahead_any s hs)
  have HZ := Lib.hid (rcolumn_any s hs)
  have HCol := Lib.hid (colT_ahead s)
  have eR : wordsR s = if validD s && !hasFeed s then (wordsL (aheadL s), 0) else ([], 5) := rfl
  rw [eR]
  clear eR
  have hlen := ahead_len s
  have hF := feed_at s
  generalize hasFeed s = F at *
  generalize validD s = V at *
  cases V with
  | false =>
    go_enter Tryd.func55, Tryd.ntmps55
    go_wp2_with fail
    refine (HC.out _).mono ?_
    rintro e w1 ⟨rfl, rfl⟩
    go_wp2_with fail
    go_ret2
    exact ⟨_, rfl, words_none _, Below.refl _ _⟩
  | true =>
    have HCol2 := Lib.hid (fun f hf => HCol.out f rfl hf)
    clear HCol
    have HF := Lib.hid hF.symm
    have hlt0 : (aheadL s).length ≤ 1000000 := by omega
    clear hF hlen
    generalize aheadL s = t at *
    obtain ⟨R, hR⟩ : ∃ R, scanL t = R := ⟨_, rfl⟩
    have eW : wordsL t = R.map (wordAt t) := by rw [← hR]; rfl
    rw [eW]
    have HR : RowKit.Hid (refW t [] 0 none = R) := Lib.hid (by rw [← hR]; rfl)
    clear hR eW
    obtain ⟨i0, hi, hz0, hz1, hz2⟩ := info_parts info_rword
    go_enter Tryd.func55, Tryd.ntmps55
    go_wp2_with fail
    refine (HC.out _).mono ?_
    rintro e w1 ⟨rfl, rfl⟩
    go_wp2_with fail
    go_loop [6] (fun v => ∃ i : Nat, i ≤ s.length ∧ v = .int .i64 i ∧ (s.drop i).any (fun b => decide (b = 10)) = F) (fun v => s.length - (RowKit.intOf v).toNat)
    case atStart => exact ⟨0, Nat.zero_le _, rfl, HF.out⟩
    case round =>
      obtain ⟨i, hi', rfl, hn⟩ := hrel
      by_cases hlt : i < s.length
      · rw [any_drop s i hlt] at hn
        by_cases hb : s[i] = 10
        · have e1 : ((s[i].toNat : Int) == 10) = true := by rw [hb]; rfl
          have hFt : F = true := by rw [← hn]; simp [hb]
          subst hFt
          clear hb hn
          go_wp2_with fail
          go_ret2
          exact ⟨_, rfl, words_none _, Below.refl _ _⟩
        · have e1 : ((s[i].toNat : Int) == 10) = false := by
            rw [beq_eq_false_iff_ne]
            intro h
            exact hb (UInt8.toNat_inj.1 (by simpa using (by omega : s[i].toNat = 10)))
          have H2 : RowKit.Hid ((s.drop (i + 1)).any (fun b => decide (b = 10)) = F) := Lib.hid (by rw [← hn]; simp [hb])
          clear hb hn
          go_wp2_with fail
          go_round
          case rel => exact ⟨i + 1, by omega, by go_num, H2.out⟩
          case measure => simp [RowKit.intOf]; omega
      · rw [List.drop_eq_nil_of_le (by omega)] at hn
        have hFf : F = false := hn.symm
        subst hFf
        clear hn
        go_wp2_with fail
        refine (HA.out _).mono ?_
        rintro e w1 ⟨rfl, rfl⟩
        go_wp2_with fail
        go_loopw [8, 9, 10] (fun v fr n wr => ∃ i : Nat, ∃ st : Option Nat, ∃ done : List (Nat × Nat), i ≤ t.length + 1 ∧ n = .int .i64 i ∧ fr = frV st ∧ (∀ f, st = some f → f < i ∧ f < t.length) ∧ wr.ownsRow w.heap.size 153 2 v done.length (wcells (done.map (wordAt t))) ∧ Below w.heap.size w wr ∧ refW t done i st = R ∧ done.length ≤ i ∧ (t.length < i → st = none))
          (fun _ _ n _ => t.length + 1 - (RowKit.intOf n).toNat)
        case atStart =>
          exact ⟨0, none, [], Nat.zero_le _, rfl, rfl, (fun f hf => by cases hf), World.ownsRow_made w #[] 0 (Nat.le_refl _) (Nat.zero_le _) rfl, (Below.refl _ _).alloc (Nat.le_refl _) _, HR.out, Nat.le_refl _, fun _ => rfl⟩
        case round =>
          obtain ⟨i, st, done, hi', rfl, rfl, hst, hown, hbw, hr, hdl, hend⟩ := hrel
          by_cases hle : i ≤ t.length
          · by_cases hte : i = t.length
            · have e1 : ((i : Int) == (t.length : Int)) = true := beq_iff_eq.2 (by omega)
              rw [refW_blank t done i st (.inl hte)] at hr
              cases st with
              | none =>
                simp only [frV, pushed, List.append_nil] at hr ⊢
                have H2 := Lib.hid hr
                clear hr hst hend
                go_wp2_with fail
                go_roundw
                case rel => exact ⟨i + 1, none, done, by omega, by go_num, rfl, (fun f hf => by cases hf), hown, hbw, H2.out, by omega, fun _ => rfl⟩
                case measure => simp [RowKit.intOf]; omega
              | some f =>
                obtain ⟨hf1, hf2⟩ := hst f rfl
                have hf3 : f ≤ t.length := by omega
                have hf4 : f ≤ i := by omega
                simp only [frV, pushed] at hr ⊢
                have H2 := Lib.hid hr
                have hcol := HCol2.out f (by omega)
                have HZ2 := Lib.hid (HZ.out f)
                rw [hcol] at HZ2
                have hc1 : colN t 0 f ≤ 1000000 := Nat.le_trans (col_le t f _ 0 (Nat.le_refl _)) (by omega)
                clear hr hst hend hcol
                go_wp2_with fail
                have hown2 : wr.drew.ownsRow w.heap.size 153 2 _ done.length (wcells (done.map (wordAt t))) := hown
                go_region_held3 (fun _ => True) (trivial)
                  (first
                    | (go_at_call 102; refine (HZ2.out _).mono ?_; rintro e w' ⟨rfl, rfl⟩)
                    | ((refine step_append_lies _ (by rfl) _ _ 89 (by rfl) w.heap.size 153 i0 (.agg #[.string ByteArray.empty, .int .i64 0]) 2 24 Tryd.underlying89 hi hz0 hz1 hz2 rfl (by decide) _ done.length (wcells (done.map (wordAt t))) (by rfl) (hown2.alloc _) ⟨wr.drew.heap.size, 0, none⟩ 1 1 [_, _] (by rfl) rfl (news_word _ _ _ _) (ones_word _ _) (by decide) (by unfold maxLen; omega) (by omega) (by have := hbw.size; simp; omega) _ rfl ?_); intro g cap w1 hown4 hgrow hat hlt))
                rw [wrap_one _ hc1, wcells_next] at hown4
                have hb4 : Below w.heap.size w w1 := (hbw.drew.alloc (by have := hbw.size; simpa using this) _).grown hgrow (by have := hbw.size; simp; omega) (fun k hk => (hown.lt k hk).1)
                have HO : RowKit.Hid (w1.ownsRow w.heap.size 153 2 (.slice (some ⟨g, 0, none⟩) (done.length + 1) cap) (done.length + 1) (wcells ((done ++ [(f, i)]).map (wordAt t)))) := Lib.hid (by
                  rw [List.map_append]
                  simpa [wordAt, curL, hte] using hown4)
                clear hown4 hgrow hat hown2 hown HZ2 hbw
                go_wp2_with fail
                go_roundw
                case rel => exact ⟨i + 1, none, done ++ [(f, i)], by omega, by go_num, rfl, (fun f hf => by cases hf), by simpa using HO.out, hb4, H2.out, by simp; omega, fun _ => rfl⟩
                case measure => simp [RowKit.intOf]; omega
            · have hlt : i < t.length := by omega
              have e1 : ((i : Int) == (t.length : Int)) = false := beq_eq_false_iff_ne.2 (by omega)
              by_cases hb : blankB t[i] = true
              · rw [refW_blank t done i st (.inr ⟨hlt, hb⟩)] at hr
                have hor : t[i].toNat = 32 ∨ (t[i].toNat ≠ 32 ∧ t[i].toNat = 9) ∨ (t[i].toNat ≠ 32 ∧ t[i].toNat ≠ 9 ∧ t[i].toNat = 13) := by
                  unfold blankB blankR at hb
                  simp only [Bool.or_eq_true, decide_eq_true_eq] at hb
                  omega
                have hchain : (((t[i].toNat : Int) == 32) = true) ∨ (((t[i].toNat : Int) == 32) = false ∧ ((t[i].toNat : Int) == 9) = true) ∨ (((t[i].toNat : Int) == 32) = false ∧ ((t[i].toNat : Int) == 9) = false ∧ ((t[i].toNat : Int) == 13) = true) := by
                  simp only [beq_iff_eq, beq_eq_false_iff_ne, ne_eq]
                  omega
                clear hor hb
                cases st with
                | none =>
                  rcases hchain with c1 | ⟨c1, c2⟩ | ⟨c1, c2, c3⟩
                  all_goals
                    simp only [frV, pushed, List.append_nil] at hr ⊢
                    have H2 := Lib.hid hr
                    clear hr hst hend
                    go_wp2_with fail
                    go_roundw
                    case rel => exact ⟨i + 1, none, done, by omega, by go_num, rfl, (fun f hf => by cases hf), hown, hbw, H2.out, by omega, fun _ => rfl⟩
                    case measure => simp [RowKit.intOf]; omega
                | some f =>
                  rcases hchain with c1 | ⟨c1, c2⟩ | ⟨c1, c2, c3⟩
                  all_goals
                    obtain ⟨hf1, hf2⟩ := hst f rfl
                    have hf3 : f ≤ t.length := by omega
                    have hf4 : f ≤ i := by omega
                    simp only [frV, pushed] at hr ⊢
                    have H2 := Lib.hid hr
                    have hcol := HCol2.out f (by omega)
                    have HZ2 := Lib.hid (HZ.out f)
                    rw [hcol] at HZ2
                    have hc1 : colN t 0 f ≤ 1000000 := Nat.le_trans (col_le t f _ 0 (Nat.le_refl _)) (by omega)
                    clear hr hst hend hcol
                    go_wp2_with fail
                    have hown2 : wr.drew.ownsRow w.heap.size 153 2 _ done.length (wcells (done.map (wordAt t))) := hown
                    go_region_held3 (fun _ => True) (trivial)
                      (first
                        | (go_at_call 102; refine (HZ2.out _).mono ?_; rintro e w' ⟨rfl, rfl⟩)
                        | ((refine step_append_lies _ (by rfl) _ _ 89 (by rfl) w.heap.size 153 i0 (.agg #[.string ByteArray.empty, .int .i64 0]) 2 24 Tryd.underlying89 hi hz0 hz1 hz2 rfl (by decide) _ done.length (wcells (done.map (wordAt t))) (by rfl) (hown2.alloc _) ⟨wr.drew.heap.size, 0, none⟩ 1 1 [_, _] (by rfl) rfl (news_word _ _ _ _) (ones_word _ _) (by decide) (by unfold maxLen; omega) (by omega) (by have := hbw.size; simp; omega) _ rfl ?_); intro g cap w1 hown4 hgrow hat hlt))
                    rw [wrap_one _ hc1, wcells_next] at hown4
                    have hb4 : Below w.heap.size w w1 := (hbw.drew.alloc (by have := hbw.size; simpa using this) _).grown hgrow (by have := hbw.size; simp; omega) (fun k hk => (hown.lt k hk).1)
                    have HO : RowKit.Hid (w1.ownsRow w.heap.size 153 2 (.slice (some ⟨g, 0, none⟩) (done.length + 1) cap) (done.length + 1) (wcells ((done ++ [(f, i)]).map (wordAt t)))) := Lib.hid (by
                      rw [List.map_append]
                      simpa [wordAt, curL] using hown4)
                    clear hown4 hgrow hat hown2 hown HZ2 hbw
                    go_wp2_with fail
                    go_roundw
                    case rel => exact ⟨i + 1, none, done ++ [(f, i)], by omega, by go_num, rfl, (fun f hf => by cases hf), by simpa using HO.out, hb4, H2.out, by simp; omega, fun _ => rfl⟩
                    case measure => simp [RowKit.intOf]; omega
              · have hb' : blankB t[i] = false := by simpa using hb
                rw [refW_go t done i st hlt hb'] at hr
                have c0 : ((t[i].toNat : Int) == 32) = false ∧ ((t[i].toNat : Int) == 9) = false ∧ ((t[i].toNat : Int) == 13) = false := by
                  unfold blankB blankR at hb'
                  simp only [Bool.or_eq_false_iff, decide_eq_false_iff_not] at hb'
                  simp only [beq_eq_false_iff_ne, ne_eq]
                  omega
                obtain ⟨c1, c2, c3⟩ := c0
                clear hb hb'
                cases st with
                | none =>
                  simp only [frV, Option.getD_none] at hr ⊢
                  have H2 := Lib.hid hr
                  clear hr hst hend
                  go_wp2_with fail
                  go_roundw
                  case rel => exact ⟨i + 1, some i, done, by omega, by go_num, rfl, (fun f hf => by obtain rfl := Option.some.inj hf; exact ⟨by omega, hlt⟩), hown, hbw, H2.out, by omega, fun h => by omega⟩
                  case measure => simp [RowKit.intOf]; omega
                | some f =>
                  obtain ⟨hf1, hf2⟩ := hst f rfl
                  simp only [frV, Option.getD_some] at hr ⊢
                  have H2 := Lib.hid hr
                  clear hr hst hend
                  go_wp2_with fail
                  go_roundw
                  case rel => exact ⟨i + 1, some f, done, by omega, by go_num, rfl, (fun g hg => by obtain rfl := Option.some.inj hg; exact ⟨by omega, hf2⟩), hown, hbw, H2.out, by omega, fun h => by omega⟩
                  case measure => simp [RowKit.intOf]; omega
          · have eR : refW t done i st = done := if_neg hle
            rw [eR] at hr
            have H2 := Lib.hid hr
            clear hr eR
            go_wp2_with fail
            go_ret2
            refine ⟨_, rfl, ?_, hbw⟩
            rw [← H2.out]
            exact own_words (by rw [List.length_map]; exact hown)
end Go.Proofs.YtphhgdgamnogpaaDoor

namespace Go.Proofs.YtphhgdgamnogpaaDoor
open Go.RowKit Go.Lib

/-! ### remarks -/
def remarkR (s : List UInt8) : List UInt8 × Bool := (strR (strL (s.drop ((aheadL s).length + 1))), decide ((aheadL s).length < s.length))
/-! ### texts joined -/
/-- A slice of texts, of which it is known how far it reaches. -/
def TextsC (w : World) (v : Value) (L : List (List UInt8)) : Prop := ∃ p cap, v = .slice p L.length cap ∧ L.length ≤ cap ∧ HasTexts w p L
theorem own_textsC {w : World} {B : Nat} {e : TypeId} {v : Value} {L : List (List UInt8)} (h : w.ownsRow B e 1 v L.length (strs L)) : TextsC w v L := by
  obtain ⟨p, cap, hv, ht⟩ := own_texts h
  refine ⟨p, cap, hv, ?_, ht⟩
  obtain ⟨-, ⟨h0, hn⟩ | ⟨g, cap', cur, hv', -, -, hc, -⟩⟩ := h
  · rw [hn]; exact Nat.zero_le _
  · rw [hv] at hv'
    injection hv' with h1 h2 h3
    omega
theorem TextsC.below {w w' : World} {v : Value} {L : List (List UInt8)} (h : TextsC w v L) (hb : Below w.heap.size w w') : TextsC w' v L := by
  obtain ⟨p, cap, hv, hc, ht⟩ := h
  exact ⟨p, cap, hv, hc, ht.below hb⟩
theorem libjoin_any (w : World) (v : Value) (L : List (List UInt8)) (h : TextsC w v L) (hL : L.length ≤ 1000000) (hlen : (join L [32]).length ≤ 10000000) :
    Calls Tryd.prog 104 #[v, .string (bs [32])] w fun e w' => e = .returned (.string (bs (join L [32]))) ∧ Below w.heap.size w w' := by
  obtain ⟨p, cap, rfl, hc, ht⟩ := h
  by_cases h0 : L = []
  · subst h0
    exact (Any.strings_Join_none Tryd.laysJoin Tryd.extraJoin p cap (bs [32]) w).mono fun e w' ⟨he, hw⟩ => ⟨he, hw ▸ Below.refl _ _⟩
  · obtain ⟨g, rfl, hg⟩ := ht 0 (List.length_pos_iff.2 h0)
    have hmap : (L.map bs).map (·.data.toList) = L := by
      rw [List.map_map]
      conv => rhs; rw [← List.map_id L]
      apply List.map_congr_left
      intro x _
      exact bs_list x
    have h := Any.strings_Join Tryd.laysJoin Tryd.extraJoin g 0 cap (L.map bs) (bs [32]) w (fun j x hx => by
      simp only [List.getElem?_map, Option.map_eq_some_iff] at hx
      obtain ⟨y, hy, rfl⟩ := hx
      have hj := (List.getElem?_eq_some_iff.1 hy).1
      obtain ⟨g', hg', hc'⟩ := ht j hj
      obtain rfl : g = g' := by simpa using hg'
      rw [Nat.zero_add, hc']
      simp [List.getD, hy]) (World.block_lt_of_cell? _ _ hg) (by rw [List.length_map]; omega) (by rw [List.length_map]; exact hc) (by rw [hmap, bs_list]; omega)
    rw [hmap, bs_list, List.length_map] at h
    exact h
set_option maxRecDepth 100000 in
theorem sjoin_any (w : World) (v : Value) (L : List (List UInt8)) (h : TextsC w v L) (hL : L.length ≤ 1000000) (hlen : (join L [32]).length ≤ 10000000) :
    Calls Tryd.prog 58 #[v] w fun e w' => e = .returned (.string (bs (join L [32]))) ∧ Below w.heap.size w w' := by
  have H := Lib.hid (libjoin_any w v L h hL hlen)
  go_enter Tryd.func58, Tryd.ntmps58
  go_wp2_with fail
  refine H.out.mono ?_
  rintro e w1 ⟨rfl, hb1⟩
  go_wp2_with fail
  go_ret
  exact ⟨rfl, hb1⟩
theorem ex6w : wordsR [114, 101, 97, 100, 32, 97, 32, 32, 98, 32, 35, 120] = ([([114, 101, 97, 100], 1), ([97], 6), ([98], 9)], 0) := by decide +kernel
theorem ex6r : remarkR [114, 101, 97, 100, 32, 97, 32, 32, 98, 32, 35, 120] = ([120], true) := by decide +kernel
theorem ex6j : join [[97], [98]] [32] = [97, 32, 98] := by decide +kernel
theorem words_len (s : List UInt8) : (wordsR s).1.length ≤ s.length + 1 ∧ (wordsR s).2 ≤ 5 := by
  unfold wordsR
  split
  · refine ⟨?_, Nat.zero_le _⟩
    have h := scan_len (aheadL s) (aheadL s).length 0 none
    have h2 := ahead_len s
    show (wordsL (aheadL s)).length ≤ _
    unfold wordsL scanL
    rw [List.length_map]
    omega
  · exact ⟨Nat.zero_le _, Nat.le_refl _⟩
end Go.Proofs.YtphhgdgamnogpaaDoor

namespace Go.Proofs.YtphhgdgamnogpaaDoor
open Go.RowKit Go.Lib

/-! ### the words' texts, one behind the other -/
def textsT : List UInt8 → List UInt8 → List (List UInt8)
  | cur, [] => if cur = [] then [] else [cur]
  | cur, b :: t => if blankB b then (if cur = [] then textsT [] t else cur :: textsT [] t) else textsT (cur ++ [b]) t
/-- The text of a word that has begun. -/
def begun (l : List UInt8) (i : Nat) : Option Nat → List UInt8
  | some f => curL l f i
  | none => []
theorem texts_scan (l : List UInt8) : ∀ (n i : Nat) (st : Option Nat), l.length - i ≤ n → i ≤ l.length → (∀ f, st = some f → f < i) →
    (scanGo l (l.length - i) i st).map (fun r => curL l r.1 r.2) = textsT (begun l i st) (l.drop i)
  | 0, i, st, hn, hi, hst => by
    have e : i = l.length := by omega
    subst e
    rw [scan_end l _ st (Nat.le_refl _), List.drop_eq_nil_of_le (Nat.le_refl _)]
    cases st with
    | none => rfl
    | some f =>
      have := curL_ne l f l.length (hst f rfl) (Nat.le_refl _)
      simp [pushed, begun, textsT, this]
  | n + 1, i, st, hn, hi, hst => by
    by_cases h : i < l.length
    · rw [List.drop_eq_getElem_cons h]
      unfold textsT
      by_cases hb : blankB l[i] = true
      · rw [scan_blank l i st h hb, if_pos hb, List.map_append, texts_scan l n (i + 1) none (by omega) (by omega) (fun f hf => by cases hf)]
        cases st with
        | none => simp [pushed, begun]
        | some f =>
          have := curL_ne l f i (hst f rfl) hi
          simp [pushed, begun, this]
      · have hb' : blankB l[i] = false := by simpa using hb
        rw [scan_go l i st h hb', if_neg hb, texts_scan l n (i + 1) _ (by omega) (by omega) (fun f hf => by
          obtain rfl := Option.some.inj hf
          cases st with
          | none => simp
          | some g => have := hst g rfl; simp; omega)]
        congr 1
        cases st with
        | none =>
          simp only [begun, Option.getD_none, List.nil_append]
          rw [curL_snoc l i i (Nat.le_refl _) h, curL_nil]
          rfl
        | some f =>
          simp only [begun, Option.getD_some]
          exact curL_snoc l f i (by have := hst f rfl; omega) h
    · have e : i = l.length := by omega
      subst e
      exact texts_scan l 0 _ st (by omega) hi hst
theorem words_texts (t : List UInt8) : (wordsL t).map (·.1) = textsT [] t := by
  have h := texts_scan t _ 0 none (Nat.le_refl _) (Nat.zero_le _) (fun f hf => by cases hf)
  rw [List.drop_zero] at h
  show ((scanL t).map (wordAt t)).map (·.1) = _
  rw [List.map_map]
  exact h
/-- May a text be a word? -/
def WordT (x : List UInt8) : Prop := x ≠ [] ∧ (∀ b ∈ x, blankB b = false) ∧ validD x = true ∧ (∀ b ∈ x, b ≠ 35 ∧ b ≠ 10)
theorem texts_run : ∀ (x cur rest : List UInt8), (∀ b ∈ x, blankB b = false) → textsT cur (x ++ rest) = textsT (cur ++ x) rest
  | [], cur, rest, _ => by simp
  | b :: x, cur, rest, h => by
    have hb : blankB b = false := h b (List.mem_cons_self ..)
    show (if blankB b then _ else textsT (cur ++ [b]) (x ++ rest)) = _
    rw [hb]
    simp only [Bool.false_eq_true, if_false]
    rw [texts_run x (cur ++ [b]) rest (fun c hc => h c (List.mem_cons_of_mem _ hc))]
    simp
theorem join_two (x y : List UInt8) (r : List (List UInt8)) : join (x :: y :: r) [32] = x ++ 32 :: join (y :: r) [32] := by
  rw [join_cons, join_cons]
  simp [joinTail]
theorem texts_join : ∀ L : List (List UInt8), (∀ x ∈ L, WordT x) → textsT [] (join L [32]) = L
  | [], _ => rfl
  | [x], h => by
    have hx := h x (List.mem_cons_self ..)
    have e := texts_run x [] [] hx.2.1
    rw [List.append_nil, List.nil_append] at e
    rw [join_one, e]
    simp [textsT, hx.1]
  | x :: y :: r, h => by
    have hx := h x (List.mem_cons_self ..)
    rw [join_two, texts_run x [] _ hx.2.1, List.nil_append]
    show (if blankB 32 then (if x = [] then _ else x :: textsT [] (join (y :: r) [32])) else _) = _
    rw [if_pos (by decide), if_neg hx.1, texts_join (y :: r) (fun z hz => h z (List.mem_cons_of_mem _ hz))]
theorem valid_snoc (cur : List UInt8) (b : UInt8) (rest : List UInt8) : cur ++ b :: rest = (cur ++ [b]) ++ rest := by simp
theorem texts_words : ∀ (t cur : List UInt8), validD (cur ++ t) = true → (∀ b ∈ cur ++ t, b ≠ 35 ∧ b ≠ 10) → (∀ b ∈ cur, blankB b = false) → ∀ x ∈ textsT cur t, WordT x
  | [], cur, hv, hn, hb => by
    unfold textsT
    rw [List.append_nil] at hv hn
    split
    · simp
    · rename_i h
      intro x hx
      obtain rfl : x = cur := by simpa using hx
      exact ⟨h, hb, hv, hn⟩
  | b :: t, cur, hv, hn, hb => by
    unfold textsT
    by_cases h : blankB b = true
    · rw [if_pos h]
      have hlow := blankB_low b h
      rw [valid_cut _ cur t b (Nat.le_refl _) hlow] at hv
      simp only [Bool.and_eq_true] at hv
      have ih := texts_words t [] (by simpa using hv.2) (fun c hc => hn c (by simp at hc ⊢; exact .inr (.inr hc))) (by simp)
      split
      · exact ih
      · rename_i hc
        intro x hx
        rcases List.mem_cons.1 hx with rfl | hx
        · exact ⟨hc, hb, hv.1, fun c hc => hn c (by simp; exact .inl hc)⟩
        · exact ih x hx
    · rw [if_neg h]
      refine texts_words t (cur ++ [b]) (by simpa using hv) (fun c hc => hn c (by simpa using hc)) ?_
      intro c hc
      rcases List.mem_append.1 hc with hc | hc
      · exact hb c hc
      · obtain rfl : c = b := by simpa using hc
        simpa using h
theorem join_valid : ∀ L : List (List UInt8), (∀ x ∈ L, WordT x) → validD (join L [32]) = true ∧ (∀ b ∈ join L [32], b ≠ 35 ∧ b ≠ 10)
  | [], _ => ⟨rfl, by simp [join_nil]⟩
  | [x], h => by
    have hx := h x (List.mem_cons_self ..)
    rw [join_one]
    exact ⟨hx.2.2.1, hx.2.2.2⟩
  | x :: y :: r, h => by
    have hx := h x (List.mem_cons_self ..)
    obtain ⟨h1, h2⟩ := join_valid (y :: r) (fun z hz => h z (List.mem_cons_of_mem _ hz))
    rw [join_two, valid_cut _ x _ 32 (Nat.le_refl _) (by decide), hx.2.2.1, h1]
    refine ⟨rfl, fun b hb => ?_⟩
    rcases List.mem_append.1 hb with hb | hb
    · exact hx.2.2.2 b hb
    · rcases List.mem_cons.1 hb with rfl | hb
      · decide
      · exact h2 b hb
theorem ahead_same (s : List UInt8) (h : ∀ b ∈ s, b ≠ 35) : aheadL s = s := by
  rcases ahead_app s with h1 | ⟨y, h1⟩
  · exact h1
  · have := h 35 (by rw [h1]; simp)
    exact absurd rfl this
theorem ahead_mem (s : List UInt8) : ∀ b ∈ aheadL s, b ≠ 35 ∧ b ∈ s := by
  induction s with
  | nil => simp [aheadL]
  | cons c t ih =>
    intro b hb
    by_cases hc : c = 35
    · simp [aheadL, hc] at hb
    · have e : aheadL (c :: t) = c :: aheadL t := by simp [aheadL, hc]
      rw [e] at hb
      rcases List.mem_cons.1 hb with rfl | hb
      · exact ⟨hc, List.mem_cons_self ..⟩
      · exact ⟨(ih b hb).1, List.mem_cons_of_mem _ (ih b hb).2⟩
theorem feed_false (s : List UInt8) (h : ∀ b ∈ s, b ≠ 10) : hasFeed s = false := by
  rw [feed_at, List.any_eq_false]
  intro b hb
  simpa using h b hb
theorem feed_mem (s : List UInt8) (h : hasFeed s = false) : ∀ b ∈ s, b ≠ 10 := by
  rw [feed_at, List.any_eq_false] at h
  intro b hb
  simpa using h b hb
theorem ahead_valid (s : List UInt8) (h : validD s = true) : validD (aheadL s) = true := by
  rcases ahead_app s with h1 | ⟨y, h1⟩
  · rw [h1]; exact h
  · rw [h1, valid_cut _ _ y 35 (Nat.le_refl _) (by decide)] at h
    simp only [Bool.and_eq_true] at h
    exact h.1
/-- Words joined, and parted again, are the same texts. -/
theorem words_again (s : List UInt8) (h : (wordsR s).2 = 0) : (wordsR (join ((wordsR s).1.map (·.1)) [32])).2 = 0 ∧ (wordsR (join ((wordsR s).1.map (·.1)) [32])).1.map (·.1) = (wordsR s).1.map (·.1) := by
  unfold wordsR at h
  split at h
  · rename_i hc
    simp only [Bool.and_eq_true, Bool.not_eq_true'] at hc
    have e : wordsR s = (wordsL (aheadL s), 0) := by
      unfold wordsR
      rw [if_pos (by rw [hc.1, hc.2]; rfl)]
    have hw : ∀ x ∈ (wordsL (aheadL s)).map (·.1), WordT x := by
      rw [words_texts]
      exact texts_words (aheadL s) [] (by simpa using ahead_valid s hc.1) (fun b hb => ⟨(ahead_mem s b (by simpa using hb)).1, feed_mem s hc.2 b (ahead_mem s b (by simpa using hb)).2⟩) (by simp)
    rw [e]
    simp only
    obtain ⟨h1, h2⟩ := join_valid _ hw
    have e2 : wordsR (join ((wordsL (aheadL s)).map (·.1)) [32]) = (wordsL (join ((wordsL (aheadL s)).map (·.1)) [32]), 0) := by
      unfold wordsR
      rw [if_pos (by rw [h1, feed_false _ (fun b hb => (h2 b hb).2)]; rfl), ahead_same _ (fun b hb => (h2 b hb).1)]
    rw [e2]
    exact ⟨rfl, by rw [words_texts, texts_join _ hw]⟩
  · simp at h
theorem words_bad (s : List UInt8) (h : (wordsR s).2 ≠ 0) : (wordsR s).1 = [] := by
  unfold wordsR at h ⊢
  split at h
  · exact absurd rfl h
  · rename_i hc
    rw [if_neg hc]

/-! ### that they rise -/
theorem scan_starts (l : List UInt8) : ∀ (n p k : Nat) (st : Option Nat), l.length - p ≤ n → p ≤ l.length → RunesTo l p k → (∀ f, st = some f → f < p ∧ ∃ m, RunesTo l f m) →
    ∀ r ∈ scanGo l (l.length - p) p st, (st = none → p ≤ r.1) ∧ (∀ f, st = some f → r.1 = f ∨ p ≤ r.1) ∧ r.1 < l.length ∧ ∃ m, RunesTo l r.1 m
  | 0, p, k, st, hn, hp, hr, hst => by
    rw [scan_end l p st (by omega)]
    cases st with
    | none => simp [pushed]
    | some f =>
      intro r hr'
      obtain rfl : r = (f, p) := by simpa [pushed] using hr'
      obtain ⟨h1, h2⟩ := hst f rfl
      exact ⟨(fun h => by cases h), fun g hg => .inl (Option.some.inj hg), by simp only; omega, h2⟩
  | n + 1, p, k, st, hn, hp, hr, hst => by
    by_cases h : p < l.length
    · have hb := one_bounds l p h
      obtain ⟨s1, s2⟩ := scan_rune l p st h
      have hr2 := runesTo_step l p k h hr
      cases hbl : blankR (oneAt l p).1 with
      | true =>
        rw [s1 hbl]
        intro r hm
        rcases List.mem_append.1 hm with hm | hm
        · cases st with
          | none => simp [pushed] at hm
          | some f =>
            obtain rfl : r = (f, p) := by simpa [pushed] using hm
            obtain ⟨h1, h2⟩ := hst f rfl
            exact ⟨(fun h => by cases h), fun g hg => .inl (Option.some.inj hg), by simp only; omega, h2⟩
        · obtain ⟨i1, -, i3, i4⟩ := scan_starts l n _ _ none (by omega) hb.2 hr2 (fun f hf => by cases hf) r hm
          have := i1 rfl
          exact ⟨fun _ => by omega, fun _ _ => .inr (by omega), i3, i4⟩
      | false =>
        rw [s2 hbl]
        intro r hm
        obtain ⟨-, i2, i3, i4⟩ := scan_starts l n _ _ (some (st.getD p)) (by omega) hb.2 hr2 (fun f hf => by
          obtain rfl := Option.some.inj hf
          cases st with
          | none => exact ⟨by simp; omega, ⟨k, hr⟩⟩
          | some g => obtain ⟨h1, h2⟩ := hst g rfl; exact ⟨by simp; omega, h2⟩) r hm
        rcases i2 _ rfl with i5 | i5
        · cases st with
          | none =>
            simp only [Option.getD_none] at i5
            exact ⟨fun _ => by omega, (fun _ h => by cases h), i3, i4⟩
          | some g =>
            simp only [Option.getD_some] at i5
            exact ⟨(fun h => by cases h), fun g' hg' => .inl (by rw [i5]; exact Option.some.inj hg'), i3, i4⟩
        · exact ⟨fun _ => by omega, fun _ _ => .inr (by omega), i3, i4⟩
    · rw [scan_end l p st (by omega)]
      cases st with
      | none => simp [pushed]
      | some f =>
        intro r hr'
        obtain rfl : r = (f, p) := by simpa [pushed] using hr'
        obtain ⟨h1, h2⟩ := hst f rfl
        exact ⟨(fun h => by cases h), fun g hg => .inl (Option.some.inj hg), by simp only; omega, h2⟩
theorem scan_rises (l : List UInt8) : ∀ (n p k : Nat) (st : Option Nat), l.length - p ≤ n → p ≤ l.length → RunesTo l p k → (∀ f, st = some f → f < p ∧ ∃ m, RunesTo l f m) →
    (scanGo l (l.length - p) p st).Pairwise (fun a b => colN l 0 a.1 < colN l 0 b.1)
  | 0, p, k, st, hn, hp, hr, hst => by
    rw [scan_end l p st (by omega)]
    cases st <;> simp [pushed]
  | n + 1, p, k, st, hn, hp, hr, hst => by
    by_cases h : p < l.length
    · have hb := one_bounds l p h
      obtain ⟨s1, s2⟩ := scan_rune l p st h
      have hr2 := runesTo_step l p k h hr
      cases hbl : blankR (oneAt l p).1 with
      | true =>
        rw [s1 hbl, List.pairwise_append]
        refine ⟨by cases st <;> simp [pushed], scan_rises l n _ _ none (by omega) hb.2 hr2 (fun f hf => by cases hf), ?_⟩
        intro a ha b hb'
        cases st with
        | none => simp [pushed] at ha
        | some f =>
          obtain rfl : a = (f, p) := by simpa [pushed] using ha
          obtain ⟨h1, m, h2⟩ := hst f rfl
          obtain ⟨i1, -⟩ := scan_starts l n _ _ none (by omega) hb.2 hr2 (fun f hf => by cases hf) b hb'
          have := i1 rfl
          exact runesTo_less l f m b.1 h2 (by omega) (by omega)
      | false =>
        rw [s2 hbl]
        exact scan_rises l n _ _ _ (by omega) hb.2 hr2 (fun f hf => by
          obtain rfl := Option.some.inj hf
          cases st with
          | none => exact ⟨by simp; omega, ⟨k, hr⟩⟩
          | some g => obtain ⟨h1, h2⟩ := hst g rfl; exact ⟨by simp; omega, h2⟩)
    · rw [scan_end l p st (by omega)]
      cases st <;> simp [pushed]
theorem words_rise (s : List UInt8) : (wordsR s).1.Pairwise (fun a b => a.2 < b.2) ∧ ∀ a ∈ (wordsR s).1, 1 ≤ a.2 := by
  unfold wordsR
  split
  · have h := scan_rises (aheadL s) _ 0 0 none (Nat.le_refl _) (Nat.zero_le _) (runesTo_start _) (fun f hf => by cases hf)
    refine ⟨?_, ?_⟩
    · show ((scanL (aheadL s)).map (wordAt (aheadL s))).Pairwise _
      rw [List.pairwise_map]
      exact h.imp fun h => by simp only [wordAt]; omega
    · intro a ha
      obtain ⟨r, -, rfl⟩ := List.mem_map.1 ha
      simp [wordAt]
  · exact ⟨List.Pairwise.nil, by simp⟩
end Go.Proofs.YtphhgdgamnogpaaDoor

namespace Go.Proofs.YtphhgdgamnogpaaDoor
open Go.RowKit

/-! ### Type assertions, as closed facts of the program's own tables. -/
theorem as_nil (t : Nat) (w : World) (h : t = 2 ∨ t = 3) : (Instr.typeAssert .nilIface 20 t true).run Tryd.prog w = .ok (.tuple #[.int .i64 0, .bool false]) w := by
  rcases h with rfl | rfl <;> kernel_rfl
theorem as_nil_lost (w : World) : (Instr.typeAssert .nilIface 20 180 true).run Tryd.prog w = .ok (.tuple #[.agg #[], .bool false]) w := by kernel_rfl
theorem as_int64 (v : Value) (w : World) : (Instr.typeAssert (.iface 2 v) 20 2 true).run Tryd.prog w = .ok (.tuple #[v, .bool true]) w := by kernel_rfl
theorem as_int64_must (v : Value) (w : World) : (Instr.typeAssert (.iface 2 v) 20 2 false).run Tryd.prog w = .ok v w := by kernel_rfl
theorem as_int (v : Value) (w : World) : (Instr.typeAssert (.iface 3 v) 20 3 true).run Tryd.prog w = .ok (.tuple #[v, .bool true]) w := by kernel_rfl
theorem as_lost (v : Value) (w : World) : (Instr.typeAssert (.iface 180 v) 20 180 true).run Tryd.prog w = .ok (.tuple #[v, .bool true]) w := by kernel_rfl
theorem zero_int64 (w : World) : ((do pure (Value.tuple #[← zeroValue 2, .bool false])) : Sem Value).run Tryd.prog w = .ok (.tuple #[.int .i64 0, .bool false]) w := by kernel_rfl
theorem zero_int (w : World) : ((do pure (Value.tuple #[← zeroValue 3, .bool false])) : Sem Value).run Tryd.prog w = .ok (.tuple #[.int .i64 0, .bool false]) w := by kernel_rfl
theorem zero_lost (w : World) : ((do pure (Value.tuple #[← zeroValue 180, .bool false])) : Sem Value).run Tryd.prog w = .ok (.tuple #[.agg #[], .bool false]) w := by kernel_rfl
theorem as_int64_no (u : TypeId) (v : Value) (w : World) (h : (u == 2) = false) : (Instr.typeAssert (.iface u v) 20 2 true).run Tryd.prog w = .ok (.tuple #[.int .i64 0, .bool false]) w := by
  have e : (Instr.typeAssert (.iface u v) 20 2 true).run Tryd.prog w = (if u = 2 then (pure (Value.tuple #[v, .bool true]) : Sem Value) else (do pure (Value.tuple #[← zeroValue 2, .bool false]))).run Tryd.prog w := by kernel_rfl
  rw [e, if_neg (by simpa using h)]; exact zero_int64 w
theorem as_int_no (u : TypeId) (v : Value) (w : World) (h : (u == 3) = false) : (Instr.typeAssert (.iface u v) 20 3 true).run Tryd.prog w = .ok (.tuple #[.int .i64 0, .bool false]) w := by
  have e : (Instr.typeAssert (.iface u v) 20 3 true).run Tryd.prog w = (if u = 3 then (pure (Value.tuple #[v, .bool true]) : Sem Value) else (do pure (Value.tuple #[← zeroValue 3, .bool false]))).run Tryd.prog w := by kernel_rfl
  rw [e, if_neg (by simpa using h)]; exact zero_int w
theorem as_lost_no (u : TypeId) (v : Value) (w : World) (h : (u == 180) = false) : (Instr.typeAssert (.iface u v) 20 180 true).run Tryd.prog w = .ok (.tuple #[.agg #[], .bool false]) w := by
  have e : (Instr.typeAssert (.iface u v) 20 180 true).run Tryd.prog w = (if u = 180 then (pure (Value.tuple #[v, .bool true]) : Sem Value) else (do pure (Value.tuple #[← zeroValue 180, .bool false]))).run Tryd.prog w := by kernel_rfl
  rw [e, if_neg (by simpa using h)]; exact zero_lost w
end Go.Proofs.YtphhgdgamnogpaaDoor

namespace Go.Proofs.YtphhgdgamnogpaaDoor

/-- May a value be? -/
def mayV (k n : Int) : Bool := k == 1 || ((k == 0 || k == 2) && n == 0)
/-- The ways in which a value may be, or not. -/
theorem may_cases (k n : Int) : (k = 1 ∧ mayV k n = true) ∨ (k = 0 ∧ n = 0 ∧ mayV k n = true) ∨ (k = 2 ∧ n = 0 ∧ mayV k n = true) ∨
    (k = 0 ∧ (n == 0) = false ∧ (0 == n) = false ∧ mayV k n = false) ∨ (k = 2 ∧ (n == 0) = false ∧ (0 == n) = false ∧ mayV k n = false) ∨
    ((k == 0) = false ∧ (0 == k) = false ∧ (k == 1) = false ∧ (k == 2) = false ∧ mayV k n = false) := by
  by_cases h1 : k = 1
  · exact .inl ⟨h1, by simp [mayV, h1]⟩
  by_cases h0 : k = 0
  · by_cases hn : n = 0
    · exact .inr (.inl ⟨h0, hn, by simp [mayV, h0, hn]⟩)
    · exact .inr (.inr (.inr (.inl ⟨h0, by simpa using hn, by simpa using fun h => hn h.symm, by simp [mayV, h0, hn]⟩)))
  by_cases h2 : k = 2
  · by_cases hn : n = 0
    · exact .inr (.inr (.inl ⟨h2, hn, by simp [mayV, h2, hn]⟩))
    · exact .inr (.inr (.inr (.inr (.inl ⟨h2, by simpa using hn, by simpa using fun h => hn h.symm, by simp [mayV, h2, hn]⟩))))
  · exact .inr (.inr (.inr (.inr (.inr ⟨by simpa using h0, by simpa using fun h => h0 h.symm, by simpa using h1, by simpa using h2, by simp [mayV, h0, h1, h2]⟩))))

end Go.Proofs.YtphhgdgamnogpaaDoor

namespace Go.Proofs.YtphhgdgamnogpaaDoor

/-- Is a byte a digit? -/
def isDig (c : UInt8) : Bool := 48 ≤ c.toNat && c.toNat ≤ 57
/-- The decimal digits of a natural number. -/
def decL (m : Nat) : List UInt8 := if m < 10 then [UInt8.ofNat (48 + m)] else decL (m / 10) ++ [UInt8.ofNat (48 + m % 10)]
termination_by m
/-- A number's text. -/
def printL (n : Int) : List UInt8 := if n < 0 then 45 :: decL n.natAbs else decL n.natAbs
/-- The number that digits spell. -/
def valL (t : List UInt8) : Nat := t.foldl (fun a c => a * 10 + (c.toNat - 48)) 0
/-- Is a text, behind its sign, as a number's is? -/
def digT (t : List UInt8) (neg : Bool) : Bool := !t.isEmpty && !(t.head? == some 48 && (neg || decide (1 < t.length))) && t.all isDig
/-- Does a text begin with a minus sign? -/
def negL (s : List UInt8) : Bool := s.head? == some 45
/-- What stands behind the sign. -/
def restL (s : List UInt8) : List UInt8 := if negL s then s.tail else s
def digL (s : List UInt8) : Bool := digT (restL s) (negL s)
/-- One digit more, below zero; nothing where that is too much. -/
def stepP (acc : Option Int) (c : UInt8) : Option Int := acc.bind fun n =>
  if n < -922337203685477580 ∨ (n = -922337203685477580 ∧ (8 : Int) < (c.toNat - 48 : Nat)) then none else some (n * 10 - (c.toNat - 48 : Nat))
def foldP (t : List UInt8) : Option Int := t.foldl stepP (some 0)
/-- A text's number, and the error. -/
def parseL (s : List UInt8) : Int × Int :=
  if digL s then
    match foldP (restL s) with
    | none => (0, 8)
    | some n => if negL s then (n, 0) else if n = -9223372036854775808 then (0, 8) else (-n, 0)
  else (0, 5)

theorem foldP_snoc (t : List UInt8) (c : UInt8) : foldP (t ++ [c]) = stepP (foldP t) c := by simp [foldP]
theorem valL_snoc (t : List UInt8) (c : UInt8) : valL (t ++ [c]) = valL t * 10 + (c.toNat - 48) := by simp [valL]

theorem snoc_ind {P : List UInt8 → Prop} (h0 : P []) (h1 : ∀ t c, P t → P (t ++ [c])) (t : List UInt8) : P t := by
  have : ∀ l : List UInt8, P l.reverse := by
    intro l
    induction l with
    | nil => exact h0
    | cons c l ih => rw [List.reverse_cons]; exact h1 _ _ ih
  simpa using this t.reverse

theorem isDig_iff (c : UInt8) : isDig c = true ↔ 48 ≤ c.toNat ∧ c.toNat ≤ 57 := by simp [isDig]

theorem foldP_spec (t : List UInt8) (h : t.all isDig = true) : foldP t = if valL t ≤ 9223372036854775808 then some (-(valL t : Int)) else none := by
  induction t using snoc_ind with
  | h0 => simp [foldP, valL]
  | h1 t c ih =>
    simp only [List.all_append, List.all_cons, List.all_nil, Bool.and_true, Bool.and_eq_true] at h
    obtain ⟨h1, h2⟩ := h
    have hc := (isDig_iff c).1 h2
    rw [foldP_snoc, ih h1, valL_snoc]
    by_cases hv : valL t ≤ 9223372036854775808
    · rw [if_pos hv]
      simp only [stepP, Option.bind_some]
      by_cases hs : valL t * 10 + (c.toNat - 48) ≤ 9223372036854775808
      · rw [if_pos hs, if_neg (by omega)]; congr 1; omega
      · rw [if_neg hs, if_pos (by omega)]
    · rw [if_neg hv, if_neg (by omega)]; rfl

theorem toNat_dig (m : Nat) (h : m < 10) : (UInt8.ofNat (48 + m)).toNat = 48 + m := by
  simp [UInt8.toNat_ofNat]; omega

theorem decL_all (m : Nat) : (decL m).all isDig = true := by
  induction m using Nat.strongRecOn with
  | _ m ih =>
    rw [decL]
    split
    · rename_i h; simp [isDig_iff]; omega
    · rename_i h
      simp only [List.all_append, ih (m / 10) (by omega), List.all_cons, List.all_nil, Bool.and_true, Bool.true_and]
      rw [isDig_iff, toNat_dig _ (by omega)]; omega
theorem decL_val (m : Nat) : valL (decL m) = m := by
  induction m using Nat.strongRecOn with
  | _ m ih =>
    rw [decL]
    split
    · rename_i h; simp only [valL, List.foldl_cons, List.foldl_nil, toNat_dig m h]; omega
    · rename_i h
      rw [valL_snoc, ih (m / 10) (by omega), toNat_dig _ (by omega)]; omega
theorem decL_ne (m : Nat) : decL m ≠ [] := by
  rw [decL]; split <;> simp
theorem decL_head (m : Nat) (hm : 0 < m) : (decL m).head? ≠ some 48 := by
  induction m using Nat.strongRecOn with
  | _ m ih =>
    rw [decL]
    split
    · rename_i h
      simp only [List.head?_cons, ne_eq, Option.some.injEq]
      intro e
      have := congrArg UInt8.toNat e
      rw [toNat_dig m h] at this
      simp at this; omega
    · rename_i h
      have h1 := ih (m / 10) (by omega) (by omega)
      have h2 := decL_ne (m / 10)
      cases hd : decL (m / 10) with
      | nil => exact absurd hd h2
      | cons a l => rw [hd] at h1; simpa using h1
theorem decL_zero : decL 0 = [48] := by rw [decL]; simp

theorem digT_dec (m : Nat) (neg : Bool) (h : neg = true → 0 < m) : digT (decL m) neg = true := by
  unfold digT
  rw [decL_all]
  have hne : (decL m).isEmpty = false := by simpa using decL_ne m
  rw [hne]
  by_cases hm : m = 0
  · subst hm
    have : neg = false := by
      cases neg
      · rfl
      · exact absurd (h rfl) (by omega)
    rw [decL_zero, this]; rfl
  · have := decL_head m (by omega)
    have e : ((decL m).head? == some 48) = false := by simpa using this
    rw [e]; rfl

theorem dig_ne45 {c : UInt8} (h : isDig c = true) : c ≠ 45 := by
  intro e; subst e; simp [isDig] at h
theorem negL_print (n : Int) : negL (printL n) = decide (n < 0) := by
  unfold printL
  split
  · rename_i h; simp [negL, h]
  · rename_i h
    have h2 := decL_all n.natAbs
    cases hd : decL n.natAbs with
    | nil => exact absurd hd (decL_ne _)
    | cons a l =>
      rw [hd] at h2
      simp only [List.all_cons, Bool.and_eq_true] at h2
      have := dig_ne45 h2.1
      have e2 : decide (n < 0) = false := by simpa using h
      rw [e2]; simp [negL, this]
theorem restL_print (n : Int) : restL (printL n) = decL n.natAbs := by
  unfold restL
  rw [negL_print]
  by_cases h : n < 0
  · simp [h, printL]
  · simp [h, printL]
theorem digL_print (n : Int) : digL (printL n) = true := by
  unfold digL
  rw [restL_print, negL_print]
  exact digT_dec _ _ (fun h => by have : n < 0 := by simpa using h
                                  omega)
/-- Parse undoes Print. -/
theorem parse_print (n : Int) (h0 : -9223372036854775808 ≤ n) (h1 : n ≤ 9223372036854775807) : parseL (printL n) = (n, 0) := by
  unfold parseL
  rw [if_pos (digL_print n), restL_print, foldP_spec _ (decL_all _), decL_val, if_pos (by omega), negL_print]
  by_cases h : n < 0
  · simp only [h, decide_true, if_true]; congr 1; omega
  · simp only [h, decide_false, Bool.false_eq_true, if_false]
    rw [if_neg (by omega)]; congr 1; omega

theorem val_pos (t : List UInt8) (hne : t ≠ []) (hall : t.all isDig = true) (hh : t.head? ≠ some 48) : 0 < valL t := by
  induction t using snoc_ind with
  | h0 => exact absurd rfl hne
  | h1 t c ih =>
    simp only [List.all_append, List.all_cons, List.all_nil, Bool.and_true, Bool.and_eq_true] at hall
    rw [valL_snoc]
    cases t with
    | nil =>
      have hc := (isDig_iff c).1 hall.2
      simp at hh
      have : c.toNat ≠ 48 := fun e => hh (by apply UInt8.toNat_inj.1; simpa using e)
      omega
    | cons a l =>
      have := ih (by simp) hall.1 (by simpa using hh)
      omega
theorem dec_val (t : List UInt8) (hne : t ≠ []) (hall : t.all isDig = true) (hh : t.head? = some 48 → t.length = 1) : decL (valL t) = t := by
  induction t using snoc_ind with
  | h0 => exact absurd rfl hne
  | h1 t c ih =>
    simp only [List.all_append, List.all_cons, List.all_nil, Bool.and_true, Bool.and_eq_true] at hall
    have hc := (isDig_iff c).1 hall.2
    have ec : UInt8.ofNat (48 + (c.toNat - 48)) = c := by
      apply UInt8.toNat_inj.1; rw [toNat_dig _ (by omega)]; omega
    rw [valL_snoc]
    cases t with
    | nil =>
      rw [decL, if_pos (by simp [valL]; omega)]
      simp only [valL, List.foldl_nil, Nat.zero_mul, Nat.zero_add, ec, List.nil_append]
    | cons a l =>
      have hh' : (a :: l).head? ≠ some 48 := by
        intro e
        have := hh (by simpa using e)
        simp at this
      have hp := val_pos (a :: l) (by simp) hall.1 hh'
      rw [decL, if_neg (by omega)]
      rw [show (valL (a :: l) * 10 + (c.toNat - 48)) / 10 = valL (a :: l) by omega, show (valL (a :: l) * 10 + (c.toNat - 48)) % 10 = c.toNat - 48 by omega]
      rw [ih (by simp) hall.1 (fun e => absurd e hh'), ec]
/-- What is parsed is printed as it stood. -/
theorem print_parse (s : List UInt8) (k : Int) (h : parseL s = (k, 0)) : printL k = s := by
  unfold parseL at h
  split at h
  · rename_i hd
    unfold digL digT at hd
    simp only [Bool.and_eq_true, Bool.not_eq_true', List.isEmpty_eq_false_iff] at hd
    obtain ⟨⟨h1, h2⟩, h3⟩ := hd
    have hdec : decL (valL (restL s)) = restL s := dec_val _ h1 h3 (fun e => by
      rw [e] at h2
      simp at h2
      have := h2.2
      cases hr : restL s with
      | nil => exact absurd hr h1
      | cons a l => rw [hr] at this; simp at this; subst this; rfl)
    rw [foldP_spec _ h3] at h
    by_cases hv : valL (restL s) ≤ 9223372036854775808
    · rw [if_pos hv] at h
      simp only at h
      by_cases hn : negL s = true
      · rw [if_pos hn] at h
        have hk : k = -(valL (restL s) : Int) := by injection h with h _; exact h.symm
        subst hk
        have hp : 0 < valL (restL s) := by
          refine val_pos _ h1 h3 ?_
          intro e
          rw [e, hn] at h2
          simp at h2
        unfold printL
        rw [if_pos (by omega), show (-(valL (restL s) : Int)).natAbs = valL (restL s) by omega, hdec]
        unfold restL
        rw [if_pos hn]
        unfold negL at hn
        cases s with
        | nil => simp at hn
        | cons a l => simp at hn; subst hn; rfl
      · rw [if_neg hn] at h
        split at h
        · injection h with _ h; exact absurd h (by decide)
        · have hk : k = (valL (restL s) : Int) := by injection h with h _; omega
          subst hk
          unfold printL
          rw [if_neg (by omega), show ((valL (restL s) : Int)).natAbs = valL (restL s) by omega, hdec]
          unfold restL
          rw [if_neg hn]
    · rw [if_neg hv] at h
      simp only at h
      injection h with _ h; exact absurd h (by decide)
  · injection h with _ h; exact absurd h (by decide)
end Go.Proofs.YtphhgdgamnogpaaDoor

namespace Go.Proofs.YtphhgdgamnogpaaDoor
open Go.RowKit

set_option maxHeartbeats 400000 in
theorem dcut_any (l : List UInt8) (hs : l.length ≤ 9223372036854775807) (w : World) :
    Calls Tryd.prog 155 #[.string (bs l), .string ⟨#[45]⟩] w fun e w' => e = .returned (.tuple #[.string (bs (restL l)), .bool (negL l)]) ∧ w = w' := by
  cases l with
  | nil =>
    go_enter Tryd.func155, Tryd.ntmps155
    go_wp2
    go_ret2
    exact ⟨rfl, rfl⟩
  | cons a l =>
    by_cases h : a = 45
    · subst h
      simp only [List.length_cons] at hs
      go_enter Tryd.func155, Tryd.ntmps155
      go_wp2
      go_ret2
      exact ⟨by simp [restL, negL], rfl⟩
    · have h' : (a == 45) = false := by simpa using h
      simp only [List.length_cons] at hs
      go_enter Tryd.func155, Tryd.ntmps155
      go_wp2
      go_ret2
      exact ⟨by simp [restL, negL, h'], rfl⟩

theorem cut_of (l t : List UInt8) (neg : Bool) (ht : restL l = t) (hn : negL l = neg) (hs : l.length ≤ 9223372036854775807) (w : World) :
    Calls Tryd.prog 155 #[.string (bs l), .string ⟨#[45]⟩] w fun e w' => e = .returned (.tuple #[.string (bs t), .bool neg]) ∧ w = w' := by
  subst ht; subst hn; exact dcut_any l hs w

/-- A loop's end: what has been seen are digits. -/
theorem all_take_succ (t : List UInt8) (k : Nat) (hk : k < t.length) (h : (t.take k).all isDig = true) (hd : isDig t[k] = true) : (t.take (k + 1)).all isDig = true := by
  rw [List.take_succ_eq_append_getElem hk, List.all_append, h]; simp [hd]
theorem not_all (t : List UInt8) (k : Nat) (hk : k < t.length) (hd : isDig t[k] = false) : t.all isDig = false := by
  rw [List.all_eq_false]; exact ⟨t[k], List.getElem_mem hk, by simp [hd]⟩

theorem ret_bool {a b : Bool} (h : a = b) : Ending.returned (.bool a) = .returned (.bool b) := by rw [h]
theorem u8_eq (a b : UInt8) : ((a.toNat : Int) == (b.toNat : Int)) = (a == b) := by
  rw [Bool.eq_iff_iff]; simp only [beq_iff_eq, ← UInt8.toNat_inj]; omega

set_option maxHeartbeats 1000000 in
/-- Digits, where the loop is reached. -/
theorem digits_run (l : List UInt8) (a : UInt8) (r : List UInt8) (neg : Bool) (ht : restL l = a :: r) (hn : negL l = neg) (hs : l.length ≤ 9223372036854775807) (hr : r.length + 1 ≤ 9223372036854775807)
    (hc : (a == 48) = false) (res : Bool) (hres : (a :: r).all isDig = res) (w : World) :
    Calls Tryd.prog 154 #[.string (bs l)] w fun e w' => e = .returned (.bool res) ∧ w = w' := by
  have HR := Lib.hid hres
  clear hres
  have HC := Lib.hid (cut_of l (a :: r) neg ht hn hs)
  clear ht hn hs
  have ha : ((a.toNat : Int) == 48) = false := by rw [← hc]; exact u8_eq a 48
  go_enter Tryd.func154, Tryd.ntmps154
  go_wp2_with (go_at_call 155; refine (HC.out _).mono ?_; rintro e w1 ⟨rfl, rfl⟩)
  clear HC ha hc
  have e1 : ((r.length : Int) + 1) = ((a :: r).length : Int) := by simp
  have e2 : (a :: r).length ≤ 9223372036854775807 := by simpa using hr
  rw [e1]
  clear e1 hr
  generalize a :: r = t at *
  go_loop [5, 28] (fun _ i => ∃ k : Nat, k ≤ t.length ∧ i = .int .i64 k ∧ (t.take k).all isDig = true) (fun _ i => t.length - (intOf i).toNat)
  case atStart => exact ⟨0, Nat.zero_le _, rfl, rfl⟩
  case round =>
    obtain ⟨k, hk, rfl, hall⟩ := hrel
    have HA := Lib.hid hall
    clear hall
    by_cases hlt : k < t.length
    · by_cases hd : isDig t[k] = true
      · have HS := Lib.hid (all_take_succ t k hlt HA.out hd)
        have hd1 := ((isDig_iff _).1 hd).1
        have hd2 := ((isDig_iff _).1 hd).2
        clear hd
        go_wp2
        go_round
        case rel => exact ⟨k + 1, by omega, by go_num, HS.out⟩
        case measure => simp [intOf]; omega
      · have hf : isDig t[k] = false := by simpa using hd
        have HF := Lib.hid (not_all t k hlt hf)
        have hor : t[k].toNat < 48 ∨ (48 ≤ t[k].toNat ∧ 57 < t[k].toNat) := by
          have : ¬ (48 ≤ t[k].toNat ∧ t[k].toNat ≤ 57) := fun h => hd ((isDig_iff _).2 h)
          omega
        clear hd hf
        rcases hor with h1 | ⟨h1, h2⟩
        all_goals
          go_wp2
          go_ret
          exact ⟨ret_bool (HF.out.symm.trans HR.out), rfl⟩
    · have e : t.take k = t := List.take_of_length_le (by omega)
      have HA' := HA.out
      rw [e] at HA'
      have HB := Lib.hid HA'
      clear HA HA' e
      go_wp2
      go_ret
      exact ⟨ret_bool (HB.out.symm.trans HR.out), rfl⟩

set_option maxHeartbeats 1000000 in
theorem digits_zero (l : List UInt8) (ht : restL l = [48]) (hn : negL l = false) (hs : l.length ≤ 9223372036854775807) (w : World) :
    Calls Tryd.prog 154 #[.string (bs l)] w fun e w' => e = .returned (.bool true) ∧ w = w' := by
  have HC := Lib.hid (cut_of l [48] false ht hn hs)
  clear ht hn hs
  go_enter Tryd.func154, Tryd.ntmps154
  go_wp2_with (go_at_call 155; refine (HC.out _).mono ?_; rintro e w1 ⟨rfl, rfl⟩)
  go_rounds 2
  go_ret
  exact ⟨rfl, rfl⟩
set_option maxHeartbeats 1000000 in
theorem digits_nil (l : List UInt8) (neg : Bool) (ht : restL l = []) (hn : negL l = neg) (hs : l.length ≤ 9223372036854775807) (w : World) :
    Calls Tryd.prog 154 #[.string (bs l)] w fun e w' => e = .returned (.bool false) ∧ w = w' := by
  have HC := Lib.hid (cut_of l [] neg ht hn hs)
  clear ht hn hs
  go_enter Tryd.func154, Tryd.ntmps154
  go_wp2_with (go_at_call 155; refine (HC.out _).mono ?_; rintro e w1 ⟨rfl, rfl⟩)
  go_ret
  exact ⟨rfl, rfl⟩
set_option maxHeartbeats 1000000 in
theorem digits_lead (l r : List UInt8) (neg : Bool) (ht : restL l = 48 :: r) (hn : negL l = neg) (hs : l.length ≤ 9223372036854775807) (hr : r.length + 1 ≤ 9223372036854775807) (hc : neg = true ∨ (neg = false ∧ 0 < r.length)) (w : World) :
    Calls Tryd.prog 154 #[.string (bs l)] w fun e w' => e = .returned (.bool false) ∧ w = w' := by
  have HC := Lib.hid (cut_of l (48 :: r) neg ht hn hs)
  clear ht hn hs
  rcases hc with rfl | ⟨rfl, hc⟩
  all_goals
    go_enter Tryd.func154, Tryd.ntmps154
    go_wp2_with (go_at_call 155; refine (HC.out _).mono ?_; rintro e w1 ⟨rfl, rfl⟩)
    go_ret
    exact ⟨rfl, rfl⟩
theorem rest_len (l : List UInt8) : (restL l).length ≤ l.length := by unfold restL; split <;> simp
theorem digits_any (l : List UInt8) (hs : l.length ≤ 9223372036854775807) (w : World) :
    Calls Tryd.prog 154 #[.string (bs l)] w fun e w' => e = .returned (.bool (digL l)) ∧ w = w' := by
  have hl := rest_len l
  unfold digL
  cases ht : restL l with
  | nil => exact digits_nil l _ ht rfl hs w
  | cons a r =>
    rw [ht] at hl
    simp only [List.length_cons] at hl
    by_cases ha : a = 48
    · subst ha
      by_cases hc : negL l = true ∨ 0 < r.length
      · have e : digT (48 :: r) (negL l) = false := by
          rcases hc with h | h <;> simp [digT, h]
        rw [e]
        refine digits_lead l r _ ht rfl hs (by omega) ?_ w
        cases hn : negL l
        · rw [hn] at hc; exact .inr ⟨rfl, by simpa using hc⟩
        · exact .inl rfl
      · have hn : negL l = false := by
          cases h : negL l
          · rfl
          · exact absurd (.inl h) hc
        have hr : r = [] := List.eq_nil_of_length_eq_zero (by have : ¬ 0 < r.length := fun h => hc (.inr h)
                                                              omega)
        subst hr
        rw [hn, show digT [48] false = true from rfl]
        exact digits_zero l ht hn hs w
    · have ha' : (a == 48) = false := by simpa using ha
      have e : digT (a :: r) (negL l) = (a :: r).all isDig := by
        unfold digT
        rw [List.head?_cons, show ((some a : Option UInt8) == some 48) = false by simpa using ha]
        simp
      rw [e]
      exact digits_run l a r _ ht rfl hs (by omega) ha' _ rfl w

/-! ### The reference's Digits. -/
set_option maxHeartbeats 2000000 in
theorem refdigits_neg (a : UInt8) (r : List UInt8) (hr : r.length + 2 ≤ 9223372036854775807)
    (hc : (a == 48) = false) (res : Bool) (hres : (a :: r).all isDig = res) (w : World) :
    Calls Tryd.prog 156 #[.string (bs (45 :: a :: r))] w fun e w' => e = .returned (.bool res) ∧ w = w' := by
  have HR := Lib.hid hres
  clear hres
  have ha : ((a.toNat : Int) == 48) = false := by rw [← hc]; exact u8_eq a 48
  rcases (show ((r.length : Int) + 1 ≤ 1) ∨ (1 : Int) < (r.length : Int) + 1 by omega) with hcase | hcase
  all_goals
    go_enter Tryd.func156, Tryd.ntmps156
    go_wp2_with fail
    clear ha hc
    have e2 : (a :: r).length ≤ 9223372036854775807 := by simp; omega
    clear hr hcase
    generalize a :: r = t at *
    go_loop [4] (fun i => ∃ k : Nat, k ≤ t.length ∧ i = .int .i64 k ∧ (t.take k).all isDig = true) (fun i => t.length - (intOf i).toNat)
    case atStart => exact ⟨0, Nat.zero_le _, rfl, rfl⟩
    case round =>
      obtain ⟨k, hk, rfl, hall⟩ := hrel
      have HA := Lib.hid hall
      clear hall
      by_cases hlt : k < t.length
      · by_cases hd : isDig t[k] = true
        · have HS := Lib.hid (all_take_succ t k hlt HA.out hd)
          have hd1 := ((isDig_iff _).1 hd).1
          have hd2 := ((isDig_iff _).1 hd).2
          clear hd
          go_wp2
          go_round
          case rel => exact ⟨k + 1, by omega, by go_num, HS.out⟩
          case measure => simp [intOf]; omega
        · have hf : isDig t[k] = false := by simpa using hd
          have HF := Lib.hid (not_all t k hlt hf)
          have hor : t[k].toNat < 48 ∨ (48 ≤ t[k].toNat ∧ 57 < t[k].toNat) := by
            have : ¬ (48 ≤ t[k].toNat ∧ t[k].toNat ≤ 57) := fun h => hd ((isDig_iff _).2 h)
            omega
          clear hd hf
          rcases hor with h1 | ⟨h1, h2⟩
          all_goals
            go_wp2
            go_ret
            exact ⟨ret_bool (HF.out.symm.trans HR.out), rfl⟩
      · have e : t.take k = t := List.take_of_length_le (by omega)
        have HA' := HA.out
        rw [e] at HA'
        have HB := Lib.hid HA'
        clear HA HA' e
        go_wp2
        go_ret
        exact ⟨ret_bool (HB.out.symm.trans HR.out), rfl⟩
set_option maxHeartbeats 2000000 in
theorem refdigits_pos (a : UInt8) (r : List UInt8) (hr : r.length + 2 ≤ 9223372036854775807)
    (hc : (a == 48) = false) (hm : (a == 45) = false) (res : Bool) (hres : (a :: r).all isDig = res) (w : World) :
    Calls Tryd.prog 156 #[.string (bs (a :: r))] w fun e w' => e = .returned (.bool res) ∧ w = w' := by
  have HR := Lib.hid hres
  clear hres
  have ha : ((a.toNat : Int) == 48) = false := by rw [← hc]; exact u8_eq a 48
  have hm' : ((a.toNat : Int) == 45) = false := by rw [← hm]; exact u8_eq a 45
  rcases (show ((r.length : Int) + 1 ≤ 1) ∨ (1 : Int) < (r.length : Int) + 1 by omega) with hcase | hcase
  all_goals
    go_enter Tryd.func156, Tryd.ntmps156
    go_wp2_with fail
    clear hm hm'
    clear ha hc
    have e2 : (a :: r).length ≤ 9223372036854775807 := by simp; omega
    clear hr hcase
    generalize a :: r = t at *
    go_loop [4] (fun i => ∃ k : Nat, k ≤ t.length ∧ i = .int .i64 k ∧ (t.take k).all isDig = true) (fun i => t.length - (intOf i).toNat)
    case atStart => exact ⟨0, Nat.zero_le _, rfl, rfl⟩
    case round =>
      obtain ⟨k, hk, rfl, hall⟩ := hrel
      have HA := Lib.hid hall
      clear hall
      by_cases hlt : k < t.length
      · by_cases hd : isDig t[k] = true
        · have HS := Lib.hid (all_take_succ t k hlt HA.out hd)
          have hd1 := ((isDig_iff _).1 hd).1
          have hd2 := ((isDig_iff _).1 hd).2
          clear hd
          go_wp2
          go_round
          case rel => exact ⟨k + 1, by omega, by go_num, HS.out⟩
          case measure => simp [intOf]; omega
        · have hf : isDig t[k] = false := by simpa using hd
          have HF := Lib.hid (not_all t k hlt hf)
          have hor : t[k].toNat < 48 ∨ (48 ≤ t[k].toNat ∧ 57 < t[k].toNat) := by
            have : ¬ (48 ≤ t[k].toNat ∧ t[k].toNat ≤ 57) := fun h => hd ((isDig_iff _).2 h)
            omega
          clear hd hf
          rcases hor with h1 | ⟨h1, h2⟩
          all_goals
            go_wp2
            go_ret
            exact ⟨ret_bool (HF.out.symm.trans HR.out), rfl⟩
      · have e : t.take k = t := List.take_of_length_le (by omega)
        have HA' := HA.out
        rw [e] at HA'
        have HB := Lib.hid HA'
        clear HA HA' e
        go_wp2
        go_ret
        exact ⟨ret_bool (HB.out.symm.trans HR.out), rfl⟩
set_option maxHeartbeats 1000000 in
theorem refdigits_one (w : World) :
    Calls Tryd.prog 156 #[.string (bs [48])] w fun e w' => e = .returned (.bool true) ∧ w = w' := by
  go_enter Tryd.func156, Tryd.ntmps156
  go_wp2_with fail
  go_rounds 2
  go_ret
  exact ⟨rfl, rfl⟩
set_option maxHeartbeats 1000000 in
theorem refdigits_nil (w : World) :
    Calls Tryd.prog 156 #[.string (bs [])] w fun e w' => e = .returned (.bool false) ∧ w = w' := by
  go_enter Tryd.func156, Tryd.ntmps156
  go_wp2_with fail
  go_ret
  exact ⟨rfl, rfl⟩
set_option maxHeartbeats 1000000 in
theorem refdigits_minus (w : World) :
    Calls Tryd.prog 156 #[.string (bs [45])] w fun e w' => e = .returned (.bool false) ∧ w = w' := by
  go_enter Tryd.func156, Tryd.ntmps156
  go_wp2_with fail
  go_ret
  exact ⟨rfl, rfl⟩
set_option maxHeartbeats 1000000 in
theorem refdigits_minuszero (r : List UInt8) (hr : r.length + 2 ≤ 9223372036854775807) (w : World) :
    Calls Tryd.prog 156 #[.string (bs (45 :: 48 :: r))] w fun e w' => e = .returned (.bool false) ∧ w = w' := by
  cases r with
  | nil =>
    go_enter Tryd.func156, Tryd.ntmps156
    go_wp2_with fail
    go_ret
    exact ⟨rfl, rfl⟩
  | cons b r =>
    simp only [List.length_cons] at hr
    go_enter Tryd.func156, Tryd.ntmps156
    go_wp2_with fail
    go_ret
    exact ⟨rfl, rfl⟩
set_option maxHeartbeats 1000000 in
theorem refdigits_zero (b : UInt8) (r : List UInt8) (hr : r.length + 2 ≤ 9223372036854775807) (w : World) :
    Calls Tryd.prog 156 #[.string (bs (48 :: b :: r))] w fun e w' => e = .returned (.bool false) ∧ w = w' := by
  go_enter Tryd.func156, Tryd.ntmps156
  go_wp2_with fail
  go_ret
  exact ⟨rfl, rfl⟩

theorem refdigits_any (l : List UInt8) (hs : l.length ≤ 9223372036854775806) (w : World) :
    Calls Tryd.prog 156 #[.string (bs l)] w fun e w' => e = .returned (.bool (digL l)) ∧ w = w' := by
  have hne : ∀ (a : UInt8) (neg : Bool) (r : List UInt8), a ≠ 48 → digT (a :: r) neg = (a :: r).all isDig := fun a neg r ha => by
    unfold digT
    rw [List.head?_cons, show ((some a : Option UInt8) == some 48) = false by simpa using ha]
    simp
  cases l with
  | nil => exact refdigits_nil w
  | cons a l =>
    simp only [List.length_cons] at hs
    by_cases hm : a = 45
    · subst hm
      have e : digL (45 :: l) = digT l true := by simp [digL, restL, negL]
      rw [e]
      cases l with
      | nil => exact refdigits_minus w
      | cons b r =>
        simp only [List.length_cons] at hs
        by_cases hb : b = 48
        · subst hb
          rw [show digT (48 :: r) true = false by simp [digT]]
          exact refdigits_minuszero r (by omega) w
        · rw [hne b true r hb]
          exact refdigits_neg b r (by omega) (by simpa using hb) _ rfl w
    · have hm' : (a == 45) = false := by simpa using hm
      have hn : negL (a :: l) = false := by simp [negL, hm]
      have e : digL (a :: l) = digT (a :: l) false := by simp [digL, restL, hn]
      rw [e]
      by_cases ha : a = 48
      · subst ha
        cases l with
        | nil => exact refdigits_one w
        | cons b r =>
          simp only [List.length_cons] at hs
          rw [show digT (48 :: b :: r) false = false by simp [digT]]
          exact refdigits_zero b r (by omega) w
      · rw [hne a false l ha]
        exact refdigits_pos a l (by omega) (by simpa using ha) hm' _ rfl w
end Go.Proofs.YtphhgdgamnogpaaDoor
