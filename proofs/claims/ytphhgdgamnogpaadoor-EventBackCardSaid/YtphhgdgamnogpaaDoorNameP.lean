/-
  Layer 2 (name) in plain words: a text's runes, what a name is, which of two texts is ahead; no program in sight. No conditions.
-/
import Derived.Test.YtphhgdgamnogpaaDoorBase
import Derived.Lib.ValidLaws
import Derived.Lib.MapLaws
import GoSem.Conv.StringToRunes
namespace Go.Proofs.YtphhgdgamnogpaaDoor
open Go.Lib

/-- A text's runes, one behind the other, by at most so many steps of the decoder. -/
def runesGo : Nat → List UInt8 → List Nat
  | 0, _ => []
  | n + 1, l => if l = [] then [] else (decodeL l).1 :: runesGo n (l.drop (decodeL l).2)
/-- A text's runes. -/
def runesU (l : List UInt8) : List Nat := runesGo l.length l
theorem runesGo_nil : ∀ n, runesGo n [] = []
  | 0 => rfl
  | _ + 1 => by simp [runesGo]
theorem runesGo_fuel : ∀ (n m : Nat) (l : List UInt8), l.length ≤ n → l.length ≤ m → runesGo n l = runesGo m l
  | 0, m, l, hn, _ => by
    have : l = [] := List.eq_nil_of_length_eq_zero (by omega)
    subst this
    rw [runesGo_nil, runesGo_nil]
  | n + 1, 0, l, _, hm => by
    have : l = [] := List.eq_nil_of_length_eq_zero (by omega)
    subst this
    rw [runesGo_nil, runesGo_nil]
  | n + 1, m + 1, l, hn, hm => by
    unfold runesGo
    by_cases hne : l = []
    · simp [hne]
    · have hw := decodeL_width l
      have hl : 0 < l.length := List.length_pos_iff.2 hne
      rw [if_neg hne, if_neg hne, runesGo_fuel n m (l.drop (decodeL l).2) (by rw [List.length_drop]; omega) (by rw [List.length_drop]; omega)]
theorem runesU_nil : runesU [] = [] := rfl
theorem runesU_step (l : List UInt8) (hne : l ≠ []) : runesU l = (decodeL l).1 :: runesU (l.drop (decodeL l).2) := by
  have hl : 0 < l.length := List.length_pos_iff.2 hne
  have hw := decodeL_width l
  obtain ⟨n, hn⟩ : ∃ n, l.length = n + 1 := ⟨l.length - 1, by omega⟩
  unfold runesU
  rw [hn]
  show (if l = [] then [] else _) = _
  rw [if_neg hne, runesGo_fuel n (l.drop (decodeL l).2).length _ (by rw [List.length_drop]; omega) (Nat.le_refl _)]
theorem runesGo_length : ∀ (n : Nat) (l : List UInt8), (runesGo n l).length ≤ n
  | 0, _ => by simp [runesGo]
  | n + 1, l => by
    unfold runesGo
    split
    · simp
    · have := runesGo_length n (l.drop (decodeL l).2)
      simp only [List.length_cons]; omega
theorem runesU_length (l : List UInt8) : (runesU l).length ≤ l.length := runesGo_length _ _
theorem runesGo_rune : ∀ (n : Nat) (l : List UInt8), ∀ c ∈ runesGo n l, c ≤ 1114111
  | 0, _ => by simp [runesGo]
  | n + 1, l => by
    unfold runesGo
    split
    · simp
    · have := runesGo_rune n (l.drop (decodeL l).2)
      have hd := decodeL_rune l
      intro c hc
      rcases List.mem_cons.1 hc with rfl | hc
      · exact hd
      · exact this c hc
theorem runesU_rune (l : List UInt8) : ∀ c ∈ runesU l, c ≤ 1114111 := runesGo_rune _ _

/-- The model's own conversion, by the same list. -/
theorem runesFrom_go (s : ByteArray) : ∀ (b i : Nat) (acc : Array Value), Conv.runesFrom s b i acc = acc ++ ((runesGo b (s.data.toList.drop i)).map fun (n : Nat) => Value.int .i32 (n : Int)).toArray
  | 0, i, acc => by simp [Conv.runesFrom, runesGo]
  | b + 1, i, acc => by
    unfold Conv.runesFrom runesGo
    by_cases h : i < s.size
    · have hne : s.data.toList.drop i ≠ [] := by
        intro e
        have := congrArg List.length e
        simp at this
        omega
      rw [if_pos h, if_neg hne]
      simp only []
      rw [runesFrom_go s b]
      simp [decodeL_drop, List.drop_drop]
    · have he : s.data.toList.drop i = [] := List.drop_eq_nil_of_le (by rw [← Lib.size_eq]; omega)
      rw [if_neg h, he]
      simp
theorem runesFrom_all (l : List UInt8) : Conv.runesFrom (bs l) (bs l).size 0 #[] = ((runesU l).map fun (n : Nat) => Value.int .i32 (n : Int)).toArray := by
  rw [runesFrom_go]
  simp [bs, runesU, ByteArray.size]

/-! ### what a name is -/
def dig (c : Nat) : Bool := decide (48 ≤ c) && decide (c ≤ 57)
/-- May a rune stand in a name? -/
def part (c : Nat) : Bool := decide (127 < c) || decide (c = 95) || dig c || (decide (97 ≤ c) && decide (c ≤ 122)) || (decide (65 ≤ c) && decide (c ≤ 90))
/-- Is a text reserved? -/
def resL (l : List UInt8) : Bool :=
  decide (l = [98, 101, 103, 105, 110] ∨ l = [114, 101, 97, 100] ∨ l = [119, 114, 105, 116, 101] ∨ l = [111, 107] ∨ l = [102, 97, 105, 108] ∨ l = [105, 110, 102, 111] ∨ l = [110, 105, 108])
/-- Are these runes a name's? -/
def word (r : List Nat) : Bool := decide (0 < r.length) && decide (r.length ≤ 20) && r.all part && !dig (r.getD 0 0)
def nameL (l : List UInt8) : Bool := !resL l && validD l && word (runesU l)

/-! ### which of two is ahead -/
def lexLess : List Nat → List Nat → Bool
  | [], [] => false
  | [], _ :: _ => true
  | _ :: _, [] => false
  | a :: x, b :: y => if a = b then lexLess x y else decide (a < b)
def lexCmp : List Nat → List Nat → Int
  | [], [] => 0
  | [], _ :: _ => -1
  | _ :: _, [] => 1
  | a :: x, b :: y => if a = b then lexCmp x y else if a < b then -1 else 1
theorem lexCmp_less : ∀ x y, lexLess x y = decide (lexCmp x y < 0)
  | [], [] => rfl
  | [], _ :: _ => rfl
  | _ :: _, [] => rfl
  | a :: x, b :: y => by
    unfold lexLess lexCmp
    split
    · exact lexCmp_less x y
    · split <;> simp [*]
theorem lex_same : ∀ x y, (x = y) ↔ (lexLess x y = lexLess y x)
  | [], [] => by simp [lexLess]
  | [], _ :: _ => by simp [lexLess]
  | _ :: _, [] => by simp [lexLess]
  | a :: x, b :: y => by
    unfold lexLess
    by_cases h : a = b
    · subst h
      simp [lex_same x y]
    · have h' : ¬ b = a := fun e => h e.symm
      simp [h, h']
      omega
theorem lex_not_both : ∀ x y, (lexLess x y && lexLess y x) = false
  | [], [] => rfl
  | [], _ :: _ => rfl
  | _ :: _, [] => rfl
  | a :: x, b :: y => by
    unfold lexLess
    by_cases h : a = b
    · subst h
      simpa using lex_not_both x y
    · have h' : ¬ b = a := fun e => h e.symm
      simp [h, h']
      omega
theorem lexCmp_skip : ∀ (p x y : List Nat), lexCmp (p ++ x) (p ++ y) = lexCmp x y
  | [], _, _ => rfl
  | a :: p, x, y => by simp [lexCmp, lexCmp_skip p x y]

theorem decodeL_le' (l : List UInt8) (hne : l ≠ []) : 1 ≤ (decodeL l).2 ∧ (decodeL l).2 ≤ l.length := ⟨decodeL_width l, decodeL_le l hne⟩

/-! ### that valid texts' runes tell them -/
/-- Runes as UTF-8. -/
def textU (r : List Nat) : List UInt8 := r.flatMap fun (c : Nat) => encodeRune (c : Int)
theorem textU_runes : ∀ (n : Nat) (l : List UInt8), l.length ≤ n → validD l = true → textU (runesU l) = l
  | 0, l, h, _ => by
    have : l = [] := List.eq_nil_of_length_eq_zero (by omega)
    subst this; rfl
  | n + 1, l, h, hv => by
    by_cases hne : l = []
    · subst hne; rfl
    · have hw := decodeL_le' l hne
      rw [validD_step l hne] at hv
      by_cases hb : (decodeL l).1 = 65533 ∧ (decodeL l).2 = 1
      · simp [hb] at hv
      · rw [if_neg hb] at hv
        have ih := textU_runes n (l.drop (decodeL l).2) (by rw [List.length_drop]; omega) hv
        rw [runesU_step l hne]
        show encodeRune ((decodeL l).1 : Int) ++ textU (runesU (l.drop (decodeL l).2)) = l
        rw [encode_decode l hne hb, ih, List.take_append_drop]
theorem runes_inj (a b : List UInt8) (ha : validD a = true) (hb : validD b = true) : runesU a = runesU b ↔ a = b := by
  constructor
  · intro h
    rw [← textU_runes _ a (Nat.le_refl _) ha, ← textU_runes _ b (Nat.le_refl _) hb, h]
  · rintro rfl; rfl
end Go.Proofs.YtphhgdgamnogpaaDoor
