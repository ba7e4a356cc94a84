/-
  Layer 1 (line) in plain words: a text's lines, in the program's way and in the reference's; no program in sight. No conditions.
-/
import Derived.Test.YtphhgdgamnogpaaDoorLineS
import Derived.Test.YtphhgdgamnogpaaDoorNameO
import Derived.Lib.SplitLaws
namespace Go.Proofs.YtphhgdgamnogpaaDoor
open Go.Lib

/-- The lines of a text, of which a first part has been seen. -/
def linesAux : List UInt8 → List UInt8 → List (List UInt8)
  | cur, [] => if cur = [] then [] else [cur]
  | cur, b :: t => if b = 10 then cur :: linesAux [] t else linesAux (cur ++ [b]) t
def linesL (s : List UInt8) : List (List UInt8) := linesAux [] s
/-- A text parted at each line feed. -/
def partAux : List UInt8 → List UInt8 → List (List UInt8)
  | cur, [] => [cur]
  | cur, b :: t => if b = 10 then cur :: partAux [] t else partAux (cur ++ [b]) t
theorem index_cons_ne (b : UInt8) (l : List UInt8) (h : b ≠ 10) : index (b :: l) [10] = if index l [10] == -1 then -1 else index l [10] + 1 := by
  have hp : ([10] : List UInt8).isPrefixOf (b :: l) = false := by simp [List.isPrefixOf, Ne.symm h]
  rw [index, hp]
  simp
theorem split_part : ∀ s : List UInt8, ∃ h t, splitK [10] 0 (count s [10]) s = h :: t ∧ ∀ cur, partAux cur s = (cur ++ h) :: t
  | [] => ⟨[], [], by rw [count_miss (by simp [index])]; rfl, fun cur => by simp [partAux]⟩
  | b :: s => by
    obtain ⟨h, t, ih, ic⟩ := split_part s
    by_cases hb : b = 10
    · subst hb
      have hi : index ((10 : UInt8) :: s) [10] = 0 := by rw [index]; simp [List.isPrefixOf]
      refine ⟨[], h :: t, ?_, fun cur => ?_⟩
      · rw [count_cons_eq, Nat.add_comm 1]
        unfold splitK
        rw [hi, if_neg (by decide)]
        simp [ih]
      · have := ic []
        simp only [partAux, if_pos]
        rw [this]
        simp
    · rw [count_cons_ne b 10 s hb]
      have hx := index_cons_ne b s hb
      cases hk : count s [10] with
      | zero =>
        rw [hk] at ih
        refine ⟨b :: s, [], rfl, fun cur => ?_⟩
        simp only [splitK, List.cons.injEq] at ih
        obtain ⟨rfl, rfl⟩ := ih
        simp only [partAux, if_neg hb, ic]
        simp
      | succ k =>
        rw [hk] at ih
        obtain ⟨i, hi⟩ : ∃ i : Nat, index s [10] = i := by
          rcases index_spec s [10] with ⟨h1, -⟩ | ⟨i, h1, -⟩
          · rw [count_miss h1] at hk; omega
          · exact ⟨i, h1⟩
        have hm : ¬ ((i : Int) == -1) = true := fun e => by have := beq_iff_eq.1 e; omega
        rw [hi, if_neg hm] at hx
        have hm' : ¬ ((i : Int) + 1 == -1) = true := fun e => by have := beq_iff_eq.1 e; omega
        have e1 : ((i : Int)).toNat = i := by omega
        have e2 : ((i : Int) + 1).toNat = i + 1 := by omega
        unfold splitK at ih ⊢
        rw [hi, if_neg hm, e1] at ih
        rw [hx, if_neg hm', e2]
        simp only [List.cons.injEq] at ih
        obtain ⟨rfl, rfl⟩ := ih
        refine ⟨b :: List.take i s, splitK [10] 0 k (List.drop (i + 1) s), ?_, fun cur => ?_⟩
        · simp only [List.length_cons, List.length_nil, Nat.add_zero, Nat.zero_add, List.take_succ_cons, List.drop_succ_cons]
        · simp only [partAux, if_neg hb, ic]
          simp
theorem split_eq (s : List UInt8) : splitK [10] 0 (count s [10]) s = partAux [] s := by
  obtain ⟨h, t, h1, h2⟩ := split_part s
  rw [h1, h2]
  rfl
theorem lines_fed : ∀ (t cur : List UInt8), linesAux cur (t ++ [10]) = partAux cur t
  | [], cur => by simp [linesAux, partAux]
  | b :: t, cur => by
    simp only [List.cons_append, linesAux, partAux]
    rw [lines_fed t, lines_fed t]
theorem lines_bare : ∀ (s cur : List UInt8), (cur ≠ [] ∨ s ≠ []) → s.getLast? ≠ some 10 → linesAux cur s = partAux cur s
  | [], cur, h, _ => by
    have : cur ≠ [] := by simpa using h
    simp [linesAux, partAux, this]
  | [b], cur, _, hl => by
    have : ¬ b = 10 := by simpa using hl
    simp [linesAux, partAux, this]
  | b :: c :: t, cur, _, hl => by
    have hl' : (c :: t).getLast? ≠ some 10 := by simpa [List.getLast?_cons_cons] using hl
    simp only [linesAux, partAux]
    by_cases hb : b = 10
    · rw [if_pos hb, if_pos hb]
      exact congrArg _ (lines_bare (c :: t) [] (.inr (by simp)) hl')
    · rw [if_neg hb, if_neg hb]
      exact lines_bare (c :: t) _ (.inr (by simp)) hl'
theorem snoc_cases (s : List UInt8) : s = [] ∨ ∃ t b, s = t ++ [b] := by
  rcases List.eq_nil_or_concat s with h | ⟨t, b, h⟩
  · exact .inl h
  · exact .inr ⟨t, b, by simpa using h⟩
theorem suffix_snoc (t : List UInt8) (b : UInt8) : hasSuffix (t ++ [b]) [10] = decide (b = 10) := by
  unfold hasSuffix
  rw [Bool.eq_iff_iff]
  rw [List.isSuffixOf_iff_suffix]
  simp only [decide_eq_true_eq]
  constructor
  · rintro ⟨u, hu⟩
    have := List.append_inj_right' hu rfl
    simpa using this.symm
  · rintro rfl
    exact ⟨t, rfl⟩
/-- The program's lines are the text's. -/
theorem split_lines (s : List UInt8) (h : s ≠ []) : partAux [] (trimSuffix s [10]) = linesL s := by
  rcases snoc_cases s with h0 | ⟨t, b, rfl⟩
  · exact absurd h0 h
  · unfold trimSuffix linesL
    rw [suffix_snoc]
    by_cases hb : b = 10
    · subst hb
      simp only [decide_true, if_true]
      rw [lines_fed]
      simp
    · simp only [hb, decide_false]
      rw [lines_bare _ _ (.inr h) (by simpa using hb)]
      rfl

/-! ### which lines are told, or the first that is none -/
/-- The lines, the number of a first one that is not UTF-8, and the error. -/
def resGo (full : List (List UInt8)) : Nat → List (List UInt8) → List (List UInt8) × Nat × Nat
  | _, [] => (full, 0, 0)
  | n, x :: r => if validD x then resGo full (n + 1) r else ([], n + 1, 5)
def ofL (s : List UInt8) : List (List UInt8) × Nat × Nat := if 65536 < s.length then ([], 0, 6) else resGo (linesL s) 0 (linesL s)
/-- The reference's way. -/
def refGo : List (List UInt8) → List UInt8 → List UInt8 → List (List UInt8) × Nat × Nat
  | out, cur, [] => if cur = [] then (out, 0, 0) else if validD cur then (out ++ [cur], 0, 0) else ([], out.length + 1, 5)
  | out, cur, b :: t => if b = 10 then (if validD cur then refGo (out ++ [cur]) [] t else ([], out.length + 1, 5)) else refGo out (cur ++ [b]) t
theorem ref_res : ∀ (t cur : List UInt8) (out : List (List UInt8)), refGo out cur t = resGo (out ++ linesAux cur t) out.length (linesAux cur t)
  | [], cur, out => by
    unfold refGo linesAux
    by_cases h : cur = []
    · simp [h, resGo]
    · rw [if_neg h, if_neg h]
      simp only [resGo]
  | b :: t, cur, out => by
    unfold refGo linesAux
    by_cases h : b = 10
    · rw [if_pos h, if_pos h]
      simp only [resGo]
      by_cases hv : validD cur = true
      · rw [if_pos hv, if_pos hv, ref_res t [] (out ++ [cur])]
        simp
      · rw [if_neg hv, if_neg hv]
    · rw [if_neg h, if_neg h]
      exact ref_res t _ out
theorem ref_of (s : List UInt8) : refGo [] [] s = resGo (linesL s) 0 (linesL s) := ref_res s [] []
theorem resGo_full (full : List (List UInt8)) : ∀ (n : Nat) (r : List (List UInt8)), (resGo full n r).2.2 = 0 → (resGo full n r).1 = full ∧ (resGo full n r).2.1 = 0
  | _, [], _ => ⟨rfl, rfl⟩
  | n, x :: r, h => by
    unfold resGo at h ⊢
    split at h
    · rename_i hv
      rw [if_pos hv]
      exact resGo_full full (n + 1) r h
    · simp at h
theorem resGo_bad (full : List (List UInt8)) : ∀ (n : Nat) (r : List (List UInt8)), (resGo full n r).2.2 ≠ 0 → (resGo full n r).1 = [] ∧ (resGo full n r).2.2 = 5
  | _, [], h => absurd rfl h
  | n, x :: r, h => by
    unfold resGo at h ⊢
    split at h
    · rename_i hv
      rw [if_pos hv]
      exact resGo_bad full (n + 1) r h
    · rename_i hv
      rw [if_neg hv]
      exact ⟨rfl, rfl⟩
theorem lines_len : ∀ (t cur : List UInt8), (linesAux cur t).length ≤ t.length + 1
  | [], cur => by
    unfold linesAux
    split <;> simp
  | b :: t, cur => by
    unfold linesAux
    split
    · have := lines_len t []
      simp only [List.length_cons]; omega
    · have := lines_len t (cur ++ [b])
      simp only [List.length_cons]; omega
/-- The lines joined, a line feed behind each. -/
def feedL (L : List (List UInt8)) : List UInt8 := L.flatMap fun l => l ++ [10]
theorem feed_lines : ∀ (t cur : List UInt8), feedL (linesAux cur t) = cur ++ t ∨ feedL (linesAux cur t) = cur ++ t ++ [10]
  | [], cur => by
    unfold linesAux
    by_cases h : cur = []
    · left; simp [h, feedL]
    · right; simp [h, feedL]
  | b :: t, cur => by
    unfold linesAux
    by_cases h : b = 10
    · subst h
      rw [if_pos rfl]
      have e : feedL (cur :: linesAux [] t) = cur ++ [10] ++ feedL (linesAux [] t) := by simp [feedL]
      rw [e]
      rcases feed_lines t [] with h | h
      · left; rw [h]; simp
      · right; rw [h]; simp
    · rw [if_neg h]
      rcases feed_lines t (cur ++ [b]) with h | h
      · left; rw [h]; simp
      · right; rw [h]; simp

/-! ### how many runes -/
/-- How many runes a text has, and whether it is UTF-8. -/
def runesN (l : List UInt8) : Nat × Bool := if validD l then ((runesU l).length, true) else (0, false)
/-- The same, behind a first part that is UTF-8 and has so many. -/
def runesFrom (l : List UInt8) (p n : Nat) : Nat × Bool := if validD (l.drop p) then (n + (runesU (l.drop p)).length, true) else (0, false)
theorem runesFrom_start (l : List UInt8) : runesFrom l 0 0 = runesN l := by simp [runesFrom, runesN]
theorem runesFrom_end (l : List UInt8) (p n : Nat) (h : l.length ≤ p) : runesFrom l p n = (n, true) := by
  unfold runesFrom
  rw [List.drop_eq_nil_of_le h]
  rfl
theorem one_bounds (l : List UInt8) (p : Nat) (hp : p < l.length) : 1 ≤ (oneAt l p).2 ∧ p + (oneAt l p).2 ≤ l.length := by
  have hne : l.drop p ≠ [] := by
    intro e
    have := congrArg List.length e
    simp at this
    omega
  have hw := decodeL_le' (l.drop p) hne
  rw [List.length_drop] at hw
  exact ⟨hw.1, by unfold oneAt; omega⟩
theorem runesFrom_step (l : List UInt8) (p n : Nat) (hp : p < l.length) :
    runesFrom l p n = if sizeAt l p = 0 then (0, false) else runesFrom l (p + (oneAt l p).2) (n + 1) := by
  have hne : l.drop p ≠ [] := by
    intro e
    have := congrArg List.length e
    simp at this
    omega
  have hw := one_bounds l p hp
  unfold runesFrom
  rw [validD_step _ hne, runesU_step _ hne, List.drop_drop]
  have e : sizeAt l p = szD (decodeL (l.drop p)) := rfl
  have eo : oneAt l p = decodeL (l.drop p) := rfl
  rw [e, eo]
  rw [eo] at hw
  unfold szD
  by_cases h : (decodeL (l.drop p)).1 = 65533 ∧ (decodeL (l.drop p)).2 = 1
  · rw [if_pos h, if_pos h, if_pos rfl]
    rfl
  · rw [if_neg h, if_neg h, if_neg (show ¬ (decodeL (l.drop p)).2 = 0 by omega)]
    simp only [List.length_cons]
    split
    · refine Prod.ext ?_ rfl
      simp only
      omega
    · rfl
theorem sizeAt_good (l : List UInt8) (p : Nat) (h : sizeAt l p ≠ 0) : sizeAt l p = (oneAt l p).2 := by
  unfold sizeAt szD at h ⊢
  split at h
  · exact absurd rfl h
  · rename_i hc
    rw [if_neg hc]
/-- The program's test at a rune that may be the decoder's mark of an error. -/
theorem mark_width (l : List UInt8) (p : Nat) (hp : p < l.length) (h : (oneAt l p).1 = 65533) : hasPrefix (l.drop p) [239, 191, 189] = !decide (sizeAt l p = 0) := by
  have hne : l.drop p ≠ [] := by
    intro e
    have := congrArg List.length e
    simp at this
    omega
  have e : sizeAt l p = szD (decodeL (l.drop p)) := rfl
  have eo : oneAt l p = decodeL (l.drop p) := rfl
  have hw := one_bounds l p hp
  rw [eo] at h hw
  rw [e]
  have hr : encodeRune (65533 : Int) = [239, 191, 189] := by decide +kernel
  unfold hasPrefix szD
  by_cases h1 : (decodeL (l.drop p)).2 = 1
  · rw [if_pos ⟨h, h1⟩]
    simp only [decide_true, Bool.not_true]
    by_cases hx : ([239, 191, 189] : List UInt8).isPrefixOf (l.drop p) = true
    · obtain ⟨t, ht⟩ := List.isPrefixOf_iff_prefix.1 hx
      have := decode_encode 65533 (.inr ⟨by decide, by decide⟩) t
      rw [show ((65533 : Nat) : Int) = 65533 from rfl, hr, ht] at this
      rw [this] at h1
      simp at h1
    · exact Bool.eq_false_iff.2 hx
  · rw [if_neg (fun x => h1 x.2)]
    have hd : decide ((decodeL (l.drop p)).2 = 0) = false := decide_eq_false (by omega)
    rw [hd]
    simp only [Bool.not_false]
    have := encode_decode (l.drop p) hne (fun x => h1 x.2)
    rw [h, show ((65533 : Nat) : Int) = 65533 from rfl, hr] at this
    exact List.isPrefixOf_iff_prefix.2 ⟨(l.drop p).drop (decodeL (l.drop p)).2, by rw [this, List.take_append_drop]⟩
end Go.Proofs.YtphhgdgamnogpaaDoor
