/-
  Layer 6 (split): words joined and parted again are the same words, in plain words; and the statements SplitJoins and SplitAgain, walked. No conditions but that unicode/utf8's two tables are as their initialisers lay them and that internal/bytealg.MaxLen holds a number.
-/
import Derived.Test.YtphhgdgamnogpaaDoorSplitS
namespace Go.Proofs.YtphhgdgamnogpaaDoor
open Go.RowKit Go.Lib

/-! ### the words' texts, one behind the other -/
def textsT : List UInt8 → List UInt8 → List (List UInt8)
  | cur, [] => if cur = [] then [] else [cur]
  | cur, b :: t => if blankB b then (if cur = [] then textsT [] t else cur :: textsT [] t) else textsT (cur ++ [b]) t
/-- The text of a word that has begun. -/
def begun (l : List UInt8) (i : Nat) : Option Nat → List UInt8
  | some f => curL l f i
  | none => []
theorem texts_scan (l : List UInt8) : ∀ (n i : Nat) (st : Option Nat), l.length - i ≤ n → i ≤ l.length → (∀ f, st = some f → f < i) →
    (scanGo l (l.length - i) i st).map (fun r => curL l r.1 r.2) = textsT (begun l i st) (l.drop i)
  | 0, i, st, hn, hi, hst => by
    have e : i = l.length := by omega
    subst e
    rw [scan_end l _ st (Nat.le_refl _), List.drop_eq_nil_of_le (Nat.le_refl _)]
    cases st with
    | none => rfl
    | some f =>
      have := curL_ne l f l.length (hst f rfl) (Nat.le_refl _)
      simp [pushed, begun, textsT, this]
  | n + 1, i, st, hn, hi, hst => by
    by_cases h : i < l.length
    · rw [List.drop_eq_getElem_cons h]
      unfold textsT
      by_cases hb : blankB l[i] = true
      · rw [scan_blank l i st h hb, if_pos hb, List.map_append, texts_scan l n (i + 1) none (by omega) (by omega) (fun f hf => by cases hf)]
        cases st with
        | none => simp [pushed, begun]
        | some f =>
          have := curL_ne l f i (hst f rfl) hi
          simp [pushed, begun, this]
      · have hb' : blankB l[i] = false := by simpa using hb
        rw [scan_go l i st h hb', if_neg hb, texts_scan l n (i + 1) _ (by omega) (by omega) (fun f hf => by
          obtain rfl := Option.some.inj hf
          cases st with
          | none => simp
          | some g => have := hst g rfl; simp; omega)]
        congr 1
        cases st with
        | none =>
          simp only [begun, Option.getD_none, List.nil_append]
          rw [curL_snoc l i i (Nat.le_refl _) h, curL_nil]
          rfl
        | some f =>
          simp only [begun, Option.getD_some]
          exact curL_snoc l f i (by have := hst f rfl; omega) h
    · have e : i = l.length := by omega
      subst e
      exact texts_scan l 0 _ st (by omega) hi hst
theorem words_texts (t : List UInt8) : (wordsL t).map (·.1) = textsT [] t := by
  have h := texts_scan t _ 0 none (Nat.le_refl _) (Nat.zero_le _) (fun f hf => by cases hf)
  rw [List.drop_zero] at h
  show ((scanL t).map (wordAt t)).map (·.1) = _
  rw [List.map_map]
  exact h
/-- May a text be a word? -/
def WordT (x : List UInt8) : Prop := x ≠ [] ∧ (∀ b ∈ x, blankB b = false) ∧ validD x = true ∧ (∀ b ∈ x, b ≠ 35 ∧ b ≠ 10)
theorem texts_run : ∀ (x cur rest : List UInt8), (∀ b ∈ x, blankB b = false) → textsT cur (x ++ rest) = textsT (cur ++ x) rest
  | [], cur, rest, _ => by simp
  | b :: x, cur, rest, h => by
    have hb : blankB b = false := h b (List.mem_cons_self ..)
    show (if blankB b then _ else textsT (cur ++ [b]) (x ++ rest)) = _
    rw [hb]
    simp only [Bool.false_eq_true, if_false]
    rw [texts_run x (cur ++ [b]) rest (fun c hc => h c (List.mem_cons_of_mem _ hc))]
    simp
theorem join_two (x y : List UInt8) (r : List (List UInt8)) : join (x :: y :: r) [32] = x ++ 32 :: join (y :: r) [32] := by
  rw [join_cons, join_cons]
  simp [joinTail]
theorem texts_join : ∀ L : List (List UInt8), (∀ x ∈ L, WordT x) → textsT [] (join L [32]) = L
  | [], _ => rfl
  | [x], h => by
    have hx := h x (List.mem_cons_self ..)
    have e := texts_run x [] [] hx.2.1
    rw [List.append_nil, List.nil_append] at e
    rw [join_one, e]
    simp [textsT, hx.1]
  | x :: y :: r, h => by
    have hx := h x (List.mem_cons_self ..)
    rw [join_two, texts_run x [] _ hx.2.1, List.nil_append]
    show (if blankB 32 then (if x = [] then _ else x :: textsT [] (join (y :: r) [32])) else _) = _
    rw [if_pos (by decide), if_neg hx.1, texts_join (y :: r) (fun z hz => h z (List.mem_cons_of_mem _ hz))]
theorem valid_snoc (cur : List UInt8) (b : UInt8) (rest : List UInt8) : cur ++ b :: rest = (cur ++ [b]) ++ rest := by simp
theorem texts_words : ∀ (t cur : List UInt8), validD (cur ++ t) = true → (∀ b ∈ cur ++ t, b ≠ 35 ∧ b ≠ 10) → (∀ b ∈ cur, blankB b = false) → ∀ x ∈ textsT cur t, WordT x
  | [], cur, hv, hn, hb => by
    unfold textsT
    rw [List.append_nil] at hv hn
    split
    · simp
    · rename_i h
      intro x hx
      obtain rfl : x = cur := by simpa using hx
      exact ⟨h, hb, hv, hn⟩
  | b :: t, cur, hv, hn, hb => by
    unfold textsT
    by_cases h : blankB b = true
    · rw [if_pos h]
      have hlow := blankB_low b h
      rw [valid_cut _ cur t b (Nat.le_refl _) hlow] at hv
      simp only [Bool.and_eq_true] at hv
      have ih := texts_words t [] (by simpa using hv.2) (fun c hc => hn c (by simp at hc ⊢; exact .inr (.inr hc))) (by simp)
      split
      · exact ih
      · rename_i hc
        intro x hx
        rcases List.mem_cons.1 hx with rfl | hx
        · exact ⟨hc, hb, hv.1, fun c hc => hn c (by simp; exact .inl hc)⟩
        · exact ih x hx
    · rw [if_neg h]
      refine texts_words t (cur ++ [b]) (by simpa using hv) (fun c hc => hn c (by simpa using hc)) ?_
      intro c hc
      rcases List.mem_append.1 hc with hc | hc
      · exact hb c hc
      · obtain rfl : c = b := by simpa using hc
        simpa using h
theorem join_valid : ∀ L : List (List UInt8), (∀ x ∈ L, WordT x) → validD (join L [32]) = true ∧ (∀ b ∈ join L [32], b ≠ 35 ∧ b ≠ 10)
  | [], _ => ⟨rfl, by simp [join_nil]⟩
  | [x], h => by
    have hx := h x (List.mem_cons_self ..)
    rw [join_one]
    exact ⟨hx.2.2.1, hx.2.2.2⟩
  | x :: y :: r, h => by
    have hx := h x (List.mem_cons_self ..)
    obtain ⟨h1, h2⟩ := join_valid (y :: r) (fun z hz => h z (List.mem_cons_of_mem _ hz))
    rw [join_two, valid_cut _ x _ 32 (Nat.le_refl _) (by decide), hx.2.2.1, h1]
    refine ⟨rfl, fun b hb => ?_⟩
    rcases List.mem_append.1 hb with hb | hb
    · exact hx.2.2.2 b hb
    · rcases List.mem_cons.1 hb with rfl | hb
      · decide
      · exact h2 b hb
theorem ahead_same (s : List UInt8) (h : ∀ b ∈ s, b ≠ 35) : aheadL s = s := by
  rcases ahead_app s with h1 | ⟨y, h1⟩
  · exact h1
  · have := h 35 (by rw [h1]; simp)
    exact absurd rfl this
theorem ahead_mem (s : List UInt8) : ∀ b ∈ aheadL s, b ≠ 35 ∧ b ∈ s := by
  induction s with
  | nil => simp [aheadL]
  | cons c t ih =>
    intro b hb
    by_cases hc : c = 35
    · simp [aheadL, hc] at hb
    · have e : aheadL (c :: t) = c :: aheadL t := by simp [aheadL, hc]
      rw [e] at hb
      rcases List.mem_cons.1 hb with rfl | hb
      · exact ⟨hc, List.mem_cons_self ..⟩
      · exact ⟨(ih b hb).1, List.mem_cons_of_mem _ (ih b hb).2⟩
theorem feed_false (s : List UInt8) (h : ∀ b ∈ s, b ≠ 10) : hasFeed s = false := by
  rw [feed_at, List.any_eq_false]
  intro b hb
  simpa using h b hb
theorem feed_mem (s : List UInt8) (h : hasFeed s = false) : ∀ b ∈ s, b ≠ 10 := by
  rw [feed_at, List.any_eq_false] at h
  intro b hb
  simpa using h b hb
theorem ahead_valid (s : List UInt8) (h : validD s = true) : validD (aheadL s) = true := by
  rcases ahead_app s with h1 | ⟨y, h1⟩
  · rw [h1]; exact h
  · rw [h1, valid_cut _ _ y 35 (Nat.le_refl _) (by decide)] at h
    simp only [Bool.and_eq_true] at h
    exact h.1
/-- Words joined, and parted again, are the same texts. -/
theorem words_again (s : List UInt8) (h : (wordsR s).2 = 0) : (wordsR (join ((wordsR s).1.map (·.1)) [32])).2 = 0 ∧ (wordsR (join ((wordsR s).1.map (·.1)) [32])).1.map (·.1) = (wordsR s).1.map (·.1) := by
  unfold wordsR at h
  split at h
  · rename_i hc
    simp only [Bool.and_eq_true, Bool.not_eq_true'] at hc
    have e : wordsR s = (wordsL (aheadL s), 0) := by
      unfold wordsR
      rw [if_pos (by rw [hc.1, hc.2]; rfl)]
    have hw : ∀ x ∈ (wordsL (aheadL s)).map (·.1), WordT x := by
      rw [words_texts]
      exact texts_words (aheadL s) [] (by simpa using ahead_valid s hc.1) (fun b hb => ⟨(ahead_mem s b (by simpa using hb)).1, feed_mem s hc.2 b (ahead_mem s b (by simpa using hb)).2⟩) (by simp)
    rw [e]
    simp only
    obtain ⟨h1, h2⟩ := join_valid _ hw
    have e2 : wordsR (join ((wordsL (aheadL s)).map (·.1)) [32]) = (wordsL (join ((wordsL (aheadL s)).map (·.1)) [32]), 0) := by
      unfold wordsR
      rw [if_pos (by rw [h1, feed_false _ (fun b hb => (h2 b hb).2)]; rfl), ahead_same _ (fun b hb => (h2 b hb).1)]
    rw [e2]
    exact ⟨rfl, by rw [words_texts, texts_join _ hw]⟩
  · simp at h
theorem words_bad (s : List UInt8) (h : (wordsR s).2 ≠ 0) : (wordsR s).1 = [] := by
  unfold wordsR at h ⊢
  split at h
  · exact absurd rfl h
  · rename_i hc
    rw [if_neg hc]

/-! ### that they rise -/
theorem scan_starts (l : List UInt8) : ∀ (n p k : Nat) (st : Option Nat), l.length - p ≤ n → p ≤ l.length → RunesTo l p k → (∀ f, st = some f → f < p ∧ ∃ m, RunesTo l f m) →
    ∀ r ∈ scanGo l (l.length - p) p st, (st = none → p ≤ r.1) ∧ (∀ f, st = some f → r.1 = f ∨ p ≤ r.1) ∧ r.1 < l.length ∧ ∃ m, RunesTo l r.1 m
  | 0, p, k, st, hn, hp, hr, hst => by
    rw [scan_end l p st (by omega)]
    cases st with
    | none => simp [pushed]
    | some f =>
      intro r hr'
      obtain rfl : r = (f, p) := by simpa [pushed] using hr'
      obtain ⟨h1, h2⟩ := hst f rfl
      exact ⟨(fun h => by cases h), fun g hg => .inl (Option.some.inj hg), by simp only; omega, h2⟩
  | n + 1, p, k, st, hn, hp, hr, hst => by
    by_cases h : p < l.length
    · have hb := one_bounds l p h
      obtain ⟨s1, s2⟩ := scan_rune l p st h
      have hr2 := runesTo_step l p k h hr
      cases hbl : blankR (oneAt l p).1 with
      | true =>
        rw [s1 hbl]
        intro r hm
        rcases List.mem_append.1 hm with hm | hm
        · cases st with
          | none => simp [pushed] at hm
          | some f =>
            obtain rfl : r = (f, p) := by simpa [pushed] using hm
            obtain ⟨h1, h2⟩ := hst f rfl
            exact ⟨(fun h => by cases h), fun g hg => .inl (Option.some.inj hg), by simp only; omega, h2⟩
        · obtain ⟨i1, -, i3, i4⟩ := scan_starts l n _ _ none (by omega) hb.2 hr2 (fun f hf => by cases hf) r hm
          have := i1 rfl
          exact ⟨fun _ => by omega, fun _ _ => .inr (by omega), i3, i4⟩
      | false =>
        rw [s2 hbl]
        intro r hm
        obtain ⟨-, i2, i3, i4⟩ := scan_starts l n _ _ (some (st.getD p)) (by omega) hb.2 hr2 (fun f hf => by
          obtain rfl := Option.some.inj hf
          cases st with
          | none => exact ⟨by simp; omega, ⟨k, hr⟩⟩
          | some g => obtain ⟨h1, h2⟩ := hst g rfl; exact ⟨by simp; omega, h2⟩) r hm
        rcases i2 _ rfl with i5 | i5
        · cases st with
          | none =>
            simp only [Option.getD_none] at i5
            exact ⟨fun _ => by omega, (fun _ h => by cases h), i3, i4⟩
          | some g =>
            simp only [Option.getD_some] at i5
            exact ⟨(fun h => by cases h), fun g' hg' => .inl (by rw [i5]; exact Option.some.inj hg'), i3, i4⟩
        · exact ⟨fun _ => by omega, fun _ _ => .inr (by omega), i3, i4⟩
    · rw [scan_end l p st (by omega)]
      cases st with
      | none => simp [pushed]
      | some f =>
        intro r hr'
        obtain rfl : r = (f, p) := by simpa [pushed] using hr'
        obtain ⟨h1, h2⟩ := hst f rfl
        exact ⟨(fun h => by cases h), fun g hg => .inl (Option.some.inj hg), by simp only; omega, h2⟩
theorem scan_rises (l : List UInt8) : ∀ (n p k : Nat) (st : Option Nat), l.length - p ≤ n → p ≤ l.length → RunesTo l p k → (∀ f, st = some f → f < p ∧ ∃ m, RunesTo l f m) →
    (scanGo l (l.length - p) p st).Pairwise (fun a b => colN l 0 a.1 < colN l 0 b.1)
  | 0, p, k, st, hn, hp, hr, hst => by
    rw [scan_end l p st (by omega)]
    cases st <;> simp [pushed]
  | n + 1, p, k, st, hn, hp, hr, hst => by
    by_cases h : p < l.length
    · have hb := one_bounds l p h
      obtain ⟨s1, s2⟩ := scan_rune l p st h
      have hr2 := runesTo_step l p k h hr
      cases hbl : blankR (oneAt l p).1 with
      | true =>
        rw [s1 hbl, List.pairwise_append]
        refine ⟨by cases st <;> simp [pushed], scan_rises l n _ _ none (by omega) hb.2 hr2 (fun f hf => by cases hf), ?_⟩
        intro a ha b hb'
        cases st with
        | none => simp [pushed] at ha
        | some f =>
          obtain rfl : a = (f, p) := by simpa [pushed] using ha
          obtain ⟨h1, m, h2⟩ := hst f rfl
          obtain ⟨i1, -⟩ := scan_starts l n _ _ none (by omega) hb.2 hr2 (fun f hf => by cases hf) b hb'
          have := i1 rfl
          exact runesTo_less l f m b.1 h2 (by omega) (by omega)
      | false =>
        rw [s2 hbl]
        exact scan_rises l n _ _ _ (by omega) hb.2 hr2 (fun f hf => by
          obtain rfl := Option.some.inj hf
          cases st with
          | none => exact ⟨by simp; omega, ⟨k, hr⟩⟩
          | some g => obtain ⟨h1, h2⟩ := hst g rfl; exact ⟨by simp; omega, h2⟩)
    · rw [scan_end l p st (by omega)]
      cases st <;> simp [pushed]
theorem words_rise (s : List UInt8) : (wordsR s).1.Pairwise (fun a b => a.2 < b.2) ∧ ∀ a ∈ (wordsR s).1, 1 ≤ a.2 := by
  unfold wordsR
  split
  · have h := scan_rises (aheadL s) _ 0 0 none (Nat.le_refl _) (Nat.zero_le _) (runesTo_start _) (fun f hf => by cases hf)
    refine ⟨?_, ?_⟩
    · show ((scanL (aheadL s)).map (wordAt (aheadL s))).Pairwise _
      rw [List.pairwise_map]
      exact h.imp fun h => by simp only [wordAt]; omega
    · intro a ha
      obtain ⟨r, -, rfl⟩ := List.mem_map.1 ha
      simp [wordAt]
  · exact ⟨List.Pairwise.nil, by simp⟩
end Go.Proofs.YtphhgdgamnogpaaDoor
