/-
  Layer 2 (name) in plain words: texts' names in order, as the program makes them (sorted, then no two alike) and as the reference does (put in one by one); no program in sight. No conditions.
-/
import Derived.Test.YthalbcmlehpfaaaDoorNameO
import Derived.Lib.SlicesCompact
import Derived.Sort.Statements
namespace Go.Proofs.YthalbcmlehpfaaaDoor
open Go.Lib

theorem lexLess_irrefl : ∀ x : List Nat, lexLess x x = false
  | [] => rfl
  | a :: x => by
    unfold lexLess
    rw [if_pos rfl]
    exact lexLess_irrefl x
theorem lexLess_trans : ∀ x y z : List Nat, lexLess x y = true → lexLess y z = true → lexLess x z = true
  | [], [], _, h, _ => by simp [lexLess] at h
  | [], _ :: _, [], _, h => by simp [lexLess] at h
  | [], _ :: _, _ :: _, _, _ => rfl
  | _ :: _, [], _, h, _ => by simp [lexLess] at h
  | _ :: _, _ :: _, [], _, h => by simp [lexLess] at h
  | a :: x, b :: y, c :: z, h1, h2 => by
    unfold lexLess at h1 h2 ⊢
    by_cases hab : a = b
    · subst hab
      rw [if_pos rfl] at h1
      by_cases hac : a = c
      · rw [if_pos hac] at h2 ⊢
        exact lexLess_trans x y z h1 h2
      · rw [if_neg hac] at h2 ⊢
        exact h2
    · rw [if_neg hab] at h1
      have h1' : a < b := by simpa using h1
      by_cases hbc : b = c
      · subst hbc
        rw [if_neg hab]
        exact h1
      · rw [if_neg hbc] at h2
        have h2' : b < c := by simpa using h2
        rw [if_neg (by omega)]
        simpa using (by omega : a < c)
theorem lexLess_total (x y : List Nat) (h1 : lexLess x y = false) (h2 : lexLess y x = false) : x = y := (lex_same x y).2 (h1.trans h2.symm)
theorem lexLess_ntrans (x y z : List Nat) (h1 : lexLess x y = false) (h2 : lexLess y z = false) : lexLess x z = false := by
  cases h : lexLess x z with
  | false => rfl
  | true =>
    cases h3 : lexLess y x with
    | true => rw [lexLess_trans y x z h3 h] at h2; exact absurd h2 (by decide)
    | false =>
      have e := lexLess_total x y h1 h3
      rw [e, h2] at h
      exact absurd h (by decide)
/-- Is a text ahead of another one? -/
def ltN (a b : List UInt8) : Bool := lexLess (runesU a) (runesU b)
theorem ltN_irrefl (a : List UInt8) : ltN a a = false := lexLess_irrefl _
theorem ltN_trans (a b c : List UInt8) : ltN a b = true → ltN b c = true → ltN a c = true := lexLess_trans _ _ _
theorem ltN_total (a b : List UInt8) (ha : nameL a = true) (hb : nameL b = true) (h1 : ltN a b = false) (h2 : ltN b a = false) : a = b :=
  (runes_inj a b (name_valid a ha) (name_valid b hb)).1 (lexLess_total _ _ h1 h2)

theorem strict_unique (lt : List UInt8 → List UInt8 → Bool) (hi : ∀ a, lt a a = false) (ht : ∀ a b c, lt a b = true → lt b c = true → lt a c = true) :
    ∀ A B : List (List UInt8), A.Pairwise (fun a b => lt a b = true) → B.Pairwise (fun a b => lt a b = true) → (∀ x, x ∈ A ↔ x ∈ B) → A = B
  | [], [], _, _, _ => rfl
  | [], b :: B, _, _, h => by have := (h b).2 (List.mem_cons_self ..); simp at this
  | a :: A, [], _, _, h => by have := (h a).1 (List.mem_cons_self ..); simp at this
  | a :: A, b :: B, hA, hB, h => by
    rw [List.pairwise_cons] at hA hB
    have hab : a = b := by
      rcases List.mem_cons.1 ((h a).1 (List.mem_cons_self ..)) with e | e
      · exact e
      · rcases List.mem_cons.1 ((h b).2 (List.mem_cons_self ..)) with e2 | e2
        · exact e2.symm
        · have := ht a b a (hA.1 b e2) (hB.1 a e)
          rw [hi] at this
          exact absurd this (by decide)
    subst hab
    rw [strict_unique lt hi ht A B hA.2 hB.2 ?_]
    intro x
    constructor
    · intro hx
      rcases List.mem_cons.1 ((h x).1 (List.mem_cons_of_mem _ hx)) with e | e
      · subst e
        have := hA.1 x hx
        rw [hi] at this
        exact absurd this (by decide)
      · exact e
    · intro hx
      rcases List.mem_cons.1 ((h x).2 (List.mem_cons_of_mem _ hx)) with e | e
      · subst e
        have := hB.1 x hx
        rw [hi] at this
        exact absurd this (by decide)
      · exact e

/-! ### the reference's way -/
/-- Put in where it belongs. -/
def insN (x : List UInt8) : List (List UInt8) → List (List UInt8)
  | [] => [x]
  | y :: r => if ltN y x then y :: insN x r else if y = x then y :: r else x :: y :: r
theorem ins_mem (x y : List UInt8) : ∀ r, y ∈ insN x r ↔ y = x ∨ y ∈ r
  | [] => by simp [insN]
  | z :: r => by
    unfold insN
    split
    · rw [List.mem_cons, ins_mem x y r, List.mem_cons]
      constructor
      · rintro (h | h | h)
        · exact .inr (.inl h)
        · exact .inl h
        · exact .inr (.inr h)
      · rintro (h | h | h)
        · exact .inr (.inl h)
        · exact .inl h
        · exact .inr (.inr h)
    · split
      · rename_i h
        subst h
        simp
      · simp
theorem ins_sorted (x : List UInt8) (hx : nameL x = true) : ∀ r, (∀ y ∈ r, nameL y = true) → r.Pairwise (fun a b => ltN a b = true) → (insN x r).Pairwise (fun a b => ltN a b = true)
  | [], _, _ => by simp [insN]
  | y :: r, hn, hs => by
    have hy := hn y (List.mem_cons_self ..)
    rw [List.pairwise_cons] at hs
    unfold insN
    split
    · rename_i h
      rw [List.pairwise_cons]
      refine ⟨fun z hz => ?_, ins_sorted x hx r (fun z hz => hn z (List.mem_cons_of_mem _ hz)) hs.2⟩
      rcases (ins_mem x z r).1 hz with e | e
      · subst e; exact h
      · exact hs.1 z e
    · rename_i h
      split
      · rw [List.pairwise_cons]; exact hs
      · rename_i he
        have hxy : ltN x y = true := by
          cases hq : ltN x y with
          | true => rfl
          | false => exact absurd (ltN_total y x hy hx (by simpa using h) hq) he
        rw [List.pairwise_cons, List.pairwise_cons]
        refine ⟨fun z hz => ?_, hs⟩
        rcases List.mem_cons.1 hz with e | e
        · subst e; exact hxy
        · exact ltN_trans x y z hxy (hs.1 z e)
/-- How many stand ahead. -/
def aheadN (x : List UInt8) (r : List (List UInt8)) : Nat := (r.takeWhile (fun y => ltN y x)).length
theorem ins_at (x : List UInt8) : ∀ r : List (List UInt8), aheadN x r ≤ r.length ∧ (∀ j, j < aheadN x r → ltN (r.getD j []) x = true) ∧
    (aheadN x r < r.length → ltN (r.getD (aheadN x r) []) x = false) ∧
    insN x r = if aheadN x r < r.length ∧ r.getD (aheadN x r) [] = x then r else r.take (aheadN x r) ++ x :: r.drop (aheadN x r)
  | [] => by simp [aheadN, insN]
  | y :: r => by
    obtain ⟨h1, h2, h3, h4⟩ := ins_at x r
    by_cases h : ltN y x = true
    · have e : aheadN x (y :: r) = aheadN x r + 1 := by simp [aheadN, h]
      rw [e]
      refine ⟨by simpa using h1, ?_, ?_, ?_⟩
      · intro j hj
        cases j with
        | zero => exact h
        | succ j => exact h2 j (by omega)
      · intro hl
        exact h3 (by simpa using hl)
      · unfold insN
        rw [if_pos h, h4]
        by_cases hc : aheadN x r < r.length ∧ r.getD (aheadN x r) [] = x
        · rw [if_pos hc, if_pos (by simpa using hc)]
        · rw [if_neg hc, if_neg (by simpa using hc)]
          simp
    · have h' : ltN y x = false := by simpa using h
      have e : aheadN x (y :: r) = 0 := by simp [aheadN, h']
      rw [e]
      refine ⟨Nat.zero_le _, fun j hj => absurd hj (Nat.not_lt_zero j), fun _ => h', ?_⟩
      unfold insN
      rw [if_neg h]
      simp
/-- A list's names, in order. -/
def sortedN (L : List (List UInt8)) : List (List UInt8) := L.foldl (fun out x => if nameL x then insN x out else out) []
theorem foldN (L : List (List UInt8)) : ∀ out : List (List UInt8), (∀ y ∈ out, nameL y = true) → out.Pairwise (fun a b => ltN a b = true) →
    (L.foldl (fun out x => if nameL x then insN x out else out) out).Pairwise (fun a b => ltN a b = true) ∧
    ∀ y, y ∈ L.foldl (fun out x => if nameL x then insN x out else out) out ↔ y ∈ out ∨ (y ∈ L ∧ nameL y = true) := by
  induction L with
  | nil => intro out _ hs; exact ⟨hs, by simp⟩
  | cons x L ih =>
    intro out hn hs
    rw [List.foldl_cons]
    by_cases h : nameL x = true
    · rw [if_pos h]
      obtain ⟨h1, h2⟩ := ih (insN x out) (fun y hy => by rcases (ins_mem x y out).1 hy with e | e; (subst e; exact h); exact hn y e) (ins_sorted x h out hn hs)
      refine ⟨h1, fun y => ?_⟩
      rw [h2, ins_mem, List.mem_cons]
      constructor
      · rintro ((e | e) | ⟨e, e'⟩)
        · subst e; exact .inr ⟨.inl rfl, h⟩
        · exact .inl e
        · exact .inr ⟨.inr e, e'⟩
      · rintro (e | ⟨e | e, e'⟩)
        · exact .inl (.inr e)
        · exact .inl (.inl e)
        · exact .inr ⟨e, e'⟩
    · rw [if_neg h]
      obtain ⟨h1, h2⟩ := ih out hn hs
      refine ⟨h1, fun y => ?_⟩
      rw [h2, List.mem_cons]
      constructor
      · rintro (e | ⟨e, e'⟩)
        · exact .inl e
        · exact .inr ⟨.inr e, e'⟩
      · rintro (e | ⟨e | e, e'⟩)
        · exact .inl e
        · subst e; exact absurd e' h
        · exact .inr ⟨e, e'⟩
theorem sortedN_spec (L : List (List UInt8)) : (sortedN L).Pairwise (fun a b => ltN a b = true) ∧ ∀ y, y ∈ sortedN L ↔ y ∈ L ∧ nameL y = true := by
  obtain ⟨h1, h2⟩ := foldN L [] (by simp) List.Pairwise.nil
  exact ⟨h1, fun y => by rw [sortedN, h2]; simp⟩

/-! ### the program's way -/
theorem getB_get (d : Array (List UInt8)) (j : Nat) (h : j < d.size) : d[j]! = d[j] := by simp [h]
theorem compact_up (d : Array (List UInt8)) (hn : ∀ j, j < d.size → nameL d[j]! = true) (hs : ∀ i j, i < j → j < d.size → ltN d[j]! d[i]! = false) :
    ∀ m, m ≤ d.size → (compactUpTo d m).Pairwise (fun a b => ltN a b = true) ∧ (∀ j, j < m → d[j]! ∈ compactUpTo d m) ∧ (∀ y ∈ compactUpTo d m, ∃ j, j < m ∧ y = d[j]!)
  | 0, _ => ⟨by simp [compactUpTo], by simp, by simp [compactUpTo]⟩
  | m + 1, hm => by
    obtain ⟨h1, h2, h3⟩ := compact_up d hn hs m (by omega)
    rw [compactUpTo_succ]
    cases hk : keeps d m with
    | true =>
      simp only [if_true]
      refine ⟨?_, ?_, ?_⟩
      · rw [List.pairwise_append]
        refine ⟨h1, by simp, ?_⟩
        intro a ha b hb
        obtain rfl : b = d[m]! := by simpa using hb
        obtain ⟨j, hj, rfl⟩ := h3 a ha
        have hne : d[j]! ≠ d[m]! := by
          intro e
          unfold keeps at hk
          simp only [decide_eq_true_eq] at hk
          rcases hk with hk | hk
          · omega
          · have hjm : d[m - 1]! = d[m]! := by
              by_cases hj1 : j = m - 1
              · rw [← hj1]; exact e
              · have a1 := hs j (m - 1) (by omega) (by omega)
                have a2 := hs (m - 1) m (by omega) (by omega)
                rw [e] at a1
                exact ltN_total _ _ (hn _ (by omega)) (hn _ (by omega)) a1 a2
            exact hk hjm.symm
        have a := hs j m hj (by omega)
        cases hl : ltN d[j]! d[m]! with
        | true => rfl
        | false => exact absurd (ltN_total _ _ (hn _ (by omega)) (hn _ (by omega)) hl a) hne
      · intro j hj
        by_cases hjm : j < m
        · exact List.mem_append_left _ (h2 j hjm)
        · obtain rfl : j = m := by omega
          exact List.mem_append_right _ (by simp)
      · intro y hy
        rcases List.mem_append.1 hy with hy | hy
        · obtain ⟨j, hj, e⟩ := h3 y hy
          exact ⟨j, by omega, e⟩
        · exact ⟨m, by omega, by simpa using hy⟩
    | false =>
      simp only [Bool.false_eq_true, if_false, List.append_nil]
      refine ⟨h1, ?_, fun y hy => by obtain ⟨j, hj, e⟩ := h3 y hy; exact ⟨j, by omega, e⟩⟩
      intro j hj
      by_cases hjm : j < m
      · exact h2 j hjm
      · obtain rfl : j = m := by omega
        unfold keeps at hk
        simp only [decide_eq_false_iff_not, not_or, ne_eq, Classical.not_not] at hk
        rw [hk.2]
        exact h2 (j - 1) (by omega)
theorem compact_sorted (S L : List (List UInt8)) (hm : ∀ y, y ∈ S ↔ y ∈ L ∧ nameL y = true) (hs : S.Pairwise (fun a b => ltN b a = false)) : compact S = sortedN L := by
  have hget : ∀ j, j < S.toArray.size → S.toArray[j]! ∈ S := fun j hj => by
    have hj' : j < S.length := by simpa using hj
    have : S.toArray[j]! = S[j] := by simp [hj']
    rw [this]
    exact List.getElem_mem hj'
  obtain ⟨h1, h2, h3⟩ := compact_up S.toArray (fun j hj => ((hm _).1 (hget j hj)).2) (fun i j hij hj => by
    have hj' : j < S.length := by simpa using hj
    have e1 : S.toArray[j]! = S[j] := by simp [hj']
    have e2 : S.toArray[i]! = S[i] := by simp [show i < S.length by omega]
    rw [e1, e2]
    exact List.pairwise_iff_getElem.1 hs i j (by omega) hj' hij) S.length (by simp)
  obtain ⟨g1, g2⟩ := sortedN_spec L
  refine strict_unique ltN ltN_irrefl ltN_trans _ _ h1 g1 fun x => ?_
  rw [g2, ← hm]
  constructor
  · intro hx
    obtain ⟨j, hj, rfl⟩ := h3 x hx
    exact hget j (by simpa using hj)
  · intro hx
    obtain ⟨j, hj, e⟩ := List.getElem_of_mem hx
    have := h2 j hj
    have e1 : S.toArray[j]! = S[j] := by simp [hj]
    rw [e1, e] at this
    exact this
end Go.Proofs.YthalbcmlehpfaaaDoor
