/-
  Layer 2 (name) in plain words: texts' names in order, as the program makes them (sorted, then no two alike) and as the reference does (put in one by one); no program in sight. No conditions.
  Layer 9 (table) in plain words: lists of names in order, where a name stands in one, and numbers of names; no program in sight. No conditions.
  Layer 11 (hist) in plain words: operations, transactions, histories; which may be; no program in sight. No conditions.
  Layer 10 (pair) in plain words: what events make, transaction by transaction; the history of events, the open sessions; no program in sight. No conditions.
  Blocks of cells known whole: made, kept, stored into; rows of a call's own against them. No conditions.
  Maps of the call's own keyed by texts, in plain words: counts; pointers. No conditions.
  Slices of structs, whatever the struct: what one holds; a row of the call's own as one, and as an argument. No conditions.
-/
import Derived.Test.YthgbfaoblnkniaaDoorGa
import Derived.Lib.SlicesCompact
import Derived.Sort.Statements
import Derived.Maps.OwnSet
import Derived.Laws.AppendOwn
import Derived.WalkKit
namespace Go.Proofs.YthgbfaoblnkniaaDoor
open Go.Lib
theorem lexLess_irrefl : ∀ x : List Nat, lexLess x x = false
 | [] => rfl
 | a :: x => by
  unfold lexLess
  rw [if_pos rfl]
  exact lexLess_irrefl x
theorem lexLess_trans : ∀ x y z : List Nat, lexLess x y = true → lexLess y z = true → lexLess x z = true
 | [], [], _, h, _ => by simp [lexLess] at h
 | [], _ :: _, [], _, h => by simp [lexLess] at h
 | [], _ :: _, _ :: _, _, _ => rfl
 | _ :: _, [], _, h, _ => by simp [lexLess] at h
 | _ :: _, _ :: _, [], _, h => by simp [lexLess] at h
 | a :: x, b :: y, c :: z, h1, h2 => by
  unfold lexLess at h1 h2 ⊢
  by_cases hab : a = b
  ·subst hab
   rw [if_pos rfl] at h1
   by_cases hac : a = c
   ·rw [if_pos hac] at h2 ⊢
    exact lexLess_trans x y z h1 h2
   ·rw [if_neg hac] at h2 ⊢
    exact h2
  ·rw [if_neg hab] at h1
   have h1' : a < b := by simpa using h1
   by_cases hbc : b = c
   ·subst hbc
    rw [if_neg hab]
    exact h1
   ·rw [if_neg hbc] at h2
    have h2' : b < c := by simpa using h2
    rw [if_neg (by omega)]
    simpa using (by omega : a < c)
theorem lexLess_total (x y : List Nat) (h1 : lexLess x y = false) (h2 : lexLess y x = false) : x = y := (lex_same x y).2 (h1.trans h2.symm)
theorem lexLess_ntrans (x y z : List Nat) (h1 : lexLess x y = false) (h2 : lexLess y z = false) : lexLess x z = false := by
 cases h : lexLess x z with
 | false => rfl
 | true =>
  cases h3 : lexLess y x with
  | true => rw [lexLess_trans y x z h3 h] at h2; exact absurd h2 (by decide)
  | false =>
   have e := lexLess_total x y h1 h3
   rw [e, h2] at h
   exact absurd h (by decide)
def ltN (a b : List UInt8) : Bool := lexLess (runesU a) (runesU b)
theorem ltN_irrefl (a : List UInt8) : ltN a a = false := lexLess_irrefl _
theorem ltN_trans (a b c : List UInt8) : ltN a b = true → ltN b c = true → ltN a c = true := lexLess_trans _ _ _
theorem ltN_total (a b : List UInt8) (ha : nameL a = true) (hb : nameL b = true) (h1 : ltN a b = false) (h2 : ltN b a = false) : a = b :=
 (runes_inj a b (name_valid a ha) (name_valid b hb)).1 (lexLess_total _ _ h1 h2)
theorem strict_unique (lt : List UInt8 → List UInt8 → Bool) (hi : ∀ a, lt a a = false) (ht : ∀ a b c, lt a b = true → lt b c = true → lt a c = true) :
  ∀ A B : List (List UInt8), A.Pairwise (fun a b => lt a b = true) → B.Pairwise (fun a b => lt a b = true) → (∀ x, x ∈ A ↔ x ∈ B) → A = B
 | [], [], _, _, _ => rfl
 | [], b :: B, _, _, h => by have := (h b).2 (List.mem_cons_self ..); simp at this
 | a :: A, [], _, _, h => by have := (h a).1 (List.mem_cons_self ..); simp at this
 | a :: A, b :: B, hA, hB, h => by
  rw [List.pairwise_cons] at hA hB
  have hab : a = b := by
   rcases List.mem_cons.1 ((h a).1 (List.mem_cons_self ..)) with e | e
   ·exact e
   ·rcases List.mem_cons.1 ((h b).2 (List.mem_cons_self ..)) with e2 | e2
    ·exact e2.symm
    ·have := ht a b a (hA.1 b e2) (hB.1 a e)
     rw [hi] at this
     exact absurd this (by decide)
  subst hab
  rw [strict_unique lt hi ht A B hA.2 hB.2 ?_]
  intro x
  constructor
  ·intro hx
   rcases List.mem_cons.1 ((h x).1 (List.mem_cons_of_mem _ hx)) with e | e
   ·subst e
    have := hA.1 x hx
    rw [hi] at this
    exact absurd this (by decide)
   ·exact e
  ·intro hx
   rcases List.mem_cons.1 ((h x).2 (List.mem_cons_of_mem _ hx)) with e | e
   ·subst e
    have := hB.1 x hx
    rw [hi] at this
    exact absurd this (by decide)
   ·exact e
def insN (x : List UInt8) : List (List UInt8) → List (List UInt8)
 | [] => [x]
 | y :: r => if ltN y x then y :: insN x r else if y = x then y :: r else x :: y :: r
theorem ins_mem (x y : List UInt8) : ∀ r, y ∈ insN x r ↔ y = x ∨ y ∈ r
 | [] => by simp [insN]
 | z :: r => by
  unfold insN
  split
  ·rw [List.mem_cons, ins_mem x y r, List.mem_cons]
   constructor
   ·rintro (h | h | h)
    ·exact .inr (.inl h)
    ·exact .inl h
    ·exact .inr (.inr h)
   ·rintro (h | h | h)
    ·exact .inr (.inl h)
    ·exact .inl h
    ·exact .inr (.inr h)
  ·split
   ·rename_i h
    subst h
    simp
   ·simp
theorem ins_sorted (x : List UInt8) (hx : nameL x = true) : ∀ r, (∀ y ∈ r, nameL y = true) → r.Pairwise (fun a b => ltN a b = true) → (insN x r).Pairwise (fun a b => ltN a b = true)
 | [], _, _ => by simp [insN]
 | y :: r, hn, hs => by
  have hy := hn y (List.mem_cons_self ..)
  rw [List.pairwise_cons] at hs
  unfold insN
  split
  ·rename_i h
   rw [List.pairwise_cons]
   refine ⟨fun z hz => ?_, ins_sorted x hx r (fun z hz => hn z (List.mem_cons_of_mem _ hz)) hs.2⟩
   rcases (ins_mem x z r).1 hz with e | e
   ·subst e; exact h
   ·exact hs.1 z e
  ·rename_i h
   split
   ·rw [List.pairwise_cons]; exact hs
   ·rename_i he
    have hxy : ltN x y = true := by
     cases hq : ltN x y with
     | true => rfl
     | false => exact absurd (ltN_total y x hy hx (by simpa using h) hq) he
    rw [List.pairwise_cons, List.pairwise_cons]
    refine ⟨fun z hz => ?_, hs⟩
    rcases List.mem_cons.1 hz with e | e
    ·subst e; exact hxy
    ·exact ltN_trans x y z hxy (hs.1 z e)
def aheadN (x : List UInt8) (r : List (List UInt8)) : Nat := (r.takeWhile (fun y => ltN y x)).length
theorem ins_at (x : List UInt8) : ∀ r : List (List UInt8), aheadN x r ≤ r.length ∧ (∀ j, j < aheadN x r → ltN (r.getD j []) x = true) ∧
  (aheadN x r < r.length → ltN (r.getD (aheadN x r) []) x = false) ∧
  insN x r = if aheadN x r < r.length ∧ r.getD (aheadN x r) [] = x then r else r.take (aheadN x r) ++ x :: r.drop (aheadN x r)
 | [] => by simp [aheadN, insN]
 | y :: r => by
  obtain ⟨h1, h2, h3, h4⟩ := ins_at x r
  by_cases h : ltN y x = true
  ·have e : aheadN x (y :: r) = aheadN x r + 1 := by simp [aheadN, h]
   rw [e]
   refine ⟨by simpa using h1, ?_, ?_, ?_⟩
   ·intro j hj
    cases j with
    | zero => exact h
    | succ j => exact h2 j (by omega)
   ·intro hl
    exact h3 (by simpa using hl)
   ·unfold insN
    rw [if_pos h, h4]
    by_cases hc : aheadN x r < r.length ∧ r.getD (aheadN x r) [] = x
    ·rw [if_pos hc, if_pos (by simpa using hc)]
    ·rw [if_neg hc, if_neg (by simpa using hc)]
     simp
  ·have h' : ltN y x = false := by simpa using h
   have e : aheadN x (y :: r) = 0 := by simp [aheadN, h']
   rw [e]
   refine ⟨Nat.zero_le _, fun j hj => absurd hj (Nat.not_lt_zero j), fun _ => h', ?_⟩
   unfold insN
   rw [if_neg h]
   simp
def sortedN (L : List (List UInt8)) : List (List UInt8) := L.foldl (fun out x => if nameL x then insN x out else out) []
theorem foldN (L : List (List UInt8)) : ∀ out : List (List UInt8), (∀ y ∈ out, nameL y = true) → out.Pairwise (fun a b => ltN a b = true) →
  (L.foldl (fun out x => if nameL x then insN x out else out) out).Pairwise (fun a b => ltN a b = true) ∧
  ∀ y, y ∈ L.foldl (fun out x => if nameL x then insN x out else out) out ↔ y ∈ out ∨ (y ∈ L ∧ nameL y = true) := by
 induction L with
 | nil => intro out _ hs; exact ⟨hs, by simp⟩
 | cons x L ih =>
  intro out hn hs
  rw [List.foldl_cons]
  by_cases h : nameL x = true
  ·rw [if_pos h]
   obtain ⟨h1, h2⟩ := ih (insN x out) (fun y hy => by rcases (ins_mem x y out).1 hy with e | e; (subst e; exact h); exact hn y e) (ins_sorted x h out hn hs)
   refine ⟨h1, fun y => ?_⟩
   rw [h2, ins_mem, List.mem_cons]
   constructor
   ·rintro ((e | e) | ⟨e, e'⟩)
    ·subst e; exact .inr ⟨.inl rfl, h⟩
    ·exact .inl e
    ·exact .inr ⟨.inr e, e'⟩
   ·rintro (e | ⟨e | e, e'⟩)
    ·exact .inl (.inr e)
    ·exact .inl (.inl e)
    ·exact .inr ⟨e, e'⟩
  ·rw [if_neg h]
   obtain ⟨h1, h2⟩ := ih out hn hs
   refine ⟨h1, fun y => ?_⟩
   rw [h2, List.mem_cons]
   constructor
   ·rintro (e | ⟨e, e'⟩)
    ·exact .inl e
    ·exact .inr ⟨.inr e, e'⟩
   ·rintro (e | ⟨e | e, e'⟩)
    ·exact .inl e
    ·subst e; exact absurd e' h
    ·exact .inr ⟨e, e'⟩
theorem sortedN_spec (L : List (List UInt8)) : (sortedN L).Pairwise (fun a b => ltN a b = true) ∧ ∀ y, y ∈ sortedN L ↔ y ∈ L ∧ nameL y = true := by
 obtain ⟨h1, h2⟩ := foldN L [] (by simp) List.Pairwise.nil
 exact ⟨h1, fun y => by rw [sortedN, h2]; simp⟩
theorem compact_up (d : Array (List UInt8)) (hn : ∀ j, j < d.size → nameL d[j]! = true) (hs : ∀ i j, i < j → j < d.size → ltN d[j]! d[i]! = false) :
  ∀ m, m ≤ d.size → (compactUpTo d m).Pairwise (fun a b => ltN a b = true) ∧ (∀ j, j < m → d[j]! ∈ compactUpTo d m) ∧ (∀ y ∈ compactUpTo d m, ∃ j, j < m ∧ y = d[j]!)
 | 0, _ => ⟨by simp [compactUpTo], by simp, by simp [compactUpTo]⟩
 | m + 1, hm => by
  obtain ⟨h1, h2, h3⟩ := compact_up d hn hs m (by omega)
  rw [compactUpTo_succ]
  cases hk : keeps d m with
  | true =>
   simp only [if_true]
   refine ⟨?_, ?_, ?_⟩
   ·rw [List.pairwise_append]
    refine ⟨h1, by simp, ?_⟩
    intro a ha b hb
    obtain rfl : b = d[m]! := by simpa using hb
    obtain ⟨j, hj, rfl⟩ := h3 a ha
    have hne : d[j]! ≠ d[m]! := by
     intro e
     unfold keeps at hk
     simp only [decide_eq_true_eq] at hk
     rcases hk with hk | hk
     ·omega
     ·have hjm : d[m - 1]! = d[m]! := by
       by_cases hj1 : j = m - 1
       ·rw [← hj1]; exact e
       ·have a1 := hs j (m - 1) (by omega) (by omega)
        have a2 := hs (m - 1) m (by omega) (by omega)
        rw [e] at a1
        exact ltN_total _ _ (hn _ (by omega)) (hn _ (by omega)) a1 a2
      exact hk hjm.symm
    have a := hs j m hj (by omega)
    cases hl : ltN d[j]! d[m]! with
    | true => rfl
    | false => exact absurd (ltN_total _ _ (hn _ (by omega)) (hn _ (by omega)) hl a) hne
   ·intro j hj
    by_cases hjm : j < m
    ·exact List.mem_append_left _ (h2 j hjm)
    ·obtain rfl : j = m := by omega
     exact List.mem_append_right _ (by simp)
   ·intro y hy
    rcases List.mem_append.1 hy with hy | hy
    ·obtain ⟨j, hj, e⟩ := h3 y hy
     exact ⟨j, by omega, e⟩
    ·exact ⟨m, by omega, by simpa using hy⟩
  | false =>
   simp only [Bool.false_eq_true, if_false, List.append_nil]
   refine ⟨h1, ?_, fun y hy => by obtain ⟨j, hj, e⟩ := h3 y hy; exact ⟨j, by omega, e⟩⟩
   intro j hj
   by_cases hjm : j < m
   ·exact h2 j hjm
   ·obtain rfl : j = m := by omega
    unfold keeps at hk
    simp only [decide_eq_false_iff_not, not_or, ne_eq, Classical.not_not] at hk
    rw [hk.2]
    exact h2 (j - 1) (by omega)
theorem compact_sorted (S L : List (List UInt8)) (hm : ∀ y, y ∈ S ↔ y ∈ L ∧ nameL y = true) (hs : S.Pairwise (fun a b => ltN b a = false)) : compact S = sortedN L := by
 have hget : ∀ j, j < S.toArray.size → S.toArray[j]! ∈ S := fun j hj => by
  have hj' : j < S.length := by simpa using hj
  have : S.toArray[j]! = S[j] := by simp [hj']
  rw [this]
  exact List.getElem_mem hj'
 obtain ⟨h1, h2, h3⟩ := compact_up S.toArray (fun j hj => ((hm _).1 (hget j hj)).2) (fun i j hij hj => by
  have hj' : j < S.length := by simpa using hj
  have e1 : S.toArray[j]! = S[j] := by simp [hj']
  have e2 : S.toArray[i]! = S[i] := by simp [show i < S.length by omega]
  rw [e1, e2]
  exact List.pairwise_iff_getElem.1 hs i j (by omega) hj' hij) S.length (by simp)
 obtain ⟨g1, g2⟩ := sortedN_spec L
 refine strict_unique ltN ltN_irrefl ltN_trans _ _ h1 g1 fun x => ?_
 rw [g2, ← hm]
 constructor
 ·intro hx
  obtain ⟨j, hj, rfl⟩ := h3 x hx
  exact hget j (by simpa using hj)
 ·intro hx
  obtain ⟨j, hj, e⟩ := List.getElem_of_mem hx
  have := h2 j hj
  have e1 : S.toArray[j]! = S[j] := by simp [hj]
  rw [e1, e] at this
  exact this
end Go.Proofs.YthgbfaoblnkniaaDoor

namespace Go.Proofs.YthgbfaoblnkniaaDoor
open Go.Lib
def goodT (L : List (List UInt8)) (i : Nat) : Bool := nameL (L.getD i []) && (decide (i = 0) || ltN (L.getD (i - 1) []) (L.getD i []))
def isT (L : List (List UInt8)) : Bool := (List.range L.length).all (goodT L)
theorem isT_no (L : List (List UInt8)) (i : Nat) (hi : i < L.length) (h : goodT L i = false) : isT L = false := by
 unfold isT
 rw [List.all_eq_false]
 exact ⟨i, List.mem_range.2 hi, by simp [h]⟩
theorem isT_yes (L : List (List UInt8)) (h : ∀ j, j < L.length → goodT L j = true) : isT L = true := by
 unfold isT
 rw [List.all_eq_true]
 exact fun j hj => h j (List.mem_range.1 hj)
theorem good_first (L : List (List UInt8)) : goodT L 0 = nameL (L.getD 0 []) := by simp [goodT]
theorem good_next (L : List (List UInt8)) (k : Nat) : goodT L (k + 1) = (nameL (L.getD (k + 1) []) && ltN (L.getD k []) (L.getD (k + 1) [])) := by simp [goodT]
def idxI (L : List (List UInt8)) (s : List UInt8) : Int := if s ∈ L then (L.idxOf s : Int) else -1
theorem idx_at (L : List (List UInt8)) (s : List UInt8) : ∀ k, k < L.length → L.getD k [] = s → (∀ j, j < k → L.getD j [] ≠ s) → L.idxOf s = k ∧ s ∈ L := by
 induction L with
 | nil => intro k hk; exact absurd hk (Nat.not_lt_zero k)
 | cons x L ih =>
  intro k hk he hn
  cases k with
  | zero =>
   have : x = s := he
   subst this
   exact ⟨by simp, List.mem_cons_self ..⟩
  | succ k =>
   have hx : x ≠ s := hn 0 (by omega)
   obtain ⟨h1, h2⟩ := ih k (by simpa using hk) (by simpa using he) (fun j hj => by simpa using hn (j + 1) (by omega))
   refine ⟨?_, List.mem_cons_of_mem _ h2⟩
   rw [List.idxOf_cons, beq_eq_false_iff_ne.2 hx, h1]
   rfl
theorem idx_none (L : List (List UInt8)) (s : List UInt8) (h : ∀ j, j < L.length → L.getD j [] ≠ s) : s ∉ L := by
 intro hm
 obtain ⟨j, hj, e⟩ := List.getElem_of_mem hm
 exact h j hj (by simp [hj, e])
theorem idxI_at (L : List (List UInt8)) (s : List UInt8) (k : Nat) (hk : k < L.length) (he : L.getD k [] = s) (hn : ∀ j, j < k → L.getD j [] ≠ s) : idxI L s = (k : Int) := by
 obtain ⟨h1, h2⟩ := idx_at L s k hk he hn
 simp [idxI, h1, h2]
theorem idxI_none (L : List (List UInt8)) (s : List UInt8) (h : ∀ j, j < L.length → L.getD j [] ≠ s) : idxI L s = -1 := by simp [idxI, idx_none L s h]
theorem idxI_range (L : List (List UInt8)) (s : List UInt8) : -1 ≤ idxI L s ∧ idxI L s < L.length := by
 unfold idxI
 split
 ·rename_i h
  have := List.idxOf_lt_length_of_mem h
  omega
 ·omega
def findT (L : List (List UInt8)) (s : List UInt8) : Nat × Bool := if isT L = true ∧ s ∈ L then (L.idxOf s, true) else (0, false)
theorem find_not (L : List (List UInt8)) (s : List UInt8) (h : isT L = false) : findT L s = (0, false) := by simp [findT, h]
theorem find_idx (L : List (List UInt8)) (s : List UInt8) (h : isT L = true) : findT L s = ((max (idxI L s) 0).toNat, decide (0 ≤ idxI L s)) := by
 unfold findT idxI
 by_cases hm : s ∈ L
 ·rw [if_pos ⟨h, hm⟩, if_pos hm]
  refine Prod.ext ?_ ?_
  ·show List.idxOf s L = _
   omega
  ·simp
 ·rw [if_neg (fun h => hm h.2), if_neg hm]
  refine Prod.ext ?_ ?_
  ·show 0 = (max (-1 : Int) 0).toNat
   omega
  ·simp
def numT (to : List (List UInt8)) (x : List UInt8) : Int := if (findT to x).2 = true then ((findT to x).1 : Int) else -1
def mapT (fr to : List (List UInt8)) : List Int := fr.map (numT to)
theorem sorted_isT (L : List (List UInt8)) : isT (sortedN L) = true := by
 obtain ⟨h1, h2⟩ := sortedN_spec L
 refine isT_yes _ fun j hj => ?_
 have hg : ∀ i, i < (sortedN L).length → (sortedN L).getD i [] ∈ sortedN L := fun i hi => by
  have : (sortedN L).getD i [] = (sortedN L)[i] := by simp [hi]
  rw [this]
  exact List.getElem_mem hi
 have hn := ((h2 _).1 (hg j hj)).2
 cases j with
 | zero => rw [good_first]; exact hn
 | succ k =>
  rw [good_next, hn]
  have e1 : (sortedN L).getD k [] = (sortedN L)[k] := by simp [show k < (sortedN L).length by omega]
  have e2 : (sortedN L).getD (k + 1) [] = (sortedN L)[k + 1] := by simp [hj]
  rw [e1, e2, List.pairwise_iff_getElem.1 h1 k (k + 1) (by omega) hj (by omega)]
  rfl
theorem sorted_len (L : List (List UInt8)) : (sortedN L).length ≤ L.length := by
 have gen : ∀ (L out : List (List UInt8)), (L.foldl (fun out x => if nameL x then insN x out else out) out).length ≤ out.length + L.length := by
  intro L
  induction L with
  | nil => intro out; simp
  | cons x L ih =>
   intro out
   rw [List.foldl_cons]
   have h := ih (if nameL x then insN x out else out)
   have h2 : (if nameL x then insN x out else out).length ≤ out.length + 1 := by
    split
    ·have g : ∀ r : List (List UInt8), (insN x r).length ≤ r.length + 1 := by
      intro r
      induction r with
      | nil => simp [insN]
      | cons y r ih =>
       unfold insN
       split
       ·simp only [List.length_cons]; omega
       ·split <;> simp only [List.length_cons] <;> omega
     exact g out
    ·omega
   simp only [List.length_cons]
   omega
 have := gen L []
 simpa [sortedN] using this
end Go.Proofs.YthgbfaoblnkniaaDoor

namespace Go.Proofs.YthgbfaoblnkniaaDoor
open Go.Lib
abbrev OpM := Bool × Int × Int × Int
abbrev TxnM := Int × Int × List OpM
abbrev HistM := List (List UInt8) × List (List UInt8) × List TxnM
def noOp : OpM := (false, 0, 0, 0)
def noTxn : TxnM := (0, 0, [])
end Go.Proofs.YthgbfaoblnkniaaDoor

namespace Go.Proofs.YthgbfaoblnkniaaDoor
open Go.RowKit Go.Lib
structure DraftM where
 nm : List UInt8
 ks : List (List UInt8)
 ln : Int
 fate : Int
 ops : List OpM
 op : Bool
deriving DecidableEq
def noD : DraftM := ⟨[], [], 0, 0, [], false⟩
def namesD (L : List DraftM) : List (List UInt8) := L.map (·.nm)
def keysD (L : List DraftM) : List (List UInt8) := L.flatMap (·.ks)
def isAt (s : List UInt8) (d : DraftM) : Bool := d.op && decide (d.nm = s)
def atD (L : List DraftM) (s : List UInt8) : Nat := L.findIdx (isAt s)
def endD (d : DraftM) (f : Int) : DraftM := { d with fate := f, op := false }
def moreD (d : DraftM) (x : EventM) : DraftM := { d with ops := d.ops ++ [(x.1 == 3, 0, x.2.2.2.1, x.2.2.2.2.1)], ks := d.ks ++ [x.2.2.1] }
def putP (L : List DraftM) (x : EventM) : List DraftM × Int :=
 if mayE x = false then (L, 4)
 else if x.1 = 1 then
  if atD L x.2.1 < L.length then (L, 9)
  else if 20 < (sortedN (namesD L ++ [x.2.1])).length ∨ L.length = 40 then (L, 7)
  else (L ++ [⟨x.2.1, [], x.2.2.2.2.2, 0, [], true⟩], 0)
 else if ¬ atD L x.2.1 < L.length then (L, 10)
 else if 4 ≤ x.1 then (L.set (atD L x.2.1) (endD (L.getD (atD L x.2.1) noD) (x.1 - 3)), 0)
 else if (L.getD (atD L x.2.1) noD).ops.length = 20 ∨ 40 < (sortedN (keysD L ++ [x.2.2.1])).length then (L, 7)
 else (L.set (atD L x.2.1) (moreD (L.getD (atD L x.2.1) noD) x), 0)
def madeP : List EventM → List DraftM → List DraftM × Int × Int
 | [], L => (L, 0, 0)
 | x :: r, L => if (putP L x).2 = 0 then madeP r (putP L x).1 else ((putP L x).1, x.2.2.2.2.2, (putP L x).2)
def opK (K : List (List UInt8)) (o : OpM) (k : List UInt8) : OpM := (o.1, ((findT K k).1 : Int), o.2.2.1, o.2.2.2)
def txnD (S K : List (List UInt8)) (d : DraftM) : TxnM := (((findT S d.nm).1 : Int), d.fate, d.ops.zipWith (opK K) d.ks)
def noH : HistM := ([], [], [])
def histP (l : List EventM) : HistM × Int × Int :=
 if (madeP l []).2.2 ≠ 0 then (noH, (madeP l []).2.1, (madeP l []).2.2)
 else match (madeP l []).1.find? (·.op) with
  | some d => (noH, d.ln, 12)
  | none => ((sortedN (namesD (madeP l []).1), sortedN (keysD (madeP l []).1), (madeP l []).1.map (txnD (sortedN (namesD (madeP l []).1)) (sortedN (keysD (madeP l []).1)))), 0, 0)
def openP (l : List EventM) : List (List UInt8) := if (madeP l []).2.2 ≠ 0 then [] else sortedN (((madeP l []).1.filter (·.op)).map (·.nm))
structure GoodD (d : DraftM) : Prop where
 nm : nameL d.nm = true
 ks : ∀ k ∈ d.ks, nameL k = true
 len : d.ks.length = d.ops.length
 few : d.ops.length ≤ 20
 fate : 0 ≤ d.fate ∧ d.fate ≤ 3
structure GoodL (L : List DraftM) : Prop where
 all : ∀ d ∈ L, GoodD d
 few : L.length ≤ 40
 names : (sortedN (namesD L)).length ≤ 20
 keys : (sortedN (keysD L)).length ≤ 40
 one : ∀ i j : Nat, i < j → j < L.length → (L.getD i noD).op = true → (L.getD j noD).op = true → (L.getD i noD).nm ≠ (L.getD j noD).nm
theorem good_nil : GoodL [] := ⟨fun d h => (by cases h), by decide, by decide, by decide, fun i j h h2 => absurd h2 (Nat.not_lt_zero j)⟩
theorem atD_spec (L : List DraftM) (s : List UInt8) (h : atD L s < L.length) : (L.getD (atD L s) noD).op = true ∧ (L.getD (atD L s) noD).nm = s := by
 have h1 : isAt s L[atD L s] = true := List.findIdx_getElem (p := isAt s) (w := h)
 have e : L.getD (atD L s) noD = L[atD L s] := by simp [h]
 rw [e]
 generalize L[atD L s] = d at h1
 unfold isAt at h1
 simpa using h1
theorem atD_before (L : List DraftM) (s : List UInt8) (j : Nat) (h : j < atD L s) : isAt s (L.getD j noD) = false := by
 have hj : j < L.length := Nat.lt_of_lt_of_le h List.findIdx_le_length
 have h1 := List.not_of_lt_findIdx (p := isAt s) (xs := L) h
 have e : L.getD j noD = L[j] := by simp [hj]
 rw [e]
 simpa using h1
theorem atD_none (L : List DraftM) (s : List UInt8) (h : ¬ atD L s < L.length) (j : Nat) (hj : j < L.length) : isAt s (L.getD j noD) = false :=
 atD_before L s j (by omega)
theorem sortedN_same (A B : List (List UInt8)) (h : ∀ y, y ∈ A ↔ y ∈ B) : sortedN A = sortedN B := by
 obtain ⟨a1, a2⟩ := sortedN_spec A
 obtain ⟨b1, b2⟩ := sortedN_spec B
 exact strict_unique ltN ltN_irrefl ltN_trans _ _ a1 b1 (fun y => by rw [a2, b2, h])
theorem names_snoc (L : List DraftM) (d : DraftM) : namesD (L ++ [d]) = namesD L ++ [d.nm] := by simp [namesD]
theorem keys_snoc (L : List DraftM) (d : DraftM) : keysD (L ++ [d]) = keysD L ++ d.ks := by simp [keysD]
theorem names_set (L : List DraftM) (i : Nat) (d : DraftM) (hi : i < L.length) (h : d.nm = (L.getD i noD).nm) : namesD (L.set i d) = namesD L := by
 unfold namesD
 apply List.ext_getElem
 ·simp
 ·intro j h1 h2
  simp only [List.length_map] at h2
  rw [List.getElem_map, List.getElem_map, List.getElem_set]
  by_cases e : i = j
  ·subst e; rw [if_pos rfl, h]; simp [hi]
  ·rw [if_neg e]
theorem keys_mem (L : List DraftM) (y : List UInt8) : y ∈ keysD L ↔ ∃ j, j < L.length ∧ y ∈ (L.getD j noD).ks := by
 unfold keysD
 rw [List.mem_flatMap]
 constructor
 ·rintro ⟨d, hd, hy⟩
  obtain ⟨j, hj, rfl⟩ := List.getElem_of_mem hd
  exact ⟨j, hj, by simpa [hj] using hy⟩
 ·rintro ⟨j, hj, hy⟩
  exact ⟨L[j], List.getElem_mem hj, by simpa [hj] using hy⟩
theorem getD_setD (L : List DraftM) (i j : Nat) (d : DraftM) (hi : i < L.length) : (L.set i d).getD j noD = if i = j then d else L.getD j noD := by
 by_cases e : i = j
 ·subst e; simp [hi]
 ·rw [if_neg e]; simp [List.getElem?_set_ne e]
theorem keys_set (L : List DraftM) (i : Nat) (d : DraftM) (hi : i < L.length) (h : d.ks = (L.getD i noD).ks) : keysD (L.set i d) = keysD L := by
 unfold keysD
 rw [List.flatMap_def, List.flatMap_def]
 congr 1
 apply List.ext_getElem
 ·simp
 ·intro j h1 h2
  simp only [List.length_map] at h2
  rw [List.getElem_map, List.getElem_map, List.getElem_set]
  by_cases e : i = j
  ·subst e; rw [if_pos rfl, h]; simp [hi]
  ·rw [if_neg e]
theorem keys_more_mem (L : List DraftM) (i : Nat) (x : EventM) (hi : i < L.length) (y : List UInt8) : y ∈ keysD (L.set i (moreD (L.getD i noD) x)) ↔ y ∈ keysD L ++ [x.2.2.1] := by
 rw [List.mem_append, keys_mem, keys_mem, List.length_set]
 constructor
 ·rintro ⟨j, hj, hy⟩
  rw [getD_setD L i j _ hi] at hy
  by_cases e : i = j
  ·rw [if_pos e] at hy
   rcases List.mem_append.1 (show y ∈ (L.getD i noD).ks ++ [x.2.2.1] from hy) with h | h
   ·exact .inl ⟨i, hi, h⟩
   ·exact .inr h
  ·rw [if_neg e] at hy
   exact .inl ⟨j, hj, hy⟩
 ·rintro (⟨j, hj, hy⟩ | hy)
  ·refine ⟨j, hj, ?_⟩
   rw [getD_setD L i j _ hi]
   by_cases e : i = j
   ·subst e; rw [if_pos rfl]; exact List.mem_append.2 (.inl hy)
   ·rw [if_neg e]; exact hy
  ·refine ⟨i, hi, ?_⟩
   rw [getD_setD L i i _ hi, if_pos rfl]
   exact List.mem_append.2 (.inr hy)
theorem keys_more (L : List DraftM) (i : Nat) (x : EventM) (hi : i < L.length) : sortedN (keysD (L.set i (moreD (L.getD i noD) x))) = sortedN (keysD L ++ [x.2.2.1]) := sortedN_same _ _ (keys_more_mem L i x hi)
theorem mayE_nm (x : EventM) (h : mayE x = true) : nameL x.2.1 = true ∧ 1 ≤ x.1 ∧ x.1 ≤ 6 ∧ (x.1 = 2 ∨ x.1 = 3 → nameL x.2.2.1 = true) := by
 unfold mayE at h
 simp only [Bool.and_eq_true, decide_eq_true_eq] at h
 refine ⟨h.2.2.1, h.1, h.2.1, fun hk => ?_⟩
 have h4 := h.2.2.2
 have e : longK x.1 = true := by rcases hk with e | e <;> rw [e] <;> decide
 rw [if_pos e] at h4
 simp only [Bool.and_eq_true] at h4
 exact h4.1
theorem getD_memD (L : List DraftM) (i : Nat) (hi : i < L.length) : L.getD i noD ∈ L := by
 rw [show L.getD i noD = L[i] by simp [hi]]; exact List.getElem_mem hi
theorem good_set {L : List DraftM} (hL : GoodL L) (i : Nat) (d : DraftM) (hi : i < L.length) (hd : GoodD d) (hn : d.nm = (L.getD i noD).nm) (ho : d.op = true → (L.getD i noD).op = true) (hk : (sortedN (keysD (L.set i d))).length ≤ 40) : GoodL (L.set i d) := by
 refine ⟨fun e he => ?_, by rw [List.length_set]; exact hL.few, by rw [names_set L i d hi hn]; exact hL.names, hk, fun a b hab hb h1 h2 => ?_⟩
 ·rcases List.mem_or_eq_of_mem_set he with h | h
  ·exact hL.all e h
  ·rw [h]; exact hd
 ·rw [List.length_set] at hb
  rw [getD_setD L i a d hi] at h1 ⊢
  rw [getD_setD L i b d hi] at h2 ⊢
  have h3 : (if i = a then d else L.getD a noD).nm = (L.getD a noD).nm := by
   by_cases e : i = a
   ·subst e; rw [if_pos rfl, hn]
   ·rw [if_neg e]
  have h4 : (if i = b then d else L.getD b noD).nm = (L.getD b noD).nm := by
   by_cases e : i = b
   ·subst e; rw [if_pos rfl, hn]
   ·rw [if_neg e]
  rw [h3, h4]
  refine hL.one a b hab hb ?_ ?_
  ·by_cases e : i = a
   ·subst e; rw [if_pos rfl] at h1; exact ho h1
   ·rw [if_neg e] at h1; exact h1
  ·by_cases e : i = b
   ·subst e; rw [if_pos rfl] at h2; exact ho h2
   ·rw [if_neg e] at h2; exact h2
theorem put_good {L : List DraftM} (hL : GoodL L) (x : EventM) : GoodL (putP L x).1 := by
 unfold putP
 by_cases hm : mayE x = false
 ·rw [if_pos hm]; exact hL
 ·rw [if_neg hm]
  have hm' : mayE x = true := by simpa using hm
  obtain ⟨h1, h2, h3, h4⟩ := mayE_nm x hm'
  by_cases hk : x.1 = 1
  ·rw [if_pos hk]
   by_cases ha : atD L x.2.1 < L.length
   ·rw [if_pos ha]; exact hL
   ·rw [if_neg ha]
    by_cases hf : 20 < (sortedN (namesD L ++ [x.2.1])).length ∨ L.length = 40
    ·rw [if_pos hf]; exact hL
    ·rw [if_neg hf]
     have hl := hL.few
     refine ⟨fun d hd => ?_, by rw [List.length_append]; simp; omega, by rw [names_snoc]; simp only; omega, by rw [keys_snoc, List.append_nil]; exact hL.keys, fun i j hij hj g1 g2 => ?_⟩
     ·rcases List.mem_append.1 hd with h | h
      ·exact hL.all d h
      ·rw [List.mem_singleton] at h
       subst h
       exact ⟨h1, fun k hk => (by cases hk), rfl, Nat.zero_le _, Int.le_refl _, by simp only; omega⟩
     ·have hj' : j < L.length ∨ j = L.length := by simp at hj; omega
      have hi : i < L.length := by omega
      have e1 : ∀ d : DraftM, (L ++ [d]).getD i noD = L.getD i noD := fun d => by simp [List.getElem?_append_left hi]
      rw [e1] at g1 ⊢
      rcases hj' with hj' | rfl
      ·have e2 : ∀ d : DraftM, (L ++ [d]).getD j noD = L.getD j noD := fun d => by simp [List.getElem?_append_left hj']
       rw [e2] at g2 ⊢
       exact hL.one i j hij hj' g1 g2
      ·have e2 : ∀ d : DraftM, (L ++ [d]).getD L.length noD = d := fun d => by simp
       rw [e2]
       have h5 := atD_none L x.2.1 ha i hi
       intro e
       unfold isAt at h5
       rw [g1] at h5
       simp only [Bool.true_and, decide_eq_false_iff_not] at h5
       exact h5 e
  ·rw [if_neg hk]
   by_cases ha : atD L x.2.1 < L.length
   ·rw [if_neg (by simpa using ha)]
    obtain ⟨o1, o2⟩ := atD_spec L x.2.1 ha
    have hg := hL.all _ (getD_memD L _ ha)
    by_cases hf : 4 ≤ x.1
    ·rw [if_pos hf]
     refine good_set hL _ _ ha ⟨hg.nm, hg.ks, hg.len, hg.few, ?_, ?_⟩ rfl (fun h => (by cases h)) ?_
     ·show 0 ≤ x.1 - 3; omega
     ·show x.1 - 3 ≤ 3; omega
     ·rw [keys_set L _ (endD (L.getD (atD L x.2.1) noD) (x.1 - 3)) ha rfl]; exact hL.keys
    ·rw [if_neg hf]
     by_cases hc : (L.getD (atD L x.2.1) noD).ops.length = 20 ∨ 40 < (sortedN (keysD L ++ [x.2.2.1])).length
     ·rw [if_pos hc]; exact hL
     ·rw [if_neg hc]
      have hkey : nameL x.2.2.1 = true := h4 (by omega)
      refine good_set hL _ _ ha ⟨hg.nm, fun k h => ?_, ?_, ?_, hg.fate⟩ rfl (fun _ => o1) ?_
      ·rcases List.mem_append.1 (show k ∈ (L.getD (atD L x.2.1) noD).ks ++ [x.2.2.1] from h) with h | h
       ·exact hg.ks k h
       ·rw [List.mem_singleton] at h; rw [h]; exact hkey
      ·show ((L.getD (atD L x.2.1) noD).ks ++ [x.2.2.1]).length = ((L.getD (atD L x.2.1) noD).ops ++ [_]).length
       rw [List.length_append, List.length_append, hg.len]; rfl
      ·show ((L.getD (atD L x.2.1) noD).ops ++ [_]).length ≤ 20
       have := hg.few
       rw [List.length_append, List.length_singleton]; omega
      ·rw [keys_more L _ x ha]; omega
   ·rw [if_pos (by simpa using ha)]; exact hL
theorem made_good : ∀ (l : List EventM) (L : List DraftM), GoodL L → GoodL (madeP l L).1
 | [], _, h => h
 | x :: r, L, h => by
  unfold madeP
  by_cases e : (putP L x).2 = 0
  ·rw [if_pos e]; exact made_good r _ (put_good h x)
  ·rw [if_neg e]; exact put_good h x
theorem nodup_le {α : Type} [DecidableEq α] : ∀ (A B : List α), A.Nodup → (∀ x ∈ A, x ∈ B) → A.length ≤ B.length
 | [], _, _, _ => Nat.zero_le _
 | a :: A, B, hn, h => by
  rw [List.nodup_cons] at hn
  have hb := h a (List.mem_cons_self ..)
  have h1 := nodup_le A (B.erase a) hn.2 (fun x hx => (List.mem_erase_of_ne (fun e => hn.1 (by rw [← e]; exact hx))).2 (h x (List.mem_cons_of_mem _ hx)))
  rw [List.length_erase_of_mem hb] at h1
  have := List.length_pos_of_mem hb
  rw [List.length_cons]
  omega
theorem sorted_nodup (M : List (List UInt8)) : (sortedN M).Nodup := (sortedN_spec M).1.imp (fun h e => by subst e; rw [ltN_irrefl] at h; cases h)
theorem sorted_count (ks M : List (List UInt8)) (hd : ks.Nodup) (hm : ∀ x, x ∈ ks ↔ x ∈ M) (hn : ∀ x ∈ M, nameL x = true) : (sortedN M).length = ks.length := by
 have h2 := (sortedN_spec M).2
 refine Nat.le_antisymm (nodup_le _ _ (sorted_nodup M) (fun x hx => (hm x).2 ((h2 x).1 hx).1)) (nodup_le _ _ hd (fun x hx => (h2 x).2 ⟨(hm x).1 hx, hn x ((hm x).1 hx)⟩))
theorem names_good {L : List DraftM} (hL : GoodL L) : ∀ x ∈ namesD L, nameL x = true := fun x hx => by
 obtain ⟨d, hd, rfl⟩ := List.mem_map.1 hx
 exact (hL.all d hd).nm
theorem keys_good {L : List DraftM} (hL : GoodL L) : ∀ x ∈ keysD L, nameL x = true := fun x hx => by
 obtain ⟨d, hd, h⟩ := List.mem_flatMap.1 hx
 exact (hL.all d hd).ks x h
theorem count_more (ks M : List (List UInt8)) (s : List UInt8) (m : Nat) (hd : ks.Nodup) (hm : ∀ x, x ∈ ks ↔ x ∈ M) (hn : ∀ x ∈ M, nameL x = true) (hs : nameL s = true) (hle : (sortedN M).length ≤ m) : (m < (sortedN (M ++ [s])).length ↔ s ∉ ks ∧ ks.length = m) ∧ ks.length ≤ m := by
 have h1 := sorted_count ks M hd hm hn
 by_cases h : s ∈ ks
 ·have h2 := sorted_count ks (M ++ [s]) hd (fun x => by
   rw [List.mem_append, List.mem_singleton, hm]
   exact ⟨.inl, fun g => g.elim id (fun e => by rw [e]; exact (hm s).1 h)⟩) (fun x hx => (List.mem_append.1 hx).elim (hn x) (fun g => by rw [List.mem_singleton.1 g]; exact hs))
  rw [h2]
  exact ⟨⟨fun g => by omega, fun g => absurd h g.1⟩, by omega⟩
 ·have h2 := sorted_count (ks ++ [s]) (M ++ [s]) (List.nodup_append.2 ⟨hd, by simp, fun a ha b hb e => by rw [List.mem_singleton] at hb; subst hb; subst e; exact h ha⟩) (fun x => by rw [List.mem_append, List.mem_append, hm]) (fun x hx => (List.mem_append.1 hx).elim (hn x) (fun g => by rw [List.mem_singleton.1 g]; exact hs))
  rw [h2, List.length_append, List.length_singleton]
  exact ⟨⟨fun g => ⟨h, by omega⟩, fun g => by omega⟩, by omega⟩
end Go.Proofs.YthgbfaoblnkniaaDoor

namespace Go.Proofs.YthgbfaoblnkniaaDoor
open Go.RowKit
def Blk (w : World) (B : Nat) (t : TypeId) (cs : List Value) : Prop := w.heap[B]? = some (.cells cs.toArray t (0, 0))
theorem Blk.lt {w : World} {B : Nat} {t : TypeId} {cs : List Value} (h : Blk w B t cs) : B < w.heap.size := (Array.getElem?_eq_some_iff.1 h).1
theorem Blk.cell {w : World} {B : Nat} {t : TypeId} {cs : List Value} (h : Blk w B t cs) (i : Nat) {v : Value} (hi : cs[i]? = some v) : w.cell? ⟨B, i, none⟩ = some v := by
 rw [cell_of_row w B i cs.toArray t (0, 0) h]
 simpa using hi
theorem Blk.frozen {w : World} {B : Nat} {t : TypeId} {cs : List Value} (h : Blk w B t cs) (i : Nat) : w.frozen? ⟨B, i, none⟩ = false := by
 have h' : w.heap[B]? = some (.cells cs.toArray t (0, 0)) := h
 simp [World.frozen?, h']
theorem Blk.new (w : World) (t : TypeId) (cs : List Value) : Blk (w.alloc (.cells cs.toArray t)) w.heap.size t cs := heap_alloc_new w _
theorem Blk.kept {w w' : World} {row : Option Nat} {B : Nat} {t : TypeId} {cs : List Value} (h : Blk w B t cs) (hg : w.grownBy w' row) (hne : some B ≠ row) : Blk w' B t cs := (hg.block B h.lt hne).trans h
theorem Blk.alloc {w : World} {B : Nat} {t : TypeId} {cs : List Value} (h : Blk w B t cs) (o : Obj) : Blk (w.alloc o) B t cs := h.kept (World.grownBy_alloc w o none) (by simp)
theorem Blk.drew {w : World} {B : Nat} {t : TypeId} {cs : List Value} (h : Blk w B t cs) : Blk w.drew B t cs := h
theorem Blk.drewN {w : World} {B : Nat} {t : TypeId} {cs : List Value} (h : Blk w B t cs) (n : Nat) : Blk (w.drewN n) B t cs := h
theorem Blk.below {w w' : World} {B n : Nat} {t : TypeId} {cs : List Value} (h : Blk w B t cs) (hb : Below n w w') (hn : B < n) : Blk w' B t cs := (hb.block B hn).trans h
theorem Blk.later {w w' : World} {B : Nat} {t : TypeId} {cs : List Value} (h : Blk w B t cs) (hb : Below w.heap.size w w') : Blk w' B t cs := h.below hb h.lt
theorem Blk.far {w : World} {B : Nat} {t : TypeId} {cs : List Value} (h : Blk w B t cs) {a : Addr} (hne : B ≠ a.block) (v : Value) : Blk (w.setCell a v) B t cs := (Below.heap_setCell w a v B hne).trans h
theorem Blk.set {w : World} {B : Nat} {t : TypeId} {cs : List Value} (h : Blk w B t cs) (i : Nat) (v : Value) : Blk (w.setCell ⟨B, i, none⟩ v) B t (cs.set i v) := by
 have h' : w.heap[B]? = some (.cells cs.toArray t (0, 0)) := h
 simp [Blk, World.setCell, Array.getElem?_modify, h']
theorem owns_far {w : World} {base size n : Nat} {e : TypeId} {v : Value} {xs : List Value} (h : w.ownsRow base e size v n xs) {a : Addr} (ha : a.block < base) (u : Value) : (w.setCell a u).ownsRow base e size v n xs := by
 obtain ⟨h1, h2⟩ := h
 refine ⟨h1, ?_⟩
 rcases h2 with h2 | ⟨g, cap, cur, e1, hb, hw, r⟩
 ·exact .inl h2
 ·exact .inr ⟨g, cap, cur, e1, hb, (Below.heap_setCell w a u g (by omega)).trans hw, r⟩
theorem owns_keep {w w' : World} {base size n m : Nat} {e : TypeId} {v : Value} {xs : List Value} (h : w.ownsRow base e size v n xs) (hb : Below m w w') (hm : ∀ k, v.ownBlock = some k → k < m) : w'.ownsRow base e size v n xs := by
 obtain ⟨h1, h2⟩ := h
 refine ⟨h1, ?_⟩
 rcases h2 with h2 | ⟨g, cap, cur, e1, hg, hw, r⟩
 ·exact .inl h2
 ·exact .inr ⟨g, cap, cur, e1, hg, (hb.block g (hm g (by subst e1; rfl))).trans hw, r⟩
theorem owns_later {w w' : World} {base size n : Nat} {e : TypeId} {v : Value} {xs : List Value} (h : w.ownsRow base e size v n xs) (hb : Below w.heap.size w w') : w'.ownsRow base e size v n xs := owns_keep h hb (fun k hk => (h.lt k hk).2)
theorem owns_other {w w' : World} {base base' size size' n n' : Nat} {e e' : TypeId} {v v' : Value} {xs xs' : List Value} (h : w.ownsRow base e size v n xs) (h' : w.ownsRow base' e' size' v' n' xs') (hne : e ≠ e') (hg : w.grownBy w' v'.ownBlock) : w'.ownsRow base e size v n xs := by
 refine h.kept hg ?_
 rcases h.2 with ⟨rfl, -⟩ | ⟨g, cap, cur, rfl, -, hw, -⟩
 ·exact .inl rfl
 ·refine .inr fun he => ?_
  rcases h'.2 with ⟨rfl, -⟩ | ⟨g', cap', cur', rfl, -, hw', -⟩
  ·cases he
  ·have e1 : g = g' := by simpa [Value.ownBlock] using he
   subst e1
   rw [hw] at hw'
   injection hw' with hw'
   injection hw' with _ hw'
   exact hne hw'
theorem Blk.grown {w w' : World} {B base size n : Nat} {t e : TypeId} {cs : List Value} {v : Value} {xs : List Value} (h : Blk w B t cs) (ho : w.ownsRow base e size v n xs) (hB : B < base) (hg : w.grownBy w' v.ownBlock) : Blk w' B t cs :=
 h.kept hg (fun he => by have := (ho.lt B he.symm).1; omega)
theorem owns_store {w : World} {base size n B : Nat} {e t : TypeId} {v : Value} {xs cs : List Value} (h : w.ownsRow base e size v n xs) (hB : Blk w B t cs) (hne : e ≠ t) (i : Nat) (u : Value) : (w.setCell ⟨B, i, none⟩ u).ownsRow base e size v n xs := by
 obtain ⟨h1, h2⟩ := h
 refine ⟨h1, ?_⟩
 rcases h2 with h2 | ⟨g, cap, cur, e1, hg, hw, r⟩
 ·exact .inl h2
 ·refine .inr ⟨g, cap, cur, e1, hg, (Below.heap_setCell w _ u g fun he => ?_).trans hw, r⟩
  have he' : g = B := he
  subst he'
  have hB' : w.heap[g]? = some (.cells cs.toArray t (0, 0)) := hB
  rw [hw] at hB'
  injection hB' with hB'
  injection hB' with _ hB'
  exact hne hB'
theorem news_lit (w : World) (cs : List Value) (e : TypeId) (n : Nat) (hn : n = w.heap.size) : ∀ (j : Nat) (u : Value), cs[j]? = some u → (w.alloc (.cells cs.toArray e)).cell? ((⟨n, 0, none⟩ : Addr).add j) = some u := by
 intro j u hj
 subst hn
 rw [Addr.add_lit, Nat.zero_add]
 exact (Blk.new w e cs).cell j hj
theorem owns_form {w : World} {base size n : Nat} {e : TypeId} {v : Value} {xs : List Value} (h : w.ownsRow base e size v n xs) : ∃ p cap, v = .slice p n cap := by
 rcases h.2 with ⟨rfl, rfl⟩ | ⟨g, cap, cur, rfl, -⟩
 ·exact ⟨_, _, rfl⟩
 ·exact ⟨_, _, rfl⟩
theorem owns_base {w : World} {base base' size n : Nat} {e : TypeId} {v : Value} {xs : List Value} (h : w.ownsRow base e size v n xs) (hb : base' ≤ base) : w.ownsRow base' e size v n xs := by
 obtain ⟨h1, h2⟩ := h
 refine ⟨h1, ?_⟩
 rcases h2 with h2 | ⟨g, cap, cur, e1, hg, r⟩
 ·exact .inl h2
 ·exact .inr ⟨g, cap, cur, e1, Nat.le_trans hb hg, r⟩
end Go.Proofs.YthgbfaoblnkniaaDoor

namespace Go.Proofs.YthgbfaoblnkniaaDoor
open Go.RowKit Go.Lib Go.Maps Go.WideMaps
theorem keyStr : Keyed Tryd.prog 9 := string_keyed Tryd.underlying9
theorem key_of (l : List UInt8) (h : l.length ≤ 9223372036854775807) : keyOf Tryd.prog 9 (.string (bs l)) = some (.string l) := by
 have h1 := keyOf_string_mk Tryd.underlying9 (s := bs l) (by rw [bs_size]; unfold maxLen; exact h)
 rw [h1]
 simp [bs]
theorem ownsMap_at {H : Type} {w w' : World} {P : Program} {k : TypeId} {R : Value → Option (DataW H × List MemPlace)} {b n : Nat} {D : DataW H} (h : w.ownsMap P k R b n D) (e : w'.heap[b]? = w.heap[b]?) : w'.ownsMap P k R b n D := by
 obtain ⟨es, clock, hb, r⟩ := h
 exact ⟨es, clock, e.trans hb, r⟩
theorem ownsMap_tight {H : Type} {w : World} {P : Program} {k : TypeId} {R : Value → Option (DataW H × List MemPlace)} {b n : Nat} {D : DataW H} (h : w.ownsMap P k R b n D) : w.ownsMap P k R b (Maps.size D) D := by
 obtain ⟨es, clock, hb, F, _, rfl⟩ := h
 exact ⟨es, clock, hb, F, by simp [Maps.size, length_sorted], rfl⟩
def CntM (w : World) (b : Nat) (ks : List (List UInt8)) (N : Nat) : Prop :=
 ∃ D : DataW Unit, w.ownsMap Tryd.prog 9 (plainElem Tryd.prog 3) b (Maps.size D) D ∧ Maps.size D = ks.length ∧ (∀ l, Maps.has D (.string l) = decide (l ∈ ks)) ∧
  ∀ l, ∃ c : Int, (∀ z, l ∈ ks → D.atKey (.string l) z = .lit (.int .i64 c)) ∧ (l ∈ ks → 1 ≤ c ∧ c ≤ N)
theorem CntM.at {w w' : World} {b : Nat} {ks : List (List UInt8)} {N : Nat} (h : CntM w b ks N) (e : w'.heap[b]? = w.heap[b]?) : CntM w' b ks N := by
 obtain ⟨D, h1, h2⟩ := h
 exact ⟨D, ownsMap_at h1 e, h2⟩
theorem CntM.lt {w : World} {b : Nat} {ks : List (List UInt8)} {N : Nat} (h : CntM w b ks N) : b < w.heap.size := by
 obtain ⟨D, h1, h2⟩ := h
 exact h1.lt
theorem cnt_new (w : World) : CntM (w.alloc (.map #[] 0)) w.heap.size [] 0 :=
 ⟨.map [], ownsMap_tight (World.ownsMap_made w _ _ _), rfl, fun l => by simp [Maps.has], fun l => ⟨0, fun _ h => (by cases h), fun h => (by cases h)⟩⟩
theorem zero_cnt (w : World) : (zeroValue 3).run Tryd.prog w = .ok (.int .i64 0) w := by kernel_rfl
set_option maxRecDepth 10000 in
theorem cnt_look {w : World} {b : Nat} {ks : List (List UInt8)} {N : Nat} (h : CntM w b ks N) (hN : ks.length ≤ 1000000 ∧ N ≤ 1000000) (l : List UInt8) (hl : l.length ≤ 9223372036854775807) :
  ∃ c : Int, (c = 0 ↔ l ∉ ks) ∧ 0 ≤ c ∧ c ≤ N ∧ ∀ w1 : World, w1.heap[b]? = w.heap[b]? → (Instr.lookup 52 (.map (some b)) (.string (bs l)) false).run Tryd.prog w1 = .ok (.int .i64 c) w1 ∧
   ∃ w', (Instr.mapUpdate 52 (.map (some b)) (.string (bs l)) (.int .i64 (c + 1))).run Tryd.prog w1 = .ok () w' ∧ CntM w' b (if l ∈ ks then ks else ks ++ [l]) (N + 1) ∧ w1.mapTurned w' b := by
 obtain ⟨D, h1, h2, h3, h4⟩ := h
 obtain ⟨c, -, hat, -⟩ := h1.lookup_int keyStr Tryd.underlying52 Tryd.underlying3 (zero_cnt w) (key_of l hl)
 have hat0 := hat
 have hc : (c = 0 ↔ l ∉ ks) ∧ 0 ≤ c ∧ c ≤ N := by
  by_cases hk : l ∈ ks
  ·obtain ⟨c', e1, e2⟩ := h4 l
   rw [e1 _ hk] at hat
   have e : c' = c := by injection hat with hat; injection hat
   have := e2 hk
   subst e
   exact ⟨⟨fun h => by omega, fun h => absurd hk h⟩, by omega, by omega⟩
  ·have e := atKey_of_not_has (D := D) (k := .string l) (by rw [h3]; exact decide_eq_false hk) (.lit (.int .i64 0))
   rw [e] at hat
   have e : 0 = c := by injection hat with hat; injection hat
   subst e
   exact ⟨⟨fun _ => hk, fun _ => rfl⟩, Int.le_refl _, by omega⟩
 have hsz : Maps.size D < maxLen := by unfold maxLen; omega
 refine ⟨c, hc.1, hc.2.1, hc.2.2, fun w1 hw1 => ?_⟩
 replace h1 := ownsMap_at h1 hw1
 obtain ⟨c', hrun, hat', -⟩ := h1.lookup_int keyStr Tryd.underlying52 Tryd.underlying3 (zero_cnt w1) (key_of l hl)
 have ecc : c' = c := by rw [hat0] at hat'; injection hat' with hat'; injection hat' with _ hat'; exact hat'.symm
 subst ecc
 obtain ⟨w', r1, r2, r3⟩ := h1.store keyStr Tryd.underlying52 hsz (key_of l hl) (plainElem_int Tryd.underlying3 (WalkArith.wf_i64 (n := c' + 1) (by omega)))
 refine ⟨hrun, w', r1, ⟨D.put (.string l) (.lit (.int .i64 (c' + 1))), ownsMap_tight r2, ?_, fun k => ?_, fun k => ?_⟩, r3⟩
 ·rw [size_put (h1.tidy keyStr), h3, h2]
  by_cases hk : l ∈ ks
  ·rw [if_pos (decide_eq_true hk), if_pos hk]
  ·rw [if_neg (by simpa using hk), if_neg hk]; simp
 ·by_cases e : k = l
  ·subst e
   rw [has_put_same h1.isMap (show WideAt.IsKeyLit (.string k) from trivial)]
   by_cases hk : k ∈ ks
   ·simp [hk]
   ·simp [hk]
  ·rw [has_put_other (by simpa using e), h3]
   by_cases hk : l ∈ ks
   ·simp [hk]
   ·simp [hk, e]
 ·by_cases e : k = l
  ·subst e
   refine ⟨c' + 1, fun z _ => atKey_put_same h1.isMap (show WideAt.IsKeyLit (.string k) from trivial) _ _, fun _ => ⟨by omega, by omega⟩⟩
  ·obtain ⟨c2, e1, e2⟩ := h4 k
   have hm : k ∈ (if l ∈ ks then ks else ks ++ [l]) → k ∈ ks := by
    by_cases hk : l ∈ ks
    ·rw [if_pos hk]; exact id
    ·rw [if_neg hk]; simp [e]
   exact ⟨c2, fun z h => by rw [atKey_put_other (by simpa using e)]; exact e1 z (hm h), fun h => by have := e2 (hm h); omega⟩
theorem cnt_len {w : World} {b : Nat} {ks : List (List UInt8)} {N : Nat} (h : CntM w b ks N) (ty : TypeId) : (Builtin.len_ #[52] ty #[.map (some b)]).run Tryd.prog w = .ok (.int .i64 ks.length) w := by
 obtain ⟨D, h1, h2, -⟩ := h
 rw [← h2]
 exact h1.len Tryd.underlying52 ty
def ptrElem : Value → Option (DataW Unit × List MemPlace)
 | .pointer none => some (.lit (.int .i64 (-1)), [])
 | .pointer (some ⟨g, 0, none⟩) => some (.lit (.int .i64 g), [])
 | _ => none
def ptrAt : Option Nat → Value
 | none => .pointer none
 | some g => .pointer (some ⟨g, 0, none⟩)
def numAt : Option Nat → Int
 | none => -1
 | some g => g
theorem ptr_elem (o : Option Nat) : ptrElem (ptrAt o) = some (.lit (.int .i64 (numAt o)), []) := by cases o <;> rfl
theorem ptr_inv {v : Value} {o : Option Nat} {ps : List MemPlace} (h : ptrElem v = some (.lit (.int .i64 (numAt o)), ps)) : v = ptrAt o := by
 have lit : ∀ (a b : Int) (q q' : List MemPlace), (some ((.lit (.int .i64 a) : DataW Unit), q) = some ((.lit (.int .i64 b) : DataW Unit), q')) → a = b := fun a b q q' e => by
  simpa using (Prod.mk.inj (Option.some.inj e)).1
 unfold ptrElem at h
 split at h
 ·have e := lit _ _ _ _ h
  cases o with
  | none => rfl
  | some g => simp only [numAt] at e; omega
 ·have e := lit _ _ _ _ h
  cases o with
  | none => simp only [numAt] at e; omega
  | some g =>
   simp only [numAt] at e
   rename_i g'
   have e2 : g' = g := by omega
   rw [e2]; rfl
 ·cases h
def updF (f : List UInt8 → Option Nat) (l : List UInt8) (o : Option Nat) (k : List UInt8) : Option Nat := if k = l then o else f k
theorem upd_same (f : List UInt8 → Option Nat) (l : List UInt8) (o : Option Nat) : updF f l o l = o := if_pos rfl
theorem upd_other (f : List UInt8 → Option Nat) (l : List UInt8) (o : Option Nat) {k : List UInt8} (h : k ≠ l) : updF f l o k = f k := if_neg h
def OpnM (w : World) (b : Nat) (f : List UInt8 → Option Nat) (n : Nat) : Prop :=
 ∃ D : DataW Unit, w.ownsMap Tryd.prog 9 ptrElem b n D ∧ (∀ l, Maps.has D (.string l) = (f l).isSome) ∧ ∀ l z, (f l).isSome = true → D.atKey (.string l) z = .lit (.int .i64 (numAt (f l)))
theorem OpnM.at {w w' : World} {b n : Nat} {f : List UInt8 → Option Nat} (h : OpnM w b f n) (e : w'.heap[b]? = w.heap[b]?) : OpnM w' b f n := by
 obtain ⟨D, h1, h2⟩ := h
 exact ⟨D, ownsMap_at h1 e, h2⟩
theorem OpnM.lt {w : World} {b n : Nat} {f : List UInt8 → Option Nat} (h : OpnM w b f n) : b < w.heap.size := by
 obtain ⟨D, h1, h2⟩ := h
 exact h1.lt
theorem opn_new (w : World) : OpnM (w.alloc (.map #[] 0)) w.heap.size (fun _ => none) 0 :=
 ⟨.map [], World.ownsMap_made w _ _ _, fun l => by simp [Maps.has], fun l z h => (by cases h)⟩
theorem zero_ptr (w : World) : (zeroValue 55).run Tryd.prog w = .ok (.pointer none) w := by kernel_rfl
theorem opn_look {w : World} {b n : Nat} {f : List UInt8 → Option Nat} (h : OpnM w b f n) (l : List UInt8) (hl : l.length ≤ 9223372036854775807) :
  (Instr.lookup 51 (.map (some b)) (.string (bs l)) false).run Tryd.prog w = .ok (ptrAt (f l)) w := by
 obtain ⟨D, h1, h2, h3⟩ := h
 obtain ⟨v, ps, hrun, hv⟩ := h1.lookup keyStr Tryd.underlying51 (zero_ptr w) (zd := .lit (.int .i64 (-1))) (zp := []) rfl (key_of l hl)
 have e : D.atKey (.string l) (.lit (.int .i64 (-1))) = .lit (.int .i64 (numAt (f l))) := by
  cases hf : f l with
  | some g =>
   have h4 := h3 l (.lit (.int .i64 (-1))) (by rw [hf]; rfl)
   rw [hf] at h4
   exact h4
  | none => exact atKey_of_not_has (by rw [h2, hf]; rfl) _
 rw [e] at hv
 rw [hrun, ptr_inv hv]
theorem opn_put {w : World} {b n : Nat} {f : List UInt8 → Option Nat} (h : OpnM w b f n) (hn : n ≤ 1000000) (l : List UInt8) (hl : l.length ≤ 9223372036854775807) (g : Nat) :
  ∃ w', (Instr.mapUpdate 51 (.map (some b)) (.string (bs l)) (.pointer (some ⟨g, 0, none⟩))).run Tryd.prog w = .ok () w' ∧ OpnM w' b (updF f l (some g)) (n + 1) ∧ w.mapTurned w' b := by
 obtain ⟨D, h1, h2, h3⟩ := h
 obtain ⟨w', r1, r2, r3⟩ := h1.store keyStr Tryd.underlying51 (by unfold maxLen; omega) (key_of l hl) (ptr_elem (some g))
 refine ⟨w', r1, ⟨_, r2, fun k => ?_, fun k z hk => ?_⟩, r3⟩
 ·by_cases e : k = l
  ·subst e
   rw [has_put_same h1.isMap (show WideAt.IsKeyLit (.string k) from trivial), upd_same]; rfl
  ·rw [has_put_other (by simpa using e), upd_other _ _ _ e, h2]
 ·by_cases e : k = l
  ·subst e
   rw [atKey_put_same h1.isMap (show WideAt.IsKeyLit (.string k) from trivial), upd_same]
  ·rw [upd_other _ _ _ e] at hk ⊢
   rw [atKey_put_other (by simpa using e)]
   exact h3 k z hk
theorem opn_del {w : World} {b n : Nat} {f : List UInt8 → Option Nat} (h : OpnM w b f n) (l : List UInt8) (hl : l.length ≤ 9223372036854775807) (ty : TypeId) :
  ∃ w', (Builtin.delete_ #[51, 9] ty #[.map (some b), .string (bs l)]).run Tryd.prog w = .ok (.tuple #[]) w' ∧ OpnM w' b (updF f l none) n ∧ w.mapTurned w' b := by
 obtain ⟨D, h1, h2, h3⟩ := h
 obtain ⟨w', r1, r2, r3⟩ := h1.drop keyStr Tryd.underlying51 (key_of l hl) ty
 refine ⟨w', r1, ⟨_, r2, fun k => ?_, fun k z hk => ?_⟩, r3⟩
 ·by_cases e : k = l
  ·subst e
   rw [has_del_same, upd_same]; rfl
  ·rw [has_del_other (by simpa using e), upd_other _ _ _ e, h2]
 ·by_cases e : k = l
  ·subst e
   rw [upd_same] at hk; cases hk
  ·rw [upd_other _ _ _ e] at hk ⊢
   rw [atKey_del_other (by simpa using e)]
   exact h3 k z hk
end Go.Proofs.YthgbfaoblnkniaaDoor

namespace Go.Proofs.YthgbfaoblnkniaaDoor
open Go.RowKit
theorem flat_at {α : Type} (f : α → List Value) (s : Nat) (hf : ∀ x, (f x).length = s) (d : α) : ∀ (L : List α) (j i : Nat), j < L.length → i < s → (L.flatMap f)[j * s + i]? = (f (L.getD j d))[i]?
 | [], j, _, hj, _ => absurd hj (Nat.not_lt_zero j)
 | x :: L, 0, i, _, hi => by
  rw [List.flatMap_cons, Nat.zero_mul, Nat.zero_add, List.getElem?_append_left (by rw [hf]; exact hi)]
  rfl
 | x :: L, j + 1, i, hj, hi => by
  rw [List.flatMap_cons, List.getElem?_append_right (by rw [hf, Nat.add_mul]; omega), hf, show (j + 1) * s + i - s = j * s + i by rw [Nat.add_mul]; omega]
  rw [flat_at f s hf d L j i (by simpa using hj) hi]
  rfl
theorem flat_len {α : Type} (f : α → List Value) (s : Nat) (hf : ∀ x, (f x).length = s) (L : List α) : (L.flatMap f).length = L.length * s := by
 induction L with
 | nil => simp
 | cons x L ih => rw [List.flatMap_cons, List.length_append, ih, hf, List.length_cons, Nat.add_mul]; omega
theorem flat_set {α : Type} (f : α → List Value) (s : Nat) (hf : ∀ x, (f x).length = s) (A B : List α) (x y : α) (i : Nat) (u : Value) (hi : i < s) (hy : f y = (f x).set i u) : ((A ++ x :: B).flatMap f).set (A.length * s + i) u = (A ++ y :: B).flatMap f := by
 rw [List.flatMap_append, List.flatMap_append, List.flatMap_cons, List.flatMap_cons, List.set_append_right _ _ (by rw [flat_len f s hf]; omega), flat_len f s hf, show A.length * s + i - A.length * s = i by omega, List.set_append_left _ _ (by rw [hf]; exact hi), hy]
theorem flat_snoc {α : Type} (f : α → List Value) (L : List α) (x : α) : L.flatMap f ++ f x = (L ++ [x]).flatMap f := by simp
def SlS {α : Type} (f : α → List Value) (s : Nat) (d : α) (w : World) (v : Value) (L : List α) : Prop := ∃ p cap, v = .slice p L.length cap ∧ ∀ j, j < L.length → ∃ g, p = some ⟨g, 0, none⟩ ∧ ∀ i u, (f (L.getD j d))[i]? = some u → w.cell? ⟨g, j * s + i, none⟩ = some u
theorem SlS.below {α : Type} {f : α → List Value} {s : Nat} {d : α} {w w' : World} {v : Value} {L : List α} (h : SlS f s d w v L) (hb : Below w.heap.size w w') : SlS f s d w' v L := by
 obtain ⟨p, cap, hv, hc⟩ := h
 refine ⟨p, cap, hv, fun j hj => ?_⟩
 obtain ⟨g, hp, h1⟩ := hc j hj
 exact ⟨g, hp, fun i u hu => cell_later hb (h1 i u hu)⟩
theorem sls_none {α : Type} (f : α → List Value) (s : Nat) (d : α) (w : World) : SlS f s d w (.slice none 0 0) [] := ⟨none, 0, rfl, fun j hj => absurd hj (Nat.not_lt_zero j)⟩
theorem own_sls {α : Type} {f : α → List Value} {s : Nat} (d : α) (hf : ∀ x, (f x).length = s) {w : World} {B : Nat} {e : TypeId} {v : Value} {L : List α} (h : w.ownsRow B e s v L.length (L.flatMap f)) : SlS f s d w v L := by
 obtain ⟨-, ⟨h0, hn⟩ | ⟨g, cap, cur, hv, -, hw, -, -, -, ht⟩⟩ := h
 ·have : L = [] := List.eq_nil_of_length_eq_zero hn
  subst this h0
  exact sls_none f s d w
 ·refine ⟨_, cap, hv, fun j hj => ⟨g, rfl, fun i u hu => ?_⟩⟩
  have hi : i < s := by
   have := (List.getElem?_eq_some_iff.1 hu).1
   rw [hf] at this
   exact this
  have hjs : j * s + i < L.length * s := by
   have : (j + 1) * s ≤ L.length * s := Nat.mul_le_mul_right s hj
   rw [Nat.add_mul] at this
   omega
  have h1 := congrArg (fun x : List Value => x[j * s + i]?) ht
  simp only [List.getElem?_take, hjs, if_true, Array.getElem?_toList] at h1
  rw [cell_of_row w g (j * s + i) _ _ (0, 0) hw, h1, flat_at f s hf d L j i hj hi]
  exact hu
end Go.Proofs.YthgbfaoblnkniaaDoor
