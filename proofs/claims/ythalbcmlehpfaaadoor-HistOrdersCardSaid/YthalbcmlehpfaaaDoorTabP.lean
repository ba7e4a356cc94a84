/-
  Layer 9 (table) in plain words: lists of names in order, where a name stands in one, and numbers of names; no program in sight. No conditions.
-/
import Derived.Test.YthalbcmlehpfaaaDoorNameG
namespace Go.Proofs.YthalbcmlehpfaaaDoor
open Go.Lib

/-- The text at i may stand there in a table. -/
def goodT (L : List (List UInt8)) (i : Nat) : Bool := nameL (L.getD i []) && (decide (i = 0) || ltN (L.getD (i - 1) []) (L.getD i []))
/-- Is it a table? -/
def isT (L : List (List UInt8)) : Bool := (List.range L.length).all (goodT L)
theorem isT_no (L : List (List UInt8)) (i : Nat) (hi : i < L.length) (h : goodT L i = false) : isT L = false := by
  unfold isT
  rw [List.all_eq_false]
  exact ⟨i, List.mem_range.2 hi, by simp [h]⟩
theorem isT_yes (L : List (List UInt8)) (h : ∀ j, j < L.length → goodT L j = true) : isT L = true := by
  unfold isT
  rw [List.all_eq_true]
  exact fun j hj => h j (List.mem_range.1 hj)
theorem good_first (L : List (List UInt8)) : goodT L 0 = nameL (L.getD 0 []) := by simp [goodT]
theorem good_next (L : List (List UInt8)) (k : Nat) : goodT L (k + 1) = (nameL (L.getD (k + 1) []) && ltN (L.getD k []) (L.getD (k + 1) [])) := by simp [goodT]

/-- Where a text stands, or -1. -/
def idxI (L : List (List UInt8)) (s : List UInt8) : Int := if s ∈ L then (L.idxOf s : Int) else -1
theorem idx_at (L : List (List UInt8)) (s : List UInt8) : ∀ k, k < L.length → L.getD k [] = s → (∀ j, j < k → L.getD j [] ≠ s) → L.idxOf s = k ∧ s ∈ L := by
  induction L with
  | nil => intro k hk; exact absurd hk (Nat.not_lt_zero k)
  | cons x L ih =>
    intro k hk he hn
    cases k with
    | zero =>
      have : x = s := he
      subst this
      exact ⟨by simp, List.mem_cons_self ..⟩
    | succ k =>
      have hx : x ≠ s := hn 0 (by omega)
      obtain ⟨h1, h2⟩ := ih k (by simpa using hk) (by simpa using he) (fun j hj => by simpa using hn (j + 1) (by omega))
      refine ⟨?_, List.mem_cons_of_mem _ h2⟩
      rw [List.idxOf_cons, beq_eq_false_iff_ne.2 hx, h1]
      rfl
theorem idx_none (L : List (List UInt8)) (s : List UInt8) (h : ∀ j, j < L.length → L.getD j [] ≠ s) : s ∉ L := by
  intro hm
  obtain ⟨j, hj, e⟩ := List.getElem_of_mem hm
  exact h j hj (by simp [hj, e])
theorem idxI_at (L : List (List UInt8)) (s : List UInt8) (k : Nat) (hk : k < L.length) (he : L.getD k [] = s) (hn : ∀ j, j < k → L.getD j [] ≠ s) : idxI L s = (k : Int) := by
  obtain ⟨h1, h2⟩ := idx_at L s k hk he hn
  simp [idxI, h1, h2]
theorem idxI_none (L : List (List UInt8)) (s : List UInt8) (h : ∀ j, j < L.length → L.getD j [] ≠ s) : idxI L s = -1 := by simp [idxI, idx_none L s h]
theorem idxI_range (L : List (List UInt8)) (s : List UInt8) : -1 ≤ idxI L s ∧ idxI L s < L.length := by
  unfold idxI
  split
  · rename_i h
    have := List.idxOf_lt_length_of_mem h
    omega
  · omega

/-- A name's number in a table. -/
def findT (L : List (List UInt8)) (s : List UInt8) : Nat × Bool := if isT L = true ∧ s ∈ L then (L.idxOf s, true) else (0, false)
theorem find_not (L : List (List UInt8)) (s : List UInt8) (h : isT L = false) : findT L s = (0, false) := by simp [findT, h]
theorem find_idx (L : List (List UInt8)) (s : List UInt8) (h : isT L = true) : findT L s = ((max (idxI L s) 0).toNat, decide (0 ≤ idxI L s)) := by
  unfold findT idxI
  by_cases hm : s ∈ L
  · rw [if_pos ⟨h, hm⟩, if_pos hm]
    refine Prod.ext ?_ ?_
    · show List.idxOf s L = _
      omega
    · simp
  · rw [if_neg (fun h => hm h.2), if_neg hm]
    refine Prod.ext ?_ ?_
    · show 0 = (max (-1 : Int) 0).toNat
      omega
    · simp
theorem find_le (L : List (List UInt8)) (s : List UInt8) : (findT L s).1 ≤ L.length := by
  unfold findT
  split
  · rename_i h
    have := List.idxOf_lt_length_of_mem h.2
    show List.idxOf s L ≤ _
    omega
  · exact Nat.zero_le _
/-- A table with a name more. -/
def putT (L : List (List UInt8)) (s : List UInt8) : List (List UInt8) := sortedN (L ++ [s])
/-- Numbers of names in a table. -/
def numT (to : List (List UInt8)) (x : List UInt8) : Int := if (findT to x).2 = true then ((findT to x).1 : Int) else -1
def mapT (fr to : List (List UInt8)) : List Int := fr.map (numT to)
/-- Not too many, not too long. -/
def fewT (L : List (List UInt8)) : List (List UInt8) := (L.take 30).map (·.take 100)
theorem few_few (L : List (List UInt8)) : fewT (fewT L) = fewT L := by
  unfold fewT
  rw [← List.map_take, List.take_take, List.map_map, Nat.min_self]
  refine List.map_congr_left fun x _ => ?_
  show (x.take 100).take 100 = _
  rw [List.take_take, Nat.min_self]
theorem few_len (L : List (List UInt8)) : (fewT L).length ≤ 30 := by
  unfold fewT
  rw [List.length_map, List.length_take]
  omega
theorem few_texts (L : List (List UInt8)) : ∀ x ∈ fewT L, x.length ≤ 100 := by
  intro x hx
  obtain ⟨y, -, rfl⟩ := List.mem_map.1 hx
  show (y.take 100).length ≤ 100
  rw [List.length_take]
  omega
theorem few_next (L : List (List UInt8)) (k : Nat) (hk : k < L.length) : (L.take (k + 1)).map (·.take 100) = (L.take k).map (·.take 100) ++ [(L.getD k []).take 100] := by
  rw [List.take_add_one, List.map_append]
  congr 1
  simp [hk]

theorem sorted_isT (L : List (List UInt8)) : isT (sortedN L) = true := by
  obtain ⟨h1, h2⟩ := sortedN_spec L
  refine isT_yes _ fun j hj => ?_
  have hg : ∀ i, i < (sortedN L).length → (sortedN L).getD i [] ∈ sortedN L := fun i hi => by
    have : (sortedN L).getD i [] = (sortedN L)[i] := by simp [hi]
    rw [this]
    exact List.getElem_mem hi
  have hn := ((h2 _).1 (hg j hj)).2
  cases j with
  | zero => rw [good_first]; exact hn
  | succ k =>
    rw [good_next, hn]
    have e1 : (sortedN L).getD k [] = (sortedN L)[k] := by simp [show k < (sortedN L).length by omega]
    have e2 : (sortedN L).getD (k + 1) [] = (sortedN L)[k + 1] := by simp [hj]
    rw [e1, e2, List.pairwise_iff_getElem.1 h1 k (k + 1) (by omega) hj (by omega)]
    rfl
theorem put_find (L : List (List UInt8)) (s : List UInt8) : (findT (putT L s) s).2 = nameL s ∧ (nameL s = true → (findT (putT L s) s).1 < (putT L s).length ∧ (putT L s).getD (findT (putT L s) s).1 [] = s) := by
  have hT : isT (putT L s) = true := sorted_isT _
  have hm : s ∈ putT L s ↔ nameL s = true := by
    rw [putT, (sortedN_spec _).2]
    simp
  cases hn : nameL s with
  | true =>
    have hs := hm.2 hn
    have hf : findT (putT L s) s = ((putT L s).idxOf s, true) := by rw [findT, if_pos ⟨hT, hs⟩]
    rw [hf]
    have hl := List.idxOf_lt_length_of_mem hs
    refine ⟨rfl, fun _ => ⟨hl, ?_⟩⟩
    show (putT L s).getD ((putT L s).idxOf s) [] = s
    have : (putT L s).getD ((putT L s).idxOf s) [] = (putT L s)[(putT L s).idxOf s] := by simp [hl]
    rw [this]
    exact List.getElem_idxOf hl
  | false =>
    have hs : s ∉ putT L s := fun h => by rw [hm.1 h] at hn; cases hn
    have hf : findT (putT L s) s = (0, false) := by rw [findT, if_neg (fun h => hs h.2)]
    rw [hf]
    exact ⟨rfl, fun h => by cases h⟩
theorem sorted_len (L : List (List UInt8)) : (sortedN L).length ≤ L.length := by
  have gen : ∀ (L out : List (List UInt8)), (L.foldl (fun out x => if nameL x then insN x out else out) out).length ≤ out.length + L.length := by
    intro L
    induction L with
    | nil => intro out; simp
    | cons x L ih =>
      intro out
      rw [List.foldl_cons]
      have h := ih (if nameL x then insN x out else out)
      have h2 : (if nameL x then insN x out else out).length ≤ out.length + 1 := by
        split
        · have g : ∀ r : List (List UInt8), (insN x r).length ≤ r.length + 1 := by
            intro r
            induction r with
            | nil => simp [insN]
            | cons y r ih =>
              unfold insN
              split
              · simp only [List.length_cons]; omega
              · split <;> simp only [List.length_cons] <;> omega
          exact g out
        · omega
      simp only [List.length_cons]
      omega
  have := gen L []
  simpa [sortedN] using this
theorem sorted_texts (L : List (List UInt8)) (n : Nat) (h : ∀ x ∈ L, x.length ≤ n) : ∀ x ∈ sortedN L, x.length ≤ n := fun x hx => h x (((sortedN_spec L).2 x).1 hx).1
end Go.Proofs.YthalbcmlehpfaaaDoor
