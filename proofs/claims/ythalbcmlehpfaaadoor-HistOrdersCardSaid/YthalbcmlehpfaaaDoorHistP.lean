/-
  Layer 11 (hist) in plain words: operations, transactions, histories; which may be; no program in sight. No conditions.
-/
import Derived.Test.YthalbcmlehpfaaaDoorTabP
import Derived.Test.YthalbcmlehpfaaaDoorValA
namespace Go.Proofs.YthalbcmlehpfaaaDoor
open Go.Lib

/-- An operation: whether it writes, its key, its value's kind and number. -/
abbrev OpM := Bool × Int × Int × Int
/-- A transaction: its session, its fate, its operations. -/
abbrev TxnM := Int × Int × List OpM
/-- A history: the sessions, the keys, the transactions. -/
abbrev HistM := List (List UInt8) × List (List UInt8) × List TxnM
def noOp : OpM := (false, 0, 0, 0)
def noTxn : TxnM := (0, 0, [])

/-- Is it a member's number? -/
def inside (n : Int) (m : Nat) : Bool := decide (0 ≤ n) && decide (n < m)
/-- May an operation be, among so many keys? -/
def okOp (m : Nat) (o : OpM) : Bool := inside o.2.1 m && (mayV o.2.2.1 o.2.2.2 && (!o.1 || o.2.2.1 == 1))
/-- May a transaction be, but for its operations, among so many sessions? -/
def okTxn (m : Nat) (t : TxnM) : Bool := inside t.1 m && (decide (1 ≤ t.2.1) && (decide (t.2.1 ≤ 3) && decide (t.2.2.length ≤ 20)))
/-- May tables and counts be? -/
def okHeads (h : HistM) : Bool := isT h.1 && (isT h.2.1 && (decide (h.1.length ≤ 20) && (decide (h.2.1.length ≤ 40) && decide (h.2.2.length ≤ 40))))
/-- All operations, in order. -/
def allOps (h : HistM) : List OpM := h.2.2.flatMap (·.2.2)
/-- So many numbers, each of them there. -/
def allUsed (m : Nat) (l : List Int) : Bool := (List.range m).all fun i => l.contains (i : Int)
/-- Is each session used, and each key? -/
def usedH (h : HistM) : Bool := allUsed h.1.length (h.2.2.map (·.1)) && allUsed h.2.1.length ((allOps h).map (·.2.1))
/-- May a history be? -/
def mayH (h : HistM) : Bool := okHeads h && (h.2.2.all (okTxn h.1.length) && ((allOps h).all (okOp h.2.1.length) && usedH h))
/-- The error's number. -/
def errH (h : HistM) : Int := if mayH h then 0 else 4

/-- How many unlike numbers. -/
def unlike : List Int → List Int
  | [] => []
  | a :: l => let r := unlike l; if r.contains a then r else a :: r
theorem unlike_mem (x : Int) : ∀ l : List Int, x ∈ unlike l ↔ x ∈ l
  | [] => by simp [unlike]
  | a :: l => by
    have ih := unlike_mem x l
    unfold unlike
    by_cases h : (unlike l).contains a = true
    · rw [if_pos h, List.mem_cons, ih]
      constructor
      · exact fun h => .inr h
      · rintro (e | e)
        · subst e; exact ih.1 (by simpa using h)
        · exact e
    · rw [if_neg h, List.mem_cons, List.mem_cons, ih]
theorem unlike_nodup : ∀ l : List Int, (unlike l).Nodup
  | [] => by simp [unlike]
  | a :: l => by
    have ih := unlike_nodup l
    unfold unlike
    by_cases h : (unlike l).contains a = true
    · rw [if_pos h]; exact ih
    · rw [if_neg h, List.nodup_cons]
      exact ⟨by simpa using h, ih⟩
theorem nodup_bound : ∀ (m : Nat) (l : List Int), l.Nodup → (∀ x ∈ l, 0 ≤ x ∧ x < m) → l.length ≤ m
  | 0, l, _, h => by
    cases l with
    | nil => simp
    | cons a l => have := h a (List.mem_cons_self ..); omega
  | m + 1, l, hn, h => by
    have h1 : (l.erase (m : Int)).length ≤ m := nodup_bound m _ (hn.erase _) fun x hx => by
      have hxl := List.mem_of_mem_erase hx
      have h2 := h x hxl
      have hne : x ≠ (m : Int) := fun e => by
        subst e
        exact absurd hx (by rw [hn.mem_erase_iff]; simp)
      omega
    rw [List.length_erase] at h1
    split at h1 <;> omega
theorem nodup_sub : ∀ (A B : List Int), A.Nodup → (∀ x ∈ A, x ∈ B) → A.length ≤ B.length
  | [], B, _, _ => by simp
  | a :: A, B, hn, h => by
    rw [List.nodup_cons] at hn
    have ha := h a (List.mem_cons_self ..)
    have h1 := nodup_sub A (B.erase a) hn.2 fun x hx => by
      have hne : x ≠ a := fun e => hn.1 (e ▸ hx)
      exact (List.mem_erase_of_ne hne).2 (h x (List.mem_cons_of_mem _ hx))
    rw [List.length_erase_of_mem ha] at h1
    have := List.length_pos_of_mem ha
    simp only [List.length_cons]
    omega
theorem unlike_all (m : Nat) (l : List Int) (h : ∀ x ∈ l, 0 ≤ x ∧ x < (m : Int)) : decide ((unlike l).length = m) = allUsed m l := by
  have hb := nodup_bound m (unlike l) (unlike_nodup l) fun x hx => h x ((unlike_mem x l).1 hx)
  rw [Bool.eq_iff_iff, decide_eq_true_iff]
  unfold allUsed
  rw [List.all_eq_true]
  constructor
  · intro he i hi
    by_cases hc : (i : Int) ∈ l
    · simpa using hc
    · exfalso
      have hi' : i < m := List.mem_range.1 hi
      have hne : (i : Int) ∉ unlike l := fun hm => hc ((unlike_mem _ _).1 hm)
      have h2 := nodup_bound m ((i : Int) :: unlike l) (List.nodup_cons.2 ⟨hne, unlike_nodup l⟩) fun x hx => by
        rcases List.mem_cons.1 hx with e | e
        · subst e; omega
        · exact h x ((unlike_mem x l).1 e)
      simp only [List.length_cons] at h2
      omega
  · intro ha
    have hs : ∀ n, n ≤ m → n ≤ (unlike l).length := by
      intro n hn
      have hsub : ((List.range n).map (fun i : Nat => (i : Int))).Nodup := by
        rw [List.nodup_iff_pairwise_ne, List.pairwise_map]
        exact (List.nodup_range (n := n)).imp fun {a b} hab e => hab (by omega)
      have hle := nodup_sub _ (unlike l) hsub (fun x hx => by
        obtain ⟨i, hi, rfl⟩ := List.mem_map.1 hx
        rw [unlike_mem]
        have := ha i (List.mem_range.2 (by have := List.mem_range.1 hi; omega))
        simpa using this)
      simpa using hle
    have := hs m (Nat.le_refl _)
    omega
end Go.Proofs.YthalbcmlehpfaaaDoor
