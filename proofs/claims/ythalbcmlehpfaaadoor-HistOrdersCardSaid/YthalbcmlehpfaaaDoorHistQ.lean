/-
  Layer 11's reference in plain words: numbers marked as used. No conditions.
-/
import Derived.Test.YthalbcmlehpfaaaDoorHistP
namespace Go.Proofs.YthalbcmlehpfaaaDoor

/-- The marks with these numbers marked. -/
def marks (U : List Bool) (ks : List Int) : List Bool := ks.foldl (fun U k => U.set k.toNat true) U
theorem marks_nil (U : List Bool) : marks U [] = U := rfl
theorem marks_snoc (U : List Bool) (ks : List Int) (k : Int) : marks U (ks ++ [k]) = (marks U ks).set k.toNat true := by simp [marks]
theorem marks_app (U : List Bool) (ks ls : List Int) : marks U (ks ++ ls) = marks (marks U ks) ls := by simp [marks]
theorem marks_len (ks : List Int) : ∀ U : List Bool, (marks U ks).length = U.length := by
  induction ks with
  | nil => intro U; rfl
  | cons k ks ih => intro U; show (marks (U.set k.toNat true) ks).length = _; rw [ih, List.length_set]
theorem marks_get (ks : List Int) : ∀ (U : List Bool) (i : Nat), i < U.length → (marks U ks).getD i false = (U.getD i false || (ks.map Int.toNat).contains i) := by
  induction ks with
  | nil => intro U i _; simp [marks]
  | cons k ks ih =>
    intro U i hi
    show (marks (U.set k.toNat true) ks).getD i false = _
    rw [ih _ _ (by rw [List.length_set]; exact hi)]
    rw [List.map_cons, List.contains_cons]
    by_cases e : i = k.toNat
    · subst e
      simp [hi]
    · have e' : (i == k.toNat) = false := by simpa using e
      rw [e', Bool.false_or]
      congr 1
      simp [List.getD, Ne.symm e]
theorem all_getD (U : List Bool) : U.all id = (List.range U.length).all fun i => U.getD i false := by
  rw [Bool.eq_iff_iff, List.all_eq_true, List.all_eq_true]
  constructor
  · intro h i hi
    have hi' := List.mem_range.1 hi
    have : U.getD i false = U[i] := by simp [hi']
    rw [this]
    exact h _ (List.getElem_mem hi')
  · intro h x hx
    obtain ⟨i, hi, rfl⟩ := List.getElem_of_mem hx
    have := h i (List.mem_range.2 hi)
    simpa [hi] using this
theorem marks_all (m : Nat) (ks : List Int) (hk : ∀ x ∈ ks, 0 ≤ x ∧ x < (m : Int)) : (marks (List.replicate m false) ks).all id = allUsed m ks := by
  rw [all_getD, marks_len, List.length_replicate]
  unfold allUsed
  rw [Bool.eq_iff_iff, List.all_eq_true, List.all_eq_true]
  have key : ∀ i, i < m → ((marks (List.replicate m false) ks).getD i false = true ↔ ks.contains (i : Int) = true) := by
    intro i hi
    rw [marks_get _ _ _ (by simpa using hi)]
    have : (List.replicate m false).getD i false = false := by simp [List.getD, hi]
    rw [this, Bool.false_or, List.contains_iff_mem, List.contains_iff_mem, List.mem_map]
    constructor
    · rintro ⟨x, hx, e⟩
      have := hk x hx
      have e2 : x = (i : Int) := by omega
      rw [← e2]; exact hx
    · intro hx
      exact ⟨_, hx, by simp⟩
  exact ⟨fun h i hi => (key i (List.mem_range.1 hi)).1 (h i hi), fun h i hi => (key i (List.mem_range.1 hi)).2 (h i hi)⟩
/-- Are all of the first so many true? -/
def allK (U : List Bool) (k : Nat) : Bool := (U.take k).all id
theorem allK_next (U : List Bool) (k : Nat) (h : k < U.length) : allK U (k + 1) = (allK U k && U.getD k false) := by
  unfold allK
  rw [List.take_add_one, List.all_append]
  congr 1
  simp [h]
theorem allK_all (U : List Bool) : allK U U.length = U.all id := by unfold allK; rw [List.take_length]
/-- The keys of the first so many operations. -/
def keysO (l : List OpM) (k : Nat) : List Int := (l.take k).map (·.2.1)
theorem keysO_next (l : List OpM) (k : Nat) (h : k < l.length) : keysO l (k + 1) = keysO l k ++ [(l.getD k noOp).2.1] := by
  unfold keysO
  rw [List.take_add_one, List.map_append]
  congr 1
  simp [h]
/-- The keys of the first so many transactions' operations. -/
def keysT (L : List TxnM) (k : Nat) : List Int := ((L.take k).flatMap (·.2.2)).map (·.2.1)
theorem keysT_next (L : List TxnM) (k : Nat) (h : k < L.length) : keysT L (k + 1) = keysT L k ++ (L.getD k noTxn).2.2.map (·.2.1) := by
  unfold keysT
  rw [List.take_add_one, List.flatMap_append, List.map_append]
  congr 1
  simp [h]
/-- May a transaction be, operations and all? -/
def okFull (h : HistM) (t : TxnM) : Bool := okTxn h.1.length t && t.2.2.all (okOp h.2.1.length)
theorem may_full (h : HistM) : mayH h = (okHeads h && (h.2.2.all (okFull h) && usedH h)) := by
  have e : (h.2.2.all (okTxn h.1.length) && ((allOps h).all (okOp h.2.1.length))) = h.2.2.all (okFull h) := by
    unfold allOps okFull
    generalize h.2.2 = L
    induction L with
    | nil => rfl
    | cons t L ih =>
      rw [List.flatMap_cons, List.all_cons, List.all_cons, List.all_append, ← ih]
      cases okTxn h.1.length t <;> cases t.2.2.all (okOp h.2.1.length) <;> simp
  unfold mayH
  rw [← Bool.and_assoc (h.2.2.all (okTxn h.1.length)), e]
end Go.Proofs.YthalbcmlehpfaaaDoor
