/-
  A region that draws its order, by a relation that every operation keeps, whichever comes up: one proof an operation, not one an order. No conditions.
-/
import Derived.Test.YtbeblcmlljnmiaaBase
namespace Go.Proofs.Ytbeblcmlljnmiaa
open Go.RowKit

/-- How many of a region's operations have not come up yet. -/
def undone (listed : Array Bool) : Nat := (listed.toList.filter (!·)).length
theorem undone_set (listed : Array Bool) (i : Nat) (h : listed.getD i true = false) : undone (listed.setIfInBounds i true) < undone listed := by
  obtain ⟨l⟩ := listed
  have hi : l[i]? = some false := by
    rcases Nat.lt_or_ge i l.length with h' | h'
    · simp [h'] at h; simp [h', h]
    · simp [List.getElem?_eq_none h'] at h
  unfold undone
  rw [List.setIfInBounds_toArray]
  clear h
  simp only []
  induction l generalizing i with
  | nil => simp at hi
  | cons b l ih =>
    cases i with
    | zero =>
      simp at hi
      subst hi
      simp
    | succ i =>
      simp at hi
      have := ih i hi
      cases b <;> simp_all

section
variable {P : Program} {ops : Array Oper} {Q : Exit → Act → World → Prop}

theorem wpAny_inv {I : Array Bool → Act → World → Prop}
    (hs : ∀ listed a w, I listed a w → ∀ i ∈ Region.ready .any ops listed, wpOp P ops Q i (I (listed.setIfInBounds i true)) a w)
    (he : ∀ listed a w, I listed a w → Region.ready .any ops listed = [] → Q .normal a w) :
    ∀ (fuel : Nat) (listed : Array Bool) (a : Act) (w : World), undone listed ≤ fuel → I listed a w → wpAny P .any ops Q fuel listed a w
  | 0, listed, a, w, hc, h => by
    have hr : Region.ready .any ops listed = [] := by
      cases hr : Region.ready .any ops listed with
      | nil => rfl
      | cons i r =>
        have hm : i ∈ Region.ready .any ops listed := by rw [hr]; exact List.mem_cons_self
        have := undone_set listed i (mem_ready.1 hm).1
        omega
    exact ⟨hr, he _ _ _ h hr⟩
  | fuel + 1, listed, a, w, hc, h =>
    ⟨fun hr => he _ _ _ h hr, fun i hi => wpOp_mono (fun a' w' h' => wpAny_inv hs he fuel _ a' w' (by have := undone_set listed i (mem_ready.1 hi).1; omega) h') (hs _ _ _ h i hi)⟩

/-- Every edge that binds points back. -/
def backB (ops : Array Oper) : Bool := (List.range ops.size).all fun i => match ops[i]? with
  | some o => o.after.all fun e => !Region.binds .any e || decide (e.on < i)
  | none => true
theorem all_of_ready (hb : backB ops = true) (listed : Array Bool) (hr : Region.ready .any ops listed = []) : ∀ i, i < ops.size → listed.getD i true = true := by
  intro i
  induction i using Nat.strongRecOn with
  | _ i ih =>
    intro hi
    cases hd : listed.getD i true with
    | true => rfl
    | false =>
      have ho : ops[i]? = some ops[i] := Array.getElem?_eq_getElem hi
      have hm : i ∈ Region.ready .any ops listed := mem_ready.2 ⟨hd, ops[i], ho, fun e he hbind => by
        unfold backB at hb
        have h1 := List.all_eq_true.1 hb i (List.mem_range.2 hi)
        simp only [ho] at h1
        have h2 := Array.all_eq_true_iff_forall_mem.1 h1 e he
        simp only [hbind, Bool.not_true, Bool.false_or, decide_eq_true_eq] at h2
        have h3 := ih e.on h2 (by omega)
        have hsz : i < listed.size := by
          rcases Nat.lt_or_ge i listed.size with h' | h'
          · exact h'
          · simp [Array.getElem?_eq_none h'] at hd
        have : e.on < listed.size := by omega
        simp [this] at h3 ⊢
        exact h3⟩
      rw [hr] at hm
      cases hm

/-- **A relation that each operation keeps serves every order.** 'd j': number j has come up. -/
theorem wp_region_inv {id : Nat} {l : List Oper} {a : Act} {w : World} (hm : P.follows .mixedOrders = true) (hb : backB l.toArray = true) (I : (Nat → Bool) → Act → World → Prop)
    (h0 : I (fun j => decide (l.length ≤ j)) a w.drew)
    (hs : ∀ (d : Nat → Bool) a w (i : Nat) (o : Oper), I d a w → l[i]? = some o → d i = false → (∀ e ∈ o.after, Region.binds .any e = true → d e.on = true) → wpOp P l.toArray Q i (I (fun j => j == i || d j)) a w)
    (he : ∀ (d : Nat → Bool) a w, I d a w → (∀ j, d j = true) → Q .normal a w) : (Code.region id l.toArray true).wp P Q a w := by
  refine wp_region_any hm (wpAny_inv (I := fun listed a w => listed.size = l.length ∧ I (fun j => listed.getD j true) a w) ?_ ?_ _ _ _ _ ?_ ?_)
  · intro listed a w ⟨hsz, h⟩ i hi
    obtain ⟨h1, o, h2, h3⟩ := mem_ready.1 hi
    have hlt : i < listed.size := by
      rcases Nat.lt_or_ge i listed.size with h' | h'
      · exact h'
      · simp [Array.getElem?_eq_none h'] at h1
    refine wpOp_mono (fun a' w' h' => ⟨by simpa using hsz, ?_⟩) (hs _ a w i o h (by simpa using h2) h1 (fun e he hbind => ?_))
    · have e : (fun j => (listed.setIfInBounds i true).getD j true) = fun j => j == i || listed.getD j true := by
        funext j
        by_cases hj : j = i
        · subst hj; simp [hlt]
        · rw [getD_set_ne true (Ne.symm hj)]; simp [hj]
      show I (fun j => (listed.setIfInBounds i true).getD j true) a' w'
      rw [e]; exact h'
    · have := h3 e he hbind
      show listed.getD e.on true = true
      rcases Nat.lt_or_ge e.on listed.size with h' | h'
      · simp [h'] at this ⊢; exact this
      · simp [Array.getElem?_eq_none h'] at this
  · intro listed a w ⟨hsz, h⟩ hr
    refine he _ a w h (fun j => ?_)
    by_cases hj : j < l.length
    · exact all_of_ready hb listed hr j (by simpa using hj)
    · simp [Array.getElem?_eq_none (show listed.size ≤ j by omega)]
  · simp [undone]
  · refine ⟨by simp, ?_⟩
    have e : (fun j => (Array.replicate l.toArray.size false).getD j true) = fun j => decide (l.length ≤ j) := by
      funext j
      by_cases hj : j < l.length
      · simp [hj]
      · simp [hj]; omega
    show I (fun j => (Array.replicate l.toArray.size false).getD j true) a w.drew
    rw [e]; exact h0
theorem wpOp_left {i : Nat} {K : Act → World → Prop} {a : Act} {w : World} {o : Oper} (ho : ops[i]? = some o) (hw : Region.wanted o (yielded ops a.tmps) = true) (h : Oper.wp P o a w K Q) : wpOp P ops Q i K a w := by
  unfold wpOp
  simp only [ho, hw, if_true]
  exact .inl h
end
end Go.Proofs.Ytbeblcmlljnmiaa
