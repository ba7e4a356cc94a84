/-
  Layer 20 (part) in plain words: where one comes to from a node, found in rounds over all edges until nothing is new; no program in sight. No conditions.
-/
import Derived.Test.YtldcbapjiflblaaDoorRows
import Derived.Handy
import Derived.WalkSpells
import Derived.WalkLawsBesides
import Derived.Deep.RegionHeld3
import Derived.Deep.DrawnRows
import Derived.Lib.Hide
import Derived.Lib.Strings
import Derived.Lib.SmallJoins
import Derived.Deep.QuietTactic
import Derived.Deep.RegionWith
import Derived.BigQuiet
import Derived.Lib.TrailingZeros
namespace Go.Proofs.YtldcbapjiflblaaDoor
abbrev EdgM := Nat × Nat
def EdgL (N : List EdgM) (a b : Nat) : Prop := (a, b) ∈ N
def newF (a : Nat) (first : Bool) (I : List Bool) (e : EdgM) : Bool := ((decide (e.1 = a) && first) || I.getD e.1 false) && !I.getD e.2 false
def stepF (a : Nat) (first : Bool) (s : List Bool × Bool) (e : EdgM) : List Bool × Bool := if newF a first s.1 e then (s.1.set e.2 true, true) else s
def passF (N : List EdgM) (a : Nat) (first : Bool) (I : List Bool) (k : Nat) : List Bool × Bool := (N.take k).foldl (stepF a first) (I, false)
theorem pass_zero (N : List EdgM) (a : Nat) (first : Bool) (I : List Bool) : passF N a first I 0 = (I, false) := rfl
theorem pass_next (N : List EdgM) (a : Nat) (first : Bool) (I : List Bool) (k : Nat) (hk : k < N.length) : passF N a first I (k + 1) = stepF a first (passF N a first I k) (N.getD k (0, 0)) := by
 have e : N.take (k + 1) = N.take k ++ [N.getD k (0, 0)] := by
  rw [List.take_add_one]
  simp [hk]
 unfold passF
 rw [e, List.foldl_append]
 rfl
theorem step_len (a : Nat) (first : Bool) (s : List Bool × Bool) (e : EdgM) : (stepF a first s e).1.length = s.1.length := by
 unfold stepF
 split
 ·simp
 ·rfl
theorem pass_len (N : List EdgM) (a : Nat) (first : Bool) (I : List Bool) : ∀ k, k ≤ N.length → (passF N a first I k).1.length = I.length
 | 0, _ => rfl
 | k + 1, h => by rw [pass_next _ _ _ _ _ (by omega), step_len, pass_len N a first I k (by omega)]
theorem set_at (I : List Bool) (j b : Nat) : (I.set j true).getD b false = if j = b ∧ j < I.length then true else I.getD b false := by
 simp only [List.getD_eq_getElem?_getD, List.getElem?_set]
 by_cases h : j = b
 ·subst h
  by_cases h2 : j < I.length
  ·simp [h2]
  ·simp [h2]
 ·simp [h]
theorem step_up (a : Nat) (first : Bool) (s : List Bool × Bool) (e : EdgM) (b : Nat) (h : s.1.getD b false = true) : (stepF a first s e).1.getD b false = true := by
 unfold stepF
 split
 ·rw [set_at]
  split
  ·rfl
  ·exact h
 ·exact h
theorem pass_up (N : List EdgM) (a : Nat) (first : Bool) (I : List Bool) (b : Nat) : ∀ k j, k ≤ j → j ≤ N.length → (passF N a first I k).1.getD b false = true → (passF N a first I j).1.getD b false = true := by
 intro k j hkj hj h
 induction j with
 | zero =>
  obtain rfl : k = 0 := by omega
  exact h
 | succ j ih =>
  by_cases e : k = j + 1
  ·subst e; exact h
  ·rw [pass_next _ _ _ _ _ (by omega)]
   exact step_up _ _ _ _ _ (ih (by omega) (by omega))
def cntF (I : List Bool) : Nat := I.countP (fun b => b)
theorem cnt_le (I : List Bool) : cntF I ≤ I.length := List.countP_le_length
theorem cnt_set (I : List Bool) (j : Nat) (hj : j < I.length) (h : I.getD j false = false) : cntF (I.set j true) = cntF I + 1 := by
 unfold cntF
 induction I generalizing j with
 | nil => exact absurd hj (Nat.not_lt_zero _)
 | cons x I ih =>
  cases j with
  | zero =>
   have : x = false := by simpa using h
   subst this
   simp
  | succ j =>
   rw [List.set_cons_succ, List.countP_cons, List.countP_cons, ih j (by simpa using hj) (by simpa using h)]
   omega
theorem step_cnt (a : Nat) (first : Bool) (s : List Bool × Bool) (e : EdgM) (he : e.2 < s.1.length) : (stepF a first s e = s ∧ newF a first s.1 e = false) ∨ ((stepF a first s e).2 = true ∧ cntF (stepF a first s e).1 = cntF s.1 + 1) := by
 unfold stepF
 by_cases h : newF a first s.1 e = true
 ·rw [if_pos h]
  refine .inr ⟨rfl, cnt_set _ _ he ?_⟩
  unfold newF at h
  simp only [Bool.and_eq_true, Bool.not_eq_true'] at h
  exact h.2
 ·rw [if_neg h]
  exact .inl ⟨rfl, by simpa using h⟩
theorem pass_cnt (N : List EdgM) (a : Nat) (first : Bool) (I : List Bool) (hN : ∀ e ∈ N, e.1 < I.length ∧ e.2 < I.length) : ∀ k, k ≤ N.length →
  ((passF N a first I k).2 = false → (passF N a first I k).1 = I ∧ ∀ j, j < k → newF a first I (N.getD j (0, 0)) = false) ∧ ((passF N a first I k).2 = true → cntF I < cntF (passF N a first I k).1)
 | 0, _ => ⟨fun _ => ⟨rfl, fun j hj => absurd hj (Nat.not_lt_zero j)⟩, fun h => by rw [pass_zero] at h; cases h⟩
 | k + 1, hk => by
  obtain ⟨h1, h2⟩ := pass_cnt N a first I hN k (by omega)
  have hm : N.getD k (0, 0) ∈ N := by
   rw [show N.getD k (0, 0) = N[k] by simp [show k < N.length by omega]]
   exact List.getElem_mem _
  have hl := pass_len N a first I k (by omega)
  rw [pass_next _ _ _ _ _ (by omega)]
  rcases step_cnt a first (passF N a first I k) (N.getD k (0, 0)) (by rw [hl]; exact (hN _ hm).2) with ⟨e, hn⟩ | ⟨e, hc⟩
  ·rw [e]
   refine ⟨fun h => ?_, h2⟩
   obtain ⟨g1, g2⟩ := h1 h
   refine ⟨g1, fun j hj => ?_⟩
   by_cases e2 : j = k
   ·subst e2
    rw [← g1]
    exact hn
   ·exact g2 j (by omega)
  ·refine ⟨fun h => (by rw [e] at h; cases h), fun _ => ?_⟩
   rw [hc]
   cases hs : (passF N a first I k).2 with
   | true => have := h2 hs; omega
   | false => rw [(h1 hs).1]; omega
structure InvF (n : Nat) (N : List EdgM) (a : Nat) (more first : Bool) (I : List Bool) : Prop where
 len : I.length = n
 sound : ∀ b, I.getD b false = true → Relation.TransGen (EdgL N) a b
 near : first = false → ∀ b, EdgL N a b → I.getD b false = true
 go : first = true → more = true
 closed : more = false → ∀ x y, I.getD x false = true → EdgL N x y → I.getD y false = true
theorem invF_start (n : Nat) (N : List EdgM) (a : Nat) : InvF n N a true true (List.replicate n false) := by
 refine ⟨by simp, fun b h => ?_, fun h => (by cases h), fun _ => rfl, fun h => (by cases h)⟩
 by_cases hb : b < n
 ·rw [show (List.replicate n false).getD b false = false by simp [hb]] at h
  cases h
 ·rw [show (List.replicate n false).getD b false = false by simp [hb]] at h
  cases h
theorem pass_sound {n : Nat} {N : List EdgM} {a : Nat} {first : Bool} {I : List Bool} (h : ∀ b, I.getD b false = true → Relation.TransGen (EdgL N) a b) : ∀ k, k ≤ N.length → ∀ b, (passF N a first I k).1.getD b false = true → Relation.TransGen (EdgL N) a b
 | 0, _ => h
 | k + 1, hk => fun b hb => by
  have ih := pass_sound (n := n) h k (by omega) (first := first)
  have hm : N.getD k (0, 0) ∈ N := by
   rw [show N.getD k (0, 0) = N[k] by simp [show k < N.length by omega]]
   exact List.getElem_mem _
  rw [pass_next _ _ _ _ _ (by omega)] at hb
  unfold stepF at hb
  split at hb
  ·rename_i hn
   rw [set_at] at hb
   split at hb
   ·rename_i hj
    obtain ⟨rfl, -⟩ := hj
    unfold newF at hn
    simp only [Bool.and_eq_true, Bool.or_eq_true, decide_eq_true_eq] at hn
    obtain ⟨⟨e, -⟩ | e, -⟩ := hn
    ·refine .single ?_
     show (a, _) ∈ N
     rw [← e]
     exact hm
    ·exact .tail (ih _ e) hm
   ·exact ih b hb
  ·exact ih b hb
theorem pass_near {N : List EdgM} {a : Nat} {I : List Bool} (hN : ∀ e ∈ N, e.1 < I.length ∧ e.2 < I.length) (b : Nat) (h : EdgL N a b) : (passF N a true I N.length).1.getD b false = true := by
 obtain ⟨k, hk, e⟩ := List.getElem_of_mem h
 have hg : N.getD k (0, 0) = (a, b) := by simp [hk, e]
 refine pass_up N a true I b (k + 1) N.length (by omega) (Nat.le_refl _) ?_
 rw [pass_next _ _ _ _ _ hk, hg]
 have hl := pass_len N a true I k (by omega)
 unfold stepF
 split
 ·rw [set_at, if_pos ⟨rfl, by rw [hl]; exact (hN _ h).2⟩]
 ·rename_i hn
  unfold newF at hn
  simpa using hn
theorem invF_next {n : Nat} {N : List EdgM} {a : Nat} {first : Bool} {I : List Bool} (hN : ∀ e ∈ N, e.1 < n ∧ e.2 < n) (h : InvF n N a true first I) : InvF n N a (passF N a first I N.length).2 false (passF N a first I N.length).1 := by
 have hN' : ∀ e ∈ N, e.1 < I.length ∧ e.2 < I.length := by rw [h.len]; exact hN
 refine ⟨by rw [pass_len _ _ _ _ _ (Nat.le_refl _), h.len], pass_sound (n := n) h.sound _ (Nat.le_refl _), fun _ b hb => ?_, fun e => (by cases e), fun hm x y hx hy => ?_⟩
 ·cases hf : first with
  | true => exact pass_near hN' b hb
  | false => exact pass_up N a false I b 0 N.length (Nat.zero_le _) (Nat.le_refl _) (h.near hf b hb)
 ·obtain ⟨e1, e2⟩ := (pass_cnt N a first I hN' N.length (Nat.le_refl _)).1 hm
  rw [e1] at hx ⊢
  obtain ⟨k, hk, e⟩ := List.getElem_of_mem hy
  have hg : N.getD k (0, 0) = (x, y) := by simp [hk, e]
  have h3 := e2 k hk
  rw [hg] at h3
  unfold newF at h3
  simp only [hx, Bool.or_true, Bool.true_and, Bool.not_eq_false'] at h3
  exact h3
theorem invF_end {n : Nat} {N : List EdgM} {a : Nat} {first : Bool} {I : List Bool} (h : InvF n N a false first I) (b : Nat) : I.getD b false = true ↔ Relation.TransGen (EdgL N) a b := by
 have hf : first = false := by
  cases hq : first with
  | false => rfl
  | true => exact absurd (h.go hq) (by decide)
 refine ⟨h.sound b, fun hb => ?_⟩
 induction hb with
 | single e => exact h.near hf _ e
 | tail _ e ih => exact h.closed rfl _ _ ih e
open Classical in
noncomputable def fromF (n : Nat) (N : List EdgM) (a : Nat) : List Nat := (List.range n).filter fun b => decide (Relation.TransGen (EdgL N) a b)
theorem mem_from (n : Nat) (N : List EdgM) (a b : Nat) : b ∈ fromF n N a ↔ b < n ∧ Relation.TransGen (EdgL N) a b := by simp [fromF]
theorem from_end {n : Nat} {N : List EdgM} {a : Nat} {first : Bool} {I : List Bool} (h : InvF n N a false first I) (k : Nat) : (List.range k).filter (fun b => I.getD b false) = (List.range k).filter fun b => @decide (Relation.TransGen (EdgL N) a b) (Classical.propDecidable _) := by
 refine List.filter_congr fun b _ => ?_
 have e := invF_end h b
 cases hq : I.getD b false with
 | true => exact (@decide_eq_true _ (Classical.propDecidable _) (e.1 hq)).symm
 | false => exact (@decide_eq_false _ (Classical.propDecidable _) (fun q => by rw [e.2 q] at hq; cases hq)).symm
end Go.Proofs.YtldcbapjiflblaaDoor
