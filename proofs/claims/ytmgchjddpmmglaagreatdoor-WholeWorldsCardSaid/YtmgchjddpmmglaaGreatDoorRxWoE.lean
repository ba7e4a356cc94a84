/-
  Layers 16 and 17 (world, whole) in plain words: who committed, and what is made, one by one; no program in sight. No conditions.
-/
import Derived.Test.YtmgchjddpmmglaaGreatDoorRxWhP
namespace Go.Proofs.YtmgchjddpmmglaaGreatDoor
open Go.RowKit Go.Lib
def nI (T : List TxnM) (k : Nat) : Nat := ((T.take k).filter infosP).length
theorem take_snocT (T : List TxnM) (k : Nat) (hk : k < T.length) : T.take (k + 1) = T.take k ++ [T.getD k noTxn] := by
 rw [List.take_succ_eq_append_getElem hk]
 simp [hk]
theorem nI_next (T : List TxnM) (k : Nat) (hk : k < T.length) : nI T (k + 1) = if infosP (T.getD k noTxn) then nI T k + 1 else nI T k := by
 unfold nI
 rw [take_snocT T k hk, List.filter_append, List.length_append, List.filter_cons]
 split <;> simp
theorem nI_le (T : List TxnM) (k : Nat) : nI T k ≤ (T.filter infosP).length := by
 unfold nI
 exact ((List.take_sublist k T).filter infosP).length_le
theorem nI_lt (T : List TxnM) (k : Nat) (hk : k < T.length) (hp : infosP (T.getD k noTxn) = true) : nI T k < (T.filter infosP).length := by
 have h1 := nI_next T k hk
 rw [if_pos hp] at h1
 have := nI_le T (k + 1)
 omega
theorem getD_tail {α : Type} (c : List α) (k : Nat) (d : α) : c.tail.getD k d = c.getD (k + 1) d := by cases c <;> simp
theorem headD_getD {α : Type} (c : List α) (d : α) : c.headD d = c.getD 0 d := by cases c <;> simp
def comT (T : List TxnM) (c : List Bool) (k : Nat) : Bool := if (T.getD k noTxn).2.1 = 1 then true else if (T.getD k noTxn).2.1 = 3 then c.getD (nI T k) false else false
theorem commits_at : ∀ (T : List TxnM) (c : List Bool) (k : Nat), k < T.length → (commitsG T c)[k]? = some (comT T c k)
 | [], _, _, h => absurd h (Nat.not_lt_zero _)
 | t :: r, c, 0, _ => by
  unfold commitsG comT nI
  simp only [List.getD_cons_zero, List.take_zero, List.filter_nil, List.length_nil]
  split
  ·rfl
  ·split
   ·rw [headD_getD]; rfl
   ·rfl
 | t :: r, c, k + 1, h => by
  have hk : k < r.length := by simpa using h
  have e : ∀ c', (commitsG (t :: r) c)[k + 1]? = (commitsG r c')[k]? → comT r c' k = comT (t :: r) c (k + 1) → (commitsG (t :: r) c)[k + 1]? = some (comT (t :: r) c (k + 1)) := fun c' e1 e2 => by rw [e1, commits_at r c' k hk, e2]
  by_cases h1 : t.2.1 = 1
  ·refine e c (by rw [commitsG, if_pos h1]; rfl) ?_
   unfold comT nI
   have hi : infosP t = false := by unfold infosP; simp [h1]
   simp [hi]
  ·by_cases h3 : t.2.1 = 3
   ·refine e c.tail (by rw [commitsG, if_neg h1, if_pos h3]; rfl) ?_
    unfold comT nI
    have hi : infosP t = true := by unfold infosP; simp [h3]
    simp only [List.getD_cons_succ, List.take_succ_cons, List.filter_cons, hi, if_true, List.length_cons, getD_tail]
   ·refine e c (by rw [commitsG, if_neg h1, if_neg h3]; rfl) ?_
    unfold comT nI
    have hi : infosP t = false := by unfold infosP; simp [h3]
    simp [hi]
theorem commits_next (T : List TxnM) (c : List Bool) (k : Nat) (hk : k < T.length) : (commitsG T c).take (k + 1) = (commitsG T c).take k ++ [comT T c k] := by
 rw [List.take_add_one, commits_at T c k hk]
 rfl
theorem commits_all (T : List TxnM) (c : List Bool) : (commitsG T c).take T.length = commitsG T c := by
 conv => lhs; rw [← commits_len T c]
 exact List.take_length
def comK (T : List TxnM) (c : List Bool) (k : Nat) : List Bool := (commitsG T c).take k ++ List.replicate (T.length - k) false
theorem comK_len (T : List TxnM) (c : List Bool) (k : Nat) (hk : k ≤ T.length) : (comK T c k).length = T.length := by
 unfold comK
 rw [List.length_append, List.length_take, commits_len, List.length_replicate]
 omega
theorem comK_zero (T : List TxnM) (c : List Bool) : comK T c 0 = List.replicate T.length false := by simp [comK]
theorem comK_all (T : List TxnM) (c : List Bool) : comK T c T.length = commitsG T c := by
 unfold comK
 rw [commits_all, Nat.sub_self]
 simp
theorem comK_next (T : List TxnM) (c : List Bool) (k : Nat) (hk : k < T.length) : comK T c (k + 1) = (comK T c k).set k (comT T c k) := by
 unfold comK
 have hl : ((commitsG T c).take k).length = k := by rw [List.length_take, commits_len]; omega
 obtain ⟨m, hm⟩ : ∃ m, T.length - k = m + 1 := ⟨T.length - k - 1, by omega⟩
 rw [commits_next T c k hk, hm, show T.length - (k + 1) = m by omega, List.replicate_succ, List.set_append_right _ _ (by omega), hl, Nat.sub_self, List.set_cons_zero, List.append_assoc]
 rfl
theorem comK_same (T : List TxnM) (c : List Bool) (k : Nat) (hk : k < T.length) (h : comT T c k = false) : comK T c (k + 1) = comK T c k := by
 unfold comK
 obtain ⟨m, hm⟩ : ∃ m, T.length - k = m + 1 := ⟨T.length - k - 1, by omega⟩
 rw [commits_next T c k hk, hm, show T.length - (k + 1) = m by omega, List.replicate_succ, h, List.append_assoc]
 rfl
def nL (l : List OpM) (k : Nat) : Nat := ((l.take k).filter lostO).length
theorem take_snocO (T : List OpM) (k : Nat) (hk : k < T.length) : T.take (k + 1) = T.take k ++ [T.getD k noOp] := by
 rw [List.take_succ_eq_append_getElem hk]
 simp [hk]
theorem nL_next (l : List OpM) (k : Nat) (hk : k < l.length) : nL l (k + 1) = if lostO (l.getD k noOp) then nL l k + 1 else nL l k := by
 unfold nL
 rw [take_snocO l k hk, List.filter_append, List.length_append, List.filter_cons]
 split <;> simp
theorem nL_le (l : List OpM) (k : Nat) : nL l k ≤ (l.filter lostO).length := by
 unfold nL
 exact ((List.take_sublist k l).filter lostO).length_le
theorem nL_lt (l : List OpM) (k : Nat) (hk : k < l.length) (hp : lostO (l.getD k noOp) = true) : nL l k < (l.filter lostO).length := by
 have h1 := nL_next l k hk
 rw [if_pos hp] at h1
 have := nL_le l (k + 1)
 omega
theorem nL_all (l : List OpM) : nL l l.length = (l.filter lostO).length := by unfold nL; rw [List.take_length]
def fillO (tl : List OpM) (l : List ValM) (k : Nat) : OpM := if lostO (tl.getD k noOp) then ((tl.getD k noOp).1, (tl.getD k noOp).2.1, l.getD (nL tl k) noVal) else tl.getD k noOp
theorem fill_at : ∀ (tl : List OpM) (l : List ValM) (k : Nat), k < tl.length → (fillG tl l).1[k]? = some (fillO tl l k)
 | [], _, _, h => absurd h (Nat.not_lt_zero _)
 | o :: r, l, 0, _ => by
  unfold fillG fillO nL
  simp only [List.getD_cons_zero, List.take_zero, List.filter_nil, List.length_nil]
  split
  ·rw [headD_getD]; rfl
  ·rfl
 | o :: r, l, k + 1, h => by
  have hk : k < r.length := by simpa using h
  by_cases h1 : lostO o = true
  ·have e1 : (fillG (o :: r) l).1[k + 1]? = (fillG r l.tail).1[k]? := by rw [fillG, if_pos h1]; rfl
   rw [e1, fill_at r l.tail k hk]
   unfold fillO nL
   simp only [List.getD_cons_succ, List.take_succ_cons, List.filter_cons, h1, if_true, List.length_cons, getD_tail]
  ·have e1 : (fillG (o :: r) l).1[k + 1]? = (fillG r l).1[k]? := by rw [fillG, if_neg h1]; rfl
   rw [e1, fill_at r l k hk]
   unfold fillO nL
   simp only [List.getD_cons_succ, List.take_succ_cons, List.filter_cons, h1, if_false, Bool.false_eq_true]
def fillK (tl : List OpM) (l : List ValM) (k : Nat) : List OpM := (fillG tl l).1.take k ++ tl.drop k
theorem fillK_len (tl : List OpM) (l : List ValM) (k : Nat) (hk : k ≤ tl.length) : (fillK tl l k).length = tl.length := by
 unfold fillK
 rw [List.length_append, List.length_take, fill_len, List.length_drop]
 omega
theorem fillK_zero (tl : List OpM) (l : List ValM) : fillK tl l 0 = tl := by simp [fillK]
theorem fillK_all (tl : List OpM) (l : List ValM) : fillK tl l tl.length = (fillG tl l).1 := by
 unfold fillK
 rw [List.drop_length, List.append_nil]
 conv => lhs; rw [← fill_len tl l]
 exact List.take_length
theorem fillK_at (tl : List OpM) (l : List ValM) (k : Nat) (hk : k < tl.length) : (fillK tl l k).getD k noOp = tl.getD k noOp := by
 unfold fillK
 have hl : ((fillG tl l).1.take k).length = k := by rw [List.length_take, fill_len]; omega
 simp only [List.getD_eq_getElem?_getD]
 rw [List.getElem?_append_right (by omega), hl, Nat.sub_self, List.getElem?_drop, Nat.add_zero]
theorem fillK_next (tl : List OpM) (l : List ValM) (k : Nat) (hk : k < tl.length) : fillK tl l (k + 1) = (fillK tl l k).set k (fillO tl l k) := by
 unfold fillK
 have hl : ((fillG tl l).1.take k).length = k := by rw [List.length_take, fill_len]; omega
 rw [List.take_add_one, fill_at tl l k hk, List.set_append_right _ _ (by omega), hl, Nat.sub_self, List.drop_eq_getElem_cons hk, List.set_cons_zero, List.append_assoc]
 rfl
theorem fillK_same (tl : List OpM) (l : List ValM) (k : Nat) (hk : k < tl.length) (h : lostO (tl.getD k noOp) = false) : fillK tl l (k + 1) = fillK tl l k := by
 unfold fillK
 have e : fillO tl l k = tl.getD k noOp := by unfold fillO; rw [h]; rfl
 have e2 : tl.getD k noOp = tl[k] := by simp [hk]
 rw [List.take_add_one, fill_at tl l k hk, e, e2, List.append_assoc]
 conv => rhs; rw [List.drop_eq_getElem_cons hk]
 rfl
def nLL (T : List TxnM) (k : Nat) : Nat := (((T.take k).flatMap (·.2.2)).filter lostO).length
theorem nLL_next (T : List TxnM) (k : Nat) (hk : k < T.length) : nLL T (k + 1) = nLL T k + ((T.getD k noTxn).2.2.filter lostO).length := by
 unfold nLL
 rw [take_snocT T k hk, List.flatMap_append, List.filter_append, List.length_append]
 simp
theorem nLL_le (T : List TxnM) (k : Nat) (hk : k < T.length) : nLL T k + ((T.getD k noTxn).2.2.filter lostO).length ≤ ((T.flatMap (·.2.2)).filter lostO).length := by
 rw [← nLL_next T k hk]
 unfold nLL
 conv => rhs; rw [← List.take_append_drop (k + 1) T, List.flatMap_append, List.filter_append, List.length_append]
 omega
def makeT (T : List TxnM) (c : List Bool) (l : List ValM) (k : Nat) : TxnM := ((T.getD k noTxn).1, (if c.getD k false then 1 else 2), (fillG (T.getD k noTxn).2.2 (l.drop (nLL T k))).1)
theorem make_at : ∀ (T : List TxnM) (c : List Bool) (l : List ValM) (k : Nat), k < T.length → (makeG T c l)[k]? = some (makeT T c l k)
 | [], _, _, _, h => absurd h (Nat.not_lt_zero _)
 | t :: r, c, l, 0, _ => by
  unfold makeG makeT nLL
  rw [headD_getD]
  rfl
 | t :: r, c, l, k + 1, h => by
  have hk : k < r.length := by simpa using h
  rw [makeG, List.getElem?_cons_succ, make_at r _ _ k hk, fill_left]
  unfold makeT nLL
  simp only [List.getD_cons_succ, List.take_succ_cons, List.flatMap_cons, List.filter_append, List.length_append, getD_tail, List.drop_drop]
theorem make_next (T : List TxnM) (c : List Bool) (l : List ValM) (k : Nat) (hk : k < T.length) : (makeG T c l).take (k + 1) = (makeG T c l).take k ++ [makeT T c l k] := by
 rw [List.take_add_one, make_at T c l k hk]
 rfl
theorem make_all (T : List TxnM) (c : List Bool) (l : List ValM) : (makeG T c l).take T.length = makeG T c l := by
 conv => lhs; rw [← make_len T c l]
 exact List.take_length
end Go.Proofs.YtmgchjddpmmglaaGreatDoor
