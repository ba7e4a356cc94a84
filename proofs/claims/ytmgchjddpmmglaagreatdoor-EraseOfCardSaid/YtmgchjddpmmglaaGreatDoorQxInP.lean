/-
  Layer 13 (inner) in plain words: a transaction's own values, outer reads, what it leaves, bad reads, writers; no program in sight. No conditions.
-/
import Derived.Test.YtmgchjddpmmglaaGreatDoorQAi
namespace Go.Proofs.YtmgchjddpmmglaaGreatDoor
open Go.RowKit Go.Lib
abbrev GotM := (Int × Int) × Bool
def noGot : GotM := ((0, 0), false)
def wrO (key : Int) (o : OpM) : Bool := o.1 && o.2.1 == key
def rawO (key : Int) (l : List OpM) : GotM := l.foldl (fun r o => if wrO key o then (o.2.2, true) else r) noGot
theorem raw_nil (key : Int) : rawO key [] = noGot := rfl
theorem raw_snoc (key : Int) (l : List OpM) (o : OpM) : rawO key (l ++ [o]) = if wrO key o then (o.2.2, true) else rawO key l := by
 unfold rawO
 rw [List.foldl_append]
 rfl
theorem take_snoc (l : List OpM) (k : Nat) (hk : k < l.length) : l.take (k + 1) = l.take k ++ [l.getD k noOp] := by
 rw [List.take_succ_eq_append_getElem hk]
 congr 2
 simp [hk]
theorem raw_next (key : Int) (l : List OpM) (k : Nat) (hk : k < l.length) : rawO key (l.take (k + 1)) = if wrO key (l.getD k noOp) then ((l.getD k noOp).2.2, true) else rawO key (l.take k) := by
 rw [take_snoc l k hk, raw_snoc]
theorem raw_go (key : Int) : ∀ (l : List OpM) (r : GotM), (l.foldl (fun r o => if wrO key o then (o.2.2, true) else r) r).2 = (r.2 || l.any (wrO key))
 | [], r => by simp
 | o :: l, r => by
  rw [List.foldl_cons, raw_go key l, List.any_cons]
  by_cases h : wrO key o = true
  ·rw [if_pos h, h]
   simp
  ·have h' : wrO key o = false := by simpa using h
   rw [if_neg h, h', Bool.false_or]
theorem raw_any (key : Int) (l : List OpM) : (rawO key l).2 = l.any (wrO key) := by
 unfold rawO
 rw [raw_go]
 rfl
def opsI (h : HistM) (i : Int) : List OpM := if mayH h && (decide (0 ≤ i) && decide (i < h.2.2.length)) then (h.2.2.getD i.toNat noTxn).2.2 else []
def ownP (h : HistM) (t o : Int) : GotM := if 0 ≤ o ∧ o < (opsI h t).length then rawO ((opsI h t).getD o.toNat noOp).2.1 ((opsI h t).take o.toNat) else noGot
def outerP (h : HistM) (t o : Int) : Bool := if 0 ≤ o ∧ o < (opsI h t).length then !((opsI h t).getD o.toNat noOp).1 && !(rawO ((opsI h t).getD o.toNat noOp).2.1 ((opsI h t).take o.toNat)).2 else false
def isBad (l : List OpM) (k : Nat) : Bool := !(l.getD k noOp).1 && ((l.getD k noOp).2.2.1 != 2 && ((rawO (l.getD k noOp).2.1 (l.take k)).2 && (rawO (l.getD k noOp).2.1 (l.take k)).1 != (l.getD k noOp).2.2))
def badK (l : List OpM) (k : Nat) : List Int := ((List.range k).filter (isBad l)).map fun i : Nat => (i : Int)
theorem bad_next (l : List OpM) (k : Nat) : badK l (k + 1) = if isBad l k then badK l k ++ [(k : Int)] else badK l k := by
 unfold badK
 rw [List.range_succ, List.filter_append, List.map_append]
 by_cases h : isBad l k = true
 ·rw [if_pos h, List.filter_cons, if_pos h]
  rfl
 ·rw [if_neg h, List.filter_cons, if_neg h]
  simp
theorem bad_len (l : List OpM) (k : Nat) : (badK l k).length ≤ k := by
 unfold badK
 rw [List.length_map]
 exact Nat.le_trans (List.length_filter_le _ _) (by simp)
theorem bad_mem (l : List OpM) (k : Nat) (j : Nat) (hj : j < k) : (badK l k).contains (j : Int) = isBad l j := by
 unfold badK
 rw [Bool.eq_iff_iff, List.contains_iff_mem, List.mem_map]
 constructor
 ·rintro ⟨i, hi, e⟩
  obtain rfl : i = j := by omega
  exact (List.mem_filter.1 hi).2
 ·intro h
  exact ⟨j, List.mem_filter.2 ⟨List.mem_range.2 hj, h⟩, rfl⟩
def badL (h : HistM) (t : Int) : List Int := badK (opsI h t) (opsI h t).length
def writesP (key : Int) (t : TxnM) : Bool := t.2.1 != 2 && t.2.2.any (wrO key)
theorem idxs_mem (p : TxnM → Bool) (L : List TxnM) (k j : Nat) (hj : j < k) : (idxs p L k).contains (j : Int) = p (L.getD j noTxn) := by
 unfold idxs
 rw [Bool.eq_iff_iff, List.contains_iff_mem, List.mem_map]
 constructor
 ·rintro ⟨i, hi, e⟩
  obtain rfl : i = j := by omega
  exact (List.mem_filter.1 hi).2
 ·intro h
  exact ⟨j, List.mem_filter.2 ⟨List.mem_range.2 hj, h⟩, rfl⟩
theorem opsI_yes {h : HistM} (hm : mayH h = true) (k : Nat) (hk : k < h.2.2.length) : opsI h (k : Int) = (h.2.2.getD k noTxn).2.2 := by
 unfold opsI
 rw [hm, decide_eq_true (by omega : (0 : Int) ≤ (k : Int)), decide_eq_true (by omega : (k : Int) < (h.2.2.length : Int))]
 rfl
theorem opsI_no {h : HistM} (hm : mayH h = false) (i : Int) : opsI h i = [] := by simp [opsI, hm]
theorem opsI_low {h : HistM} (i : Int) (hi : i < 0) : opsI h i = [] := by
 unfold opsI
 rw [decide_eq_false (by omega : ¬ (0 : Int) ≤ i)]
 simp
theorem opsI_high {h : HistM} (i : Int) (hi : (h.2.2.length : Int) ≤ i) : opsI h i = [] := by
 unfold opsI
 rw [decide_eq_false (by omega : ¬ i < (h.2.2.length : Int))]
 simp
theorem opsI_len {h : HistM} (hm : Modst h) (i : Int) : (opsI h i).length ≤ 1000 := by
 unfold opsI
 split
 ·rename_i hc
  simp at hc
  have hk : i.toNat < h.2.2.length := by omega
  have e : h.2.2.getD i.toNat noTxn = h.2.2[i.toNat] := by simp [hk]
  rw [e]
  exact hm.2.2.2.2.2 _ (List.getElem_mem hk)
 ·exact Nat.zero_le _
end Go.Proofs.YtmgchjddpmmglaaGreatDoor
