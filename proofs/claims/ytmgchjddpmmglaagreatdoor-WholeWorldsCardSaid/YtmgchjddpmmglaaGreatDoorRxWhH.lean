/-
  Layer 17 (whole) in plain words: the world by which a history is made another one, told along the open fates and the lost reads; agreement, one by one; no program in sight. No conditions.
-/
import Derived.Test.YtmgchjddpmmglaaGreatDoorRxWhQ
import Derived.Test.YtmgchjddpmmglaaGreatDoorRxWoE
namespace Go.Proofs.YtmgchjddpmmglaaGreatDoor
open Go.RowKit Go.Lib
theorem fates_snoc : ∀ (T U : List TxnM) (t u : TxnM), T.length = U.length → fatesG (T ++ [t]) (U ++ [u]) = fatesG T U ++ (if t.2.1 = 3 then [u.2.1 == 1] else [])
 | [], [], t, u, _ => by
  show fatesG [t] [u] = fatesG [] [] ++ _
  unfold fatesG
  split <;> simp [fatesG]
 | [], _ :: _, _, _, h => by simp at h
 | _ :: _, [], _, _, h => by simp at h
 | a :: T, b :: U, t, u, h => by
  have ih := fates_snoc T U t u (by simpa using h)
  rw [List.cons_append, List.cons_append, fatesG, fatesG, ih]
  split <;> simp
theorem vals_snocO : ∀ (T U : List OpM) (t u : OpM), T.length = U.length → valsO (T ++ [t]) (U ++ [u]) = valsO T U ++ (if lostO t then [u.2.2] else [])
 | [], [], t, u, _ => by
  show valsO [t] [u] = valsO [] [] ++ _
  unfold valsO
  split <;> simp [valsO]
 | [], _ :: _, _, _, h => by simp at h
 | _ :: _, [], _, _, h => by simp at h
 | a :: T, b :: U, t, u, h => by
  have ih := vals_snocO T U t u (by simpa using h)
  rw [List.cons_append, List.cons_append, valsO, valsO, ih]
  split <;> simp
theorem vals_snocG : ∀ (T U : List TxnM) (t u : TxnM), T.length = U.length → valsG (T ++ [t]) (U ++ [u]) = valsG T U ++ valsO t.2.2 u.2.2
 | [], [], t, u, _ => by
  show valsG [t] [u] = valsG [] [] ++ _
  simp [valsG]
 | [], _ :: _, _, _, h => by simp at h
 | _ :: _, [], _, _, h => by simp at h
 | a :: T, b :: U, t, u, h => by
  have ih := vals_snocG T U t u (by simpa using h)
  rw [List.cons_append, List.cons_append, valsG, valsG, ih, List.append_assoc]
def fateAt (U : List TxnM) (i : Int) : Bool := (U.getD i.toNat noTxn).2.1 == 1
def valAt (U : List TxnM) (p : PlaceM) : ValM := ((U.getD p.1 noTxn).2.2.getD p.2 noOp).2.2
theorem fates_infos (T U : List TxnM) (h : T.length = U.length) : fatesG T U = (idxs infosP T T.length).map (fateAt U) := by
 have hk : ∀ k, k ≤ T.length → fatesG (T.take k) (U.take k) = (idxs infosP T k).map (fateAt U) := by
  intro k
  induction k with
  | zero => intro _; simp [fatesG, idxs]
  | succ k ih =>
   intro hk
   have e : (U.getD k noTxn).2.1 = (U.getD (k : Int).toNat noTxn).2.1 := by simp
   rw [take_snocT T k (by omega), take_snocT U k (by omega), fates_snoc _ _ _ _ (by rw [List.length_take, List.length_take]; omega), ih (by omega), idxs_next]
   unfold infosP
   by_cases h3 : (T.getD k noTxn).2.1 = 3
   ·rw [if_pos h3, if_pos (by simpa using h3), List.map_append]
    congr 1
   ·rw [if_neg h3, if_neg (by simpa using h3), List.append_nil]
 have := hk T.length (Nat.le_refl _)
 rwa [List.take_length, h, List.take_length, ← h] at this
theorem lostI_append (a b : List Item) : lostI (a ++ b) = lostI a ++ lostI b := by simp [lostI]
theorem vals_ops (U : List TxnM) (a : Nat) (l m : List OpM) (h : l.length = m.length) (hm : (U.getD a noTxn).2.2 = m) : valsO l m = (lostI (itT a l l.length)).map (valAt U) := by
 have hk : ∀ k, k ≤ l.length → valsO (l.take k) (m.take k) = (lostI (itT a l k)).map (valAt U) := by
  intro k
  induction k with
  | zero => intro _; simp [valsO, itT, lostI]
  | succ k ih =>
   intro hk
   rw [take_snocO l k (by omega), take_snocO m k (by omega), vals_snocO _ _ _ _ (by rw [List.length_take, List.length_take]; omega), ih (by omega), itT_succ, lostI_snoc]
   by_cases h3 : lostO (l.getD k noOp) = true
   ·have h4 : ((l.getD k noOp).2.2.1 == 2) = true := h3
    rw [if_pos h3, if_pos h4, List.map_append]
    congr 1
    simp only [List.map_cons, List.map_nil, valAt, hm]
   ·have h4 : ¬ ((l.getD k noOp).2.2.1 == 2) = true := h3
    rw [if_neg h3, if_neg h4, List.append_nil]
 have := hk l.length (Nat.le_refl _)
 rwa [List.take_length, h, List.take_length, ← h] at this
theorem vals_places (T U : List TxnM) (h : T.length = U.length) (ho : ∀ k, k < T.length → (T.getD k noTxn).2.2.length = (U.getD k noTxn).2.2.length) : valsG T U = (lostI (itH T T.length)).map (valAt U) := by
 have hk : ∀ k, k ≤ T.length → valsG (T.take k) (U.take k) = (lostI (itH T k)).map (valAt U) := by
  intro k
  induction k with
  | zero => intro _; simp [valsG, itH, lostI]
  | succ k ih =>
   intro hk
   rw [take_snocT T k (by omega), take_snocT U k (by omega), vals_snocG _ _ _ _ (by rw [List.length_take, List.length_take]; omega), ih (by omega), itH_succ, lostI_append, List.map_append]
   congr 1
   exact vals_ops U k _ _ (ho k (by omega)) rfl
 have := hk T.length (Nat.le_refl _)
 rwa [List.take_length, h, List.take_length, ← h] at this
theorem agreeG_len : ∀ (T U : List TxnM), agreeG T U = true → T.length = U.length
 | [], [], _ => rfl
 | [], _ :: _, h => by simp [agreeG] at h
 | _ :: _, [], h => by simp [agreeG] at h
 | a :: r, b :: s, h => by
  rw [agreeG, Bool.and_eq_true] at h
  rw [List.length_cons, List.length_cons, agreeG_len r s h.2]
theorem agreeG_at : ∀ (T U : List TxnM), agreeG T U = true → ∀ k, k < T.length → agreeT (T.getD k noTxn) (U.getD k noTxn) = true
 | [], _, _, k, hk => absurd hk (Nat.not_lt_zero _)
 | _ :: _, [], h, _, _ => by simp [agreeG] at h
 | a :: r, b :: s, h, 0, _ => by
  rw [agreeG, Bool.and_eq_true] at h
  exact h.1
 | a :: r, b :: s, h, k + 1, hk => by
  rw [agreeG, Bool.and_eq_true] at h
  exact agreeG_at r s h.2 k (by simpa using hk)
theorem agreeG_ops (T U : List TxnM) (h : agreeG T U = true) (k : Nat) (hk : k < T.length) : (T.getD k noTxn).2.2.length = (U.getD k noTxn).2.2.length := by
 have h1 := agreeG_at T U h k hk
 unfold agreeT at h1
 simp only [Bool.and_eq_true] at h1
 exact agree_len _ _ h1.2.2
theorem agreeL_no {L M : List OpM} (h : L.length ≠ M.length) : agreeL L M = false := by
 cases e : agreeL L M with
 | false => rfl
 | true => exact absurd (agree_len L M e) h
theorem agreeG_no {L M : List TxnM} (h : L.length ≠ M.length) : agreeG L M = false := by
 cases e : agreeG L M with
 | false => rfl
 | true => exact absurd (agreeG_len L M e) h
theorem agreeL_step (L M : List OpM) (i : Nat) (h : L.length = M.length) (hi : i < L.length) : agreeL (L.drop i) (M.drop i) = (agreeO (L.getD i noOp) (M.getD i noOp) && agreeL (L.drop (i + 1)) (M.drop (i + 1))) := by
 have e1 : L.drop i = L.getD i noOp :: L.drop (i + 1) := by rw [List.drop_eq_getElem_cons hi]; simp [hi]
 have hi2 : i < M.length := by omega
 have e2 : M.drop i = M.getD i noOp :: M.drop (i + 1) := by rw [List.drop_eq_getElem_cons hi2]; simp [hi2]
 rw [e1, e2, agreeL]
theorem agreeG_step (L M : List TxnM) (i : Nat) (h : L.length = M.length) (hi : i < L.length) : agreeG (L.drop i) (M.drop i) = (agreeT (L.getD i noTxn) (M.getD i noTxn) && agreeG (L.drop (i + 1)) (M.drop (i + 1))) := by
 have e1 : L.drop i = L.getD i noTxn :: L.drop (i + 1) := by rw [List.drop_eq_getElem_cons hi]; simp [hi]
 have hi2 : i < M.length := by omega
 have e2 : M.drop i = M.getD i noTxn :: M.drop (i + 1) := by rw [List.drop_eq_getElem_cons hi2]; simp [hi2]
 rw [e1, e2, agreeG]
theorem agreeL_end (L M : List OpM) (h : L.length = M.length) : agreeL (L.drop L.length) (M.drop L.length) = true := by
 rw [List.drop_length, h, List.drop_length]
 rfl
theorem agreeG_end (L M : List TxnM) (h : L.length = M.length) : agreeG (L.drop L.length) (M.drop L.length) = true := by
 rw [List.drop_length, h, List.drop_length]
 rfl
theorem place_in (T : List TxnM) (p : PlaceM) (hp : p ∈ lostI (itH T T.length)) : p.1 < T.length ∧ p.2 < (T.getD p.1 noTxn).2.2.length := by
 unfold lostI at hp
 obtain ⟨x, hx, rfl⟩ := List.mem_map.1 hp
 obtain ⟨a, ha, hxa⟩ := List.mem_flatMap.1 (show x ∈ itH T T.length from (List.mem_filter.1 hx).1)
 obtain ⟨j, hj, rfl⟩ := List.mem_map.1 (show x ∈ itT a _ _ from hxa)
 exact ⟨List.mem_range.1 ha, List.mem_range.1 hj⟩
theorem info_in (T : List TxnM) (i : Int) (hi : i ∈ idxs infosP T T.length) : ∃ k : Nat, i = k ∧ k < T.length := by
 unfold idxs at hi
 obtain ⟨k, hk, rfl⟩ := List.mem_map.1 hi
 exact ⟨k, rfl, List.mem_range.1 (List.mem_filter.1 hk).1⟩
end Go.Proofs.YtmgchjddpmmglaaGreatDoor
