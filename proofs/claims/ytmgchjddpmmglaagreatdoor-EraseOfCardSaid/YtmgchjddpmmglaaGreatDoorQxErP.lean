/-
  Layer 14 (erase) in plain words: a history without its lost reads, where an operation stands then; that it may be, has none, and stays so; no program in sight. No conditions.
-/
import Derived.Test.YtmgchjddpmmglaaGreatDoorQIb
namespace Go.Proofs.YtmgchjddpmmglaaGreatDoor
open Go.RowKit Go.Lib
def lostO (o : OpM) : Bool := o.2.2.1 == 2
def usedK (h : HistM) (k : Nat) : Bool := (allOps h).any fun o => !lostO o && o.2.1 == (k : Int)
def stayK (h : HistM) (n : Nat) : List Nat := (List.range n).filter (usedK h)
def keptK (h : HistM) (n : Nat) : List (List UInt8) := (stayK h n).map fun i => h.2.1.getD i []
def newK (h : HistM) (k : Int) : Int := ((stayK h k.toNat).length : Int)
def eraseO (h : HistM) (o : OpM) : OpM := (o.1, newK h o.2.1, o.2.2)
def eraseL (h : HistM) (l : List OpM) : List OpM := (l.filter fun o => !lostO o).map (eraseO h)
def eraseT (h : HistM) (t : TxnM) : TxnM := (t.1, t.2.1, eraseL h t.2.2)
def eraseH (h : HistM) : HistM := (h.1, keptK h h.2.1.length, h.2.2.map (eraseT h))
def placeP (h : HistM) (t o : Int) : (Int × Int) × Bool :=
 if mayH h ∧ 0 ≤ t ∧ t < h.2.2.length ∧ 0 ≤ o ∧ o < (h.2.2.getD t.toNat noTxn).2.2.length ∧ lostO ((h.2.2.getD t.toNat noTxn).2.2.getD o.toNat noOp) = false
 then ((t, ((((h.2.2.getD t.toNat noTxn).2.2.take o.toNat).filter fun o => !lostO o).length : Int)), true) else ((0, 0), false)
theorem stay_next (h : HistM) (k : Nat) : stayK h (k + 1) = if usedK h k then stayK h k ++ [k] else stayK h k := by
 unfold stayK
 rw [List.range_succ, List.filter_append]
 by_cases e : usedK h k = true
 ·rw [if_pos e, List.filter_cons, if_pos e]; rfl
 ·rw [if_neg e, List.filter_cons, if_neg e]; simp
theorem kept_next (h : HistM) (k : Nat) : keptK h (k + 1) = if usedK h k then keptK h k ++ [h.2.1.getD k []] else keptK h k := by
 unfold keptK
 rw [stay_next]
 by_cases e : usedK h k = true
 ·rw [if_pos e, if_pos e, List.map_append]; rfl
 ·rw [if_neg e, if_neg e]
theorem kept_len (h : HistM) (k : Nat) : (keptK h k).length = (stayK h k).length := by simp [keptK]
theorem stay_le (h : HistM) : ∀ k, (stayK h k).length ≤ k := fun k => Nat.le_trans (List.length_filter_le _ _) (by simp)
theorem stay_mono (h : HistM) (a : Nat) : ∀ b, a ≤ b → (stayK h a).length ≤ (stayK h b).length := by
 intro b
 induction b with
 | zero => intro e; obtain rfl : a = 0 := by omega
           exact Nat.le_refl _
 | succ b ih =>
  intro e
  by_cases e2 : a = b + 1
  ·rw [e2]; exact Nat.le_refl _
  ·rw [stay_next]
   have := ih (by omega)
   split
   ·rw [List.length_append]; omega
   ·exact this
theorem stay_lt (h : HistM) (k m : Nat) (hk : k < m) (hu : usedK h k = true) : (stayK h k).length < (stayK h m).length := by
 have h1 := stay_mono h (k + 1) m hk
 rw [stay_next, if_pos hu, List.length_append, List.length_singleton] at h1
 omega
theorem stay_at (h : HistM) (i : Nat) : ∀ m, i < (stayK h m).length → (stayK h ((stayK h m).getD i 0)).length = i ∧ usedK h ((stayK h m).getD i 0) = true ∧ (stayK h m).getD i 0 < m := by
 intro m
 induction m with
 | zero => intro hi; exact absurd hi (Nat.not_lt_zero i)
 | succ m ih =>
  rw [stay_next]
  by_cases e : usedK h m = true
  ·rw [if_pos e]
   intro hi
   rw [List.length_append, List.length_singleton] at hi
   by_cases h2 : i < (stayK h m).length
   ·have e1 : (stayK h m ++ [m]).getD i 0 = (stayK h m).getD i 0 := by simp [h2, List.getElem?_append_left h2]
    rw [e1]
    obtain ⟨a, b, c⟩ := ih h2
    exact ⟨a, b, by omega⟩
   ·obtain rfl : i = (stayK h m).length := by omega
    have e1 : (stayK h m ++ [m]).getD (stayK h m).length 0 = m := by simp
    rw [e1]
    exact ⟨rfl, e, Nat.lt_succ_self m⟩
  ·rw [if_neg e]
   intro hi
   obtain ⟨a, b, c⟩ := ih hi
   exact ⟨a, b, by omega⟩
theorem map_getD (L : List (List UInt8)) : (List.range L.length).map (fun i => L.getD i []) = L := by
 apply List.ext_getElem
 ·simp
 ·intro i h1 h2
  simp [h2]
theorem kept_sub (h : HistM) : List.Sublist (keptK h h.2.1.length) h.2.1 := by
 have := (List.filter_sublist (p := usedK h) (l := List.range h.2.1.length)).map (fun i => h.2.1.getD i [])
 rw [map_getD] at this
 exact this
theorem kept_table (h : HistM) (ht : isT h.2.1 = true) : isT (keptK h h.2.1.length) = true := by
 obtain ⟨h1, h2⟩ := (isT_names _).1 ht
 exact (isT_names _).2 ⟨fun x hx => h1 x ((kept_sub h).subset hx), h2.sublist (kept_sub h)⟩
theorem allOps_erase (h : HistM) : allOps (eraseH h) = ((allOps h).filter fun o => !lostO o).map (eraseO h) := by
 unfold allOps eraseH
 show (h.2.2.map (eraseT h)).flatMap (·.2.2) = _
 generalize h.2.2 = L
 induction L with
 | nil => rfl
 | cons t L ih =>
  rw [List.map_cons, List.flatMap_cons, ih, List.flatMap_cons, List.filter_append, List.map_append]
  rfl
theorem used_of {h : HistM} {o : OpM} (ho : o ∈ allOps h) (hl : lostO o = false) (h0 : 0 ≤ o.2.1) : usedK h o.2.1.toNat = true := by
 unfold usedK
 rw [List.any_eq_true]
 refine ⟨o, ho, ?_⟩
 rw [hl]
 simp
 omega
theorem erase_okOp {h : HistM} (hm : MayH h) {o : OpM} (ho : o ∈ allOps h) (hl : lostO o = false) : okOp (keptK h h.2.1.length).length (eraseO h o) = true := by
 have h1 := hm.op o ho
 obtain ⟨h2, h3⟩ := okOp_key h1
 have h4 := stay_lt h o.2.1.toNat h.2.1.length (by omega) (used_of ho hl h2)
 unfold okOp at h1 ⊢
 simp only [Bool.and_eq_true] at h1 ⊢
 refine ⟨?_, h1.2.1, h1.2.2⟩
 unfold inside eraseO newK
 rw [kept_len]
 simp only [Bool.and_eq_true, decide_eq_true_eq]
 omega
theorem used_all {h : HistM} : allUsed (keptK h h.2.1.length).length ((allOps (eraseH h)).map (·.2.1)) = true := by
 unfold allUsed
 rw [List.all_eq_true]
 intro i hi
 rw [List.mem_range, kept_len] at hi
 obtain ⟨h1, h2, h3⟩ := stay_at h i _ hi
 generalize (stayK h h.2.1.length).getD i 0 = k at *
 unfold usedK at h2
 rw [List.any_eq_true] at h2
 obtain ⟨o, ho, he⟩ := h2
 simp only [Bool.and_eq_true, Bool.not_eq_true', beq_iff_eq] at he
 rw [List.contains_iff_mem, List.mem_map]
 refine ⟨eraseO h o, ?_, ?_⟩
 ·rw [allOps_erase, List.mem_map]
  exact ⟨o, List.mem_filter.2 ⟨ho, by simp [he.1]⟩, rfl⟩
 ·show newK h o.2.1 = _
  unfold newK
  rw [he.2, Int.toNat_natCast, h1]
theorem erase_len (h : HistM) (l : List OpM) : (eraseL h l).length ≤ l.length := by
 unfold eraseL
 rw [List.length_map]
 exact List.length_filter_le _ _
theorem erase_mayH {h : HistM} (hm : MayH h) : MayH (eraseH h) := by
 refine ⟨hm.t0, kept_table h hm.t1, hm.n0, ?_, by unfold eraseH; simp only [List.length_map]; exact hm.n2, ?_, ?_, ?_, used_all⟩
 ·show (keptK h h.2.1.length).length ≤ 40
  have := (kept_sub h).length_le
  have := hm.n1
  omega
 ·intro t ht
  obtain ⟨u, hu, rfl⟩ := List.mem_map.1 (show t ∈ h.2.2.map (eraseT h) from ht)
  have h1 := hm.txn u hu
  have h2 := erase_len h u.2.2
  show okTxn h.1.length (eraseT h u) = true
  unfold okTxn at h1 ⊢
  simp only [Bool.and_eq_true, decide_eq_true_eq] at h1 ⊢
  refine ⟨h1.1, h1.2.1, h1.2.2.1, ?_⟩
  have := h1.2.2.2
  show (eraseL h u.2.2).length ≤ 20
  omega
 ·intro o ho
  rw [allOps_erase] at ho
  obtain ⟨p, hp, rfl⟩ := List.mem_map.1 ho
  rw [List.mem_filter] at hp
  exact erase_okOp hm hp.1 (by simpa using hp.2)
 ·have e : (eraseH h).2.2.map (·.1) = h.2.2.map (·.1) := by
   show (h.2.2.map (eraseT h)).map (·.1) = _
   rw [List.map_map]
   rfl
  rw [e]
  exact hm.u0
theorem erase_may {h : HistM} (hm : mayH h = true) : mayH (eraseH h) = true := (mayH_iff _).2 (erase_mayH ((mayH_iff _).1 hm))
def noLost (h : HistM) : Prop := ∀ o ∈ allOps h, lostO o = false
theorem erase_noLost (h : HistM) : noLost (eraseH h) := by
 intro o ho
 rw [allOps_erase] at ho
 obtain ⟨p, hp, rfl⟩ := List.mem_map.1 ho
 rw [List.mem_filter] at hp
 have := hp.2
 show lostO p = false
 simpa using this
theorem noLost_lost {h : HistM} (hn : noLost h) : lostI (itH h.2.2 h.2.2.length) = [] := by
 unfold lostI
 rw [List.filter_eq_nil_iff.2, List.map_nil]
 intro x hx
 have h1 : x.2 ∈ allOps h := by
  show x.2 ∈ h.2.2.flatMap (·.2.2)
  rw [← items_ops]
  exact List.mem_map_of_mem hx
 have h2 := hn _ h1
 unfold lostO at h2
 simpa using h2
theorem erase_lost (h : HistM) : lostL (eraseH h) = [] := by
 unfold lostL
 split
 ·exact noLost_lost (erase_noLost h)
 ·rfl
theorem stay_all {h : HistM} (hm : MayH h) (hn : noLost h) (n : Nat) (hn2 : n ≤ h.2.1.length) : stayK h n = List.range n := by
 unfold stayK
 rw [List.filter_eq_self]
 intro k hk
 rw [List.mem_range] at hk
 have h1 := hm.u1
 unfold allUsed at h1
 rw [List.all_eq_true] at h1
 have h2 := h1 k (List.mem_range.2 (by omega))
 rw [List.contains_iff_mem, List.mem_map] at h2
 obtain ⟨o, ho, e⟩ := h2
 unfold usedK
 rw [List.any_eq_true]
 exact ⟨o, ho, by rw [hn o ho, e]; simp⟩
theorem erase_id {h : HistM} (hm : MayH h) (hn : noLost h) : eraseH h = h := by
 have hk : keptK h h.2.1.length = h.2.1 := by
  unfold keptK
  rw [stay_all hm hn _ (Nat.le_refl _), map_getD]
 have hl : ∀ t ∈ h.2.2, eraseT h t = t := by
  intro t ht
  obtain ⟨a, b, l⟩ := t
  have hin : ∀ o ∈ l, o ∈ allOps h := fun o ho => List.mem_flatMap.2 ⟨_, ht, ho⟩
  have e1 : (l.filter fun o => !lostO o) = l := by
   rw [List.filter_eq_self]
   intro o ho
   rw [hn o (hin o ho)]
   rfl
  unfold eraseT eraseL
  show (a, b, (l.filter fun o => !lostO o).map (eraseO h)) = _
  rw [e1]
  congr 2
  have e2 : l.map (eraseO h) = l.map id := by
   apply List.map_congr_left
   intro o ho
   obtain ⟨h2, h3⟩ := okOp_key (hm.op o (hin o ho))
   obtain ⟨w, k, v⟩ := o
   unfold eraseO newK
   simp only at h2 h3 ⊢
   rw [stay_all hm hn _ (by omega), List.length_range]
   simp only [id_eq]
   congr 2
   omega
  rw [e2, List.map_id]
 unfold eraseH
 rw [hk]
 have e3 : h.2.2.map (eraseT h) = h.2.2.map id := List.map_congr_left hl
 rw [e3, List.map_id]
theorem erase_erase {h : HistM} (hm : mayH h = true) : eraseH (eraseH h) = eraseH h := erase_id (erase_mayH ((mayH_iff _).1 hm)) (erase_noLost h)
theorem filter_at (l : List OpM) (p : OpM → Bool) : ∀ (j : Nat), j < l.length → p (l.getD j noOp) = true → ((l.take j).filter p).length < (l.filter p).length ∧ (l.filter p).getD ((l.take j).filter p).length noOp = l.getD j noOp := by
 induction l with
 | nil => intro j hj; exact absurd hj (Nat.not_lt_zero j)
 | cons o l ih =>
  intro j hj hp
  cases j with
  | zero =>
   have hp' : p o = true := hp
   rw [List.take_zero, List.filter_nil, List.filter_cons, if_pos hp']
   exact ⟨by simp, rfl⟩
  | succ j =>
   obtain ⟨h1, h2⟩ := ih j (by simpa using hj) (by simpa using hp)
   have e : (o :: l).getD (j + 1) noOp = l.getD j noOp := by simp
   rw [List.take_succ_cons, List.filter_cons, List.filter_cons, e]
   by_cases hq : p o = true
   ·rw [if_pos hq, if_pos hq]
    refine ⟨by simpa using h1, ?_⟩
    rw [← h2]
    simp
   ·rw [if_neg hq, if_neg hq]
    exact ⟨h1, h2⟩
theorem place_value {h : HistM} (i j : Nat) (hi : i < h.2.2.length) (hj : j < (h.2.2.getD i noTxn).2.2.length) (hp : (placeP h i j).2 = true) :
  ∃ n : Nat, placeP h i j = (((i : Int), (n : Int)), true) ∧ n < ((eraseH h).2.2.getD i noTxn).2.2.length ∧ (((eraseH h).2.2.getD i noTxn).2.2.getD n noOp).2.2 = ((h.2.2.getD i noTxn).2.2.getD j noOp).2.2 := by
 have e0 : (eraseH h).2.2.getD i noTxn = eraseT h (h.2.2.getD i noTxn) := by
  unfold eraseH
  simp [hi]
 unfold placeP at hp ⊢
 rw [Int.toNat_natCast, Int.toNat_natCast] at hp ⊢
 split at hp
 ·rename_i hc
  have hl := hc.2.2.2.2.2
  rw [if_pos hc]
  obtain ⟨h1, h2⟩ := filter_at (h.2.2.getD i noTxn).2.2 (fun o => !lostO o) j hj (by rw [hl]; rfl)
  refine ⟨_, rfl, ?_, ?_⟩
  ·rw [e0]
   show _ < (eraseL h _).length
   unfold eraseL
   rw [List.length_map]
   exact h1
  ·rw [e0]
   show ((eraseL h _).getD _ noOp).2.2 = _
   unfold eraseL
   rw [← h2]
   have e1 : ∀ (M : List OpM) (n : Nat), n < M.length → (M.map (eraseO h)).getD n noOp = eraseO h (M.getD n noOp) := fun M n hn => by simp [hn]
   rw [e1 _ _ h1]
   rfl
 ·simp at hp
end Go.Proofs.YtmgchjddpmmglaaGreatDoor
