/-
  Layer 17 (whole) in plain words: the program's way to tell the world by which a history is made another one, and the document's, are one; no program in sight. No conditions.
-/
import Derived.Test.YtmgchjddpmmglaaGreatDoorRxWhP
namespace Go.Proofs.YtmgchjddpmmglaaGreatDoor
open Go.RowKit Go.Lib
def agreeO (a b : OpM) : Bool := if lostO a then decide (a.1 = b.1 ∧ a.2.1 = b.2.1) else decide (a = b)
def agreeL : List OpM → List OpM → Bool
 | [], [] => true
 | a :: r, b :: s => agreeO a b && agreeL r s
 | _, _ => false
def agreeT (t u : TxnM) : Bool := decide (t.1 = u.1) && (decide (t.2.1 = u.2.1 ∨ t.2.1 = 3) && agreeL t.2.2 u.2.2)
def agreeG : List TxnM → List TxnM → Bool
 | [], [] => true
 | t :: r, u :: s => agreeT t u && agreeG r s
 | _, _ => false
def worldA (h g : HistM) : WorldM × Bool := if mayH h ∧ wholeP g ∧ h.1 = g.1 ∧ h.2.1 = g.2.1 ∧ agreeG h.2.2 g.2.2 then (worldG h g, true) else (([], []), false)
theorem agree_len : ∀ (L M : List OpM), agreeL L M = true → L.length = M.length
 | [], [], _ => rfl
 | [], _ :: _, h => by simp [agreeL] at h
 | _ :: _, [], h => by simp [agreeL] at h
 | a :: r, b :: s, h => by
  rw [agreeL, Bool.and_eq_true] at h
  rw [List.length_cons, List.length_cons, agree_len r s h.2]
theorem vals_fillA : ∀ (L M : List OpM), agreeL L M = true → ∀ l, (fillG L (valsO L M ++ l)).1 = M ∧ (fillG L (valsO L M ++ l)).2 = l ∧ (valsO L M).length = (L.filter lostO).length
 | [], [], _, l => ⟨rfl, rfl, rfl⟩
 | [], _ :: _, h, _ => by simp [agreeL] at h
 | _ :: _, [], h, _ => by simp [agreeL] at h
 | a :: r, b :: s, h, l => by
  rw [agreeL, Bool.and_eq_true] at h
  obtain ⟨h1, h2⟩ := h
  obtain ⟨i1, i2, i3⟩ := vals_fillA r s h2 l
  unfold agreeO at h1
  by_cases hl : lostO a = true
  ·rw [if_pos hl, decide_eq_true_eq] at h1
   rw [valsO, if_pos hl, List.cons_append, fillG, if_pos hl, List.filter_cons, if_pos hl]
   simp only [List.headD_cons, List.tail_cons, List.length_cons]
   rw [i1, i2, i3]
   refine ⟨?_, rfl, rfl⟩
   obtain ⟨b1, b2, b3⟩ := b
   simp only at h1
   rw [h1.1, h1.2]
  ·rw [if_neg hl, decide_eq_true_eq] at h1
   rw [valsO, if_neg hl, fillG, if_neg hl, List.filter_cons, if_neg hl]
   rw [i1, i2, i3, h1]
   exact ⟨rfl, rfl, rfl⟩
theorem vals_ok : ∀ (L M : List OpM), agreeL L M = true → (∀ o ∈ L, o.1 = true → lostO o = false) → (∀ o ∈ M, lostO o = false ∧ mayV o.2.2.1 o.2.2.2 = true) → ∀ v ∈ valsO L M, okVal v = true
 | [], _, _, _, _, v, hv => by simp [valsO] at hv
 | _ :: _, [], h, _, _, _, _ => by simp [agreeL] at h
 | a :: r, b :: s, h, hL, hM, v, hv => by
  rw [agreeL, Bool.and_eq_true] at h
  have ih := vals_ok r s h.2 (fun o ho => hL o (List.mem_cons_of_mem _ ho)) (fun o ho => hM o (List.mem_cons_of_mem _ ho))
  rw [valsO] at hv
  by_cases hl : lostO a = true
  ·rw [if_pos hl, List.mem_cons] at hv
   rcases hv with rfl | hv
   ·obtain ⟨h1, h2⟩ := hM b (List.mem_cons_self ..)
    unfold lostO at h1
    unfold okVal
    rcases may_cases b.2.2.1 b.2.2.2 with ⟨e, -⟩ | ⟨e, e2, -⟩ | ⟨e, e2, -⟩ | ⟨e, e1, e2, h⟩ | ⟨e, e1, e2, h⟩ | ⟨e1, e2, e3, e4, h⟩
    all_goals first | (rw [e]; rfl) | (rw [e, e2]; rfl) | (rw [e] at h1; exact absurd h1 (by decide)) | (rw [h2] at h; cases h)
   ·exact ih v hv
  ·rw [if_neg hl] at hv
   exact ih v hv
theorem make_agree : ∀ (L M : List TxnM), agreeG L M = true → (∀ u ∈ M, u.2.1 = 1 ∨ u.2.1 = 2) → ∀ l, makeG L (commitsG L (fatesG L M)) (valsG L M ++ l) = M ∧ (fatesG L M).length = (L.filter infosP).length ∧ (valsG L M).length = ((L.flatMap (·.2.2)).filter lostO).length
 | [], [], _, _, l => ⟨rfl, rfl, rfl⟩
 | [], _ :: _, h, _, _ => by simp [agreeG] at h
 | _ :: _, [], h, _, _ => by simp [agreeG] at h
 | t :: r, u :: s, h, hM, l => by
  rw [agreeG, Bool.and_eq_true] at h
  obtain ⟨h1, h2⟩ := h
  unfold agreeT at h1
  simp only [Bool.and_eq_true, decide_eq_true_eq] at h1
  obtain ⟨g1, g2, g3⟩ := h1
  obtain ⟨i1, i2, i3⟩ := make_agree r s h2 (fun x hx => hM x (List.mem_cons_of_mem _ hx)) l
  obtain ⟨j1, j2, j3⟩ := vals_fillA t.2.2 u.2.2 g3 (valsG r s ++ l)
  have hu := hM u (List.mem_cons_self ..)
  have hc : commitsG (t :: r) (fatesG (t :: r) (u :: s)) = decide (u.2.1 = 1) :: commitsG r (fatesG r s) := by
   rw [fatesG]
   by_cases h3 : t.2.1 = 3
   ·rw [if_pos h3, commitsG, if_neg (by rw [h3]; decide), if_pos h3]
    simp only [List.headD_cons, List.tail_cons]
    rcases hu with e | e <;> rw [e] <;> rfl
   ·have e : t.2.1 = u.2.1 := g2.resolve_right h3
    rw [if_neg h3, commitsG]
    rcases hu with e2 | e2
    ·rw [if_pos (by rw [e, e2]), decide_eq_true e2]
    ·rw [if_neg (by rw [e, e2]; decide), if_neg h3, decide_eq_false (by rw [e2]; decide)]
  refine ⟨?_, ?_, ?_⟩
  ·rw [hc, valsG, List.append_assoc, makeG, j1, j2]
   simp only [List.headD_cons, List.tail_cons]
   rw [i1, g1]
   obtain ⟨u1, u2, u3⟩ := u
   simp only at hu ⊢
   rcases hu with e | e <;> rw [e] <;> rfl
  ·rw [fatesG, List.filter_cons]
   by_cases h3 : t.2.1 = 3
   ·rw [if_pos h3, if_pos (by unfold infosP; simp [h3]), List.length_cons, List.length_cons, i2]
   ·rw [if_neg h3, if_neg (by unfold infosP; simp [h3]), i2]
  ·rw [valsG, List.length_append, List.flatMap_cons, List.filter_append, List.length_append, i3, j3]
theorem valsG_ok : ∀ (L M : List TxnM), agreeG L M = true → (∀ o ∈ L.flatMap (·.2.2), o.1 = true → lostO o = false) → (∀ o ∈ M.flatMap (·.2.2), lostO o = false ∧ mayV o.2.2.1 o.2.2.2 = true) → ∀ v ∈ valsG L M, okVal v = true
 | [], _, _, _, _, v, hv => by simp [valsG] at hv
 | _ :: _, [], h, _, _, _, _ => by simp [agreeG] at h
 | t :: r, u :: s, h, hL, hM, v, hv => by
  rw [agreeG, Bool.and_eq_true] at h
  obtain ⟨h1, h2⟩ := h
  unfold agreeT at h1
  simp only [Bool.and_eq_true] at h1
  rw [valsG, List.mem_append] at hv
  rw [List.flatMap_cons] at hL hM
  rcases hv with hv | hv
  ·exact vals_ok t.2.2 u.2.2 h1.2.2 (fun o ho => hL o (List.mem_append_left _ ho)) (fun o ho => hM o (List.mem_append_left _ ho)) v hv
  ·exact valsG_ok r s h2 (fun o ho => hL o (List.mem_append_right _ ho)) (fun o ho => hM o (List.mem_append_right _ ho)) v hv
theorem fill_agree : ∀ (L : List OpM) (l : List ValM), agreeL L (fillG L l).1 = true
 | [], _ => rfl
 | a :: r, l => by
  rw [fillG]
  by_cases hl : lostO a = true
  ·rw [if_pos hl, agreeL, fill_agree r, Bool.and_true]
   unfold agreeO
   rw [if_pos hl]
   simp
  ·rw [if_neg hl, agreeL, fill_agree r, Bool.and_true]
   unfold agreeO
   rw [if_neg hl]
   simp
theorem agree_make : ∀ (L : List TxnM) (c : List Bool) (l : List ValM), (∀ t ∈ L, 1 ≤ t.2.1 ∧ t.2.1 ≤ 3) → agreeG L (makeG L (commitsG L c) l) = true
 | [], _, _, _ => rfl
 | t :: r, c, l, h => by
  have ht := h t (List.mem_cons_self ..)
  have ih := fun c l => agree_make r c l (fun x hx => h x (List.mem_cons_of_mem _ hx))
  rw [makeG, agreeG]
  have e : (commitsG (t :: r) c).tail = commitsG r c ∨ (commitsG (t :: r) c).tail = commitsG r c.tail := by
   rw [commitsG]
   split
   ·exact .inl rfl
   ·split
    ·exact .inr rfl
    ·exact .inl rfl
  have h2 : agreeG r (makeG r (commitsG (t :: r) c).tail (fillG t.2.2 l).2) = true := by
   rcases e with e | e <;> rw [e] <;> exact ih _ _
  rw [h2, Bool.and_true]
  unfold agreeT
  simp only [fill_agree, Bool.and_true, decide_true, Bool.true_and, decide_eq_true_eq]
  rw [commitsG]
  by_cases h1 : t.2.1 = 1
  ·rw [if_pos h1]; left; rw [h1]; rfl
  ·rw [if_neg h1]
   by_cases h3 : t.2.1 = 3
   ·right; exact h3
   ·rw [if_neg h3]
    left
    show t.2.1 = 2
    omega
theorem world_one (h g : HistM) : worldA h g = worldP h g := by
 unfold worldA worldP
 by_cases hm : mayH h = true
 ·by_cases hw : wholeP g = true
  ·have hM := (mayH_iff h).1 hm
   obtain ⟨gm, gn, gi⟩ := whole_parts hw
   have key : (h.1 = g.1 ∧ h.2.1 = g.2.1 ∧ agreeG h.2.2 g.2.2 = true) ↔ (mayW h (worldG h g) = true ∧ makeH h (worldG h g) = g) := by
    constructor
    ·rintro ⟨e1, e2, ha⟩
     have hf : ∀ u ∈ g.2.2, u.2.1 = 1 ∨ u.2.1 = 2 := fun u hu => by
      have h1 := gm.txn u hu
      unfold okTxn at h1
      simp only [Bool.and_eq_true, decide_eq_true_eq] at h1
      have := gi u hu
      omega
     obtain ⟨m1, m2, m3⟩ := make_agree h.2.2 g.2.2 ha hf []
     rw [List.append_nil] at m1
     refine ⟨(mayW_iff _ _).2 ⟨hM, m2, m3, valsG_ok h.2.2 g.2.2 ha (fun o ho hb => ?_) (fun o ho => ⟨gn o ho, ?_⟩)⟩, ?_⟩
     ·have h1 := hM.op o ho
      unfold okOp at h1
      rw [hb] at h1
      simp at h1
      unfold lostO
      rw [h1.2.2]
      rfl
     ·have h1 := gm.op o ho
      unfold okOp at h1
      simp only [Bool.and_eq_true] at h1
      exact h1.2.1
     ·obtain ⟨g0, g1, g2⟩ := g
      simp only at e1 e2 m1
      unfold makeH worldG
      simp only
      rw [e1, e2, m1]
    ·rintro ⟨hv, he⟩
     have e1 := congrArg (fun x : HistM => x.1) he
     have e2 := congrArg (fun x : HistM => x.2.1) he
     have e3 := congrArg (fun x : HistM => x.2.2) he
     refine ⟨e1, e2, ?_⟩
     have := agree_make h.2.2 (worldG h g).1 (worldG h g).2 (fun t ht => by
      have h1 := hM.txn t ht
      unfold okTxn at h1
      simp only [Bool.and_eq_true, decide_eq_true_eq] at h1
      omega)
     have e4 : makeG h.2.2 (commitsG h.2.2 (worldG h g).1) (worldG h g).2 = g.2.2 := e3
     rw [e4] at this
     exact this
   by_cases hc : h.1 = g.1 ∧ h.2.1 = g.2.1 ∧ agreeG h.2.2 g.2.2 = true
   ·rw [if_pos ⟨hm, hw, hc⟩, if_pos ⟨hm, hw, key.1 hc⟩]
   ·rw [if_neg (fun x => hc x.2.2), if_neg (fun x => hc (key.2 x.2.2))]
  ·rw [if_neg (fun x => hw x.2.1), if_neg (fun x => hw x.2.1)]
 ·rw [if_neg (fun x => hm x.1), if_neg (fun x => hm x.1)]
end Go.Proofs.YtmgchjddpmmglaaGreatDoor
