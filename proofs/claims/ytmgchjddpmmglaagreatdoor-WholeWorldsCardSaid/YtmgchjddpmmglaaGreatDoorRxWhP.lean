/-
  Layers 16 and 17 (world, whole) in plain words: worlds of a history, who committed, a history made whole by a world, the world by which; that it is whole, and that the world is told back; no program in sight. No conditions.
-/
import Derived.Test.YtmgchjddpmmglaaGreatDoorRWl
namespace Go.Proofs.YtmgchjddpmmglaaGreatDoor
open Go.RowKit Go.Lib
abbrev ValM := Int × Int
abbrev WorldM := List Bool × List ValM
def noVal : ValM := (0, 0)
def okVal (v : ValM) : Bool := v.1 == 1 || (v.1 == 0 && v.2 == 0)
def infos (h : HistM) : List Int := idxs infosP h.2.2 h.2.2.length
def losts (h : HistM) : List PlaceM := lostI (itH h.2.2 h.2.2.length)
def mayW (h : HistM) (w : WorldM) : Bool := mayH h && (decide (w.1.length = (whereL infosP h).length) && (decide (w.2.length = (lostL h).length) && w.2.all okVal))
def wholeP (h : HistM) : Bool := mayH h && (decide ((whereL infosP h).length = 0) && decide ((lostL h).length = 0))
def commitsG : List TxnM → List Bool → List Bool
 | [], _ => []
 | t :: r, c => if t.2.1 = 1 then true :: commitsG r c else if t.2.1 = 3 then c.headD false :: commitsG r c.tail else false :: commitsG r c
def fillG : List OpM → List ValM → List OpM × List ValM
 | [], l => ([], l)
 | o :: r, l => if lostO o then ((o.1, o.2.1, l.headD noVal) :: (fillG r l.tail).1, (fillG r l.tail).2) else (o :: (fillG r l).1, (fillG r l).2)
def makeG : List TxnM → List Bool → List ValM → List TxnM
 | [], _, _ => []
 | t :: r, c, l => (t.1, (if c.headD false then 1 else 2), (fillG t.2.2 l).1) :: makeG r c.tail (fillG t.2.2 l).2
def makeH (h : HistM) (w : WorldM) : HistM := (h.1, h.2.1, makeG h.2.2 (commitsG h.2.2 w.1) w.2)
def fatesG : List TxnM → List TxnM → List Bool
 | t :: r, u :: s => if t.2.1 = 3 then (u.2.1 == 1) :: fatesG r s else fatesG r s
 | _, _ => []
def valsO : List OpM → List OpM → List ValM
 | o :: r, p :: s => if lostO o then p.2.2 :: valsO r s else valsO r s
 | _, _ => []
def valsG : List TxnM → List TxnM → List ValM
 | t :: r, u :: s => valsO t.2.2 u.2.2 ++ valsG r s
 | _, _ => []
def worldG (h g : HistM) : WorldM := (fatesG h.2.2 g.2.2, valsG h.2.2 g.2.2)
def worldP (h g : HistM) : WorldM × Bool := if mayH h ∧ wholeP g ∧ mayW h (worldG h g) ∧ makeH h (worldG h g) = g then (worldG h g, true) else (([], []), false)
theorem infos_len (L : List TxnM) : (idxs infosP L L.length).length = (L.filter infosP).length := by
 have h : ∀ n, n ≤ L.length → (idxs infosP L n).length = ((L.take n).filter infosP).length := by
  intro n
  induction n with
  | zero => intro _; rfl
  | succ n ih =>
   intro hn
   have e : L.getD n noTxn = L[n] := by simp [show n < L.length by omega]
   rw [idxs_next, List.take_succ_eq_append_getElem (by omega), List.filter_append, List.length_append, ← ih (by omega), e]
   by_cases hp : infosP L[n] = true
   ·rw [if_pos hp]; simp [hp]
   ·rw [if_neg hp]; simp [hp]
 have := h L.length (Nat.le_refl _)
 rwa [List.take_length] at this
theorem losts_len (L : List TxnM) : (lostI (itH L L.length)).length = ((L.flatMap (·.2.2)).filter lostO).length := by
 unfold lostI
 rw [List.length_map, ← items_ops, List.filter_map, List.length_map]
 rfl
theorem fill_len : ∀ (L : List OpM) (l : List ValM), (fillG L l).1.length = L.length
 | [], _ => rfl
 | o :: r, l => by
  unfold fillG
  split
  ·rw [List.length_cons, fill_len r, List.length_cons]
  ·rw [List.length_cons, fill_len r, List.length_cons]
theorem fill_left : ∀ (L : List OpM) (l : List ValM), (fillG L l).2 = l.drop (L.filter lostO).length
 | [], _ => rfl
 | o :: r, l => by
  unfold fillG
  by_cases h : lostO o = true
  ·rw [if_pos h, List.filter_cons, if_pos h, fill_left r, List.length_cons]
   cases l <;> simp
  ·rw [if_neg h, List.filter_cons, if_neg h, fill_left r]
theorem commits_len : ∀ (L : List TxnM) (c : List Bool), (commitsG L c).length = L.length
 | [], _ => rfl
 | t :: r, c => by
  unfold commitsG
  split
  ·rw [List.length_cons, commits_len r, List.length_cons]
  ·split <;> rw [List.length_cons, commits_len r, List.length_cons]
theorem make_len : ∀ (L : List TxnM) (c : List Bool) (l : List ValM), (makeG L c l).length = L.length
 | [], _, _ => rfl
 | t :: r, c, l => by rw [makeG, List.length_cons, make_len r, List.length_cons]
theorem fill_mem : ∀ (L : List OpM) (l : List ValM), (L.filter lostO).length ≤ l.length → (∀ v ∈ l, okVal v = true) → ∀ o ∈ (fillG L l).1, ∃ p ∈ L, o.1 = p.1 ∧ o.2.1 = p.2.1 ∧ (o = p ∧ lostO p = false ∨ lostO p = true ∧ okVal o.2.2 = true)
 | [], _, _, _, o, ho => by cases ho
 | q :: r, l, hl, hv, o, ho => by
  unfold fillG at ho
  by_cases h : lostO q = true
  ·rw [if_pos h] at ho
   rw [List.filter_cons, if_pos h, List.length_cons] at hl
   obtain ⟨v, l', rfl⟩ : ∃ v l', l = v :: l' := by
    cases l with
    | nil => simp at hl
    | cons v l' => exact ⟨v, l', rfl⟩
   rcases List.mem_cons.1 ho with rfl | ho
   ·exact ⟨q, List.mem_cons_self .., rfl, rfl, .inr ⟨h, hv v (List.mem_cons_self ..)⟩⟩
   ·obtain ⟨p, hp, e⟩ := fill_mem r l' (by simpa using hl) (fun x hx => hv x (List.mem_cons_of_mem _ hx)) o ho
    exact ⟨p, List.mem_cons_of_mem _ hp, e⟩
  ·rw [if_neg h] at ho
   rw [List.filter_cons, if_neg h] at hl
   rcases List.mem_cons.1 ho with rfl | ho
   ·exact ⟨o, List.mem_cons_self .., rfl, rfl, .inl ⟨rfl, by simpa using h⟩⟩
   ·obtain ⟨p, hp, e⟩ := fill_mem r l hl hv o ho
    exact ⟨p, List.mem_cons_of_mem _ hp, e⟩
theorem fill_keys : ∀ (L : List OpM) (l : List ValM), (fillG L l).1.map (·.2.1) = L.map (·.2.1)
 | [], _ => rfl
 | o :: r, l => by
  unfold fillG
  split
  ·rw [List.map_cons, fill_keys r, List.map_cons]
  ·rw [List.map_cons, fill_keys r, List.map_cons]
theorem make_ses : ∀ (L : List TxnM) (c : List Bool) (l : List ValM), (makeG L c l).map (·.1) = L.map (·.1)
 | [], _, _ => rfl
 | t :: r, c, l => by rw [makeG, List.map_cons, make_ses r, List.map_cons]
theorem make_keys : ∀ (L : List TxnM) (c : List Bool) (l : List ValM), ((makeG L c l).flatMap (·.2.2)).map (·.2.1) = (L.flatMap (·.2.2)).map (·.2.1)
 | [], _, _ => rfl
 | t :: r, c, l => by rw [makeG, List.flatMap_cons, List.map_append, make_keys r, List.flatMap_cons, List.map_append, fill_keys]
theorem make_txn : ∀ (L : List TxnM) (c : List Bool) (l : List ValM), ∀ u ∈ makeG L c l, ∃ t ∈ L, u.1 = t.1 ∧ (u.2.1 = 1 ∨ u.2.1 = 2) ∧ u.2.2.length = t.2.2.length
 | [], _, _, u, hu => by cases hu
 | t :: r, c, l, u, hu => by
  rw [makeG, List.mem_cons] at hu
  rcases hu with rfl | hu
  ·refine ⟨t, List.mem_cons_self .., rfl, ?_, fill_len _ _⟩
   show (if c.headD false then (1 : Int) else 2) = 1 ∨ _ = 2
   split
   ·exact .inl rfl
   ·exact .inr rfl
  ·obtain ⟨x, hx, e⟩ := make_txn r _ _ u hu
   exact ⟨x, List.mem_cons_of_mem _ hx, e⟩
theorem make_op : ∀ (L : List TxnM) (c : List Bool) (l : List ValM), ((L.flatMap (·.2.2)).filter lostO).length ≤ l.length → (∀ v ∈ l, okVal v = true) →
  ∀ o ∈ (makeG L c l).flatMap (·.2.2), ∃ p ∈ L.flatMap (·.2.2), o.1 = p.1 ∧ o.2.1 = p.2.1 ∧ (o = p ∧ lostO p = false ∨ lostO p = true ∧ okVal o.2.2 = true)
 | [], _, _, _, _, o, ho => by cases ho
 | t :: r, c, l, hl, hv, o, ho => by
  rw [List.flatMap_cons, List.filter_append, List.length_append] at hl
  rw [makeG, List.flatMap_cons, List.mem_append] at ho
  rw [List.flatMap_cons]
  rcases ho with ho | ho
  ·obtain ⟨p, hp, e⟩ := fill_mem t.2.2 l (by omega) hv o ho
   exact ⟨p, List.mem_append_left _ hp, e⟩
  ·rw [fill_left] at ho
   obtain ⟨p, hp, e⟩ := make_op r _ (l.drop _) (by rw [List.length_drop]; omega) (fun x hx => hv x (List.mem_of_mem_drop hx)) o ho
   exact ⟨p, List.mem_append_right _ hp, e⟩
theorem okVal_may (v : ValM) (h : okVal v = true) : mayV v.1 v.2 = true ∧ v.1 ≠ 2 := by
 unfold okVal at h
 simp only [Bool.or_eq_true, Bool.and_eq_true, beq_iff_eq] at h
 obtain ⟨a, b⟩ := v
 simp only at h ⊢
 rcases h with h | ⟨h1, h2⟩
 ·subst h; exact ⟨rfl, by decide⟩
 ·subst h1 h2; exact ⟨rfl, by decide⟩
structure MayW (h : HistM) (w : WorldM) : Prop where
 m : MayH h
 c : w.1.length = (h.2.2.filter infosP).length
 l : w.2.length = ((allOps h).filter lostO).length
 v : ∀ x ∈ w.2, okVal x = true
theorem mayW_iff (h : HistM) (w : WorldM) : mayW h w = true ↔ MayW h w := by
 unfold mayW
 by_cases hm : mayH h = true
 ·rw [whereL_yes _ hm, lostL_yes hm, infos_len, losts_len, hm]
  simp only [Bool.true_and, Bool.and_eq_true, decide_eq_true_eq, List.all_eq_true]
  exact ⟨fun ⟨a, b, c⟩ => ⟨(mayH_iff h).1 hm, a, b, c⟩, fun ⟨_, a, b, c⟩ => ⟨a, b, c⟩⟩
 ·have hm' : mayH h = false := by simpa using hm
  rw [hm']
  simp only [Bool.false_and]
  exact ⟨fun e => (by cases e), fun ⟨a, _, _, _⟩ => absurd ((mayH_iff h).2 a) hm⟩
theorem make_mayH {h : HistM} {w : WorldM} (hw : MayW h w) : MayH (makeH h w) ∧ noLost (makeH h w) ∧ ∀ t ∈ (makeH h w).2.2, t.2.1 ≠ 3 := by
 have hm := hw.m
 have hops : ∀ o ∈ allOps (makeH h w), ∃ p ∈ allOps h, o.1 = p.1 ∧ o.2.1 = p.2.1 ∧ (o = p ∧ lostO p = false ∨ lostO p = true ∧ okVal o.2.2 = true) := fun o ho => make_op h.2.2 _ w.2 (by rw [hw.l]; exact Nat.le_refl _) hw.v o ho
 refine ⟨⟨hm.t0, hm.t1, hm.n0, hm.n1, ?_, fun t ht => ?_, fun o ho => ?_, ?_, ?_⟩, fun o ho => ?_, fun t ht => ?_⟩
 ·show (makeG h.2.2 _ _).length ≤ 40
  rw [make_len]
  exact hm.n2
 ·obtain ⟨u, hu, e1, e2, e3⟩ := make_txn h.2.2 _ _ t ht
  have h1 := hm.txn u hu
  show okTxn h.1.length t = true
  unfold okTxn inside at h1 ⊢
  simp only [Bool.and_eq_true, decide_eq_true_eq] at h1 ⊢
  rw [e1, e3]
  rcases e2 with e2 | e2 <;> rw [e2] <;> exact ⟨h1.1, by decide, by decide, h1.2.2.2⟩
 ·obtain ⟨p, hp, e1, e2, e3⟩ := hops o ho
  have h1 := hm.op p hp
  rcases e3 with ⟨rfl, -⟩ | ⟨hl, hv⟩
  ·exact h1
  ·obtain ⟨hv1, hv2⟩ := okVal_may _ hv
   show okOp h.2.1.length o = true
   unfold okOp at h1 ⊢
   simp only [Bool.and_eq_true] at h1 ⊢
   rw [e1, e2]
   refine ⟨h1.1, hv1, ?_⟩
   have h3 := h1.2.2
   unfold lostO at hl
   have : p.2.2.1 = 2 := by simpa using hl
   rw [this] at h3
   have hp1 : p.1 = false := by
    cases hb : p.1 with
    | false => rfl
    | true => rw [hb] at h3; exact absurd h3 (by decide)
   rw [hp1]
   rfl
 ·show allUsed h.1.length ((makeG h.2.2 _ _).map (·.1)) = true
  rw [make_ses]
  exact hm.u0
 ·show allUsed h.2.1.length (((makeG h.2.2 _ _).flatMap (·.2.2)).map (·.2.1)) = true
  rw [make_keys]
  exact hm.u1
 ·obtain ⟨p, hp, e1, e2, e3⟩ := hops o ho
  rcases e3 with ⟨rfl, hl⟩ | ⟨-, hv⟩
  ·exact hl
  ·unfold lostO
   have := (okVal_may _ hv).2
   simpa using this
 ·obtain ⟨u, hu, e1, e2, e3⟩ := make_txn h.2.2 _ _ t ht
  rcases e2 with e2 | e2 <;> rw [e2] <;> decide
theorem whole_of {g : HistM} (hm : MayH g) (hn : noLost g) (hi : ∀ t ∈ g.2.2, t.2.1 ≠ 3) : wholeP g = true := by
 have hm' := (mayH_iff g).2 hm
 unfold wholeP
 rw [whereL_yes _ hm', lostL_yes hm', hm', infos_len, noLost_lost hn]
 have e : g.2.2.filter infosP = [] := by
  rw [List.filter_eq_nil_iff]
  intro t ht
  unfold infosP
  have := hi t ht
  simpa using this
 rw [e]
 rfl
theorem make_whole {h : HistM} {w : WorldM} (hw : mayW h w = true) : wholeP (makeH h w) = true := by
 obtain ⟨a, b, c⟩ := make_mayH ((mayW_iff h w).1 hw)
 exact whole_of a b c
theorem whole_parts {g : HistM} (hw : wholeP g = true) : MayH g ∧ noLost g ∧ ∀ t ∈ g.2.2, t.2.1 ≠ 3 := by
 unfold wholeP at hw
 simp only [Bool.and_eq_true, decide_eq_true_eq] at hw
 obtain ⟨hm, h1, h2⟩ := hw
 rw [whereL_yes _ hm, infos_len] at h1
 rw [lostL_yes hm, losts_len] at h2
 refine ⟨(mayH_iff g).1 hm, fun o ho => ?_, fun t ht => ?_⟩
 ·have h3 := List.filter_eq_nil_iff.1 (List.eq_nil_of_length_eq_zero h2) o ho
  simpa using h3
 ·have h3 := List.filter_eq_nil_iff.1 (List.eq_nil_of_length_eq_zero h1) t ht
  unfold infosP at h3
  simpa using h3
theorem vals_fill : ∀ (L : List OpM) (l : List ValM), (L.filter lostO).length ≤ l.length → valsO L (fillG L l).1 = l.take (L.filter lostO).length
 | [], l, _ => by simp [valsO]
 | o :: r, l, hl => by
  unfold fillG
  by_cases h : lostO o = true
  ·rw [if_pos h]
   rw [List.filter_cons, if_pos h, List.length_cons] at hl ⊢
   obtain ⟨v, l', rfl⟩ : ∃ v l', l = v :: l' := by
    cases l with
    | nil => simp at hl
    | cons v l' => exact ⟨v, l', rfl⟩
   rw [valsO, if_pos h, List.take_succ_cons]
   congr 1
   exact vals_fill r l' (by simpa using hl)
  ·rw [if_neg h]
   rw [List.filter_cons, if_neg h] at hl ⊢
   rw [valsO, if_neg h]
   exact vals_fill r l hl
theorem vals_make : ∀ (L : List TxnM) (c : List Bool) (l : List ValM), ((L.flatMap (·.2.2)).filter lostO).length ≤ l.length → valsG L (makeG L c l) = l.take ((L.flatMap (·.2.2)).filter lostO).length
 | [], _, l, _ => by simp [valsG]
 | t :: r, c, l, hl => by
  rw [List.flatMap_cons, List.filter_append, List.length_append] at hl ⊢
  rw [makeG, valsG, vals_fill t.2.2 l (by omega), fill_left, vals_make r _ _ (by rw [List.length_drop]; omega), List.take_add]
theorem fates_make : ∀ (L : List TxnM) (c : List Bool) (l : List ValM), (L.filter infosP).length = c.length → fatesG L (makeG L (commitsG L c) l) = c
 | [], c, _, h => by
  have : c = [] := List.eq_nil_of_length_eq_zero h.symm
  subst this
  rfl
 | t :: r, c, l, h => by
  rw [makeG, fatesG]
  by_cases h3 : t.2.1 = 3
  ·have hi : infosP t = true := by unfold infosP; simp [h3]
   rw [List.filter_cons, if_pos hi, List.length_cons] at h
   obtain ⟨b, c', rfl⟩ : ∃ b c', c = b :: c' := by
    cases c with
    | nil => simp at h
    | cons b c' => exact ⟨b, c', rfl⟩
   have e : commitsG (t :: r) (b :: c') = b :: commitsG r c' := by
    rw [commitsG, if_neg (by rw [h3]; decide), if_pos h3]
    rfl
   rw [e, if_pos h3]
   show ((if b then (1 : Int) else 2) == 1) :: fatesG r (makeG r (commitsG r c') _) = _
   rw [fates_make r c' _ (by simpa using h)]
   cases b <;> rfl
  ·have hi : ¬ infosP t = true := by unfold infosP; simp [h3]
   rw [List.filter_cons, if_neg hi] at h
   rw [if_neg h3]
   have e : (commitsG (t :: r) c).tail = commitsG r c := by
    rw [commitsG]
    split
    ·rfl
    ·rfl
   rw [e]
   exact fates_make r c _ h
theorem world_make {h : HistM} {w : WorldM} (hw : mayW h w = true) : worldP h (makeH h w) = (w, true) := by
 have hW := (mayW_iff h w).1 hw
 have e : worldG h (makeH h w) = w := by
  unfold worldG makeH
  refine Prod.ext ?_ ?_
  ·exact fates_make h.2.2 w.1 w.2 hW.c.symm
  ·have := vals_make h.2.2 (commitsG h.2.2 w.1) w.2 (by rw [hW.l]; exact Nat.le_refl _)
   rw [← show allOps h = h.2.2.flatMap (·.2.2) from rfl, ← hW.l, List.take_length] at this
   exact this
 unfold worldP
 rw [e, if_pos ⟨(mayH_iff h).2 hW.m, make_whole hw, hw, rfl⟩]
theorem fill_none : ∀ (L : List OpM), (∀ o ∈ L, lostO o = false) → ∀ l, (fillG L l).1 = L
 | [], _, _ => rfl
 | o :: r, h, l => by
  unfold fillG
  rw [if_neg (by rw [h o (List.mem_cons_self ..)]; decide)]
  show o :: (fillG r l).1 = _
  rw [fill_none r (fun x hx => h x (List.mem_cons_of_mem _ hx)) l]
theorem make_none : ∀ (L : List TxnM), (∀ t ∈ L, (t.2.1 = 1 ∨ t.2.1 = 2) ∧ ∀ o ∈ t.2.2, lostO o = false) → ∀ c l, makeG L (commitsG L c) l = L
 | [], _, _, _ => rfl
 | t :: r, h, c, l => by
  obtain ⟨h1, h2⟩ := h t (List.mem_cons_self ..)
  have e : commitsG (t :: r) c = decide (t.2.1 = 1) :: commitsG r c := by
   rw [commitsG]
   rcases h1 with e | e
   ·rw [if_pos e, decide_eq_true e]
   ·rw [if_neg (by rw [e]; decide), if_neg (by rw [e]; decide), decide_eq_false (by rw [e]; decide)]
  rw [makeG, e]
  show (t.1, (if decide (t.2.1 = 1) = true then (1 : Int) else 2), (fillG t.2.2 l).1) :: makeG r (commitsG r c) _ = _
  rw [make_none r (fun x hx => h x (List.mem_cons_of_mem _ hx)), fill_none _ h2]
  obtain ⟨s, f, q⟩ := t
  simp only at h1 ⊢
  rcases h1 with e | e <;> rw [e] <;> rfl
theorem make_empty {g : HistM} (hw : wholeP g = true) : mayW g ([], []) = true ∧ makeH g ([], []) = g := by
 obtain ⟨hm, hn, hi⟩ := whole_parts hw
 refine ⟨(mayW_iff _ _).2 ⟨hm, ?_, ?_, fun x hx => (by cases hx)⟩, ?_⟩
 ·have e : g.2.2.filter infosP = [] := by
   rw [List.filter_eq_nil_iff]
   intro t ht
   unfold infosP
   have := hi t ht
   simpa using this
  rw [e]
  rfl
 ·have e : (allOps g).filter lostO = [] := by
   rw [List.filter_eq_nil_iff]
   intro o ho
   rw [hn o ho]
   decide
  rw [e]
  rfl
 ·have e := make_none g.2.2 (fun t ht => ⟨by
   have h1 := hm.txn t ht
   unfold okTxn at h1
   simp only [Bool.and_eq_true, decide_eq_true_eq] at h1
   have h2 := hi t ht
   omega, fun o ho => hn o (List.mem_flatMap.2 ⟨t, ht, ho⟩)⟩) [] []
  unfold makeH
  rw [e]
end Go.Proofs.YtmgchjddpmmglaaGreatDoor
