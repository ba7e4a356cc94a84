/-
  Layer 10 (pair) in plain words: what events make, transaction by transaction; the history of events, the open sessions; no program in sight. No conditions.
  Layer 12 (show) in plain words: a history's events, its text, the history of a text; that reading undoes printing; no program in sight. No conditions.
  The walks of layer 7 (event): the kind of a first word, whether events of a kind are long; the reference's list of words. Condition: event.words holds what its initialiser lays.
-/
import Derived.Test.YtmgchjddpmmglaaGreatDoorRWc
namespace Go.Proofs.YtmgchjddpmmglaaGreatDoor
section
open Go.RowKit Go.Lib
structure DraftM where
 nm : List UInt8
 ks : List (List UInt8)
 ln : Int
 fate : Int
 ops : List OpM
 op : Bool
deriving DecidableEq
def noD : DraftM := ⟨[], [], 0, 0, [], false⟩
def namesD (L : List DraftM) : List (List UInt8) := L.map (·.nm)
def keysD (L : List DraftM) : List (List UInt8) := L.flatMap (·.ks)
def isAt (s : List UInt8) (d : DraftM) : Bool := d.op && decide (d.nm = s)
def atD (L : List DraftM) (s : List UInt8) : Nat := L.findIdx (isAt s)
def endD (d : DraftM) (f : Int) : DraftM := { d with fate := f, op := false }
def moreD (d : DraftM) (x : EventM) : DraftM := { d with ops := d.ops ++ [(x.1 == 3, 0, x.2.2.2.1, x.2.2.2.2.1)], ks := d.ks ++ [x.2.2.1] }
def putP (L : List DraftM) (x : EventM) : List DraftM × Int :=
 if mayE x = false then (L, 4)
 else if x.1 = 1 then
  if atD L x.2.1 < L.length then (L, 9)
  else if 20 < (sortedN (namesD L ++ [x.2.1])).length ∨ L.length = 40 then (L, 7)
  else (L ++ [⟨x.2.1, [], x.2.2.2.2.2, 0, [], true⟩], 0)
 else if ¬ atD L x.2.1 < L.length then (L, 10)
 else if 4 ≤ x.1 then (L.set (atD L x.2.1) (endD (L.getD (atD L x.2.1) noD) (x.1 - 3)), 0)
 else if (L.getD (atD L x.2.1) noD).ops.length = 20 ∨ 40 < (sortedN (keysD L ++ [x.2.2.1])).length then (L, 7)
 else (L.set (atD L x.2.1) (moreD (L.getD (atD L x.2.1) noD) x), 0)
def madeP : List EventM → List DraftM → List DraftM × Int × Int
 | [], L => (L, 0, 0)
 | x :: r, L => if (putP L x).2 = 0 then madeP r (putP L x).1 else ((putP L x).1, x.2.2.2.2.2, (putP L x).2)
def opK (K : List (List UInt8)) (o : OpM) (k : List UInt8) : OpM := (o.1, ((findT K k).1 : Int), o.2.2.1, o.2.2.2)
def txnD (S K : List (List UInt8)) (d : DraftM) : TxnM := (((findT S d.nm).1 : Int), d.fate, d.ops.zipWith (opK K) d.ks)
def noH : HistM := ([], [], [])
def histP (l : List EventM) : HistM × Int × Int :=
 if (madeP l []).2.2 ≠ 0 then (noH, (madeP l []).2.1, (madeP l []).2.2)
 else match (madeP l []).1.find? (·.op) with
  | some d => (noH, d.ln, 12)
  | none => ((sortedN (namesD (madeP l []).1), sortedN (keysD (madeP l []).1), (madeP l []).1.map (txnD (sortedN (namesD (madeP l []).1)) (sortedN (keysD (madeP l []).1)))), 0, 0)
structure GoodD (d : DraftM) : Prop where
 nm : nameL d.nm = true
 ks : ∀ k ∈ d.ks, nameL k = true
 len : d.ks.length = d.ops.length
 few : d.ops.length ≤ 20
 fate : 0 ≤ d.fate ∧ d.fate ≤ 3
structure GoodL (L : List DraftM) : Prop where
 all : ∀ d ∈ L, GoodD d
 few : L.length ≤ 40
 names : (sortedN (namesD L)).length ≤ 20
 keys : (sortedN (keysD L)).length ≤ 40
 one : ∀ i j : Nat, i < j → j < L.length → (L.getD i noD).op = true → (L.getD j noD).op = true → (L.getD i noD).nm ≠ (L.getD j noD).nm
theorem good_nil : GoodL [] := ⟨fun d h => (by cases h), by decide, by decide, by decide, fun i j h h2 => absurd h2 (Nat.not_lt_zero j)⟩
theorem atD_spec (L : List DraftM) (s : List UInt8) (h : atD L s < L.length) : (L.getD (atD L s) noD).op = true ∧ (L.getD (atD L s) noD).nm = s := by
 have h1 : isAt s L[atD L s] = true := List.findIdx_getElem (p := isAt s) (w := h)
 have e : L.getD (atD L s) noD = L[atD L s] := by simp [h]
 rw [e]
 generalize L[atD L s] = d at h1
 unfold isAt at h1
 simpa using h1
theorem atD_before (L : List DraftM) (s : List UInt8) (j : Nat) (h : j < atD L s) : isAt s (L.getD j noD) = false := by
 have hj : j < L.length := Nat.lt_of_lt_of_le h List.findIdx_le_length
 have h1 := List.not_of_lt_findIdx (p := isAt s) (xs := L) h
 have e : L.getD j noD = L[j] := by simp [hj]
 rw [e]
 simpa using h1
theorem atD_none (L : List DraftM) (s : List UInt8) (h : ¬ atD L s < L.length) (j : Nat) (hj : j < L.length) : isAt s (L.getD j noD) = false :=
 atD_before L s j (by omega)
theorem sortedN_same (A B : List (List UInt8)) (h : ∀ y, y ∈ A ↔ y ∈ B) : sortedN A = sortedN B := by
 obtain ⟨a1, a2⟩ := sortedN_spec A
 obtain ⟨b1, b2⟩ := sortedN_spec B
 exact strict_unique ltN ltN_irrefl ltN_trans _ _ a1 b1 (fun y => by rw [a2, b2, h])
theorem names_snoc (L : List DraftM) (d : DraftM) : namesD (L ++ [d]) = namesD L ++ [d.nm] := by simp [namesD]
theorem keys_snoc (L : List DraftM) (d : DraftM) : keysD (L ++ [d]) = keysD L ++ d.ks := by simp [keysD]
theorem names_set (L : List DraftM) (i : Nat) (d : DraftM) (hi : i < L.length) (h : d.nm = (L.getD i noD).nm) : namesD (L.set i d) = namesD L := by
 unfold namesD
 apply List.ext_getElem
 ·simp
 ·intro j h1 h2
  simp only [List.length_map] at h2
  rw [List.getElem_map, List.getElem_map, List.getElem_set]
  by_cases e : i = j
  ·subst e; rw [if_pos rfl, h]; simp [hi]
  ·rw [if_neg e]
theorem keys_mem (L : List DraftM) (y : List UInt8) : y ∈ keysD L ↔ ∃ j, j < L.length ∧ y ∈ (L.getD j noD).ks := by
 unfold keysD
 rw [List.mem_flatMap]
 constructor
 ·rintro ⟨d, hd, hy⟩
  obtain ⟨j, hj, rfl⟩ := List.getElem_of_mem hd
  exact ⟨j, hj, by simpa [hj] using hy⟩
 ·rintro ⟨j, hj, hy⟩
  exact ⟨L[j], List.getElem_mem hj, by simpa [hj] using hy⟩
theorem getD_setD (L : List DraftM) (i j : Nat) (d : DraftM) (hi : i < L.length) : (L.set i d).getD j noD = if i = j then d else L.getD j noD := by
 by_cases e : i = j
 ·subst e; simp [hi]
 ·rw [if_neg e]; simp [List.getElem?_set_ne e]
theorem keys_set (L : List DraftM) (i : Nat) (d : DraftM) (hi : i < L.length) (h : d.ks = (L.getD i noD).ks) : keysD (L.set i d) = keysD L := by
 unfold keysD
 rw [List.flatMap_def, List.flatMap_def]
 congr 1
 apply List.ext_getElem
 ·simp
 ·intro j h1 h2
  simp only [List.length_map] at h2
  rw [List.getElem_map, List.getElem_map, List.getElem_set]
  by_cases e : i = j
  ·subst e; rw [if_pos rfl, h]; simp [hi]
  ·rw [if_neg e]
theorem keys_more_mem (L : List DraftM) (i : Nat) (x : EventM) (hi : i < L.length) (y : List UInt8) : y ∈ keysD (L.set i (moreD (L.getD i noD) x)) ↔ y ∈ keysD L ++ [x.2.2.1] := by
 rw [List.mem_append, keys_mem, keys_mem, List.length_set]
 constructor
 ·rintro ⟨j, hj, hy⟩
  rw [getD_setD L i j _ hi] at hy
  by_cases e : i = j
  ·rw [if_pos e] at hy
   rcases List.mem_append.1 (show y ∈ (L.getD i noD).ks ++ [x.2.2.1] from hy) with h | h
   ·exact .inl ⟨i, hi, h⟩
   ·exact .inr h
  ·rw [if_neg e] at hy
   exact .inl ⟨j, hj, hy⟩
 ·rintro (⟨j, hj, hy⟩ | hy)
  ·refine ⟨j, hj, ?_⟩
   rw [getD_setD L i j _ hi]
   by_cases e : i = j
   ·subst e; rw [if_pos rfl]; exact List.mem_append.2 (.inl hy)
   ·rw [if_neg e]; exact hy
  ·refine ⟨i, hi, ?_⟩
   rw [getD_setD L i i _ hi, if_pos rfl]
   exact List.mem_append.2 (.inr hy)
theorem keys_more (L : List DraftM) (i : Nat) (x : EventM) (hi : i < L.length) : sortedN (keysD (L.set i (moreD (L.getD i noD) x))) = sortedN (keysD L ++ [x.2.2.1]) := sortedN_same _ _ (keys_more_mem L i x hi)
theorem mayE_nm (x : EventM) (h : mayE x = true) : nameL x.2.1 = true ∧ 1 ≤ x.1 ∧ x.1 ≤ 6 ∧ (x.1 = 2 ∨ x.1 = 3 → nameL x.2.2.1 = true) := by
 unfold mayE at h
 simp only [Bool.and_eq_true, decide_eq_true_eq] at h
 refine ⟨h.2.2.1, h.1, h.2.1, fun hk => ?_⟩
 have h4 := h.2.2.2
 have e : longK x.1 = true := by rcases hk with e | e <;> rw [e] <;> decide
 rw [if_pos e] at h4
 simp only [Bool.and_eq_true] at h4
 exact h4.1
theorem getD_memD (L : List DraftM) (i : Nat) (hi : i < L.length) : L.getD i noD ∈ L := by
 rw [show L.getD i noD = L[i] by simp [hi]]; exact List.getElem_mem hi
theorem good_set {L : List DraftM} (hL : GoodL L) (i : Nat) (d : DraftM) (hi : i < L.length) (hd : GoodD d) (hn : d.nm = (L.getD i noD).nm) (ho : d.op = true → (L.getD i noD).op = true) (hk : (sortedN (keysD (L.set i d))).length ≤ 40) : GoodL (L.set i d) := by
 refine ⟨fun e he => ?_, by rw [List.length_set]; exact hL.few, by rw [names_set L i d hi hn]; exact hL.names, hk, fun a b hab hb h1 h2 => ?_⟩
 ·rcases List.mem_or_eq_of_mem_set he with h | h
  ·exact hL.all e h
  ·rw [h]; exact hd
 ·rw [List.length_set] at hb
  rw [getD_setD L i a d hi] at h1 ⊢
  rw [getD_setD L i b d hi] at h2 ⊢
  have h3 : (if i = a then d else L.getD a noD).nm = (L.getD a noD).nm := by
   by_cases e : i = a
   ·subst e; rw [if_pos rfl, hn]
   ·rw [if_neg e]
  have h4 : (if i = b then d else L.getD b noD).nm = (L.getD b noD).nm := by
   by_cases e : i = b
   ·subst e; rw [if_pos rfl, hn]
   ·rw [if_neg e]
  rw [h3, h4]
  refine hL.one a b hab hb ?_ ?_
  ·by_cases e : i = a
   ·subst e; rw [if_pos rfl] at h1; exact ho h1
   ·rw [if_neg e] at h1; exact h1
  ·by_cases e : i = b
   ·subst e; rw [if_pos rfl] at h2; exact ho h2
   ·rw [if_neg e] at h2; exact h2
theorem put_good {L : List DraftM} (hL : GoodL L) (x : EventM) : GoodL (putP L x).1 := by
 unfold putP
 by_cases hm : mayE x = false
 ·rw [if_pos hm]; exact hL
 ·rw [if_neg hm]
  have hm' : mayE x = true := by simpa using hm
  obtain ⟨h1, h2, h3, h4⟩ := mayE_nm x hm'
  by_cases hk : x.1 = 1
  ·rw [if_pos hk]
   by_cases ha : atD L x.2.1 < L.length
   ·rw [if_pos ha]; exact hL
   ·rw [if_neg ha]
    by_cases hf : 20 < (sortedN (namesD L ++ [x.2.1])).length ∨ L.length = 40
    ·rw [if_pos hf]; exact hL
    ·rw [if_neg hf]
     have hl := hL.few
     refine ⟨fun d hd => ?_, by rw [List.length_append]; simp; omega, by rw [names_snoc]; simp only; omega, by rw [keys_snoc, List.append_nil]; exact hL.keys, fun i j hij hj g1 g2 => ?_⟩
     ·rcases List.mem_append.1 hd with h | h
      ·exact hL.all d h
      ·rw [List.mem_singleton] at h
       subst h
       exact ⟨h1, fun k hk => (by cases hk), rfl, Nat.zero_le _, Int.le_refl _, by simp only; omega⟩
     ·have hj' : j < L.length ∨ j = L.length := by simp at hj; omega
      have hi : i < L.length := by omega
      have e1 : ∀ d : DraftM, (L ++ [d]).getD i noD = L.getD i noD := fun d => by simp [List.getElem?_append_left hi]
      rw [e1] at g1 ⊢
      rcases hj' with hj' | rfl
      ·have e2 : ∀ d : DraftM, (L ++ [d]).getD j noD = L.getD j noD := fun d => by simp [List.getElem?_append_left hj']
       rw [e2] at g2 ⊢
       exact hL.one i j hij hj' g1 g2
      ·have e2 : ∀ d : DraftM, (L ++ [d]).getD L.length noD = d := fun d => by simp
       rw [e2]
       have h5 := atD_none L x.2.1 ha i hi
       intro e
       unfold isAt at h5
       rw [g1] at h5
       simp only [Bool.true_and, decide_eq_false_iff_not] at h5
       exact h5 e
  ·rw [if_neg hk]
   by_cases ha : atD L x.2.1 < L.length
   ·rw [if_neg (by simpa using ha)]
    obtain ⟨o1, o2⟩ := atD_spec L x.2.1 ha
    have hg := hL.all _ (getD_memD L _ ha)
    by_cases hf : 4 ≤ x.1
    ·rw [if_pos hf]
     refine good_set hL _ _ ha ⟨hg.nm, hg.ks, hg.len, hg.few, ?_, ?_⟩ rfl (fun h => (by cases h)) ?_
     ·show 0 ≤ x.1 - 3; omega
     ·show x.1 - 3 ≤ 3; omega
     ·rw [keys_set L _ (endD (L.getD (atD L x.2.1) noD) (x.1 - 3)) ha rfl]; exact hL.keys
    ·rw [if_neg hf]
     by_cases hc : (L.getD (atD L x.2.1) noD).ops.length = 20 ∨ 40 < (sortedN (keysD L ++ [x.2.2.1])).length
     ·rw [if_pos hc]; exact hL
     ·rw [if_neg hc]
      have hkey : nameL x.2.2.1 = true := h4 (by omega)
      refine good_set hL _ _ ha ⟨hg.nm, fun k h => ?_, ?_, ?_, hg.fate⟩ rfl (fun _ => o1) ?_
      ·rcases List.mem_append.1 (show k ∈ (L.getD (atD L x.2.1) noD).ks ++ [x.2.2.1] from h) with h | h
       ·exact hg.ks k h
       ·rw [List.mem_singleton] at h; rw [h]; exact hkey
      ·show ((L.getD (atD L x.2.1) noD).ks ++ [x.2.2.1]).length = ((L.getD (atD L x.2.1) noD).ops ++ [_]).length
       rw [List.length_append, List.length_append, hg.len]; rfl
      ·show ((L.getD (atD L x.2.1) noD).ops ++ [_]).length ≤ 20
       have := hg.few
       rw [List.length_append, List.length_singleton]; omega
      ·rw [keys_more L _ x ha]; omega
   ·rw [if_pos (by simpa using ha)]; exact hL
theorem made_good : ∀ (l : List EventM) (L : List DraftM), GoodL L → GoodL (madeP l L).1
 | [], _, h => h
 | x :: r, L, h => by
  unfold madeP
  by_cases e : (putP L x).2 = 0
  ·rw [if_pos e]; exact made_good r _ (put_good h x)
  ·rw [if_neg e]; exact put_good h x
theorem nodup_le {α : Type} [DecidableEq α] : ∀ (A B : List α), A.Nodup → (∀ x ∈ A, x ∈ B) → A.length ≤ B.length
 | [], _, _, _ => Nat.zero_le _
 | a :: A, B, hn, h => by
  rw [List.nodup_cons] at hn
  have hb := h a (List.mem_cons_self ..)
  have h1 := nodup_le A (B.erase a) hn.2 (fun x hx => (List.mem_erase_of_ne (fun e => hn.1 (by rw [← e]; exact hx))).2 (h x (List.mem_cons_of_mem _ hx)))
  rw [List.length_erase_of_mem hb] at h1
  have := List.length_pos_of_mem hb
  rw [List.length_cons]
  omega
theorem sorted_nodup (M : List (List UInt8)) : (sortedN M).Nodup := (sortedN_spec M).1.imp (fun h e => by subst e; rw [ltN_irrefl] at h; cases h)
theorem sorted_count (ks M : List (List UInt8)) (hd : ks.Nodup) (hm : ∀ x, x ∈ ks ↔ x ∈ M) (hn : ∀ x ∈ M, nameL x = true) : (sortedN M).length = ks.length := by
 have h2 := (sortedN_spec M).2
 refine Nat.le_antisymm (nodup_le _ _ (sorted_nodup M) (fun x hx => (hm x).2 ((h2 x).1 hx).1)) (nodup_le _ _ hd (fun x hx => (h2 x).2 ⟨(hm x).1 hx, hn x ((hm x).1 hx)⟩))
theorem names_good {L : List DraftM} (hL : GoodL L) : ∀ x ∈ namesD L, nameL x = true := fun x hx => by
 obtain ⟨d, hd, rfl⟩ := List.mem_map.1 hx
 exact (hL.all d hd).nm
theorem keys_good {L : List DraftM} (hL : GoodL L) : ∀ x ∈ keysD L, nameL x = true := fun x hx => by
 obtain ⟨d, hd, h⟩ := List.mem_flatMap.1 hx
 exact (hL.all d hd).ks x h
theorem count_more (ks M : List (List UInt8)) (s : List UInt8) (m : Nat) (hd : ks.Nodup) (hm : ∀ x, x ∈ ks ↔ x ∈ M) (hn : ∀ x ∈ M, nameL x = true) (hs : nameL s = true) (hle : (sortedN M).length ≤ m) : (m < (sortedN (M ++ [s])).length ↔ s ∉ ks ∧ ks.length = m) ∧ ks.length ≤ m := by
 have h1 := sorted_count ks M hd hm hn
 by_cases h : s ∈ ks
 ·have h2 := sorted_count ks (M ++ [s]) hd (fun x => by
   rw [List.mem_append, List.mem_singleton, hm]
   exact ⟨.inl, fun g => g.elim id (fun e => by rw [e]; exact (hm s).1 h)⟩) (fun x hx => (List.mem_append.1 hx).elim (hn x) (fun g => by rw [List.mem_singleton.1 g]; exact hs))
  rw [h2]
  exact ⟨⟨fun g => by omega, fun g => absurd h g.1⟩, by omega⟩
 ·have h2 := sorted_count (ks ++ [s]) (M ++ [s]) (List.nodup_append.2 ⟨hd, by simp, fun a ha b hb e => by rw [List.mem_singleton] at hb; subst hb; subst e; exact h ha⟩) (fun x => by rw [List.mem_append, List.mem_append, hm]) (fun x hx => (List.mem_append.1 hx).elim (hn x) (fun g => by rw [List.mem_singleton.1 g]; exact hs))
  rw [h2, List.length_append, List.length_singleton]
  exact ⟨⟨fun g => ⟨h, by omega⟩, fun g => by omega⟩, by omega⟩
end
section
open Go.RowKit Go.Lib
def parseP (l : List UInt8) : HistM × Int × Int := if (readL l).2.2 ≠ 0 then (noH, (readL l).2.1, (readL l).2.2) else histP (readL l).1
theorem logGo_may : ∀ (r : List (List UInt8)) (i : Nat) (out : List EventM), out.length ≤ 1000 → (∀ x ∈ out, mayE x = true) → (logGo r i out).1.length ≤ 1000 ∧ ∀ x ∈ (logGo r i out).1, mayE x = true
 | [], _, out, hl, h => ⟨hl, h⟩
 | t :: r, i, out, hl, h => by
  unfold logGo
  split
  ·exact ⟨Nat.zero_le _, fun x hx => (by cases hx)⟩
  ·split
   ·exact logGo_may r (i + 1) out hl h
   ·rename_i h2
    split
    ·exact ⟨Nat.zero_le _, fun x hx => (by cases hx)⟩
    ·refine logGo_may r (i + 1) _ (by rw [List.length_append, List.length_singleton]; omega) (fun x hx => ?_)
     rcases List.mem_append.1 hx with g | g
     ·exact h x g
     ·rw [List.mem_singleton.1 g]
      exact (parse_may t (by simpa using h2)).2
theorem read_good (l : List UInt8) : (readL l).1.length ≤ 1000 ∧ ∀ x ∈ (readL l).1, mayE x = true := by
 unfold readL
 split
 ·exact ⟨Nat.zero_le _, fun x hx => (by cases hx)⟩
 ·exact logGo_may _ _ _ (Nat.zero_le _) (fun x hx => (by cases hx))
theorem name_short (l : List UInt8) (h : nameL l = true) : l.length ≤ 1000000 := by
 have hv := textU_runes _ l (Nat.le_refl _) (name_valid l h)
 unfold nameL word at h
 simp only [Bool.and_eq_true, decide_eq_true_eq] at h
 have := textU_len (runesU l)
 rw [hv] at this
 omega
theorem may_short (x : EventM) (h : mayE x = true) : x.2.1.length ≤ 1000000 ∧ x.2.2.1.length ≤ 1000000 := by
 have h0 := mayE_nm x h
 refine ⟨name_short _ h0.1, ?_⟩
 by_cases hk : x.1 = 2 ∨ x.1 = 3
 ·exact name_short _ (h0.2.2.2 hk)
 ·unfold mayE at h
  simp only [Bool.and_eq_true] at h
  have e : longK x.1 = false := by
   unfold longK
   simp only [not_or] at hk
   simp [hk.1, hk.2]
  rw [e] at h
  have h4 := h.2.2.2
  simp at h4
  rw [h4.1]
  exact Nat.zero_le _
theorem read_short (l : List UInt8) : ∀ x ∈ (readL l).1, x.2.1.length ≤ 1000000 ∧ x.2.2.1.length ≤ 1000000 := fun x hx => may_short x ((read_good l).2 x hx)
theorem parse12_err {l : List UInt8} {L : List EventM} {n e : Int} (h : readL l = (L, n, e)) (he : e ≠ 0) : parseP l = (noH, n, e) := by
 unfold parseP
 rw [h]
 exact if_pos he
theorem parse12_ok {l : List UInt8} {L : List EventM} {n : Int} (h : readL l = (L, n, 0)) : parseP l = histP L := by
 unfold parseP
 rw [h]
 exact if_neg (by simp)
theorem MayH.ses {h : HistM} (hm : MayH h) {t : TxnM} (ht : t ∈ h.2.2) : 0 ≤ t.1 ∧ t.1 < h.1.length ∧ 1 ≤ t.2.1 ∧ t.2.1 ≤ 3 ∧ t.2.2.length ≤ 20 := by
 have h1 := hm.txn t ht
 unfold okTxn inside at h1
 simp only [Bool.and_eq_true, decide_eq_true_eq] at h1
 exact ⟨h1.1.1, h1.1.2, h1.2.1, h1.2.2.1, h1.2.2.2⟩
theorem MayH.opOf {h : HistM} (hm : MayH h) {t : TxnM} (ht : t ∈ h.2.2) {o : OpM} (ho : o ∈ t.2.2) : okOp h.2.1.length o = true := hm.op o (List.mem_flatMap.2 ⟨t, ht, ho⟩)
theorem sh_in (L : List (List UInt8)) (i : Nat) (hi : i < L.length) : L.getD i [] ∈ L := by
 have e : L.getD i [] = L[i] := by simp [hi]
 rw [e]
 exact List.getElem_mem hi
theorem MayH.name {h : HistM} (hm : MayH h) {t : TxnM} (ht : t ∈ h.2.2) : h.1.getD t.1.toNat [] ∈ h.1 ∧ nameL (h.1.getD t.1.toNat []) = true := by
 obtain ⟨a, b, -⟩ := hm.ses ht
 have h1 := sh_in h.1 t.1.toNat (by omega)
 exact ⟨h1, ((isT_names _).1 hm.t0).1 _ h1⟩
theorem MayH.key {h : HistM} (hm : MayH h) {t : TxnM} (ht : t ∈ h.2.2) {o : OpM} (ho : o ∈ t.2.2) : h.2.1.getD o.2.1.toNat [] ∈ h.2.1 ∧ nameL (h.2.1.getD o.2.1.toNat []) = true := by
 obtain ⟨a, b⟩ := okOp_key (hm.opOf ht ho)
 have h1 := sh_in h.2.1 o.2.1.toNat (by omega)
 exact ⟨h1, ((isT_names _).1 hm.t1).1 _ h1⟩
end
section
open Go.RowKit
set_option maxHeartbeats 1000000 in
theorem long_any (k : Int) (w : World) :
  Calls Tryz.prog 156 #[.int .i64 k] w fun e w' => e = .returned (.bool (longK k)) ∧ w = w' := by
 rcases long_cases k with ⟨rfl, h⟩ | ⟨rfl, h⟩ | ⟨h1, h2, h⟩ <;> rw [h] <;> clear h
 all_goals
  go_enter Tryz.func156, Tryz.ntmps156
  go_wp2
  go_ret
  exact ⟨rfl, rfl⟩
theorem kindL_hit (i : Nat) (h0 : 0 < i) (h : i < 7) (l : List UInt8) (e : kindW i = l) : kindL l = i := by
 subst e
 match i, h0, h with
 | 1, _, _ => decide
 | 2, _, _ => decide
 | 3, _, _ => decide
 | 4, _, _ => decide
 | 5, _, _ => decide
 | 6, _, _ => decide
theorem kindL_miss (l : List UInt8) (h : ∀ i : Nat, 0 < i → i < 7 → kindW i ≠ l) : kindL l = 0 := by
 have h1 := h 1 (by decide) (by decide)
 have h2 := h 2 (by decide) (by decide)
 have h3 := h 3 (by decide) (by decide)
 have h4 := h 4 (by decide) (by decide)
 have h5 := h 5 (by decide) (by decide)
 have h6 := h 6 (by decide) (by decide)
 simp only [kindW] at h1 h2 h3 h4 h5 h6
 unfold kindL
 rw [if_neg (fun e => h1 (by rw [e]; rfl)), if_neg (fun e => h2 (by rw [e]; rfl)), if_neg (fun e => h3 (by rw [e]; rfl)), if_neg (fun e => h4 (by rw [e]; rfl)), if_neg (fun e => h5 (by rw [e]; rfl)), if_neg (fun e => h6 (by rw [e]; rfl))]
def tabE : Value := .agg #[.string (bs []), .string (bs [98, 101, 103, 105, 110]), .string (bs [114, 101, 97, 100]), .string (bs [119, 114, 105, 116, 101]), .string (bs [111, 107]), .string (bs [102, 97, 105, 108]), .string (bs [105, 110, 102, 111])]
theorem tabE_0 (w : World) : (Instr.index 219 tabE (.int .i64 ((0 : Nat) : Int))).run Tryz.prog w = .ok (.string (bs (kindW ((0 : Nat) : Int)))) w := by kernel_rfl
theorem tabE_1 (w : World) : (Instr.index 219 tabE (.int .i64 ((1 : Nat) : Int))).run Tryz.prog w = .ok (.string (bs (kindW ((1 : Nat) : Int)))) w := by kernel_rfl
theorem tabE_2 (w : World) : (Instr.index 219 tabE (.int .i64 ((2 : Nat) : Int))).run Tryz.prog w = .ok (.string (bs (kindW ((2 : Nat) : Int)))) w := by kernel_rfl
theorem tabE_3 (w : World) : (Instr.index 219 tabE (.int .i64 ((3 : Nat) : Int))).run Tryz.prog w = .ok (.string (bs (kindW ((3 : Nat) : Int)))) w := by kernel_rfl
theorem tabE_4 (w : World) : (Instr.index 219 tabE (.int .i64 ((4 : Nat) : Int))).run Tryz.prog w = .ok (.string (bs (kindW ((4 : Nat) : Int)))) w := by kernel_rfl
theorem tabE_5 (w : World) : (Instr.index 219 tabE (.int .i64 ((5 : Nat) : Int))).run Tryz.prog w = .ok (.string (bs (kindW ((5 : Nat) : Int)))) w := by kernel_rfl
theorem tabE_6 (w : World) : (Instr.index 219 tabE (.int .i64 ((6 : Nat) : Int))).run Tryz.prog w = .ok (.string (bs (kindW ((6 : Nat) : Int)))) w := by kernel_rfl
theorem tabE_at (i : Nat) (h : i < 7) (w : World) : (Instr.index 219 tabE (.int .i64 (i : Int))).run Tryz.prog w = .ok (.string (bs (kindW i))) w :=
 match i, h with
 | 0, _ => tabE_0 w
 | 1, _ => tabE_1 w
 | 2, _ => tabE_2 w
 | 3, _ => tabE_3 w
 | 4, _ => tabE_4 w
 | 5, _ => tabE_5 w
 | 6, _ => tabE_6 w
set_option maxRecDepth 100000 in
set_option maxHeartbeats 1000000 in
theorem kind_any (l : List UInt8) (w : World) (hE : EvTab w) :
  Calls Tryz.prog 155 #[.string (bs l)] w fun e w' => e = .returned (.int .i64 (kindL l)) ∧ w = w' := by
 have h0 : w.cell? ⟨0, 0, none⟩ = some (.string (bs [])) := hE 0 (by decide)
 have h1 : w.cell? ⟨0, 1, none⟩ = some (.string (bs [98, 101, 103, 105, 110])) := hE 1 (by decide)
 have h2 : w.cell? ⟨0, 2, none⟩ = some (.string (bs [114, 101, 97, 100])) := hE 2 (by decide)
 have h3 : w.cell? ⟨0, 3, none⟩ = some (.string (bs [119, 114, 105, 116, 101])) := hE 3 (by decide)
 have h4 : w.cell? ⟨0, 4, none⟩ = some (.string (bs [111, 107])) := hE 4 (by decide)
 have h5 : w.cell? ⟨0, 5, none⟩ = some (.string (bs [102, 97, 105, 108])) := hE 5 (by decide)
 have h6 : w.cell? ⟨0, 6, none⟩ = some (.string (bs [105, 110, 102, 111])) := hE 6 (by decide)
 clear hE
 have IX := Lib.hid tabE_at
 go_enter Tryz.func155, Tryz.ntmps155
 go_wp2
 clear h0 h1 h2 h3 h4 h5 h6
 go_loop [6] (fun i => ∃ k : Nat, k ≤ 7 ∧ i = .int .i64 k ∧ ∀ j : Nat, 0 < j → j < k → kindW j ≠ l) (fun i => 7 - (RowKit.intOf i).toNat)
 case atStart => exact ⟨0, by omega, rfl, fun j h0 h1 => absurd h1 (Nat.not_lt_zero j)⟩
 case round =>
  obtain ⟨k, hk, rfl, hno⟩ := hrel
  have HNo := Lib.hid hno
  clear hno
  by_cases hlt : k < 7
  ·have ix := IX.out k hlt
   unfold tabE at ix
   by_cases hk0 : 0 < k
   ·by_cases he : kindW k = l
    ·have HR := Lib.hid (kindL_hit k hk0 hlt l he)
     have hb : (kindW k == l) = true := by rw [he]; simp
     clear he
     go_wp2_with fail
     go_ret
     exact ⟨by rw [HR.out]; rfl, rfl⟩
    ·have HN : RowKit.Hid (∀ j : Nat, 0 < j → j < k + 1 → kindW j ≠ l) := Lib.hid (fun j h0 h1 => by
      by_cases h : j = k
      ·rw [h]; exact he
      ·exact HNo.out j h0 (by omega))
     have hb : (kindW k == l) = false := beq_eq_false_iff_ne.2 he
     clear he
     go_wp2_with fail
     go_round
     case rel => exact ⟨k + 1, by omega, by go_num, HN.out⟩
     case measure => simp [RowKit.intOf]; omega
   ·have hk1 : k = 0 := by omega
    subst hk1
    clear ix
    have ix : ∀ w : World, (Instr.index 219 (.agg #[.string (bs []), .string (bs [98, 101, 103, 105, 110]), .string (bs [114, 101, 97, 100]), .string (bs [119, 114, 105, 116, 101]), .string (bs [111, 107]), .string (bs [102, 97, 105, 108]), .string (bs [105, 110, 102, 111])]) (.int .i64 0)).run Tryz.prog w = .ok (.string (bs [])) w := tabE_0
    go_wp2_with fail
    go_round
    case rel => exact ⟨1, by omega, rfl, fun j h0 h1 => by omega⟩
    case measure => simp [RowKit.intOf]
  ·have hk7 : k = 7 := by omega
   subst hk7
   have HR := Lib.hid (kindL_miss l HNo.out)
   go_wp2_with fail
   go_ret
   exact ⟨by rw [HR.out]; rfl, rfl⟩
end
end Go.Proofs.YtmgchjddpmmglaaGreatDoor
