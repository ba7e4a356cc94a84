/-
  Layer 10 (pair) in plain words: what events make, transaction by transaction; the history of events, the open sessions; no program in sight. No conditions.
  Maps of the call's own keyed by texts, in plain words: counts; pointers. No conditions.
  Slices of structs, whatever the struct: what one holds; a row of the call's own as one, and as an argument. No conditions.
  Layer 10 (pair): what the program's maker holds, as memory of the call's own. No conditions.
-/
import Derived.Test.YthgbfaoblnkniaaGreatDoorZl
import Derived.Test.YthgbfaoblnkniaaGreatDoorZa
import Derived.Test.YthgbfaoblnkniaaGreatDoorZe
import Derived.Maps.OwnSet
import Derived.Laws.AppendOwn
import Derived.WalkKit
namespace Go.Proofs.YthgbfaoblnkniaaGreatDoor
open Go.RowKit Go.Lib
structure DraftM where
 nm : List UInt8
 ks : List (List UInt8)
 ln : Int
 fate : Int
 ops : List OpM
 op : Bool
deriving DecidableEq
def noD : DraftM := ⟨[], [], 0, 0, [], false⟩
def namesD (L : List DraftM) : List (List UInt8) := L.map (·.nm)
def keysD (L : List DraftM) : List (List UInt8) := L.flatMap (·.ks)
def isAt (s : List UInt8) (d : DraftM) : Bool := d.op && decide (d.nm = s)
def atD (L : List DraftM) (s : List UInt8) : Nat := L.findIdx (isAt s)
def endD (d : DraftM) (f : Int) : DraftM := { d with fate := f, op := false }
def moreD (d : DraftM) (x : EventM) : DraftM := { d with ops := d.ops ++ [(x.1 == 3, 0, x.2.2.2.1, x.2.2.2.2.1)], ks := d.ks ++ [x.2.2.1] }
def putP (L : List DraftM) (x : EventM) : List DraftM × Int :=
 if mayE x = false then (L, 4)
 else if x.1 = 1 then
  if atD L x.2.1 < L.length then (L, 9)
  else if 20 < (sortedN (namesD L ++ [x.2.1])).length ∨ L.length = 40 then (L, 7)
  else (L ++ [⟨x.2.1, [], x.2.2.2.2.2, 0, [], true⟩], 0)
 else if ¬ atD L x.2.1 < L.length then (L, 10)
 else if 4 ≤ x.1 then (L.set (atD L x.2.1) (endD (L.getD (atD L x.2.1) noD) (x.1 - 3)), 0)
 else if (L.getD (atD L x.2.1) noD).ops.length = 20 ∨ 40 < (sortedN (keysD L ++ [x.2.2.1])).length then (L, 7)
 else (L.set (atD L x.2.1) (moreD (L.getD (atD L x.2.1) noD) x), 0)
def madeP : List EventM → List DraftM → List DraftM × Int × Int
 | [], L => (L, 0, 0)
 | x :: r, L => if (putP L x).2 = 0 then madeP r (putP L x).1 else ((putP L x).1, x.2.2.2.2.2, (putP L x).2)
def opK (K : List (List UInt8)) (o : OpM) (k : List UInt8) : OpM := (o.1, ((findT K k).1 : Int), o.2.2.1, o.2.2.2)
def txnD (S K : List (List UInt8)) (d : DraftM) : TxnM := (((findT S d.nm).1 : Int), d.fate, d.ops.zipWith (opK K) d.ks)
def noH : HistM := ([], [], [])
def histP (l : List EventM) : HistM × Int × Int :=
 if (madeP l []).2.2 ≠ 0 then (noH, (madeP l []).2.1, (madeP l []).2.2)
 else match (madeP l []).1.find? (·.op) with
  | some d => (noH, d.ln, 12)
  | none => ((sortedN (namesD (madeP l []).1), sortedN (keysD (madeP l []).1), (madeP l []).1.map (txnD (sortedN (namesD (madeP l []).1)) (sortedN (keysD (madeP l []).1)))), 0, 0)
structure GoodD (d : DraftM) : Prop where
 nm : nameL d.nm = true
 ks : ∀ k ∈ d.ks, nameL k = true
 len : d.ks.length = d.ops.length
 few : d.ops.length ≤ 20
 fate : 0 ≤ d.fate ∧ d.fate ≤ 3
structure GoodL (L : List DraftM) : Prop where
 all : ∀ d ∈ L, GoodD d
 few : L.length ≤ 40
 names : (sortedN (namesD L)).length ≤ 20
 keys : (sortedN (keysD L)).length ≤ 40
 one : ∀ i j : Nat, i < j → j < L.length → (L.getD i noD).op = true → (L.getD j noD).op = true → (L.getD i noD).nm ≠ (L.getD j noD).nm
theorem good_nil : GoodL [] := ⟨fun d h => (by cases h), by decide, by decide, by decide, fun i j h h2 => absurd h2 (Nat.not_lt_zero j)⟩
theorem atD_spec (L : List DraftM) (s : List UInt8) (h : atD L s < L.length) : (L.getD (atD L s) noD).op = true ∧ (L.getD (atD L s) noD).nm = s := by
 have h1 : isAt s L[atD L s] = true := List.findIdx_getElem (p := isAt s) (w := h)
 have e : L.getD (atD L s) noD = L[atD L s] := by simp [h]
 rw [e]
 generalize L[atD L s] = d at h1
 unfold isAt at h1
 simpa using h1
theorem atD_before (L : List DraftM) (s : List UInt8) (j : Nat) (h : j < atD L s) : isAt s (L.getD j noD) = false := by
 have hj : j < L.length := Nat.lt_of_lt_of_le h List.findIdx_le_length
 have h1 := List.not_of_lt_findIdx (p := isAt s) (xs := L) h
 have e : L.getD j noD = L[j] := by simp [hj]
 rw [e]
 simpa using h1
theorem atD_none (L : List DraftM) (s : List UInt8) (h : ¬ atD L s < L.length) (j : Nat) (hj : j < L.length) : isAt s (L.getD j noD) = false :=
 atD_before L s j (by omega)
theorem sortedN_same (A B : List (List UInt8)) (h : ∀ y, y ∈ A ↔ y ∈ B) : sortedN A = sortedN B := by
 obtain ⟨a1, a2⟩ := sortedN_spec A
 obtain ⟨b1, b2⟩ := sortedN_spec B
 exact strict_unique ltN ltN_irrefl ltN_trans _ _ a1 b1 (fun y => by rw [a2, b2, h])
theorem names_snoc (L : List DraftM) (d : DraftM) : namesD (L ++ [d]) = namesD L ++ [d.nm] := by simp [namesD]
theorem keys_snoc (L : List DraftM) (d : DraftM) : keysD (L ++ [d]) = keysD L ++ d.ks := by simp [keysD]
theorem names_set (L : List DraftM) (i : Nat) (d : DraftM) (hi : i < L.length) (h : d.nm = (L.getD i noD).nm) : namesD (L.set i d) = namesD L := by
 unfold namesD
 apply List.ext_getElem
 ·simp
 ·intro j h1 h2
  simp only [List.length_map] at h2
  rw [List.getElem_map, List.getElem_map, List.getElem_set]
  by_cases e : i = j
  ·subst e; rw [if_pos rfl, h]; simp [hi]
  ·rw [if_neg e]
theorem keys_mem (L : List DraftM) (y : List UInt8) : y ∈ keysD L ↔ ∃ j, j < L.length ∧ y ∈ (L.getD j noD).ks := by
 unfold keysD
 rw [List.mem_flatMap]
 constructor
 ·rintro ⟨d, hd, hy⟩
  obtain ⟨j, hj, rfl⟩ := List.getElem_of_mem hd
  exact ⟨j, hj, by simpa [hj] using hy⟩
 ·rintro ⟨j, hj, hy⟩
  exact ⟨L[j], List.getElem_mem hj, by simpa [hj] using hy⟩
theorem getD_setD (L : List DraftM) (i j : Nat) (d : DraftM) (hi : i < L.length) : (L.set i d).getD j noD = if i = j then d else L.getD j noD := by
 by_cases e : i = j
 ·subst e; simp [hi]
 ·rw [if_neg e]; simp [List.getElem?_set_ne e]
theorem keys_set (L : List DraftM) (i : Nat) (d : DraftM) (hi : i < L.length) (h : d.ks = (L.getD i noD).ks) : keysD (L.set i d) = keysD L := by
 unfold keysD
 rw [List.flatMap_def, List.flatMap_def]
 congr 1
 apply List.ext_getElem
 ·simp
 ·intro j h1 h2
  simp only [List.length_map] at h2
  rw [List.getElem_map, List.getElem_map, List.getElem_set]
  by_cases e : i = j
  ·subst e; rw [if_pos rfl, h]; simp [hi]
  ·rw [if_neg e]
theorem keys_more_mem (L : List DraftM) (i : Nat) (x : EventM) (hi : i < L.length) (y : List UInt8) : y ∈ keysD (L.set i (moreD (L.getD i noD) x)) ↔ y ∈ keysD L ++ [x.2.2.1] := by
 rw [List.mem_append, keys_mem, keys_mem, List.length_set]
 constructor
 ·rintro ⟨j, hj, hy⟩
  rw [getD_setD L i j _ hi] at hy
  by_cases e : i = j
  ·rw [if_pos e] at hy
   rcases List.mem_append.1 (show y ∈ (L.getD i noD).ks ++ [x.2.2.1] from hy) with h | h
   ·exact .inl ⟨i, hi, h⟩
   ·exact .inr h
  ·rw [if_neg e] at hy
   exact .inl ⟨j, hj, hy⟩
 ·rintro (⟨j, hj, hy⟩ | hy)
  ·refine ⟨j, hj, ?_⟩
   rw [getD_setD L i j _ hi]
   by_cases e : i = j
   ·subst e; rw [if_pos rfl]; exact List.mem_append.2 (.inl hy)
   ·rw [if_neg e]; exact hy
  ·refine ⟨i, hi, ?_⟩
   rw [getD_setD L i i _ hi, if_pos rfl]
   exact List.mem_append.2 (.inr hy)
theorem keys_more (L : List DraftM) (i : Nat) (x : EventM) (hi : i < L.length) : sortedN (keysD (L.set i (moreD (L.getD i noD) x))) = sortedN (keysD L ++ [x.2.2.1]) := sortedN_same _ _ (keys_more_mem L i x hi)
theorem mayE_nm (x : EventM) (h : mayE x = true) : nameL x.2.1 = true ∧ 1 ≤ x.1 ∧ x.1 ≤ 6 ∧ (x.1 = 2 ∨ x.1 = 3 → nameL x.2.2.1 = true) := by
 unfold mayE at h
 simp only [Bool.and_eq_true, decide_eq_true_eq] at h
 refine ⟨h.2.2.1, h.1, h.2.1, fun hk => ?_⟩
 have h4 := h.2.2.2
 have e : longK x.1 = true := by rcases hk with e | e <;> rw [e] <;> decide
 rw [if_pos e] at h4
 simp only [Bool.and_eq_true] at h4
 exact h4.1
theorem getD_memD (L : List DraftM) (i : Nat) (hi : i < L.length) : L.getD i noD ∈ L := by
 rw [show L.getD i noD = L[i] by simp [hi]]; exact List.getElem_mem hi
theorem good_set {L : List DraftM} (hL : GoodL L) (i : Nat) (d : DraftM) (hi : i < L.length) (hd : GoodD d) (hn : d.nm = (L.getD i noD).nm) (ho : d.op = true → (L.getD i noD).op = true) (hk : (sortedN (keysD (L.set i d))).length ≤ 40) : GoodL (L.set i d) := by
 refine ⟨fun e he => ?_, by rw [List.length_set]; exact hL.few, by rw [names_set L i d hi hn]; exact hL.names, hk, fun a b hab hb h1 h2 => ?_⟩
 ·rcases List.mem_or_eq_of_mem_set he with h | h
  ·exact hL.all e h
  ·rw [h]; exact hd
 ·rw [List.length_set] at hb
  rw [getD_setD L i a d hi] at h1 ⊢
  rw [getD_setD L i b d hi] at h2 ⊢
  have h3 : (if i = a then d else L.getD a noD).nm = (L.getD a noD).nm := by
   by_cases e : i = a
   ·subst e; rw [if_pos rfl, hn]
   ·rw [if_neg e]
  have h4 : (if i = b then d else L.getD b noD).nm = (L.getD b noD).nm := by
   by_cases e : i = b
   ·subst e; rw [if_pos rfl, hn]
   ·rw [if_neg e]
  rw [h3, h4]
  refine hL.one a b hab hb ?_ ?_
  ·by_cases e : i = a
   ·subst e; rw [if_pos rfl] at h1; exact ho h1
   ·rw [if_neg e] at h1; exact h1
  ·by_cases e : i = b
   ·subst e; rw [if_pos rfl] at h2; exact ho h2
   ·rw [if_neg e] at h2; exact h2
theorem put_good {L : List DraftM} (hL : GoodL L) (x : EventM) : GoodL (putP L x).1 := by
 unfold putP
 by_cases hm : mayE x = false
 ·rw [if_pos hm]; exact hL
 ·rw [if_neg hm]
  have hm' : mayE x = true := by simpa using hm
  obtain ⟨h1, h2, h3, h4⟩ := mayE_nm x hm'
  by_cases hk : x.1 = 1
  ·rw [if_pos hk]
   by_cases ha : atD L x.2.1 < L.length
   ·rw [if_pos ha]; exact hL
   ·rw [if_neg ha]
    by_cases hf : 20 < (sortedN (namesD L ++ [x.2.1])).length ∨ L.length = 40
    ·rw [if_pos hf]; exact hL
    ·rw [if_neg hf]
     have hl := hL.few
     refine ⟨fun d hd => ?_, by rw [List.length_append]; simp; omega, by rw [names_snoc]; simp only; omega, by rw [keys_snoc, List.append_nil]; exact hL.keys, fun i j hij hj g1 g2 => ?_⟩
     ·rcases List.mem_append.1 hd with h | h
      ·exact hL.all d h
      ·rw [List.mem_singleton] at h
       subst h
       exact ⟨h1, fun k hk => (by cases hk), rfl, Nat.zero_le _, Int.le_refl _, by simp only; omega⟩
     ·have hj' : j < L.length ∨ j = L.length := by simp at hj; omega
      have hi : i < L.length := by omega
      have e1 : ∀ d : DraftM, (L ++ [d]).getD i noD = L.getD i noD := fun d => by simp [List.getElem?_append_left hi]
      rw [e1] at g1 ⊢
      rcases hj' with hj' | rfl
      ·have e2 : ∀ d : DraftM, (L ++ [d]).getD j noD = L.getD j noD := fun d => by simp [List.getElem?_append_left hj']
       rw [e2] at g2 ⊢
       exact hL.one i j hij hj' g1 g2
      ·have e2 : ∀ d : DraftM, (L ++ [d]).getD L.length noD = d := fun d => by simp
       rw [e2]
       have h5 := atD_none L x.2.1 ha i hi
       intro e
       unfold isAt at h5
       rw [g1] at h5
       simp only [Bool.true_and, decide_eq_false_iff_not] at h5
       exact h5 e
  ·rw [if_neg hk]
   by_cases ha : atD L x.2.1 < L.length
   ·rw [if_neg (by simpa using ha)]
    obtain ⟨o1, o2⟩ := atD_spec L x.2.1 ha
    have hg := hL.all _ (getD_memD L _ ha)
    by_cases hf : 4 ≤ x.1
    ·rw [if_pos hf]
     refine good_set hL _ _ ha ⟨hg.nm, hg.ks, hg.len, hg.few, ?_, ?_⟩ rfl (fun h => (by cases h)) ?_
     ·show 0 ≤ x.1 - 3; omega
     ·show x.1 - 3 ≤ 3; omega
     ·rw [keys_set L _ (endD (L.getD (atD L x.2.1) noD) (x.1 - 3)) ha rfl]; exact hL.keys
    ·rw [if_neg hf]
     by_cases hc : (L.getD (atD L x.2.1) noD).ops.length = 20 ∨ 40 < (sortedN (keysD L ++ [x.2.2.1])).length
     ·rw [if_pos hc]; exact hL
     ·rw [if_neg hc]
      have hkey : nameL x.2.2.1 = true := h4 (by omega)
      refine good_set hL _ _ ha ⟨hg.nm, fun k h => ?_, ?_, ?_, hg.fate⟩ rfl (fun _ => o1) ?_
      ·rcases List.mem_append.1 (show k ∈ (L.getD (atD L x.2.1) noD).ks ++ [x.2.2.1] from h) with h | h
       ·exact hg.ks k h
       ·rw [List.mem_singleton] at h; rw [h]; exact hkey
      ·show ((L.getD (atD L x.2.1) noD).ks ++ [x.2.2.1]).length = ((L.getD (atD L x.2.1) noD).ops ++ [_]).length
       rw [List.length_append, List.length_append, hg.len]; rfl
      ·show ((L.getD (atD L x.2.1) noD).ops ++ [_]).length ≤ 20
       have := hg.few
       rw [List.length_append, List.length_singleton]; omega
      ·rw [keys_more L _ x ha]; omega
   ·rw [if_pos (by simpa using ha)]; exact hL
theorem made_good : ∀ (l : List EventM) (L : List DraftM), GoodL L → GoodL (madeP l L).1
 | [], _, h => h
 | x :: r, L, h => by
  unfold madeP
  by_cases e : (putP L x).2 = 0
  ·rw [if_pos e]; exact made_good r _ (put_good h x)
  ·rw [if_neg e]; exact put_good h x
theorem nodup_le {α : Type} [DecidableEq α] : ∀ (A B : List α), A.Nodup → (∀ x ∈ A, x ∈ B) → A.length ≤ B.length
 | [], _, _, _ => Nat.zero_le _
 | a :: A, B, hn, h => by
  rw [List.nodup_cons] at hn
  have hb := h a (List.mem_cons_self ..)
  have h1 := nodup_le A (B.erase a) hn.2 (fun x hx => (List.mem_erase_of_ne (fun e => hn.1 (by rw [← e]; exact hx))).2 (h x (List.mem_cons_of_mem _ hx)))
  rw [List.length_erase_of_mem hb] at h1
  have := List.length_pos_of_mem hb
  rw [List.length_cons]
  omega
theorem sorted_nodup (M : List (List UInt8)) : (sortedN M).Nodup := (sortedN_spec M).1.imp (fun h e => by subst e; rw [ltN_irrefl] at h; cases h)
theorem sorted_count (ks M : List (List UInt8)) (hd : ks.Nodup) (hm : ∀ x, x ∈ ks ↔ x ∈ M) (hn : ∀ x ∈ M, nameL x = true) : (sortedN M).length = ks.length := by
 have h2 := (sortedN_spec M).2
 refine Nat.le_antisymm (nodup_le _ _ (sorted_nodup M) (fun x hx => (hm x).2 ((h2 x).1 hx).1)) (nodup_le _ _ hd (fun x hx => (h2 x).2 ⟨(hm x).1 hx, hn x ((hm x).1 hx)⟩))
theorem names_good {L : List DraftM} (hL : GoodL L) : ∀ x ∈ namesD L, nameL x = true := fun x hx => by
 obtain ⟨d, hd, rfl⟩ := List.mem_map.1 hx
 exact (hL.all d hd).nm
theorem keys_good {L : List DraftM} (hL : GoodL L) : ∀ x ∈ keysD L, nameL x = true := fun x hx => by
 obtain ⟨d, hd, h⟩ := List.mem_flatMap.1 hx
 exact (hL.all d hd).ks x h
theorem count_more (ks M : List (List UInt8)) (s : List UInt8) (m : Nat) (hd : ks.Nodup) (hm : ∀ x, x ∈ ks ↔ x ∈ M) (hn : ∀ x ∈ M, nameL x = true) (hs : nameL s = true) (hle : (sortedN M).length ≤ m) : (m < (sortedN (M ++ [s])).length ↔ s ∉ ks ∧ ks.length = m) ∧ ks.length ≤ m := by
 have h1 := sorted_count ks M hd hm hn
 by_cases h : s ∈ ks
 ·have h2 := sorted_count ks (M ++ [s]) hd (fun x => by
   rw [List.mem_append, List.mem_singleton, hm]
   exact ⟨.inl, fun g => g.elim id (fun e => by rw [e]; exact (hm s).1 h)⟩) (fun x hx => (List.mem_append.1 hx).elim (hn x) (fun g => by rw [List.mem_singleton.1 g]; exact hs))
  rw [h2]
  exact ⟨⟨fun g => by omega, fun g => absurd h g.1⟩, by omega⟩
 ·have h2 := sorted_count (ks ++ [s]) (M ++ [s]) (List.nodup_append.2 ⟨hd, by simp, fun a ha b hb e => by rw [List.mem_singleton] at hb; subst hb; subst e; exact h ha⟩) (fun x => by rw [List.mem_append, List.mem_append, hm]) (fun x hx => (List.mem_append.1 hx).elim (hn x) (fun g => by rw [List.mem_singleton.1 g]; exact hs))
  rw [h2, List.length_append, List.length_singleton]
  exact ⟨⟨fun g => ⟨h, by omega⟩, fun g => by omega⟩, by omega⟩
end Go.Proofs.YthgbfaoblnkniaaGreatDoor

namespace Go.Proofs.YthgbfaoblnkniaaGreatDoor
open Go.RowKit Go.Lib Go.Maps Go.WideMaps
theorem keyStr : Keyed Tryz.prog 9 := string_keyed Tryz.underlying9
theorem key_of (l : List UInt8) (h : l.length ≤ 9223372036854775807) : keyOf Tryz.prog 9 (.string (bs l)) = some (.string l) := by
 have h1 := keyOf_string_mk Tryz.underlying9 (s := bs l) (by rw [bs_size]; unfold maxLen; exact h)
 rw [h1]
 simp [bs]
theorem ownsMap_at {H : Type} {w w' : World} {P : Program} {k : TypeId} {R : Value → Option (DataW H × List MemPlace)} {b n : Nat} {D : DataW H} (h : w.ownsMap P k R b n D) (e : w'.heap[b]? = w.heap[b]?) : w'.ownsMap P k R b n D := by
 obtain ⟨es, clock, hb, r⟩ := h
 exact ⟨es, clock, e.trans hb, r⟩
theorem ownsMap_tight {H : Type} {w : World} {P : Program} {k : TypeId} {R : Value → Option (DataW H × List MemPlace)} {b n : Nat} {D : DataW H} (h : w.ownsMap P k R b n D) : w.ownsMap P k R b (Maps.size D) D := by
 obtain ⟨es, clock, hb, F, _, rfl⟩ := h
 exact ⟨es, clock, hb, F, by simp [Maps.size, length_sorted], rfl⟩
def CntM (w : World) (b : Nat) (ks : List (List UInt8)) (N : Nat) : Prop :=
 ∃ D : DataW Unit, w.ownsMap Tryz.prog 9 (plainElem Tryz.prog 3) b (Maps.size D) D ∧ Maps.size D = ks.length ∧ (∀ l, Maps.has D (.string l) = decide (l ∈ ks)) ∧
  ∀ l, ∃ c : Int, (∀ z, l ∈ ks → D.atKey (.string l) z = .lit (.int .i64 c)) ∧ (l ∈ ks → 1 ≤ c ∧ c ≤ N)
theorem CntM.at {w w' : World} {b : Nat} {ks : List (List UInt8)} {N : Nat} (h : CntM w b ks N) (e : w'.heap[b]? = w.heap[b]?) : CntM w' b ks N := by
 obtain ⟨D, h1, h2⟩ := h
 exact ⟨D, ownsMap_at h1 e, h2⟩
theorem CntM.lt {w : World} {b : Nat} {ks : List (List UInt8)} {N : Nat} (h : CntM w b ks N) : b < w.heap.size := by
 obtain ⟨D, h1, h2⟩ := h
 exact h1.lt
theorem cnt_new (w : World) : CntM (w.alloc (.map #[] 0)) w.heap.size [] 0 :=
 ⟨.map [], ownsMap_tight (World.ownsMap_made w _ _ _), rfl, fun l => by simp [Maps.has], fun l => ⟨0, fun _ h => (by cases h), fun h => (by cases h)⟩⟩
theorem zero_cnt (w : World) : (zeroValue 3).run Tryz.prog w = .ok (.int .i64 0) w := by kernel_rfl
set_option maxRecDepth 10000 in
theorem cnt_look {w : World} {b : Nat} {ks : List (List UInt8)} {N : Nat} (h : CntM w b ks N) (hN : ks.length ≤ 1000000 ∧ N ≤ 1000000) (l : List UInt8) (hl : l.length ≤ 9223372036854775807) :
  ∃ c : Int, (c = 0 ↔ l ∉ ks) ∧ 0 ≤ c ∧ c ≤ N ∧ ∀ w1 : World, w1.heap[b]? = w.heap[b]? → (Instr.lookup 94 (.map (some b)) (.string (bs l)) false).run Tryz.prog w1 = .ok (.int .i64 c) w1 ∧
   ∃ w', (Instr.mapUpdate 94 (.map (some b)) (.string (bs l)) (.int .i64 (c + 1))).run Tryz.prog w1 = .ok () w' ∧ CntM w' b (if l ∈ ks then ks else ks ++ [l]) (N + 1) ∧ w1.mapTurned w' b := by
 obtain ⟨D, h1, h2, h3, h4⟩ := h
 obtain ⟨c, -, hat, -⟩ := h1.lookup_int keyStr Tryz.underlying94 Tryz.underlying3 (zero_cnt w) (key_of l hl)
 have hat0 := hat
 have hc : (c = 0 ↔ l ∉ ks) ∧ 0 ≤ c ∧ c ≤ N := by
  by_cases hk : l ∈ ks
  ·obtain ⟨c', e1, e2⟩ := h4 l
   rw [e1 _ hk] at hat
   have e : c' = c := by injection hat with hat; injection hat
   have := e2 hk
   subst e
   exact ⟨⟨fun h => by omega, fun h => absurd hk h⟩, by omega, by omega⟩
  ·have e := atKey_of_not_has (D := D) (k := .string l) (by rw [h3]; exact decide_eq_false hk) (.lit (.int .i64 0))
   rw [e] at hat
   have e : 0 = c := by injection hat with hat; injection hat
   subst e
   exact ⟨⟨fun _ => hk, fun _ => rfl⟩, Int.le_refl _, by omega⟩
 have hsz : Maps.size D < maxLen := by unfold maxLen; omega
 refine ⟨c, hc.1, hc.2.1, hc.2.2, fun w1 hw1 => ?_⟩
 replace h1 := ownsMap_at h1 hw1
 obtain ⟨c', hrun, hat', -⟩ := h1.lookup_int keyStr Tryz.underlying94 Tryz.underlying3 (zero_cnt w1) (key_of l hl)
 have ecc : c' = c := by rw [hat0] at hat'; injection hat' with hat'; injection hat' with _ hat'; exact hat'.symm
 subst ecc
 obtain ⟨w', r1, r2, r3⟩ := h1.store keyStr Tryz.underlying94 hsz (key_of l hl) (plainElem_int Tryz.underlying3 (WalkArith.wf_i64 (n := c' + 1) (by omega)))
 refine ⟨hrun, w', r1, ⟨D.put (.string l) (.lit (.int .i64 (c' + 1))), ownsMap_tight r2, ?_, fun k => ?_, fun k => ?_⟩, r3⟩
 ·rw [size_put (h1.tidy keyStr), h3, h2]
  by_cases hk : l ∈ ks
  ·rw [if_pos (decide_eq_true hk), if_pos hk]
  ·rw [if_neg (by simpa using hk), if_neg hk]; simp
 ·by_cases e : k = l
  ·subst e
   rw [has_put_same h1.isMap (show WideAt.IsKeyLit (.string k) from trivial)]
   by_cases hk : k ∈ ks
   ·simp [hk]
   ·simp [hk]
  ·rw [has_put_other (by simpa using e), h3]
   by_cases hk : l ∈ ks
   ·simp [hk]
   ·simp [hk, e]
 ·by_cases e : k = l
  ·subst e
   refine ⟨c' + 1, fun z _ => atKey_put_same h1.isMap (show WideAt.IsKeyLit (.string k) from trivial) _ _, fun _ => ⟨by omega, by omega⟩⟩
  ·obtain ⟨c2, e1, e2⟩ := h4 k
   have hm : k ∈ (if l ∈ ks then ks else ks ++ [l]) → k ∈ ks := by
    by_cases hk : l ∈ ks
    ·rw [if_pos hk]; exact id
    ·rw [if_neg hk]; simp [e]
   exact ⟨c2, fun z h => by rw [atKey_put_other (by simpa using e)]; exact e1 z (hm h), fun h => by have := e2 (hm h); omega⟩
theorem cnt_len {w : World} {b : Nat} {ks : List (List UInt8)} {N : Nat} (h : CntM w b ks N) (ty : TypeId) : (Builtin.len_ #[94] ty #[.map (some b)]).run Tryz.prog w = .ok (.int .i64 ks.length) w := by
 obtain ⟨D, h1, h2, -⟩ := h
 rw [← h2]
 exact h1.len Tryz.underlying94 ty
def ptrElem : Value → Option (DataW Unit × List MemPlace)
 | .pointer none => some (.lit (.int .i64 (-1)), [])
 | .pointer (some ⟨g, 0, none⟩) => some (.lit (.int .i64 g), [])
 | _ => none
def ptrAt : Option Nat → Value
 | none => .pointer none
 | some g => .pointer (some ⟨g, 0, none⟩)
def numAt : Option Nat → Int
 | none => -1
 | some g => g
theorem ptr_elem (o : Option Nat) : ptrElem (ptrAt o) = some (.lit (.int .i64 (numAt o)), []) := by cases o <;> rfl
theorem ptr_inv {v : Value} {o : Option Nat} {ps : List MemPlace} (h : ptrElem v = some (.lit (.int .i64 (numAt o)), ps)) : v = ptrAt o := by
 have lit : ∀ (a b : Int) (q q' : List MemPlace), (some ((.lit (.int .i64 a) : DataW Unit), q) = some ((.lit (.int .i64 b) : DataW Unit), q')) → a = b := fun a b q q' e => by
  simpa using (Prod.mk.inj (Option.some.inj e)).1
 unfold ptrElem at h
 split at h
 ·have e := lit _ _ _ _ h
  cases o with
  | none => rfl
  | some g => simp only [numAt] at e; omega
 ·have e := lit _ _ _ _ h
  cases o with
  | none => simp only [numAt] at e; omega
  | some g =>
   simp only [numAt] at e
   rename_i g'
   have e2 : g' = g := by omega
   rw [e2]; rfl
 ·cases h
def updF (f : List UInt8 → Option Nat) (l : List UInt8) (o : Option Nat) (k : List UInt8) : Option Nat := if k = l then o else f k
theorem upd_same (f : List UInt8 → Option Nat) (l : List UInt8) (o : Option Nat) : updF f l o l = o := if_pos rfl
theorem upd_other (f : List UInt8 → Option Nat) (l : List UInt8) (o : Option Nat) {k : List UInt8} (h : k ≠ l) : updF f l o k = f k := if_neg h
def OpnM (w : World) (b : Nat) (f : List UInt8 → Option Nat) (n : Nat) : Prop :=
 ∃ D : DataW Unit, w.ownsMap Tryz.prog 9 ptrElem b n D ∧ (∀ l, Maps.has D (.string l) = (f l).isSome) ∧ ∀ l z, (f l).isSome = true → D.atKey (.string l) z = .lit (.int .i64 (numAt (f l)))
theorem OpnM.at {w w' : World} {b n : Nat} {f : List UInt8 → Option Nat} (h : OpnM w b f n) (e : w'.heap[b]? = w.heap[b]?) : OpnM w' b f n := by
 obtain ⟨D, h1, h2⟩ := h
 exact ⟨D, ownsMap_at h1 e, h2⟩
theorem OpnM.lt {w : World} {b n : Nat} {f : List UInt8 → Option Nat} (h : OpnM w b f n) : b < w.heap.size := by
 obtain ⟨D, h1, h2⟩ := h
 exact h1.lt
theorem opn_new (w : World) : OpnM (w.alloc (.map #[] 0)) w.heap.size (fun _ => none) 0 :=
 ⟨.map [], World.ownsMap_made w _ _ _, fun l => by simp [Maps.has], fun l z h => (by cases h)⟩
theorem zero_ptr (w : World) : (zeroValue 97).run Tryz.prog w = .ok (.pointer none) w := by kernel_rfl
theorem opn_look {w : World} {b n : Nat} {f : List UInt8 → Option Nat} (h : OpnM w b f n) (l : List UInt8) (hl : l.length ≤ 9223372036854775807) :
  (Instr.lookup 93 (.map (some b)) (.string (bs l)) false).run Tryz.prog w = .ok (ptrAt (f l)) w := by
 obtain ⟨D, h1, h2, h3⟩ := h
 obtain ⟨v, ps, hrun, hv⟩ := h1.lookup keyStr Tryz.underlying93 (zero_ptr w) (zd := .lit (.int .i64 (-1))) (zp := []) rfl (key_of l hl)
 have e : D.atKey (.string l) (.lit (.int .i64 (-1))) = .lit (.int .i64 (numAt (f l))) := by
  cases hf : f l with
  | some g =>
   have h4 := h3 l (.lit (.int .i64 (-1))) (by rw [hf]; rfl)
   rw [hf] at h4
   exact h4
  | none => exact atKey_of_not_has (by rw [h2, hf]; rfl) _
 rw [e] at hv
 rw [hrun, ptr_inv hv]
theorem opn_put {w : World} {b n : Nat} {f : List UInt8 → Option Nat} (h : OpnM w b f n) (hn : n ≤ 1000000) (l : List UInt8) (hl : l.length ≤ 9223372036854775807) (g : Nat) :
  ∃ w', (Instr.mapUpdate 93 (.map (some b)) (.string (bs l)) (.pointer (some ⟨g, 0, none⟩))).run Tryz.prog w = .ok () w' ∧ OpnM w' b (updF f l (some g)) (n + 1) ∧ w.mapTurned w' b := by
 obtain ⟨D, h1, h2, h3⟩ := h
 obtain ⟨w', r1, r2, r3⟩ := h1.store keyStr Tryz.underlying93 (by unfold maxLen; omega) (key_of l hl) (ptr_elem (some g))
 refine ⟨w', r1, ⟨_, r2, fun k => ?_, fun k z hk => ?_⟩, r3⟩
 ·by_cases e : k = l
  ·subst e
   rw [has_put_same h1.isMap (show WideAt.IsKeyLit (.string k) from trivial), upd_same]; rfl
  ·rw [has_put_other (by simpa using e), upd_other _ _ _ e, h2]
 ·by_cases e : k = l
  ·subst e
   rw [atKey_put_same h1.isMap (show WideAt.IsKeyLit (.string k) from trivial), upd_same]
  ·rw [upd_other _ _ _ e] at hk ⊢
   rw [atKey_put_other (by simpa using e)]
   exact h3 k z hk
theorem opn_del {w : World} {b n : Nat} {f : List UInt8 → Option Nat} (h : OpnM w b f n) (l : List UInt8) (hl : l.length ≤ 9223372036854775807) (ty : TypeId) :
  ∃ w', (Builtin.delete_ #[93, 9] ty #[.map (some b), .string (bs l)]).run Tryz.prog w = .ok (.tuple #[]) w' ∧ OpnM w' b (updF f l none) n ∧ w.mapTurned w' b := by
 obtain ⟨D, h1, h2, h3⟩ := h
 obtain ⟨w', r1, r2, r3⟩ := h1.drop keyStr Tryz.underlying93 (key_of l hl) ty
 refine ⟨w', r1, ⟨_, r2, fun k => ?_, fun k z hk => ?_⟩, r3⟩
 ·by_cases e : k = l
  ·subst e
   rw [has_del_same, upd_same]; rfl
  ·rw [has_del_other (by simpa using e), upd_other _ _ _ e, h2]
 ·by_cases e : k = l
  ·subst e
   rw [upd_same] at hk; cases hk
  ·rw [upd_other _ _ _ e] at hk ⊢
   rw [atKey_del_other (by simpa using e)]
   exact h3 k z hk
end Go.Proofs.YthgbfaoblnkniaaGreatDoor

namespace Go.Proofs.YthgbfaoblnkniaaGreatDoor
open Go.RowKit
theorem flat_at {α : Type} (f : α → List Value) (s : Nat) (hf : ∀ x, (f x).length = s) (d : α) : ∀ (L : List α) (j i : Nat), j < L.length → i < s → (L.flatMap f)[j * s + i]? = (f (L.getD j d))[i]?
 | [], j, _, hj, _ => absurd hj (Nat.not_lt_zero j)
 | x :: L, 0, i, _, hi => by
  rw [List.flatMap_cons, Nat.zero_mul, Nat.zero_add, List.getElem?_append_left (by rw [hf]; exact hi)]
  rfl
 | x :: L, j + 1, i, hj, hi => by
  rw [List.flatMap_cons, List.getElem?_append_right (by rw [hf, Nat.add_mul]; omega), hf, show (j + 1) * s + i - s = j * s + i by rw [Nat.add_mul]; omega]
  rw [flat_at f s hf d L j i (by simpa using hj) hi]
  rfl
theorem flat_len {α : Type} (f : α → List Value) (s : Nat) (hf : ∀ x, (f x).length = s) (L : List α) : (L.flatMap f).length = L.length * s := by
 induction L with
 | nil => simp
 | cons x L ih => rw [List.flatMap_cons, List.length_append, ih, hf, List.length_cons, Nat.add_mul]; omega
theorem flat_set {α : Type} (f : α → List Value) (s : Nat) (hf : ∀ x, (f x).length = s) (A B : List α) (x y : α) (i : Nat) (u : Value) (hi : i < s) (hy : f y = (f x).set i u) : ((A ++ x :: B).flatMap f).set (A.length * s + i) u = (A ++ y :: B).flatMap f := by
 rw [List.flatMap_append, List.flatMap_append, List.flatMap_cons, List.flatMap_cons, List.set_append_right _ _ (by rw [flat_len f s hf]; omega), flat_len f s hf, show A.length * s + i - A.length * s = i by omega, List.set_append_left _ _ (by rw [hf]; exact hi), hy]
theorem flat_snoc {α : Type} (f : α → List Value) (L : List α) (x : α) : L.flatMap f ++ f x = (L ++ [x]).flatMap f := by simp
def SlS {α : Type} (f : α → List Value) (s : Nat) (d : α) (w : World) (v : Value) (L : List α) : Prop := ∃ p cap, v = .slice p L.length cap ∧ ∀ j, j < L.length → ∃ g, p = some ⟨g, 0, none⟩ ∧ ∀ i u, (f (L.getD j d))[i]? = some u → w.cell? ⟨g, j * s + i, none⟩ = some u
theorem SlS.below {α : Type} {f : α → List Value} {s : Nat} {d : α} {w w' : World} {v : Value} {L : List α} (h : SlS f s d w v L) (hb : Below w.heap.size w w') : SlS f s d w' v L := by
 obtain ⟨p, cap, hv, hc⟩ := h
 refine ⟨p, cap, hv, fun j hj => ?_⟩
 obtain ⟨g, hp, h1⟩ := hc j hj
 exact ⟨g, hp, fun i u hu => cell_later hb (h1 i u hu)⟩
theorem sls_none {α : Type} (f : α → List Value) (s : Nat) (d : α) (w : World) : SlS f s d w (.slice none 0 0) [] := ⟨none, 0, rfl, fun j hj => absurd hj (Nat.not_lt_zero j)⟩
theorem own_sls {α : Type} {f : α → List Value} {s : Nat} (d : α) (hf : ∀ x, (f x).length = s) {w : World} {B : Nat} {e : TypeId} {v : Value} {L : List α} (h : w.ownsRow B e s v L.length (L.flatMap f)) : SlS f s d w v L := by
 obtain ⟨-, ⟨h0, hn⟩ | ⟨g, cap, cur, hv, -, hw, -, -, -, ht⟩⟩ := h
 ·have : L = [] := List.eq_nil_of_length_eq_zero hn
  subst this h0
  exact sls_none f s d w
 ·refine ⟨_, cap, hv, fun j hj => ⟨g, rfl, fun i u hu => ?_⟩⟩
  have hi : i < s := by
   have := (List.getElem?_eq_some_iff.1 hu).1
   rw [hf] at this
   exact this
  have hjs : j * s + i < L.length * s := by
   have : (j + 1) * s ≤ L.length * s := Nat.mul_le_mul_right s hj
   rw [Nat.add_mul] at this
   omega
  have h1 := congrArg (fun x : List Value => x[j * s + i]?) ht
  simp only [List.getElem?_take, hjs, if_true, Array.getElem?_toList] at h1
  rw [cell_of_row w g (j * s + i) _ _ (0, 0) hw, h1, flat_at f s hf d L j i hj hi]
  exact hu
end Go.Proofs.YthgbfaoblnkniaaGreatDoor

namespace Go.Proofs.YthgbfaoblnkniaaGreatDoor
open Go.RowKit Go.Lib Go.Maps
theorem owns_at {w w' : World} {base size n : Nat} {e : TypeId} {v : Value} {xs : List Value} (h : w.ownsRow base e size v n xs) (hb : ∀ k, v.ownBlock = some k → w'.heap[k]? = w.heap[k]?) : w'.ownsRow base e size v n xs := by
 obtain ⟨h1, h2⟩ := h
 refine ⟨h1, ?_⟩
 rcases h2 with h2 | ⟨g, cap, cur, e1, hg, hw, r⟩
 ·exact .inl h2
 ·exact .inr ⟨g, cap, cur, e1, hg, (hb g (by subst e1; rfl)).trans hw, r⟩
theorem Blk.at {w w' : World} {B : Nat} {t : TypeId} {cs : List Value} (h : Blk w B t cs) (e : w'.heap[B]? = w.heap[B]?) : Blk w' B t cs := e.trans h
def Ty (w : World) (g : Nat) (t : TypeId) : Prop := ∃ cs fz, w.heap[g]? = some (.cells cs t fz)
theorem Ty.ne {w : World} {g g' : Nat} {t t' : TypeId} (h : Ty w g t) (h' : Ty w g' t') (hne : t ≠ t') : g ≠ g' := by
 rintro rfl
 obtain ⟨_, _, h⟩ := h
 obtain ⟨_, _, h'⟩ := h'
 rw [h] at h'
 injection h' with h'
 injection h' with _ h'
 exact hne h'
theorem Blk.ty {w : World} {B : Nat} {t : TypeId} {cs : List Value} (h : Blk w B t cs) : Ty w B t := ⟨_, _, h⟩
theorem owns_ty {w : World} {base size n : Nat} {e : TypeId} {v : Value} {xs : List Value} (h : w.ownsRow base e size v n xs) {g : Nat} (hg : v.ownBlock = some g) : Ty w g e := by
 rcases h.2 with ⟨rfl, -⟩ | ⟨g', cap, cur, rfl, -, hw, -⟩
 ·cases hg
 ·have : g' = g := by simpa [Value.ownBlock] using hg
  subst this
  exact ⟨_, _, hw⟩
theorem map_ty {H : Type} {w : World} {P : Program} {k t : TypeId} {R : Value → Option (DataW H × List MemPlace)} {b n g : Nat} {D : DataW H} (h : w.ownsMap P k R b n D) (h' : Ty w g t) : b ≠ g := by
 rintro rfl
 obtain ⟨es, clock, hb, -⟩ := h
 obtain ⟨_, _, h'⟩ := h'
 rw [hb] at h'
 cases h'
theorem OpnM.ty {w : World} {b n g : Nat} {t : TypeId} {f : List UInt8 → Option Nat} (h : OpnM w b f n) (h' : Ty w g t) : b ≠ g := by
 obtain ⟨D, h1, -⟩ := h
 exact map_ty h1 h'
theorem CntM.ty {w : World} {b n g : Nat} {t : TypeId} {ks : List (List UInt8)} (h : CntM w b ks n) (h' : Ty w g t) : b ≠ g := by
 obtain ⟨D, h1, -⟩ := h
 exact map_ty h1 h'
def opc (o : OpM) : List Value := [.bool o.1, .int .i64 o.2.1, .int .i64 o.2.2.1, .int .i64 o.2.2.2]
theorem opc_len (o : OpM) : (opc o).length = 4 := rfl
def nmc (l : List UInt8) : List Value := [.string (bs l)]
abbrev EntM := Nat × Value × Value
def noEn : EntM := (0, .slice none 0 0, .slice none 0 0)
def drc (d : DraftM) (e : EntM) : List Value := [.string (bs d.nm), e.2.1, .int .i64 d.ln, .int .i64 0, .int .i64 d.fate, e.2.2]
structure DraftV (w : World) (B : Nat) (e : EntM) (d : DraftM) : Prop where
 base : B ≤ e.1
 blk : Blk w e.1 99 (drc d e)
 ks : w.ownsRow B 9 1 e.2.1 d.ks.length (d.ks.flatMap nmc)
 ops : w.ownsRow B 50 4 e.2.2 d.ops.length (d.ops.flatMap opc)
theorem DraftV.at {w w' : World} {B : Nat} {e : EntM} {d : DraftM} (h : DraftV w B e d) (h1 : w'.heap[e.1]? = w.heap[e.1]?) (h2 : ∀ k, e.2.1.ownBlock = some k → w'.heap[k]? = w.heap[k]?) (h3 : ∀ k, e.2.2.ownBlock = some k → w'.heap[k]? = w.heap[k]?) : DraftV w' B e d :=
 ⟨h.base, h.blk.at h1, owns_at h.ks h2, owns_at h.ops h3⟩
def ptc (e : EntM) : List Value := [.pointer (some ⟨e.1, 0, none⟩)]
def openF (L : List DraftM) (E : List EntM) (l : List UInt8) : Option Nat := if atD L l < L.length then some (E.getD (atD L l) noEn).1 else none
structure MkI (w : World) (B gm : Nat) (L : List DraftM) (N : Nat) (lv : Value) (bo bz bk : Nat) (E : List EntM) : Prop where
 bx : Blk w gm 96 [lv, .map (some bo), .map (some bz), .map (some bk)]
 base : B ≤ gm ∧ B ≤ bo ∧ B ≤ bz ∧ B ≤ bk
 maps : bo ≠ bz ∧ bo ≠ bk ∧ bz ≠ bk
 row : w.ownsRow B 97 1 lv E.length (E.flatMap ptc)
 len : E.length = L.length
 opn : OpnM w bo (openF L E) N
 ses : ∃ ks, CntM w bz ks N ∧ ks.Nodup ∧ ∀ x, x ∈ ks ↔ x ∈ namesD L
 key : ∃ ks, CntM w bk ks N ∧ ks.Nodup ∧ ∀ x, x ∈ ks ↔ x ∈ keysD L
 dr : ∀ i, i < L.length → DraftV w B (E.getD i noEn) (L.getD i noD)
 ne : ∀ i j, i < j → j < L.length → (E.getD i noEn).1 ≠ (E.getD j noEn).1
 nek : ∀ i j, i < j → j < L.length → ∀ g, (E.getD i noEn).2.1.ownBlock = some g → (E.getD j noEn).2.1.ownBlock ≠ some g
 neo : ∀ i j, i < j → j < L.length → ∀ g, (E.getD i noEn).2.2.ownBlock = some g → (E.getD j noEn).2.2.ownBlock ≠ some g
theorem own_lt {w : World} {base size n : Nat} {e : TypeId} {v : Value} {xs : List Value} (h : w.ownsRow base e size v n xs) {k : Nat} (hk : v.ownBlock = some k) : k < w.heap.size := (h.lt k hk).2
theorem MkI.zlt {w : World} {B gm N bo bz bk : Nat} {L : List DraftM} {lv : Value} {E : List EntM} (h : MkI w B gm L N lv bo bz bk E) : bz < w.heap.size := by
 obtain ⟨ks, c1, -⟩ := h.ses
 exact c1.lt
theorem MkI.below {w w' : World} {B gm N bo bz bk : Nat} {L : List DraftM} {lv : Value} {E : List EntM} (h : MkI w B gm L N lv bo bz bk E) (hb : Below w.heap.size w w') : MkI w' B gm L N lv bo bz bk E := by
 have k : ∀ g, g < w.heap.size → w'.heap[g]? = w.heap[g]? := fun g hg => hb.block g hg
 obtain ⟨k1, c1, n1, m1⟩ := h.ses
 obtain ⟨k2, c2, n2, m2⟩ := h.key
 exact ⟨h.bx.at (k _ h.bx.lt), h.base, h.maps, owns_at h.row (fun g hg => k g (own_lt h.row hg)), h.len, h.opn.at (k _ h.opn.lt), ⟨k1, c1.at (k _ c1.lt), n1, m1⟩, ⟨k2, c2.at (k _ c2.lt), n2, m2⟩,
  fun i hi => (h.dr i hi).at (k _ (h.dr i hi).blk.lt) (fun g hg => k g (own_lt (h.dr i hi).ks hg)) (fun g hg => k g (own_lt (h.dr i hi).ops hg)), h.ne, h.nek, h.neo⟩
theorem getD_snoc_lt (E : List EntM) (e : EntM) (i : Nat) (h : i < E.length) : (E ++ [e]).getD i noEn = E.getD i noEn := by simp [List.getElem?_append_left h]
theorem getD_snoc_eq (E : List EntM) (e : EntM) : (E ++ [e]).getD E.length noEn = e := by simp
theorem getD_snoc_lt' (E : List DraftM) (e : DraftM) (i : Nat) (h : i < E.length) : (E ++ [e]).getD i noD = E.getD i noD := by simp [List.getElem?_append_left h]
theorem getD_snoc_eq' (E : List DraftM) (e : DraftM) : (E ++ [e]).getD E.length noD = e := by simp
theorem atD_snoc (L : List DraftM) (d : DraftM) (s : List UInt8) : atD (L ++ [d]) s = if atD L s < L.length then atD L s else if isAt s d = true then L.length else L.length + 1 := by
 unfold atD
 rw [List.findIdx_append]
 by_cases h : List.findIdx (isAt s) L < L.length
 ·rw [if_pos h, if_pos h]
 ·rw [if_neg h, if_neg h, List.findIdx_singleton]
  by_cases e : isAt s d = true
  ·rw [if_pos e, if_pos e, Nat.zero_add]
  ·rw [if_neg e, if_neg e, Nat.add_comm]
theorem CntM.mono {w : World} {b N N' : Nat} {ks : List (List UInt8)} (h : CntM w b ks N) (hN : N ≤ N') : CntM w b ks N' := by
 obtain ⟨D, h1, h2, h3, h4⟩ := h
 refine ⟨D, h1, h2, h3, fun l => ?_⟩
 obtain ⟨c, e1, e2⟩ := h4 l
 exact ⟨c, e1, fun hk => by have := e2 hk; omega⟩
theorem OpnM.mono {w : World} {b n n' : Nat} {f : List UInt8 → Option Nat} (h : OpnM w b f n) (hn : n ≤ n') : OpnM w b f n' := by
 obtain ⟨D, h1, h2⟩ := h
 exact ⟨D, h1.mono hn, h2⟩
theorem names_add {s : List UInt8} {ks M : List (List UInt8)} (hd : ks.Nodup) (hm : ∀ x, x ∈ ks ↔ x ∈ M) : (if s ∈ ks then ks else ks ++ [s]).Nodup ∧ ∀ x, x ∈ (if s ∈ ks then ks else ks ++ [s]) ↔ x ∈ M ++ [s] := by
 by_cases h : s ∈ ks
 ·rw [if_pos h]
  refine ⟨hd, fun x => ?_⟩
  rw [hm, List.mem_append, List.mem_singleton]
  exact ⟨fun h => .inl h, fun h' => h'.elim id (fun e => by rw [e]; exact (hm s).1 h)⟩
 ·rw [if_neg h]
  refine ⟨List.nodup_append.2 ⟨hd, by simp, fun a ha b hb => ?_⟩, fun x => by rw [List.mem_append, List.mem_append, hm]⟩
  rw [List.mem_singleton] at hb
  subst hb
  intro e
  subst e
  exact h ha
theorem MkI.mono {w : World} {B gm N N' bo bz bk : Nat} {L : List DraftM} {lv : Value} {E : List EntM} (h : MkI w B gm L N lv bo bz bk E) (hN : N ≤ N') : MkI w B gm L N' lv bo bz bk E := by
 obtain ⟨k1, c1, n1, m1⟩ := h.ses
 obtain ⟨k2, c2, n2, m2⟩ := h.key
 exact ⟨h.bx, h.base, h.maps, h.row, h.len, h.opn.mono hN, ⟨k1, c1.mono hN, n1, m1⟩, ⟨k2, c2.mono hN, n2, m2⟩, h.dr, h.ne, h.nek, h.neo⟩
theorem MkI.begin {w w' : World} {B gm N N' bo bz bk g : Nat} {L : List DraftM} {lv lv' : Value} {E : List EntM} (s : List UInt8) (ln : Int) (h : MkI w B gm L N lv bo bz bk E) (hno : ¬ atD L s < L.length) (hg : w.heap.size ≤ g) (hB : B ≤ g)
  (hs : ∀ k, k < w.heap.size → k ≠ gm → lv.ownBlock ≠ some k → k ≠ bo → k ≠ bz → w'.heap[k]? = w.heap[k]?) (hm : Blk w' gm 96 [lv', .map (some bo), .map (some bz), .map (some bk)])
  (hr : w'.ownsRow B 97 1 lv' (E.length + 1) (E.flatMap ptc ++ [.pointer (some ⟨g, 0, none⟩)])) (hd : Blk w' g 99 [.string (bs s), .slice none 0 0, .int .i64 ln, .int .i64 0, .int .i64 0, .slice none 0 0])
  (ho : OpnM w' bo (updF (openF L E) s (some g)) N') (hz : ∃ ks, CntM w' bz ks N' ∧ ks.Nodup ∧ ∀ x, x ∈ ks ↔ x ∈ namesD L ++ [s]) (hN : N ≤ N') : MkI w' B gm (L ++ [⟨s, [], ln, 0, [], true⟩]) N' lv' bo bz bk (E ++ [(g, .slice none 0 0, .slice none 0 0)]) := by
 obtain ⟨k1, c1, -⟩ := h.ses
 obtain ⟨k2, c2, n2, m2⟩ := h.key
 have hl := h.len
 -- what is none of the turned blocks
 have far : ∀ k t, k < w.heap.size → Ty w k t → t ≠ 96 → t ≠ 97 → w'.heap[k]? = w.heap[k]? := fun k t hk ht e1 e2 =>
  hs k hk (ht.ne h.bx.ty e1) (fun e => (ht.ne (owns_ty h.row e) e2) rfl) (fun e => h.opn.ty ht e.symm) (fun e => c1.ty ht e.symm)
 have lt : ∀ i, i < L.length → (E.getD i noEn).1 < w.heap.size := fun i hi => (h.dr i hi).blk.lt
 refine ⟨hm, h.base, h.maps, ?_, by rw [List.length_append, List.length_append, hl]; rfl, ?_, by rw [names_snoc]; exact hz, ⟨k2, (c2.at (hs bk c2.lt (c2.ty h.bx.ty) (fun e => c2.ty (owns_ty h.row e) rfl) (Ne.symm h.maps.2.1) (Ne.symm h.maps.2.2))).mono hN, n2, fun x => by rw [keys_snoc, List.append_nil]; exact m2 x⟩, fun i hi => ?_, fun i j hij hj => ?_, fun i j hij hj k hk => ?_, fun i j hij hj k hk => ?_⟩
 ·rw [List.length_append, List.flatMap_append]; exact hr
 ·have e : openF (L ++ [⟨s, [], ln, 0, [], true⟩]) (E ++ [(g, .slice none 0 0, .slice none 0 0)]) = updF (openF L E) s (some g) := by
   funext x
   unfold openF updF
   rw [atD_snoc]
   by_cases hx : x = s
   ·subst hx
    have e2 : isAt x (⟨x, [], ln, 0, [], true⟩ : DraftM) = true := by simp [isAt]
    rw [if_neg hno, if_pos e2, if_pos rfl, if_pos (by simp), ← hl, getD_snoc_eq]
   ·have e2 : ¬ isAt x (⟨s, [], ln, 0, [], true⟩ : DraftM) = true := by simp [isAt, Ne.symm hx]
    rw [if_neg e2, if_neg hx]
    by_cases h3 : atD L x < L.length
    ·rw [if_pos h3, if_pos (by simp; omega), getD_snoc_lt _ _ _ (by omega)]; exact (if_pos h3).symm
    ·rw [if_neg h3, if_neg (by simp)]; exact (if_neg h3).symm
  rw [e]; exact ho
 ·rw [List.length_append] at hi
  have hi' : i < L.length ∨ i = L.length := by simp at hi; omega
  rcases hi' with hi' | rfl
  ·rw [getD_snoc_lt _ _ _ (by omega), getD_snoc_lt' _ _ _ hi']
   have d := h.dr i hi'
   exact d.at (far _ _ d.blk.lt d.blk.ty (by decide) (by decide)) (fun k hk => far k _ (own_lt d.ks hk) (owns_ty d.ks hk) (by decide) (by decide)) (fun k hk => far k _ (own_lt d.ops hk) (owns_ty d.ops hk) (by decide) (by decide))
  ·rw [getD_snoc_eq', ← hl, getD_snoc_eq]
   exact ⟨hB, hd, World.ownsRow_nil _ _ _ _, World.ownsRow_nil _ _ _ _⟩
 all_goals
  rw [List.length_append] at hj
  have hj' : j < L.length ∨ j = L.length := by simp at hj; omega
 ·rcases hj' with hj' | rfl
  ·rw [getD_snoc_lt _ _ _ (by omega), getD_snoc_lt _ _ _ (by omega)]
   exact h.ne i j hij hj'
  ·have := lt i hij
   rw [getD_snoc_lt _ _ _ (by omega), ← hl, getD_snoc_eq]
   simp only
   omega
 ·rcases hj' with hj' | rfl
  ·rw [getD_snoc_lt _ _ _ (by omega)] at hk ⊢
   exact h.nek i j hij hj' k hk
  ·rw [← hl, getD_snoc_eq]
   simp [Value.ownBlock]
 ·rcases hj' with hj' | rfl
  ·rw [getD_snoc_lt _ _ _ (by omega)] at hk ⊢
   exact h.neo i j hij hj' k hk
  ·rw [← hl, getD_snoc_eq]
   simp [Value.ownBlock]
theorem getD_setE (E : List EntM) (i j : Nat) (e : EntM) (hi : i < E.length) : (E.set i e).getD j noEn = if i = j then e else E.getD j noEn := by
 by_cases h : i = j
 ·subst h; simp [hi]
 ·rw [if_neg h]; simp [List.getElem?_set_ne h]
theorem flat_ptc (E : List EntM) (i : Nat) (e : EntM) (hi : i < E.length) (h : e.1 = (E.getD i noEn).1) : (E.set i e).flatMap ptc = E.flatMap ptc := by
 rw [List.flatMap_def, List.flatMap_def]
 congr 1
 apply List.ext_getElem
 ·simp
 ·intro j h1 h2
  simp only [List.length_map] at h2
  rw [List.getElem_map, List.getElem_map, List.getElem_set]
  by_cases e2 : i = j
  ·subst e2
   have e3 : E.getD i noEn = E[i] := by simp [hi]
   rw [if_pos rfl]; unfold ptc; rw [h, e3]
  ·rw [if_neg e2]
theorem MkI.set {w w' : World} {B gm N N' bo bz bk : Nat} {L : List DraftM} {lv : Value} {E : List EntM} (h : MkI w B gm L N lv bo bz bk E) (i : Nat) (hi : i < L.length) (e : EntM) (d : DraftM) (he : e.1 = (E.getD i noEn).1) (hn : d.nm = (L.getD i noD).nm)
  (hs : ∀ k, k < w.heap.size → k ≠ (E.getD i noEn).1 → (E.getD i noEn).2.1.ownBlock ≠ some k → (E.getD i noEn).2.2.ownBlock ≠ some k → k ≠ bo → k ≠ bk → w'.heap[k]? = w.heap[k]?) (hd : DraftV w' B e d)
  (hk : e.2.1.ownBlock = (E.getD i noEn).2.1.ownBlock ∨ ∃ g, e.2.1.ownBlock = some g ∧ w.heap.size ≤ g) (ho : e.2.2.ownBlock = (E.getD i noEn).2.2.ownBlock ∨ ∃ g, e.2.2.ownBlock = some g ∧ w.heap.size ≤ g)
  (hp : OpnM w' bo (openF (L.set i d) (E.set i e)) N') (hy : ∃ ks, CntM w' bk ks N' ∧ ks.Nodup ∧ ∀ x, x ∈ ks ↔ x ∈ keysD (L.set i d)) (hN : N ≤ N') : MkI w' B gm (L.set i d) N' lv bo bz bk (E.set i e) := by
 obtain ⟨k1, c1, n1, m1⟩ := h.ses
 obtain ⟨k2, c2, n2, m2⟩ := h.key
 have hl := h.len
 have hiE : i < E.length := by omega
 have di := h.dr i hi
 have far : ∀ k t, k < w.heap.size → Ty w k t → t ≠ 99 → t ≠ 9 → t ≠ 50 → w'.heap[k]? = w.heap[k]? := fun k t hk ht e1 e2 e3 =>
  hs k hk (ht.ne di.blk.ty e1) (fun e => (ht.ne (owns_ty di.ks e) e2) rfl) (fun e => (ht.ne (owns_ty di.ops e) e3) rfl) (fun e => h.opn.ty ht e.symm) (fun e => c2.ty ht e.symm)
 have near : ∀ j, j < L.length → j ≠ i → DraftV w' B (E.getD j noEn) (L.getD j noD) := fun j hj hji => by
  have dj := h.dr j hj
  have q1 : (E.getD j noEn).1 ≠ (E.getD i noEn).1 := by
   rcases Nat.lt_or_gt_of_ne hji with h1 | h1
   ·exact h.ne j i h1 hi
   ·exact (h.ne i j h1 hj).symm
  have q2 : ∀ k, (E.getD j noEn).2.1.ownBlock = some k → (E.getD i noEn).2.1.ownBlock ≠ some k := fun k h3 h4 => by
   rcases Nat.lt_or_gt_of_ne hji with h1 | h1
   ·exact h.nek j i h1 hi k h3 h4
   ·exact h.nek i j h1 hj k h4 h3
  have q3 : ∀ k, (E.getD j noEn).2.2.ownBlock = some k → (E.getD i noEn).2.2.ownBlock ≠ some k := fun k h3 h4 => by
   rcases Nat.lt_or_gt_of_ne hji with h1 | h1
   ·exact h.neo j i h1 hi k h3 h4
   ·exact h.neo i j h1 hj k h4 h3
  refine dj.at (hs _ dj.blk.lt q1 (fun e => (dj.blk.ty.ne (owns_ty di.ks e) (by decide)) rfl) (fun e => (dj.blk.ty.ne (owns_ty di.ops e) (by decide)) rfl) (fun e => h.opn.ty dj.blk.ty e.symm) (fun e => c2.ty dj.blk.ty e.symm)) (fun k hk => ?_) (fun k hk => ?_)
  ·have t := owns_ty dj.ks hk
   exact hs k (own_lt dj.ks hk) (t.ne di.blk.ty (by decide)) (q2 k hk) (fun e => (t.ne (owns_ty di.ops e) (by decide)) rfl) (fun e => h.opn.ty t e.symm) (fun e => c2.ty t e.symm)
  ·have t := owns_ty dj.ops hk
   exact hs k (own_lt dj.ops hk) (t.ne di.blk.ty (by decide)) (fun e => (t.ne (owns_ty di.ks e) (by decide)) rfl) (q3 k hk) (fun e => h.opn.ty t e.symm) (fun e => c2.ty t e.symm)
 refine ⟨h.bx.at (far _ _ h.bx.lt h.bx.ty (by decide) (by decide) (by decide)), h.base, h.maps, ?_, by rw [List.length_set, List.length_set]; exact hl, hp, ⟨k1, (c1.at (hs bz c1.lt (c1.ty di.blk.ty) (fun e => c1.ty (owns_ty di.ks e) rfl) (fun e => c1.ty (owns_ty di.ops e) rfl) (Ne.symm h.maps.1) h.maps.2.2)).mono hN, n1, fun x => by rw [names_set L i d hi hn]; exact m1 x⟩, hy, fun j hj => ?_, fun a b hab hb => ?_, fun a b hab hb k h3 h4 => ?_, fun a b hab hb k h3 h4 => ?_⟩
 ·rw [List.length_set, flat_ptc E i e hiE he]
  exact owns_at h.row (fun k hk => far k _ (own_lt h.row hk) (owns_ty h.row hk) (by decide) (by decide) (by decide))
 ·rw [List.length_set] at hj
  rw [getD_setE E i j e hiE, getD_setD L i j d hi]
  by_cases q : i = j
  ·rw [if_pos q, if_pos q]; exact hd
  ·rw [if_neg q, if_neg q]; exact near j hj (fun e => q e.symm)
 all_goals rw [List.length_set] at hb
 ·rw [getD_setE E i a e hiE, getD_setE E i b e hiE]
  have q1 : (if i = a then e else E.getD a noEn).1 = (E.getD a noEn).1 := by
   by_cases q : i = a
   ·rw [if_pos q, he, q]
   ·rw [if_neg q]
  have q2 : (if i = b then e else E.getD b noEn).1 = (E.getD b noEn).1 := by
   by_cases q : i = b
   ·rw [if_pos q, he, q]
   ·rw [if_neg q]
  rw [q1, q2]
  exact h.ne a b hab hb
 ·rw [getD_setE E i a e hiE] at h3
  rw [getD_setE E i b e hiE] at h4
  by_cases qa : i = a
  ·rw [if_pos qa] at h3
   rw [if_neg (by omega)] at h4
   rcases hk with hk | ⟨g, hk, hg⟩
   ·rw [hk, qa] at h3; exact h.nek a b hab hb k h3 h4
   ·rw [hk] at h3
    have := own_lt (h.dr b hb).ks h4
    injection h3 with h3
    omega
  ·rw [if_neg qa] at h3
   by_cases qb : i = b
   ·rw [if_pos qb] at h4
    rcases hk with hk | ⟨g, hk, hg⟩
    ·rw [hk, qb] at h4; exact h.nek a b hab hb k h3 h4
    ·rw [hk] at h4
     have := own_lt (h.dr a (by omega)).ks h3
     injection h4 with h4
     omega
   ·rw [if_neg qb] at h4; exact h.nek a b hab hb k h3 h4
 ·rw [getD_setE E i a e hiE] at h3
  rw [getD_setE E i b e hiE] at h4
  by_cases qa : i = a
  ·rw [if_pos qa] at h3
   rw [if_neg (by omega)] at h4
   rcases ho with hk | ⟨g, hk, hg⟩
   ·rw [hk, qa] at h3; exact h.neo a b hab hb k h3 h4
   ·rw [hk] at h3
    have := own_lt (h.dr b hb).ops h4
    injection h3 with h3
    omega
  ·rw [if_neg qa] at h3
   by_cases qb : i = b
   ·rw [if_pos qb] at h4
    rcases ho with hk | ⟨g, hk, hg⟩
    ·rw [hk, qb] at h4; exact h.neo a b hab hb k h3 h4
    ·rw [hk] at h4
     have := own_lt (h.dr a (by omega)).ops h3
     injection h4 with h4
     omega
   ·rw [if_neg qb] at h4; exact h.neo a b hab hb k h3 h4
theorem findIdx_congr {α : Type} (p q : α → Bool) : ∀ (A B : List α), A.length = B.length → (∀ i (h1 : i < A.length) (h2 : i < B.length), p A[i] = q B[i]) → A.findIdx p = B.findIdx q
 | [], [], _, _ => rfl
 | [], b :: B, h, _ => by cases h
 | a :: A, [], h, _ => by cases h
 | a :: A, b :: B, h, hp => by
  rw [List.findIdx_cons, List.findIdx_cons]
  have h0 := hp 0 (by simp) (by simp)
  simp only [List.getElem_cons_zero] at h0
  rw [h0, findIdx_congr p q A B (by simpa using h) (fun i h1 h2 => hp (i + 1) (Nat.succ_lt_succ h1) (Nat.succ_lt_succ h2))]
theorem openF_more (L : List DraftM) (E : List EntM) (i : Nat) (d : DraftM) (e : EntM) (hi : i < L.length) (hl : E.length = L.length) (hn : d.nm = (L.getD i noD).nm) (ho : d.op = (L.getD i noD).op) (he : e.1 = (E.getD i noEn).1) : openF (L.set i d) (E.set i e) = openF L E := by
 funext s
 have h1 : atD (L.set i d) s = atD L s := by
  refine findIdx_congr _ _ _ _ (by simp) (fun j g1 g2 => ?_)
  rw [List.getElem_set]
  by_cases q : i = j
  ·subst q
   rw [if_pos rfl]
   have e3 : L.getD i noD = L[i] := by simp [hi]
   unfold isAt; rw [hn, ho, e3]
  ·rw [if_neg q]
 unfold openF
 rw [h1, List.length_set, getD_setE E i _ e (by omega)]
 by_cases q : i = atD L s
 ·rw [if_pos q, he, q]
 ·rw [if_neg q]
theorem openF_end (L : List DraftM) (E : List EntM) (hL : GoodL L) (s : List UInt8) (d : DraftM) (e : EntM) (hi : atD L s < L.length) (hl : E.length = L.length) (ho : d.op = false) : openF (L.set (atD L s) d) (E.set (atD L s) e) = updF (openF L E) s none := by
 obtain ⟨o1, o2⟩ := atD_spec L s hi
 funext x
 unfold openF updF
 by_cases hx : x = s
 ·subst hx
  rw [if_pos rfl]
  refine if_neg ?_
  rw [List.length_set]
  intro h9
  have h8 : atD (L.set (atD L x) d) x < (L.set (atD L x) d).length := by rw [List.length_set]; exact h9
  obtain ⟨p1, p2⟩ := atD_spec _ x h8
  rw [getD_setD L _ _ d hi] at p1 p2
  by_cases q : atD L x = atD (L.set (atD L x) d) x
  ·rw [if_pos q, ho] at p1; cases p1
  ·rw [if_neg q] at p1 p2
   rcases Nat.lt_or_gt_of_ne q with h1 | h1
   ·exact hL.one _ _ h1 h9 o1 p1 (by rw [o2, p2])
   ·exact hL.one _ _ h1 hi p1 o1 (by rw [o2, p2])
 ·rw [if_neg hx]
  have h1 : atD (L.set (atD L s) d) x = atD L x := by
   refine findIdx_congr _ _ _ _ (by simp) (fun j g1 g2 => ?_)
   rw [List.getElem_set]
   by_cases q : atD L s = j
   ·rw [if_pos q]
    have e3 : L.getD j noD = L[j] := by simp [g2]
    have e4 : L[j].nm = s := by rw [← e3, ← q]; exact o2
    unfold isAt
    rw [ho, e4, decide_eq_false (Ne.symm hx)]
    simp
   ·rw [if_neg q]
  rw [h1, List.length_set, getD_setE E _ _ e (by omega)]
  by_cases q : atD L s = atD L x
  ·by_cases h2 : atD L x < L.length
   ·have := (atD_spec L x h2).2
    rw [← q, o2] at this
    exact absurd this.symm hx
   ·rw [if_neg h2]; exact (if_neg h2).symm
  ·rw [if_neg q]
end Go.Proofs.YthgbfaoblnkniaaGreatDoor
