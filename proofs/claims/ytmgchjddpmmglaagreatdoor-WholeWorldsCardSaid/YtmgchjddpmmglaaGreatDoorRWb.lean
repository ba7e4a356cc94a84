/-
  Layers 9 and 11 in plain words: a table is names in order; what a history that may be has; no program in sight. No conditions.
  The walks of layer 2 (name): what each function of package name, and of its reference, returns; memory that was there stands as it was. No conditions.
  The walk of layer 1's reference (line): how many bytes the rune at a place has, 0 where there is none. No conditions.
  Layer 1 (line) in plain words: a text's lines, in the program's way and in the reference's; no program in sight. No conditions.
  DERIVED: THE SHELF's CONTRACTS AT THIS DUMP, IN PLAIN WORDS (tools/lay-plain.mjs out of 'TrydShelfL4.lean', which tools/lay-shelf.mjs wrote): THE SAME DECLARATIONS UNDER THE SAME NAMES: 'import', 'namespace', 'open', 'def', 'theorem' AND NOTHING ELSE: no command of the shelf's: FOR A HAND-IN. Each laying: the table of numbers ('.._ren') and one theorem, a field a fact of the dump's own or the kernel's comparison; each contract: ONE APPLICATION.
  The walks of layer 1 (line): how many runes a text has, in the program and in its reference; whether two lists of texts are the same. No conditions.
  Slices of texts: what one holds, and the walk of the comparison of two. No conditions.
  The walks of layer 1 (line): a text's lines, in the program and in its reference. No conditions but that internal/bytealg.MaxLen holds a number.
  Layer 1 (line) in plain words: a text without blanks at its ends, as strings.TrimFunc goes and byte by byte; no program in sight. No conditions.
  The walks of layer 1 (line): the runes ahead of a byte, and a text without blanks, in the program and in its reference; the statement LineRunes. No conditions but that unicode/utf8's two tables are as their initialisers lay them and that internal/bytealg.MaxLen holds a number.
  Layer 6 (split) in plain words: a line's words, by bytes and by runes; no program in sight. No conditions.
  DERIVED: THE SHELF's CONTRACTS AT THIS DUMP, IN PLAIN WORDS (tools/lay-plain.mjs out of 'TrydShelfS4.lean', which tools/lay-shelf.mjs wrote): THE SAME DECLARATIONS UNDER THE SAME NAMES: 'import', 'namespace', 'open', 'def', 'theorem' AND NOTHING ELSE: no command of the shelf's: FOR A HAND-IN. Each laying: the table of numbers ('.._ren') and one theorem, a field a fact of the dump's own or the kernel's comparison; each contract: ONE APPLICATION.
-/
import Derived.Test.YtmgchjddpmmglaaGreatDoorRWa
import Derived.Lib.SplitLaws
import Derived.Ground.NamesProg
import Derived.Shelf.LaysM
import Derived.Shelf.Strings.Prefix
import Derived.Shelf.Strings.Split
import Derived.Test.YtmgchjddpmmglaaGreatDoorProg
import Derived.Laws.RangeAny
import Derived.WalkKit
import Derived.Laws.AppendOwn
import Derived.Shelf.GgClosure.StringsTrimFunc
import Derived.Shelf.Strings.Cut
import Derived.Shelf.Strings.Search3
import Derived.Shelf.Strings.OnBuilder
namespace Go.Proofs.YtmgchjddpmmglaaGreatDoor
open Go.RowKit Go.Lib
theorem isT_names (L : List (List UInt8)) : isT L = true ↔ (∀ x ∈ L, nameL x = true) ∧ L.Pairwise (fun a b => ltN a b = true) := by
 constructor
 ·intro h
  unfold isT at h
  rw [List.all_eq_true] at h
  have hg : ∀ i (hi : i < L.length), nameL L[i] = true := fun i hi => by
   have := h i (List.mem_range.2 hi)
   unfold goodT at this
   simp only [Bool.and_eq_true] at this
   simpa [hi] using this.1
  have hs : ∀ i (hi : i + 1 < L.length), ltN L[i] L[i + 1] = true := fun i hi => by
   have := h (i + 1) (List.mem_range.2 hi)
   rw [good_next] at this
   simp only [Bool.and_eq_true] at this
   simpa [hi, show i < L.length by omega] using this.2
  refine ⟨fun x hx => ?_, ?_⟩
  ·obtain ⟨i, hi, rfl⟩ := List.getElem_of_mem hx
   exact hg i hi
  ·rw [List.pairwise_iff_getElem]
   intro i j hi hj hij
   induction j with
   | zero => exact absurd hij (Nat.not_lt_zero i)
   | succ j ih =>
    by_cases e : i = j
    ·subst e; exact hs i hj
    ·exact ltN_trans _ _ _ (ih (by omega) (by omega)) (hs j hj)
 ·rintro ⟨h1, h2⟩
  refine isT_yes L fun j hj => ?_
  have e0 : L.getD j [] = L[j] := by simp [hj]
  cases j with
  | zero => rw [good_first, e0]; exact h1 _ (List.getElem_mem hj)
  | succ j =>
   have e1 : L.getD j [] = L[j] := by simp [show j < L.length by omega]
   rw [good_next, e0, e1, h1 _ (List.getElem_mem hj), List.pairwise_iff_getElem.1 h2 j (j + 1) (by omega) hj (by omega)]
   rfl
structure MayH (h : HistM) : Prop where
 t0 : isT h.1 = true
 t1 : isT h.2.1 = true
 n0 : h.1.length ≤ 20
 n1 : h.2.1.length ≤ 40
 n2 : h.2.2.length ≤ 40
 txn : ∀ t ∈ h.2.2, okTxn h.1.length t = true
 op : ∀ o ∈ allOps h, okOp h.2.1.length o = true
 u0 : allUsed h.1.length (h.2.2.map (·.1)) = true
 u1 : allUsed h.2.1.length ((allOps h).map (·.2.1)) = true
theorem mayH_iff (h : HistM) : mayH h = true ↔ MayH h := by
 unfold mayH okHeads usedH
 simp only [Bool.and_eq_true, decide_eq_true_eq, List.all_eq_true]
 constructor
 ·rintro ⟨⟨a, b, c, d, e⟩, f, g, u, v⟩
  exact ⟨a, b, c, d, e, f, g, u, v⟩
 ·rintro ⟨a, b, c, d, e, f, g, u, v⟩
  exact ⟨⟨a, b, c, d, e⟩, f, g, u, v⟩
theorem okOp_key {m : Nat} {o : OpM} (h : okOp m o = true) : 0 ≤ o.2.1 ∧ o.2.1 < m := by
 unfold okOp inside at h
 simp only [Bool.and_eq_true, decide_eq_true_eq] at h
 exact h.1
end Go.Proofs.YtmgchjddpmmglaaGreatDoor

namespace Go.Proofs.YtmgchjddpmmglaaGreatDoor
open Go.RowKit Go.Lib
def oneAt (l : List UInt8) (p : Nat) : Nat × Nat := decodeL (l.drop p)
theorem oneAt_N (l : List UInt8) (p : Nat) : oneAt l p = decodeN (l.length - p) (l.getD p 0).toNat (l.getD (p + 1) 0).toNat (l.getD (p + 2) 0).toNat (l.getD (p + 3) 0).toNat := by
 unfold oneAt
 rw [decodeL_N, List.length_drop, getD_dropU, getD_dropU, getD_dropU, getD_dropU, Nat.add_zero]
theorem getD_at (l : List UInt8) (p : Nat) (h : p < l.length) : l.getD p 0 = l[p] := by simp [h]
set_option maxRecDepth 100000 in
set_option maxHeartbeats 1000000 in
theorem one_low (l : List UInt8) (p : Nat) (hp : p < l.length) (h : l[p].toNat < 128 ∨ (128 ≤ l[p].toNat ∧ l[p].toNat < 194) ∨ 244 < l[p].toNat) (w : World) :
  Calls Tryz.prog 217 #[.string (bs l), .int .i64 p] w fun e w' => e = .returned (.tuple #[.int .i64 ((oneAt l p).2 : Nat), .int .i64 ((oneAt l p).1 : Nat)]) ∧ w = w' := by
 have H := Lib.hid (oneAt_N l p)
 have h0 := getD_at l p hp
 rcases h with h | ⟨h, h'⟩ | h
 ·go_enter Tryz.func217, Tryz.ntmps217
  go_wp2
  go_ret2
  rw [H.out, h0]
  simp [decodeN, h]
 ·go_enter Tryz.func217, Tryz.ntmps217
  go_wp2
  go_ret2
  rw [H.out, h0, decodeN_bad _ _ _ _ _ (.inl ⟨h, h'⟩)]
  exact ⟨rfl, rfl⟩
 ·have hb := l[p].toNat_lt
  go_enter Tryz.func217, Tryz.ntmps217
  go_wp2
  go_ret2
  rw [H.out, h0, decodeN_bad _ _ _ _ _ (.inr ⟨by omega, hb⟩)]
  exact ⟨rfl, rfl⟩
set_option maxRecDepth 100000 in
set_option maxHeartbeats 4000000 in
theorem one_two (l : List UInt8) (p : Nat) (hp : p < l.length) (hs : l.length ≤ 4611686018427387904) (h : 194 ≤ l[p].toNat) (h' : l[p].toNat ≤ 223) (w : World) :
  Calls Tryz.prog 217 #[.string (bs l), .int .i64 p] w fun e w' => e = .returned (.tuple #[.int .i64 ((oneAt l p).2 : Nat), .int .i64 ((oneAt l p).1 : Nat)]) ∧ w = w' := by
 have h0 := getD_at l p hp
 have hN := oneAt_N l p
 rw [h0, dec2 _ _ _ _ _ h h'] at hN
 by_cases hl : p + 1 < l.length
 ·have h1 := getD_at l (p + 1) (by omega)
  rw [h1] at hN
  have hb1 := l[p + 1].toNat_lt
  have H := Lib.hid hN
  clear hN h0 h1
  rcases (show (l[p + 1].toNat < 128) ∨ (128 ≤ l[p + 1].toNat ∧ 191 < l[p + 1].toNat) ∨ (128 ≤ l[p + 1].toNat ∧ l[p + 1].toNat ≤ 191) by omega) with ⟨r0⟩ | ⟨r0, r1⟩ | ⟨r0, r1⟩
  ·go_enter Tryz.func217, Tryz.ntmps217; go_wp2; go_rounds 2; go_ret2; rw [H.out, if_neg (by omega)]; exact ⟨rfl, rfl⟩
  ·go_enter Tryz.func217, Tryz.ntmps217; go_wp2; go_rounds 2; go_ret2; rw [H.out, if_neg (by omega)]; exact ⟨rfl, rfl⟩
  ·go_enter Tryz.func217, Tryz.ntmps217; go_wp2; go_rounds 2; go_ret2; rw [H.out, if_pos (by omega)]; refine ⟨?_, rfl⟩; simp; omega
 ·have H := Lib.hid hN
  clear hN h0
  go_enter Tryz.func217, Tryz.ntmps217; go_wp2; go_ret2; rw [H.out, if_neg (by omega)]; exact ⟨rfl, rfl⟩
end Go.Proofs.YtmgchjddpmmglaaGreatDoor

namespace Go.Proofs.YtmgchjddpmmglaaGreatDoor
open Go.RowKit Go.Lib
def szD (d : Nat × Nat) : Nat := if d.1 = 65533 ∧ d.2 = 1 then 0 else d.2
def sizeAt (l : List UInt8) (p : Nat) : Nat := szD (oneAt l p)
end Go.Proofs.YtmgchjddpmmglaaGreatDoor

namespace Go.Proofs.YtmgchjddpmmglaaGreatDoor
open Go.Lib
def linesAux : List UInt8 → List UInt8 → List (List UInt8)
 | cur, [] => if cur = [] then [] else [cur]
 | cur, b :: t => if b = 10 then cur :: linesAux [] t else linesAux (cur ++ [b]) t
def linesL (s : List UInt8) : List (List UInt8) := linesAux [] s
def partAux : List UInt8 → List UInt8 → List (List UInt8)
 | cur, [] => [cur]
 | cur, b :: t => if b = 10 then cur :: partAux [] t else partAux (cur ++ [b]) t
theorem index_cons_ne (b : UInt8) (l : List UInt8) (h : b ≠ 10) : index (b :: l) [10] = if index l [10] == -1 then -1 else index l [10] + 1 := by
 have hp : ([10] : List UInt8).isPrefixOf (b :: l) = false := by simp [List.isPrefixOf, Ne.symm h]
 rw [index, hp]
 simp
theorem split_part : ∀ s : List UInt8, ∃ h t, splitK [10] 0 (count s [10]) s = h :: t ∧ ∀ cur, partAux cur s = (cur ++ h) :: t
 | [] => ⟨[], [], by rw [count_miss (by simp [index])]; rfl, fun cur => by simp [partAux]⟩
 | b :: s => by
  obtain ⟨h, t, ih, ic⟩ := split_part s
  by_cases hb : b = 10
  ·subst hb
   have hi : index ((10 : UInt8) :: s) [10] = 0 := by rw [index]; simp [List.isPrefixOf]
   refine ⟨[], h :: t, ?_, fun cur => ?_⟩
   ·rw [count_cons_eq, Nat.add_comm 1]
    unfold splitK
    rw [hi, if_neg (by decide)]
    simp [ih]
   ·have := ic []
    simp only [partAux, if_pos]
    rw [this]
    simp
  ·rw [count_cons_ne b 10 s hb]
   have hx := index_cons_ne b s hb
   cases hk : count s [10] with
   | zero =>
    rw [hk] at ih
    refine ⟨b :: s, [], rfl, fun cur => ?_⟩
    simp only [splitK, List.cons.injEq] at ih
    obtain ⟨rfl, rfl⟩ := ih
    simp only [partAux, if_neg hb, ic]
    simp
   | succ k =>
    rw [hk] at ih
    obtain ⟨i, hi⟩ : ∃ i : Nat, index s [10] = i := by
     rcases index_spec s [10] with ⟨h1, -⟩ | ⟨i, h1, -⟩
     ·rw [count_miss h1] at hk; omega
     ·exact ⟨i, h1⟩
    have hm : ¬ ((i : Int) == -1) = true := fun e => by have := beq_iff_eq.1 e; omega
    rw [hi, if_neg hm] at hx
    have hm' : ¬ ((i : Int) + 1 == -1) = true := fun e => by have := beq_iff_eq.1 e; omega
    have e1 : ((i : Int)).toNat = i := by omega
    have e2 : ((i : Int) + 1).toNat = i + 1 := by omega
    unfold splitK at ih ⊢
    rw [hi, if_neg hm, e1] at ih
    rw [hx, if_neg hm', e2]
    simp only [List.cons.injEq] at ih
    obtain ⟨rfl, rfl⟩ := ih
    refine ⟨b :: List.take i s, splitK [10] 0 k (List.drop (i + 1) s), ?_, fun cur => ?_⟩
    ·simp only [List.length_cons, List.length_nil, Nat.add_zero, Nat.zero_add, List.take_succ_cons, List.drop_succ_cons]
    ·simp only [partAux, if_neg hb, ic]
     simp
theorem split_eq (s : List UInt8) : splitK [10] 0 (count s [10]) s = partAux [] s := by
 obtain ⟨h, t, h1, h2⟩ := split_part s
 rw [h1, h2]
 rfl
theorem lines_fed : ∀ (t cur : List UInt8), linesAux cur (t ++ [10]) = partAux cur t
 | [], cur => by simp [linesAux, partAux]
 | b :: t, cur => by
  simp only [List.cons_append, linesAux, partAux]
  rw [lines_fed t, lines_fed t]
theorem lines_bare : ∀ (s cur : List UInt8), (cur ≠ [] ∨ s ≠ []) → s.getLast? ≠ some 10 → linesAux cur s = partAux cur s
 | [], cur, h, _ => by
  have : cur ≠ [] := by simpa using h
  simp [linesAux, partAux, this]
 | [b], cur, _, hl => by
  have : ¬ b = 10 := by simpa using hl
  simp [linesAux, partAux, this]
 | b :: c :: t, cur, _, hl => by
  have hl' : (c :: t).getLast? ≠ some 10 := by simpa [List.getLast?_cons_cons] using hl
  simp only [linesAux, partAux]
  by_cases hb : b = 10
  ·rw [if_pos hb, if_pos hb]
   exact congrArg _ (lines_bare (c :: t) [] (.inr (by simp)) hl')
  ·rw [if_neg hb, if_neg hb]
   exact lines_bare (c :: t) _ (.inr (by simp)) hl'
theorem snoc_cases (s : List UInt8) : s = [] ∨ ∃ t b, s = t ++ [b] := by
 rcases List.eq_nil_or_concat s with h | ⟨t, b, h⟩
 ·exact .inl h
 ·exact .inr ⟨t, b, by simpa using h⟩
theorem suffix_snoc (t : List UInt8) (b : UInt8) : hasSuffix (t ++ [b]) [10] = decide (b = 10) := by
 unfold hasSuffix
 rw [Bool.eq_iff_iff]
 rw [List.isSuffixOf_iff_suffix]
 simp only [decide_eq_true_eq]
 constructor
 ·rintro ⟨u, hu⟩
  have := List.append_inj_right' hu rfl
  simpa using this.symm
 ·rintro rfl
  exact ⟨t, rfl⟩
theorem split_lines (s : List UInt8) (h : s ≠ []) : partAux [] (trimSuffix s [10]) = linesL s := by
 rcases snoc_cases s with h0 | ⟨t, b, rfl⟩
 ·exact absurd h0 h
 ·unfold trimSuffix linesL
  rw [suffix_snoc]
  by_cases hb : b = 10
  ·subst hb
   simp only [decide_true, if_true]
   rw [lines_fed]
   simp
  ·simp only [hb, decide_false]
   rw [lines_bare _ _ (.inr h) (by simpa using hb)]
   rfl
def resGo (full : List (List UInt8)) : Nat → List (List UInt8) → List (List UInt8) × Nat × Nat
 | _, [] => (full, 0, 0)
 | n, x :: r => if validD x then resGo full (n + 1) r else ([], n + 1, 5)
def ofL (s : List UInt8) : List (List UInt8) × Nat × Nat := if 65536 < s.length then ([], 0, 6) else resGo (linesL s) 0 (linesL s)
theorem resGo_full (full : List (List UInt8)) : ∀ (n : Nat) (r : List (List UInt8)), (resGo full n r).2.2 = 0 → (resGo full n r).1 = full ∧ (resGo full n r).2.1 = 0
 | _, [], _ => ⟨rfl, rfl⟩
 | n, x :: r, h => by
  unfold resGo at h ⊢
  split at h
  ·rename_i hv
   rw [if_pos hv]
   exact resGo_full full (n + 1) r h
  ·simp at h
theorem resGo_bad (full : List (List UInt8)) : ∀ (n : Nat) (r : List (List UInt8)), (resGo full n r).2.2 ≠ 0 → (resGo full n r).1 = [] ∧ (resGo full n r).2.2 = 5
 | _, [], h => absurd rfl h
 | n, x :: r, h => by
  unfold resGo at h ⊢
  split at h
  ·rename_i hv
   rw [if_pos hv]
   exact resGo_bad full (n + 1) r h
  ·rename_i hv
   rw [if_neg hv]
   exact ⟨rfl, rfl⟩
theorem lines_len : ∀ (t cur : List UInt8), (linesAux cur t).length ≤ t.length + 1
 | [], cur => by
  unfold linesAux
  split <;> simp
 | b :: t, cur => by
  unfold linesAux
  split
  ·have := lines_len t []
   simp only [List.length_cons]; omega
  ·have := lines_len t (cur ++ [b])
   simp only [List.length_cons]; omega
def runesN (l : List UInt8) : Nat × Bool := if validD l then ((runesU l).length, true) else (0, false)
def runesFrom (l : List UInt8) (p n : Nat) : Nat × Bool := if validD (l.drop p) then (n + (runesU (l.drop p)).length, true) else (0, false)
theorem runesFrom_start (l : List UInt8) : runesFrom l 0 0 = runesN l := by simp [runesFrom, runesN]
theorem runesFrom_end (l : List UInt8) (p n : Nat) (h : l.length ≤ p) : runesFrom l p n = (n, true) := by
 unfold runesFrom
 rw [List.drop_eq_nil_of_le h]
 rfl
theorem one_bounds (l : List UInt8) (p : Nat) (hp : p < l.length) : 1 ≤ (oneAt l p).2 ∧ p + (oneAt l p).2 ≤ l.length := by
 have hne : l.drop p ≠ [] := by
  intro e
  have := congrArg List.length e
  simp at this
  omega
 have hw := decodeL_le' (l.drop p) hne
 rw [List.length_drop] at hw
 exact ⟨hw.1, by unfold oneAt; omega⟩
theorem runesFrom_step (l : List UInt8) (p n : Nat) (hp : p < l.length) :
  runesFrom l p n = if sizeAt l p = 0 then (0, false) else runesFrom l (p + (oneAt l p).2) (n + 1) := by
 have hne : l.drop p ≠ [] := by
  intro e
  have := congrArg List.length e
  simp at this
  omega
 have hw := one_bounds l p hp
 unfold runesFrom
 rw [validD_step _ hne, runesU_step _ hne, List.drop_drop]
 have e : sizeAt l p = szD (decodeL (l.drop p)) := rfl
 have eo : oneAt l p = decodeL (l.drop p) := rfl
 rw [e, eo]
 rw [eo] at hw
 unfold szD
 by_cases h : (decodeL (l.drop p)).1 = 65533 ∧ (decodeL (l.drop p)).2 = 1
 ·rw [if_pos h, if_pos h, if_pos rfl]
  rfl
 ·rw [if_neg h, if_neg h, if_neg (show ¬ (decodeL (l.drop p)).2 = 0 by omega)]
  simp only [List.length_cons]
  split
  ·refine Prod.ext ?_ rfl
   simp only
   omega
  ·rfl
theorem sizeAt_good (l : List UInt8) (p : Nat) (h : sizeAt l p ≠ 0) : sizeAt l p = (oneAt l p).2 := by
 unfold sizeAt szD at h ⊢
 split at h
 ·exact absurd rfl h
 ·rename_i hc
  rw [if_neg hc]
theorem mark_width (l : List UInt8) (p : Nat) (hp : p < l.length) (h : (oneAt l p).1 = 65533) : hasPrefix (l.drop p) [239, 191, 189] = !decide (sizeAt l p = 0) := by
 have hne : l.drop p ≠ [] := by
  intro e
  have := congrArg List.length e
  simp at this
  omega
 have e : sizeAt l p = szD (decodeL (l.drop p)) := rfl
 have eo : oneAt l p = decodeL (l.drop p) := rfl
 have hw := one_bounds l p hp
 rw [eo] at h hw
 rw [e]
 have hr : encodeRune (65533 : Int) = [239, 191, 189] := by decide +kernel
 unfold hasPrefix szD
 by_cases h1 : (decodeL (l.drop p)).2 = 1
 ·rw [if_pos ⟨h, h1⟩]
  simp only [decide_true, Bool.not_true]
  by_cases hx : ([239, 191, 189] : List UInt8).isPrefixOf (l.drop p) = true
  ·obtain ⟨t, ht⟩ := List.isPrefixOf_iff_prefix.1 hx
   have := decode_encode 65533 (.inr ⟨by decide, by decide⟩) t
   rw [show ((65533 : Nat) : Int) = 65533 from rfl, hr, ht] at this
   rw [this] at h1
   simp at h1
  ·exact Bool.eq_false_iff.2 hx
 ·rw [if_neg (fun x => h1 x.2)]
  have hd : decide ((decodeL (l.drop p)).2 = 0) = false := decide_eq_false (by omega)
  rw [hd]
  simp only [Bool.not_false]
  have := encode_decode (l.drop p) hne (fun x => h1 x.2)
  rw [h, show ((65533 : Nat) : Int) = 65533 from rfl, hr] at this
  exact List.isPrefixOf_iff_prefix.2 ⟨(l.drop p).drop (decodeL (l.drop p)).2, by rw [this, List.take_append_drop]⟩
end Go.Proofs.YtmgchjddpmmglaaGreatDoor

namespace Go.Proofs
open Go.Shelf
def Tryz.laysHasPrefix_ren : Go.Shelf.Ren := ⟨fun | 99 => 192 | 206 => 226 | n => n, fun | 9 => 9 | 4 => 4 | 3 => 3 | n => n, fun | n => n⟩
theorem Tryz.laysHasPrefix : Go.Proofs.Lays.n99 Tryz.prog Tryz.laysHasPrefix_ren := {
 mixed := by kernel_rfl
 f99 := Tryz.func192.trans (congrArg some (by kernel_rfl))
 f206 := Tryz.func226.trans (congrArg some (by kernel_rfl))
 t3 := Tryz.underlying3
 a3 := Tryz.isAgg3
 z3 := Tryz.sizeOf3
 v3 := Tryz.zeroValue3
 t4 := Tryz.underlying4
 a4 := Tryz.isAgg4
 z4 := Tryz.sizeOf4
 v4 := Tryz.zeroValue4
 t9 := Tryz.underlying9
 a9 := Tryz.isAgg9
 z9 := Tryz.sizeOf9
 v9 := Tryz.zeroValue9 }
def Tryz.laysTrimSuffix_ren : Go.Shelf.Ren := ⟨fun | 102 => 152 | 209 => 191 | 207 => 225 | n => n, fun | 9 => 9 | 4 => 4 | 3 => 3 | n => n, fun | n => n⟩
theorem Tryz.laysTrimSuffix : Go.Proofs.Lays.n102 Tryz.prog Tryz.laysTrimSuffix_ren := {
 mixed := by kernel_rfl
 f102 := Tryz.func152.trans (congrArg some (by kernel_rfl))
 f207 := Tryz.func225.trans (congrArg some (by kernel_rfl))
 f209 := Tryz.func191.trans (congrArg some (by kernel_rfl))
 t3 := Tryz.underlying3
 a3 := Tryz.isAgg3
 z3 := Tryz.sizeOf3
 v3 := Tryz.zeroValue3
 t4 := Tryz.underlying4
 a4 := Tryz.isAgg4
 z4 := Tryz.sizeOf4
 v4 := Tryz.zeroValue4
 t9 := Tryz.underlying9
 a9 := Tryz.isAgg9
 z9 := Tryz.sizeOf9
 v9 := Tryz.zeroValue9 }
def Tryz.laysSplit_ren : Go.Shelf.Ren := ⟨fun | 146 => 151 | 221 => 190 | 268 => 222 | 138 => 223 | 143 => 224 | 195 => 241 | 197 => 242 | 218 => 243 | 219 => 244 | 260 => 262 | 217 => 263 | 225 => 264 | 224 => 265 | 267 => 266 | 266 => 283 | 314 => 284 | n => n, fun | 9 => 9 | 31 => 22 | 3 => 3 | 4 => 4 | 0 => 0 | 105 => 256 | 21 => 21 | 5 => 5 | 46 => 244 | 119 => 240 | 139 => 243 | 138 => 242 | 146 => 292 | 51 => 276 | n => n, fun | 1 => 3 | 3 => 1 | 4 => 2 | n => n⟩
theorem Tryz.laysSplit : Go.Proofs.LaysM.n146 Tryz.prog Tryz.laysSplit_ren := {
 mixed := by kernel_rfl
 f138 := Tryz.func223.trans (congrArg some (by kernel_rfl))
 f143 := Tryz.func224.trans (congrArg some (by kernel_rfl))
 f146 := Tryz.func151.trans (congrArg some (by kernel_rfl))
 f195 := Tryz.func241.trans (congrArg some (by kernel_rfl))
 f197 := Tryz.func242.trans (congrArg some (by kernel_rfl))
 f217 := Tryz.func263.trans (congrArg some (by kernel_rfl))
 f218 := Tryz.func243.trans (congrArg some (by kernel_rfl))
 f219 := Tryz.func244.trans (congrArg some (by kernel_rfl))
 f221 := Tryz.func190.trans (congrArg some (by kernel_rfl))
 f224 := Tryz.func265.trans (congrArg some (by kernel_rfl))
 f225 := Tryz.func264.trans (congrArg some (by kernel_rfl))
 f260 := Tryz.func262.trans (congrArg some (by kernel_rfl))
 f266 := Tryz.func283.trans (congrArg some (by kernel_rfl))
 f267 := Tryz.func266.trans (congrArg some (by kernel_rfl))
 f268 := Tryz.func222.trans (congrArg some (by kernel_rfl))
 f314 := Tryz.func284.trans (congrArg some (by kernel_rfl))
 t0 := Tryz.underlying0
 a0 := Tryz.isAgg0
 z0 := Tryz.sizeOf0
 v0 := Tryz.zeroValue0
 t3 := Tryz.underlying3
 a3 := Tryz.isAgg3
 z3 := Tryz.sizeOf3
 v3 := Tryz.zeroValue3
 t4 := Tryz.underlying4
 a4 := Tryz.isAgg4
 z4 := Tryz.sizeOf4
 v4 := Tryz.zeroValue4
 t5 := Tryz.underlying5
 a5 := Tryz.isAgg5
 z5 := Tryz.sizeOf5
 v5 := Tryz.zeroValue5
 t9 := Tryz.underlying9
 a9 := Tryz.isAgg9
 z9 := Tryz.sizeOf9
 v9 := Tryz.zeroValue9
 t21 := Tryz.underlying21
 a21 := Tryz.isAgg21
 z21 := Tryz.sizeOf21
 v21 := Tryz.zeroValue21
 t31 := Tryz.underlying22
 a31 := Tryz.isAgg22
 z31 := Tryz.sizeOf22
 v31 := Tryz.zeroValue22
 t46 := Tryz.underlying244
 a46 := Tryz.isAgg244
 z46 := Tryz.sizeOf244
 v46 := Tryz.zeroValue244
 t51 := Tryz.underlying276
 a51 := Tryz.isAgg276
 z51 := Tryz.sizeOf276
 v51 := Tryz.zeroValue276
 t105 := Tryz.underlying256
 a105 := Tryz.isAgg256
 z105 := Tryz.sizeOf256
 v105 := Tryz.zeroValue256
 t119 := Tryz.underlying240
 a119 := Tryz.isAgg240
 z119 := Tryz.sizeOf240
 t138 := Tryz.underlying242
 a138 := Tryz.isAgg242
 z138 := Tryz.sizeOf242
 v138 := Tryz.zeroValue242
 t139 := Tryz.underlying243
 a139 := Tryz.isAgg243
 z139 := Tryz.sizeOf243
 v139 := Tryz.zeroValue243
 t146 := Tryz.underlying292
 a146 := Tryz.isAgg292
 z146 := Tryz.sizeOf292
 v146 := Tryz.zeroValue292
 g1 := by kernel_rfl
 g3 := by kernel_rfl
 g4 := by kernel_rfl
 i0 := by kernel_rfl
 i3 := by kernel_rfl
 i4 := by kernel_rfl
 i5 := by kernel_rfl
 i9 := by kernel_rfl
 i21 := by kernel_rfl
 i31 := by kernel_rfl
 i46 := by kernel_rfl
 i51 := by kernel_rfl
 i105 := by kernel_rfl
 i138 := by kernel_rfl
 i139 := by kernel_rfl
 i146 := by kernel_rfl
 m1 := by kernel_rfl
 s1_3 := fun w h => Go.Proofs.cell_of_shapedOpen_int (zero := #[.int .i64 0]) (t := 3) h (of_decide_eq_true (by kernel_rfl)) (by kernel_rfl) rfl (by kernel_rfl) (by kernel_rfl) Tryz.underlying3
 m3 := by kernel_rfl
 m4 := by kernel_rfl }
end Go.Proofs

namespace Go.Proofs.YtmgchjddpmmglaaGreatDoor
open Go.RowKit Go.Lib
theorem lnext_at (l : List UInt8) (p : Nat) (hp : p < l.length) (w : World) (ty : TypeId) :
  (Instr.next (.pointer (some ⟨w.heap.size, 0, none⟩)) true ty).run Tryz.prog (w.iter (bs l) p) = .ok (.tuple #[.bool true, .int .i64 p, .int .i32 ((oneAt l p).1 : Nat)]) (w.iter (bs l) (p + (oneAt l p).2)) := by
 have h := run_next_any (P := Tryz.prog) w (bs l) p ty (by rw [bs_size]; exact hp)
 rw [← decodeL_drop] at h
 have e : (bs l).data.toList = l := by simp [bs]
 rw [e] at h
 exact h
theorem liter_below (w : World) (s : ByteArray) (p : Nat) : Below w.heap.size w (w.iter s p) := (Below.refl _ _).alloc (Nat.le_refl _) _
theorem hasprefix_any (l p : List UInt8) (w : World) :
  Calls Tryz.prog 192 #[.string (bs l), .string (bs p)] w fun e w' => e = .returned (.bool (hasPrefix l p)) ∧ w = w' := by
 have h := Any.strings_HasPrefix Tryz.laysHasPrefix (bs l) (bs p) w
 have e : ∀ l, (bs l).data.toList = l := fun l => by simp [bs]
 rw [e, e] at h
 exact h.mono fun _ _ ⟨a, b⟩ => ⟨a, b.symm⟩
set_option maxRecDepth 100000 in
set_option maxHeartbeats 2000000 in
theorem lrunes_any (l : List UInt8) (hs : l.length ≤ 1000000) (w : World) :
  Calls Tryz.prog 153 #[.string (bs l)] w fun e w' => e = .returned (.tuple #[.int .i64 ((runesN l).1 : Nat), .bool (runesN l).2]) ∧ Below w.heap.size w w' := by
 obtain ⟨R, hR⟩ : ∃ R, runesN l = R := ⟨_, rfl⟩
 rw [hR]
 have HR := Lib.hid ((runesFrom_start l).trans hR)
 clear hR
 go_enter Tryz.func153, Tryz.ntmps153
 go_wp2
 go_loopw [4] (fun i wr => ∃ p k : Nat, p ≤ l.length ∧ k ≤ p ∧ i = .int .i64 k ∧ wr = w.iter (bs l) p ∧ runesFrom l p k = R)
  (fun _ wr => l.length - wr.iterPos w.heap.size)
 case atStart => exact ⟨0, 0, Nat.zero_le _, Nat.le_refl _, rfl, rfl, HR.out⟩
 case round =>
  obtain ⟨p, k, hp, hk, rfl, rfl, hr⟩ := hrel
  by_cases hlt : p < l.length
  ·have hb := one_bounds l p hlt
   rw [runesFrom_step l p k hlt] at hr
   have hnx := lnext_at l p hlt w
   have hm := mark_width l p hlt
   have hg := sizeAt_good l p
   have HP := Lib.hid (hasprefix_any ((l.drop p).take (l.length - p)) [239, 191, 189])
   rw [show hasPrefix ((l.drop p).take (l.length - p)) [239, 191, 189] = hasPrefix (l.drop p) [239, 191, 189] by rw [List.take_of_length_le (by rw [List.length_drop]; omega)]] at HP
   have hz : (oneAt l p).1 ≠ 65533 → sizeAt l p ≠ 0 := fun h => by
    unfold sizeAt szD
    rw [if_neg (fun x => h x.1)]
    omega
   have hle : (oneAt l p).1 ≤ 1114111 := decodeL_rune _
   obtain ⟨S, hS⟩ : ∃ S, sizeAt l p = S := ⟨_, rfl⟩
   obtain ⟨D, hD⟩ : ∃ D, oneAt l p = D := ⟨_, rfl⟩
   rw [hS] at hm hg hr hz
   rw [hD] at hm hg hr hb hnx hz hle
   clear hS hD
   have HR2 := Lib.hid hr
   clear hr
   by_cases h3 : D.1 = 65533
   ·have hp3 := hm h3
    rw [hp3] at HP
    have e1 : ((D.1 : Int) == 65533) = true := by simp [h3]
    clear hp3 hm hz
    by_cases h0 : S = 0
    ·have HS := HR2.out
     rw [if_pos h0] at HS
     have HS2 := Lib.hid HS
     subst h0
     clear HS h3
     simp only [decide_true, Bool.not_true] at HP
     go_wp2_with fail
     refine (HP.out _).mono ?_
     rintro e w1 ⟨rfl, rfl⟩
     go_wp2_with fail
     go_ret2
     rw [← HS2.out]
     exact ⟨rfl, liter_below _ _ _⟩
    ·have HS := HR2.out
     rw [if_neg h0] at HS
     have HS2 := Lib.hid HS
     have hd : decide (S = 0) = false := decide_eq_false h0
     rw [hd] at HP
     clear HS h3 h0 hd
     simp only [Bool.not_false] at HP
     go_wp2_with fail
     refine (HP.out _).mono ?_
     rintro e w1 ⟨rfl, rfl⟩
     go_wp2_with fail
     go_roundw
     case rel => exact ⟨p + D.2, k + 1, hb.2, by omega, by go_num, rfl, HS2.out⟩
     case measure => simp; omega
   ·have HS := HR2.out
    rw [if_neg (hz h3)] at HS
    have HS2 := Lib.hid HS
    have e1 : ((D.1 : Int) == 65533) = false := by simp; omega
    clear HS hm hz hg h3
    go_wp2_with fail
    go_roundw
    case rel => exact ⟨p + D.2, k + 1, hb.2, by omega, by go_num, rfl, HS2.out⟩
    case measure => simp; omega
  ·have hnx := fun ty => run_next_end (P := Tryz.prog) w (bs l) p ty (by rw [bs_size]; exact hlt)
   rw [runesFrom_end l p k (by omega)] at hr
   have HS := Lib.hid hr
   clear hr
   go_wp2_with fail
   go_ret2
   rw [← HS.out]
   exact ⟨rfl, liter_below _ _ _⟩
end Go.Proofs.YtmgchjddpmmglaaGreatDoor

namespace Go.Proofs.YtmgchjddpmmglaaGreatDoor
open Go.RowKit
def HasTexts (w : World) (p : Option Addr) (L : List (List UInt8)) : Prop := ∀ j, j < L.length → ∃ g, p = some ⟨g, 0, none⟩ ∧ w.cell? ⟨g, j, none⟩ = some (.string (bs (L.getD j [])))
theorem HasTexts.below {w w' : World} {p : Option Addr} {L : List (List UInt8)} (h : HasTexts w p L) (hb : Below w.heap.size w w') : HasTexts w' p L := fun j hj => by
 obtain ⟨g, hp, hc⟩ := h j hj
 exact ⟨g, hp, cell_later hb hc⟩
def Texts (w : World) (v : Value) (L : List (List UInt8)) : Prop := ∃ p cap, v = .slice p L.length cap ∧ HasTexts w p L
theorem Texts.below {w w' : World} {v : Value} {L : List (List UInt8)} (h : Texts w v L) (hb : Below w.heap.size w w') : Texts w' v L := by
 obtain ⟨p, cap, hv, ht⟩ := h
 exact ⟨p, cap, hv, ht.below hb⟩
theorem texts_none (w : World) : Texts w (.slice none 0 0) [] := ⟨none, 0, rfl, fun j hj => absurd hj (Nat.not_lt_zero j)⟩
def strs (L : List (List UInt8)) : List Value := L.map fun l => .string (bs l)
theorem strs_snoc (L : List (List UInt8)) (l : List UInt8) : strs L ++ [.string (bs l)] = strs (L ++ [l]) := by simp [strs]
theorem own_texts {w : World} {B : Nat} {e : TypeId} {v : Value} {L : List (List UInt8)} (h : w.ownsRow B e 1 v L.length (strs L)) : Texts w v L := by
 obtain ⟨-, ⟨h0, hn⟩ | ⟨g, cap, cur, hv, -, hw, -, -, -, ht⟩⟩ := h
 ·have : L = [] := List.eq_nil_of_length_eq_zero hn
  subst this h0
  exact texts_none w
 ·refine ⟨_, cap, hv, fun j hj => ⟨g, rfl, ?_⟩⟩
  have h1 := congrArg (fun x : List Value => x[j]?) ht
  simp only [Nat.mul_one, List.getElem?_take, hj, if_true, Array.getElem?_toList] at h1
  rw [cell_of_row w g j _ _ (0, 0) hw, h1]
  simp [strs, hj]
theorem info_str : (Tryz.prog.info? 9).map (fun i => (i.zero, i.size, i.bytes)) = some (some (.string ByteArray.empty), 1, 16) := by kernel_rfl
end Go.Proofs.YtmgchjddpmmglaaGreatDoor

namespace Go.Proofs.YtmgchjddpmmglaaGreatDoor
open Go.RowKit Go.Lib
def HasMax (w : World) : Prop := ∃ m, w.cell? ⟨Tryz.laysSplit_ren.g 1, 0, none⟩ = some (.int .i64 m)
theorem HasMax.below {w w' : World} (h : HasMax w) (hb : Below w.heap.size w w') : HasMax w' := by
 obtain ⟨m, hm⟩ := h
 exact ⟨m, cell_later hb hm⟩
theorem trimsuffix_any (l p : List UInt8) (hs : l.length ≤ 9223372036854775807) (w : World) :
  Calls Tryz.prog 152 #[.string (bs l), .string (bs p)] w fun e w' => e = .returned (.string (bs (trimSuffix l p))) ∧ w = w' := by
 have h := Any.strings_TrimSuffix Tryz.laysTrimSuffix (bs l) (bs p) w (by rw [bs_size]; exact hs)
 have e : ∀ l, (bs l).data.toList = l := fun l => by simp [bs]
 rw [e, e] at h
 exact h.mono fun _ _ ⟨a, b⟩ => ⟨a, b.symm⟩
theorem split_any (s : List UInt8) (hs : s.length ≤ 1000000) (w : World) (hm : HasMax w) :
  Calls Tryz.prog 151 #[.string (bs s), .string (bs [10])] w fun e w' => e = .returned (.slice (some ⟨w.heap.size, 0, none⟩) (partAux [] s).length (partAux [] s).length) ∧ HasTexts w' (some ⟨w.heap.size, 0, none⟩) (partAux [] s) ∧ Below w.heap.size w w' := by
 obtain ⟨m, hm⟩ := hm
 have h := Any.strings_Split { Tryz.laysSplit with } Tryz.laysSplit.i9 (bs s) (bs [10]) m w (by rw [bs_size]; omega) hm (by rw [bs_size]; exact Nat.le_refl _)
 have e : ∀ l, (bs l).data.toList = l := fun l => by simp [bs]
 have hd := splitB_data (bs [10]) 0 (countB (bs s) (bs [10])) (bs s)
 rw [e, e] at hd
 have hc : countB (bs s) (bs [10]) = count s [10] := by unfold countB; rw [e, e]
 rw [hc, split_eq] at hd
 rw [hc] at h
 obtain ⟨L, hL⟩ : ∃ L, splitB (bs [10]) 0 (count s [10]) (bs s) = L := ⟨_, rfl⟩
 have hlen := splitB_all (bs [10]) (by rw [bs_size]; exact Nat.le_refl _) 0 _ (bs s) hc
 rw [hL] at hd h hlen
 have hl : (partAux [] s).length = count s [10] + 1 := by rw [← hd, List.length_map, hlen]
 rw [hl]
 refine h.mono fun e' w' ⟨h1, h2⟩ => ⟨h1, ?_, ?_⟩
 ·intro j hj
  refine ⟨_, rfl, ?_⟩
  rw [h2, cell_of_row _ _ j _ _ (0, 0) (heap_alloc_new w _)]
  rw [← hd] at hj ⊢
  rw [List.length_map] at hj
  simp [hj, ← bs_data]
 ·rw [h2]
  exact (Below.refl _ _).alloc (Nat.le_refl _) _
theorem runesN_snd (l : List UInt8) : (runesN l).2 = validD l := by
 unfold runesN
 split <;> simp [*]
theorem drop_at (L : List (List UInt8)) (k : Nat) (h : k < L.length) : L.drop k = L.getD k [] :: L.drop (k + 1) := by
 rw [List.drop_eq_getElem_cons h]
 simp [h]
theorem part_len : ∀ (t cur : List UInt8), (partAux cur t).length ≤ t.length + 1
 | [], cur => by simp [partAux]
 | b :: t, cur => by
  unfold partAux
  split
  ·have := part_len t []
   simp only [List.length_cons]; omega
  ·have := part_len t (cur ++ [b])
   simp only [List.length_cons]; omega
theorem part_mem : ∀ (t cur : List UInt8), ∀ x ∈ partAux cur t, x.length ≤ cur.length + t.length
 | [], cur => by simp [partAux]
 | b :: t, cur => by
  unfold partAux
  split
  ·intro x hx
   rcases List.mem_cons.1 hx with rfl | hx
   ·simp
   ·have := part_mem t [] x hx
    simp only [List.length_cons, List.length_nil] at this ⊢
    omega
  ·intro x hx
   have := part_mem t _ x hx
   simp only [List.length_append, List.length_cons, List.length_nil] at this ⊢
   omega
set_option maxRecDepth 100000 in
set_option maxHeartbeats 1000000 in
theorem lof_any (l : List UInt8) (hs : l.length ≤ 1000000) (w : World) (hm : HasMax w) :
  Calls Tryz.prog 115 #[.string (bs l)] w fun e w' => ∃ v, e = .returned (.tuple #[v, .int .i64 ((ofL l).2.1 : Nat), .int .i64 ((ofL l).2.2 : Nat)]) ∧ Texts w' v (ofL l).1 ∧ Below w.heap.size w w' := by
 by_cases hlong : 65536 < l.length
 ·have e : ofL l = ([], 0, 6) := if_pos hlong
  rw [e]
  clear e
  go_enter Tryz.func115, Tryz.ntmps115
  go_wp2_with fail
  go_ret3
  exact ⟨_, rfl, texts_none _, Below.refl _ _⟩
 ·by_cases hnil : l = []
  ·subst hnil
   have e : ofL [] = ([], 0, 0) := rfl
   rw [e]
   clear e hlong
   go_enter Tryz.func115, Tryz.ntmps115
   go_wp2_with fail
   go_ret3
   exact ⟨_, rfl, texts_none _, Below.refl _ _⟩
  ·have e0 : (l == []) = false := beq_eq_false_iff_ne.2 hnil
   have hll := split_lines l hnil
   have hle := trimSuffix_le l [10]
   have HT := Lib.hid (trimsuffix_any l [10] (by omega))
   have HS := Lib.hid (split_any (trimSuffix l [10]) (by omega))
   have hmem := part_mem (trimSuffix l [10]) []
   have hcnt := part_len (trimSuffix l [10]) []
   rw [hll] at HS hmem hcnt
   obtain ⟨M, hM⟩ : ∃ M, linesL l = M := ⟨_, rfl⟩
   have e : ofL l = resGo (linesL l) 0 (linesL l) := if_neg hlong
   rw [e]
   rw [hM] at HS hmem hcnt ⊢
   obtain ⟨R, hR⟩ : ∃ R, resGo M 0 M = R := ⟨_, rfl⟩
   rw [hR]
   have HR := Lib.hid hR
   have HE := Lib.hid (fun x hx => Nat.le_trans (hmem x hx) (show ([] : List UInt8).length + (trimSuffix l [10]).length ≤ 1000000 by simp only [List.length_nil]; omega))
   generalize trimSuffix l [10] = t at *
   have HM := Lib.hid hm
   have hM2 : M.length ≤ 1000001 := by omega
   clear hR hll e hM hmem hcnt hle hm hnil
   go_enter Tryz.func115, Tryz.ntmps115
   go_wp2_with fail
   refine (HT.out _).mono ?_
   rintro e w' ⟨rfl, rfl⟩
   go_wp2_with fail
   refine (HS.out _ HM.out).mono ?_
   rintro e w1 ⟨rfl, ht, hb1⟩
   have HX := Lib.hid ht
   clear ht
   go_wp2_with fail
   go_loopw [20] (fun i wr => ∃ k : Nat, k ≤ M.length ∧ i = .int .i64 k ∧ Below w1.heap.size w1 wr ∧ resGo M k (M.drop k) = R) (fun i _ => M.length - (RowKit.intOf i).toNat)
   case atStart => exact ⟨0, Nat.zero_le _, rfl, Below.refl _ _, HR.out⟩
   case round =>
    obtain ⟨k, hk, rfl, hbr, hr⟩ := hrel
    by_cases hlt : k < M.length
    ·obtain ⟨g, hg, hc⟩ := HX.out k hlt
     obtain rfl : w.heap.size = g := by simpa using hg
     have hc' := cell_later hbr hc
     rw [drop_at M k hlt] at hr
     simp only [resGo] at hr
     have hx := HE.out (M.getD k []) (by
      have : M.getD k [] = M[k] := by simp [hlt]
      rw [this]
      exact List.getElem_mem hlt)
     obtain ⟨x, hx'⟩ : ∃ x, M.getD k [] = x := ⟨_, rfl⟩
     rw [hx'] at hr hc' hx
     have HC := Lib.hid (lrunes_any x hx)
     have hv := runesN_snd x
     generalize runesN x = N at *
     obtain ⟨N1, N2⟩ := N
     simp only at HC hv
     subst hv
     clear hc hg hx' hx
     by_cases hval : validD x = true
     ·rw [if_pos hval] at hr
      rw [hval] at HC
      have H2 := Lib.hid hr
      clear hr hval
      go_wp2_with fail
      refine (HC.out _).mono ?_
      rintro e w2 ⟨rfl, hb2⟩
      go_wp2_with fail
      go_roundw
      case rel => exact ⟨k + 1, by omega, by go_num, below_next hbr hb2, H2.out⟩
      case measure => simp [RowKit.intOf]; omega
     ·rw [if_neg hval] at hr
      have hval' : validD x = false := by simpa using hval
      rw [hval'] at HC
      have H2 := Lib.hid hr
      clear hr hval hval'
      go_wp2_with fail
      refine (HC.out _).mono ?_
      rintro e w2 ⟨rfl, hb2⟩
      go_wp2_with fail
      go_ret3
      rw [← H2.out]
      exact ⟨_, rfl, texts_none _, below_next hb1 (below_next hbr hb2)⟩
    ·have ek : k = M.length := by omega
     subst ek
     rw [List.drop_eq_nil_of_le (Nat.le_refl _)] at hr
     have H2 := Lib.hid hr
     clear hr
     go_wp2_with fail
     go_ret3
     rw [← H2.out]
     exact ⟨_, rfl, ⟨_, _, rfl, HX.out.below hbr⟩, below_next hb1 hbr⟩
def curL (l : List UInt8) (f i : Nat) : List UInt8 := (l.drop f).take (i - f)
theorem curL_len (l : List UInt8) (f i : Nat) : (curL l f i).length ≤ l.length := by
 unfold curL
 rw [List.length_take, List.length_drop]
 omega
end Go.Proofs.YtmgchjddpmmglaaGreatDoor

namespace Go.Proofs.YtmgchjddpmmglaaGreatDoor
open Go.Lib
def blankR (c : Nat) : Bool := decide (c = 9) || decide (c = 13) || decide (c = 32)
def blankB (b : UInt8) : Bool := blankR b.toNat
theorem blankB_low (b : UInt8) (h : blankB b = true) : b.toNat < 128 := by
 unfold blankB blankR at h
 simp only [Bool.or_eq_true, decide_eq_true_eq] at h
 omega
theorem blankR_high (c : Nat) (h : 128 ≤ c) : blankR c = false := by
 unfold blankR
 simp only [Bool.or_eq_false_iff, decide_eq_false_iff_not]
 omega
theorem decN_high (n b0 b1 b2 b3 : Nat) (h : 128 ≤ b0) : 128 ≤ (decodeN n b0 b1 b2 b3).1 := by
 unfold decodeN
 repeat' split
 all_goals (simp only; omega)
theorem dec_blank (b : UInt8) (t : List UInt8) : blankR (decodeL (b :: t)).1 = blankB b ∧ (blankB b = true → (decodeL (b :: t)).2 = 1) := by
 by_cases h : b.toNat < 128
 ·rw [decodeL_ascii b t h]
  exact ⟨rfl, fun _ => rfl⟩
 ·have h2 := decN_high (b :: t).length ((b :: t).getD 0 0).toNat ((b :: t).getD 1 0).toNat ((b :: t).getD 2 0).toNat ((b :: t).getD 3 0).toNat (by simp only [List.getD_cons_zero]; omega)
  rw [← decodeL_N] at h2
  rw [blankR_high _ h2]
  refine ⟨(blankR_high _ (by omega)).symm, fun hb => absurd (blankB_low b hb) h⟩
def strL (l : List UInt8) : List UInt8 := l.dropWhile blankB
theorem strL_cons (b : UInt8) (t : List UInt8) : strL (b :: t) = if blankB b then strL t else b :: t := by
 unfold strL
 rw [List.dropWhile_cons]
theorem bs_list (l : List UInt8) : (bs l).data.toList = l := by simp [bs]
theorem idx_left (l : List UInt8) : ∀ (f p : Nat), p ≤ l.length → l.length - p ≤ f →
  (strL (l.drop p) = [] ∧ idxFuncFrom blankR false (bs l) f p = -1) ∨ (∃ q : Nat, p ≤ q ∧ q < l.length ∧ idxFuncFrom blankR false (bs l) f p = q ∧ strL (l.drop p) = l.drop q)
 | 0, p, hp, hf => by
  have e : l.drop p = [] := List.drop_eq_nil_of_le (by omega)
  rw [e]
  exact .inl ⟨rfl, rfl⟩
 | f + 1, p, hp, hf => by
  unfold idxFuncFrom
  rw [bs_size]
  by_cases h : p < l.length
  ·rw [if_pos h, ← decodeL_drop, bs_list]
   have e : l.drop p = l[p] :: l.drop (p + 1) := List.drop_eq_getElem_cons h
   rw [e]
   obtain ⟨h1, h2⟩ := dec_blank l[p] (l.drop (p + 1))
   rw [h1, strL_cons]
   by_cases hb : blankB l[p] = true
   ·rw [h2 hb, hb]
    simp only [if_true, Bool.true_eq_false, if_false]
    rcases idx_left l f (p + 1) (by omega) (by omega) with ⟨h3, h4⟩ | ⟨q, h3, h4, h5, h6⟩
    ·exact .inl ⟨h3, h4⟩
    ·exact .inr ⟨q, by omega, h4, h5, h6⟩
   ·rw [if_neg hb]
    have hb' : blankB l[p] = false := by simpa using hb
    rw [hb']
    simp only [if_true]
    exact .inr ⟨p, Nat.le_refl _, h, rfl, e.symm⟩
  ·rw [if_neg h]
   have e : l.drop p = [] := List.drop_eq_nil_of_le (by omega)
   rw [e]
   exact .inl ⟨rfl, rfl⟩
theorem left_eq (l : List UInt8) : trimLeftF blankR (bs l) = bs (strL l) := by
 unfold trimLeftF idxFunc
 rcases idx_left l (bs l).size 0 (Nat.zero_le _) (by rw [bs_size]; omega) with ⟨h1, h2⟩ | ⟨q, -, h2, h3, h4⟩
 ·rw [h2, if_pos rfl]
  rw [List.drop_zero] at h1
  rw [h1]
  rfl
 ·rw [h3, if_neg (by omega)]
  rw [List.drop_zero] at h4
  rw [h4, bs_extract, bs_size, show ((q : Int)).toNat = q by omega, List.take_of_length_le (by rw [List.length_drop]; omega)]
end Go.Proofs.YtmgchjddpmmglaaGreatDoor

namespace Go.Proofs.YtmgchjddpmmglaaGreatDoor
open Go.RowKit Go.Lib
def colGo : Nat → List UInt8 → Nat → Int → Nat
 | 0, _, _, _ => 0
 | f + 1, l, p, at' => if p < l.length ∧ (p : Int) < at' then 1 + colGo f l (p + (oneAt l p).2) at' else 0
def colN (l : List UInt8) (p : Nat) (at' : Int) : Nat := colGo (l.length - p) l p at'
theorem colGo_fuel (l : List UInt8) (at' : Int) : ∀ (f g p : Nat), l.length - p ≤ f → l.length - p ≤ g → colGo f l p at' = colGo g l p at'
 | 0, 0, _, _, _ => rfl
 | 0, g + 1, p, hf, _ => by
  unfold colGo
  rw [if_neg (by omega)]
 | f + 1, 0, p, _, hg => by
  unfold colGo
  rw [if_neg (by omega)]
 | f + 1, g + 1, p, hf, hg => by
  unfold colGo
  by_cases h : p < l.length ∧ (p : Int) < at'
  ·have hb := one_bounds l p h.1
   rw [if_pos h, if_pos h, colGo_fuel l at' f g (p + (oneAt l p).2) (by omega) (by omega)]
  ·rw [if_neg h, if_neg h]
theorem col_step (l : List UInt8) (p : Nat) (at' : Int) (hp : p < l.length) : colN l p at' = if (p : Int) < at' then 1 + colN l (p + (oneAt l p).2) at' else 0 := by
 have hb := one_bounds l p hp
 unfold colN
 obtain ⟨f, hf⟩ : ∃ f, l.length - p = f + 1 := ⟨l.length - p - 1, by omega⟩
 rw [hf]
 by_cases h : (p : Int) < at'
 ·rw [if_pos h]
  show (if p < l.length ∧ (p : Int) < at' then _ else _) = _
  rw [if_pos ⟨hp, h⟩, colGo_fuel l at' f _ (p + (oneAt l p).2) (by omega) (Nat.le_refl _)]
 ·rw [if_neg h]
  show (if p < l.length ∧ (p : Int) < at' then _ else _) = _
  rw [if_neg (fun x => h x.2)]
theorem col_end (l : List UInt8) (p : Nat) (at' : Int) (hp : l.length ≤ p) : colN l p at' = 0 := by
 unfold colN
 rw [show l.length - p = 0 by omega]
 rfl
theorem col_past (l : List UInt8) (p : Nat) (at' : Int) (h : at' ≤ (p : Int)) : colN l p at' = 0 := by
 by_cases hp : p < l.length
 ·rw [col_step l p at' hp, if_neg (by omega)]
 ·exact col_end l p at' (by omega)
end Go.Proofs.YtmgchjddpmmglaaGreatDoor

namespace Go.Proofs.YtmgchjddpmmglaaGreatDoor
open Go.Lib
theorem dec_cont (l : List UInt8) (j : Nat) (hj : 1 ≤ j) (h : j < (decodeL l).2) : 128 ≤ (l.getD j 0).toNat := by
 rw [decodeL_N] at h
 generalize (l.getD 0 0).toNat = b0 at h
 generalize h1 : (l.getD 1 0).toNat = b1 at h
 generalize h2 : (l.getD 2 0).toNat = b2 at h
 generalize h3 : (l.getD 3 0).toNat = b3 at h
 have hj3 : j = 1 ∨ j = 2 ∨ j = 3 := by
  have : (decodeN l.length b0 b1 b2 b3).2 ≤ 4 := by
   unfold decodeN
   repeat' split
   all_goals simp
  omega
 unfold decodeN at h
 split at h
 ·simp only at h; omega
 ·split at h
  ·rename_i hc
   split at h
   ·simp only at h
    obtain rfl : j = 1 := by omega
    rw [h1]; omega
   ·simp only at h; omega
  ·split at h
   ·rename_i hc
    split at h
    ·simp only at h
     rcases (show j = 1 ∨ j = 2 by omega) with rfl | rfl
     ·rw [h1]; omega
     ·rw [h2]; omega
    ·simp only at h; omega
   ·split at h
    ·rename_i hc
     split at h
     ·simp only at h
      rcases hj3 with rfl | rfl | rfl
      ·rw [h1]; omega
      ·rw [h2]; omega
      ·rw [h3]; omega
     ·simp only at h; omega
    ·simp only at h; omega
def scanGo (l : List UInt8) : Nat → Nat → Option Nat → List (Nat × Nat)
 | 0, _, none => []
 | 0, i, some f => [(f, i)]
 | n + 1, i, fr => if blankB (l.getD i 0) then (match fr with | some f => (f, i) :: scanGo l n (i + 1) none | none => scanGo l n (i + 1) none) else scanGo l n (i + 1) (some (fr.getD i))
def pushed : Option Nat → Nat → List (Nat × Nat)
 | some f, i => [(f, i)]
 | none, _ => []
def scanL (l : List UInt8) : List (Nat × Nat) := scanGo l l.length 0 none
theorem scan_blank (l : List UInt8) (i : Nat) (fr : Option Nat) (hi : i < l.length) (hb : blankB l[i] = true) :
  scanGo l (l.length - i) i fr = pushed fr i ++ scanGo l (l.length - (i + 1)) (i + 1) none := by
 rw [show l.length - i = (l.length - (i + 1)) + 1 by omega]
 conv => lhs; unfold scanGo
 rw [getD_at l i hi, if_pos hb]
 cases fr <;> rfl
theorem scan_go (l : List UInt8) (i : Nat) (fr : Option Nat) (hi : i < l.length) (hb : blankB l[i] = false) :
  scanGo l (l.length - i) i fr = scanGo l (l.length - (i + 1)) (i + 1) (some (fr.getD i)) := by
 rw [show l.length - i = (l.length - (i + 1)) + 1 by omega]
 conv => lhs; unfold scanGo
 rw [getD_at l i hi, hb]
 rfl
theorem scan_end (l : List UInt8) (i : Nat) (fr : Option Nat) (hi : l.length ≤ i) : scanGo l (l.length - i) i fr = pushed fr i := by
 rw [show l.length - i = 0 by omega]
 cases fr <;> rfl
theorem scan_many (l : List UInt8) (f : Nat) : ∀ (k i : Nat), i + k ≤ l.length → (∀ j, j < k → blankB (l.getD (i + j) 0) = false) → scanGo l (l.length - i) i (some f) = scanGo l (l.length - (i + k)) (i + k) (some f)
 | 0, i, _, _ => rfl
 | k + 1, i, hk, hb => by
  have h0 := hb 0 (by omega)
  rw [Nat.add_zero, getD_at l i (by omega)] at h0
  rw [scan_go l i (some f) (by omega) h0]
  show scanGo l (l.length - (i + 1)) (i + 1) (some f) = _
  rw [scan_many l f k (i + 1) (by omega) (fun j hj => by have := hb (j + 1) (by omega); rwa [show i + (j + 1) = i + 1 + j by omega] at this), show i + 1 + k = i + (k + 1) by omega]
theorem scan_rune (l : List UInt8) (p : Nat) (fr : Option Nat) (hp : p < l.length) :
  (blankR (oneAt l p).1 = true → scanGo l (l.length - p) p fr = pushed fr p ++ scanGo l (l.length - (p + (oneAt l p).2)) (p + (oneAt l p).2) none) ∧
  (blankR (oneAt l p).1 = false → scanGo l (l.length - p) p fr = scanGo l (l.length - (p + (oneAt l p).2)) (p + (oneAt l p).2) (some (fr.getD p))) := by
 have e : l.drop p = l[p] :: l.drop (p + 1) := List.drop_eq_getElem_cons hp
 have eo : oneAt l p = decodeL (l.drop p) := rfl
 have hb := one_bounds l p hp
 obtain ⟨h1, h2⟩ := dec_blank l[p] (l.drop (p + 1))
 rw [← e, ← eo] at h1 h2
 constructor
 ·intro h
  rw [h1] at h
  rw [h2 h]
  exact scan_blank l p fr hp h
 ·intro h
  rw [h1] at h
  rw [scan_go l p fr hp h, scan_many l _ ((oneAt l p).2 - 1) (p + 1) (by omega) ?_, show p + 1 + ((oneAt l p).2 - 1) = p + (oneAt l p).2 by omega]
  intro j hj
  have hc := dec_cont (l.drop p) (j + 1) (by omega) (by rw [← eo]; omega)
  rw [getD_dropU, show p + (j + 1) = p + 1 + j by omega] at hc
  cases hz : blankB (l.getD (p + 1 + j) 0) with
  | true => have := blankB_low _ hz; omega
  | false => rfl
def RunesTo (l : List UInt8) (p n : Nat) : Prop := ∀ at' : Int, (p : Int) ≤ at' → colN l 0 at' = n + colN l p at'
theorem runesTo_start (l : List UInt8) : RunesTo l 0 0 := fun _ _ => by omega
theorem runesTo_step (l : List UInt8) (p n : Nat) (hp : p < l.length) (h : RunesTo l p n) : RunesTo l (p + (oneAt l p).2) (n + 1) := fun at' hat => by
 have hb := one_bounds l p hp
 have := h at' (by omega)
 rw [col_step l p at' hp, if_pos (by omega)] at this
 omega
theorem runesTo_col (l : List UInt8) (p n : Nat) (h : RunesTo l p n) : colN l 0 p = n := by
 have := h p (Int.le_refl _)
 rw [col_past l p p (Int.le_refl _)] at this
 omega
def wordAt (l : List UInt8) (r : Nat × Nat) : List UInt8 × Nat := (curL l r.1 r.2, colN l 0 r.1 + 1)
def wordsL (l : List UInt8) : List (List UInt8 × Nat) := (scanL l).map (wordAt l)
def aheadL (s : List UInt8) : List UInt8 := s.takeWhile (fun b => decide (b ≠ 35))
theorem ahead_app (s : List UInt8) : aheadL s = s ∨ ∃ y, s = aheadL s ++ 35 :: y := by
 unfold aheadL
 have h := List.takeWhile_append_dropWhile (p := fun b : UInt8 => decide (b ≠ 35)) (l := s)
 cases hd : s.dropWhile (fun b => decide (b ≠ 35)) with
 | nil => left; rw [hd, List.append_nil] at h; exact h
 | cons b y =>
  right
  have hb : b = 35 := by
   have := List.head?_dropWhile_not (fun b : UInt8 => decide (b ≠ 35)) s
   rw [hd] at this
   simpa using this
  rw [hd, hb] at h
  exact ⟨y, h.symm⟩
theorem ahead_len (s : List UInt8) : (aheadL s).length ≤ s.length := by
 rcases ahead_app s with h | ⟨y, h⟩
 ·rw [h]; exact Nat.le_refl _
 ·conv => rhs; rw [h]
  rw [List.length_append]
  omega
end Go.Proofs.YtmgchjddpmmglaaGreatDoor

namespace Go.Proofs
open Go.Shelf
def Tryz.laysContains_ren : Go.Shelf.Ren := ⟨fun | 144 => 193 | 143 => 224 | 219 => 244 | 217 => 263 | 225 => 264 | 224 => 265 | 267 => 266 | 266 => 283 | 314 => 284 | n => n, fun | 9 => 9 | 4 => 4 | 3 => 3 | 5 => 5 | 46 => 244 | 146 => 292 | 51 => 276 | n => n, fun | 1 => 3 | n => n⟩
theorem Tryz.laysContains : Go.Proofs.Lays.n144 Tryz.prog Tryz.laysContains_ren := {
 mixed := by kernel_rfl
 f143 := Tryz.func224.trans (congrArg some (by kernel_rfl))
 f144 := Tryz.func193.trans (congrArg some (by kernel_rfl))
 f217 := Tryz.func263.trans (congrArg some (by kernel_rfl))
 f219 := Tryz.func244.trans (congrArg some (by kernel_rfl))
 f224 := Tryz.func265.trans (congrArg some (by kernel_rfl))
 f225 := Tryz.func264.trans (congrArg some (by kernel_rfl))
 f266 := Tryz.func283.trans (congrArg some (by kernel_rfl))
 f267 := Tryz.func266.trans (congrArg some (by kernel_rfl))
 f314 := Tryz.func284.trans (congrArg some (by kernel_rfl))
 t3 := Tryz.underlying3
 a3 := Tryz.isAgg3
 z3 := Tryz.sizeOf3
 v3 := Tryz.zeroValue3
 t4 := Tryz.underlying4
 a4 := Tryz.isAgg4
 z4 := Tryz.sizeOf4
 v4 := Tryz.zeroValue4
 t5 := Tryz.underlying5
 a5 := Tryz.isAgg5
 z5 := Tryz.sizeOf5
 v5 := Tryz.zeroValue5
 t9 := Tryz.underlying9
 a9 := Tryz.isAgg9
 z9 := Tryz.sizeOf9
 v9 := Tryz.zeroValue9
 t46 := Tryz.underlying244
 a46 := Tryz.isAgg244
 z46 := Tryz.sizeOf244
 v46 := Tryz.zeroValue244
 t51 := Tryz.underlying276
 a51 := Tryz.isAgg276
 z51 := Tryz.sizeOf276
 v51 := Tryz.zeroValue276
 t146 := Tryz.underlying292
 a146 := Tryz.isAgg292
 z146 := Tryz.sizeOf292
 v146 := Tryz.zeroValue292
 g1 := by kernel_rfl }
def Tryz.laysCut_ren : Go.Shelf.Ren := ⟨fun | 145 => 194 | 220 => 227 | 219 => 244 | 217 => 263 | 225 => 264 | 224 => 265 | 267 => 266 | 266 => 283 | 314 => 284 | n => n, fun | 9 => 9 | 4 => 4 | 59 => 216 | 3 => 3 | 5 => 5 | 46 => 244 | 146 => 292 | 51 => 276 | n => n, fun | 1 => 3 | n => n⟩
theorem Tryz.laysCut : Go.Proofs.Lays.n145 Tryz.prog Tryz.laysCut_ren := {
 mixed := by kernel_rfl
 f145 := Tryz.func194.trans (congrArg some (by kernel_rfl))
 f217 := Tryz.func263.trans (congrArg some (by kernel_rfl))
 f219 := Tryz.func244.trans (congrArg some (by kernel_rfl))
 f220 := Tryz.func227.trans (congrArg some (by kernel_rfl))
 f224 := Tryz.func265.trans (congrArg some (by kernel_rfl))
 f225 := Tryz.func264.trans (congrArg some (by kernel_rfl))
 f266 := Tryz.func283.trans (congrArg some (by kernel_rfl))
 f267 := Tryz.func266.trans (congrArg some (by kernel_rfl))
 f314 := Tryz.func284.trans (congrArg some (by kernel_rfl))
 t3 := Tryz.underlying3
 a3 := Tryz.isAgg3
 z3 := Tryz.sizeOf3
 v3 := Tryz.zeroValue3
 t4 := Tryz.underlying4
 a4 := Tryz.isAgg4
 z4 := Tryz.sizeOf4
 v4 := Tryz.zeroValue4
 t5 := Tryz.underlying5
 a5 := Tryz.isAgg5
 z5 := Tryz.sizeOf5
 v5 := Tryz.zeroValue5
 t9 := Tryz.underlying9
 a9 := Tryz.isAgg9
 z9 := Tryz.sizeOf9
 v9 := Tryz.zeroValue9
 t46 := Tryz.underlying244
 a46 := Tryz.isAgg244
 z46 := Tryz.sizeOf244
 v46 := Tryz.zeroValue244
 t51 := Tryz.underlying276
 a51 := Tryz.isAgg276
 z51 := Tryz.sizeOf276
 v51 := Tryz.zeroValue276
 t59 := Tryz.underlying216
 a59 := Tryz.isAgg216
 z59 := Tryz.sizeOf216
 v59 := Tryz.zeroValue216
 t146 := Tryz.underlying292
 a146 := Tryz.isAgg292
 z146 := Tryz.sizeOf292
 v146 := Tryz.zeroValue292
 g1 := by kernel_rfl }
end Go.Proofs
