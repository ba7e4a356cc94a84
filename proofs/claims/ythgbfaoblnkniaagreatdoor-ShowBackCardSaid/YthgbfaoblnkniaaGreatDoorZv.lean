/-
  Layers 9 and 11 in plain words: a table is names in order; what a history that may be has; no program in sight. No conditions.
  A history whose values' numbers are Go's. No conditions.
  Layer 12 (show) in plain words: a history's events, its text, the history of a text; that reading undoes printing; no program in sight. No conditions.
-/
import Derived.Test.YthgbfaoblnkniaaGreatDoorZa
import Derived.Test.YthgbfaoblnkniaaGreatDoorZm
import Derived.Test.YthgbfaoblnkniaaGreatDoorZs
namespace Go.Proofs.YthgbfaoblnkniaaGreatDoor
open Go.RowKit Go.Lib
theorem isT_names (L : List (List UInt8)) : isT L = true ↔ (∀ x ∈ L, nameL x = true) ∧ L.Pairwise (fun a b => ltN a b = true) := by
 constructor
 ·intro h
  unfold isT at h
  rw [List.all_eq_true] at h
  have hg : ∀ i (hi : i < L.length), nameL L[i] = true := fun i hi => by
   have := h i (List.mem_range.2 hi)
   unfold goodT at this
   simp only [Bool.and_eq_true] at this
   simpa [hi] using this.1
  have hs : ∀ i (hi : i + 1 < L.length), ltN L[i] L[i + 1] = true := fun i hi => by
   have := h (i + 1) (List.mem_range.2 hi)
   rw [good_next] at this
   simp only [Bool.and_eq_true] at this
   simpa [hi, show i < L.length by omega] using this.2
  refine ⟨fun x hx => ?_, ?_⟩
  ·obtain ⟨i, hi, rfl⟩ := List.getElem_of_mem hx
   exact hg i hi
  ·rw [List.pairwise_iff_getElem]
   intro i j hi hj hij
   induction j with
   | zero => exact absurd hij (Nat.not_lt_zero i)
   | succ j ih =>
    by_cases e : i = j
    ·subst e; exact hs i hj
    ·exact ltN_trans _ _ _ (ih (by omega) (by omega)) (hs j hj)
 ·rintro ⟨h1, h2⟩
  refine isT_yes L fun j hj => ?_
  have e0 : L.getD j [] = L[j] := by simp [hj]
  cases j with
  | zero => rw [good_first, e0]; exact h1 _ (List.getElem_mem hj)
  | succ j =>
   have e1 : L.getD j [] = L[j] := by simp [show j < L.length by omega]
   rw [good_next, e0, e1, h1 _ (List.getElem_mem hj), List.pairwise_iff_getElem.1 h2 j (j + 1) (by omega) hj (by omega)]
   rfl
structure MayH (h : HistM) : Prop where
 t0 : isT h.1 = true
 t1 : isT h.2.1 = true
 n0 : h.1.length ≤ 20
 n1 : h.2.1.length ≤ 40
 n2 : h.2.2.length ≤ 40
 txn : ∀ t ∈ h.2.2, okTxn h.1.length t = true
 op : ∀ o ∈ allOps h, okOp h.2.1.length o = true
 u0 : allUsed h.1.length (h.2.2.map (·.1)) = true
 u1 : allUsed h.2.1.length ((allOps h).map (·.2.1)) = true
theorem mayH_iff (h : HistM) : mayH h = true ↔ MayH h := by
 unfold mayH okHeads usedH
 simp only [Bool.and_eq_true, decide_eq_true_eq, List.all_eq_true]
 constructor
 ·rintro ⟨⟨a, b, c, d, e⟩, f, g, u, v⟩
  exact ⟨a, b, c, d, e, f, g, u, v⟩
 ·rintro ⟨a, b, c, d, e, f, g, u, v⟩
  exact ⟨⟨a, b, c, d, e⟩, f, g, u, v⟩
theorem okOp_key {m : Nat} {o : OpM} (h : okOp m o = true) : 0 ≤ o.2.1 ∧ o.2.1 < m := by
 unfold okOp inside at h
 simp only [Bool.and_eq_true, decide_eq_true_eq] at h
 exact h.1
end Go.Proofs.YthgbfaoblnkniaaGreatDoor

namespace Go.Proofs.YthgbfaoblnkniaaGreatDoor
def NumH (h : HistM) : Prop := ∀ t ∈ h.2.2, ∀ o ∈ t.2.2, -9223372036854775808 ≤ o.2.2.2 ∧ o.2.2.2 ≤ 9223372036854775807
end Go.Proofs.YthgbfaoblnkniaaGreatDoor

namespace Go.Proofs.YthgbfaoblnkniaaGreatDoor
open Go.RowKit Go.Lib
def opEv (h : HistM) (s : List UInt8) (o : OpM) : EventM := (if o.1 then 3 else 2, s, h.2.1.getD o.2.1.toNat [], o.2.2.1, o.2.2.2, 0)
def begEv (s : List UInt8) : EventM := (1, s, [], 0, 0, 0)
def endEv (s : List UInt8) (f : Int) : EventM := (3 + f, s, [], 0, 0, 0)
def evT (h : HistM) (t : TxnM) : List EventM := begEv (h.1.getD t.1.toNat []) :: (t.2.2.map (opEv h (h.1.getD t.1.toNat [])) ++ [endEv (h.1.getD t.1.toNat []) t.2.1])
def rawE (h : HistM) : List EventM := h.2.2.flatMap (evT h)
def showE (h : HistM) : List EventM := lined (rawE h) 0
def eventsP (h : HistM) : List EventM × Int := if mayH h then (showE h, 0) else ([], 4)
def printP (h : HistM) : List UInt8 × Int := if mayH h then writeL (showE h) else ([], 4)
def parseP (l : List UInt8) : HistM × Int × Int := if (readL l).2.2 ≠ 0 then (noH, (readL l).2.1, (readL l).2.2) else histP (readL l).1
theorem logGo_may : ∀ (r : List (List UInt8)) (i : Nat) (out : List EventM), out.length ≤ 1000 → (∀ x ∈ out, mayE x = true) → (logGo r i out).1.length ≤ 1000 ∧ ∀ x ∈ (logGo r i out).1, mayE x = true
 | [], _, out, hl, h => ⟨hl, h⟩
 | t :: r, i, out, hl, h => by
  unfold logGo
  split
  ·exact ⟨Nat.zero_le _, fun x hx => (by cases hx)⟩
  ·split
   ·exact logGo_may r (i + 1) out hl h
   ·rename_i h2
    split
    ·exact ⟨Nat.zero_le _, fun x hx => (by cases hx)⟩
    ·refine logGo_may r (i + 1) _ (by rw [List.length_append, List.length_singleton]; omega) (fun x hx => ?_)
     rcases List.mem_append.1 hx with g | g
     ·exact h x g
     ·rw [List.mem_singleton.1 g]
      exact (parse_may t (by simpa using h2)).2
theorem read_good (l : List UInt8) : (readL l).1.length ≤ 1000 ∧ ∀ x ∈ (readL l).1, mayE x = true := by
 unfold readL
 split
 ·exact ⟨Nat.zero_le _, fun x hx => (by cases hx)⟩
 ·exact logGo_may _ _ _ (Nat.zero_le _) (fun x hx => (by cases hx))
theorem name_short (l : List UInt8) (h : nameL l = true) : l.length ≤ 1000000 := by
 have hv := textU_runes _ l (Nat.le_refl _) (name_valid l h)
 unfold nameL word at h
 simp only [Bool.and_eq_true, decide_eq_true_eq] at h
 have := textU_len (runesU l)
 rw [hv] at this
 omega
theorem may_short (x : EventM) (h : mayE x = true) : x.2.1.length ≤ 1000000 ∧ x.2.2.1.length ≤ 1000000 := by
 have h0 := mayE_nm x h
 refine ⟨name_short _ h0.1, ?_⟩
 by_cases hk : x.1 = 2 ∨ x.1 = 3
 ·exact name_short _ (h0.2.2.2 hk)
 ·unfold mayE at h
  simp only [Bool.and_eq_true] at h
  have e : longK x.1 = false := by
   unfold longK
   simp only [not_or] at hk
   simp [hk.1, hk.2]
  rw [e] at h
  have h4 := h.2.2.2
  simp at h4
  rw [h4.1]
  exact Nat.zero_le _
theorem read_short (l : List UInt8) : ∀ x ∈ (readL l).1, x.2.1.length ≤ 1000000 ∧ x.2.2.1.length ≤ 1000000 := fun x hx => may_short x ((read_good l).2 x hx)
theorem parse12_err {l : List UInt8} {L : List EventM} {n e : Int} (h : readL l = (L, n, e)) (he : e ≠ 0) : parseP l = (noH, n, e) := by
 unfold parseP
 rw [h]
 exact if_pos he
theorem parse12_ok {l : List UInt8} {L : List EventM} {n : Int} (h : readL l = (L, n, 0)) : parseP l = histP L := by
 unfold parseP
 rw [h]
 exact if_neg (by simp)
theorem sh_lined_app : ∀ (A B : List EventM) (i : Nat), lined (A ++ B) i = lined A i ++ lined B (i + A.length)
 | [], B, i => by simp [lined]
 | x :: A, B, i => by
  rw [List.cons_append, lined, lined, sh_lined_app A B (i + 1), List.length_cons, List.cons_append, show i + 1 + A.length = i + (A.length + 1) by omega]
theorem sh_lined_len : ∀ (A : List EventM) (i : Nat), (lined A i).length = A.length
 | [], _ => rfl
 | x :: A, i => by rw [lined, List.length_cons, List.length_cons, sh_lined_len A (i + 1)]
theorem sh_lined_lined : ∀ (A : List EventM) (i : Nat), lined (lined A i) i = lined A i
 | [], _ => rfl
 | x :: A, i => by
  rw [lined, lined, sh_lined_lined A (i + 1)]
  rfl
theorem sh_lined_mem : ∀ (A : List EventM) (i : Nat) (x : EventM), x ∈ lined A i → ∃ y n, y ∈ A ∧ x = onLine y n
 | [], _, x, h => by cases h
 | y :: A, i, x, h => by
  rw [lined, List.mem_cons] at h
  rcases h with rfl | h
  ·exact ⟨y, _, List.mem_cons_self .., rfl⟩
  ·obtain ⟨z, n, hz, e⟩ := sh_lined_mem A (i + 1) x h
   exact ⟨z, n, List.mem_cons_of_mem _ hz, e⟩
theorem mayE_line (x : EventM) (n : Int) : mayE (onLine x n) = mayE x := rfl
theorem MayH.ses {h : HistM} (hm : MayH h) {t : TxnM} (ht : t ∈ h.2.2) : 0 ≤ t.1 ∧ t.1 < h.1.length ∧ 1 ≤ t.2.1 ∧ t.2.1 ≤ 3 ∧ t.2.2.length ≤ 20 := by
 have h1 := hm.txn t ht
 unfold okTxn inside at h1
 simp only [Bool.and_eq_true, decide_eq_true_eq] at h1
 exact ⟨h1.1.1, h1.1.2, h1.2.1, h1.2.2.1, h1.2.2.2⟩
theorem MayH.opOf {h : HistM} (hm : MayH h) {t : TxnM} (ht : t ∈ h.2.2) {o : OpM} (ho : o ∈ t.2.2) : okOp h.2.1.length o = true := hm.op o (List.mem_flatMap.2 ⟨t, ht, ho⟩)
theorem sh_in (L : List (List UInt8)) (i : Nat) (hi : i < L.length) : L.getD i [] ∈ L := by
 have e : L.getD i [] = L[i] := by simp [hi]
 rw [e]
 exact List.getElem_mem hi
theorem MayH.name {h : HistM} (hm : MayH h) {t : TxnM} (ht : t ∈ h.2.2) : h.1.getD t.1.toNat [] ∈ h.1 ∧ nameL (h.1.getD t.1.toNat []) = true := by
 obtain ⟨a, b, -⟩ := hm.ses ht
 have h1 := sh_in h.1 t.1.toNat (by omega)
 exact ⟨h1, ((isT_names _).1 hm.t0).1 _ h1⟩
theorem MayH.key {h : HistM} (hm : MayH h) {t : TxnM} (ht : t ∈ h.2.2) {o : OpM} (ho : o ∈ t.2.2) : h.2.1.getD o.2.1.toNat [] ∈ h.2.1 ∧ nameL (h.2.1.getD o.2.1.toNat []) = true := by
 obtain ⟨a, b⟩ := okOp_key (hm.opOf ht ho)
 have h1 := sh_in h.2.1 o.2.1.toNat (by omega)
 exact ⟨h1, ((isT_names _).1 hm.t1).1 _ h1⟩
theorem op_may {h : HistM} (hm : MayH h) {t : TxnM} (ht : t ∈ h.2.2) {o : OpM} (ho : o ∈ t.2.2) (s : List UInt8) (hs : nameL s = true) (n : Int) : mayE (onLine (opEv h s o) n) = true := by
 have h1 := hm.opOf ht ho
 have h2 := (hm.key ht ho).2
 unfold okOp at h1
 simp only [Bool.and_eq_true] at h1
 obtain ⟨-, h3, h4⟩ := h1
 rw [mayE_line]
 unfold mayE opEv
 simp only
 rw [hs, h2, h3]
 cases hw : o.1 with
 | true =>
  rw [hw] at h4
  simp at h4
  rw [h4]
  simp [longK]
 | false => simp [longK]
theorem beg_may (s : List UInt8) (hs : nameL s = true) (n : Int) : mayE (onLine (begEv s) n) = true := by
 rw [mayE_line]
 unfold mayE begEv
 simp only
 rw [hs]
 simp [longK]
theorem end_may (s : List UInt8) (hs : nameL s = true) (f : Int) (h1 : 1 ≤ f) (h3 : f ≤ 3) (n : Int) : mayE (onLine (endEv s f) n) = true := by
 rw [mayE_line]
 unfold mayE endEv
 simp only
 rw [hs]
 rcases (by omega : f = 1 ∨ f = 2 ∨ f = 3) with e | e | e <;> rw [e] <;> simp [longK]
theorem show_may {h : HistM} (hm : MayH h) : ∀ x ∈ showE h, mayE x = true := by
 intro x hx
 obtain ⟨y, n, hy, rfl⟩ := sh_lined_mem _ _ _ hx
 obtain ⟨t, ht, hy⟩ := List.mem_flatMap.1 hy
 have hn := (hm.name ht).2
 obtain ⟨-, -, f1, f3, -⟩ := hm.ses ht
 unfold evT at hy
 rw [List.mem_cons, List.mem_append, List.mem_singleton] at hy
 rcases hy with rfl | hy | rfl
 ·exact beg_may _ hn n
 ·obtain ⟨o, ho, rfl⟩ := List.mem_map.1 hy
  exact op_may hm ht ho _ hn n
 ·exact end_may _ hn _ f1 f3 n
theorem evT_len (h : HistM) (t : TxnM) : (evT h t).length = t.2.2.length + 2 := by simp [evT]
theorem raw_len (h : HistM) : ∀ (L : List TxnM), (∀ t ∈ L, t.2.2.length ≤ 20) → (L.flatMap (evT h)).length ≤ 22 * L.length
 | [], _ => by simp
 | t :: L, hl => by
  have h1 := raw_len h L (fun x hx => hl x (List.mem_cons_of_mem _ hx))
  have h2 := hl t (List.mem_cons_self ..)
  rw [List.flatMap_cons, List.length_append, evT_len, List.length_cons]
  omega
theorem show_len {h : HistM} (hm : MayH h) : (showE h).length ≤ 880 := by
 unfold showE
 rw [sh_lined_len]
 have h1 := raw_len h h.2.2 (fun t ht => (hm.ses ht).2.2.2.2)
 have h2 := hm.n2
 unfold rawE
 omega
theorem show_num {h : HistM} (hn : NumH h) : ∀ x ∈ showE h, NumE x := by
 intro x hx
 obtain ⟨y, n, hy, rfl⟩ := sh_lined_mem _ _ _ hx
 obtain ⟨t, ht, hy⟩ := List.mem_flatMap.1 hy
 unfold evT at hy
 rw [List.mem_cons, List.mem_append, List.mem_singleton] at hy
 rcases hy with rfl | hy | rfl
 ·exact ⟨by show _ ≤ (0 : Int); omega, by show (0 : Int) ≤ _; omega⟩
 ·obtain ⟨o, ho, rfl⟩ := List.mem_map.1 hy
  exact hn t ht o ho
 ·exact ⟨by show _ ≤ (0 : Int); omega, by show (0 : Int) ≤ _; omega⟩
def drT (h : HistM) (t : TxnM) (ln : Int) : DraftM := ⟨h.1.getD t.1.toNat [], t.2.2.map fun o => h.2.1.getD o.2.1.toNat [], ln, t.2.1, t.2.2.map fun o => (o.1, 0, o.2.2), false⟩
def drL (h : HistM) : List TxnM → Nat → List DraftM
 | [], _ => []
 | t :: r, i => drT h t ((i + 1 : Nat) : Int) :: drL h r (i + (t.2.2.length + 2))
structure ShutL (h : HistM) (L : List DraftM) : Prop where
 op : ∀ d ∈ L, d.op = false
 nm : ∀ d ∈ L, d.nm ∈ h.1
 ks : ∀ d ∈ L, ∀ k ∈ d.ks, k ∈ h.2.1
theorem sh_few (T M : List (List UInt8)) (hs : ∀ x ∈ M, x ∈ T) : (sortedN M).length ≤ T.length :=
 nodup_le _ _ (sorted_nodup M) (fun x hx => hs x (((sortedN_spec M).2 x).1 hx).1)
theorem sh_at {L : List DraftM} (h : ∀ d ∈ L, d.op = false) (s : List UInt8) : ¬ atD L s < L.length := by
 intro hlt
 obtain ⟨o1, -⟩ := atD_spec L s hlt
 rw [h _ (getD_memD L _ hlt)] at o1
 cases o1
theorem sh_last {L : List DraftM} (h : ∀ d ∈ L, d.op = false) (d : DraftM) (hd : d.op = true) : atD (L ++ [d]) d.nm = L.length := by
 unfold atD
 rw [List.findIdx_append]
 have h1 : List.findIdx (isAt d.nm) L = L.length := by
  rw [List.findIdx_eq_length]
  intro x hx
  unfold isAt
  rw [h x hx]
  rfl
 rw [h1, if_neg (Nat.lt_irrefl _)]
 have h2 : isAt d.nm d = true := by unfold isAt; rw [hd]; simp
 simp [List.findIdx_cons, h2]
theorem sh_beg {h : HistM} (hm : MayH h) {L : List DraftM} (hL : ShutL h L) (hl : L.length < 40) (s : List UInt8) (hs : s ∈ h.1) (hn : nameL s = true) (n : Int) : putP L (onLine (begEv s) n) = (L ++ [⟨s, [], n, 0, [], true⟩], 0) := by
 unfold putP
 rw [beg_may s hn n, if_neg (by decide), if_pos (show (onLine (begEv s) n).1 = 1 from rfl)]
 rw [if_neg (sh_at hL.op _)]
 have h1 : (sortedN (namesD L ++ [s])).length ≤ h.1.length := sh_few h.1 _ (fun x hx => by
  rcases List.mem_append.1 hx with g | g
  ·obtain ⟨d, hd, rfl⟩ := List.mem_map.1 g
   exact hL.nm d hd
  ·rw [List.mem_singleton.1 g]; exact hs)
 have h2 := hm.n0
 rw [if_neg (show ¬ (20 < (sortedN (namesD L ++ [(onLine (begEv s) n).2.1])).length ∨ L.length = 40) from fun g => by
  have : (sortedN (namesD L ++ [(onLine (begEv s) n).2.1])).length = (sortedN (namesD L ++ [s])).length := rfl
  omega)]
 rfl
theorem sh_getD (L : List DraftM) (d : DraftM) : (L ++ [d]).getD L.length noD = d := by simp
theorem sh_set (L : List DraftM) (d e : DraftM) : (L ++ [d]).set L.length e = L ++ [e] := by simp
theorem sh_keys (A B : List DraftM) : keysD (A ++ B) = keysD A ++ keysD B := by simp [keysD]
theorem sh_op {h : HistM} (hm : MayH h) {L : List DraftM} (hL : ShutL h L) {t : TxnM} (ht : t ∈ h.2.2) {o : OpM} (ho : o ∈ t.2.2) (d : DraftM) (hd : d.op = true) (hn : nameL d.nm = true) (hf : d.ops.length < 20) (hk : ∀ k ∈ d.ks, k ∈ h.2.1) (n : Int) :
  putP (L ++ [d]) (onLine (opEv h d.nm o) n) = (L ++ [{ d with ops := d.ops ++ [(o.1, 0, o.2.2)], ks := d.ks ++ [h.2.1.getD o.2.1.toNat []] }], 0) := by
 have hat : atD (L ++ [d]) (onLine (opEv h d.nm o) n).2.1 = L.length := sh_last hL.op d hd
 have hk0 : (onLine (opEv h d.nm o) n).1 = if o.1 then 3 else 2 := rfl
 unfold putP
 rw [op_may hm ht ho d.nm hn n, if_neg (by decide), if_neg (by rw [hk0]; split <;> decide), hat, if_neg (by simp), if_neg (by rw [hk0]; split <;> decide), sh_getD, sh_set]
 have h1 : (sortedN (keysD (L ++ [d]) ++ [h.2.1.getD o.2.1.toNat []])).length ≤ h.2.1.length := sh_few h.2.1 _ (fun x hx => by
  rcases List.mem_append.1 hx with g | g
  ·obtain ⟨e, he, g⟩ := List.mem_flatMap.1 g
   rcases List.mem_append.1 he with q | q
   ·exact hL.ks e q x g
   ·rw [List.mem_singleton.1 q] at g; exact hk x g
  ·rw [List.mem_singleton.1 g]; exact (hm.key ht ho).1)
 have h2 := hm.n1
 rw [if_neg (show ¬ (d.ops.length = 20 ∨ 40 < (sortedN (keysD (L ++ [d]) ++ [(onLine (opEv h d.nm o) n).2.2.1])).length) from fun g => by
  have : (sortedN (keysD (L ++ [d]) ++ [(onLine (opEv h d.nm o) n).2.2.1])).length = (sortedN (keysD (L ++ [d]) ++ [h.2.1.getD o.2.1.toNat []])).length := rfl
  omega)]
 have e : moreD d (onLine (opEv h d.nm o) n) = { d with ops := d.ops ++ [(o.1, 0, o.2.2)], ks := d.ks ++ [h.2.1.getD o.2.1.toNat []] } := by
  unfold moreD
  congr 2
  rw [hk0]
  cases o.1 <;> rfl
 rw [e]
theorem sh_end {h : HistM} {L : List DraftM} (hL : ShutL h L) (d : DraftM) (hd : d.op = true) (hn : nameL d.nm = true) (f : Int) (h1 : 1 ≤ f) (h3 : f ≤ 3) (n : Int) :
  putP (L ++ [d]) (onLine (endEv d.nm f) n) = (L ++ [{ d with fate := f, op := false }], 0) := by
 have hat : atD (L ++ [d]) (onLine (endEv d.nm f) n).2.1 = L.length := sh_last hL.op d hd
 have hk0 : (onLine (endEv d.nm f) n).1 = 3 + f := rfl
 unfold putP
 rw [end_may d.nm hn f h1 h3 n, if_neg (by decide), if_neg (by rw [hk0]; omega), hat, if_neg (by simp), if_pos (by rw [hk0]; omega), sh_getD, sh_set]
 unfold endD
 rw [hk0, show 3 + f - 3 = f by omega]
theorem sh_ops {h : HistM} (hm : MayH h) {L : List DraftM} (hL : ShutL h L) {t : TxnM} (ht : t ∈ h.2.2) : ∀ (r : List OpM) (d : DraftM) (i : Nat) (rest : List EventM), (∀ o ∈ r, o ∈ t.2.2) → d.op = true → nameL d.nm = true → d.ops.length + r.length ≤ 20 → (∀ k ∈ d.ks, k ∈ h.2.1) →
  madeP (lined (r.map (opEv h d.nm) ++ rest) i) (L ++ [d]) = madeP (lined rest (i + r.length)) (L ++ [{ d with ops := d.ops ++ r.map (fun o => (o.1, 0, o.2.2)), ks := d.ks ++ r.map (fun o => h.2.1.getD o.2.1.toNat []) }])
 | [], d, i, rest, _, _, _, _, _ => by simp
 | o :: r, d, i, rest, hr, hd, hn, hl, hk => by
  have ho := hr o (List.mem_cons_self ..)
  rw [List.length_cons] at hl
  rw [List.map_cons, List.cons_append, lined, madeP, sh_op hm hL ht ho d hd hn (by omega) hk]
  simp only
  rw [if_pos trivial]
  have ih := sh_ops hm hL ht r { d with ops := d.ops ++ [(o.1, 0, o.2.2)], ks := d.ks ++ [h.2.1.getD o.2.1.toNat []] } (i + 1) rest (fun x hx => hr x (List.mem_cons_of_mem _ hx)) hd hn (by rw [List.length_append, List.length_singleton]; omega) (fun k hk' => by
   rcases List.mem_append.1 hk' with g | g
   ·exact hk k g
   ·rw [List.mem_singleton.1 g]; exact (hm.key ht ho).1)
  simp only at ih
  rw [ih, List.length_cons, show i + 1 + r.length = i + (r.length + 1) by omega, List.append_assoc, List.append_assoc]
  rfl
theorem sh_txn {h : HistM} (hm : MayH h) {L : List DraftM} (hL : ShutL h L) (hl : L.length < 40) {t : TxnM} (ht : t ∈ h.2.2) (i : Nat) (rest : List EventM) :
  madeP (lined (evT h t ++ rest) i) L = madeP (lined rest (i + (t.2.2.length + 2))) (L ++ [drT h t ((i + 1 : Nat) : Int)]) := by
 obtain ⟨hs, hn⟩ := hm.name ht
 obtain ⟨-, -, f1, f3, fl⟩ := hm.ses ht
 unfold evT
 rw [List.cons_append, lined, madeP, sh_beg hm hL hl _ hs hn]
 simp only
 rw [if_pos trivial, List.append_assoc]
 have h1 := sh_ops hm hL ht t.2.2 ⟨h.1.getD t.1.toNat [], [], ((i + 1 : Nat) : Int), 0, [], true⟩ (i + 1) ([endEv (h.1.getD t.1.toNat []) t.2.1] ++ rest) (fun _ hx => hx) rfl hn (by simpa using fl) (fun k hk => by cases hk)
 simp only [List.nil_append] at h1
 rw [h1, List.cons_append, List.nil_append, lined, madeP]
 have h2 := sh_end hL ⟨h.1.getD t.1.toNat [], t.2.2.map (fun o => h.2.1.getD o.2.1.toNat []), ((i + 1 : Nat) : Int), 0, t.2.2.map (fun o => (o.1, 0, o.2.2)), true⟩ rfl hn t.2.1 f1 f3 ((i + 1 + t.2.2.length + 1 : Nat) : Int)
 simp only at h2
 rw [h2]
 simp only
 rw [if_pos trivial, show i + 1 + t.2.2.length + 1 = i + (t.2.2.length + 2) by omega]
 rfl
theorem sh_shut {h : HistM} (hm : MayH h) {L : List DraftM} (hL : ShutL h L) {t : TxnM} (ht : t ∈ h.2.2) (n : Int) : ShutL h (L ++ [drT h t n]) := by
 refine ⟨fun d hd => ?_, fun d hd => ?_, fun d hd => ?_⟩
 all_goals
  rcases List.mem_append.1 hd with g | g
 ·exact hL.op d g
 ·rw [List.mem_singleton.1 g]; rfl
 ·exact hL.nm d g
 ·rw [List.mem_singleton.1 g]; exact (hm.name ht).1
 ·exact hL.ks d g
 ·rw [List.mem_singleton.1 g]
  intro k hk
  obtain ⟨o, ho, rfl⟩ := List.mem_map.1 (show k ∈ t.2.2.map (fun o => h.2.1.getD o.2.1.toNat []) from hk)
  exact (hm.key ht ho).1
theorem sh_all {h : HistM} (hm : MayH h) : ∀ (r : List TxnM) (L : List DraftM) (i : Nat), (∀ t ∈ r, t ∈ h.2.2) → ShutL h L → L.length + r.length ≤ 40 → madeP (lined (r.flatMap (evT h)) i) L = (L ++ drL h r i, 0, 0)
 | [], L, i, _, _, _ => by simp [drL, lined, madeP]
 | t :: r, L, i, hr, hL, hl => by
  have ht := hr t (List.mem_cons_self ..)
  rw [List.length_cons] at hl
  rw [List.flatMap_cons, sh_txn hm hL (by omega) ht, sh_all hm r _ _ (fun x hx => hr x (List.mem_cons_of_mem _ hx)) (sh_shut hm hL ht _) (by rw [List.length_append, List.length_singleton]; omega), drL, List.append_assoc]
  rfl
theorem drL_nm (h : HistM) : ∀ (r : List TxnM) (i : Nat), namesD (drL h r i) = r.map (fun t => h.1.getD t.1.toNat [])
 | [], _ => rfl
 | t :: r, i => by
  have ih := drL_nm h r (i + (t.2.2.length + 2))
  unfold namesD at ih ⊢
  rw [drL, List.map_cons, ih]
  rfl
theorem drL_ks (h : HistM) : ∀ (r : List TxnM) (i : Nat), keysD (drL h r i) = (r.flatMap (·.2.2)).map (fun o => h.2.1.getD o.2.1.toNat [])
 | [], _ => rfl
 | t :: r, i => by
  have ih := drL_ks h r (i + (t.2.2.length + 2))
  unfold keysD at ih ⊢
  rw [drL, List.flatMap_cons, ih, List.flatMap_cons, List.map_append]
  rfl
theorem sh_used (m : Nat) (l : List Int) (h : allUsed m l = true) (i : Nat) (hi : i < m) : (i : Int) ∈ l := by
 unfold allUsed at h
 rw [List.all_eq_true] at h
 have := h i (List.mem_range.2 hi)
 rwa [List.contains_iff_mem] at this
theorem sh_sorted (T M : List (List UInt8)) (hT : isT T = true) (hm : ∀ x, x ∈ M ↔ x ∈ T) : sortedN M = T := by
 obtain ⟨h1, h2⟩ := (isT_names T).1 hT
 obtain ⟨s1, s2⟩ := sortedN_spec M
 exact strict_unique ltN ltN_irrefl ltN_trans _ _ s1 h2 (fun y => by
  rw [s2, hm]
  exact ⟨fun g => g.1, fun g => ⟨g, h1 y g⟩⟩)
theorem sh_nodup (T : List (List UInt8)) (hT : isT T = true) : T.Nodup := ((isT_names T).1 hT).2.imp (fun h e => by subst e; rw [ltN_irrefl] at h; cases h)
theorem sh_find (T : List (List UInt8)) (hT : isT T = true) (i : Nat) (hi : i < T.length) : (findT T (T.getD i [])).1 = i := by
 have e : T.getD i [] = T[i] := by simp [hi]
 unfold findT
 rw [if_pos ⟨hT, sh_in T i hi⟩, e]
 exact (sh_nodup T hT).idxOf_getElem i hi
theorem drL_txn {h : HistM} (hm : MayH h) : ∀ (r : List TxnM) (i : Nat), (∀ t ∈ r, t ∈ h.2.2) → (drL h r i).map (txnD h.1 h.2.1) = r
 | [], _, _ => rfl
 | t :: r, i, hr => by
  have ht := hr t (List.mem_cons_self ..)
  obtain ⟨s0, s1, -⟩ := hm.ses ht
  rw [drL, List.map_cons, drL_txn hm r _ (fun x hx => hr x (List.mem_cons_of_mem _ hx))]
  congr 1
  obtain ⟨s, f, l⟩ := t
  unfold txnD drT
  simp only at s0 s1 ⊢
  rw [sh_find h.1 hm.t0 s.toNat (by omega), List.zipWith_map, Int.toNat_of_nonneg s0]
  have e : l.zipWith (fun a b => opK h.2.1 (a.1, 0, a.2.2) (h.2.1.getD b.2.1.toNat [])) l = l := by
   have e2 : ∀ q : List OpM, (∀ o ∈ q, o ∈ l) → q.zipWith (fun a b => opK h.2.1 (a.1, 0, a.2.2) (h.2.1.getD b.2.1.toNat [])) q = q := by
    intro q
    induction q with
    | nil => intro _; rfl
    | cons o q ih =>
     intro hq
     rw [List.zipWith_cons_cons, ih (fun x hx => hq x (List.mem_cons_of_mem _ hx))]
     congr 1
     obtain ⟨a, b⟩ := okOp_key (hm.opOf ht (hq o (List.mem_cons_self ..)))
     obtain ⟨w, k, v⟩ := o
     unfold opK
     simp only at a b ⊢
     rw [sh_find h.2.1 hm.t1 k.toNat (by omega), Int.toNat_of_nonneg a]
   exact e2 l (fun _ hx => hx)
  rw [e]
theorem drL_op (h : HistM) : ∀ (r : List TxnM) (i : Nat), (drL h r i).find? (·.op) = none
 | [], _ => rfl
 | t :: r, i => by
  rw [drL, List.find?_cons]
  exact drL_op h r _
theorem hist_show {h : HistM} (hm : mayH h = true) : histP (showE h) = (h, 0, 0) := by
 have hM := (mayH_iff h).1 hm
 have hmd := sh_all hM h.2.2 [] 0 (fun _ hx => hx) ⟨fun d hd => (by cases hd), fun d hd => (by cases hd), fun d hd => (by cases hd)⟩ (by simpa using hM.n2)
 rw [List.nil_append] at hmd
 have hmd' : madeP (showE h) [] = (drL h h.2.2 0, 0, 0) := hmd
 have hs : sortedN (namesD (drL h h.2.2 0)) = h.1 := by
  rw [drL_nm]
  refine sh_sorted h.1 _ hM.t0 (fun x => ⟨fun hx => ?_, fun hx => ?_⟩)
  ·obtain ⟨t, ht, rfl⟩ := List.mem_map.1 hx
   exact (hM.name ht).1
  ·obtain ⟨i, hi, rfl⟩ := List.getElem_of_mem hx
   obtain ⟨t, ht, e⟩ := List.mem_map.1 (sh_used _ _ hM.u0 i hi)
   refine List.mem_map.2 ⟨t, ht, ?_⟩
   rw [e]
   simp [hi]
 have hk : sortedN (keysD (drL h h.2.2 0)) = h.2.1 := by
  rw [drL_ks]
  refine sh_sorted h.2.1 _ hM.t1 (fun x => ⟨fun hx => ?_, fun hx => ?_⟩)
  ·obtain ⟨o, ho, rfl⟩ := List.mem_map.1 hx
   obtain ⟨t, ht, ho⟩ := List.mem_flatMap.1 ho
   exact (hM.key ht ho).1
  ·obtain ⟨i, hi, rfl⟩ := List.getElem_of_mem hx
   obtain ⟨o, ho, e⟩ := List.mem_map.1 (sh_used _ _ hM.u1 i hi)
   refine List.mem_map.2 ⟨o, ho, ?_⟩
   rw [e]
   simp [hi]
 unfold histP
 rw [hmd']
 simp only [ne_eq, not_true, if_false]
 rw [drL_op, hs, hk]
 simp only
 rw [drL_txn hM h.2.2 0 (fun _ hx => hx)]
theorem show_read {h : HistM} (hm : mayH h = true) (hn : NumH h) (hw : (writeL (showE h)).2 = 0) : parseP (writeL (showE h)).1 = (h, 0, 0) := by
 have hM := (mayH_iff h).1 hm
 have h1 := write_read (showE h) hw (show_num hn) (by have := show_len hM; omega)
 have h2 : lined (showE h) 0 = showE h := sh_lined_lined _ _
 unfold parseP
 rw [h1, h2, if_neg (by simp)]
 exact hist_show hm
theorem cat_two : ∀ (L : List EventM) (s : List UInt8), (catGo L s).2 = 0 ∨ (catGo L s).2 = 6
 | [], s => .inl rfl
 | x :: r, s => by
  unfold catGo
  split
  ·exact .inr rfl
  ·exact cat_two r _
theorem write_two {h : HistM} (hm : mayH h = true) : (writeL (showE h)).2 = 0 ∨ (writeL (showE h)).2 = 6 := by
 unfold writeL
 rw [if_pos (by rw [List.all_eq_true]; exact show_may ((mayH_iff h).1 hm))]
 exact cat_two _ _
end Go.Proofs.YthgbfaoblnkniaaGreatDoor
