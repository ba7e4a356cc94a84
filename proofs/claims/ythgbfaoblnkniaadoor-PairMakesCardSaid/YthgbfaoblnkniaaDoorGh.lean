/-
  Layer 10 (pair): what History's loop leaves in memory, the walk apart. No conditions.
  A region that draws its order, where two operations may come up next. No conditions.
-/
import Derived.Test.YthgbfaoblnkniaaDoorGg
import Derived.Test.YthgbfaoblnkniaaDoorGc
namespace Go.Proofs.YthgbfaoblnkniaaDoor
open Go.RowKit Go.Lib Go.Maps Go.WideMaps
def midO (K : List (List UInt8)) (d : DraftM) (j : Nat) : List OpM := (d.ops.take j).zipWith (opK K) (d.ks.take j) ++ d.ops.drop j
theorem midO_none (K : List (List UInt8)) (d : DraftM) : midO K d 0 = d.ops := by simp [midO]
theorem midO_all (K : List (List UInt8)) (d : DraftM) (h : d.ks.length = d.ops.length) : midO K d d.ops.length = d.ops.zipWith (opK K) d.ks := by
 unfold midO
 rw [List.take_length, ← h, List.take_length, h, List.drop_length, List.append_nil]
theorem midO_len (K : List (List UInt8)) (d : DraftM) (h : d.ks.length = d.ops.length) (j : Nat) (hj : j ≤ d.ops.length) : (midO K d j).length = d.ops.length := by
 simp [midO]
 omega
theorem midO_next (K : List (List UInt8)) (d : DraftM) (h : d.ks.length = d.ops.length) (j : Nat) (hj : j < d.ops.length) :
  ((midO K d j).flatMap opc).set (j * 4 + 1) (.int .i64 ((findT K (d.ks.getD j [])).1 : Int)) = (midO K d (j + 1)).flatMap opc := by
 have hj2 : j < d.ks.length := by omega
 have e1 : d.ops.drop j = d.ops[j] :: d.ops.drop (j + 1) := List.drop_eq_getElem_cons hj
 have e2 : d.ops.take (j + 1) = d.ops.take j ++ [d.ops[j]] := by rw [List.take_succ_eq_append_getElem hj]
 have e3 : d.ks.take (j + 1) = d.ks.take j ++ [d.ks[j]] := by rw [List.take_succ_eq_append_getElem hj2]
 have e4 : d.ks.getD j [] = d.ks[j] := by simp [hj2]
 have hl : (d.ops.take j).length = (d.ks.take j).length := by simp; omega
 unfold midO
 rw [e1, e2, e3, e4, List.zipWith_append hl]
 have h1 := flat_set opc 4 opc_len ((d.ops.take j).zipWith (opK K) (d.ks.take j)) (d.ops.drop (j + 1)) d.ops[j] (opK K d.ops[j] d.ks[j]) 1 (.int .i64 ((findT K d.ks[j]).1 : Int)) (by decide) rfl
 have hz : ((d.ops.take j).zipWith (opK K) (d.ks.take j)).length = j := by simp; omega
 rw [hz] at h1
 rw [h1]
 simp
theorem key_found {L : List DraftM} (hG : GoodL L) (i : Nat) (hi : i < L.length) (k : List UInt8) (hk : k ∈ (L.getD i noD).ks) : numT (sortedN (keysD L)) k = ((findT (sortedN (keysD L)) k).1 : Int) := by
 have h1 : (findT (sortedN (keysD L)) k).2 = true := by
  unfold findT
  rw [if_pos ⟨sorted_isT _, ((sortedN_spec _).2 k).2 ⟨(keys_mem L k).2 ⟨i, hi, hk⟩, (hG.all _ (getD_memD L i hi)).ks k hk⟩⟩]
 unfold numT
 rw [if_pos h1]
theorem open_iff {L : List DraftM} {E : List EntM} (hG : GoodL L) (_hl : E.length = L.length) (hne : ∀ i j, i < j → j < L.length → (E.getD i noEn).1 ≠ (E.getD j noEn).1) (i : Nat) (hi : i < L.length) :
  ((L.getD i noD).op = true → openF L E (L.getD i noD).nm = some (E.getD i noEn).1) ∧ ((L.getD i noD).op = false → openF L E (L.getD i noD).nm ≠ some (E.getD i noEn).1) := by
 refine ⟨fun ho => ?_, fun ho => ?_⟩
 ·have hlt : atD L (L.getD i noD).nm < L.length := by
   refine Decidable.byContradiction fun h => ?_
   have := atD_none L _ h i hi
   unfold isAt at this
   rw [ho] at this
   simp at this
  obtain ⟨o1, o2⟩ := atD_spec L _ hlt
  have e : atD L (L.getD i noD).nm = i := by
   rcases Nat.lt_trichotomy (atD L (L.getD i noD).nm) i with h | h | h
   ·exact absurd o2 (hG.one _ _ h hi o1 ho)
   ·exact h
   ·exact absurd o2.symm (hG.one _ _ h hlt ho o1)
  unfold openF
  rw [if_pos hlt, e]
 ·unfold openF
  by_cases hlt : atD L (L.getD i noD).nm < L.length
  ·rw [if_pos hlt]
   obtain ⟨o1, o2⟩ := atD_spec L _ hlt
   intro e
   injection e with e
   rcases Nat.lt_trichotomy (atD L (L.getD i noD).nm) i with h | h | h
   ·exact hne _ _ h hi e
   ·rw [h] at o1; rw [o1] at ho; cases ho
   ·exact hne _ _ h hlt e.symm
  ·rw [if_neg hlt]
   intro e
   cases e
def txc (S : List (List UInt8)) (p : DraftM × EntM) : List Value := [.int .i64 ((findT S p.1.nm).1 : Int), .int .i64 p.1.fate, p.2.2.2]
theorem txc_len (S : List (List UInt8)) (p : DraftM × EntM) : (txc S p).length = 3 := rfl
def noP : DraftM × EntM := (noD, noEn)
theorem zip_at (L : List DraftM) (E : List EntM) (hl : E.length = L.length) (i : Nat) (hi : i < L.length) : (L.zip E).getD i noP = (L.getD i noD, E.getD i noEn) := by
 have h2 : i < E.length := by omega
 have h3 : i < (L.zip E).length := by simp; omega
 have e : (L.zip E).getD i noP = (L.zip E)[i] := by simp [List.getD, List.getElem?_eq_getElem h3]
 rw [e, List.getElem_zip]
 simp [hi, h2]
theorem zip_take (L : List DraftM) (E : List EntM) (hl : E.length = L.length) (i : Nat) (hi : i < L.length) : (L.zip E).take (i + 1) = (L.zip E).take i ++ [(L.getD i noD, E.getD i noEn)] := by
 have h3 : i < (L.zip E).length := by simp; omega
 have e : (L.zip E).getD i noP = (L.zip E)[i] := by simp [List.getD, List.getElem?_eq_getElem h3]
 rw [List.take_succ_eq_append_getElem h3, ← zip_at L E hl i hi, e]
def TextsOff (w : World) (v : Value) (T : List (List UInt8)) (gh n0 : Nat) : Prop := ∀ w', (∀ k, n0 ≤ k → k ≠ gh → k < w.heap.size → w'.heap[k]? = w.heap[k]?) → Texts w' v T
theorem textsOff {wi w : World} {v : Value} {T : List (List UInt8)} {gh n0 nb : Nat} (h : Texts wi v T) (hn : NewV nb v) (hgh : gh < nb ∨ wi.heap.size ≤ gh) (h0 : n0 ≤ nb) (hb : ∀ k, k < wi.heap.size → k ≠ gh → w.heap[k]? = wi.heap[k]?) (hs : wi.heap.size ≤ w.heap.size) : TextsOff w v T gh n0 := by
 intro w' hw
 obtain ⟨p, c, rfl, ht⟩ := h
 refine ⟨p, c, rfl, fun j hj => ?_⟩
 obtain ⟨g, rfl, hc⟩ := ht j hj
 refine ⟨g, rfl, ?_⟩
 have hg := hn g rfl
 have hlt : g < wi.heap.size := by
  refine Decidable.byContradiction fun h => ?_
  rw [World.cell?] at hc
  simp [Array.getElem?_eq_none (by omega : wi.heap.size ≤ g)] at hc
 have hne : g ≠ gh := by omega
 have e : w'.heap[g]? = wi.heap[g]? := (hw g (by omega) hne (by omega)).trans (hb g hlt hne)
 rw [World.cell?_of_block (a := ⟨g, j, none⟩) e]
 exact hc
structure HLoop (w1 w5 w : World) (B gh i : Nat) (L : List DraftM) (E : List EntM) (S K : List (List UInt8)) (sv kv vt : Value) : Prop where
 far : ∀ k, k < w5.heap.size → k ≠ gh → (∀ j, j < i → k ≠ (E.getD j noEn).1 ∧ (E.getD j noEn).2.2.ownBlock ≠ some k) → w.heap[k]? = w5.heap[k]?
 sz : w5.heap.size ≤ w.heap.size
 ops : ∀ j, j < i → w.ownsRow B 62 4 (E.getD j noEn).2.2 (L.getD j noD).ops.length ((midO K (L.getD j noD) (L.getD j noD).ops.length).flatMap opc)
 hb : Blk w gh 32 [sv, kv, vt]
 row : w.ownsRow B 44 3 vt i (((L.zip E).take i).flatMap (txc S))
 bel : Below B w1 w
 shut : ∀ j, j < i → (L.getD j noD).op = false
theorem HLoop.below {w1 w5 w w' : World} {B gh i : Nat} {L : List DraftM} {E : List EntM} {S K : List (List UInt8)} {sv kv vt : Value} (h : HLoop w1 w5 w B gh i L E S K sv kv vt) (hb : Below w.heap.size w w') (hB : B ≤ w1.heap.size) : HLoop w1 w5 w' B gh i L E S K sv kv vt :=
 ⟨fun k hk h1 h2 => (hb.block k (Nat.lt_of_lt_of_le hk h.sz)).trans (h.far k hk h1 h2), Nat.le_trans h.sz hb.size, fun j hj => owns_later (h.ops j hj) hb, h.hb.later hb, owns_later h.row hb, h.bel.trans (hb.mono (Nat.le_trans hB h.bel.size)), h.shut⟩
structure HMid (w1 w5 w : World) (B gh i : Nat) (L : List DraftM) (E : List EntM) (S K : List (List UInt8)) (sv kv vt : Value) (s : Int) (j : Nat) : Prop where
 far : ∀ k, k < w5.heap.size → k ≠ gh → (∀ j, j < i + 1 → k ≠ (E.getD j noEn).1 ∧ (E.getD j noEn).2.2.ownBlock ≠ some k) → w.heap[k]? = w5.heap[k]?
 sz : w5.heap.size ≤ w.heap.size
 ops : ∀ j, j < i → w.ownsRow B 62 4 (E.getD j noEn).2.2 (L.getD j noD).ops.length ((midO K (L.getD j noD) (L.getD j noD).ops.length).flatMap opc)
 hb : Blk w gh 32 [sv, kv, vt]
 row : w.ownsRow B 44 3 vt i (((L.zip E).take i).flatMap (txc S))
 bel : Below B w1 w
 shut : ∀ j, j < i → (L.getD j noD).op = false
 dr : Blk w (E.getD i noEn).1 57 [.string (bs (L.getD i noD).nm), (E.getD i noEn).2.1, .int .i64 (L.getD i noD).ln, .int .i64 s, .int .i64 (L.getD i noD).fate, (E.getD i noEn).2.2]
 opi : w.ownsRow B 62 4 (E.getD i noEn).2.2 (L.getD i noD).ops.length ((midO K (L.getD i noD) j).flatMap opc)
theorem HMid.below {w1 w5 w w' : World} {B gh i j : Nat} {s : Int} {L : List DraftM} {E : List EntM} {S K : List (List UInt8)} {sv kv vt : Value} (h : HMid w1 w5 w B gh i L E S K sv kv vt s j) (hb : Below w.heap.size w w') (hB : B ≤ w1.heap.size) : HMid w1 w5 w' B gh i L E S K sv kv vt s j :=
 ⟨fun k hk h1 h2 => (hb.block k (Nat.lt_of_lt_of_le hk h.sz)).trans (h.far k hk h1 h2), Nat.le_trans h.sz hb.size, fun j hj => owns_later (h.ops j hj) hb, h.hb.later hb, owns_later h.row hb, h.bel.trans (hb.mono (Nat.le_trans hB h.bel.size)), h.shut, h.dr.later hb, owns_later h.opi hb⟩
structure Apart (w5 : World) (B gm gh N bo bz bk : Nat) (L : List DraftM) (lv : Value) (E : List EntM) : Prop where
 mi : MkI w5 B gm L N lv bo bz bk E
 gh : Ty w5 gh 32
theorem Apart.e1 {w5 : World} {B gm gh N bo bz bk : Nat} {L : List DraftM} {lv : Value} {E : List EntM} (h : Apart w5 B gm gh N bo bz bk L lv E) (i j : Nat) (hij : i ≠ j) (hi : i < L.length) (hj : j < L.length) : (E.getD i noEn).1 ≠ (E.getD j noEn).1 := by
 rcases Nat.lt_or_gt_of_ne hij with h1 | h1
 ·exact h.mi.ne i j h1 hj
 ·exact (h.mi.ne j i h1 hi).symm
theorem Apart.e2 {w5 : World} {B gm gh N bo bz bk : Nat} {L : List DraftM} {lv : Value} {E : List EntM} (h : Apart w5 B gm gh N bo bz bk L lv E) (i j : Nat) (hij : i ≠ j) (hi : i < L.length) (hj : j < L.length) (g : Nat) (h1 : (E.getD i noEn).2.2.ownBlock = some g) : (E.getD j noEn).2.2.ownBlock ≠ some g := by
 rcases Nat.lt_or_gt_of_ne hij with h2 | h2
 ·exact h.mi.neo i j h2 hj g h1
 ·exact fun h3 => h.mi.neo j i h2 hi g h3 h1
theorem Apart.ty {w5 : World} {B gm gh N bo bz bk : Nat} {L : List DraftM} {lv : Value} {E : List EntM} (h : Apart w5 B gm gh N bo bz bk L lv E) {k : Nat} {t : TypeId} (hk : Ty w5 k t) (h1 : t ≠ 57) (h2 : t ≠ 62) (n : Nat) (hn : n ≤ L.length) : ∀ j, j < n → k ≠ (E.getD j noEn).1 ∧ (E.getD j noEn).2.2.ownBlock ≠ some k := fun j hj => by
 have d := h.mi.dr j (by omega)
 exact ⟨hk.ne d.blk.ty h1, fun e => (hk.ne (owns_ty d.ops e) h2) rfl⟩
theorem HLoop.mid {w1 w5 w : World} {B gm gh i N bo bz bk : Nat} {L : List DraftM} {lv : Value} {E : List EntM} {S K : List (List UInt8)} {sv kv vt : Value} (ha : Apart w5 B gm gh N bo bz bk L lv E) (h : HLoop w1 w5 w B gh i L E S K sv kv vt) (hi : i < L.length) : HMid w1 w5 w B gh i L E S K sv kv vt 0 0 := by
 have d := ha.mi.dr i hi
 refine ⟨fun k hk h1 h2 => h.far k hk h1 (fun j hj => h2 j (by omega)), h.sz, h.ops, h.hb, h.row, h.bel, h.shut, d.blk.at (h.far _ d.blk.lt (d.blk.ty.ne ha.gh (by decide)) (fun j hj => ⟨ha.e1 i j (by omega) hi (by omega), fun e => (d.blk.ty.ne (owns_ty (ha.mi.dr j (by omega)).ops e) (by decide)) rfl⟩)), ?_⟩
 rw [midO_none]
 exact owns_at d.ops (fun k hk => h.far k (own_lt d.ops hk) ((owns_ty d.ops hk).ne ha.gh (by decide)) (fun j hj => ⟨(owns_ty d.ops hk).ne (ha.mi.dr j (by omega)).blk.ty (by decide), ha.e2 i j (by omega) hi (by omega) k hk⟩))
theorem HMid.sess {w1 w5 w : World} {B gm gh i j N bo bz bk : Nat} {s : Int} {L : List DraftM} {lv : Value} {E : List EntM} {S K : List (List UInt8)} {sv kv vt : Value} (ha : Apart w5 B gm gh N bo bz bk L lv E) (h : HMid w1 w5 w B gh i L E S K sv kv vt s j) (hi : i < L.length) (u : Int) :
  HMid w1 w5 (w.setCell ⟨(E.getD i noEn).1, 3, none⟩ (.int .i64 u)) B gh i L E S K sv kv vt u j := by
 have d := ha.mi.dr i hi
 have old : ∀ k, k ≠ (E.getD i noEn).1 → (w.setCell ⟨(E.getD i noEn).1, 3, none⟩ (.int .i64 u)).heap[k]? = w.heap[k]? := fun k h1 => Below.heap_setCell _ _ _ _ h1
 refine ⟨fun k hk h1 h2 => (old k (h2 i (by omega)).1).trans (h.far k hk h1 h2), by rw [set_size]; exact h.sz, fun j hj => owns_store (h.ops j hj) h.dr (by decide) 3 _, h.hb.at (old gh (h.hb.ty.ne h.dr.ty (by decide))), owns_store h.row h.dr (by decide) 3 _, h.bel.setCell d.base _, h.shut, h.dr.set 3 _, owns_store h.opi h.dr (by decide) 3 _⟩
theorem HMid.op {w1 w5 w : World} {B gm gh i j N bo bz bk go cp : Nat} {s : Int} {L : List DraftM} {lv : Value} {E : List EntM} {S K : List (List UInt8)} {sv kv vt : Value} (ha : Apart w5 B gm gh N bo bz bk L lv E) (h : HMid w1 w5 w B gh i L E S K sv kv vt s j) (hi : i < L.length)
  (hv : (E.getD i noEn).2.2 = .slice (some ⟨go, 0, none⟩) (L.getD i noD).ops.length cp) (hl : (L.getD i noD).ks.length = (L.getD i noD).ops.length) (hj : j < (L.getD i noD).ops.length) :
  HMid w1 w5 (w.setCell ⟨go, j * 4 + 1, none⟩ (.int .i64 ((findT K ((L.getD i noD).ks.getD j [])).1 : Int))) B gh i L E S K sv kv vt s (j + 1) := by
 have d := ha.mi.dr i hi
 have hown : (E.getD i noEn).2.2.ownBlock = some go := by rw [hv]; rfl
 have hty := owns_ty h.opi hown
 have old : ∀ k, k ≠ go → (w.setCell ⟨go, j * 4 + 1, none⟩ (.int .i64 ((findT K ((L.getD i noD).ks.getD j [])).1 : Int))).heap[k]? = w.heap[k]? := fun k h1 => Below.heap_setCell _ _ _ _ h1
 have hst := h.opi
 rw [hv] at hst
 have hst2 := (hst.stored (j * 4 + 1) (.int .i64 ((findT K ((L.getD i noD).ks.getD j [])).1 : Int))).1
 rw [midO_next K _ hl j hj] at hst2
 refine ⟨fun k hk h1 h2 => (old k (fun e => (h2 i (by omega)).2 (by rw [e]; exact hown))).trans (h.far k hk h1 h2), by rw [set_size]; exact h.sz, fun q hq => owns_at (h.ops q hq) (fun k hk => old k (fun e => ?_)), h.hb.at (old gh (h.hb.ty.ne hty (by decide))), owns_at h.row (fun k hk => old k ((owns_ty h.row hk).ne hty (by decide))), h.bel.setCell (d.ops.lt go hown).1 _, h.shut, h.dr.at (old _ (h.dr.ty.ne hty (by decide))), by rw [hv]; exact hst2⟩
 subst e
 exact ha.e2 i q (by omega) hi (by omega) k hown hk
theorem HMid.done {w1 w5 w w4 : World} {B gm gh i N bo bz bk : Nat} {L : List DraftM} {lv : Value} {E : List EntM} {S K : List (List UInt8)} {sv kv vt v4 : Value} {ob : Obj} (_ha : Apart w5 B gm gh N bo bz bk L lv E) (hlen : E.length = L.length) (h : HMid w1 w5 w B gh i L E S K sv kv vt ((findT S (L.getD i noD).nm).1 : Int) (L.getD i noD).ops.length) (hi : i < L.length)
  (ho : (L.getD i noD).op = false) (hg5 : B ≤ gh) (hB : B ≤ w1.heap.size) (hvt : ∀ k, vt.ownBlock = some k → w5.heap.size ≤ k)
  (hown : w4.ownsRow B 44 3 v4 (i + 1) (((L.zip E).take i).flatMap (txc S) ++ txc S (L.getD i noD, E.getD i noEn))) (hg : (w.alloc ob).grownBy w4 vt.ownBlock) (hat : v4.ownBlock = vt.ownBlock ∨ v4.ownBlock = some (w.alloc ob).heap.size) :
  Blk w4 gh 32 [sv, kv, vt] ∧ HLoop w1 w5 (w4.setCell ⟨gh, 2, none⟩ v4) B gh (i + 1) L E S K sv kv v4 ∧ ∀ k, v4.ownBlock = some k → w5.heap.size ≤ k := by
 have old : ∀ k, k < w.heap.size → vt.ownBlock ≠ some k → w4.heap[k]? = w.heap[k]? := fun k hk hne => by
  rw [hg.block k (by simp; omega) (fun e => hne e.symm), heap_alloc_old _ _ hk]
 have hb4 := h.hb.at (old gh h.hb.lt (fun e => (h.hb.ty.ne (owns_ty h.row e) (by decide)) rfl))
 have old5 : ∀ k, k < w.heap.size → vt.ownBlock ≠ some k → k ≠ gh → (w4.setCell ⟨gh, 2, none⟩ v4).heap[k]? = w.heap[k]? := fun k hk hne h1 => by
  rw [Below.heap_setCell _ _ _ _ h1]
  exact old k hk hne
 have hsz : w.heap.size ≤ w4.heap.size := Nat.le_trans (by simp) hg.size
 have keep : ∀ {n : Nat} {v : Value} {xs : List Value}, w.ownsRow B 62 4 v n xs → (w4.setCell ⟨gh, 2, none⟩ v4).ownsRow B 62 4 v n xs := fun hv => owns_at hv (fun k hk => old5 k (own_lt hv hk) (fun e => ((owns_ty hv hk).ne (owns_ty h.row e) (by decide)) rfl) ((owns_ty hv hk).ne h.hb.ty (by decide)))
 refine ⟨hb4, ⟨fun k hk h1 h2 => (old5 k (Nat.lt_of_lt_of_le hk h.sz) (fun e => by have := hvt k e; omega) h1).trans (h.far k hk h1 h2), by rw [set_size]; exact Nat.le_trans h.sz hsz, fun j hj => ?_, hb4.set 2 v4, ?_, ?_, fun j hj => ?_⟩, fun k hk => ?_⟩
 ·rcases Nat.lt_or_ge j i with h1 | h1
  ·exact keep (h.ops j h1)
  ·have e : j = i := by omega
   subst e
   exact keep h.opi
 ·rw [zip_take L E hlen i hi, ← flat_snoc]
  exact owns_store hown hb4 (by decide) 2 v4
 ·have hBw := Nat.le_trans hB h.bel.size
  exact ((h.bel.alloc hBw ob).grown hg (by simp; omega) (fun k hk => (h.row.lt k hk).1)).setCell hg5 _
 ·rcases Nat.lt_or_ge j i with h1 | h1
  ·exact h.shut j h1
  ·have e : j = i := by omega
   subst e
   exact ho
 ·rcases hat with hat | hat
  ·rw [hat] at hk; exact hvt k hk
  ·rw [hat] at hk; injection hk with hk; simp at hk; have := h.sz; omega
theorem HLoop.start {w1 w5 : World} {B gh : Nat} {L : List DraftM} {E : List EntM} {S K : List (List UInt8)} {sv kv : Value} (hb : Blk w5 gh 32 [sv, kv, .slice none 0 0]) (hw : Below B w1 w5) : HLoop w1 w5 w5 B gh 0 L E S K sv kv (.slice none 0 0) :=
 ⟨fun _ _ _ _ => rfl, Nat.le_refl _, fun j hj => absurd hj (Nat.not_lt_zero j), hb, by rw [List.take_zero]; exact World.ownsRow_nil _ _ _ _, hw, fun j hj => absurd hj (Nat.not_lt_zero j)⟩
theorem HLoop.ptrs {w1 w5 w : World} {B gm gh i N bo bz bk : Nat} {L : List DraftM} {lv : Value} {E : List EntM} {S K : List (List UInt8)} {sv kv vt : Value} (ha : Apart w5 B gm gh N bo bz bk L lv E) (h : HLoop w1 w5 w B gh i L E S K sv kv vt) (hi : i ≤ L.length) : SlS ptc 1 noEn w lv E :=
 own_sls (f := ptc) (s := 1) noEn (fun _ => rfl) (owns_at (w' := w) ha.mi.row (fun q hq => h.far q (own_lt ha.mi.row hq) ((owns_ty ha.mi.row hq).ne ha.gh (by decide)) (ha.ty (owns_ty ha.mi.row hq) (by decide) (by decide) i hi)))
theorem HLoop.bx {w1 w5 w : World} {B gm gh i N bo bz bk : Nat} {L : List DraftM} {lv : Value} {E : List EntM} {S K : List (List UInt8)} {sv kv vt : Value} (ha : Apart w5 B gm gh N bo bz bk L lv E) (h : HLoop w1 w5 w B gh i L E S K sv kv vt) (hi : i ≤ L.length) : Blk w gm 54 [lv, .map (some bo), .map (some bz), .map (some bk)] :=
 ha.mi.bx.at (h.far gm ha.mi.bx.lt (ha.mi.bx.ty.ne ha.gh (by decide)) (ha.ty ha.mi.bx.ty (by decide) (by decide) i hi))
theorem HLoop.opn {w1 w5 w : World} {B gm gh i N bo bz bk : Nat} {L : List DraftM} {lv : Value} {E : List EntM} {S K : List (List UInt8)} {sv kv vt : Value} (ha : Apart w5 B gm gh N bo bz bk L lv E) (h : HLoop w1 w5 w B gh i L E S K sv kv vt) (hi : i ≤ L.length) : OpnM w bo (openF L E) N :=
 ha.mi.opn.at (h.far bo ha.mi.opn.lt (ha.mi.opn.ty ha.gh) (fun j hj => ⟨ha.mi.opn.ty (ha.mi.dr j (by omega)).blk.ty, fun e => ha.mi.opn.ty (owns_ty (ha.mi.dr j (by omega)).ops e) rfl⟩))
theorem HLoop.other {w1 w5 w : World} {B gm gh i N bo bz bk g' : Nat} {L : List DraftM} {lv : Value} {E : List EntM} {S K : List (List UInt8)} {sv kv vt : Value} (ha : Apart w5 B gm gh N bo bz bk L lv E) (h : HLoop w1 w5 w B gh i L E S K sv kv vt) (_hi : i < L.length) (ho : (L.getD i noD).op = false) (hF : openF L E (L.getD i noD).nm = some g') : ∃ cs, Blk w g' 57 cs := by
 unfold openF at hF
 by_cases hlt : atD L (L.getD i noD).nm < L.length
 ·rw [if_pos hlt] at hF
  injection hF with hF
  obtain ⟨o1, o2⟩ := atD_spec L _ hlt
  have hgt : i < atD L (L.getD i noD).nm := by
   rcases Nat.lt_trichotomy (atD L (L.getD i noD).nm) i with h1 | h1 | h1
   ·rw [h.shut _ h1] at o1; cases o1
   ·rw [h1, ho] at o1; cases o1
   ·exact h1
  have d := ha.mi.dr _ hlt
  rw [← hF]
  exact ⟨_, d.blk.at (h.far _ d.blk.lt (d.blk.ty.ne ha.gh (by decide)) (fun j hj => ⟨ha.e1 _ j (by omega) hlt (by omega), fun e => (d.blk.ty.ne (owns_ty (ha.mi.dr j (by omega)).ops e) (by decide)) rfl⟩))⟩
 ·rw [if_neg hlt] at hF; cases hF
theorem nmc_strs (L : List (List UInt8)) : L.flatMap nmc = strs L := by
 induction L with
 | nil => rfl
 | cons a L ih => rw [List.flatMap_cons, ih]; rfl
theorem HMid.keys {w1 w5 w : World} {B gm gh i j N bo bz bk : Nat} {s : Int} {L : List DraftM} {lv : Value} {E : List EntM} {S K : List (List UInt8)} {sv kv vt : Value} (ha : Apart w5 B gm gh N bo bz bk L lv E) (h : HMid w1 w5 w B gh i L E S K sv kv vt s j) (hi : i < L.length) : Texts w (E.getD i noEn).2.1 (L.getD i noD).ks := by
 have d := ha.mi.dr i hi
 have := owns_at (w' := w) d.ks (fun q hq => h.far q (own_lt d.ks hq) ((owns_ty d.ks hq).ne ha.gh (by decide)) (ha.ty (owns_ty d.ks hq) (by decide) (by decide) (i + 1) hi))
 rw [nmc_strs] at this
 exact own_texts this
def LowE (L : List DraftM) (E : List EntM) (n0 : Nat) : Prop := ∀ j, j < L.length → (E.getD j noEn).1 < n0 ∧ ∀ g, (E.getD j noEn).2.2.ownBlock = some g → g < n0
theorem low_of {w : World} {B gm N bo bz bk : Nat} {L : List DraftM} {lv : Value} {E : List EntM} (h : MkI w B gm L N lv bo bz bk E) : LowE L E w.heap.size := fun j hj => ⟨(h.dr j hj).blk.lt, fun _g hg => own_lt (h.dr j hj).ops hg⟩
theorem texts_at {w w5 : World} {v : Value} {T : List (List UInt8)} {gh n0 i : Nat} {L : List DraftM} {E : List EntM} (h : TextsOff w5 v T gh n0) (hl : LowE L E n0) (hi : i ≤ L.length) (hf : ∀ k, k < w5.heap.size → k ≠ gh → (∀ j, j < i → k ≠ (E.getD j noEn).1 ∧ (E.getD j noEn).2.2.ownBlock ≠ some k) → w.heap[k]? = w5.heap[k]?) : Texts w v T :=
 h w (fun k h0 h1 h2 => hf k h2 h1 (fun j hj => ⟨fun e => by have := (hl j (by omega)).1; omega, fun e => by have := (hl j (by omega)).2 k e; omega⟩))
theorem txns_of {w : World} {B : Nat} {L : List DraftM} {E : List EntM} {S K : List (List UInt8)} {vt : Value} (hr : w.ownsRow B 44 3 vt L.length (((L.zip E).take L.length).flatMap (txc S)))
  (hops : ∀ j, j < L.length → w.ownsRow B 62 4 (E.getD j noEn).2.2 (L.getD j noD).ops.length ((midO K (L.getD j noD) (L.getD j noD).ops.length).flatMap opc)) (hl : E.length = L.length) (hG : GoodL L) : TxnsS w vt (L.map (txnD S K)) := by
 have hz : (L.zip E).length = L.length := by simp; omega
 rw [List.take_of_length_le (by omega)] at hr
 rw [← hz] at hr
 obtain ⟨p, cap, hv, hc⟩ := own_sls noP (txc_len S) hr
 refine ⟨p, cap, by rw [hv]; simp; omega, fun j hj => ?_⟩
 rw [List.length_map] at hj
 obtain ⟨g, hp, h1⟩ := hc j (by omega)
 rw [zip_at L E hl j hj] at h1
 have hd : (L.map (txnD S K)).getD j noTxn = txnD S K (L.getD j noD) := by simp [hj]
 rw [hd]
 refine ⟨g, (E.getD j noEn).2.2, hp, h1 0 _ rfl, h1 1 _ rfl, h1 2 _ rfl, ?_⟩
 have hg := hG.all _ (getD_memD L j hj)
 have ho := hops j hj
 rw [midO_all K _ hg.len] at ho
 have hlo : ((L.getD j noD).ops.zipWith (opK K) (L.getD j noD).ks).length = (L.getD j noD).ops.length := by rw [List.length_zipWith, hg.len, Nat.min_self]
 rw [← hlo] at ho
 obtain ⟨p2, cap2, hv2, hc2⟩ := own_sls noOp opc_len ho
 refine ⟨p2, cap2, hv2, fun q hq => ?_⟩
 obtain ⟨g2, hp2, h2⟩ := hc2 q hq
 exact ⟨g2, hp2, h2 0 _ rfl, h2 1 _ rfl, h2 2 _ rfl, h2 3 _ rfl⟩
end Go.Proofs.YthgbfaoblnkniaaDoor

namespace Go.Proofs.YthgbfaoblnkniaaDoor
open Go.RowKit
section
variable {P : Program} {ops : Array Oper} {Q : Exit → Act → World → Prop} {md : Region.Mode} {S : World → Prop} {late : List Nat}
theorem wpAnyM_two (i j : Nat) {di dj : Option Tmp} {opi opj : Op} {tyi tyj : TypeId} {posi posj : String} {afti aftj : Array Edge} {gdi gdj : Option (Nat × Bool)} {fuel : Nat} {listed : Array Bool} {a : Act} {w : World} (hi : ops[i]? = some ⟨di, opi, tyi, posi, afti, gdi⟩) (hj : ops[j]? = some ⟨dj, opj, tyj, posj, aftj, gdj⟩) (hr : Region.ready md ops listed = [i, j])
  (h1 : ∀ K : Act → World → Prop, RowKit.Hid (∀ a' w', (late.contains i = false → S w → S w') → wpAnyM P md ops Q S late fuel (listed.setIfInBounds i true) a' w' → K a' w') → if Region.wanted ⟨di, opi, tyi, posi, afti, gdi⟩ (yielded ops a.tmps) = true then Oper.wp P ⟨di, opi, tyi, posi, afti, gdi⟩ a w K Q else K (a.put di undef) w)
  (h2 : ∀ K : Act → World → Prop, RowKit.Hid (∀ a' w', (late.contains j = false → S w → S w') → wpAnyM P md ops Q S late fuel (listed.setIfInBounds j true) a' w' → K a' w') → if Region.wanted ⟨dj, opj, tyj, posj, aftj, gdj⟩ (yielded ops a.tmps) = true then Oper.wp P ⟨dj, opj, tyj, posj, aftj, gdj⟩ a w K Q else K (a.put dj undef) w) : wpAnyM P md ops Q S late (fuel + 1) listed a w := by
 refine ⟨fun h0 => (by rw [hr] at h0; cases h0), fun q hq => ?_⟩
 rw [hr] at hq
 have hq' : q = i ∨ q = j := by simpa using hq
 rcases hq' with rfl | rfl
 ·exact wpOp_step hi (fun K hK => h1 K (Lib.hid (fun a' w' g1 g2 => hK a' w' ⟨g1, g2⟩)))
 ·exact wpOp_step hj (fun K hK => h2 K (Lib.hid (fun a' w' g1 g2 => hK a' w' ⟨g1, g2⟩)))
end
end Go.Proofs.YthgbfaoblnkniaaDoor
