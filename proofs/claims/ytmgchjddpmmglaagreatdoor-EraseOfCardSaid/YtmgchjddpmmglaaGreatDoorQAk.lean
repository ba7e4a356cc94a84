/-
  Layer 10 (pair): what the program's maker holds, as memory of the call's own. No conditions.
  Layer 10 (pair): what the maker's steps leave in memory, the walks apart. No conditions.
  A region that draws its order, where two operations may come up next. No conditions.
-/
import Derived.Test.YtmgchjddpmmglaaGreatDoorQAj
import Derived.Maps.OwnOps
namespace Go.Proofs.YtmgchjddpmmglaaGreatDoor
section
open Go.RowKit Go.Lib Go.Maps
theorem owns_at {w w' : World} {base size n : Nat} {e : TypeId} {v : Value} {xs : List Value} (h : w.ownsRow base e size v n xs) (hb : ∀ k, v.ownBlock = some k → w'.heap[k]? = w.heap[k]?) : w'.ownsRow base e size v n xs := by
 obtain ⟨h1, h2⟩ := h
 refine ⟨h1, ?_⟩
 rcases h2 with h2 | ⟨g, cap, cur, e1, hg, hw, r⟩
 ·exact .inl h2
 ·exact .inr ⟨g, cap, cur, e1, hg, (hb g (by subst e1; rfl)).trans hw, r⟩
theorem Blk.at {w w' : World} {B : Nat} {t : TypeId} {cs : List Value} (h : Blk w B t cs) (e : w'.heap[B]? = w.heap[B]?) : Blk w' B t cs := e.trans h
def Ty (w : World) (g : Nat) (t : TypeId) : Prop := ∃ cs fz, w.heap[g]? = some (.cells cs t fz)
theorem Ty.ne {w : World} {g g' : Nat} {t t' : TypeId} (h : Ty w g t) (h' : Ty w g' t') (hne : t ≠ t') : g ≠ g' := by
 rintro rfl
 obtain ⟨_, _, h⟩ := h
 obtain ⟨_, _, h'⟩ := h'
 rw [h] at h'
 injection h' with h'
 injection h' with _ h'
 exact hne h'
theorem Blk.ty {w : World} {B : Nat} {t : TypeId} {cs : List Value} (h : Blk w B t cs) : Ty w B t := ⟨_, _, h⟩
theorem owns_ty {w : World} {base size n : Nat} {e : TypeId} {v : Value} {xs : List Value} (h : w.ownsRow base e size v n xs) {g : Nat} (hg : v.ownBlock = some g) : Ty w g e := by
 rcases h.2 with ⟨rfl, -⟩ | ⟨g', cap, cur, rfl, -, hw, -⟩
 ·cases hg
 ·have : g' = g := by simpa [Value.ownBlock] using hg
  subst this
  exact ⟨_, _, hw⟩
theorem map_ty {H : Type} {w : World} {P : Program} {k t : TypeId} {R : Value → Option (DataW H × List MemPlace)} {b n g : Nat} {D : DataW H} (h : w.ownsMap P k R b n D) (h' : Ty w g t) : b ≠ g := by
 rintro rfl
 obtain ⟨es, clock, hb, -⟩ := h
 obtain ⟨_, _, h'⟩ := h'
 rw [hb] at h'
 cases h'
theorem OpnM.ty {w : World} {b n g : Nat} {t : TypeId} {f : List UInt8 → Option Nat} (h : OpnM w b f n) (h' : Ty w g t) : b ≠ g := by
 obtain ⟨D, h1, -⟩ := h
 exact map_ty h1 h'
theorem CntM.ty {w : World} {b n g : Nat} {t : TypeId} {ks : List (List UInt8)} (h : CntM w b ks n) (h' : Ty w g t) : b ≠ g := by
 obtain ⟨D, h1, -⟩ := h
 exact map_ty h1 h'
def opc (o : OpM) : List Value := [.bool o.1, .int .i64 o.2.1, .int .i64 o.2.2.1, .int .i64 o.2.2.2]
theorem opc_len (o : OpM) : (opc o).length = 4 := rfl
def nmc (l : List UInt8) : List Value := [.string (bs l)]
abbrev EntM := Nat × Value × Value
def noEn : EntM := (0, .slice none 0 0, .slice none 0 0)
def drc (d : DraftM) (e : EntM) : List Value := [.string (bs d.nm), e.2.1, .int .i64 d.ln, .int .i64 0, .int .i64 d.fate, e.2.2]
structure DraftV (w : World) (B : Nat) (e : EntM) (d : DraftM) : Prop where
 base : B ≤ e.1
 blk : Blk w e.1 137 (drc d e)
 ks : w.ownsRow B 9 1 e.2.1 d.ks.length (d.ks.flatMap nmc)
 ops : w.ownsRow B 51 4 e.2.2 d.ops.length (d.ops.flatMap opc)
theorem DraftV.at {w w' : World} {B : Nat} {e : EntM} {d : DraftM} (h : DraftV w B e d) (h1 : w'.heap[e.1]? = w.heap[e.1]?) (h2 : ∀ k, e.2.1.ownBlock = some k → w'.heap[k]? = w.heap[k]?) (h3 : ∀ k, e.2.2.ownBlock = some k → w'.heap[k]? = w.heap[k]?) : DraftV w' B e d :=
 ⟨h.base, h.blk.at h1, owns_at h.ks h2, owns_at h.ops h3⟩
def ptc (e : EntM) : List Value := [.pointer (some ⟨e.1, 0, none⟩)]
def openF (L : List DraftM) (E : List EntM) (l : List UInt8) : Option Nat := if atD L l < L.length then some (E.getD (atD L l) noEn).1 else none
structure MkI (w : World) (B gm : Nat) (L : List DraftM) (N : Nat) (lv : Value) (bo bz bk : Nat) (E : List EntM) : Prop where
 bx : Blk w gm 134 [lv, .map (some bo), .map (some bz), .map (some bk)]
 base : B ≤ gm ∧ B ≤ bo ∧ B ≤ bz ∧ B ≤ bk
 maps : bo ≠ bz ∧ bo ≠ bk ∧ bz ≠ bk
 row : w.ownsRow B 135 1 lv E.length (E.flatMap ptc)
 len : E.length = L.length
 opn : OpnM w bo (openF L E) N
 ses : ∃ ks, CntM w bz ks N ∧ ks.Nodup ∧ ∀ x, x ∈ ks ↔ x ∈ namesD L
 key : ∃ ks, CntM w bk ks N ∧ ks.Nodup ∧ ∀ x, x ∈ ks ↔ x ∈ keysD L
 dr : ∀ i, i < L.length → DraftV w B (E.getD i noEn) (L.getD i noD)
 ne : ∀ i j, i < j → j < L.length → (E.getD i noEn).1 ≠ (E.getD j noEn).1
 nek : ∀ i j, i < j → j < L.length → ∀ g, (E.getD i noEn).2.1.ownBlock = some g → (E.getD j noEn).2.1.ownBlock ≠ some g
 neo : ∀ i j, i < j → j < L.length → ∀ g, (E.getD i noEn).2.2.ownBlock = some g → (E.getD j noEn).2.2.ownBlock ≠ some g
theorem own_lt {w : World} {base size n : Nat} {e : TypeId} {v : Value} {xs : List Value} (h : w.ownsRow base e size v n xs) {k : Nat} (hk : v.ownBlock = some k) : k < w.heap.size := (h.lt k hk).2
theorem MkI.zlt {w : World} {B gm N bo bz bk : Nat} {L : List DraftM} {lv : Value} {E : List EntM} (h : MkI w B gm L N lv bo bz bk E) : bz < w.heap.size := by
 obtain ⟨ks, c1, -⟩ := h.ses
 exact c1.lt
theorem MkI.below {w w' : World} {B gm N bo bz bk : Nat} {L : List DraftM} {lv : Value} {E : List EntM} (h : MkI w B gm L N lv bo bz bk E) (hb : Below w.heap.size w w') : MkI w' B gm L N lv bo bz bk E := by
 have k : ∀ g, g < w.heap.size → w'.heap[g]? = w.heap[g]? := fun g hg => hb.block g hg
 obtain ⟨k1, c1, n1, m1⟩ := h.ses
 obtain ⟨k2, c2, n2, m2⟩ := h.key
 exact ⟨h.bx.at (k _ h.bx.lt), h.base, h.maps, owns_at h.row (fun g hg => k g (own_lt h.row hg)), h.len, h.opn.at (k _ h.opn.lt), ⟨k1, c1.at (k _ c1.lt), n1, m1⟩, ⟨k2, c2.at (k _ c2.lt), n2, m2⟩,
  fun i hi => (h.dr i hi).at (k _ (h.dr i hi).blk.lt) (fun g hg => k g (own_lt (h.dr i hi).ks hg)) (fun g hg => k g (own_lt (h.dr i hi).ops hg)), h.ne, h.nek, h.neo⟩
theorem getD_snoc_lt (E : List EntM) (e : EntM) (i : Nat) (h : i < E.length) : (E ++ [e]).getD i noEn = E.getD i noEn := by simp [List.getElem?_append_left h]
theorem getD_snoc_eq (E : List EntM) (e : EntM) : (E ++ [e]).getD E.length noEn = e := by simp
theorem getD_snoc_lt' (E : List DraftM) (e : DraftM) (i : Nat) (h : i < E.length) : (E ++ [e]).getD i noD = E.getD i noD := by simp [List.getElem?_append_left h]
theorem getD_snoc_eq' (E : List DraftM) (e : DraftM) : (E ++ [e]).getD E.length noD = e := by simp
theorem atD_snoc (L : List DraftM) (d : DraftM) (s : List UInt8) : atD (L ++ [d]) s = if atD L s < L.length then atD L s else if isAt s d = true then L.length else L.length + 1 := by
 unfold atD
 rw [List.findIdx_append]
 by_cases h : List.findIdx (isAt s) L < L.length
 ·rw [if_pos h, if_pos h]
 ·rw [if_neg h, if_neg h, List.findIdx_singleton]
  by_cases e : isAt s d = true
  ·rw [if_pos e, if_pos e, Nat.zero_add]
  ·rw [if_neg e, if_neg e, Nat.add_comm]
theorem CntM.mono {w : World} {b N N' : Nat} {ks : List (List UInt8)} (h : CntM w b ks N) (hN : N ≤ N') : CntM w b ks N' := by
 obtain ⟨D, h1, h2, h3, h4⟩ := h
 refine ⟨D, h1, h2, h3, fun l => ?_⟩
 obtain ⟨c, e1, e2⟩ := h4 l
 exact ⟨c, e1, fun hk => by have := e2 hk; omega⟩
theorem OpnM.mono {w : World} {b n n' : Nat} {f : List UInt8 → Option Nat} (h : OpnM w b f n) (hn : n ≤ n') : OpnM w b f n' := by
 obtain ⟨D, h1, h2⟩ := h
 exact ⟨D, h1.mono hn, h2⟩
theorem names_add {s : List UInt8} {ks M : List (List UInt8)} (hd : ks.Nodup) (hm : ∀ x, x ∈ ks ↔ x ∈ M) : (if s ∈ ks then ks else ks ++ [s]).Nodup ∧ ∀ x, x ∈ (if s ∈ ks then ks else ks ++ [s]) ↔ x ∈ M ++ [s] := by
 by_cases h : s ∈ ks
 ·rw [if_pos h]
  refine ⟨hd, fun x => ?_⟩
  rw [hm, List.mem_append, List.mem_singleton]
  exact ⟨fun h => .inl h, fun h' => h'.elim id (fun e => by rw [e]; exact (hm s).1 h)⟩
 ·rw [if_neg h]
  refine ⟨List.nodup_append.2 ⟨hd, by simp, fun a ha b hb => ?_⟩, fun x => by rw [List.mem_append, List.mem_append, hm]⟩
  rw [List.mem_singleton] at hb
  subst hb
  intro e
  subst e
  exact h ha
theorem MkI.mono {w : World} {B gm N N' bo bz bk : Nat} {L : List DraftM} {lv : Value} {E : List EntM} (h : MkI w B gm L N lv bo bz bk E) (hN : N ≤ N') : MkI w B gm L N' lv bo bz bk E := by
 obtain ⟨k1, c1, n1, m1⟩ := h.ses
 obtain ⟨k2, c2, n2, m2⟩ := h.key
 exact ⟨h.bx, h.base, h.maps, h.row, h.len, h.opn.mono hN, ⟨k1, c1.mono hN, n1, m1⟩, ⟨k2, c2.mono hN, n2, m2⟩, h.dr, h.ne, h.nek, h.neo⟩
theorem MkI.begin {w w' : World} {B gm N N' bo bz bk g : Nat} {L : List DraftM} {lv lv' : Value} {E : List EntM} (s : List UInt8) (ln : Int) (h : MkI w B gm L N lv bo bz bk E) (hno : ¬ atD L s < L.length) (hg : w.heap.size ≤ g) (hB : B ≤ g)
  (hs : ∀ k, k < w.heap.size → k ≠ gm → lv.ownBlock ≠ some k → k ≠ bo → k ≠ bz → w'.heap[k]? = w.heap[k]?) (hm : Blk w' gm 134 [lv', .map (some bo), .map (some bz), .map (some bk)])
  (hr : w'.ownsRow B 135 1 lv' (E.length + 1) (E.flatMap ptc ++ [.pointer (some ⟨g, 0, none⟩)])) (hd : Blk w' g 137 [.string (bs s), .slice none 0 0, .int .i64 ln, .int .i64 0, .int .i64 0, .slice none 0 0])
  (ho : OpnM w' bo (updF (openF L E) s (some g)) N') (hz : ∃ ks, CntM w' bz ks N' ∧ ks.Nodup ∧ ∀ x, x ∈ ks ↔ x ∈ namesD L ++ [s]) (hN : N ≤ N') : MkI w' B gm (L ++ [⟨s, [], ln, 0, [], true⟩]) N' lv' bo bz bk (E ++ [(g, .slice none 0 0, .slice none 0 0)]) := by
 obtain ⟨k1, c1, -⟩ := h.ses
 obtain ⟨k2, c2, n2, m2⟩ := h.key
 have hl := h.len
 -- what is none of the turned blocks
 have far : ∀ k t, k < w.heap.size → Ty w k t → t ≠ 134 → t ≠ 135 → w'.heap[k]? = w.heap[k]? := fun k t hk ht e1 e2 =>
  hs k hk (ht.ne h.bx.ty e1) (fun e => (ht.ne (owns_ty h.row e) e2) rfl) (fun e => h.opn.ty ht e.symm) (fun e => c1.ty ht e.symm)
 have lt : ∀ i, i < L.length → (E.getD i noEn).1 < w.heap.size := fun i hi => (h.dr i hi).blk.lt
 refine ⟨hm, h.base, h.maps, ?_, by rw [List.length_append, List.length_append, hl]; rfl, ?_, by rw [names_snoc]; exact hz, ⟨k2, (c2.at (hs bk c2.lt (c2.ty h.bx.ty) (fun e => c2.ty (owns_ty h.row e) rfl) (Ne.symm h.maps.2.1) (Ne.symm h.maps.2.2))).mono hN, n2, fun x => by rw [keys_snoc, List.append_nil]; exact m2 x⟩, fun i hi => ?_, fun i j hij hj => ?_, fun i j hij hj k hk => ?_, fun i j hij hj k hk => ?_⟩
 ·rw [List.length_append, List.flatMap_append]; exact hr
 ·have e : openF (L ++ [⟨s, [], ln, 0, [], true⟩]) (E ++ [(g, .slice none 0 0, .slice none 0 0)]) = updF (openF L E) s (some g) := by
   funext x
   unfold openF updF
   rw [atD_snoc]
   by_cases hx : x = s
   ·subst hx
    have e2 : isAt x (⟨x, [], ln, 0, [], true⟩ : DraftM) = true := by simp [isAt]
    rw [if_neg hno, if_pos e2, if_pos rfl, if_pos (by simp), ← hl, getD_snoc_eq]
   ·have e2 : ¬ isAt x (⟨s, [], ln, 0, [], true⟩ : DraftM) = true := by simp [isAt, Ne.symm hx]
    rw [if_neg e2, if_neg hx]
    by_cases h3 : atD L x < L.length
    ·rw [if_pos h3, if_pos (by simp; omega), getD_snoc_lt _ _ _ (by omega)]; exact (if_pos h3).symm
    ·rw [if_neg h3, if_neg (by simp)]; exact (if_neg h3).symm
  rw [e]; exact ho
 ·rw [List.length_append] at hi
  have hi' : i < L.length ∨ i = L.length := by simp at hi; omega
  rcases hi' with hi' | rfl
  ·rw [getD_snoc_lt _ _ _ (by omega), getD_snoc_lt' _ _ _ hi']
   have d := h.dr i hi'
   exact d.at (far _ _ d.blk.lt d.blk.ty (by decide) (by decide)) (fun k hk => far k _ (own_lt d.ks hk) (owns_ty d.ks hk) (by decide) (by decide)) (fun k hk => far k _ (own_lt d.ops hk) (owns_ty d.ops hk) (by decide) (by decide))
  ·rw [getD_snoc_eq', ← hl, getD_snoc_eq]
   exact ⟨hB, hd, World.ownsRow_nil _ _ _ _, World.ownsRow_nil _ _ _ _⟩
 all_goals
  rw [List.length_append] at hj
  have hj' : j < L.length ∨ j = L.length := by simp at hj; omega
 ·rcases hj' with hj' | rfl
  ·rw [getD_snoc_lt _ _ _ (by omega), getD_snoc_lt _ _ _ (by omega)]
   exact h.ne i j hij hj'
  ·have := lt i hij
   rw [getD_snoc_lt _ _ _ (by omega), ← hl, getD_snoc_eq]
   simp only
   omega
 ·rcases hj' with hj' | rfl
  ·rw [getD_snoc_lt _ _ _ (by omega)] at hk ⊢
   exact h.nek i j hij hj' k hk
  ·rw [← hl, getD_snoc_eq]
   simp [Value.ownBlock]
 ·rcases hj' with hj' | rfl
  ·rw [getD_snoc_lt _ _ _ (by omega)] at hk ⊢
   exact h.neo i j hij hj' k hk
  ·rw [← hl, getD_snoc_eq]
   simp [Value.ownBlock]
theorem getD_setE (E : List EntM) (i j : Nat) (e : EntM) (hi : i < E.length) : (E.set i e).getD j noEn = if i = j then e else E.getD j noEn := by
 by_cases h : i = j
 ·subst h; simp [hi]
 ·rw [if_neg h]; simp [List.getElem?_set_ne h]
theorem flat_ptc (E : List EntM) (i : Nat) (e : EntM) (hi : i < E.length) (h : e.1 = (E.getD i noEn).1) : (E.set i e).flatMap ptc = E.flatMap ptc := by
 rw [List.flatMap_def, List.flatMap_def]
 congr 1
 apply List.ext_getElem
 ·simp
 ·intro j h1 h2
  simp only [List.length_map] at h2
  rw [List.getElem_map, List.getElem_map, List.getElem_set]
  by_cases e2 : i = j
  ·subst e2
   have e3 : E.getD i noEn = E[i] := by simp [hi]
   rw [if_pos rfl]; unfold ptc; rw [h, e3]
  ·rw [if_neg e2]
theorem MkI.set {w w' : World} {B gm N N' bo bz bk : Nat} {L : List DraftM} {lv : Value} {E : List EntM} (h : MkI w B gm L N lv bo bz bk E) (i : Nat) (hi : i < L.length) (e : EntM) (d : DraftM) (he : e.1 = (E.getD i noEn).1) (hn : d.nm = (L.getD i noD).nm)
  (hs : ∀ k, k < w.heap.size → k ≠ (E.getD i noEn).1 → (E.getD i noEn).2.1.ownBlock ≠ some k → (E.getD i noEn).2.2.ownBlock ≠ some k → k ≠ bo → k ≠ bk → w'.heap[k]? = w.heap[k]?) (hd : DraftV w' B e d)
  (hk : e.2.1.ownBlock = (E.getD i noEn).2.1.ownBlock ∨ ∃ g, e.2.1.ownBlock = some g ∧ w.heap.size ≤ g) (ho : e.2.2.ownBlock = (E.getD i noEn).2.2.ownBlock ∨ ∃ g, e.2.2.ownBlock = some g ∧ w.heap.size ≤ g)
  (hp : OpnM w' bo (openF (L.set i d) (E.set i e)) N') (hy : ∃ ks, CntM w' bk ks N' ∧ ks.Nodup ∧ ∀ x, x ∈ ks ↔ x ∈ keysD (L.set i d)) (hN : N ≤ N') : MkI w' B gm (L.set i d) N' lv bo bz bk (E.set i e) := by
 obtain ⟨k1, c1, n1, m1⟩ := h.ses
 obtain ⟨k2, c2, n2, m2⟩ := h.key
 have hl := h.len
 have hiE : i < E.length := by omega
 have di := h.dr i hi
 have far : ∀ k t, k < w.heap.size → Ty w k t → t ≠ 137 → t ≠ 9 → t ≠ 51 → w'.heap[k]? = w.heap[k]? := fun k t hk ht e1 e2 e3 =>
  hs k hk (ht.ne di.blk.ty e1) (fun e => (ht.ne (owns_ty di.ks e) e2) rfl) (fun e => (ht.ne (owns_ty di.ops e) e3) rfl) (fun e => h.opn.ty ht e.symm) (fun e => c2.ty ht e.symm)
 have near : ∀ j, j < L.length → j ≠ i → DraftV w' B (E.getD j noEn) (L.getD j noD) := fun j hj hji => by
  have dj := h.dr j hj
  have q1 : (E.getD j noEn).1 ≠ (E.getD i noEn).1 := by
   rcases Nat.lt_or_gt_of_ne hji with h1 | h1
   ·exact h.ne j i h1 hi
   ·exact (h.ne i j h1 hj).symm
  have q2 : ∀ k, (E.getD j noEn).2.1.ownBlock = some k → (E.getD i noEn).2.1.ownBlock ≠ some k := fun k h3 h4 => by
   rcases Nat.lt_or_gt_of_ne hji with h1 | h1
   ·exact h.nek j i h1 hi k h3 h4
   ·exact h.nek i j h1 hj k h4 h3
  have q3 : ∀ k, (E.getD j noEn).2.2.ownBlock = some k → (E.getD i noEn).2.2.ownBlock ≠ some k := fun k h3 h4 => by
   rcases Nat.lt_or_gt_of_ne hji with h1 | h1
   ·exact h.neo j i h1 hi k h3 h4
   ·exact h.neo i j h1 hj k h4 h3
  refine dj.at (hs _ dj.blk.lt q1 (fun e => (dj.blk.ty.ne (owns_ty di.ks e) (by decide)) rfl) (fun e => (dj.blk.ty.ne (owns_ty di.ops e) (by decide)) rfl) (fun e => h.opn.ty dj.blk.ty e.symm) (fun e => c2.ty dj.blk.ty e.symm)) (fun k hk => ?_) (fun k hk => ?_)
  ·have t := owns_ty dj.ks hk
   exact hs k (own_lt dj.ks hk) (t.ne di.blk.ty (by decide)) (q2 k hk) (fun e => (t.ne (owns_ty di.ops e) (by decide)) rfl) (fun e => h.opn.ty t e.symm) (fun e => c2.ty t e.symm)
  ·have t := owns_ty dj.ops hk
   exact hs k (own_lt dj.ops hk) (t.ne di.blk.ty (by decide)) (fun e => (t.ne (owns_ty di.ks e) (by decide)) rfl) (q3 k hk) (fun e => h.opn.ty t e.symm) (fun e => c2.ty t e.symm)
 refine ⟨h.bx.at (far _ _ h.bx.lt h.bx.ty (by decide) (by decide) (by decide)), h.base, h.maps, ?_, by rw [List.length_set, List.length_set]; exact hl, hp, ⟨k1, (c1.at (hs bz c1.lt (c1.ty di.blk.ty) (fun e => c1.ty (owns_ty di.ks e) rfl) (fun e => c1.ty (owns_ty di.ops e) rfl) (Ne.symm h.maps.1) h.maps.2.2)).mono hN, n1, fun x => by rw [names_set L i d hi hn]; exact m1 x⟩, hy, fun j hj => ?_, fun a b hab hb => ?_, fun a b hab hb k h3 h4 => ?_, fun a b hab hb k h3 h4 => ?_⟩
 ·rw [List.length_set, flat_ptc E i e hiE he]
  exact owns_at h.row (fun k hk => far k _ (own_lt h.row hk) (owns_ty h.row hk) (by decide) (by decide) (by decide))
 ·rw [List.length_set] at hj
  rw [getD_setE E i j e hiE, getD_setD L i j d hi]
  by_cases q : i = j
  ·rw [if_pos q, if_pos q]; exact hd
  ·rw [if_neg q, if_neg q]; exact near j hj (fun e => q e.symm)
 all_goals rw [List.length_set] at hb
 ·rw [getD_setE E i a e hiE, getD_setE E i b e hiE]
  have q1 : (if i = a then e else E.getD a noEn).1 = (E.getD a noEn).1 := by
   by_cases q : i = a
   ·rw [if_pos q, he, q]
   ·rw [if_neg q]
  have q2 : (if i = b then e else E.getD b noEn).1 = (E.getD b noEn).1 := by
   by_cases q : i = b
   ·rw [if_pos q, he, q]
   ·rw [if_neg q]
  rw [q1, q2]
  exact h.ne a b hab hb
 ·rw [getD_setE E i a e hiE] at h3
  rw [getD_setE E i b e hiE] at h4
  by_cases qa : i = a
  ·rw [if_pos qa] at h3
   rw [if_neg (by omega)] at h4
   rcases hk with hk | ⟨g, hk, hg⟩
   ·rw [hk, qa] at h3; exact h.nek a b hab hb k h3 h4
   ·rw [hk] at h3
    have := own_lt (h.dr b hb).ks h4
    injection h3 with h3
    omega
  ·rw [if_neg qa] at h3
   by_cases qb : i = b
   ·rw [if_pos qb] at h4
    rcases hk with hk | ⟨g, hk, hg⟩
    ·rw [hk, qb] at h4; exact h.nek a b hab hb k h3 h4
    ·rw [hk] at h4
     have := own_lt (h.dr a (by omega)).ks h3
     injection h4 with h4
     omega
   ·rw [if_neg qb] at h4; exact h.nek a b hab hb k h3 h4
 ·rw [getD_setE E i a e hiE] at h3
  rw [getD_setE E i b e hiE] at h4
  by_cases qa : i = a
  ·rw [if_pos qa] at h3
   rw [if_neg (by omega)] at h4
   rcases ho with hk | ⟨g, hk, hg⟩
   ·rw [hk, qa] at h3; exact h.neo a b hab hb k h3 h4
   ·rw [hk] at h3
    have := own_lt (h.dr b hb).ops h4
    injection h3 with h3
    omega
  ·rw [if_neg qa] at h3
   by_cases qb : i = b
   ·rw [if_pos qb] at h4
    rcases ho with hk | ⟨g, hk, hg⟩
    ·rw [hk, qb] at h4; exact h.neo a b hab hb k h3 h4
    ·rw [hk] at h4
     have := own_lt (h.dr a (by omega)).ops h3
     injection h4 with h4
     omega
   ·rw [if_neg qb] at h4; exact h.neo a b hab hb k h3 h4
theorem findIdx_congr {α : Type} (p q : α → Bool) : ∀ (A B : List α), A.length = B.length → (∀ i (h1 : i < A.length) (h2 : i < B.length), p A[i] = q B[i]) → A.findIdx p = B.findIdx q
 | [], [], _, _ => rfl
 | [], b :: B, h, _ => by cases h
 | a :: A, [], h, _ => by cases h
 | a :: A, b :: B, h, hp => by
  rw [List.findIdx_cons, List.findIdx_cons]
  have h0 := hp 0 (by simp) (by simp)
  simp only [List.getElem_cons_zero] at h0
  rw [h0, findIdx_congr p q A B (by simpa using h) (fun i h1 h2 => hp (i + 1) (Nat.succ_lt_succ h1) (Nat.succ_lt_succ h2))]
theorem openF_more (L : List DraftM) (E : List EntM) (i : Nat) (d : DraftM) (e : EntM) (hi : i < L.length) (hl : E.length = L.length) (hn : d.nm = (L.getD i noD).nm) (ho : d.op = (L.getD i noD).op) (he : e.1 = (E.getD i noEn).1) : openF (L.set i d) (E.set i e) = openF L E := by
 funext s
 have h1 : atD (L.set i d) s = atD L s := by
  refine findIdx_congr _ _ _ _ (by simp) (fun j g1 g2 => ?_)
  rw [List.getElem_set]
  by_cases q : i = j
  ·subst q
   rw [if_pos rfl]
   have e3 : L.getD i noD = L[i] := by simp [hi]
   unfold isAt; rw [hn, ho, e3]
  ·rw [if_neg q]
 unfold openF
 rw [h1, List.length_set, getD_setE E i _ e (by omega)]
 by_cases q : i = atD L s
 ·rw [if_pos q, he, q]
 ·rw [if_neg q]
theorem openF_end (L : List DraftM) (E : List EntM) (hL : GoodL L) (s : List UInt8) (d : DraftM) (e : EntM) (hi : atD L s < L.length) (hl : E.length = L.length) (ho : d.op = false) : openF (L.set (atD L s) d) (E.set (atD L s) e) = updF (openF L E) s none := by
 obtain ⟨o1, o2⟩ := atD_spec L s hi
 funext x
 unfold openF updF
 by_cases hx : x = s
 ·subst hx
  rw [if_pos rfl]
  refine if_neg ?_
  rw [List.length_set]
  intro h9
  have h8 : atD (L.set (atD L x) d) x < (L.set (atD L x) d).length := by rw [List.length_set]; exact h9
  obtain ⟨p1, p2⟩ := atD_spec _ x h8
  rw [getD_setD L _ _ d hi] at p1 p2
  by_cases q : atD L x = atD (L.set (atD L x) d) x
  ·rw [if_pos q, ho] at p1; cases p1
  ·rw [if_neg q] at p1 p2
   rcases Nat.lt_or_gt_of_ne q with h1 | h1
   ·exact hL.one _ _ h1 h9 o1 p1 (by rw [o2, p2])
   ·exact hL.one _ _ h1 hi p1 o1 (by rw [o2, p2])
 ·rw [if_neg hx]
  have h1 : atD (L.set (atD L s) d) x = atD L x := by
   refine findIdx_congr _ _ _ _ (by simp) (fun j g1 g2 => ?_)
   rw [List.getElem_set]
   by_cases q : atD L s = j
   ·rw [if_pos q]
    have e3 : L.getD j noD = L[j] := by simp [g2]
    have e4 : L[j].nm = s := by rw [← e3, ← q]; exact o2
    unfold isAt
    rw [ho, e4, decide_eq_false (Ne.symm hx)]
    simp
   ·rw [if_neg q]
  rw [h1, List.length_set, getD_setE E _ _ e (by omega)]
  by_cases q : atD L s = atD L x
  ·by_cases h2 : atD L x < L.length
   ·have := (atD_spec L x h2).2
    rw [← q, o2] at this
    exact absurd this.symm hx
   ·rw [if_neg h2]; exact (if_neg h2).symm
  ·rw [if_neg q]
end
section
open Go.RowKit Go.Lib Go.Maps
theorem info_pdr : (Tryz.prog.info? 135).map (fun i => (i.zero, i.size, i.bytes)) = some (some (.pointer none), 1, 8) := by kernel_rfl
theorem ones_ptr (g : Nat) : ∀ u ∈ ([.pointer (some ⟨g, 0, none⟩)] : List Value), u.oneCell' = true := by
 intro u hu
 simp at hu
 subst hu
 rfl
theorem turn_block {w w' : World} {b : Nat} (h : w.mapTurned w' b) (k : Nat) (hk : k < w.heap.size) (hne : k ≠ b) : w'.heap[k]? = w.heap[k]? := h.grown.block k hk (fun e => hne (by injection e))
theorem turn_below {w w' a : World} {b n : Nat} (h : w.mapTurned w' b) (hb : Below n a w) (hn : n ≤ a.heap.size) (hbn : n ≤ b) : Below n a w' :=
 hb.grown h.grown (Nat.le_trans hn hb.size) (fun k hk => by injection hk with hk; omega)
theorem turn_ty {w w' : World} {b k : Nat} {t : TypeId} (ht : w.mapTurned w' b) (hk : Ty w k t) : w'.heap[k]? = w.heap[k]? := by
 obtain ⟨cs, fz, h2⟩ := hk
 refine turn_block ht k (Array.getElem?_eq_some_iff.1 h2).1 (fun e => ?_)
 obtain ⟨es, clock, _, _, h1, _⟩ := ht
 rw [e, h1] at h2
 cases h2
theorem lt_of_eq {w w' : World} {k : Nat} (h : w'.heap[k]? = w.heap[k]?) (hk : k < w.heap.size) : k < w'.heap.size := by
 rcases Nat.lt_or_ge k w'.heap.size with h5 | h5
 ·exact h5
 ·rw [Array.getElem?_eq_none h5, Array.getElem?_eq_getElem hk] at h
  cases h
theorem set_size (w : World) (a : Addr) (v : Value) : (w.setCell a v).heap.size = w.heap.size := by simp
theorem step_append_own_at {P : Program} {w : World} {ops : Array Oper} {o : Oper} {a : Act} {K : Act → World → Prop} {Q : Exit → Act → World → Prop} {F : Prop} (hgd : o.guard = none) (s x : Operand) (t : TypeId)
  (ho : o.op = .call { callee := .builtin .append, args := #[s, x], argTypes := #[t, t] })
  (base : Nat) (e : TypeId) (i : TypeInfo) (z : Value) (size bytes : Nat) (ht : P.underlying t = some (.slice e)) (hi : P.info? e = some i) (hz : i.zero = some z)
  (hsize : i.size = size) (hby : i.bytes = bytes) (hzs : z.cells.size = size) (hsz : 0 < size)
  (v : Value) (n : Nat) (xs : List Value) (hs : a.eval s = v) (hown : w.ownsRow base e size v n xs)
  (ad : Addr) (m c : Nat) (news : List Value) (hx : a.eval x = .slice (some ad) m c) (hl : news.length = m * size) (hnews : ∀ j u, news[j]? = some u → w.cell? (ad.add j) = some u) (h1 : ∀ u ∈ news, u.oneCell' = true)
  (h63 : n + m ≤ maxLen) (hbytes : (n + m) * bytes ≤ 140737488355328) (hbase : base ≤ w.heap.size)
  (h : ∀ v' w', w'.ownsRow base e size v' (n + m) (xs ++ news) → w.grownBy w' v.ownBlock → (v'.ownBlock = v.ownBlock ∨ v'.ownBlock = some w.heap.size) → K (a.put o.dst v') w') :
  if Region.wanted o (yielded ops a.tmps) = true then Oper.wp P o a w K Q else F := by
 have hw : Region.wanted o (yielded ops a.tmps) = true := by simp [Region.wanted, hgd]
 rw [if_pos hw]
 obtain ⟨v', w', hr, h2, h3, -, h5⟩ := run_append_own_at (P := P) w base t o.type e i z size bytes ht hi hz hsize hby hzs hsz v n xs hown ad m c news hl hnews h1 h63 hbytes hbase
 unfold Oper.wp execOp
 simp only [ho, resolve, invoke, builtin, Sem.run_bind, Sem.run_pure, Result.andThen_ok, List.map_toArray, List.map_cons, List.map_nil, hs, hx, hr]
 exact h v' w' h2 h3 h5
theorem step_del {w : World} {ops : Array Oper} {o : Oper} {a : Act} {K : Act → World → Prop} {Q : Exit → Act → World → Prop} {F : Prop} {b n : Nat} {f : List UInt8 → Option Nat} {l : List UInt8} (hgd : o.guard = none) (m key : Operand)
  (ho : o.op = .call { callee := .builtin .delete, args := #[m, key], argTypes := #[131, 9] }) (hm : a.eval m = .map (some b)) (hk : a.eval key = .string (bs l)) (h : OpnM w b f n) (hl : l.length ≤ 9223372036854775807)
  (hK : ∀ w', OpnM w' b (updF f l none) n → w.mapTurned w' b → K (a.put o.dst (.tuple #[])) w') : if Region.wanted o (yielded ops a.tmps) = true then Oper.wp Tryz.prog o a w K Q else F := by
 have hw : Region.wanted o (yielded ops a.tmps) = true := by simp [Region.wanted, hgd]
 rw [if_pos hw]
 obtain ⟨w', r1, r2, r3⟩ := opn_del h l hl o.type
 unfold Oper.wp execOp
 simp only [ho, resolve, invoke, builtin, Sem.run_bind, Sem.run_pure, Result.andThen_ok, List.map_toArray, List.map_cons, List.map_nil, hm, hk, r1]
 exact hK w' r2 r3
structure StB (w0 w : World) (B gm N bo bz bk gx : Nat) (L : List DraftM) (lv : Value) (E : List EntM) (x : EventM) : Prop where
 mi : MkI w B gm L N lv bo bz bk E
 box : Blk w gx 123 [.int .i64 x.1, .string (bs x.2.1), .string (bs x.2.2.1), .int .i64 x.2.2.2.1, .int .i64 x.2.2.2.2.1, .int .i64 x.2.2.2.2.2]
 bel : Below w0.heap.size w0 w
theorem StB.below {w0 w w' : World} {B gm N bo bz bk gx : Nat} {L : List DraftM} {lv : Value} {E : List EntM} {x : EventM} (h : StB w0 w B gm N bo bz bk gx L lv E x) (hb : Below w.heap.size w w') : StB w0 w' B gm N bo bz bk gx L lv E x :=
 ⟨h.mi.below hb, h.box.later hb, below_next h.bel hb⟩
def newc (s : List UInt8) (ln : Int) : List Value := [.string (bs s), .slice none 0 0, .int .i64 ln, .int .i64 0, .int .i64 0, .slice none 0 0]
structure MidB (w0 w3 w : World) (B gm bo bz bk gx g n : Nat) (lv lv' : Value) (E : List EntM) (x : EventM) : Prop where
 mb : Blk w gm 134 [lv', .map (some bo), .map (some bz), .map (some bk)]
 box : Blk w gx 123 [.int .i64 x.1, .string (bs x.2.1), .string (bs x.2.2.1), .int .i64 x.2.2.2.1, .int .i64 x.2.2.2.2.1, .int .i64 x.2.2.2.2.2]
 dr : Blk w g 137 (newc x.2.1 x.2.2.2.2.2)
 row : w.ownsRow B 135 1 lv' n (E.flatMap ptc ++ [.pointer (some ⟨g, 0, none⟩)])
 far : ∀ k, k < w3.heap.size → k ≠ gm → lv.ownBlock ≠ some k → k ≠ bo → k ≠ bz → w.heap[k]? = w3.heap[k]?
 bel : Below B w0 w
theorem begin_mid {w0 w3 w4 : World} {B gm N bo bz bk gx : Nat} {L : List DraftM} {lv v4 : Value} {E : List EntM} {x : EventM} {o : Obj} (h : StB w0 w3 B gm N bo bz bk gx L lv E x) (hB : B ≤ w0.heap.size)
  (hown : w4.ownsRow B 135 1 v4 (E.length + 1) (E.flatMap ptc ++ [.pointer (some ⟨w3.heap.size, 0, none⟩)]))
  (hg : ((w3.alloc (.cells (newc x.2.1 x.2.2.2.2.2).toArray 137)).alloc o).grownBy w4 lv.ownBlock) :
  Blk w4 gm 134 [lv, .map (some bo), .map (some bz), .map (some bk)] ∧ MidB w0 w3 (w4.setCell ⟨gm, 0, none⟩ v4) B gm bo bz bk gx w3.heap.size (E.length + 1) lv v4 E x ∧ OpnM (w4.setCell ⟨gm, 0, none⟩ v4) bo (openF L E) N ∧ (w4.setCell ⟨gm, 0, none⟩ v4).heap[bz]? = w3.heap[bz]? := by
 have old : ∀ k, k < w3.heap.size → lv.ownBlock ≠ some k → w4.heap[k]? = w3.heap[k]? := fun k hk hne => by
  rw [hg.block k (by simp; omega) (fun e => hne e.symm), heap_kept _ _ (by simp; omega), heap_kept _ _ hk]
 have hm := h.mi
 have hmlt := hm.bx.lt
 have hmo : lv.ownBlock ≠ some gm := fun e => (hm.bx.ty.ne (owns_ty hm.row e) (by decide)) rfl
 have hm4 := hm.bx.at (old gm hmlt hmo)
 have hgx := h.box.lt
 have hxo : lv.ownBlock ≠ some gx := fun e => (h.box.ty.ne (owns_ty hm.row e) (by decide)) rfl
 have hxm : gx ≠ gm := h.box.ty.ne hm.bx.ty (by decide)
 have hnew : Blk w4 w3.heap.size 137 (newc x.2.1 x.2.2.2.2.2) := by
  refine ((Blk.new w3 _ _).alloc o).at (hg.block _ (by simp; omega) (fun e => ?_))
  have := own_lt hm.row e.symm
  omega
 have old5 : ∀ k, k < w3.heap.size → k ≠ gm → lv.ownBlock ≠ some k → (w4.setCell ⟨gm, 0, none⟩ v4).heap[k]? = w3.heap[k]? := fun k hk h1 h2 => by
  rw [Below.heap_setCell _ _ _ _ h1]
  exact old k hk h2
 obtain ⟨ks, c1, -⟩ := hm.ses
 refine ⟨hm4, ⟨hm4.set 0 v4, (h.box.at (old gx hgx hxo)).far hxm v4, hnew.far (by simp; omega) v4, owns_store hown hm4 (by decide) 0 v4, fun k hk h1 h2 _ _ => old5 k hk h1 h2, ?_⟩, hm.opn.at (old5 bo hm.opn.lt (hm.opn.ty hm.bx.ty) (fun e => hm.opn.ty (owns_ty hm.row e) rfl)), old5 bz c1.lt (c1.ty hm.bx.ty) (fun e => c1.ty (owns_ty hm.row e) rfl)⟩
 ·have hs := h.bel.size
  have hb : Below B w0 w3 := h.bel.mono hB
  have h3 : Below B w0 w4 := ((hb.alloc (by omega) _).alloc (by simp; omega) o).grown hg (by simp; omega) (fun k hk => (hm.row.lt k hk).1)
  exact h3.setCell hm.base.1 _
theorem MidB.drew {w0 w3 w : World} {B gm bo bz bk gx g n : Nat} {lv lv' : Value} {E : List EntM} {x : EventM} (h : MidB w0 w3 w B gm bo bz bk gx g n lv lv' E x) : MidB w0 w3 w.drew B gm bo bz bk gx g n lv lv' E x :=
 ⟨h.mb, h.box, h.dr, h.row, h.far, h.bel.drew⟩
theorem MidB.turn {w0 w3 w w' : World} {B gm bo bz bk gx g n b : Nat} {lv lv' : Value} {E : List EntM} {x : EventM} (h : MidB w0 w3 w B gm bo bz bk gx g n lv lv' E x) (ht : w.mapTurned w' b) (hb : b = bo ∨ b = bz) (hB : B ≤ w0.heap.size) (hBb : B ≤ b) : MidB w0 w3 w' B gm bo bz bk gx g n lv lv' E x := by
 refine ⟨h.mb.at (turn_ty ht h.mb.ty), h.box.at (turn_ty ht h.box.ty), h.dr.at (turn_ty ht h.dr.ty), owns_at h.row (fun k hk => turn_ty ht (owns_ty h.row hk)), fun k hk h1 h2 h3 h4 => ?_, turn_below ht h.bel hB hBb⟩
 have hf := h.far k hk h1 h2 h3 h4
 rw [← hf]
 exact turn_block ht k (lt_of_eq hf hk) (fun e => hb.elim (fun e2 => h3 (e.trans e2)) (fun e2 => h4 (e.trans e2)))
structure MidO (w0 w3 w : World) (B bo bk gx N : Nat) (f : List UInt8 → Option Nat) (kl : List (List UInt8)) (e0 e : EntM) (d : DraftM) (x : EventM) : Prop where
 box : Blk w gx 123 [.int .i64 x.1, .string (bs x.2.1), .string (bs x.2.2.1), .int .i64 x.2.2.2.1, .int .i64 x.2.2.2.2.1, .int .i64 x.2.2.2.2.2]
 dv : DraftV w B e d
 one : e.1 = e0.1
 hk : e.2.1.ownBlock = e0.2.1.ownBlock ∨ ∃ g, e.2.1.ownBlock = some g ∧ w3.heap.size ≤ g
 ho : e.2.2.ownBlock = e0.2.2.ownBlock ∨ ∃ g, e.2.2.ownBlock = some g ∧ w3.heap.size ≤ g
 far : ∀ k, k < w3.heap.size → k ≠ e0.1 → e0.2.1.ownBlock ≠ some k → e0.2.2.ownBlock ≠ some k → k ≠ bo → k ≠ bk → w.heap[k]? = w3.heap[k]?
 opn : OpnM w bo f N
 cnt : CntM w bk kl N
 bel : Below B w0 w
 sz : w3.heap.size ≤ w.heap.size
theorem MidO.start {w0 w3 : World} {B gm N bo bz bk gx : Nat} {L : List DraftM} {lv : Value} {E : List EntM} {x : EventM} (h : StB w0 w3 B gm N bo bz bk gx L lv E x) (hB : B ≤ w0.heap.size) (i : Nat) (hi : i < L.length) {kl : List (List UInt8)} (hc : CntM w3 bk kl N) :
  MidO w0 w3 w3 B bo bk gx N (openF L E) kl (E.getD i noEn) (E.getD i noEn) (L.getD i noD) x :=
 ⟨h.box, h.mi.dr i hi, rfl, .inl rfl, .inl rfl, fun _ _ _ _ _ _ _ => rfl, h.mi.opn, hc, h.bel.mono hB, Nat.le_refl _⟩
theorem MidO.drew {w0 w3 w : World} {B bo bk gx N : Nat} {f : List UInt8 → Option Nat} {kl : List (List UInt8)} {e0 e : EntM} {d : DraftM} {x : EventM} (h : MidO w0 w3 w B bo bk gx N f kl e0 e d x) : MidO w0 w3 w.drew B bo bk gx N f kl e0 e d x :=
 ⟨h.box, ⟨h.dv.base, h.dv.blk, h.dv.ks, h.dv.ops⟩, h.one, h.hk, h.ho, h.far, h.opn.at rfl, h.cnt.at rfl, h.bel.drew, h.sz⟩
theorem MidO.turnK {w0 w3 w w' : World} {B bo bk gx N : Nat} {f : List UInt8 → Option Nat} {kl kl' : List (List UInt8)} {e0 e : EntM} {d : DraftM} {x : EventM} (h : MidO w0 w3 w B bo bk gx N f kl e0 e d x) (ht : w.mapTurned w' bk) (hc : CntM w' bk kl' (N + 1)) (hB : B ≤ w0.heap.size) (hBb : B ≤ bk) (hne : bo ≠ bk) :
  MidO w0 w3 w' B bo bk gx (N + 1) f kl' e0 e d x := by
 refine ⟨h.box.at (turn_ty ht h.box.ty), h.dv.at (turn_ty ht h.dv.blk.ty) (fun k hk => turn_ty ht (owns_ty h.dv.ks hk)) (fun k hk => turn_ty ht (owns_ty h.dv.ops hk)), h.one, h.hk, h.ho, fun k hk h1 h2 h3 h4 h5 => ?_, (h.opn.at (turn_block ht bo h.opn.lt hne)).mono (Nat.le_succ N), hc, turn_below ht h.bel hB hBb, Nat.le_trans h.sz ht.grown.size⟩
 have hf := h.far k hk h1 h2 h3 h4 h5
 rw [← hf]
 exact turn_block ht k (lt_of_eq hf hk) h5
theorem MidO.turnO {w0 w3 w w' : World} {B bo bk gx N : Nat} {f f' : List UInt8 → Option Nat} {kl : List (List UInt8)} {e0 e : EntM} {d : DraftM} {x : EventM} (h : MidO w0 w3 w B bo bk gx N f kl e0 e d x) (ht : w.mapTurned w' bo) (hc : OpnM w' bo f' N) (hB : B ≤ w0.heap.size) (hBb : B ≤ bo) (hne : bo ≠ bk) :
  MidO w0 w3 w' B bo bk gx N f' kl e0 e d x := by
 refine ⟨h.box.at (turn_ty ht h.box.ty), h.dv.at (turn_ty ht h.dv.blk.ty) (fun k hk => turn_ty ht (owns_ty h.dv.ks hk)) (fun k hk => turn_ty ht (owns_ty h.dv.ops hk)), h.one, h.hk, h.ho, fun k hk h1 h2 h3 h4 h5 => ?_, hc, h.cnt.at (turn_block ht bk h.cnt.lt (Ne.symm hne)), turn_below ht h.bel hB hBb, Nat.le_trans h.sz ht.grown.size⟩
 have hf := h.far k hk h1 h2 h3 h4 h5
 rw [← hf]
 exact turn_block ht k (lt_of_eq hf hk) h4
theorem MidO.fate {w0 w3 w : World} {B bo bk gx N : Nat} {f : List UInt8 → Option Nat} {kl : List (List UInt8)} {e0 e : EntM} {d : DraftM} {x : EventM} (h : MidO w0 w3 w B bo bk gx N f kl e0 e d x) (u : Int) (o : Bool) :
  MidO w0 w3 (w.setCell ⟨e.1, 4, none⟩ (.int .i64 u)) B bo bk gx N f kl e0 e { d with fate := u, op := o } x := by
 have hb := h.dv.blk
 have old5 : ∀ k, k ≠ e.1 → (w.setCell ⟨e.1, 4, none⟩ (.int .i64 u)).heap[k]? = w.heap[k]? := fun k h1 => Below.heap_setCell _ _ _ _ h1
 refine ⟨h.box.at (old5 gx (h.box.ty.ne hb.ty (by decide))), ⟨h.dv.base, hb.set 4 _, owns_at h.dv.ks (fun k hk => old5 k ((owns_ty h.dv.ks hk).ne hb.ty (by decide))), owns_at h.dv.ops (fun k hk => old5 k ((owns_ty h.dv.ops hk).ne hb.ty (by decide)))⟩, h.one, h.hk, h.ho, fun k hk h1 h2 h3 h4 h5 => ?_,
  h.opn.at (old5 bo (h.opn.ty hb.ty)), h.cnt.at (old5 bk (h.cnt.ty hb.ty)), h.bel.setCell h.dv.base _, by rw [set_size]; exact h.sz⟩
 rw [old5 k (by rw [h.one]; exact h1)]
 exact h.far k hk h1 h2 h3 h4 h5
theorem MidO.ops {w0 w3 w w4 : World} {B bo bk gx N : Nat} {f : List UInt8 → Option Nat} {kl : List (List UInt8)} {e0 e : EntM} {d : DraftM} {x : EventM} {v4 : Value} {ob : Obj} (h : MidO w0 w3 w B bo bk gx N f kl e0 e d x) (o : OpM)
  (hown : w4.ownsRow B 51 4 v4 (d.ops.length + 1) (d.ops.flatMap opc ++ opc o)) (hg : (w.alloc ob).grownBy w4 e.2.2.ownBlock) (hat : v4.ownBlock = e.2.2.ownBlock ∨ v4.ownBlock = some (w.alloc ob).heap.size) (hB : B ≤ w0.heap.size) :
  Blk w4 e.1 137 (drc d e) ∧ MidO w0 w3 (w4.setCell ⟨e.1, 5, none⟩ v4) B bo bk gx N f kl e0 (e.1, e.2.1, v4) { d with ops := d.ops ++ [o] } x := by
 have hb := h.dv.blk
 have hBw := Nat.le_trans hB h.bel.size
 have old : ∀ k, k < w.heap.size → e.2.2.ownBlock ≠ some k → w4.heap[k]? = w.heap[k]? := fun k hk hne => by
  rw [hg.block k (by simp; omega) (fun e => hne e.symm), heap_kept _ _ hk]
 have no : ∀ {k t}, Ty w k t → t ≠ 51 → e.2.2.ownBlock ≠ some k := fun {k t} hk ht he => (hk.ne (owns_ty h.dv.ops he) ht) rfl
 have hb4 := hb.at (old e.1 hb.lt (no hb.ty (by decide)))
 have old5 : ∀ k, k < w.heap.size → e.2.2.ownBlock ≠ some k → k ≠ e.1 → (w4.setCell ⟨e.1, 5, none⟩ v4).heap[k]? = w.heap[k]? := fun k hk hne h1 => by
  rw [Below.heap_setCell _ _ _ _ h1]
  exact old k hk hne
 have hsz : w.heap.size ≤ w4.heap.size := Nat.le_trans (by simp) hg.size
 refine ⟨hb4, h.box.at (old5 gx h.box.lt (no h.box.ty (by decide)) (h.box.ty.ne hb.ty (by decide))), ⟨h.dv.base, hb4.set 5 v4, owns_at h.dv.ks (fun k hk => old5 k (own_lt h.dv.ks hk) (no (owns_ty h.dv.ks hk) (by decide)) ((owns_ty h.dv.ks hk).ne hb.ty (by decide))), ?_⟩, h.one, h.hk, ?_, fun k hk h1 h2 h3 h4 h5 => ?_,
  h.opn.at (old5 bo h.opn.lt (fun e => h.opn.ty (owns_ty h.dv.ops e) rfl) (h.opn.ty hb.ty)), h.cnt.at (old5 bk h.cnt.lt (fun e => h.cnt.ty (owns_ty h.dv.ops e) rfl) (h.cnt.ty hb.ty)), ?_, by rw [set_size]; exact Nat.le_trans h.sz hsz⟩
 ·have := owns_store hown hb4 (by decide) 5 v4
  rw [flat_snoc] at this
  simpa using this
 ·rcases hat with hat | hat
  ·simp only; rw [hat]; exact h.ho
  ·exact .inr ⟨_, hat, Nat.le_trans h.sz (by simp)⟩
 ·rw [old5 k (Nat.lt_of_lt_of_le hk h.sz) (fun e => ?_) (by rw [h.one]; exact h1)]
  ·exact h.far k hk h1 h2 h3 h4 h5
  ·rcases h.ho with h6 | ⟨g, h6, h7⟩
   ·rw [h6] at e; exact h3 e
   ·rw [h6] at e; injection e with e; omega
 ·exact ((h.bel.alloc hBw ob).grown hg (by simp; omega) (fun k hk => (h.dv.ops.lt k hk).1)).setCell h.dv.base _
theorem MidO.ks {w0 w3 w w4 : World} {B bo bk gx N : Nat} {f : List UInt8 → Option Nat} {kl : List (List UInt8)} {e0 e : EntM} {d : DraftM} {x : EventM} {v4 : Value} {ob : Obj} (h : MidO w0 w3 w B bo bk gx N f kl e0 e d x) (o : List UInt8)
  (hown : w4.ownsRow B 9 1 v4 (d.ks.length + 1) (d.ks.flatMap nmc ++ nmc o)) (hg : (w.alloc ob).grownBy w4 e.2.1.ownBlock) (hat : v4.ownBlock = e.2.1.ownBlock ∨ v4.ownBlock = some (w.alloc ob).heap.size) (hB : B ≤ w0.heap.size) :
  Blk w4 e.1 137 (drc d e) ∧ MidO w0 w3 (w4.setCell ⟨e.1, 1, none⟩ v4) B bo bk gx N f kl e0 (e.1, v4, e.2.2) { d with ks := d.ks ++ [o] } x := by
 have hb := h.dv.blk
 have hBw := Nat.le_trans hB h.bel.size
 have old : ∀ k, k < w.heap.size → e.2.1.ownBlock ≠ some k → w4.heap[k]? = w.heap[k]? := fun k hk hne => by
  rw [hg.block k (by simp; omega) (fun e => hne e.symm), heap_kept _ _ hk]
 have no : ∀ {k t}, Ty w k t → t ≠ 9 → e.2.1.ownBlock ≠ some k := fun {k t} hk ht he => (hk.ne (owns_ty h.dv.ks he) ht) rfl
 have hb4 := hb.at (old e.1 hb.lt (no hb.ty (by decide)))
 have old5 : ∀ k, k < w.heap.size → e.2.1.ownBlock ≠ some k → k ≠ e.1 → (w4.setCell ⟨e.1, 1, none⟩ v4).heap[k]? = w.heap[k]? := fun k hk hne h1 => by
  rw [Below.heap_setCell _ _ _ _ h1]
  exact old k hk hne
 have hsz : w.heap.size ≤ w4.heap.size := Nat.le_trans (by simp) hg.size
 refine ⟨hb4, h.box.at (old5 gx h.box.lt (no h.box.ty (by decide)) (h.box.ty.ne hb.ty (by decide))), ⟨h.dv.base, hb4.set 1 v4, ?_, owns_at h.dv.ops (fun k hk => old5 k (own_lt h.dv.ops hk) (no (owns_ty h.dv.ops hk) (by decide)) ((owns_ty h.dv.ops hk).ne hb.ty (by decide)))⟩, h.one, ?_, h.ho, fun k hk h1 h2 h3 h4 h5 => ?_,
  h.opn.at (old5 bo h.opn.lt (fun e => h.opn.ty (owns_ty h.dv.ks e) rfl) (h.opn.ty hb.ty)), h.cnt.at (old5 bk h.cnt.lt (fun e => h.cnt.ty (owns_ty h.dv.ks e) rfl) (h.cnt.ty hb.ty)), ?_, by rw [set_size]; exact Nat.le_trans h.sz hsz⟩
 ·have := owns_store hown hb4 (by decide) 1 v4
  rw [flat_snoc] at this
  simpa using this
 ·rcases hat with hat | hat
  ·simp only; rw [hat]; exact h.hk
  ·exact .inr ⟨_, hat, Nat.le_trans h.sz (by simp)⟩
 ·rw [old5 k (Nat.lt_of_lt_of_le hk h.sz) (fun e => ?_) (by rw [h.one]; exact h1)]
  ·exact h.far k hk h1 h2 h3 h4 h5
  ·rcases h.hk with h6 | ⟨g, h6, h7⟩
   ·rw [h6] at e; exact h2 e
   ·rw [h6] at e; injection e with e; omega
 ·exact ((h.bel.alloc hBw ob).grown hg (by simp; omega) (fun k hk => (h.dv.ks.lt k hk).1)).setCell h.dv.base _
theorem MidO.done {w0 w3 w : World} {B gm N N' bo bz bk gx : Nat} {L : List DraftM} {lv : Value} {E : List EntM} {f : List UInt8 → Option Nat} {kl : List (List UInt8)} {e : EntM} {d : DraftM} {x : EventM} (i : Nat) (hi : i < L.length) (h0 : StB w0 w3 B gm N bo bz bk gx L lv E x)
  (h : MidO w0 w3 w B bo bk gx N' f kl (E.getD i noEn) e d x) (hn : d.nm = (L.getD i noD).nm) (hf : openF (L.set i d) (E.set i e) = f) (hd : kl.Nodup) (hm : ∀ y, y ∈ kl ↔ y ∈ keysD (L.set i d)) (hN : N ≤ N') : MkI w B gm (L.set i d) N' lv bo bz bk (E.set i e) :=
 h0.mi.set i hi e d h.one hn h.far h.dv h.hk h.ho (by rw [hf]; exact h.opn) ⟨kl, h.cnt, hd, hm⟩ hN
def EvKeep (w w' : World) : Prop := ∀ k, Ty w k 123 → w'.heap[k]? = w.heap[k]?
theorem Ty.lt {w : World} {k : Nat} {t : TypeId} (h : Ty w k t) : k < w.heap.size := by
 obtain ⟨cs, fz, h⟩ := h
 exact (Array.getElem?_eq_some_iff.1 h).1
theorem Ty.at {w w' : World} {k : Nat} {t : TypeId} (h : Ty w k t) (e : w'.heap[k]? = w.heap[k]?) : Ty w' k t := by
 obtain ⟨cs, fz, h⟩ := h
 exact ⟨cs, fz, e.trans h⟩
theorem EvKeep.below {w w' : World} (h : Below w.heap.size w w') : EvKeep w w' := fun k hk => h.block k hk.lt
theorem EvKeep.trans {a b c : World} (h : EvKeep a b) (h' : EvKeep b c) : EvKeep a c := fun k hk => (h' k (hk.at (h k hk))).trans (h k hk)
theorem MidB.ev {w0 w3 w : World} {B gm N bo bz bk gx g n : Nat} {L : List DraftM} {lv lv' : Value} {E : List EntM} {x : EventM} (h0 : StB w0 w3 B gm N bo bz bk gx L lv E x) (h : MidB w0 w3 w B gm bo bz bk gx g n lv lv' E x) : EvKeep w0 w := fun k hk => by
 have e3 := h0.bel.block k hk.lt
 have hk3 := hk.at e3
 obtain ⟨ks, c1, -⟩ := h0.mi.ses
 exact (h.far k hk3.lt (hk3.ne h0.mi.bx.ty (by decide)) (fun e => (hk3.ne (owns_ty h0.mi.row e) (by decide)) rfl) (fun e => h0.mi.opn.ty hk3 e.symm) (fun e => c1.ty hk3 e.symm)).trans e3
theorem MidO.ev {w0 w3 w : World} {B gm N N' bo bz bk gx i : Nat} {L : List DraftM} {lv : Value} {E : List EntM} {f : List UInt8 → Option Nat} {kl : List (List UInt8)} {e : EntM} {d : DraftM} {x : EventM} (h0 : StB w0 w3 B gm N bo bz bk gx L lv E x) (hi : i < L.length) (h : MidO w0 w3 w B bo bk gx N' f kl (E.getD i noEn) e d x) : EvKeep w0 w := fun k hk => by
 have e3 := h0.bel.block k hk.lt
 have hk3 := hk.at e3
 obtain ⟨ks, c1, -⟩ := h0.mi.key
 have d0 := h0.mi.dr i hi
 exact (h.far k hk3.lt (hk3.ne d0.blk.ty (by decide)) (fun e => (hk3.ne (owns_ty d0.ks e) (by decide)) rfl) (fun e => (hk3.ne (owns_ty d0.ops e) (by decide)) rfl) (fun e => h0.mi.opn.ty hk3 e.symm) (fun e => c1.ty hk3 e.symm)).trans e3
end
section
open Go.RowKit
section
variable {P : Program} {ops : Array Oper} {Q : Exit → Act → World → Prop} {md : Region.Mode} {S : World → Prop} {late : List Nat}
theorem wpAnyM_two (i j : Nat) {di dj : Option Tmp} {opi opj : Op} {tyi tyj : TypeId} {posi posj : String} {afti aftj : Array Edge} {gdi gdj : Option (Nat × Bool)} {fuel : Nat} {listed : Array Bool} {a : Act} {w : World} (hi : ops[i]? = some ⟨di, opi, tyi, posi, afti, gdi⟩) (hj : ops[j]? = some ⟨dj, opj, tyj, posj, aftj, gdj⟩) (hr : Region.ready md ops listed = [i, j])
  (h1 : ∀ K : Act → World → Prop, RowKit.Hid (∀ a' w', (late.contains i = false → S w → S w') → wpAnyM P md ops Q S late fuel (listed.setIfInBounds i true) a' w' → K a' w') → if Region.wanted ⟨di, opi, tyi, posi, afti, gdi⟩ (yielded ops a.tmps) = true then Oper.wp P ⟨di, opi, tyi, posi, afti, gdi⟩ a w K Q else K (a.put di undef) w)
  (h2 : ∀ K : Act → World → Prop, RowKit.Hid (∀ a' w', (late.contains j = false → S w → S w') → wpAnyM P md ops Q S late fuel (listed.setIfInBounds j true) a' w' → K a' w') → if Region.wanted ⟨dj, opj, tyj, posj, aftj, gdj⟩ (yielded ops a.tmps) = true then Oper.wp P ⟨dj, opj, tyj, posj, aftj, gdj⟩ a w K Q else K (a.put dj undef) w) : wpAnyM P md ops Q S late (fuel + 1) listed a w := by
 refine ⟨fun h0 => (by rw [hr] at h0; cases h0), fun q hq => ?_⟩
 rw [hr] at hq
 have hq' : q = i ∨ q = j := by simpa using hq
 rcases hq' with rfl | rfl
 ·exact wpOp_step hi (fun K hK => h1 K (Lib.hid (fun a' w' g1 g2 => hK a' w' ⟨g1, g2⟩)))
 ·exact wpOp_step hj (fun K hK => h2 K (Lib.hid (fun a' w' g1 g2 => hK a' w' ⟨g1, g2⟩)))
end
end
end Go.Proofs.YtmgchjddpmmglaaGreatDoor
