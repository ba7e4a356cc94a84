/-
  Layer 10 (pair), the document's answer: what History's loops leave in memory, the walk apart. No conditions.
-/
import Derived.Test.YtmgchjddpmmglaaGreatDoorQSc
import Derived.Test.YtmgchjddpmmglaaGreatDoorQAl
namespace Go.Proofs.YtmgchjddpmmglaaGreatDoor
open Go.RowKit Go.Lib Go.Maps
abbrev TriR := (DraftM × EntR) × Int
def noR3 : TriR := (noQ, 0)
def trc (p : TriR) : List Value := [.int .i64 p.2, .int .i64 p.1.1.fate, p.1.2.1]
theorem trc_len (p : TriR) : (trc p).length = 3 := rfl
def sesN (S : List (List UInt8)) (p : DraftM × EntR) : Int := ((findT S p.1.nm).1 : Int)
def triK (S : List (List UInt8)) (Z : List (DraftM × EntR)) (k : Nat) : List TriR := (Z.take k).map (fun p => (p, sesN S p)) ++ (Z.drop k).map (fun p => (p, 0))
theorem tri_len (S : List (List UInt8)) (Z : List (DraftM × EntR)) (k : Nat) : (triK S Z k).length = Z.length := by
 unfold triK
 rw [List.length_append, List.length_map, List.length_map, List.length_take, List.length_drop]
 omega
theorem tri_none (S : List (List UInt8)) (Z : List (DraftM × EntR)) : (triK S Z 0).flatMap trc = Z.flatMap wtc := by
 unfold triK
 rw [List.take_zero, List.map_nil, List.nil_append, List.drop_zero, List.flatMap_map]
 rfl
theorem tri_next (S : List (List UInt8)) (Z : List (DraftM × EntR)) (k : Nat) (hk : k < Z.length) :
  ((triK S Z k).flatMap trc).set (k * 3) (.int .i64 (sesN S (Z.getD k noQ))) = (triK S Z (k + 1)).flatMap trc := by
 have e0 : Z.getD k noQ = Z[k] := by simp [hk]
 have e1 : triK S Z k = (Z.take k).map (fun p => (p, sesN S p)) ++ (Z[k], (0 : Int)) :: (Z.drop (k + 1)).map (fun p => (p, (0 : Int))) := by
  unfold triK
  rw [List.drop_eq_getElem_cons hk, List.map_cons]
 have e2 : triK S Z (k + 1) = (Z.take k).map (fun p => (p, sesN S p)) ++ (Z[k], sesN S Z[k]) :: (Z.drop (k + 1)).map (fun p => (p, (0 : Int))) := by
  unfold triK
  rw [List.take_succ_eq_append_getElem hk, List.map_append, List.append_assoc]
  rfl
 have h := flat_set trc 3 trc_len ((Z.take k).map (fun p => (p, sesN S p))) ((Z.drop (k + 1)).map (fun p => (p, (0 : Int)))) (Z[k], (0 : Int)) (Z[k], sesN S Z[k]) 0 (.int .i64 (sesN S Z[k])) (by decide) rfl
 have hl : ((Z.take k).map (fun p => (p, sesN S p))).length = k := by simp; omega
 rw [hl, Nat.add_zero, ← e1, ← e2] at h
 rw [e0]
 exact h
theorem tri_at (S : List (List UInt8)) (Z : List (DraftM × EntR)) (k i : Nat) (hi : i < Z.length) : ∃ s : Int, (triK S Z k).getD i noR3 = (Z.getD i noQ, s) ∧ (i < k → s = sesN S (Z.getD i noQ)) := by
 have e0 : Z.getD i noQ = Z[i] := by simp [hi]
 rw [e0]
 unfold triK
 by_cases h : i < k
 ·refine ⟨sesN S Z[i], ?_, fun _ => rfl⟩
  have h1 : i < ((Z.take k).map (fun p => (p, sesN S p))).length := by simp; omega
  rw [List.getD_eq_getElem?_getD, List.getElem?_append_left h1]
  simp [h, hi]
 ·refine ⟨0, ?_, fun h2 => absurd h2 h⟩
  have hl : ((Z.take k).map (fun p => (p, sesN S p))).length = k := by simp; omega
  rw [List.getD_eq_getElem?_getD, List.getElem?_append_right (by omega), hl, List.getElem?_map, List.getElem?_drop, show k + (i - k) = i by omega]
  simp [hi]
def doneQ (L : List DraftM) (i j q : Nat) : Nat := if q < i then (L.getD q noD).ops.length else if q = i then j else 0
theorem doneQ_turn (L : List DraftM) (i q : Nat) : doneQ L i (L.getD i noD).ops.length q = doneQ L (i + 1) 0 q := by
 unfold doneQ
 by_cases h : q < i
 ·rw [if_pos h, if_pos (by omega)]
 ·rw [if_neg h]
  by_cases e : q = i
  ·rw [if_pos e, if_pos (by omega), e]
  ·rw [if_neg e, if_neg (by omega)]
   by_cases e2 : q = i + 1
   ·rw [if_pos e2]
   ·rw [if_neg e2]
structure WJ (w : World) (B gm : Nat) (L : List DraftM) (sv kv vT vN vK vL vO : Value) (E : List EntR) : Prop where
 bx : Blk w gm 146 [sv, kv, vT, vN, vK, vL, vO]
 base : B ≤ gm
 len : E.length = L.length
 rT : w.ownsRow B 47 3 vT L.length ((L.zip E).flatMap wtc)
 rN : w.ownsRow B 9 1 vN L.length (L.flatMap nmd)
 rK : w.ownsRow B 22 1 vK L.length (E.flatMap ksd)
 ops : ∀ i, i < L.length → w.ownsRow B 51 4 (E.getD i noR).1 (L.getD i noD).ops.length ((L.getD i noD).ops.flatMap opc)
 ks : ∀ i, i < L.length → w.ownsRow B 9 1 (E.getD i noR).2 (L.getD i noD).ks.length (strs (L.getD i noD).ks)
 neo : ∀ i j, i < j → j < L.length → ∀ g, (E.getD i noR).1.ownBlock = some g → (E.getD j noR).1.ownBlock ≠ some g
theorem WI.heads {w : World} {B gm : Nat} {L : List DraftM} {vT vN vK vL vO : Value} {E : List EntR} (h : WI w B gm L vT vN vK vL vO E) (sv kv : Value) :
  WJ ((w.setCell ⟨gm, 0, none⟩ sv).setCell ⟨gm, 1, none⟩ kv) B gm L sv kv vT vN vK vL vO E := by
 have b1 := h.bx.set 0 sv
 have st : ∀ {size n : Nat} {e : TypeId} {v : Value} {xs : List Value}, e ≠ 146 → w.ownsRow B e size v n xs → ((w.setCell ⟨gm, 0, none⟩ sv).setCell ⟨gm, 1, none⟩ kv).ownsRow B e size v n xs := fun hne hr => owns_store (owns_store hr h.bx hne 0 sv) b1 hne 1 kv
 exact ⟨b1.set 1 kv, h.base, h.len, st (by decide) h.rT, st (by decide) h.rN, st (by decide) h.rK, fun i hi => st (by decide) (h.ops i hi), fun i hi => st (by decide) (h.ks i hi), h.neo⟩
theorem WJ.ne {w : World} {B gm : Nat} {L : List DraftM} {sv kv vT vN vK vL vO : Value} {E : List EntR} (h : WJ w B gm L sv kv vT vN vK vL vO E) (i j : Nat) (hij : i ≠ j) (hi : i < L.length) (hj : j < L.length) (g : Nat) (h1 : (E.getD i noR).1.ownBlock = some g) : (E.getD j noR).1.ownBlock ≠ some g := by
 rcases Nat.lt_or_gt_of_ne hij with h2 | h2
 ·exact h.neo i j h2 hj g h1
 ·exact fun h3 => h.neo j i h2 hi g h3 h1
structure QM (w1 w5 w : World) (B : Nat) (L : List DraftM) (E : List EntR) (S K : List (List UInt8)) (vT : Value) (s i j : Nat) : Prop where
 far : ∀ k, k < w5.heap.size → vT.ownBlock ≠ some k → (∀ q, q < L.length → (E.getD q noR).1.ownBlock ≠ some k) → w.heap[k]? = w5.heap[k]?
 sz : w5.heap.size ≤ w.heap.size
 rT : w.ownsRow B 47 3 vT L.length ((triK S (L.zip E) s).flatMap trc)
 ops : ∀ q, q < L.length → w.ownsRow B 51 4 (E.getD q noR).1 (L.getD q noD).ops.length ((midO K (L.getD q noD) (doneQ L i j q)).flatMap opc)
 bel : Below B w1 w
theorem QM.start {w1 w5 : World} {B gm : Nat} {L : List DraftM} {sv kv vT vN vK vL vO : Value} {E : List EntR} {S K : List (List UInt8)} (h : WJ w5 B gm L sv kv vT vN vK vL vO E) (hb : Below B w1 w5) : QM w1 w5 w5 B L E S K vT 0 0 0 := by
 refine ⟨fun _ _ _ _ => rfl, Nat.le_refl _, by rw [tri_none]; exact h.rT, fun q hq => ?_, hb⟩
 have e : doneQ L 0 0 q = 0 := by unfold doneQ; simp
 rw [e, midO_none]
 exact h.ops q hq
theorem QM.below {w1 w5 w w' : World} {B s i j : Nat} {L : List DraftM} {E : List EntR} {S K : List (List UInt8)} {vT : Value} (h : QM w1 w5 w B L E S K vT s i j) (hb : Below w.heap.size w w') (hB : B ≤ w1.heap.size) : QM w1 w5 w' B L E S K vT s i j :=
 ⟨fun k hk h1 h2 => (hb.block k (Nat.lt_of_lt_of_le hk h.sz)).trans (h.far k hk h1 h2), Nat.le_trans h.sz hb.size, owns_later h.rT hb, fun q hq => owns_later (h.ops q hq) hb, h.bel.trans (hb.mono (Nat.le_trans hB h.bel.size))⟩
theorem QM.turn {w1 w5 w : World} {B s i : Nat} {L : List DraftM} {E : List EntR} {S K : List (List UInt8)} {vT : Value} (h : QM w1 w5 w B L E S K vT s i (L.getD i noD).ops.length) : QM w1 w5 w B L E S K vT s (i + 1) 0 :=
 ⟨h.far, h.sz, h.rT, fun q hq => by rw [← doneQ_turn]; exact h.ops q hq, h.bel⟩
theorem QM.ty {w1 w5 w : World} {B gm s i j : Nat} {L : List DraftM} {sv kv vT vN vK vL vO : Value} {E : List EntR} {S K : List (List UInt8)} (h : QM w1 w5 w B L E S K vT s i j) (a : WJ w5 B gm L sv kv vT vN vK vL vO E) {k : Nat} {t : TypeId} (hk : Ty w5 k t) (h1 : t ≠ 47) (h2 : t ≠ 51) : w.heap[k]? = w5.heap[k]? :=
 h.far k hk.lt (fun e => (hk.ne (owns_ty a.rT e) h1) rfl) (fun q hq e => (hk.ne (owns_ty (a.ops q hq) e) h2) rfl)
theorem QM.bx {w1 w5 w : World} {B gm s i j : Nat} {L : List DraftM} {sv kv vT vN vK vL vO : Value} {E : List EntR} {S K : List (List UInt8)} (h : QM w1 w5 w B L E S K vT s i j) (a : WJ w5 B gm L sv kv vT vN vK vL vO E) : Blk w gm 146 [sv, kv, vT, vN, vK, vL, vO] :=
 a.bx.at (h.ty a a.bx.ty (by decide) (by decide))
theorem QM.rN {w1 w5 w : World} {B gm s i j : Nat} {L : List DraftM} {sv kv vT vN vK vL vO : Value} {E : List EntR} {S K : List (List UInt8)} (h : QM w1 w5 w B L E S K vT s i j) (a : WJ w5 B gm L sv kv vT vN vK vL vO E) : w.ownsRow B 9 1 vN L.length (L.flatMap nmd) :=
 owns_at a.rN (fun k hk => h.ty a (owns_ty a.rN hk) (by decide) (by decide))
theorem QM.rK {w1 w5 w : World} {B gm s i j : Nat} {L : List DraftM} {sv kv vT vN vK vL vO : Value} {E : List EntR} {S K : List (List UInt8)} (h : QM w1 w5 w B L E S K vT s i j) (a : WJ w5 B gm L sv kv vT vN vK vL vO E) : w.ownsRow B 22 1 vK L.length (E.flatMap ksd) :=
 owns_at a.rK (fun k hk => h.ty a (owns_ty a.rK hk) (by decide) (by decide))
theorem QM.ks {w1 w5 w : World} {B gm s i j : Nat} {L : List DraftM} {sv kv vT vN vK vL vO : Value} {E : List EntR} {S K : List (List UInt8)} (h : QM w1 w5 w B L E S K vT s i j) (a : WJ w5 B gm L sv kv vT vN vK vL vO E) (q : Nat) (hq : q < L.length) : w.ownsRow B 9 1 (E.getD q noR).2 (L.getD q noD).ks.length (strs (L.getD q noD).ks) :=
 owns_at (a.ks q hq) (fun k hk => h.ty a (owns_ty (a.ks q hq) hk) (by decide) (by decide))
theorem QM.sess {w1 w5 w : World} {B gm gT cT i j k : Nat} {L : List DraftM} {sv kv vN vK vL vO : Value} {E : List EntR} {S K : List (List UInt8)} (h : QM w1 w5 w B L E S K (.slice (some ⟨gT, 0, none⟩) L.length cT) k i j) (a : WJ w5 B gm L sv kv (.slice (some ⟨gT, 0, none⟩) L.length cT) vN vK vL vO E) (hk : k < L.length) :
  QM w1 w5 (w.setCell ⟨gT, k * 3, none⟩ (.int .i64 ((findT S (L.getD k noD).nm).1 : Int))) B L E S K (.slice (some ⟨gT, 0, none⟩) L.length cT) (k + 1) i j := by
 have hz : (L.zip E).length = L.length := by simp [a.len]
 have old : ∀ q, q ≠ gT → (w.setCell ⟨gT, k * 3, none⟩ (.int .i64 ((findT S (L.getD k noD).nm).1 : Int))).heap[q]? = w.heap[q]? := fun q h1 => Below.heap_setCell _ _ _ _ h1
 have hst := (h.rT.stored (k * 3) (.int .i64 ((findT S (L.getD k noD).nm).1 : Int))).1
 have hn := tri_next S (L.zip E) k (by omega)
 rw [zip_atR L E a.len k hk] at hn
 unfold sesN at hn
 rw [hn] at hst
 have hty : Ty w5 gT 47 := owns_ty a.rT rfl
 have htw : Ty w gT 47 := owns_ty h.rT rfl
 refine ⟨fun q hq h1 h2 => (old q (fun e => h1 (by rw [e]; rfl))).trans (h.far q hq h1 h2), by rw [set_size]; exact h.sz, hst, fun q hq => owns_at (h.ops q hq) (fun b hb => old b ((owns_ty (h.ops q hq) hb).ne htw (by decide))), h.bel.setCell (h.rT.lt gT rfl).1 _⟩
theorem QM.op {w1 w5 w : World} {B gm go co i j s : Nat} {L : List DraftM} {sv kv vT vN vK vL vO : Value} {E : List EntR} {S K : List (List UInt8)} (h : QM w1 w5 w B L E S K vT s i j) (a : WJ w5 B gm L sv kv vT vN vK vL vO E) (hi : i < L.length)
  (hv : (E.getD i noR).1 = .slice (some ⟨go, 0, none⟩) (L.getD i noD).ops.length co) (hl : (L.getD i noD).ks.length = (L.getD i noD).ops.length) (hj : j < (L.getD i noD).ops.length) :
  QM w1 w5 (w.setCell ⟨go, j * 4 + 1, none⟩ (.int .i64 ((findT K ((L.getD i noD).ks.getD j [])).1 : Int))) B L E S K vT s i (j + 1) := by
 have hown : (E.getD i noR).1.ownBlock = some go := by rw [hv]; rfl
 have hty := owns_ty (h.ops i hi) hown
 have old : ∀ k, k ≠ go → (w.setCell ⟨go, j * 4 + 1, none⟩ (.int .i64 ((findT K ((L.getD i noD).ks.getD j [])).1 : Int))).heap[k]? = w.heap[k]? := fun k h1 => Below.heap_setCell _ _ _ _ h1
 have hst := h.ops i hi
 rw [hv] at hst
 have e0 : doneQ L i j i = j := by unfold doneQ; simp
 rw [e0] at hst
 have hst2 := (hst.stored (j * 4 + 1) (.int .i64 ((findT K ((L.getD i noD).ks.getD j [])).1 : Int))).1
 rw [midO_next K _ hl j hj] at hst2
 refine ⟨fun k hk h1 h2 => (old k (fun e => h2 i hi (by rw [e]; exact hown))).trans (h.far k hk h1 h2), by rw [set_size]; exact h.sz, owns_at h.rT (fun k hk => old k ((owns_ty h.rT hk).ne hty (by decide))), fun q hq => ?_, h.bel.setCell ((h.ops i hi).lt go hown).1 _⟩
 by_cases e : q = i
 ·subst e
  have e1 : doneQ L q (j + 1) q = j + 1 := by unfold doneQ; simp
  rw [e1, hv]
  exact hst2
 ·have e1 : doneQ L i (j + 1) q = doneQ L i j q := by unfold doneQ; simp [e]
  rw [e1]
  exact owns_at (h.ops q hq) (fun k hk => old k (fun e2 => a.ne q i e hq hi k hk (by rw [e2]; exact hown)))
def LowR (L : List DraftM) (E : List EntR) (vT : Value) (n0 : Nat) : Prop := (∀ g, vT.ownBlock = some g → g < n0) ∧ ∀ j, j < L.length → ∀ g, (E.getD j noR).1.ownBlock = some g → g < n0
theorem low_ofR {w : World} {B gm : Nat} {L : List DraftM} {vT vN vK vL vO : Value} {E : List EntR} (h : WI w B gm L vT vN vK vL vO E) : LowR L E vT w.heap.size := ⟨fun _g hg => own_lt h.rT hg, fun j hj _g hg => own_lt (h.ops j hj) hg⟩
theorem QM.texts {w1 w5 w : World} {B s i j gm n0 : Nat} {L : List DraftM} {E : List EntR} {S K T : List (List UInt8)} {vT v : Value} (h : QM w1 w5 w B L E S K vT s i j) (ht : TextsOff w5 v T gm n0) (hl : LowR L E vT n0) : Texts w v T :=
 ht w (fun k h0 _ h2 => h.far k h2 (fun e => by have := hl.1 k e; omega) (fun q hq e => by have := hl.2 q hq k e; omega))
theorem QM.opsEnd {w1 w5 w : World} {B s : Nat} {L : List DraftM} {E : List EntR} {S K : List (List UInt8)} {vT : Value} (h : QM w1 w5 w B L E S K vT s L.length 0) (j : Nat) (hj : j < L.length) : w.ownsRow B 51 4 (E.getD j noR).1 (L.getD j noD).ops.length ((midO K (L.getD j noD) (L.getD j noD).ops.length).flatMap opc) := by
 have ho := h.ops j hj
 have e3 : doneQ L L.length 0 j = (L.getD j noD).ops.length := by unfold doneQ; simp [hj]
 rw [e3] at ho
 exact ho
theorem txns_ofR {w : World} {B : Nat} {L : List DraftM} {E : List EntR} {S K : List (List UInt8)} {vT : Value} (hr : w.ownsRow B 47 3 vT L.length ((triK S (L.zip E) L.length).flatMap trc))
  (hops : ∀ j, j < L.length → w.ownsRow B 51 4 (E.getD j noR).1 (L.getD j noD).ops.length ((midO K (L.getD j noD) (L.getD j noD).ops.length).flatMap opc)) (hl : E.length = L.length) (hG : GoodL L) : TxnsS w vT (L.map (txnD S K)) := by
 have hz : (L.zip E).length = L.length := by simp; omega
 have ht := tri_len S (L.zip E) L.length
 rw [hz] at ht
 obtain ⟨p, cap, hv, hc⟩ := own_sls noR3 trc_len (by rw [ht]; exact hr : w.ownsRow B 47 3 vT (triK S (L.zip E) L.length).length ((triK S (L.zip E) L.length).flatMap trc))
 refine ⟨p, cap, by rw [hv, ht]; simp, fun j hj => ?_⟩
 rw [List.length_map] at hj
 obtain ⟨g, hp, h1⟩ := hc j (by omega)
 obtain ⟨sn, e1, e2⟩ := tri_at S (L.zip E) L.length j (by omega)
 rw [zip_atR L E hl j hj] at e1 e2
 rw [e1, e2 hj] at h1
 have hd : (L.map (txnD S K)).getD j noTxn = txnD S K (L.getD j noD) := by simp [hj]
 rw [hd]
 refine ⟨g, (E.getD j noR).1, hp, h1 0 _ rfl, h1 1 _ rfl, h1 2 _ rfl, ?_⟩
 have hg := hG.all _ (getD_memD L j hj)
 have ho := hops j hj
 rw [midO_all K _ hg.len] at ho
 have hlo : ((L.getD j noD).ops.zipWith (opK K) (L.getD j noD).ks).length = (L.getD j noD).ops.length := by rw [List.length_zipWith, hg.len, Nat.min_self]
 rw [← hlo] at ho
 obtain ⟨p2, cap2, hv2, hc2⟩ := own_sls noOp opc_len ho
 refine ⟨p2, cap2, hv2, owns_cap ho hv2, fun q hq => ?_⟩
 obtain ⟨g2, hp2, h2⟩ := hc2 q hq
 exact ⟨g2, hp2, h2 0 _ rfl, h2 1 _ rfl, h2 2 _ rfl, h2 3 _ rfl⟩
theorem textsS_texts {w : World} {v : Value} {T : List (List UInt8)} (h : TextsS w v T) : Texts w v T := by
 obtain ⟨g, cap, rfl, -, ht⟩ := h
 exact ⟨_, cap, rfl, fun j hj => ⟨g, rfl, ht j hj⟩⟩
theorem QM.cellT {w1 w5 w : World} {B gm s i j : Nat} {L : List DraftM} {sv kv vT vN vK vL vO : Value} {E : List EntR} {S K : List (List UInt8)} (h : QM w1 w5 w B L E S K vT s i j) (a : WJ w5 B gm L sv kv vT vN vK vL vO E) (k : Nat) (hk : k < L.length) :
  ∃ (gT cT : Nat) (sn : Int), vT = .slice (some ⟨gT, 0, none⟩) L.length cT ∧ w.cell? ⟨gT, k * 3, none⟩ = some (.int .i64 sn) ∧ w.cell? ⟨gT, k * 3 + 2, none⟩ = some (E.getD k noR).1 ∧ ∀ q, w.frozen? ⟨gT, q, none⟩ = false := by
 have hz : (L.zip E).length = L.length := by simp [a.len]
 obtain ⟨g, cap, hv, hc, hf⟩ := own_cell noR3 trc_len h.rT ((tri_len S (L.zip E) s).trans hz) k hk
 obtain ⟨sn, e1, -⟩ := tri_at S (L.zip E) s k (by omega)
 rw [e1, zip_atR L E a.len k hk] at hc
 exact ⟨g, cap, sn, hv, hc 0 _ rfl, hc 2 _ rfl, hf⟩
theorem QM.cellN {w1 w5 w : World} {B gm s i j : Nat} {L : List DraftM} {sv kv vT vN vK vL vO : Value} {E : List EntR} {S K : List (List UInt8)} (h : QM w1 w5 w B L E S K vT s i j) (a : WJ w5 B gm L sv kv vT vN vK vL vO E) (k : Nat) (hk : k < L.length) :
  ∃ gN cN : Nat, vN = .slice (some ⟨gN, 0, none⟩) L.length cN ∧ w.cell? ⟨gN, k, none⟩ = some (.string (bs (L.getD k noD).nm)) := by
 obtain ⟨g, cap, hv, hc, -⟩ := own_cell (f := nmd) (s := 1) noD (fun _ => rfl) (h.rN a) rfl k hk
 have := hc 0 _ rfl
 simp only [Nat.mul_one, Nat.add_zero] at this
 exact ⟨g, cap, hv, this⟩
theorem QM.cellK {w1 w5 w : World} {B gm s i j : Nat} {L : List DraftM} {sv kv vT vN vK vL vO : Value} {E : List EntR} {S K : List (List UInt8)} (h : QM w1 w5 w B L E S K vT s i j) (a : WJ w5 B gm L sv kv vT vN vK vL vO E) (k : Nat) (hk : k < L.length) :
  ∃ gK cK : Nat, vK = .slice (some ⟨gK, 0, none⟩) L.length cK ∧ w.cell? ⟨gK, k, none⟩ = some (E.getD k noR).2 := by
 obtain ⟨g, cap, hv, hc, -⟩ := own_cell (f := ksd) (s := 1) noR (fun _ => rfl) (h.rK a) a.len k hk
 have := hc 0 _ rfl
 simp only [Nat.mul_one, Nat.add_zero] at this
 exact ⟨g, cap, hv, this⟩
theorem QM.cellS {w1 w5 w : World} {B gm s i j : Nat} {L : List DraftM} {sv kv vT vN vK vL vO : Value} {E : List EntR} {S K : List (List UInt8)} (h : QM w1 w5 w B L E S K vT s i j) (a : WJ w5 B gm L sv kv vT vN vK vL vO E) (k : Nat) (hk : k < L.length) (q : Nat) (hq : q < (L.getD k noD).ks.length) :
  ∃ gk ck : Nat, (E.getD k noR).2 = .slice (some ⟨gk, 0, none⟩) (L.getD k noD).ks.length ck ∧ w.cell? ⟨gk, q, none⟩ = some (.string (bs ((L.getD k noD).ks.getD q []))) := by
 obtain ⟨p, cap, hv, ht⟩ := own_texts (h.ks a k hk)
 obtain ⟨g, rfl, hc⟩ := ht q hq
 exact ⟨g, cap, hv, hc⟩
theorem QM.cellO {w1 w5 w : World} {B s i j : Nat} {L : List DraftM} {vT : Value} {E : List EntR} {S K : List (List UInt8)} (h : QM w1 w5 w B L E S K vT s i j) (k : Nat) (hk : k < L.length) (hl : (L.getD k noD).ks.length = (L.getD k noD).ops.length) (hd : doneQ L i j k ≤ (L.getD k noD).ops.length) (q : Nat) (hq : q < (L.getD k noD).ops.length) :
  ∃ (go co : Nat) (x : Int), (E.getD k noR).1 = .slice (some ⟨go, 0, none⟩) (L.getD k noD).ops.length co ∧ w.cell? ⟨go, q * 4 + 1, none⟩ = some (.int .i64 x) ∧ ∀ q, w.frozen? ⟨go, q, none⟩ = false := by
 obtain ⟨g, cap, hv, hc, hf⟩ := own_cell noOp opc_len (h.ops k hk) (midO_len K _ hl _ hd) q hq
 exact ⟨g, cap, _, hv, hc 1 _ rfl, hf⟩
end Go.Proofs.YtmgchjddpmmglaaGreatDoor
