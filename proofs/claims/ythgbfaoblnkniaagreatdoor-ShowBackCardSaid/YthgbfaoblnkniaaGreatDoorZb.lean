/-
  Slices of texts: what one holds, and the walk of the comparison of two. No conditions.
  A history in memory: operations, transactions, histories as cells. No conditions.
  Type assertions on a cell's value, as closed facts of the program's own tables. No conditions.
  The walks of layer 2 (name): what each function of package name, and of its reference, returns; memory that was there stands as it was. No conditions.
-/
import Derived.Test.YthgbfaoblnkniaaGreatDoorZa
import Derived.WalkKit
import Derived.Laws.AppendOwn
namespace Go.Proofs.YthgbfaoblnkniaaGreatDoor
open Go.RowKit
def HasTexts (w : World) (p : Option Addr) (L : List (List UInt8)) : Prop := ∀ j, j < L.length → ∃ g, p = some ⟨g, 0, none⟩ ∧ w.cell? ⟨g, j, none⟩ = some (.string (bs (L.getD j [])))
theorem HasTexts.below {w w' : World} {p : Option Addr} {L : List (List UInt8)} (h : HasTexts w p L) (hb : Below w.heap.size w w') : HasTexts w' p L := fun j hj => by
 obtain ⟨g, hp, hc⟩ := h j hj
 exact ⟨g, hp, cell_later hb hc⟩
def Texts (w : World) (v : Value) (L : List (List UInt8)) : Prop := ∃ p cap, v = .slice p L.length cap ∧ HasTexts w p L
theorem Texts.below {w w' : World} {v : Value} {L : List (List UInt8)} (h : Texts w v L) (hb : Below w.heap.size w w') : Texts w' v L := by
 obtain ⟨p, cap, hv, ht⟩ := h
 exact ⟨p, cap, hv, ht.below hb⟩
theorem texts_none (w : World) : Texts w (.slice none 0 0) [] := ⟨none, 0, rfl, fun j hj => absurd hj (Nat.not_lt_zero j)⟩
def strs (L : List (List UInt8)) : List Value := L.map fun l => .string (bs l)
theorem strs_snoc (L : List (List UInt8)) (l : List UInt8) : strs L ++ [.string (bs l)] = strs (L ++ [l]) := by simp [strs]
theorem own_texts {w : World} {B : Nat} {e : TypeId} {v : Value} {L : List (List UInt8)} (h : w.ownsRow B e 1 v L.length (strs L)) : Texts w v L := by
 obtain ⟨-, ⟨h0, hn⟩ | ⟨g, cap, cur, hv, -, hw, -, -, -, ht⟩⟩ := h
 ·have : L = [] := List.eq_nil_of_length_eq_zero hn
  subst this h0
  exact texts_none w
 ·refine ⟨_, cap, hv, fun j hj => ⟨g, rfl, ?_⟩⟩
  have h1 := congrArg (fun x : List Value => x[j]?) ht
  simp only [Nat.mul_one, List.getElem?_take, hj, if_true, Array.getElem?_toList] at h1
  rw [cell_of_row w g j _ _ (0, 0) hw, h1]
  simp [strs, hj]
theorem info_str : (Tryz.prog.info? 9).map (fun i => (i.zero, i.size, i.bytes)) = some (some (.string ByteArray.empty), 1, 16) := by kernel_rfl
theorem list_same_step (L M : List (List UInt8)) (i : Nat) (R : Bool) (hl : L.length = M.length) (hi : i < L.length) (h : (L.drop i == M.drop i) = R) : (if L.getD i [] = M.getD i [] then (L.drop (i + 1) == M.drop (i + 1)) else false) = R := by
 have e1 : L.drop i = L.getD i [] :: L.drop (i + 1) := by
  rw [List.drop_eq_getElem_cons hi]
  simp [hi]
 have e2 : M.drop i = M.getD i [] :: M.drop (i + 1) := by
  rw [List.drop_eq_getElem_cons (by omega)]
  simp [hl ▸ hi]
 rw [e1, e2] at h
 rw [← h]
 by_cases hc : L.getD i [] = M.getD i []
 ·rw [if_pos hc, hc]
  simp
 ·rw [if_neg hc]
  exact (beq_eq_false_iff_ne.2 fun e => hc (List.cons.inj e).1).symm
end Go.Proofs.YthgbfaoblnkniaaGreatDoor

namespace Go.Proofs.YthgbfaoblnkniaaGreatDoor
open Go.RowKit
def HasOps (w : World) (p : Option Addr) (L : List OpM) : Prop := ∀ j, j < L.length → ∃ g, p = some ⟨g, 0, none⟩ ∧ w.cell? ⟨g, j * 4, none⟩ = some (.bool (L.getD j noOp).1) ∧ w.cell? ⟨g, j * 4 + 1, none⟩ = some (.int .i64 (L.getD j noOp).2.1) ∧
 w.cell? ⟨g, j * 4 + 2, none⟩ = some (.int .i64 (L.getD j noOp).2.2.1) ∧ w.cell? ⟨g, j * 4 + 3, none⟩ = some (.int .i64 (L.getD j noOp).2.2.2)
theorem HasOps.below {w w' : World} {p : Option Addr} {L : List OpM} (h : HasOps w p L) (hb : Below w.heap.size w w') : HasOps w' p L := fun j hj => by
 obtain ⟨g, hp, h1, h2, h3, h4⟩ := h j hj
 exact ⟨g, hp, cell_later hb h1, cell_later hb h2, cell_later hb h3, cell_later hb h4⟩
def OpsS (w : World) (v : Value) (L : List OpM) : Prop := ∃ p cap, v = .slice p L.length cap ∧ HasOps w p L
theorem OpsS.below {w w' : World} {v : Value} {L : List OpM} (h : OpsS w v L) (hb : Below w.heap.size w w') : OpsS w' v L := by
 obtain ⟨p, cap, hv, ht⟩ := h
 exact ⟨p, cap, hv, ht.below hb⟩
def HasTxns (w : World) (p : Option Addr) (L : List TxnM) : Prop := ∀ j, j < L.length → ∃ g sv, p = some ⟨g, 0, none⟩ ∧ w.cell? ⟨g, j * 3, none⟩ = some (.int .i64 (L.getD j noTxn).1) ∧ w.cell? ⟨g, j * 3 + 1, none⟩ = some (.int .i64 (L.getD j noTxn).2.1) ∧
 w.cell? ⟨g, j * 3 + 2, none⟩ = some sv ∧ OpsS w sv (L.getD j noTxn).2.2
theorem HasTxns.below {w w' : World} {p : Option Addr} {L : List TxnM} (h : HasTxns w p L) (hb : Below w.heap.size w w') : HasTxns w' p L := fun j hj => by
 obtain ⟨g, sv, hp, h1, h2, h3, h4⟩ := h j hj
 exact ⟨g, sv, hp, cell_later hb h1, cell_later hb h2, cell_later hb h3, h4.below hb⟩
def TxnsS (w : World) (v : Value) (L : List TxnM) : Prop := ∃ p cap, v = .slice p L.length cap ∧ HasTxns w p L
theorem TxnsS.below {w w' : World} {v : Value} {L : List TxnM} (h : TxnsS w v L) (hb : Below w.heap.size w w') : TxnsS w' v L := by
 obtain ⟨p, cap, hv, ht⟩ := h
 exact ⟨p, cap, hv, ht.below hb⟩
def HistV (w : World) (v : Value) (h : HistM) : Prop := ∃ v0 v1 v2, v = .agg #[v0, v1, v2] ∧ Texts w v0 h.1 ∧ Texts w v1 h.2.1 ∧ TxnsS w v2 h.2.2
theorem HistV.below {w w' : World} {v : Value} {h : HistM} (hh : HistV w v h) (hb : Below w.heap.size w w') : HistV w' v h := by
 obtain ⟨v0, v1, v2, hv, h0, h1, h2⟩ := hh
 exact ⟨v0, v1, v2, hv, h0.below hb, h1.below hb, h2.below hb⟩
end Go.Proofs.YthgbfaoblnkniaaGreatDoor

namespace Go.Proofs.YthgbfaoblnkniaaGreatDoor
open Go.RowKit
theorem as_nil (t : Nat) (w : World) (h : t = 2 ∨ t = 3) : (Instr.typeAssert .nilIface 20 t true).run Tryz.prog w = .ok (.tuple #[.int .i64 0, .bool false]) w := by
 rcases h with rfl | rfl <;> kernel_rfl
theorem as_nil_lost (w : World) : (Instr.typeAssert .nilIface 20 167 true).run Tryz.prog w = .ok (.tuple #[.agg #[], .bool false]) w := by kernel_rfl
theorem as_int64 (v : Value) (w : World) : (Instr.typeAssert (.iface 2 v) 20 2 true).run Tryz.prog w = .ok (.tuple #[v, .bool true]) w := by kernel_rfl
theorem as_int64_must (v : Value) (w : World) : (Instr.typeAssert (.iface 2 v) 20 2 false).run Tryz.prog w = .ok v w := by kernel_rfl
theorem as_int (v : Value) (w : World) : (Instr.typeAssert (.iface 3 v) 20 3 true).run Tryz.prog w = .ok (.tuple #[v, .bool true]) w := by kernel_rfl
theorem as_lost (v : Value) (w : World) : (Instr.typeAssert (.iface 167 v) 20 167 true).run Tryz.prog w = .ok (.tuple #[v, .bool true]) w := by kernel_rfl
theorem zero_int64 (w : World) : ((do pure (Value.tuple #[← zeroValue 2, .bool false])) : Sem Value).run Tryz.prog w = .ok (.tuple #[.int .i64 0, .bool false]) w := by kernel_rfl
theorem zero_int (w : World) : ((do pure (Value.tuple #[← zeroValue 3, .bool false])) : Sem Value).run Tryz.prog w = .ok (.tuple #[.int .i64 0, .bool false]) w := by kernel_rfl
theorem zero_lost (w : World) : ((do pure (Value.tuple #[← zeroValue 167, .bool false])) : Sem Value).run Tryz.prog w = .ok (.tuple #[.agg #[], .bool false]) w := by kernel_rfl
theorem as_int64_no (u : TypeId) (v : Value) (w : World) (h : (u == 2) = false) : (Instr.typeAssert (.iface u v) 20 2 true).run Tryz.prog w = .ok (.tuple #[.int .i64 0, .bool false]) w := by
 have e : (Instr.typeAssert (.iface u v) 20 2 true).run Tryz.prog w = (if u = 2 then (pure (Value.tuple #[v, .bool true]) : Sem Value) else (do pure (Value.tuple #[← zeroValue 2, .bool false]))).run Tryz.prog w := by kernel_rfl
 rw [e, if_neg (by simpa using h)]; exact zero_int64 w
theorem as_int_no (u : TypeId) (v : Value) (w : World) (h : (u == 3) = false) : (Instr.typeAssert (.iface u v) 20 3 true).run Tryz.prog w = .ok (.tuple #[.int .i64 0, .bool false]) w := by
 have e : (Instr.typeAssert (.iface u v) 20 3 true).run Tryz.prog w = (if u = 3 then (pure (Value.tuple #[v, .bool true]) : Sem Value) else (do pure (Value.tuple #[← zeroValue 3, .bool false]))).run Tryz.prog w := by kernel_rfl
 rw [e, if_neg (by simpa using h)]; exact zero_int w
theorem as_lost_no (u : TypeId) (v : Value) (w : World) (h : (u == 167) = false) : (Instr.typeAssert (.iface u v) 20 167 true).run Tryz.prog w = .ok (.tuple #[.agg #[], .bool false]) w := by
 have e : (Instr.typeAssert (.iface u v) 20 167 true).run Tryz.prog w = (if u = 167 then (pure (Value.tuple #[v, .bool true]) : Sem Value) else (do pure (Value.tuple #[← zeroValue 167, .bool false]))).run Tryz.prog w := by kernel_rfl
 rw [e, if_neg (by simpa using h)]; exact zero_lost w
end Go.Proofs.YthgbfaoblnkniaaGreatDoor

namespace Go.Proofs.YthgbfaoblnkniaaGreatDoor
open Go.RowKit Go.Lib
def oneAt (l : List UInt8) (p : Nat) : Nat × Nat := decodeL (l.drop p)
theorem oneAt_N (l : List UInt8) (p : Nat) : oneAt l p = decodeN (l.length - p) (l.getD p 0).toNat (l.getD (p + 1) 0).toNat (l.getD (p + 2) 0).toNat (l.getD (p + 3) 0).toNat := by
 unfold oneAt
 rw [decodeL_N, List.length_drop, getD_dropU, getD_dropU, getD_dropU, getD_dropU, Nat.add_zero]
theorem getD_at (l : List UInt8) (p : Nat) (h : p < l.length) : l.getD p 0 = l[p] := by simp [h]
set_option maxRecDepth 100000 in
set_option maxHeartbeats 1000000 in
theorem one_low (l : List UInt8) (p : Nat) (hp : p < l.length) (h : l[p].toNat < 128 ∨ (128 ≤ l[p].toNat ∧ l[p].toNat < 194) ∨ 244 < l[p].toNat) (w : World) :
  Calls Tryz.prog 118 #[.string (bs l), .int .i64 p] w fun e w' => e = .returned (.tuple #[.int .i64 ((oneAt l p).2 : Nat), .int .i64 ((oneAt l p).1 : Nat)]) ∧ w = w' := by
 have H := Lib.hid (oneAt_N l p)
 have h0 := getD_at l p hp
 rcases h with h | ⟨h, h'⟩ | h
 ·go_enter Tryz.func118, Tryz.ntmps118
  go_wp2
  go_ret2
  rw [H.out, h0]
  simp [decodeN, h]
 ·go_enter Tryz.func118, Tryz.ntmps118
  go_wp2
  go_ret2
  rw [H.out, h0, decodeN_bad _ _ _ _ _ (.inl ⟨h, h'⟩)]
  exact ⟨rfl, rfl⟩
 ·have hb := l[p].toNat_lt
  go_enter Tryz.func118, Tryz.ntmps118
  go_wp2
  go_ret2
  rw [H.out, h0, decodeN_bad _ _ _ _ _ (.inr ⟨by omega, hb⟩)]
  exact ⟨rfl, rfl⟩
set_option maxRecDepth 100000 in
set_option maxHeartbeats 4000000 in
theorem one_two (l : List UInt8) (p : Nat) (hp : p < l.length) (hs : l.length ≤ 4611686018427387904) (h : 194 ≤ l[p].toNat) (h' : l[p].toNat ≤ 223) (w : World) :
  Calls Tryz.prog 118 #[.string (bs l), .int .i64 p] w fun e w' => e = .returned (.tuple #[.int .i64 ((oneAt l p).2 : Nat), .int .i64 ((oneAt l p).1 : Nat)]) ∧ w = w' := by
 have h0 := getD_at l p hp
 have hN := oneAt_N l p
 rw [h0, dec2 _ _ _ _ _ h h'] at hN
 by_cases hl : p + 1 < l.length
 ·have h1 := getD_at l (p + 1) (by omega)
  rw [h1] at hN
  have hb1 := l[p + 1].toNat_lt
  have H := Lib.hid hN
  clear hN h0 h1
  rcases (show (l[p + 1].toNat < 128) ∨ (128 ≤ l[p + 1].toNat ∧ 191 < l[p + 1].toNat) ∨ (128 ≤ l[p + 1].toNat ∧ l[p + 1].toNat ≤ 191) by omega) with ⟨r0⟩ | ⟨r0, r1⟩ | ⟨r0, r1⟩
  ·go_enter Tryz.func118, Tryz.ntmps118; go_wp2; go_rounds 2; go_ret2; rw [H.out, if_neg (by omega)]; exact ⟨rfl, rfl⟩
  ·go_enter Tryz.func118, Tryz.ntmps118; go_wp2; go_rounds 2; go_ret2; rw [H.out, if_neg (by omega)]; exact ⟨rfl, rfl⟩
  ·go_enter Tryz.func118, Tryz.ntmps118; go_wp2; go_rounds 2; go_ret2; rw [H.out, if_pos (by omega)]; refine ⟨?_, rfl⟩; simp; omega
 ·have H := Lib.hid hN
  clear hN h0
  go_enter Tryz.func118, Tryz.ntmps118; go_wp2; go_ret2; rw [H.out, if_neg (by omega)]; exact ⟨rfl, rfl⟩
end Go.Proofs.YthgbfaoblnkniaaGreatDoor
