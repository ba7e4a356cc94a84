/-
  A history in memory: operations, transactions, histories as cells. No conditions.
-/
import Derived.Test.YthalbcmlehpfaaaDoorHistP
import Derived.Test.YthalbcmlehpfaaaDoorTexts
namespace Go.Proofs.YthalbcmlehpfaaaDoor
open Go.RowKit

/-! ### A history in memory -/
/-- A slice's cells hold these operations. -/
def HasOps (w : World) (p : Option Addr) (L : List OpM) : Prop := ∀ j, j < L.length → ∃ g, p = some ⟨g, 0, none⟩ ∧ w.cell? ⟨g, j * 4, none⟩ = some (.bool (L.getD j noOp).1) ∧ w.cell? ⟨g, j * 4 + 1, none⟩ = some (.int .i64 (L.getD j noOp).2.1) ∧
  w.cell? ⟨g, j * 4 + 2, none⟩ = some (.int .i64 (L.getD j noOp).2.2.1) ∧ w.cell? ⟨g, j * 4 + 3, none⟩ = some (.int .i64 (L.getD j noOp).2.2.2)
theorem HasOps.below {w w' : World} {p : Option Addr} {L : List OpM} (h : HasOps w p L) (hb : Below w.heap.size w w') : HasOps w' p L := fun j hj => by
  obtain ⟨g, hp, h1, h2, h3, h4⟩ := h j hj
  exact ⟨g, hp, cell_later hb h1, cell_later hb h2, cell_later hb h3, cell_later hb h4⟩
/-- A slice of these operations. -/
def OpsS (w : World) (v : Value) (L : List OpM) : Prop := ∃ p cap, v = .slice p L.length cap ∧ HasOps w p L
theorem OpsS.below {w w' : World} {v : Value} {L : List OpM} (h : OpsS w v L) (hb : Below w.heap.size w w') : OpsS w' v L := by
  obtain ⟨p, cap, hv, ht⟩ := h
  exact ⟨p, cap, hv, ht.below hb⟩
/-- A slice's cells hold these transactions. -/
def HasTxns (w : World) (p : Option Addr) (L : List TxnM) : Prop := ∀ j, j < L.length → ∃ g sv, p = some ⟨g, 0, none⟩ ∧ w.cell? ⟨g, j * 3, none⟩ = some (.int .i64 (L.getD j noTxn).1) ∧ w.cell? ⟨g, j * 3 + 1, none⟩ = some (.int .i64 (L.getD j noTxn).2.1) ∧
  w.cell? ⟨g, j * 3 + 2, none⟩ = some sv ∧ OpsS w sv (L.getD j noTxn).2.2
theorem HasTxns.below {w w' : World} {p : Option Addr} {L : List TxnM} (h : HasTxns w p L) (hb : Below w.heap.size w w') : HasTxns w' p L := fun j hj => by
  obtain ⟨g, sv, hp, h1, h2, h3, h4⟩ := h j hj
  exact ⟨g, sv, hp, cell_later hb h1, cell_later hb h2, cell_later hb h3, h4.below hb⟩
/-- A slice of these transactions. -/
def TxnsS (w : World) (v : Value) (L : List TxnM) : Prop := ∃ p cap, v = .slice p L.length cap ∧ HasTxns w p L
theorem TxnsS.below {w w' : World} {v : Value} {L : List TxnM} (h : TxnsS w v L) (hb : Below w.heap.size w w') : TxnsS w' v L := by
  obtain ⟨p, cap, hv, ht⟩ := h
  exact ⟨p, cap, hv, ht.below hb⟩
/-- This history. -/
def HistV (w : World) (v : Value) (h : HistM) : Prop := ∃ v0 v1 v2, v = .agg #[v0, v1, v2] ∧ Texts w v0 h.1 ∧ Texts w v1 h.2.1 ∧ TxnsS w v2 h.2.2
theorem HistV.below {w w' : World} {v : Value} {h : HistM} (hh : HistV w v h) (hb : Below w.heap.size w w') : HistV w' v h := by
  obtain ⟨v0, v1, v2, hv, h0, h1, h2⟩ := hh
  exact ⟨v0, v1, v2, hv, h0.below hb, h1.below hb, h2.below hb⟩
end Go.Proofs.YthalbcmlehpfaaaDoor
