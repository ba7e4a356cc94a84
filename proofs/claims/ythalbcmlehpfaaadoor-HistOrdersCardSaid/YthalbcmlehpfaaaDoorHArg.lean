/-
  A history as an argument: what its reading says of its cells; rows of a call's own as histories' parts. No conditions.
-/
import Derived.Test.YthalbcmlehpfaaaDoorArgs
import Derived.Test.YthalbcmlehpfaaaDoorBlk
import Derived.Test.YthalbcmlehpfaaaDoorHistM
namespace Go.Proofs.YthalbcmlehpfaaaDoor
open Go.ChangeShapes Go.WideShapes Go.ChangeAt Go.RowKit Go.Joins

def opCells (o : OpM) : List Value := [.bool o.1, .int .i64 o.2.1, .int .i64 o.2.2.1, .int .i64 o.2.2.2]
def OpR (_ : World) (cs : List Value) (o : OpM) : Prop := cs = opCells o
def OpsA (w : World) (v : Value) (L : List OpM) : Prop := SlR 4 OpR w v L
def TxnR (w : World) (cs : List Value) (t : TxnM) : Prop := ∃ sv, cs = [.int .i64 t.1, .int .i64 t.2.1, sv] ∧ OpsA w sv t.2.2
def TxnsA (w : World) (v : Value) (L : List TxnM) : Prop := SlR 3 TxnR w v L
def StrR (_ : World) (cs : List Value) (s : List UInt8) : Prop := cs = [.string (bs s)] ∧ s.length ≤ 9223372036854775807
def StrsA (w : World) (v : Value) (L : List (List UInt8)) : Prop := SlR 1 StrR w v L
/-- A history as an argument. -/
def HistA (w : World) (v : Value) (h : HistM) : Prop := ∃ v0 v1 v2, v = .agg #[v0, v1, v2] ∧ StrsA w v0 h.1 ∧ StrsA w v1 h.2.1 ∧ TxnsA w v2 h.2.2
theorem OpsA.below {w w' : World} {v : Value} {L : List OpM} (h : OpsA w v L) (hb : Below w.heap.size w w') : OpsA w' v L := SlR.below (fun _ _ _ _ _ h => h) h hb
theorem TxnsA.below {w w' : World} {v : Value} {L : List TxnM} (h : TxnsA w v L) (hb : Below w.heap.size w w') : TxnsA w' v L :=
  SlR.below (fun _ _ _ _ hb ⟨sv, e, h⟩ => ⟨sv, e, h.below hb⟩) h hb
theorem StrsA.below {w w' : World} {v : Value} {L : List (List UInt8)} (h : StrsA w v L) (hb : Below w.heap.size w w') : StrsA w' v L := SlR.below (fun _ _ _ _ _ h => h) h hb
theorem HistA.below {w w' : World} {v : Value} {h : HistM} (hh : HistA w v h) (hb : Below w.heap.size w w') : HistA w' v h := by
  obtain ⟨v0, v1, v2, e, h0, h1, h2⟩ := hh
  exact ⟨v0, v1, v2, e, h0.below hb, h1.below hb, h2.below hb⟩

section
variable {H : Type} {enc : TypeId × Value → H} {w : World} {base : Nat} {spare : Nat → Bool} {held : Bool}
theorem open_str {n : Nat} {cs : List Value} {y : DataW H × List MemPlace} (h : DataW.trod enc Tryd.prog w base spare held n 9 cs = some y) : ∃ s, StrR w cs s := by
  obtain ⟨s, rfl, -, hs⟩ := DataW.trod_string Tryd.underlying9 h
  unfold maxLen at hs
  refine ⟨s.data.toList, by rw [← bs_data], ?_⟩
  rw [Lib.size_eq] at hs
  exact hs
theorem open_value {n : Nat} {cs : List Value} {y : DataW H × List MemPlace} (h : DataW.trod enc Tryd.prog w base spare held n 60 cs = some y) : ∃ k m : Int, cs = [.int .i64 k, .int .i64 m] := by
  have hl := trod_len Tryd.underlying60 h
  obtain ⟨n0, y0, h0⟩ := trod_at 0 0 3 1 Tryd.underlying60 h rfl rfl rfl (by kernel_rfl)
  obtain ⟨n1, y1, h1⟩ := trod_at 1 1 2 1 Tryd.underlying60 h rfl rfl rfl (by kernel_rfl)
  obtain ⟨k, hk, -, -⟩ := DataW.trod_int Tryd.underlying3 h0
  obtain ⟨m, hm, -, -⟩ := DataW.trod_int Tryd.underlying2 h1
  rw [show Tryd.prog.cellsOf 60 = 2 by kernel_rfl] at hl
  match cs, hl with
  | [a, b], _ =>
    simp at hk hm
    exact ⟨k, m, by rw [hk, hm]⟩
theorem open_op {n : Nat} {cs : List Value} {y : DataW H × List MemPlace} (h : DataW.trod enc Tryd.prog w base spare held n 62 cs = some y) : ∃ o, OpR w cs o := by
  have hl := trod_len Tryd.underlying62 h
  obtain ⟨n0, y0, h0⟩ := trod_at 0 0 4 1 Tryd.underlying62 h rfl rfl rfl (by kernel_rfl)
  obtain ⟨n1, y1, h1⟩ := trod_at 1 1 3 1 Tryd.underlying62 h rfl rfl rfl (by kernel_rfl)
  obtain ⟨n2, y2, h2⟩ := trod_at 2 2 60 2 Tryd.underlying62 h rfl rfl rfl (by kernel_rfl)
  obtain ⟨b, hb, -⟩ := DataW.trod_bool Tryd.underlying4 h0
  obtain ⟨k, hk, -, -⟩ := DataW.trod_int Tryd.underlying3 h1
  obtain ⟨kd, m, hv⟩ := open_value h2
  rw [show Tryd.prog.cellsOf 62 = 4 by kernel_rfl] at hl
  match cs, hl with
  | [c0, c1, c2, c3], _ =>
    simp at hb hk hv
    exact ⟨(b, k, kd, m), by simp [OpR, opCells, hb, hk, hv]⟩
theorem open_ops {n : Nat} {cs : List Value} {y : DataW H × List MemPlace} (h : DataW.trod enc Tryd.prog w base spare held n 54 cs = some y) : ∃ v L, cs = [v] ∧ OpsA w v L :=
  open_slR Tryd.underlying54 (by kernel_rfl) (fun _ _ _ h => open_op h) h
theorem open_txn {n : Nat} {cs : List Value} {y : DataW H × List MemPlace} (h : DataW.trod enc Tryd.prog w base spare held n 56 cs = some y) : ∃ t, TxnR w cs t := by
  have hl := trod_len Tryd.underlying56 h
  obtain ⟨n0, y0, h0⟩ := trod_at 0 0 3 1 Tryd.underlying56 h rfl rfl rfl (by kernel_rfl)
  obtain ⟨n1, y1, h1⟩ := trod_at 1 1 3 1 Tryd.underlying56 h rfl rfl rfl (by kernel_rfl)
  obtain ⟨n2, y2, h2⟩ := trod_at 2 2 54 1 Tryd.underlying56 h rfl rfl rfl (by kernel_rfl)
  obtain ⟨s, hs, -, -⟩ := DataW.trod_int Tryd.underlying3 h0
  obtain ⟨f, hf', -, -⟩ := DataW.trod_int Tryd.underlying3 h1
  obtain ⟨v, L, hv, hL⟩ := open_ops h2
  rw [show Tryd.prog.cellsOf 56 = 3 by kernel_rfl] at hl
  match cs, hl with
  | [c0, c1, c2], _ =>
    simp at hs hf' hv
    exact ⟨(s, f, L), v, by simp [hs, hf', hv], hL⟩
theorem open_txns {n : Nat} {cs : List Value} {y : DataW H × List MemPlace} (h : DataW.trod enc Tryd.prog w base spare held n 23 cs = some y) : ∃ v L, cs = [v] ∧ TxnsA w v L :=
  open_slR Tryd.underlying23 (by kernel_rfl) (fun _ _ _ h => open_txn h) h
theorem open_strsA {n : Nat} {cs : List Value} {y : DataW H × List MemPlace} (h : DataW.trod enc Tryd.prog w base spare held n 22 cs = some y) : ∃ v L, cs = [v] ∧ StrsA w v L :=
  open_slR Tryd.underlying22 (by kernel_rfl) (fun _ _ _ h => open_str h) h
set_option maxRecDepth 100000 in
theorem open_hist {r : Reach} {b0 : Nat} {v : Value} {d : DataW H} {ps : List MemPlace} (hval : Value.okWide Tryd.prog w r b0 25 v) (hd : DataW.Trod enc Tryd.prog w base spare held 25 v d ps) : ∃ h, HistA w v h := by
  obtain ⟨c0, c1, c2, y0, y1, y2, m, rfl, -, -, h0, h1, h2⟩ := open_agg3 Tryd.underlying25 (by kernel_rfl) (show Tryd.prog.cellsOf 25 = 3 by kernel_rfl) hval hd
  obtain ⟨v0, L0, e0, a0⟩ := open_strsA h0
  obtain ⟨v1, L1, e1, a1⟩ := open_strsA h1
  obtain ⟨v2, L2, e2, a2⟩ := open_txns h2
  simp at e0 e1 e2
  subst e0 e1 e2
  exact ⟨(L0, L1, L2), c0, c1, c2, rfl, a0, a1, a2⟩
end

/-! ### Rows of a call's own -/
theorem flat_get {α : Type} (f : α → List Value) (s : Nat) (hf : ∀ x, (f x).length = s) (d : α) : ∀ (L : List α) (j i : Nat), j < L.length → i < s → (L.flatMap f)[j * s + i]? = (f (L.getD j d))[i]?
  | [], j, _, hj, _ => absurd hj (Nat.not_lt_zero j)
  | x :: L, 0, i, _, hi => by
    rw [List.flatMap_cons, Nat.zero_mul, Nat.zero_add, List.getElem?_append_left (by rw [hf]; exact hi)]
    rfl
  | x :: L, j + 1, i, hj, hi => by
    rw [List.flatMap_cons, List.getElem?_append_right (by rw [hf, Nat.add_mul]; omega), hf, show (j + 1) * s + i - s = j * s + i by rw [Nat.add_mul]; omega]
    rw [flat_get f s hf d L j i (by simpa using hj) hi]
    rfl
theorem own_rowK {w : World} {base size n : Nat} {e : TypeId} {v : Value} {xs : List Value} (h : w.ownsRow base e size v n xs) : ∃ p cap, v = .slice p n cap ∧ n ≤ cap ∧ cap ≤ maxLen ∧ ∀ q u, q < n * size → xs[q]? = some u → ∃ g, p = some ⟨g, 0, none⟩ ∧ w.cell? ⟨g, q, none⟩ = some u := by
  obtain ⟨h1, ⟨rfl, rfl⟩ | ⟨g, cap, cur, rfl, -, hw, hc, hm, hs, ht⟩⟩ := h
  · exact ⟨none, 0, rfl, Nat.le_refl _, Nat.zero_le _, fun q u hq => by omega⟩
  · refine ⟨_, cap, rfl, hc, hm, fun q u hq hu => ⟨g, rfl, ?_⟩⟩
    have h2 := congrArg (fun x : List Value => x[q]?) ht
    simp only [List.getElem?_take, hq, if_true, Array.getElem?_toList] at h2
    rw [cell_of_row w g q _ _ (0, 0) hw, h2, hu]
/-- A row of the call's own, read as a slice of whatever elements. -/
theorem own_slR {α β : Type} {w : World} {base s : Nat} {e : TypeId} {v : Value} {L : List β} (f : β → List Value) (hf : ∀ x, (f x).length = s) (hs : 0 < s) (d : β) (g : β → α) {R : World → List Value → α → Prop} (h : w.ownsRow base e s v L.length (L.flatMap f)) (hR : ∀ x ∈ L, R w (f x) (g x)) : SlR s R w v (L.map g) := by
  obtain ⟨p, cap, rfl, h1, h2, hc⟩ := own_rowK h
  refine ⟨p, cap, by rw [List.length_map], by rw [List.length_map]; exact h1, h2, fun j hj => ?_⟩
  rw [List.length_map] at hj
  have hD : L.getD j d = L[j] := by simp [hj]
  have hg : ∀ i u, i < s → (f L[j])[i]? = some u → ∃ g, p = some ⟨g, 0, none⟩ ∧ w.cell? ⟨g, j * s + i, none⟩ = some u := fun i u hi hu =>
    hc _ u (by
      have : (j + 1) * s ≤ L.length * s := Nat.mul_le_mul_right s hj
      rw [Nat.add_mul] at this
      omega) (by rw [flat_get f s hf d L j i hj hi, hD]; exact hu)
  obtain ⟨g0, rfl, -⟩ := hg 0 ((f L[j])[0]'(by rw [hf]; exact hs)) hs (by simp)
  refine ⟨_, f L[j], rfl, hf _, fun i u hu => ?_, by rw [List.getElem_map]; exact hR _ (List.getElem_mem hj)⟩
  obtain ⟨g1, e1, h3⟩ := hg i u (by have := (List.getElem?_eq_some_iff.1 hu).1; rw [hf] at this; exact this) hu
  cases e1
  rw [Addr.add_lit, Nat.zero_add]
  exact h3
def opsCells (L : List OpM) : List Value := L.flatMap opCells
theorem own_ops {w : World} {base : Nat} {e : TypeId} {v : Value} {L : List OpM} (h : w.ownsRow base e 4 v L.length (opsCells L)) : OpsS w v L := by
  obtain ⟨p, cap, rfl, -, -, hc⟩ := own_rowK h
  refine ⟨p, cap, rfl, fun j hj => ?_⟩
  have hg : ∀ i u, i < 4 → (opCells (L.getD j noOp))[i]? = some u → ∃ g, p = some ⟨g, 0, none⟩ ∧ w.cell? ⟨g, j * 4 + i, none⟩ = some u := fun i u hi hu =>
    hc _ u (by omega) (by rw [opsCells, flat_get opCells 4 (fun _ => rfl) noOp L j i hj hi]; exact hu)
  obtain ⟨g, rfl, h0⟩ := hg 0 _ (by omega) rfl
  obtain ⟨g1, e1, h1⟩ := hg 1 _ (by omega) rfl
  obtain ⟨g2, e2, h2⟩ := hg 2 _ (by omega) rfl
  obtain ⟨g3, e3, h3⟩ := hg 3 _ (by omega) rfl
  cases e1; cases e2; cases e3
  exact ⟨g, rfl, h0, h1, h2, h3⟩
/-- Transactions with their slices' values. -/
abbrev TxnV := TxnM × Value
def txnCells (t : TxnV) : List Value := [.int .i64 t.1.1, .int .i64 t.1.2.1, t.2]
def txnsCells (L : List TxnV) : List Value := L.flatMap txnCells
theorem own_txns {w : World} {base : Nat} {e : TypeId} {v : Value} {L : List TxnV} (h : w.ownsRow base e 3 v L.length (txnsCells L)) (ho : ∀ t ∈ L, OpsS w t.2 t.1.2.2) : TxnsS w v (L.map (·.1)) := by
  obtain ⟨p, cap, rfl, -, -, hc⟩ := own_rowK h
  refine ⟨p, cap, by rw [List.length_map], fun j hj => ?_⟩
  rw [List.length_map] at hj
  have hg : ∀ i u, i < 3 → (txnCells (L.getD j (noTxn, .nilIface)))[i]? = some u → ∃ g, p = some ⟨g, 0, none⟩ ∧ w.cell? ⟨g, j * 3 + i, none⟩ = some u := fun i u hi hu =>
    hc _ u (by omega) (by rw [txnsCells, flat_get txnCells 3 (fun _ => rfl) (noTxn, .nilIface) L j i hj hi]; exact hu)
  obtain ⟨g, rfl, h0⟩ := hg 0 _ (by omega) rfl
  obtain ⟨g1, e1, h1⟩ := hg 1 _ (by omega) rfl
  obtain ⟨g2, e2, h2⟩ := hg 2 _ (by omega) rfl
  cases e1; cases e2
  have hD : (L.map (·.1)).getD j noTxn = (L.getD j (noTxn, .nilIface)).1 := by simp [hj]
  have hM : L.getD j (noTxn, .nilIface) ∈ L := by
    have : L.getD j (noTxn, .nilIface) = L[j] := by simp [hj]
    rw [this]
    exact List.getElem_mem hj
  exact ⟨g, _, rfl, by rw [hD]; exact h0, by rw [hD]; exact h1, h2, by rw [hD]; exact ho _ hM⟩
theorem own_opsA {w : World} {base : Nat} {e : TypeId} {v : Value} {L : List OpM} (h : w.ownsRow base e 4 v L.length (opsCells L)) : OpsA w v L := by
  have := own_slR (R := OpR) opCells (fun _ => rfl) (by omega) noOp id h (fun x _ => rfl)
  rwa [List.map_id] at this
theorem own_txnsA {w : World} {base : Nat} {e : TypeId} {v : Value} {L : List TxnV} (h : w.ownsRow base e 3 v L.length (txnsCells L)) (ho : ∀ t ∈ L, OpsA w t.2 t.1.2.2) : TxnsA w v (L.map (·.1)) :=
  own_slR (R := TxnR) txnCells (fun _ => rfl) (by omega) (noTxn, .nilIface) (·.1) h (fun x hx => ⟨_, rfl, ho x hx⟩)
theorem own_strsA {w : World} {base : Nat} {e : TypeId} {v : Value} {L : List (List UInt8)} (h : w.ownsRow base e 1 v L.length (strs L)) (hl : ∀ s ∈ L, s.length ≤ 9223372036854775807) : StrsA w v L := by
  have h' : w.ownsRow base e 1 v L.length (L.flatMap fun s => [.string (bs s)]) := by
    have : L.flatMap (fun s => [Value.string (bs s)]) = strs L := by
      unfold strs
      clear h hl
      induction L with
      | nil => rfl
      | cons x L ih => rw [List.flatMap_cons, ih]; rfl
    rw [this]; exact h
  have := own_slR (R := StrR) (s := 1) (fun s => [.string (bs s)]) (fun _ => rfl) (by omega) [] id h' (fun x hx => ⟨rfl, hl x hx⟩)
  rwa [List.map_id] at this
end Go.Proofs.YthalbcmlehpfaaaDoor
