/-
  A world of a history (fates, and lost values) as a value: an argument's, and one of the call's own. No conditions.
-/
import Derived.Test.YtmgchjddpmmglaaGreatDoorRxWhP
import Derived.Deep.CutBlock
namespace Go.Proofs.YtmgchjddpmmglaaGreatDoor
open Go.ChangeShapes Go.WideShapes Go.ChangeAt Go.RowKit Go.Joins
def valCells (x : ValM) : List Value := [.int .i64 x.1, .int .i64 x.2]
def BoolR (_ : World) (cs : List Value) (b : Bool) : Prop := cs = [.bool b]
def ValR (_ : World) (cs : List Value) (x : ValM) : Prop := cs = valCells x
def BoolsA (w : World) (v : Value) (L : List Bool) : Prop := SlR 1 BoolR w v L
def ValsA (w : World) (v : Value) (L : List ValM) : Prop := SlR 2 ValR w v L
def WorldA (w : World) (v : Value) (m : WorldM) : Prop := ∃ v0 v1, v = .agg #[v0, v1] ∧ BoolsA w v0 m.1 ∧ ValsA w v1 m.2
theorem BoolsA.below {w w' : World} {v : Value} {L : List Bool} (h : BoolsA w v L) (hb : Below w.heap.size w w') : BoolsA w' v L := SlR.below (fun _ _ _ _ _ h => h) h hb
theorem ValsA.below {w w' : World} {v : Value} {L : List ValM} (h : ValsA w v L) (hb : Below w.heap.size w w') : ValsA w' v L := SlR.below (fun _ _ _ _ _ h => h) h hb
theorem WorldA.below {w w' : World} {v : Value} {m : WorldM} (h : WorldA w v m) (hb : Below w.heap.size w w') : WorldA w' v m := by
 obtain ⟨v0, v1, e, h0, h1⟩ := h
 exact ⟨v0, v1, e, h0.below hb, h1.below hb⟩
section
variable {H : Type} {enc : TypeId × Value → H} {w : World} {base : Nat} {spare : Nat → Bool} {held : Bool}
theorem open_truth {n : Nat} {cs : List Value} {y : DataW H × List MemPlace} (h : DataW.trod enc Tryz.prog w base spare held n 4 cs = some y) : ∃ s, BoolR w cs s := by
 obtain ⟨b, hb, -⟩ := DataW.trod_bool Tryz.underlying4 h
 exact ⟨b, hb⟩
theorem open_val {n : Nat} {cs : List Value} {y : DataW H × List MemPlace} (h : DataW.trod enc Tryz.prog w base spare held n 49 cs = some y) : ∃ s, ValR w cs s := by
 obtain ⟨k, m, e⟩ := open_value h
 exact ⟨(k, m), e⟩
set_option maxRecDepth 100000 in
theorem open_world {r : Reach} {b0 : Nat} {v : Value} {d : DataW H} {ps : List MemPlace} (hval : Value.okWide Tryz.prog w r b0 64 v) (hd : DataW.Trod enc Tryz.prog w base spare held 64 v d ps) : ∃ m, WorldA w v m := by
 obtain ⟨cs, rfl, -⟩ := okWide_struct Tryz.underlying64 hval
 obtain ⟨fuel, h⟩ := hd
 obtain ⟨l⟩ := cs
 have h : DataW.trod enc Tryz.prog w base spare held fuel 64 l = some (d, ps) := h
 have hl := trod_len Tryz.underlying64 h
 obtain ⟨n0, y0, h0⟩ := trod_at 0 0 61 1 Tryz.underlying64 h rfl rfl rfl (by kernel_rfl)
 obtain ⟨n1, y1, h1⟩ := trod_at 1 1 62 1 Tryz.underlying64 h rfl rfl rfl (by kernel_rfl)
 obtain ⟨v0, L0, e0, a0⟩ : ∃ v L, _ = [v] ∧ SlR 1 BoolR w v L := open_slR Tryz.underlying61 (by kernel_rfl) (fun _ _ _ h => open_truth h) h0
 obtain ⟨v1, L1, e1, a1⟩ : ∃ v L, _ = [v] ∧ SlR 2 ValR w v L := open_slR Tryz.underlying62 (by kernel_rfl) (fun _ _ _ h => open_val h) h1
 rw [show Tryz.prog.cellsOf 64 = 2 by kernel_rfl] at hl
 match l, hl with
 | [a, b], _ =>
  simp at e0 e1
  subst e0 e1
  exact ⟨(L0, L1), a, b, rfl, a0, a1⟩
end
def HasBools (w : World) (p : Option Addr) (L : List Bool) : Prop := ∀ j, j < L.length → ∃ g, p = some ⟨g, 0, none⟩ ∧ w.cell? ⟨g, j, none⟩ = some (.bool (L.getD j false))
def HasVals (w : World) (p : Option Addr) (L : List ValM) : Prop := ∀ j, j < L.length → ∃ g, p = some ⟨g, 0, none⟩ ∧ w.cell? ⟨g, j * 2, none⟩ = some (.int .i64 (L.getD j noVal).1) ∧ w.cell? ⟨g, j * 2 + 1, none⟩ = some (.int .i64 (L.getD j noVal).2)
theorem HasBools.below {w w' : World} {p : Option Addr} {L : List Bool} (h : HasBools w p L) (hb : Below w.heap.size w w') : HasBools w' p L := fun j hj => by
 obtain ⟨g, e, hc⟩ := h j hj
 exact ⟨g, e, cell_later hb hc⟩
theorem HasVals.below {w w' : World} {p : Option Addr} {L : List ValM} (h : HasVals w p L) (hb : Below w.heap.size w w') : HasVals w' p L := fun j hj => by
 obtain ⟨g, e, h1, h2⟩ := h j hj
 exact ⟨g, e, cell_later hb h1, cell_later hb h2⟩
def BoolsS (w : World) (v : Value) (L : List Bool) : Prop := ∃ p c, v = .slice p L.length c ∧ (L.length ≤ c ∧ c ≤ maxLen) ∧ HasBools w p L
def ValsS (w : World) (v : Value) (L : List ValM) : Prop := ∃ p c, v = .slice p L.length c ∧ (L.length ≤ c ∧ c ≤ maxLen) ∧ HasVals w p L
theorem BoolsS.below {w w' : World} {v : Value} {L : List Bool} (h : BoolsS w v L) (hb : Below w.heap.size w w') : BoolsS w' v L := by
 obtain ⟨p, c, e, hc, hh⟩ := h
 exact ⟨p, c, e, hc, hh.below hb⟩
theorem ValsS.below {w w' : World} {v : Value} {L : List ValM} (h : ValsS w v L) (hb : Below w.heap.size w w') : ValsS w' v L := by
 obtain ⟨p, c, e, hc, hh⟩ := h
 exact ⟨p, c, e, hc, hh.below hb⟩
theorem bools_none (w : World) : BoolsS w (.slice none 0 0) [] := ⟨none, 0, rfl, ⟨Nat.le_refl _, Nat.zero_le _⟩, fun j hj => absurd hj (Nat.not_lt_zero j)⟩
theorem vals_none (w : World) : ValsS w (.slice none 0 0) [] := ⟨none, 0, rfl, ⟨Nat.le_refl _, Nat.zero_le _⟩, fun j hj => absurd hj (Nat.not_lt_zero j)⟩
def WorldV (w : World) (v : Value) (m : WorldM) : Prop := ∃ v0 v1, v = .agg #[v0, v1] ∧ BoolsS w v0 m.1 ∧ ValsS w v1 m.2
theorem WorldV.below {w w' : World} {v : Value} {m : WorldM} (h : WorldV w v m) (hb : Below w.heap.size w w') : WorldV w' v m := by
 obtain ⟨v0, v1, e, h0, h1⟩ := h
 exact ⟨v0, v1, e, h0.below hb, h1.below hb⟩
theorem noW_v (w : World) : WorldV w (.agg #[.slice none 0 0, .slice none 0 0]) ([], []) := ⟨_, _, rfl, bools_none w, vals_none w⟩
theorem worldV_form {w : World} {v : Value} {m : WorldM} (h : WorldV w v m) : ∃ p0 c0 p1 c1, v = .agg #[.slice p0 m.1.length c0, .slice p1 m.2.length c1] ∧ HasBools w p0 m.1 ∧ HasVals w p1 m.2 ∧ (m.1.length ≤ c0 ∧ c0 ≤ maxLen) ∧ (m.2.length ≤ c1 ∧ c1 ≤ maxLen) := by
 obtain ⟨v0, v1, e, ⟨p0, c0, e0, hc0, h0⟩, ⟨p1, c1, e1, hc1, h1⟩⟩ := h
 subst e0 e1
 exact ⟨p0, c0, p1, c1, e, h0, h1, hc0, hc1⟩
def bools (L : List Bool) : List Value := L.map fun b => .bool b
def valsC (L : List ValM) : List Value := L.flatMap valCells
theorem bools_set (L : List Bool) (k : Nat) (b : Bool) : bools (L.set k b) = (bools L).set k (.bool b) := by simp [bools, List.map_set]
theorem bools_at (L : List Bool) (k : Nat) (hk : k < L.length) : (bools L)[k]? = some (.bool (L.getD k false)) := by simp [bools, hk]
theorem valsC_len (L : List ValM) : (valsC L).length = L.length * 2 := by
 unfold valsC
 induction L with
 | nil => rfl
 | cons x L ih => rw [List.flatMap_cons, List.length_append, ih, List.length_cons]; simp [valCells]; omega
theorem bools_length (L : List Bool) : (bools L).length = L.length := by simp [bools]
theorem ones_bools (L : List Bool) : ∀ u ∈ bools L, u.oneCell' = true := by
 intro u hu
 obtain ⟨b, -, rfl⟩ := List.mem_map.1 hu
 rfl
theorem ones_vals (L : List ValM) : ∀ u ∈ valsC L, u.oneCell' = true := by
 intro u hu
 obtain ⟨o, -, ho⟩ := List.mem_flatMap.1 hu
 simp [valCells] at ho
 rcases ho with rfl | rfl <;> rfl
theorem own_bools {w : World} {base n : Nat} {e : TypeId} {v : Value} {L : List Bool} (h : w.ownsRow base e 1 v n (bools L)) (hn : n = L.length) : BoolsS w v L := by
 subst hn
 obtain ⟨p, cap, rfl, hl, hm, hc⟩ := own_rowK h
 refine ⟨p, cap, rfl, ⟨hl, hm⟩, fun j hj => ?_⟩
 obtain ⟨g, rfl, h0⟩ := hc j (.bool (L.getD j false)) (by omega) (by simp [bools, hj])
 exact ⟨g, rfl, h0⟩
theorem own_vals {w : World} {base n : Nat} {e : TypeId} {v : Value} {L : List ValM} (h : w.ownsRow base e 2 v n (valsC L)) (hn : n = L.length) : ValsS w v L := by
 subst hn
 obtain ⟨p, cap, rfl, hl, hm, hc⟩ := own_rowK h
 refine ⟨p, cap, rfl, ⟨hl, hm⟩, fun j hj => ?_⟩
 have hg : ∀ i u, i < 2 → (valCells (L.getD j noVal))[i]? = some u → ∃ g, p = some ⟨g, 0, none⟩ ∧ w.cell? ⟨g, j * 2 + i, none⟩ = some u := fun i u hi hu =>
  hc _ u (by omega) (by rw [valsC, flat_get valCells 2 (fun _ => rfl) noVal L j i hj hi]; exact hu)
 obtain ⟨g, rfl, h0⟩ := hg 0 _ (by omega) rfl
 obtain ⟨g1, e1, h1⟩ := hg 1 _ (by omega) rfl
 cases e1
 exact ⟨g, rfl, h0, h1⟩
theorem own_boolsA {w : World} {base : Nat} {e : TypeId} {v : Value} {L : List Bool} (h : w.ownsRow base e 1 v L.length (bools L)) : BoolsA w v L := by
 have h' : w.ownsRow base e 1 v L.length (L.flatMap fun s => [.bool s]) := by
  have : L.flatMap (fun s => [Value.bool s]) = bools L := by
   unfold bools
   clear h
   induction L with
   | nil => rfl
   | cons x L ih => rw [List.flatMap_cons, ih]; rfl
  rw [this]; exact h
 have := own_slR (R := BoolR) (s := 1) (fun s => [.bool s]) (fun _ => rfl) (by omega) false id h' (fun x hx => rfl)
 rwa [List.map_id] at this
theorem own_valsA {w : World} {base : Nat} {e : TypeId} {v : Value} {L : List ValM} (h : w.ownsRow base e 2 v L.length (valsC L)) : ValsA w v L := by
 have := own_slR (R := ValR) valCells (fun _ => rfl) (by omega) noVal id h (fun x _ => rfl)
 rwa [List.map_id] at this
theorem bools_news {w : World} {a : Addr} {c n : Nat} {L : List Bool} (h : BoolsA w (.slice (some a) n c) L) (m : Nat) : ∀ (q : Nat) (u : Value), (bools (L.take m))[q]? = some u → w.cell? (a.add q) = some u := by
 obtain ⟨p', c', e, -, -, hc⟩ := h
 injection e with e1 _ _
 subst e1
 intro q u hq
 have hql : q < (L.take m).length := by
  have := (List.getElem?_eq_some_iff.1 hq).1
  simpa [bools] using this
 rw [List.length_take] at hql
 obtain ⟨a', cs, e, -, h1, h2⟩ := hc q (by omega)
 cases e
 have eu : cs[0]? = some u := by
  rw [show cs = [.bool L[q]] from h2]
  rw [← hq]
  simp [bools, show q < m by omega, show q < L.length by omega]
 have := h1 0 u eu
 rwa [Nat.mul_one, Nat.add_zero] at this
theorem vals_news {w : World} {a : Addr} {c n : Nat} {L : List ValM} (h : ValsA w (.slice (some a) n c) L) (m : Nat) : ∀ (q : Nat) (u : Value), (valsC (L.take m))[q]? = some u → w.cell? (a.add q) = some u := by
 obtain ⟨p', c', e, -, -, hc⟩ := h
 injection e with e1 _ _
 subst e1
 intro q u hq
 have hql : q < (L.take m).length * 2 := by rw [← valsC_len]; exact (List.getElem?_eq_some_iff.1 hq).1
 rw [List.length_take] at hql
 have hj : q / 2 < L.length := by omega
 obtain ⟨a', cs, e, -, h1, h2⟩ := hc (q / 2) hj
 cases e
 have hq' : q = q / 2 * 2 + q % 2 := by omega
 have hg := flat_get valCells 2 (fun _ => rfl) noVal (L.take m) (q / 2) (q % 2) (by rw [List.length_take]; omega) (by omega)
 rw [← hq'] at hg
 rw [hq']
 refine h1 _ _ ?_
 unfold ValR at h2
 rw [h2]
 unfold valsC at hq
 rw [hg] at hq
 rw [← hq]
 congr 2
 have hjm : q / 2 < m := by omega
 simp [List.getD, hjm, hj]
theorem bools_len {w : World} {p : Option Addr} {n c : Nat} {L : List Bool} (h : BoolsA w (.slice p n c) L) : n = L.length ∧ L.length ≤ c ∧ c ≤ maxLen ∧ (p = none → L = []) := by
 obtain ⟨p', c', e, h1, h2, hc⟩ := h
 injection e with e1 e2 e3
 subst e1 e3
 refine ⟨e2, h1, h2, fun hp => ?_⟩
 cases L with
 | nil => rfl
 | cons x l =>
  obtain ⟨a, -, ea, -⟩ := hc 0 (by simp)
  rw [hp] at ea
  cases ea
theorem valsA_len {w : World} {p : Option Addr} {n c : Nat} {L : List ValM} (h : ValsA w (.slice p n c) L) : n = L.length ∧ L.length ≤ c ∧ c ≤ maxLen ∧ (p = none → L = []) := by
 obtain ⟨p', c', e, h1, h2, hc⟩ := h
 injection e with e1 e2 e3
 subst e1 e3
 refine ⟨e2, h1, h2, fun hp => ?_⟩
 cases L with
 | nil => rfl
 | cons x l =>
  obtain ⟨a, -, ea, -⟩ := hc 0 (by simp)
  rw [hp] at ea
  cases ea
def fewW (m : WorldM) : WorldM := (m.1.take 50, m.2.take 50)
theorem fewW_few (m : WorldM) : fewW (fewW m) = fewW m := by simp [fewW, List.take_take]
theorem fewW_len (m : WorldM) : (fewW m).1.length ≤ 50 ∧ (fewW m).2.length ≤ 50 := by simp [fewW]; omega
theorem info_truth : (Tryz.prog.info? 4).map (fun i => (i.zero, i.size, i.bytes)) = some (some (.bool false), 1, 1) := by kernel_rfl
theorem info_val : (Tryz.prog.info? 49).map (fun i => (i.zero, i.size, i.bytes)) = some (some (.agg #[.int .i64 0, .int .i64 0]), 2, 16) := by kernel_rfl
theorem load_world {w : World} {b : Nat} {x y : Value} (h : Blk w b 64 [x, y]) : (loadVar 64 ⟨b, 0, none⟩).run Tryz.prog w = .ok (.agg #[x, y]) w := by
 have hr : w.rangeAt b 0 [x, y] := fun j v hj => by rw [Nat.zero_add]; exact h.cell j hj
 exact run_loadVar_mid (P := Tryz.prog) w b 0 64 [x, y] _ hr Tryz.underlying64 rfl (by kernel_rfl)
end Go.Proofs.YtmgchjddpmmglaaGreatDoor
