/-
  Rows of texts of a call's own; append to a row of one's own as one step of a region that draws. No conditions.
-/
import Derived.Test.YthalbcmlehpfaaaDoorTexts
import Derived.Deep.RegionHeld3
import Derived.Deep.AppendLies
import Derived.OwnWalk
namespace Go.Proofs.YthalbcmlehpfaaaDoor
open Go.RowKit Go.Lib

theorem getD_mem (L : List (List UInt8)) (k : Nat) (h : k < L.length) : L.getD k [] ∈ L := by
  have : L.getD k [] = L[k] := by simp [h]
  rw [this]
  exact List.getElem_mem h
/-- A slice of texts that is not nil. -/
def TextsS (w : World) (v : Value) (L : List (List UInt8)) : Prop := ∃ g cap, v = .slice (some ⟨g, 0, none⟩) L.length cap ∧ L.length ≤ cap ∧ ∀ j, j < L.length → w.cell? ⟨g, j, none⟩ = some (.string (bs (L.getD j [])))
theorem TextsS.below {w w' : World} {v : Value} {L : List (List UInt8)} (h : TextsS w v L) (hb : Below w.heap.size w w') : TextsS w' v L := by
  obtain ⟨g, cap, hv, hc, ht⟩ := h
  exact ⟨g, cap, hv, hc, fun j hj => cell_later hb (ht j hj)⟩
theorem own_textsS {w : World} {B : Nat} {e : TypeId} {v : Value} {L : List (List UInt8)} (h : w.ownsRow B e 1 v L.length (strs L)) (hn : v ≠ .slice none 0 0) : TextsS w v L := by
  obtain ⟨-, ⟨h0, -⟩ | ⟨g, cap, cur, hv, -, hw, hc, -, -, ht⟩⟩ := h
  · exact absurd h0 hn
  · refine ⟨g, cap, hv, hc, fun j hj => ?_⟩
    have h1 := congrArg (fun x : List Value => x[j]?) ht
    simp only [Nat.mul_one, List.getElem?_take, hj, if_true, Array.getElem?_toList] at h1
    rw [cell_of_row w g j _ _ (0, 0) hw, h1]
    simp [strs, hj]

/-- append to a row of one's own, as one step of a region that draws. -/
theorem step_append_own {P : Program} {w : World} {ops : Array Oper} {o : Oper} {a : Act} {K : Act → World → Prop} {Q : Exit → Act → World → Prop} {E : Prop} (hgd : o.guard = none) (s x : Operand) (t : TypeId)
    (ho : o.op = .call { callee := .builtin .append, args := #[s, x], argTypes := #[t, t] })
    (base : Nat) (e : TypeId) (i : TypeInfo) (z : Value) (size bytes : Nat) (ht : P.underlying t = some (.slice e)) (hi : P.info? e = some i) (hz : i.zero = some z)
    (hsize : i.size = size) (hby : i.bytes = bytes) (hzs : z.cells.size = size) (hsz : 0 < size)
    (v : Value) (n : Nat) (xs : List Value) (hs : a.eval s = v) (hown : w.ownsRow base e size v n xs)
    (ad : Addr) (m c : Nat) (news : List Value) (hx : a.eval x = .slice (some ad) m c) (hl : news.length = m * size) (hnews : ∀ j u, news[j]? = some u → w.cell? (ad.add j) = some u) (h1 : ∀ u ∈ news, u.oneCell' = true)
    (h63 : n + m ≤ maxLen) (hbytes : (n + m) * bytes ≤ 140737488355328) (hbase : base ≤ w.heap.size)
    (h : ∀ v' w', w'.ownsRow base e size v' (n + m) (xs ++ news) → w.grownBy w' v.ownBlock → (v' = .slice none 0 0 ↔ v = .slice none 0 0 ∧ m = 0) → K (a.put o.dst v') w') :
    if Region.wanted o (yielded ops a.tmps) = true then Oper.wp P o a w K Q else E := by
  have hw : Region.wanted o (yielded ops a.tmps) = true := by simp [Region.wanted, hgd]
  rw [if_pos hw]
  exact wp_append_own w s x t ho base e i z size bytes ht hi hz hsize hby hzs hsz v n xs hs hown ad m c news hx hl hnews h1 h63 hbytes hbase h
theorem news_str' (w : World) (x : ByteArray) (e : TypeId) : ∀ (j : Nat) (u : Value), ([.string x] : List Value)[j]? = some u → (w.alloc (.cells #[.string x] e)).cell? ((⟨w.heap.size, 0, none⟩ : Addr).add j) = some u := by
  intro j u hj
  match j, hj with
  | 0, hj => simp at hj; subst hj; simp [Addr.add]
theorem own_empty {w : World} {b B : Nat} (h : w.heap[b]? = some (.cells #[] 9 (0, 0))) (hb : B ≤ b) : w.ownsRow B 9 1 (.slice (some ⟨b, 0, none⟩) 0 0) 0 [] :=
  ⟨rfl, .inr ⟨b, 0, #[], rfl, hb, h, Nat.le_refl _, Nat.zero_le _, rfl, rfl⟩⟩
theorem heap2_new (w : World) (A B : Obj) : ((w.alloc A).alloc B).heap[w.heap.size + 1]? = some B := by
  have h := heap_alloc_new (w.alloc A) B
  rwa [show (w.alloc A).heap.size = w.heap.size + 1 by simp] at h
theorem heap2_old (w : World) (A B : Obj) : ((w.alloc A).alloc B).heap[w.heap.size]? = some A := by
  rw [heap_alloc_old (w.alloc A) B (by simp)]
  exact heap_alloc_new w A
theorem news_block {w : World} {b : Nat} {x : ByteArray} {e : TypeId} (h : w.heap[b]? = some (.cells #[.string x] e (0, 0))) : ∀ (j : Nat) (u : Value), ([.string x] : List Value)[j]? = some u → w.cell? ((⟨b, 0, none⟩ : Addr).add j) = some u := by
  intro j u hj
  rw [Addr.add_lit, Nat.zero_add, cell_of_row w b j _ _ (0, 0) h]
  simpa using hj
theorem ones_one (x : ByteArray) : ∀ u ∈ ([.string x] : List Value), u.oneCell' = true := by
  intro u hu
  simp at hu
  subst hu
  rfl
theorem keep_alloc {a W : World} (h : Below a.heap.size a W) (o : Obj) : Below a.heap.size a (W.alloc o) := h.alloc h.size o
theorem keep_grown {a W W' : World} {v : Value} {n : Nat} {xs : List Value} {e : TypeId} {z : Nat} (h : Below a.heap.size a W) (hown : W.ownsRow a.heap.size e z v n xs) (hg : W.grownBy W' v.ownBlock) : Below a.heap.size a W' :=
  h.grown hg h.size (fun k hk => (hown.lt k hk).1)
theorem cells_from (W : World) (g o : Nat) (S : List (List UInt8)) (h : ∀ q, q < S.length → W.cell? ⟨g, o + q, none⟩ = some (.string (bs (S.getD q [])))) : ∀ (j : Nat) (u : Value), (strs S)[j]? = some u → W.cell? ((⟨g, o, none⟩ : Addr).add j) = some u := by
  intro j u hj
  have hjl : j < S.length := by
    have := (List.getElem?_eq_some_iff.1 hj).1
    simpa [strs] using this
  rw [Addr.add_lit, h j hjl, ← hj]
  simp [strs, hjl]
theorem ones_strs (S : List (List UInt8)) : ∀ u ∈ strs S, u.oneCell' = true := by
  intro u hu
  obtain ⟨x, -, rfl⟩ := List.mem_map.1 hu
  rfl
end Go.Proofs.YthalbcmlehpfaaaDoor
