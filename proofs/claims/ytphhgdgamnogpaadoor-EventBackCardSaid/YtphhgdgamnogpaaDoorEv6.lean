/-
  An event's six cells in memory: the build, the store and the load of a whole event as one rule of the walk each. No conditions.
-/
import Derived.Test.YtphhgdgamnogpaaDoorEvD
import Derived.Deep.MidRow
namespace Go.Proofs.YtphhgdgamnogpaaDoor
open Go.RowKit

theorem build_ev0 (w : World) : (Instr.build 37 #[]).run Tryd.prog w = .ok (.agg #[.int .i64 0, .string (bs []), .string (bs []), .int .i64 0, .int .i64 0, .int .i64 0]) w := by kernel_rfl
theorem build_ev2 (k : Int) (s : ByteArray) (w : World) : (Instr.build 37 #[(0, .int .i64 k), (1, .string s)]).run Tryd.prog w = .ok (.agg #[.int .i64 k, .string s, .string (bs []), .int .i64 0, .int .i64 0, .int .i64 0]) w := by kernel_rfl
theorem build_ev4 (k a b : Int) (s key : ByteArray) (w : World) : (Instr.build 37 #[(0, .int .i64 k), (1, .string s), (2, .string key), (3, .agg #[.int .i64 a, .int .i64 b])]).run Tryd.prog w = .ok (.agg #[.int .i64 k, .string s, .string key, .int .i64 a, .int .i64 b, .int .i64 0]) w := by kernel_rfl
/-- An event is stored. -/
theorem store_ev (w : World) (b : Nat) (k vk n ln : Int) (s key : ByteArray) (h : w.there b 0 6) : (Instr.storeAt 37 (.pointer (some ⟨b, 0, none⟩)) (.agg #[.int .i64 k, .string s, .string key, .int .i64 vk, .int .i64 n, .int .i64 ln])).run Tryd.prog w = .ok () ((((((w.setCell ⟨b, 0, none⟩ (.int .i64 k)).setCell ⟨b, 1, none⟩ (.string s)).setCell ⟨b, 2, none⟩ (.string key)).setCell ⟨b, 3, none⟩ (.int .i64 vk)).setCell ⟨b, 4, none⟩ (.int .i64 n)).setCell ⟨b, 5, none⟩ (.int .i64 ln)) :=
  run_storeAt_mid (P := Tryd.prog) w b 0 37 #[.int .i64 k, .string s, .string key, .int .i64 vk, .int .i64 n, .int .i64 ln] h (by kernel_rfl) (by simp [Value.oneCell'])
theorem free_blk {w : World} {g : Nat} {t : TypeId} {C : Array Value} (h : w.heap[g]? = some (.cells C t (0, 0))) (i : Nat) : w.frozen? ⟨g, i, none⟩ = false := by simp [World.frozen?, h]
theorem storeVar_ev (w : World) (b : Nat) (k vk n ln : Int) (s key : ByteArray) (h : w.there b 0 6) : (storeVar 37 ⟨b, 0, none⟩ (.agg #[.int .i64 k, .string s, .string key, .int .i64 vk, .int .i64 n, .int .i64 ln])).run Tryd.prog w = .ok () ((((((w.setCell ⟨b, 0, none⟩ (.int .i64 k)).setCell ⟨b, 1, none⟩ (.string s)).setCell ⟨b, 2, none⟩ (.string key)).setCell ⟨b, 3, none⟩ (.int .i64 vk)).setCell ⟨b, 4, none⟩ (.int .i64 n)).setCell ⟨b, 5, none⟩ (.int .i64 ln)) :=
  run_storeVar_mid (P := Tryd.prog) w b 0 37 #[.int .i64 k, .string s, .string key, .int .i64 vk, .int .i64 n, .int .i64 ln] h (by kernel_rfl) (by simp [Value.oneCell'])
/-- Six cells that lie there, in a new block, later on, behind an allocation, behind a store. -/
theorem there_new (w : World) (t : TypeId) (a0 a1 a2 a3 a4 a5 : Value) : (w.alloc (.cells #[a0, a1, a2, a3, a4, a5] t)).there w.heap.size 0 6 := by
  intro j hj
  have hb := heap_alloc_new w (.cells #[a0, a1, a2, a3, a4, a5] t)
  rw [Nat.zero_add]
  refine ⟨?_, free_blk hb j⟩
  rw [cell_of_row _ w.heap.size j _ _ (0, 0) hb]
  match j, hj with
  | 0, _ => rfl
  | 1, _ => rfl
  | 2, _ => rfl
  | 3, _ => rfl
  | 4, _ => rfl
  | 5, _ => rfl
theorem there_later {w w' : World} {b o n : Nat} (h : w.there b o n) (hb : Below w.heap.size w w') : w'.there b o n := by
  intro j hj
  obtain ⟨h1, h2⟩ := h j hj
  obtain ⟨v, hv⟩ := Option.isSome_iff_exists.1 h1
  have hl := World.block_lt_of_cell? w _ hv
  rw [hb.cell hl, hb.frozen hl]
  exact ⟨h1, h2⟩
theorem there_past {w : World} {b o n : Nat} (h : w.there b o n) : ∀ ob, (w.alloc ob).there b o n := fun ob => World.there_alloc h ob
theorem there_set {w : World} {b o n : Nat} (h : w.there b o n) (a : Addr) (v : Value) : (w.setCell a v).there b o n := by
  intro j hj
  obtain ⟨h1, h2⟩ := h j hj
  obtain ⟨u, hu⟩ := Option.isSome_iff_exists.1 h1
  obtain ⟨u', hu'⟩ := cell?_setCell_some (w := w) (p := a) (x := v) (q := ⟨b, o + j, none⟩) (v := u) hu
  exact ⟨by rw [hu']; rfl, by rw [World.frozen?_setCell]; exact h2⟩
theorem range_ev (w : World) (b : Nat) (k vk n ln : Int) (s key : ByteArray) (h : w.there b 0 6) : ((((((w.setCell ⟨b, 0, none⟩ (.int .i64 k)).setCell ⟨b, 1, none⟩ (.string s)).setCell ⟨b, 2, none⟩ (.string key)).setCell ⟨b, 3, none⟩ (.int .i64 vk)).setCell ⟨b, 4, none⟩ (.int .i64 n)).setCell ⟨b, 5, none⟩ (.int .i64 ln)).rangeAt b 0 [.int .i64 k, .string s, .string key, .int .i64 vk, .int .i64 n, .int .i64 ln] :=
  World.rangeAt_setCells_same w b 0 [.int .i64 k, .string s, .string key, .int .i64 vk, .int .i64 n, .int .i64 ln] h
/-- An event that was just stored is loaded. -/
theorem load_ev (w : World) (b : Nat) (k vk n ln : Int) (s key : ByteArray) (h : w.there b 0 6) : (Instr.loadAt 37 (.pointer (some ⟨b, 0, none⟩))).run Tryd.prog ((((((w.setCell ⟨b, 0, none⟩ (.int .i64 k)).setCell ⟨b, 1, none⟩ (.string s)).setCell ⟨b, 2, none⟩ (.string key)).setCell ⟨b, 3, none⟩ (.int .i64 vk)).setCell ⟨b, 4, none⟩ (.int .i64 n)).setCell ⟨b, 5, none⟩ (.int .i64 ln)) = .ok (.agg #[.int .i64 k, .string s, .string key, .int .i64 vk, .int .i64 n, .int .i64 ln]) ((((((w.setCell ⟨b, 0, none⟩ (.int .i64 k)).setCell ⟨b, 1, none⟩ (.string s)).setCell ⟨b, 2, none⟩ (.string key)).setCell ⟨b, 3, none⟩ (.int .i64 vk)).setCell ⟨b, 4, none⟩ (.int .i64 n)).setCell ⟨b, 5, none⟩ (.int .i64 ln)) :=
  run_loadAt_mid _ b 0 37 [.int .i64 k, .string s, .string key, .int .i64 vk, .int .i64 n, .int .i64 ln] _ (range_ev w b k vk n ln s key h) Tryd.underlying37 rfl (by kernel_rfl)
theorem loadVar_ev (w : World) (b : Nat) (k vk n ln : Int) (s key : ByteArray) (h : w.there b 0 6) : (loadVar 37 ⟨b, 0, none⟩).run Tryd.prog ((((((w.setCell ⟨b, 0, none⟩ (.int .i64 k)).setCell ⟨b, 1, none⟩ (.string s)).setCell ⟨b, 2, none⟩ (.string key)).setCell ⟨b, 3, none⟩ (.int .i64 vk)).setCell ⟨b, 4, none⟩ (.int .i64 n)).setCell ⟨b, 5, none⟩ (.int .i64 ln)) = .ok (.agg #[.int .i64 k, .string s, .string key, .int .i64 vk, .int .i64 n, .int .i64 ln]) ((((((w.setCell ⟨b, 0, none⟩ (.int .i64 k)).setCell ⟨b, 1, none⟩ (.string s)).setCell ⟨b, 2, none⟩ (.string key)).setCell ⟨b, 3, none⟩ (.int .i64 vk)).setCell ⟨b, 4, none⟩ (.int .i64 n)).setCell ⟨b, 5, none⟩ (.int .i64 ln)) :=
  run_loadVar_mid _ b 0 37 [.int .i64 k, .string s, .string key, .int .i64 vk, .int .i64 n, .int .i64 ln] _ (range_ev w b k vk n ln s key h) Tryd.underlying37 rfl (by kernel_rfl)
theorem below_setCells {B : Nat} {w w' : World} (h : Below B w w') {b : Nat} (hb : B ≤ b) : ∀ (vs : List Value) (o : Nat), Below B w (w'.setCells b o vs)
  | [], _ => h
  | v :: vs, o => below_setCells (h.setCell (p := ⟨b, o, none⟩) hb v) hb vs (o + 1)
theorem there_set' {w : World} {b n : Nat} {a : Addr} {v : Value} (h : w.there b 0 n) : (w.setCell a v).there b 0 n ↔ True := iff_true_intro (there_set h a v)
end Go.Proofs.YtphhgdgamnogpaaDoor
