/-
  What an argument's reading says of its cells: slices of whatever element. No conditions.
  An event as an argument; a table of texts as its initialiser lays it. No conditions.
-/
import Derived.Test.YtphhgdgamnogpaaDoorBase
import Derived.Deep.Slices
import Derived.ChangeSame
import Derived.Test.YtphhgdgamnogpaaDoorRowKit
import Derived.Test.YtphhgdgamnogpaaDoorEvD
import Derived.Lib.LaidU8
namespace Go.Proofs.YtphhgdgamnogpaaDoor
open Go.ChangeShapes Go.WideShapes Go.RowKit

/-- A slice of elements, each of so many cells that read as R says. -/
def SlR {α : Type} (size : Nat) (R : World → List Value → α → Prop) (w : World) (v : Value) (L : List α) : Prop :=
  ∃ p cap, v = .slice p L.length cap ∧ L.length ≤ cap ∧ cap ≤ maxLen ∧ ∀ (j : Nat) (hj : j < L.length), ∃ (a : Addr) (cs : List Value), p = some a ∧ cs.length = size ∧ (∀ (i : Nat) (u : Value), cs[i]? = some u → w.cell? (a.add (j * size + i)) = some u) ∧ R w cs L[j]
theorem SlR.below {α : Type} {size : Nat} {R : World → List Value → α → Prop} (hR : ∀ w w' cs m, Below w.heap.size w w' → R w cs m → R w' cs m) {w w' : World} {v : Value} {L : List α} (h : SlR size R w v L) (hb : Below w.heap.size w w') : SlR size R w' v L := by
  obtain ⟨p, cap, hv, hl, hm, hc⟩ := h
  refine ⟨p, cap, hv, hl, hm, fun j hj => ?_⟩
  obtain ⟨a, cs, hp, hs, h1, h2⟩ := hc j hj
  exact ⟨a, cs, hp, hs, fun i u hu => cell_later hb (h1 i u hu), hR _ _ _ _ hb h2⟩
theorem SlR.mono {α : Type} {size : Nat} {R R' : World → List Value → α → Prop} {w : World} {v : Value} {L : List α} (h : SlR size R w v L) (hR : ∀ cs m, m ∈ L → R w cs m → R' w cs m) : SlR size R' w v L := by
  obtain ⟨p, cap, hv, hl, hm, hc⟩ := h
  refine ⟨p, cap, hv, hl, hm, fun j hj => ?_⟩
  obtain ⟨a, cs, hp, hs, h1, h2⟩ := hc j hj
  exact ⟨a, cs, hp, hs, h1, hR _ _ (List.getElem_mem hj) h2⟩

theorem pick_lt {β : Type} [Nonempty β] {n : Nat} {p : Nat → β → Prop} (h : ∀ i, i < n → ∃ b, p i b) : ∃ f : Nat → β, ∀ i, i < n → p i (f i) := by
  refine ⟨fun i => if hi : i < n then Classical.choose (h i hi) else Classical.choice inferInstance, fun i hi => ?_⟩
  simp only [dif_pos hi]
  exact Classical.choose_spec (h i hi)

section
variable {H : Type} {enc : TypeId × Value → H} {P : Program} {w : World} {base : Nat} {spare : Nat → Bool} {held : Bool}
theorem open_slR {α : Type} [Nonempty α] {size : Nat} {R : World → List Value → α → Prop} {t e : TypeId} {fuel : Nat} {cs : List Value} {x : DataW H × List MemPlace} (ht : P.underlying t = some (.slice e)) (hc : P.cellsOf e = size)
    (hR : ∀ n cs y, DataW.trod enc P w base spare held n e cs = some y → ∃ m, R w cs m) (h : DataW.trod enc P w base spare held fuel t cs = some x) : ∃ v L, cs = [v] ∧ SlR size R w v L := by
  rcases Go.Deep.open_slice ht h with ⟨rfl, -⟩ | ⟨a, len, cap, m, n, D, Pl, rfl, -, hl, hm, hmm, -, hi⟩
  · exact ⟨_, [], rfl, none, 0, rfl, Nat.le_refl _, Nat.zero_le _, fun j hj => absurd hj (Nat.not_lt_zero j)⟩
  · have hle : len ≤ m := by rw [hmm]; split <;> omega
    obtain ⟨M, hM⟩ := pick_lt (β := α) (n := len) (p := fun i m => ∃ cs', cs'.length = size ∧ (∀ (i' : Nat) (u : Value), cs'[i']? = some u → w.cell? (a.add (i * size + i')) = some u) ∧ R w cs' m) (fun i hil => by
      obtain ⟨cs', h1, h2⟩ := hi i (by omega)
      rw [hc] at h1
      obtain ⟨_, hlen, hat⟩ := World.cells?_some h1
      obtain ⟨m', hm'⟩ := hR _ _ _ h2
      refine ⟨m', cs', hlen, fun i' u hu => ?_, hm'⟩
      have hi' : i' < size := by
        have := (List.getElem?_eq_some_iff.1 hu).1
        omega
      rw [← Go.Deep.add_add, hat i' hi', hu])
    refine ⟨_, (List.range len).map M, rfl, some a, cap, by simp, by simpa using hl, hm, fun j hj => ?_⟩
    have hj' : j < len := by simpa using hj
    obtain ⟨cs', h1, h2, h3⟩ := hM j hj'
    exact ⟨a, cs', rfl, h1, h2, by simpa using h3⟩
theorem trod_len {fs : Array Field} {t : TypeId} {fuel : Nat} {cs : List Value} {x : DataW H × List MemPlace} (ht : P.underlying t = some (.struct fs)) (h : DataW.trod enc P w base spare held fuel t cs = some x) : cs.length = P.cellsOf t := by
  obtain ⟨xs, n, -, -, hl, -, -⟩ := DataW.trod_struct ht h
  exact hl
/-- A struct's field, by its number, where it begins, its type and its size. -/
theorem trod_at {fs : Array Field} {t : TypeId} {fuel : Nat} {cs : List Value} {x : DataW H × List MemPlace} (i o : Nat) (ty : TypeId) (s : Nat) {f : Field} (ht : P.underlying t = some (.struct fs)) (h : DataW.trod enc P w base spare held fuel t cs = some x) (hi : fs[i]? = some f) (ho : f.offset = o) (hty : f.type = ty) (hs : P.cellsOf ty = s) :
    ∃ n y, DataW.trod enc P w base spare held n ty ((cs.drop o).take s) = some y := by
  obtain ⟨xs, n, -, -, hl, hlen, hf⟩ := DataW.trod_struct ht h
  refine ⟨n, xs[i]'(by rw [hlen]; exact (Array.getElem?_eq_some_iff.1 hi).1), ?_⟩
  have := hf i f hi
  subst ho hty hs
  rw [this]
  simp
end
end Go.Proofs.YtphhgdgamnogpaaDoor

namespace Go.Proofs.YtphhgdgamnogpaaDoor
open Go.ChangeShapes Go.WideShapes Go.ChangeAt Go.RowKit Go.Joins Go.Lib

def evCells (x : EventM) : List Value := [.int .i64 x.1, .string (bs x.2.1), .string (bs x.2.2.1), .int .i64 x.2.2.2.1, .int .i64 x.2.2.2.2.1, .int .i64 x.2.2.2.2.2]
/-- An event's cells as an argument's: the texts' lengths and the number are Go's. -/
def EvR (_ : World) (cs : List Value) (x : EventM) : Prop := cs = evCells x ∧ x.2.1.length ≤ 9223372036854775807 ∧ x.2.2.1.length ≤ 9223372036854775807 ∧ -9223372036854775808 ≤ x.2.2.2.2.1 ∧ x.2.2.2.2.1 ≤ 9223372036854775807
section
variable {H : Type} {enc : TypeId × Value → H} {w : World} {base : Nat} {spare : Nat → Bool} {held : Bool}
theorem str_of {s : ByteArray} (hs : s.size ≤ maxLen) : s.data.toList.length ≤ 9223372036854775807 := by
  unfold maxLen at hs
  rw [Lib.size_eq] at hs
  exact hs
set_option maxRecDepth 100000 in
theorem open_event {n : Nat} {cs : List Value} {y : DataW H × List MemPlace} (h : DataW.trod enc Tryd.prog w base spare held n 37 cs = some y) : ∃ x, EvR w cs x := by
  have hl := trod_len Tryd.underlying37 h
  obtain ⟨n0, y0, h0⟩ := trod_at 0 0 3 1 Tryd.underlying37 h rfl rfl rfl (by kernel_rfl)
  obtain ⟨n1, y1, h1⟩ := trod_at 1 1 9 1 Tryd.underlying37 h rfl rfl rfl (by kernel_rfl)
  obtain ⟨n2, y2, h2⟩ := trod_at 2 2 9 1 Tryd.underlying37 h rfl rfl rfl (by kernel_rfl)
  obtain ⟨n3, y3, h3⟩ := trod_at 3 3 35 2 Tryd.underlying37 h rfl rfl rfl (by kernel_rfl)
  obtain ⟨n4, y4, h4⟩ := trod_at 4 5 3 1 Tryd.underlying37 h rfl rfl rfl (by kernel_rfl)
  have hl3 := trod_len Tryd.underlying35 h3
  obtain ⟨m0, z0, g0⟩ := trod_at 0 0 3 1 Tryd.underlying35 h3 rfl rfl rfl (by kernel_rfl)
  obtain ⟨m1, z1, g1⟩ := trod_at 1 1 2 1 Tryd.underlying35 h3 rfl rfl rfl (by kernel_rfl)
  obtain ⟨k, hk, -, -⟩ := DataW.trod_int Tryd.underlying3 h0
  obtain ⟨s, hs, -, ls⟩ := DataW.trod_string Tryd.underlying9 h1
  obtain ⟨key, hkey, -, lk⟩ := DataW.trod_string Tryd.underlying9 h2
  obtain ⟨vk, hvk, -, -⟩ := DataW.trod_int Tryd.underlying3 g0
  obtain ⟨vn, hvn, -, wn⟩ := DataW.trod_int Tryd.underlying2 g1
  obtain ⟨ln, hln, -, -⟩ := DataW.trod_int Tryd.underlying3 h4
  have hb := wf_bounds wn
  rw [show Tryd.prog.cellsOf 37 = 6 by kernel_rfl] at hl
  match cs, hl with
  | [c0, c1, c2, c3, c4, c5], _ =>
    simp at hk hs hkey hvk hvn hln
    refine ⟨(k, s.data.toList, key.data.toList, vk, vn, ln), ?_, str_of ls, str_of lk, hb.1, hb.2⟩
    simp only [evCells, hk, hs, hkey, hvk, hvn, hln, ← bs_data]
set_option maxRecDepth 100000 in
theorem open_ev {r : Reach} {b0 : Nat} {v : Value} {d : DataW H} {ps : List MemPlace} (hval : Value.okWide Tryd.prog w r b0 37 v) (hd : DataW.Trod enc Tryd.prog w base spare held 37 v d ps) :
    ∃ k s key vk n ln, v = .agg #[.int .i64 k, .string (bs s), .string (bs key), .int .i64 vk, .int .i64 n, .int .i64 ln] ∧ s.length ≤ 9223372036854775807 ∧ key.length ≤ 9223372036854775807 ∧ -9223372036854775808 ≤ n ∧ n ≤ 9223372036854775807 := by
  obtain ⟨cs, rfl, -⟩ := okWide_struct Tryd.underlying37 hval
  obtain ⟨fuel, hf⟩ := hd
  obtain ⟨x, hx, h1, h2, h3, h4⟩ := open_event hf
  refine ⟨x.1, x.2.1, x.2.2.1, x.2.2.2.1, x.2.2.2.2.1, x.2.2.2.2.2, ?_, h1, h2, h3, h4⟩
  have e : cs.toList = evCells x := hx
  obtain ⟨l⟩ := cs
  simp only at e
  rw [e]
  rfl
end
/-- A table of texts, out of what it reads as. -/
theorem strs_of_reads {P : Program} {W : World} {name : String} {g : Nat} {t e : TypeId} {L : List (List UInt8)} (hn : P.globalNamed name = some g) (hty : (P.globals[g]?).map (·.type) = some t) (ht : P.underlying t = some (.array L.length e)) (he : P.underlying e = some .string) (hce : P.cellsOf e = 1)
    (h : VarReads P W name (.agg (L.map fun l => .lit (.string l)))) : ∀ i, i < L.length → W.cell? ⟨g, i, none⟩ = some (.string (bs (L.getD i []))) := by
  intro i hi
  obtain ⟨g', t', cs, fuel, p, hg, hty', hvar, hd⟩ := h
  obtain rfl := Option.some.inj (hn.symm.trans hg)
  obtain rfl := Option.some.inj (hty.symm.trans hty')
  obtain ⟨fuel', d, q, hdi, hel⟩ := array_elem ht hd i hi
  rw [hce, Nat.mul_one] at hel
  obtain ⟨s, hs, hx, -⟩ := DataW.trod_string he hel
  rw [World.var?_cell hg hvar i, ← Array.getElem?_toList]
  have h1 := congrArg (fun x : List Value => x[0]?) hs
  simp only [List.getElem?_take, List.getElem?_drop] at h1
  have h2 : (DataW.lit (.string (L.getD i [])) : DataW Unit) = .lit (.string s.data.toList) := by
    have h3 := congrArg Prod.fst hx
    simp only at h3
    rw [← h3]
    rw [List.getElem?_map, List.getElem?_eq_getElem hi] at hdi
    simp only [Option.map_some, Option.some.injEq] at hdi
    rw [← hdi]
    simp [hi]
  injection h2 with h2
  injection h2 with h2
  rw [h2, ← bs_data]
  simpa using h1
end Go.Proofs.YtphhgdgamnogpaaDoor
