/-
  Small lemmas on worlds that the walks of this seat share. No conditions.
  What an argument's reading says of its cells: slices of whatever element. No conditions.
  Blocks of cells known whole: made, kept, stored into; rows of a call's own against them. No conditions.
  Which values may be, in plain words. No conditions.
  A history as an argument: what its reading says of its cells; rows of a call's own as histories' parts. No conditions.
  Type assertions on a cell's value, as closed facts of the program's own tables. No conditions.
  The step from a law's walk ('returns true; all memory that was there stands as it stood') to its row, for whatever arguments. No conditions.
  Layers 16 and 17 (world, whole) in plain words: worlds of a history, who committed, a history made whole by a world, the world by which; that it is whole, and that the world is told back; no program in sight. No conditions.
  A world of a history (fates, and lost values) as a value: an argument's, and one of the call's own. No conditions.
-/
import Derived.Test.YtldcbapjiflblaaRows
import Derived.Handy
import Derived.WalkSpells
import Derived.WalkLawsBesides
import Derived.Deep.RegionHeld3
import Derived.Deep.DrawnRows
import Derived.Lib.Hide
import Derived.Lib.Strings
import Derived.Lib.SmallJoins
import Derived.Deep.QuietTactic
import Derived.Deep.RegionWith
import Derived.BigQuiet
import Derived.Deep.Slices
import Derived.ChangeSame
import Derived.Lib.ValidLaws
import Derived.Lib.MapLaws
import GoSem.Conv.StringToRunes
import Derived.Lib.DecodeN
import Derived.Lib.RuneBytes
import Derived.Lib.SlicesCompact
import Derived.Sort.Statements
import Derived.WalkKit
import Derived.Laws.AppendOwn
import Derived.ProofKit
import Derived.OpenShut
import Derived.SizedLaws
import Derived.Laws.IdiomStrings
import Derived.Test.YtldcbapjiflblaaProg
import Derived.Laws.RangeAny
import Derived.Lib.RowBridge
import Derived.Deep.AppendLies
import Derived.OwnWalk
import Derived.SliceStrings
import Derived.Lib.SliceRun
import Derived.Laws.OwnMore
import Derived.RangeFuncNested
import Derived.RangeFuncBound
import Derived.RangeFuncCalls
import Derived.RangeFuncLeaves
import Derived.Shelf.Abstract
import Derived.Shelf.RegionOpen
import Derived.OwnWalkIn
import Derived.TacticsInMore
import Derived.LoopNIn
import Derived.LoopIn
import Derived.Maps.OwnIn
import Derived.Maps.OwnSet
import Derived.Maps.Views
import Derived.RangeFuncBox
import Derived.Maps.AppendAt
import Derived.WalkArith
import Derived.Outline
import Derived.OrdersHeld
import Derived.Deep.DeepCutAuto
import Derived.Deep.CutBlock
namespace Go.Proofs.Ytldcbapjiflblaa
section
open Go.RowKit
theorem sq0 {α : Type _} (l : List α) (i : Nat) (a : α) : l.toArray.setIfInBounds i a = (l.set i a).toArray := List.setIfInBounds_toArray l i a
theorem sq1 {α : Type _} {x a : α} {l : List α} : (x :: l).set 0 a = a :: l := rfl
theorem sq2 {α : Type _} {x a : α} {l : List α} {n : Nat} : (x :: l).set (n + 1) a = x :: l.set n a := rfl
theorem sq : (∀ (α : Type) (l : List α) (i : Nat) (a : α), l.toArray.setIfInBounds i a = (l.set i a).toArray) ∧ (∀ (α : Type) (x a : α) (l : List α), (x :: l).set 0 a = a :: l) ∧ ∀ (α : Type) (x a : α) (l : List α) (n : Nat), (x :: l).set (n + 1) a = x :: l.set n a :=
 ⟨fun _ l i a => sq0 l i a, fun _ _ _ _ => rfl, fun _ _ _ _ _ => rfl⟩
theorem cell_past {w : World} {a : Addr} {v : Value} (o : Obj) (h : w.cell? a = some v) : (w.alloc o).cell? a = some v :=
 cell_later ((Below.refl _ _).alloc (Nat.le_refl _) o) h
theorem cell_drew {w : World} {a : Addr} {v : Value} (h : w.cell? a = some v) : w.drew.cell? a = some v := h
theorem below_next {w a b : World} (h : Below w.heap.size w a) (k : Below a.heap.size a b) : Below w.heap.size w b := h.trans (k.mono h.size)
theorem bel {n : Nat} {w a : World} (h : Below n w a := by (repeat' (first | (with_reducible exact Below.refl _ _) | (with_reducible assumption) | (refine below_next ?_ (by with_reducible assumption)) | (with_reducible refine Below.alloc ?_ ?_ _) | (with_reducible refine Below.drew ?_) | (with_reducible refine below_drewN ?_ _) | omega | (simp; done) | (simp; omega)))) : Below n w a := h
theorem bes {n : Nat} {w a : World} (h : Below n w a := by (repeat' (first | (with_reducible exact Below.refl _ _) | (with_reducible assumption) | (refine below_next ?_ (by with_reducible assumption)) | (with_reducible refine Below.setCell ?_ ?_ _) | (with_reducible refine Below.alloc ?_ ?_ _) | (with_reducible refine Below.drew ?_) | (with_reducible refine below_drewN ?_ _) | omega | (simp; done) | (simp; omega)))) : Below n w a := h
theorem bcell {W w1 : World} (hb : Below W.heap.size W w1) : (∀ b o, b < W.heap.size → w1.cell? ⟨b, o, none⟩ = W.cell? ⟨b, o, none⟩) ∧ (∀ b o, b < W.heap.size → w1.frozen? ⟨b, o, none⟩ = W.frozen? ⟨b, o, none⟩) :=
 ⟨fun b o h => hb.cell (p := ⟨b, o, none⟩) h, fun b o h => hb.frozen (p := ⟨b, o, none⟩) h⟩
def bs (l : List UInt8) : ByteArray := ⟨l.toArray⟩
theorem bs_data (s : ByteArray) : s = bs s.data.toList := by
 obtain ⟨⟨l⟩⟩ := s
 rfl
theorem bs_inj {a b : List UInt8} (h : bs a = bs b) : a = b := by
 have := congrArg (fun s : ByteArray => s.data.toList) h
 simpa [bs] using this
theorem bs_size (l : List UInt8) : (bs l).size = l.length := by simp [bs, ByteArray.size]
theorem bs_toList (l : List UInt8) : (bs l).toList = l := by rw [Lib.toList_data]; simp [bs]
theorem bs_extract (l : List UInt8) (a b : Nat) : (bs l).extract a b = bs ((l.drop a).take (b - a)) := by
 have h := Lib.extract_data (bs l) a b
 rw [bs_data ((bs l).extract a b), h]; simp [bs]
theorem bs_append (a b : List UInt8) : bs a ++ bs b = bs (a ++ b) := by
 rw [bs_data (bs a ++ bs b), Joins.data_append]; simp [bs]
theorem bs_get (l : List UInt8) (i : Nat) (h : i < (bs l).size) : (bs l)[i] = l[i]'(by rw [bs_size] at h; exact h) := by
 rfl
attribute [go_sem] bs_size bs_toList bs_extract bs_append bs_get
theorem str_const (l : List UInt8) : (Value.string { data := l.toArray }) = Value.string (bs l) := rfl
structure Later (W : World) where
 w : World
 h : Below W.heap.size W w
instance (W : World) : Nonempty (Later W) := ⟨⟨W, Below.refl _ _⟩⟩
theorem Later.cell {W : World} (x : Later W) (b o : Nat) (hb : b < W.heap.size) : x.w.cell? ⟨b, o, none⟩ = W.cell? ⟨b, o, none⟩ := x.h.cell (p := ⟨b, o, none⟩) hb
theorem Later.frozen {W : World} (x : Later W) (b o : Nat) (hb : b < W.heap.size) : x.w.frozen? ⟨b, o, none⟩ = W.frozen? ⟨b, o, none⟩ := x.h.frozen (p := ⟨b, o, none⟩) hb
theorem Later.call {P : Program} {f : FuncId} {args : Array Value} {W : World} {x : Later W} {v : Value}
  (h : Calls P f args x.w fun e w' => e = .returned v ∧ Below x.w.heap.size x.w w') : Calls P f args x.w fun e w'' => e = .returned v ∧ ∃ m : Later W, w'' = m.w :=
 h.mono fun _ w' ⟨he, hm⟩ => ⟨he, ⟨w', below_next x.h hm⟩, rfl⟩
theorem wp_region_later {P : Program} {id : Nat} {Q : Exit → Act → World → Prop} {a : Act} {w : World} {l : List Oper} (hm : P.follows .mixedOrders = true) (hB : Region.lexB .any l.toArray = true)
  (h : wpQuiet P l.toArray (fun w' => ∃ x : Later w, w' = x.w) (fun a' => ∀ w', (∃ x : Later w, w' = x.w) → Q .normal a' w') l a) : (Code.region id l.toArray true).wp P Q a w :=
 wp_region_quiet (C := fun w' => ∃ x : Later w, w' = x.w) hm hB ⟨⟨w.drew, (Below.refl _ _).drew⟩, rfl⟩ (by simpa using h)
end
section
open Go.ChangeShapes Go.WideShapes Go.RowKit
def SlR {α : Type} (size : Nat) (R : World → List Value → α → Prop) (w : World) (v : Value) (L : List α) : Prop :=
 ∃ p cap, v = .slice p L.length cap ∧ L.length ≤ cap ∧ cap ≤ maxLen ∧ ∀ (j : Nat) (hj : j < L.length), ∃ (a : Addr) (cs : List Value), p = some a ∧ cs.length = size ∧ (∀ (i : Nat) (u : Value), cs[i]? = some u → w.cell? (a.add (j * size + i)) = some u) ∧ R w cs L[j]
theorem SlR.below {α : Type} {size : Nat} {R : World → List Value → α → Prop} (hR : ∀ w w' cs m, Below w.heap.size w w' → R w cs m → R w' cs m) {w w' : World} {v : Value} {L : List α} (h : SlR size R w v L) (hb : Below w.heap.size w w') : SlR size R w' v L := by
 obtain ⟨p, cap, hv, hl, hm, hc⟩ := h
 refine ⟨p, cap, hv, hl, hm, fun j hj => ?_⟩
 obtain ⟨a, cs, hp, hs, h1, h2⟩ := hc j hj
 exact ⟨a, cs, hp, hs, fun i u hu => cell_later hb (h1 i u hu), hR _ _ _ _ hb h2⟩
theorem SlR.mono {α : Type} {size : Nat} {R R' : World → List Value → α → Prop} {w : World} {v : Value} {L : List α} (h : SlR size R w v L) (hR : ∀ cs m, m ∈ L → R w cs m → R' w cs m) : SlR size R' w v L := by
 obtain ⟨p, cap, hv, hl, hm, hc⟩ := h
 refine ⟨p, cap, hv, hl, hm, fun j hj => ?_⟩
 obtain ⟨a, cs, hp, hs, h1, h2⟩ := hc j hj
 exact ⟨a, cs, hp, hs, h1, hR _ _ (List.getElem_mem hj) h2⟩
theorem pick_lt {β : Type} [Nonempty β] {n : Nat} {p : Nat → β → Prop} (h : ∀ i, i < n → ∃ b, p i b) : ∃ f : Nat → β, ∀ i, i < n → p i (f i) := by
 refine ⟨fun i => if hi : i < n then Classical.choose (h i hi) else Classical.choice inferInstance, fun i hi => ?_⟩
 simp only [dif_pos hi]
 exact Classical.choose_spec (h i hi)
section
variable {H : Type} {enc : TypeId × Value → H} {P : Program} {w : World} {base : Nat} {spare : Nat → Bool} {held : Bool}
theorem open_slR {α : Type} [Nonempty α] {size : Nat} {R : World → List Value → α → Prop} {t e : TypeId} {fuel : Nat} {cs : List Value} {x : DataW H × List MemPlace} (ht : P.underlying t = some (.slice e)) (hc : P.cellsOf e = size)
  (hR : ∀ n cs y, DataW.trod enc P w base spare held n e cs = some y → ∃ m, R w cs m) (h : DataW.trod enc P w base spare held fuel t cs = some x) : ∃ v L, cs = [v] ∧ SlR size R w v L := by
 rcases Go.Deep.open_slice ht h with ⟨rfl, -⟩ | ⟨a, len, cap, m, n, D, Pl, rfl, -, hl, hm, hmm, -, hi⟩
 ·exact ⟨_, [], rfl, none, 0, rfl, Nat.le_refl _, Nat.zero_le _, fun j hj => absurd hj (Nat.not_lt_zero j)⟩
 ·have hle : len ≤ m := by rw [hmm]; split <;> omega
  obtain ⟨M, hM⟩ := pick_lt (β := α) (n := len) (p := fun i m => ∃ cs', cs'.length = size ∧ (∀ (i' : Nat) (u : Value), cs'[i']? = some u → w.cell? (a.add (i * size + i')) = some u) ∧ R w cs' m) (fun i hil => by
   obtain ⟨cs', h1, h2⟩ := hi i (by omega)
   rw [hc] at h1
   obtain ⟨_, hlen, hat⟩ := World.cells?_some h1
   obtain ⟨m', hm'⟩ := hR _ _ _ h2
   refine ⟨m', cs', hlen, fun i' u hu => ?_, hm'⟩
   have hi' : i' < size := by
    have := (List.getElem?_eq_some_iff.1 hu).1
    omega
   rw [← Go.Deep.add_add, hat i' hi', hu])
  refine ⟨_, (List.range len).map M, rfl, some a, cap, by simp, by simpa using hl, hm, fun j hj => ?_⟩
  have hj' : j < len := by simpa using hj
  obtain ⟨cs', h1, h2, h3⟩ := hM j hj'
  exact ⟨a, cs', rfl, h1, h2, by simpa using h3⟩
theorem trod_len {fs : Array Field} {t : TypeId} {fuel : Nat} {cs : List Value} {x : DataW H × List MemPlace} (ht : P.underlying t = some (.struct fs)) (h : DataW.trod enc P w base spare held fuel t cs = some x) : cs.length = P.cellsOf t := by
 obtain ⟨xs, n, -, -, hl, -, -⟩ := DataW.trod_struct ht h
 exact hl
theorem trod_at {fs : Array Field} {t : TypeId} {fuel : Nat} {cs : List Value} {x : DataW H × List MemPlace} (i o : Nat) (ty : TypeId) (s : Nat) {f : Field} (ht : P.underlying t = some (.struct fs)) (h : DataW.trod enc P w base spare held fuel t cs = some x) (hi : fs[i]? = some f) (ho : f.offset = o) (hty : f.type = ty) (hs : P.cellsOf ty = s) :
  ∃ n y, DataW.trod enc P w base spare held n ty ((cs.drop o).take s) = some y := by
 obtain ⟨xs, n, -, -, hl, hlen, hf⟩ := DataW.trod_struct ht h
 refine ⟨n, xs[i]'(by rw [hlen]; exact (Array.getElem?_eq_some_iff.1 hi).1), ?_⟩
 have := hf i f hi
 subst ho hty hs
 rw [this]
 simp
end
end
section
open Go.RowKit
def Blk (w : World) (B : Nat) (t : TypeId) (cs : List Value) : Prop := w.heap[B]? = some (.cells cs.toArray t (0, 0))
theorem Blk.lt {w : World} {B : Nat} {t : TypeId} {cs : List Value} (h : Blk w B t cs) : B < w.heap.size := (Array.getElem?_eq_some_iff.1 h).1
theorem Blk.cell {w : World} {B : Nat} {t : TypeId} {cs : List Value} (h : Blk w B t cs) (i : Nat) {v : Value} (hi : cs[i]? = some v) : w.cell? ⟨B, i, none⟩ = some v := by
 rw [cell_of_row w B i cs.toArray t (0, 0) h]
 simpa using hi
theorem Blk.frozen {w : World} {B : Nat} {t : TypeId} {cs : List Value} (h : Blk w B t cs) (i : Nat) : w.frozen? ⟨B, i, none⟩ = false := by
 have h' : w.heap[B]? = some (.cells cs.toArray t (0, 0)) := h
 simp [World.frozen?, h']
theorem Blk.new (w : World) (t : TypeId) (cs : List Value) : Blk (w.alloc (.cells cs.toArray t)) w.heap.size t cs := heap_alloc_new w _
theorem Blk.kept {w w' : World} {row : Option Nat} {B : Nat} {t : TypeId} {cs : List Value} (h : Blk w B t cs) (hg : w.grownBy w' row) (hne : some B ≠ row) : Blk w' B t cs := (hg.block B h.lt hne).trans h
theorem Blk.alloc {w : World} {B : Nat} {t : TypeId} {cs : List Value} (h : Blk w B t cs) (o : Obj) : Blk (w.alloc o) B t cs := h.kept (World.grownBy_alloc w o none) (by simp)
theorem Blk.drew {w : World} {B : Nat} {t : TypeId} {cs : List Value} (h : Blk w B t cs) : Blk w.drew B t cs := h
theorem Blk.drewN {w : World} {B : Nat} {t : TypeId} {cs : List Value} (h : Blk w B t cs) (n : Nat) : Blk (w.drewN n) B t cs := h
theorem Blk.below {w w' : World} {B n : Nat} {t : TypeId} {cs : List Value} (h : Blk w B t cs) (hb : Below n w w') (hn : B < n) : Blk w' B t cs := (hb.block B hn).trans h
theorem Blk.later {w w' : World} {B : Nat} {t : TypeId} {cs : List Value} (h : Blk w B t cs) (hb : Below w.heap.size w w') : Blk w' B t cs := h.below hb h.lt
theorem Blk.set {w : World} {B : Nat} {t : TypeId} {cs : List Value} (h : Blk w B t cs) (i : Nat) (v : Value) : Blk (w.setCell ⟨B, i, none⟩ v) B t (cs.set i v) := by
 have h' : w.heap[B]? = some (.cells cs.toArray t (0, 0)) := h
 simp [Blk, World.setCell, Array.getElem?_modify, h']
theorem Blk.grown {w w' : World} {B base size n : Nat} {t e : TypeId} {cs : List Value} {v : Value} {xs : List Value} (h : Blk w B t cs) (ho : w.ownsRow base e size v n xs) (hB : B < base) (hg : w.grownBy w' v.ownBlock) : Blk w' B t cs :=
 h.kept hg (fun he => by have := (ho.lt B he.symm).1; omega)
theorem news_lit (w : World) (cs : List Value) (e : TypeId) (n : Nat) (hn : n = w.heap.size) : ∀ (j : Nat) (u : Value), cs[j]? = some u → (w.alloc (.cells cs.toArray e)).cell? ((⟨n, 0, none⟩ : Addr).add j) = some u := by
 intro j u hj
 subst hn
 rw [Addr.add_lit, Nat.zero_add]
 exact (Blk.new w e cs).cell j hj
theorem owns_form {w : World} {base size n : Nat} {e : TypeId} {v : Value} {xs : List Value} (h : w.ownsRow base e size v n xs) : ∃ p cap, v = .slice p n cap := by
 rcases h.2 with ⟨rfl, rfl⟩ | ⟨g, cap, cur, rfl, -⟩
 ·exact ⟨_, _, rfl⟩
 ·exact ⟨_, _, rfl⟩
end
section
def mayV (k n : Int) : Bool := k == 1 || ((k == 0 || k == 2) && n == 0)
theorem may_cases (k n : Int) : (k = 1 ∧ mayV k n = true) ∨ (k = 0 ∧ n = 0 ∧ mayV k n = true) ∨ (k = 2 ∧ n = 0 ∧ mayV k n = true) ∨
  (k = 0 ∧ (n == 0) = false ∧ (0 == n) = false ∧ mayV k n = false) ∨ (k = 2 ∧ (n == 0) = false ∧ (0 == n) = false ∧ mayV k n = false) ∨
  ((k == 0) = false ∧ (0 == k) = false ∧ (k == 1) = false ∧ (k == 2) = false ∧ mayV k n = false) := by
 by_cases h1 : k = 1
 ·exact .inl ⟨h1, by simp [mayV, h1]⟩
 by_cases h0 : k = 0
 ·by_cases hn : n = 0
  ·exact .inr (.inl ⟨h0, hn, by simp [mayV, h0, hn]⟩)
  ·exact .inr (.inr (.inr (.inl ⟨h0, by simpa using hn, by simpa using fun h => hn h.symm, by simp [mayV, h0, hn]⟩)))
 by_cases h2 : k = 2
 ·by_cases hn : n = 0
  ·exact .inr (.inr (.inl ⟨h2, hn, by simp [mayV, h2, hn]⟩))
  ·exact .inr (.inr (.inr (.inr (.inl ⟨h2, by simpa using hn, by simpa using fun h => hn h.symm, by simp [mayV, h2, hn]⟩))))
 ·exact .inr (.inr (.inr (.inr (.inr ⟨by simpa using h0, by simpa using fun h => h0 h.symm, by simpa using h1, by simpa using h2, by simp [mayV, h0, h1, h2]⟩))))
end
section
open Go.ChangeShapes Go.WideShapes Go.ChangeAt Go.RowKit Go.Joins
section
variable {H : Type} {enc : TypeId × Value → H} {w : World} {base : Nat} {spare : Nat → Bool} {held : Bool}
theorem open_value {n : Nat} {cs : List Value} {y : DataW H × List MemPlace} (h : DataW.trod enc Try.prog w base spare held n 24 cs = some y) : ∃ k m : Int, cs = [.int .i64 k, .int .i64 m] := by
 have hl := trod_len Try.underlying24 h
 obtain ⟨n0, y0, h0⟩ := trod_at 0 0 3 1 Try.underlying24 h rfl rfl rfl (by kernel_rfl)
 obtain ⟨n1, y1, h1⟩ := trod_at 1 1 2 1 Try.underlying24 h rfl rfl rfl (by kernel_rfl)
 obtain ⟨k, hk, -, -⟩ := DataW.trod_int Try.underlying3 h0
 obtain ⟨m, hm, -, -⟩ := DataW.trod_int Try.underlying2 h1
 rw [show Try.prog.cellsOf 24 = 2 by kernel_rfl] at hl
 match cs, hl with
 | [a, b], _ =>
  simp at hk hm
  exact ⟨k, m, by rw [hk, hm]⟩
end
theorem flat_get {α : Type} (f : α → List Value) (s : Nat) (hf : ∀ x, (f x).length = s) (d : α) : ∀ (L : List α) (j i : Nat), j < L.length → i < s → (L.flatMap f)[j * s + i]? = (f (L.getD j d))[i]?
 | [], j, _, hj, _ => absurd hj (Nat.not_lt_zero j)
 | x :: L, 0, i, _, hi => by
  rw [List.flatMap_cons, Nat.zero_mul, Nat.zero_add, List.getElem?_append_left (by rw [hf]; exact hi)]
  rfl
 | x :: L, j + 1, i, hj, hi => by
  rw [List.flatMap_cons, List.getElem?_append_right (by rw [hf, Nat.add_mul]; omega), hf, show (j + 1) * s + i - s = j * s + i by rw [Nat.add_mul]; omega]
  rw [flat_get f s hf d L j i (by simpa using hj) hi]
  rfl
theorem own_rowK {w : World} {base size n : Nat} {e : TypeId} {v : Value} {xs : List Value} (h : w.ownsRow base e size v n xs) : ∃ p cap, v = .slice p n cap ∧ n ≤ cap ∧ cap ≤ maxLen ∧ ∀ q u, q < n * size → xs[q]? = some u → ∃ g, p = some ⟨g, 0, none⟩ ∧ w.cell? ⟨g, q, none⟩ = some u := by
 obtain ⟨h1, ⟨rfl, rfl⟩ | ⟨g, cap, cur, rfl, -, hw, hc, hm, hs, ht⟩⟩ := h
 ·exact ⟨none, 0, rfl, Nat.le_refl _, Nat.zero_le _, fun q u hq => by omega⟩
 ·refine ⟨_, cap, rfl, hc, hm, fun q u hq hu => ⟨g, rfl, ?_⟩⟩
  have h2 := congrArg (fun x : List Value => x[q]?) ht
  simp only [List.getElem?_take, hq, if_true, Array.getElem?_toList] at h2
  rw [cell_of_row w g q _ _ (0, 0) hw, h2, hu]
end
section
open Go.RowKit
theorem as_nil (t : Nat) (w : World) (h : t = 2 ∨ t = 3) : (Instr.typeAssert .nilIface 20 t true).run Try.prog w = .ok (.tuple #[.int .i64 0, .bool false]) w := by
 rcases h with rfl | rfl <;> kernel_rfl
theorem as_nil_lost (w : World) : (Instr.typeAssert .nilIface 20 51 true).run Try.prog w = .ok (.tuple #[.agg #[], .bool false]) w := by kernel_rfl
theorem as_int64 (v : Value) (w : World) : (Instr.typeAssert (.iface 2 v) 20 2 true).run Try.prog w = .ok (.tuple #[v, .bool true]) w := by kernel_rfl
theorem as_int64_must (v : Value) (w : World) : (Instr.typeAssert (.iface 2 v) 20 2 false).run Try.prog w = .ok v w := by kernel_rfl
theorem as_int (v : Value) (w : World) : (Instr.typeAssert (.iface 3 v) 20 3 true).run Try.prog w = .ok (.tuple #[v, .bool true]) w := by kernel_rfl
theorem as_lost (v : Value) (w : World) : (Instr.typeAssert (.iface 51 v) 20 51 true).run Try.prog w = .ok (.tuple #[v, .bool true]) w := by kernel_rfl
theorem zero_int64 (w : World) : ((do pure (Value.tuple #[← zeroValue 2, .bool false])) : Sem Value).run Try.prog w = .ok (.tuple #[.int .i64 0, .bool false]) w := by kernel_rfl
theorem zero_int (w : World) : ((do pure (Value.tuple #[← zeroValue 3, .bool false])) : Sem Value).run Try.prog w = .ok (.tuple #[.int .i64 0, .bool false]) w := by kernel_rfl
theorem zero_lost (w : World) : ((do pure (Value.tuple #[← zeroValue 51, .bool false])) : Sem Value).run Try.prog w = .ok (.tuple #[.agg #[], .bool false]) w := by kernel_rfl
theorem as_int64_no (u : TypeId) (v : Value) (w : World) (h : (u == 2) = false) : (Instr.typeAssert (.iface u v) 20 2 true).run Try.prog w = .ok (.tuple #[.int .i64 0, .bool false]) w := by
 have e : (Instr.typeAssert (.iface u v) 20 2 true).run Try.prog w = (if u = 2 then (pure (Value.tuple #[v, .bool true]) : Sem Value) else (do pure (Value.tuple #[← zeroValue 2, .bool false]))).run Try.prog w := by kernel_rfl
 rw [e, if_neg (by simpa using h)]; exact zero_int64 w
theorem as_int_no (u : TypeId) (v : Value) (w : World) (h : (u == 3) = false) : (Instr.typeAssert (.iface u v) 20 3 true).run Try.prog w = .ok (.tuple #[.int .i64 0, .bool false]) w := by
 have e : (Instr.typeAssert (.iface u v) 20 3 true).run Try.prog w = (if u = 3 then (pure (Value.tuple #[v, .bool true]) : Sem Value) else (do pure (Value.tuple #[← zeroValue 3, .bool false]))).run Try.prog w := by kernel_rfl
 rw [e, if_neg (by simpa using h)]; exact zero_int w
theorem as_lost_no (u : TypeId) (v : Value) (w : World) (h : (u == 51) = false) : (Instr.typeAssert (.iface u v) 20 51 true).run Try.prog w = .ok (.tuple #[.agg #[], .bool false]) w := by
 have e : (Instr.typeAssert (.iface u v) 20 51 true).run Try.prog w = (if u = 51 then (pure (Value.tuple #[v, .bool true]) : Sem Value) else (do pure (Value.tuple #[← zeroValue 51, .bool false]))).run Try.prog w := by kernel_rfl
 rw [e, if_neg (by simpa using h)]; exact zero_lost w
end
section
open Go.ChangeShapes Go.WideShapes Go.ChangeAt Go.RowKit
theorem Try.own : ownKnob Try.prog.godebug = none := by kernel_rfl
theorem Try.laidOut : laidOutB Try.prog = true := by kernel_rfl
section
variable {H : Type} {enc : TypeId × Value → H} {P : Program}
theorem trodAll_later {W W' : World} (hl : laidOutB P = true) (hb : Below W.heap.size W W') {sp : Nat → Bool} : ∀ (ts : List TypeId) (vs : List Value) (ds : List (DataW H)) (ps : List MemPlace),
  ts.all (fun t => P.readableRec t && decide (t < P.types.size)) = true → DataW.TrodAll enc P W 0 (fun _ => true) true ts vs ds ps → (∀ x ∈ ps, x.block < W.heap.size) → (∀ x ∈ ps, sp x.block = true) →
  DataW.TrodAll enc P W' 0 sp true ts vs ds ps
 | [], vs, ds, ps, _, h, _, _ => by
  obtain ⟨rfl, rfl, rfl⟩ := trodAll_nil h
  exact trodAll_mk0
 | t :: ts, vs, ds, ps, hts, h, hlt, hsp => by
  obtain ⟨v, vs', d, ds', p, q, rfl, rfl, rfl, h0, h1⟩ := trodAll_cons h
  simp only [List.all_cons, Bool.and_eq_true, decide_eq_true_eq] at hts
  exact trodAll_cons_mk
   (WideElems.Trod_stays hl hts.1.1 hts.1.2 h0 (fun x hx => hb.same (hlt x (List.mem_append_left _ hx))) (fun x hx => hsp x (List.mem_append_left _ hx)))
   (trodAll_later hl hb ts vs' ds' q hts.2 h1 (fun x hx => hlt x (List.mem_append_right _ hx)) (fun x hx => hsp x (List.mem_append_right _ hx)))
theorem post_of_below {f : Func} {s : ChangeSpec} {apart fresh handsOn again : Bool}
  {W W' : World} {args : Array Value} {v : Value} {ds gs : List (DataW H)} {before pa pv : List MemPlace}
  (hW : DataW.Whole enc P f.params.toList s.vars apart W args.toList ds gs before)
  (hres : ∀ (b : Nat) (sp : Nat → Bool) (hd : Bool), DataW.TrodAll enc P W' b sp hd f.resultTypes.toList (v.resultList f.resultTypes.size) (s.fn H (ds ++ gs)).results [])
  (hargs : ∀ sp : Nat → Bool, (∀ p ∈ before, sp p.block = true) → DataW.TrodAll enc P W' 0 sp true f.params.toList args.toList (s.fn H (ds ++ gs)).args pa)
  (hvars : ∀ sp : Nat → Bool, (∀ p ∈ before, sp p.block = true) → DataW.TrodVars enc P W' sp s.vars (s.fn H (ds ++ gs)).vars pv)
  (hps : before = pa ++ pv) (hb : Below W.heap.size W W')
  (hok : ∀ (j : Nat) (t : TypeId) (r : Value), f.resultTypes[j]? = some t → (v.resultList f.resultTypes.size)[j]? = some r → Value.okWide P W' .any 0 t r) :
  s.post enc P f apart fresh handsOn again W args v W' := by
 have hlt : ∀ p ∈ before, p.block < W.heap.size := fun p hp => hW.lt p hp
 have hold : ∀ p ∈ before, (fun b => decide (b < W.heap.size)) p.block = true := fun p hp => by simpa using hlt p hp
 refine ⟨ds, gs, before, [], pa, pv, hW, hres _ _ _, hargs _ hold, hvars _ hold, World.keptBut_mono (fun p hp => ⟨hp, ?_⟩) (hb.frame (· ∈ before)), fun _ => ?_⟩
 ·rw [hps, List.mem_append] at hp
  exact Or.inr hp
 ·obtain ⟨_, _, _, _, _, hz, hn⟩ := hW
  refine ⟨hok, _, _, ([] ++ pa) ++ pv, ⟨[] ++ pa, pv, trodAll_append (hargs _ (fun _ _ => rfl)) (hres _ _ _), hvars _ (fun _ _ => rfl), rfl, ?_, ?_⟩, ?_⟩
  ·intro b off hp
   have hin : MemPlace.cell b off ∈ before := by rw [hps]; simpa using hp
   rw [hb.frozen (hlt _ hin)]
   exact hz b off hin
  ·intro ha
   have := hn ha
   rw [hps] at this
   simpa using this
  ·intro p hp _
   rw [hps]
   simpa using hp
theorem law_post {f : Func} {s : ChangeSpec} {tb : TypeId} (hu : P.underlying tb = some .bool) (hl : laidOutB P = true) (hrt : f.resultTypes = #[tb]) (hro : (Value.bool true).resultList 1 = [.bool true])
  (hts : f.params.toList.all (fun t => P.readableRec t && decide (t < P.types.size)) = true)
  {W W' : World} {args : Array Value} {ds : List (DataW H)} {before : List MemPlace} (hvs : s.vars = [])
  (hW : DataW.Whole enc P f.params.toList s.vars false W args.toList ds [] before)
  (hA : DataW.TrodAll enc P W 0 (fun _ => true) true f.params.toList args.toList ds before)
  (hres : (s.fn H (ds ++ [])).results = [.lit (.bool true)]) (hargs : (s.fn H (ds ++ [])).args = ds) (hvars : (s.fn H (ds ++ [])).vars = []) (hb : Below W.heap.size W W') :
  s.post enc P f false true false false W args (.bool true) W' := by
 have hlt : ∀ p ∈ before, p.block < W.heap.size := fun p hp => hW.lt p hp
 refine post_of_below (pa := before) (pv := []) hW (fun b sp hd => ?_) (fun sp hsp => ?_) (fun sp _ => ?_) (by simp) hb ?_
 ·rw [hres, hrt]
  exact trodAll_mk1 (shut_bool hu true)
 ·rw [hargs]
  exact trodAll_later hl hb _ _ _ _ hts hA hlt hsp
 ·rw [hvars, hvs]; rfl
 ·intro j t r hj hr
  rw [hrt] at hj hr
  rw [show (#[tb] : Array TypeId).size = 1 from rfl, hro] at hr
  match j with
  | 0 =>
   simp at hj hr
   subst hj; subst hr
   exact okWide_bool_mk hu _
  | j + 1 => simp at hj
end
theorem wf_wrap64 {x : Int} (h : (Lit.int .i64 x).wf = true) : IntKind.i64.wrap x = x := by
 have hb : -9223372036854775808 ≤ x ∧ x ≤ 9223372036854775807 := by simpa [Lit.wf, IntKind.min, IntKind.max, IntKind.signed, IntKind.bits] using h
 exact IntWalk.i64_in x hb
theorem wf_bounds {x : Int} (h : (Lit.int .i64 x).wf = true) : -9223372036854775808 ≤ x ∧ x ≤ 9223372036854775807 := by
 simpa [Lit.wf, IntKind.min, IntKind.max, IntKind.signed, IntKind.bits] using h
end
section
open Go.RowKit Go.Lib
abbrev ValM := Int × Int
def noVal : ValM := (0, 0)
end
section
open Go.ChangeShapes Go.WideShapes Go.ChangeAt Go.RowKit Go.Joins
def valCells (x : ValM) : List Value := [.int .i64 x.1, .int .i64 x.2]
def ValR (_ : World) (cs : List Value) (x : ValM) : Prop := cs = valCells x
def ValsA (w : World) (v : Value) (L : List ValM) : Prop := SlR 2 ValR w v L
theorem ValsA.below {w w' : World} {v : Value} {L : List ValM} (h : ValsA w v L) (hb : Below w.heap.size w w') : ValsA w' v L := SlR.below (fun _ _ _ _ _ h => h) h hb
section
variable {H : Type} {enc : TypeId × Value → H} {w : World} {base : Nat} {spare : Nat → Bool} {held : Bool}
theorem open_val {n : Nat} {cs : List Value} {y : DataW H × List MemPlace} (h : DataW.trod enc Try.prog w base spare held n 24 cs = some y) : ∃ s, ValR w cs s := by
 obtain ⟨k, m, e⟩ := open_value h
 exact ⟨(k, m), e⟩
end
def HasVals (w : World) (p : Option Addr) (L : List ValM) : Prop := ∀ j, j < L.length → ∃ g, p = some ⟨g, 0, none⟩ ∧ w.cell? ⟨g, j * 2, none⟩ = some (.int .i64 (L.getD j noVal).1) ∧ w.cell? ⟨g, j * 2 + 1, none⟩ = some (.int .i64 (L.getD j noVal).2)
theorem HasVals.below {w w' : World} {p : Option Addr} {L : List ValM} (h : HasVals w p L) (hb : Below w.heap.size w w') : HasVals w' p L := fun j hj => by
 obtain ⟨g, e, h1, h2⟩ := h j hj
 exact ⟨g, e, cell_later hb h1, cell_later hb h2⟩
def ValsS (w : World) (v : Value) (L : List ValM) : Prop := ∃ p c, v = .slice p L.length c ∧ (L.length ≤ c ∧ c ≤ maxLen) ∧ HasVals w p L
theorem ValsS.below {w w' : World} {v : Value} {L : List ValM} (h : ValsS w v L) (hb : Below w.heap.size w w') : ValsS w' v L := by
 obtain ⟨p, c, e, hc, hh⟩ := h
 exact ⟨p, c, e, hc, hh.below hb⟩
def valsC (L : List ValM) : List Value := L.flatMap valCells
theorem valsC_len (L : List ValM) : (valsC L).length = L.length * 2 := by
 unfold valsC
 induction L with
 | nil => rfl
 | cons x L ih => rw [List.flatMap_cons, List.length_append, ih, List.length_cons]; simp [valCells]; omega
theorem ones_vals (L : List ValM) : ∀ u ∈ valsC L, u.oneCell' = true := by
 intro u hu
 obtain ⟨o, -, ho⟩ := List.mem_flatMap.1 hu
 simp [valCells] at ho
 rcases ho with rfl | rfl <;> rfl
theorem own_vals {w : World} {base n : Nat} {e : TypeId} {v : Value} {L : List ValM} (h : w.ownsRow base e 2 v n (valsC L)) (hn : n = L.length) : ValsS w v L := by
 subst hn
 obtain ⟨p, cap, rfl, hl, hm, hc⟩ := own_rowK h
 refine ⟨p, cap, rfl, ⟨hl, hm⟩, fun j hj => ?_⟩
 have hg : ∀ i u, i < 2 → (valCells (L.getD j noVal))[i]? = some u → ∃ g, p = some ⟨g, 0, none⟩ ∧ w.cell? ⟨g, j * 2 + i, none⟩ = some u := fun i u hi hu =>
  hc _ u (by omega) (by rw [valsC, flat_get valCells 2 (fun _ => rfl) noVal L j i hj hi]; exact hu)
 obtain ⟨g, rfl, h0⟩ := hg 0 _ (by omega) rfl
 obtain ⟨g1, e1, h1⟩ := hg 1 _ (by omega) rfl
 cases e1
 exact ⟨g, rfl, h0, h1⟩
theorem vals_news {w : World} {a : Addr} {c n : Nat} {L : List ValM} (h : ValsA w (.slice (some a) n c) L) (m : Nat) : ∀ (q : Nat) (u : Value), (valsC (L.take m))[q]? = some u → w.cell? (a.add q) = some u := by
 obtain ⟨p', c', e, -, -, hc⟩ := h
 injection e with e1 _ _
 subst e1
 intro q u hq
 have hql : q < (L.take m).length * 2 := by rw [← valsC_len]; exact (List.getElem?_eq_some_iff.1 hq).1
 rw [List.length_take] at hql
 have hj : q / 2 < L.length := by omega
 obtain ⟨a', cs, e, -, h1, h2⟩ := hc (q / 2) hj
 cases e
 have hq' : q = q / 2 * 2 + q % 2 := by omega
 have hg := flat_get valCells 2 (fun _ => rfl) noVal (L.take m) (q / 2) (q % 2) (by rw [List.length_take]; omega) (by omega)
 rw [← hq'] at hg
 rw [hq']
 refine h1 _ _ ?_
 unfold ValR at h2
 rw [h2]
 unfold valsC at hq
 rw [hg] at hq
 rw [← hq]
 congr 2
 have hjm : q / 2 < m := by omega
 simp [List.getD, hjm, hj]
theorem valsA_len {w : World} {p : Option Addr} {n c : Nat} {L : List ValM} (h : ValsA w (.slice p n c) L) : n = L.length ∧ L.length ≤ c ∧ c ≤ maxLen ∧ (p = none → L = []) := by
 obtain ⟨p', c', e, h1, h2, hc⟩ := h
 injection e with e1 e2 e3
 subst e1 e3
 refine ⟨e2, h1, h2, fun hp => ?_⟩
 cases L with
 | nil => rfl
 | cons x l =>
  obtain ⟨a, -, ea, -⟩ := hc 0 (by simp)
  rw [hp] at ea
  cases ea
theorem info_val : (Try.prog.info? 24).map (fun i => (i.zero, i.size, i.bytes)) = some (some (.agg #[.int .i64 0, .int .i64 0]), 2, 16) := by kernel_rfl
end
end Go.Proofs.Ytldcbapjiflblaa
