/-
  Small lemmas on worlds that the walks of this seat share. No conditions.
  What an argument's reading says of its cells: slices of whatever element. No conditions.
  The step from a law's walk ('returns true; all memory that was there stands as it stood') to its row, for whatever arguments. No conditions.
  Layer 7 (event): events in plain words and in memory; the table of first words. No conditions.
  An event as an argument; a table of texts as its initialiser lays it. No conditions.
  Slices of events: what one holds; a row of the call's own as one. No conditions.
  Layer 2 (name) in plain words: a text's runes, what a name is, which of two texts is ahead; no program in sight. No conditions.
  What the decoder finds at a lead byte of two, three and four bytes, as the reference of layer 2 (name) reckons it; no program in sight. No conditions.
  The walks of layer 2 (name): what each function of package name, and of its reference, returns; memory that was there stands as it was. No conditions.
  The walk of layer 1's reference (line): how many bytes the rune at a place has, 0 where there is none. No conditions.
  Layer 2 (name) in plain words: that runes printed as UTF-8 are read as the same runes, so that turned twice a name is itself; no program in sight. No conditions.
-/
import Derived.Test.YtmgchjddpmmglaaGreatDoorRows
import Derived.Handy
import Derived.WalkSpells
import Derived.WalkLawsBesides
import Derived.Deep.RegionHeld3
import Derived.Deep.DrawnRows
import Derived.Lib.Hide
import Derived.Lib.Strings
import Derived.Lib.SmallJoins
import Derived.Deep.QuietTactic
import Derived.Deep.RegionWith
import Derived.BigQuiet
import Derived.Deep.Slices
import Derived.ChangeSame
import Derived.ProofKit
import Derived.OpenShut
import Derived.SizedLaws
import Derived.Lib.LaidU8
import Derived.Laws.AppendOwn
import Derived.WalkKit
import Derived.Lib.ValidLaws
import Derived.Lib.MapLaws
import GoSem.Conv.StringToRunes
import Derived.Lib.DecodeN
import Derived.Lib.RuneBytes
namespace Go.Proofs.YtmgchjddpmmglaaGreatDoor
section
open Go.RowKit
theorem sq0 {α : Type _} (l : List α) (i : Nat) (a : α) : l.toArray.setIfInBounds i a = (l.set i a).toArray := List.setIfInBounds_toArray l i a
theorem sq1 {α : Type _} {x a : α} {l : List α} : (x :: l).set 0 a = a :: l := rfl
theorem sq2 {α : Type _} {x a : α} {l : List α} {n : Nat} : (x :: l).set (n + 1) a = x :: l.set n a := rfl
theorem sq : (∀ (α : Type) (l : List α) (i : Nat) (a : α), l.toArray.setIfInBounds i a = (l.set i a).toArray) ∧ (∀ (α : Type) (x a : α) (l : List α), (x :: l).set 0 a = a :: l) ∧ ∀ (α : Type) (x a : α) (l : List α) (n : Nat), (x :: l).set (n + 1) a = x :: l.set n a :=
 ⟨fun _ l i a => sq0 l i a, fun _ _ _ _ => rfl, fun _ _ _ _ _ => rfl⟩
theorem cell_past {w : World} {a : Addr} {v : Value} (o : Obj) (h : w.cell? a = some v) : (w.alloc o).cell? a = some v :=
 cell_later ((Below.refl _ _).alloc (Nat.le_refl _) o) h
theorem cell_drew {w : World} {a : Addr} {v : Value} (h : w.cell? a = some v) : w.drew.cell? a = some v := h
theorem below_next {w a b : World} (h : Below w.heap.size w a) (k : Below a.heap.size a b) : Below w.heap.size w b := h.trans (k.mono h.size)
theorem bel {n : Nat} {w a : World} (h : Below n w a := by (repeat' (first | (with_reducible exact Below.refl _ _) | (with_reducible assumption) | (refine below_next ?_ (by with_reducible assumption)) | (with_reducible refine Below.alloc ?_ ?_ _) | (with_reducible refine Below.drew ?_) | (with_reducible refine below_drewN ?_ _) | omega | (simp; done) | (simp; omega)))) : Below n w a := h
theorem bes {n : Nat} {w a : World} (h : Below n w a := by (repeat' (first | (with_reducible exact Below.refl _ _) | (with_reducible assumption) | (refine below_next ?_ (by with_reducible assumption)) | (with_reducible refine Below.setCell ?_ ?_ _) | (with_reducible refine Below.alloc ?_ ?_ _) | (with_reducible refine Below.drew ?_) | (with_reducible refine below_drewN ?_ _) | omega | (simp; done) | (simp; omega)))) : Below n w a := h
theorem bcell {W w1 : World} (hb : Below W.heap.size W w1) : (∀ b o, b < W.heap.size → w1.cell? ⟨b, o, none⟩ = W.cell? ⟨b, o, none⟩) ∧ (∀ b o, b < W.heap.size → w1.frozen? ⟨b, o, none⟩ = W.frozen? ⟨b, o, none⟩) :=
 ⟨fun b o h => hb.cell (p := ⟨b, o, none⟩) h, fun b o h => hb.frozen (p := ⟨b, o, none⟩) h⟩
def bs (l : List UInt8) : ByteArray := ⟨l.toArray⟩
theorem bs_data (s : ByteArray) : s = bs s.data.toList := by
 obtain ⟨⟨l⟩⟩ := s
 rfl
theorem bs_inj {a b : List UInt8} (h : bs a = bs b) : a = b := by
 have := congrArg (fun s : ByteArray => s.data.toList) h
 simpa [bs] using this
theorem bs_size (l : List UInt8) : (bs l).size = l.length := by simp [bs, ByteArray.size]
theorem bs_toList (l : List UInt8) : (bs l).toList = l := by rw [Lib.toList_data]; simp [bs]
theorem bs_extract (l : List UInt8) (a b : Nat) : (bs l).extract a b = bs ((l.drop a).take (b - a)) := by
 have h := Lib.extract_data (bs l) a b
 rw [bs_data ((bs l).extract a b), h]; simp [bs]
theorem bs_append (a b : List UInt8) : bs a ++ bs b = bs (a ++ b) := by
 rw [bs_data (bs a ++ bs b), Joins.data_append]; simp [bs]
theorem bs_get (l : List UInt8) (i : Nat) (h : i < (bs l).size) : (bs l)[i] = l[i]'(by rw [bs_size] at h; exact h) := by
 rfl
attribute [go_sem] bs_size bs_toList bs_extract bs_append bs_get
theorem str_const (l : List UInt8) : (Value.string { data := l.toArray }) = Value.string (bs l) := rfl
structure Later (W : World) where
 w : World
 h : Below W.heap.size W w
instance (W : World) : Nonempty (Later W) := ⟨⟨W, Below.refl _ _⟩⟩
theorem Later.cell {W : World} (x : Later W) (b o : Nat) (hb : b < W.heap.size) : x.w.cell? ⟨b, o, none⟩ = W.cell? ⟨b, o, none⟩ := x.h.cell (p := ⟨b, o, none⟩) hb
theorem Later.frozen {W : World} (x : Later W) (b o : Nat) (hb : b < W.heap.size) : x.w.frozen? ⟨b, o, none⟩ = W.frozen? ⟨b, o, none⟩ := x.h.frozen (p := ⟨b, o, none⟩) hb
theorem Later.call {P : Program} {f : FuncId} {args : Array Value} {W : World} {x : Later W} {v : Value}
  (h : Calls P f args x.w fun e w' => e = .returned v ∧ Below x.w.heap.size x.w w') : Calls P f args x.w fun e w'' => e = .returned v ∧ ∃ m : Later W, w'' = m.w :=
 h.mono fun _ w' ⟨he, hm⟩ => ⟨he, ⟨w', below_next x.h hm⟩, rfl⟩
theorem wp_region_later {P : Program} {id : Nat} {Q : Exit → Act → World → Prop} {a : Act} {w : World} {l : List Oper} (hm : P.follows .mixedOrders = true) (hB : Region.lexB .any l.toArray = true)
  (h : wpQuiet P l.toArray (fun w' => ∃ x : Later w, w' = x.w) (fun a' => ∀ w', (∃ x : Later w, w' = x.w) → Q .normal a' w') l a) : (Code.region id l.toArray true).wp P Q a w :=
 wp_region_quiet (C := fun w' => ∃ x : Later w, w' = x.w) hm hB ⟨⟨w.drew, (Below.refl _ _).drew⟩, rfl⟩ (by simpa using h)
end
section
open Go.ChangeShapes Go.WideShapes Go.RowKit
def SlR {α : Type} (size : Nat) (R : World → List Value → α → Prop) (w : World) (v : Value) (L : List α) : Prop :=
 ∃ p cap, v = .slice p L.length cap ∧ L.length ≤ cap ∧ cap ≤ maxLen ∧ ∀ (j : Nat) (hj : j < L.length), ∃ (a : Addr) (cs : List Value), p = some a ∧ cs.length = size ∧ (∀ (i : Nat) (u : Value), cs[i]? = some u → w.cell? (a.add (j * size + i)) = some u) ∧ R w cs L[j]
theorem SlR.below {α : Type} {size : Nat} {R : World → List Value → α → Prop} (hR : ∀ w w' cs m, Below w.heap.size w w' → R w cs m → R w' cs m) {w w' : World} {v : Value} {L : List α} (h : SlR size R w v L) (hb : Below w.heap.size w w') : SlR size R w' v L := by
 obtain ⟨p, cap, hv, hl, hm, hc⟩ := h
 refine ⟨p, cap, hv, hl, hm, fun j hj => ?_⟩
 obtain ⟨a, cs, hp, hs, h1, h2⟩ := hc j hj
 exact ⟨a, cs, hp, hs, fun i u hu => cell_later hb (h1 i u hu), hR _ _ _ _ hb h2⟩
theorem SlR.mono {α : Type} {size : Nat} {R R' : World → List Value → α → Prop} {w : World} {v : Value} {L : List α} (h : SlR size R w v L) (hR : ∀ cs m, m ∈ L → R w cs m → R' w cs m) : SlR size R' w v L := by
 obtain ⟨p, cap, hv, hl, hm, hc⟩ := h
 refine ⟨p, cap, hv, hl, hm, fun j hj => ?_⟩
 obtain ⟨a, cs, hp, hs, h1, h2⟩ := hc j hj
 exact ⟨a, cs, hp, hs, h1, hR _ _ (List.getElem_mem hj) h2⟩
theorem pick_lt {β : Type} [Nonempty β] {n : Nat} {p : Nat → β → Prop} (h : ∀ i, i < n → ∃ b, p i b) : ∃ f : Nat → β, ∀ i, i < n → p i (f i) := by
 refine ⟨fun i => if hi : i < n then Classical.choose (h i hi) else Classical.choice inferInstance, fun i hi => ?_⟩
 simp only [dif_pos hi]
 exact Classical.choose_spec (h i hi)
section
variable {H : Type} {enc : TypeId × Value → H} {P : Program} {w : World} {base : Nat} {spare : Nat → Bool} {held : Bool}
theorem open_slR {α : Type} [Nonempty α] {size : Nat} {R : World → List Value → α → Prop} {t e : TypeId} {fuel : Nat} {cs : List Value} {x : DataW H × List MemPlace} (ht : P.underlying t = some (.slice e)) (hc : P.cellsOf e = size)
  (hR : ∀ n cs y, DataW.trod enc P w base spare held n e cs = some y → ∃ m, R w cs m) (h : DataW.trod enc P w base spare held fuel t cs = some x) : ∃ v L, cs = [v] ∧ SlR size R w v L := by
 rcases Go.Deep.open_slice ht h with ⟨rfl, -⟩ | ⟨a, len, cap, m, n, D, Pl, rfl, -, hl, hm, hmm, -, hi⟩
 ·exact ⟨_, [], rfl, none, 0, rfl, Nat.le_refl _, Nat.zero_le _, fun j hj => absurd hj (Nat.not_lt_zero j)⟩
 ·have hle : len ≤ m := by rw [hmm]; split <;> omega
  obtain ⟨M, hM⟩ := pick_lt (β := α) (n := len) (p := fun i m => ∃ cs', cs'.length = size ∧ (∀ (i' : Nat) (u : Value), cs'[i']? = some u → w.cell? (a.add (i * size + i')) = some u) ∧ R w cs' m) (fun i hil => by
   obtain ⟨cs', h1, h2⟩ := hi i (by omega)
   rw [hc] at h1
   obtain ⟨_, hlen, hat⟩ := World.cells?_some h1
   obtain ⟨m', hm'⟩ := hR _ _ _ h2
   refine ⟨m', cs', hlen, fun i' u hu => ?_, hm'⟩
   have hi' : i' < size := by
    have := (List.getElem?_eq_some_iff.1 hu).1
    omega
   rw [← Go.Deep.add_add, hat i' hi', hu])
  refine ⟨_, (List.range len).map M, rfl, some a, cap, by simp, by simpa using hl, hm, fun j hj => ?_⟩
  have hj' : j < len := by simpa using hj
  obtain ⟨cs', h1, h2, h3⟩ := hM j hj'
  exact ⟨a, cs', rfl, h1, h2, by simpa using h3⟩
theorem trod_len {fs : Array Field} {t : TypeId} {fuel : Nat} {cs : List Value} {x : DataW H × List MemPlace} (ht : P.underlying t = some (.struct fs)) (h : DataW.trod enc P w base spare held fuel t cs = some x) : cs.length = P.cellsOf t := by
 obtain ⟨xs, n, -, -, hl, -, -⟩ := DataW.trod_struct ht h
 exact hl
theorem trod_at {fs : Array Field} {t : TypeId} {fuel : Nat} {cs : List Value} {x : DataW H × List MemPlace} (i o : Nat) (ty : TypeId) (s : Nat) {f : Field} (ht : P.underlying t = some (.struct fs)) (h : DataW.trod enc P w base spare held fuel t cs = some x) (hi : fs[i]? = some f) (ho : f.offset = o) (hty : f.type = ty) (hs : P.cellsOf ty = s) :
  ∃ n y, DataW.trod enc P w base spare held n ty ((cs.drop o).take s) = some y := by
 obtain ⟨xs, n, -, -, hl, hlen, hf⟩ := DataW.trod_struct ht h
 refine ⟨n, xs[i]'(by rw [hlen]; exact (Array.getElem?_eq_some_iff.1 hi).1), ?_⟩
 have := hf i f hi
 subst ho hty hs
 rw [this]
 simp
end
end
section
open Go.ChangeShapes Go.WideShapes Go.ChangeAt Go.RowKit
theorem Tryz.own : ownKnob Tryz.prog.godebug = none := by kernel_rfl
theorem Tryz.laidOut : laidOutB Tryz.prog = true := by kernel_rfl
section
variable {H : Type} {enc : TypeId × Value → H} {P : Program}
theorem trodAll_later {W W' : World} (hl : laidOutB P = true) (hb : Below W.heap.size W W') {sp : Nat → Bool} : ∀ (ts : List TypeId) (vs : List Value) (ds : List (DataW H)) (ps : List MemPlace),
  ts.all (fun t => P.readableRec t && decide (t < P.types.size)) = true → DataW.TrodAll enc P W 0 (fun _ => true) true ts vs ds ps → (∀ x ∈ ps, x.block < W.heap.size) → (∀ x ∈ ps, sp x.block = true) →
  DataW.TrodAll enc P W' 0 sp true ts vs ds ps
 | [], vs, ds, ps, _, h, _, _ => by
  obtain ⟨rfl, rfl, rfl⟩ := trodAll_nil h
  exact trodAll_mk0
 | t :: ts, vs, ds, ps, hts, h, hlt, hsp => by
  obtain ⟨v, vs', d, ds', p, q, rfl, rfl, rfl, h0, h1⟩ := trodAll_cons h
  simp only [List.all_cons, Bool.and_eq_true, decide_eq_true_eq] at hts
  exact trodAll_cons_mk
   (WideElems.Trod_stays hl hts.1.1 hts.1.2 h0 (fun x hx => hb.same (hlt x (List.mem_append_left _ hx))) (fun x hx => hsp x (List.mem_append_left _ hx)))
   (trodAll_later hl hb ts vs' ds' q hts.2 h1 (fun x hx => hlt x (List.mem_append_right _ hx)) (fun x hx => hsp x (List.mem_append_right _ hx)))
theorem post_of_below {f : Func} {s : ChangeSpec} {apart fresh handsOn again : Bool}
  {W W' : World} {args : Array Value} {v : Value} {ds gs : List (DataW H)} {before pa pv : List MemPlace}
  (hW : DataW.Whole enc P f.params.toList s.vars apart W args.toList ds gs before)
  (hres : ∀ (b : Nat) (sp : Nat → Bool) (hd : Bool), DataW.TrodAll enc P W' b sp hd f.resultTypes.toList (v.resultList f.resultTypes.size) (s.fn H (ds ++ gs)).results [])
  (hargs : ∀ sp : Nat → Bool, (∀ p ∈ before, sp p.block = true) → DataW.TrodAll enc P W' 0 sp true f.params.toList args.toList (s.fn H (ds ++ gs)).args pa)
  (hvars : ∀ sp : Nat → Bool, (∀ p ∈ before, sp p.block = true) → DataW.TrodVars enc P W' sp s.vars (s.fn H (ds ++ gs)).vars pv)
  (hps : before = pa ++ pv) (hb : Below W.heap.size W W')
  (hok : ∀ (j : Nat) (t : TypeId) (r : Value), f.resultTypes[j]? = some t → (v.resultList f.resultTypes.size)[j]? = some r → Value.okWide P W' .any 0 t r) :
  s.post enc P f apart fresh handsOn again W args v W' := by
 have hlt : ∀ p ∈ before, p.block < W.heap.size := fun p hp => hW.lt p hp
 have hold : ∀ p ∈ before, (fun b => decide (b < W.heap.size)) p.block = true := fun p hp => by simpa using hlt p hp
 refine ⟨ds, gs, before, [], pa, pv, hW, hres _ _ _, hargs _ hold, hvars _ hold, World.keptBut_mono (fun p hp => ⟨hp, ?_⟩) (hb.frame (· ∈ before)), fun _ => ?_⟩
 ·rw [hps, List.mem_append] at hp
  exact Or.inr hp
 ·obtain ⟨_, _, _, _, _, hz, hn⟩ := hW
  refine ⟨hok, _, _, ([] ++ pa) ++ pv, ⟨[] ++ pa, pv, trodAll_append (hargs _ (fun _ _ => rfl)) (hres _ _ _), hvars _ (fun _ _ => rfl), rfl, ?_, ?_⟩, ?_⟩
  ·intro b off hp
   have hin : MemPlace.cell b off ∈ before := by rw [hps]; simpa using hp
   rw [hb.frozen (hlt _ hin)]
   exact hz b off hin
  ·intro ha
   have := hn ha
   rw [hps] at this
   simpa using this
  ·intro p hp _
   rw [hps]
   simpa using hp
theorem law_post {f : Func} {s : ChangeSpec} {tb : TypeId} (hu : P.underlying tb = some .bool) (hl : laidOutB P = true) (hrt : f.resultTypes = #[tb]) (hro : (Value.bool true).resultList 1 = [.bool true])
  (hts : f.params.toList.all (fun t => P.readableRec t && decide (t < P.types.size)) = true)
  {W W' : World} {args : Array Value} {ds : List (DataW H)} {before : List MemPlace} (hvs : s.vars = [])
  (hW : DataW.Whole enc P f.params.toList s.vars false W args.toList ds [] before)
  (hA : DataW.TrodAll enc P W 0 (fun _ => true) true f.params.toList args.toList ds before)
  (hres : (s.fn H (ds ++ [])).results = [.lit (.bool true)]) (hargs : (s.fn H (ds ++ [])).args = ds) (hvars : (s.fn H (ds ++ [])).vars = []) (hb : Below W.heap.size W W') :
  s.post enc P f false true false false W args (.bool true) W' := by
 have hlt : ∀ p ∈ before, p.block < W.heap.size := fun p hp => hW.lt p hp
 refine post_of_below (pa := before) (pv := []) hW (fun b sp hd => ?_) (fun sp hsp => ?_) (fun sp _ => ?_) (by simp) hb ?_
 ·rw [hres, hrt]
  exact trodAll_mk1 (shut_bool hu true)
 ·rw [hargs]
  exact trodAll_later hl hb _ _ _ _ hts hA hlt hsp
 ·rw [hvars, hvs]; rfl
 ·intro j t r hj hr
  rw [hrt] at hj hr
  rw [show (#[tb] : Array TypeId).size = 1 from rfl, hro] at hr
  match j with
  | 0 =>
   simp at hj hr
   subst hj; subst hr
   exact okWide_bool_mk hu _
  | j + 1 => simp at hj
end
theorem wf_wrap64 {x : Int} (h : (Lit.int .i64 x).wf = true) : IntKind.i64.wrap x = x := by
 have hb : -9223372036854775808 ≤ x ∧ x ≤ 9223372036854775807 := by simpa [Lit.wf, IntKind.min, IntKind.max, IntKind.signed, IntKind.bits] using h
 exact IntWalk.i64_in x hb
theorem wf_bounds {x : Int} (h : (Lit.int .i64 x).wf = true) : -9223372036854775808 ≤ x ∧ x ≤ 9223372036854775807 := by
 simpa [Lit.wf, IntKind.min, IntKind.max, IntKind.signed, IntKind.bits] using h
end
section
open Go.RowKit
abbrev EventM := Int × List UInt8 × List UInt8 × Int × Int × Int
def noEv : EventM := (0, [], [], 0, 0, 0)
def kindW (k : Int) : List UInt8 :=
 if k = 1 then [98, 101, 103, 105, 110] else if k = 2 then [114, 101, 97, 100] else if k = 3 then [119, 114, 105, 116, 101] else if k = 4 then [111, 107] else if k = 5 then [102, 97, 105, 108] else if k = 6 then [105, 110, 102, 111] else []
def kindL (l : List UInt8) : Int :=
 if l = [98, 101, 103, 105, 110] then 1 else if l = [114, 101, 97, 100] then 2 else if l = [119, 114, 105, 116, 101] then 3 else if l = [111, 107] then 4 else if l = [102, 97, 105, 108] then 5 else if l = [105, 110, 102, 111] then 6 else 0
def longK (k : Int) : Bool := k == 2 || k == 3
def evV (x : EventM) : Value := .agg #[.int .i64 x.1, .string (bs x.2.1), .string (bs x.2.2.1), .int .i64 x.2.2.2.1, .int .i64 x.2.2.2.2.1, .int .i64 x.2.2.2.2.2]
theorem kindW_at (i : Nat) (h : i < 7) : kindW (i : Int) = [[], [98, 101, 103, 105, 110], [114, 101, 97, 100], [119, 114, 105, 116, 101], [111, 107], [102, 97, 105, 108], [105, 110, 102, 111]].getD i [] := by
 match i, h with
 | 0, _ => rfl
 | 1, _ => rfl
 | 2, _ => rfl
 | 3, _ => rfl
 | 4, _ => rfl
 | 5, _ => rfl
 | 6, _ => rfl
def EvTab (w : World) : Prop := ∀ i : Nat, i < 7 → w.cell? ⟨0, i, none⟩ = some (.string (bs (kindW i)))
theorem EvTab.below {w w' : World} (h : EvTab w) (hb : Below w.heap.size w w') : EvTab w' := fun i hi => cell_later hb (h i hi)
theorem long_cases (k : Int) : (k = 2 ∧ longK k = true) ∨ (k = 3 ∧ longK k = true) ∨ ((k == 2) = false ∧ (k == 3) = false ∧ longK k = false) := by
 by_cases h2 : k = 2
 ·exact .inl ⟨h2, by simp [longK, h2]⟩
 ·by_cases h3 : k = 3
  ·exact .inr (.inl ⟨h3, by simp [longK, h3]⟩)
  ·exact .inr (.inr ⟨by simpa using h2, by simpa using h3, by simp [longK, h2, h3]⟩)
end
section
open Go.ChangeShapes Go.WideShapes Go.ChangeAt Go.RowKit Go.Joins Go.Lib
def evCells (x : EventM) : List Value := [.int .i64 x.1, .string (bs x.2.1), .string (bs x.2.2.1), .int .i64 x.2.2.2.1, .int .i64 x.2.2.2.2.1, .int .i64 x.2.2.2.2.2]
def EvR (_ : World) (cs : List Value) (x : EventM) : Prop := cs = evCells x ∧ x.2.1.length ≤ 9223372036854775807 ∧ x.2.2.1.length ≤ 9223372036854775807 ∧ -9223372036854775808 ≤ x.2.2.2.2.1 ∧ x.2.2.2.2.1 ≤ 9223372036854775807
section
variable {H : Type} {enc : TypeId × Value → H} {w : World} {base : Nat} {spare : Nat → Bool} {held : Bool}
theorem str_of {s : ByteArray} (hs : s.size ≤ maxLen) : s.data.toList.length ≤ 9223372036854775807 := by
 unfold maxLen at hs
 rw [Lib.size_eq] at hs
 exact hs
set_option maxRecDepth 100000 in
theorem open_event {n : Nat} {cs : List Value} {y : DataW H × List MemPlace} (h : DataW.trod enc Tryz.prog w base spare held n 123 cs = some y) : ∃ x, EvR w cs x := by
 have hl := trod_len Tryz.underlying123 h
 obtain ⟨n0, y0, h0⟩ := trod_at 0 0 3 1 Tryz.underlying123 h rfl rfl rfl (by kernel_rfl)
 obtain ⟨n1, y1, h1⟩ := trod_at 1 1 9 1 Tryz.underlying123 h rfl rfl rfl (by kernel_rfl)
 obtain ⟨n2, y2, h2⟩ := trod_at 2 2 9 1 Tryz.underlying123 h rfl rfl rfl (by kernel_rfl)
 obtain ⟨n3, y3, h3⟩ := trod_at 3 3 49 2 Tryz.underlying123 h rfl rfl rfl (by kernel_rfl)
 obtain ⟨n4, y4, h4⟩ := trod_at 4 5 3 1 Tryz.underlying123 h rfl rfl rfl (by kernel_rfl)
 have hl3 := trod_len Tryz.underlying49 h3
 obtain ⟨m0, z0, g0⟩ := trod_at 0 0 3 1 Tryz.underlying49 h3 rfl rfl rfl (by kernel_rfl)
 obtain ⟨m1, z1, g1⟩ := trod_at 1 1 2 1 Tryz.underlying49 h3 rfl rfl rfl (by kernel_rfl)
 obtain ⟨k, hk, -, -⟩ := DataW.trod_int Tryz.underlying3 h0
 obtain ⟨s, hs, -, ls⟩ := DataW.trod_string Tryz.underlying9 h1
 obtain ⟨key, hkey, -, lk⟩ := DataW.trod_string Tryz.underlying9 h2
 obtain ⟨vk, hvk, -, -⟩ := DataW.trod_int Tryz.underlying3 g0
 obtain ⟨vn, hvn, -, wn⟩ := DataW.trod_int Tryz.underlying2 g1
 obtain ⟨ln, hln, -, -⟩ := DataW.trod_int Tryz.underlying3 h4
 have hb := wf_bounds wn
 rw [show Tryz.prog.cellsOf 123 = 6 by kernel_rfl] at hl
 match cs, hl with
 | [c0, c1, c2, c3, c4, c5], _ =>
  simp at hk hs hkey hvk hvn hln
  refine ⟨(k, s.data.toList, key.data.toList, vk, vn, ln), ?_, str_of ls, str_of lk, hb.1, hb.2⟩
  simp only [evCells, hk, hs, hkey, hvk, hvn, hln, ← bs_data]
set_option maxRecDepth 100000 in
theorem open_ev {r : Reach} {b0 : Nat} {v : Value} {d : DataW H} {ps : List MemPlace} (hval : Value.okWide Tryz.prog w r b0 123 v) (hd : DataW.Trod enc Tryz.prog w base spare held 123 v d ps) :
  ∃ k s key vk n ln, v = .agg #[.int .i64 k, .string (bs s), .string (bs key), .int .i64 vk, .int .i64 n, .int .i64 ln] ∧ s.length ≤ 9223372036854775807 ∧ key.length ≤ 9223372036854775807 ∧ -9223372036854775808 ≤ n ∧ n ≤ 9223372036854775807 := by
 obtain ⟨cs, rfl, -⟩ := okWide_struct Tryz.underlying123 hval
 obtain ⟨fuel, hf⟩ := hd
 obtain ⟨x, hx, h1, h2, h3, h4⟩ := open_event hf
 refine ⟨x.1, x.2.1, x.2.2.1, x.2.2.2.1, x.2.2.2.2.1, x.2.2.2.2.2, ?_, h1, h2, h3, h4⟩
 have e : cs.toList = evCells x := hx
 obtain ⟨l⟩ := cs
 simp only at e
 rw [e]
 rfl
end
theorem strs_of_reads {P : Program} {W : World} {name : String} {g : Nat} {t e : TypeId} {L : List (List UInt8)} (hn : P.globalNamed name = some g) (hty : (P.globals[g]?).map (·.type) = some t) (ht : P.underlying t = some (.array L.length e)) (he : P.underlying e = some .string) (hce : P.cellsOf e = 1)
  (h : VarReads P W name (.agg (L.map fun l => .lit (.string l)))) : ∀ i, i < L.length → W.cell? ⟨g, i, none⟩ = some (.string (bs (L.getD i []))) := by
 intro i hi
 obtain ⟨g', t', cs, fuel, p, hg, hty', hvar, hd⟩ := h
 obtain rfl := Option.some.inj (hn.symm.trans hg)
 obtain rfl := Option.some.inj (hty.symm.trans hty')
 obtain ⟨fuel', d, q, hdi, hel⟩ := array_elem ht hd i hi
 rw [hce, Nat.mul_one] at hel
 obtain ⟨s, hs, hx, -⟩ := DataW.trod_string he hel
 rw [World.var?_cell hg hvar i, ← Array.getElem?_toList]
 have h1 := congrArg (fun x : List Value => x[0]?) hs
 simp only [List.getElem?_take, List.getElem?_drop] at h1
 have h2 : (DataW.lit (.string (L.getD i [])) : DataW Unit) = .lit (.string s.data.toList) := by
  have h3 := congrArg Prod.fst hx
  simp only at h3
  rw [← h3]
  rw [List.getElem?_map, List.getElem?_eq_getElem hi] at hdi
  simp only [Option.map_some, Option.some.injEq] at hdi
  rw [← hdi]
  simp [hi]
 injection h2 with h2
 injection h2 with h2
 rw [h2, ← bs_data]
 simpa using h1
end
section
open Go.RowKit
def evc (x : EventM) : List Value := [.int .i64 x.1, .string (bs x.2.1), .string (bs x.2.2.1), .int .i64 x.2.2.2.1, .int .i64 x.2.2.2.2.1, .int .i64 x.2.2.2.2.2]
def evcs (L : List EventM) : List Value := L.flatMap evc
theorem evcs_snoc (L : List EventM) (x : EventM) : evcs L ++ evc x = evcs (L ++ [x]) := by simp [evcs]
def EvsS (w : World) (v : Value) (L : List EventM) : Prop := ∃ p cap, v = .slice p L.length cap ∧ ∀ j, j < L.length → ∃ g, p = some ⟨g, 0, none⟩ ∧ ∀ i u, (evc (L.getD j noEv))[i]? = some u → w.cell? ⟨g, j * 6 + i, none⟩ = some u
theorem EvsS.below {w w' : World} {v : Value} {L : List EventM} (h : EvsS w v L) (hb : Below w.heap.size w w') : EvsS w' v L := by
 obtain ⟨p, cap, hv, hc⟩ := h
 refine ⟨p, cap, hv, fun j hj => ?_⟩
 obtain ⟨g, hp, h1⟩ := hc j hj
 exact ⟨g, hp, fun i u hu => cell_later hb (h1 i u hu)⟩
theorem evs_none (w : World) : EvsS w (.slice none 0 0) [] := ⟨none, 0, rfl, fun j hj => absurd hj (Nat.not_lt_zero j)⟩
theorem evcs_get : ∀ (L : List EventM) (j i : Nat), j < L.length → i < 6 → (evcs L)[j * 6 + i]? = (evc (L.getD j noEv))[i]?
 | [], j, _, hj, _ => absurd hj (Nat.not_lt_zero j)
 | x :: L, 0, i, _, hi => by
  have e : evcs (x :: L) = evc x ++ evcs L := by simp [evcs]
  rw [e, Nat.zero_mul, Nat.zero_add, List.getElem?_append_left (by simp [evc]; omega)]
  rfl
 | x :: L, j + 1, i, hj, hi => by
  have e : evcs (x :: L) = evc x ++ evcs L := by simp [evcs]
  have h6 : (evc x).length = 6 := rfl
  rw [e, List.getElem?_append_right (by rw [h6]; omega), h6, show (j + 1) * 6 + i - 6 = j * 6 + i by omega, evcs_get L j i (by simpa using hj) hi]
  rfl
theorem own_evs {w : World} {B : Nat} {e : TypeId} {v : Value} {L : List EventM} (h : w.ownsRow B e 6 v L.length (evcs L)) : EvsS w v L := by
 obtain ⟨-, ⟨h0, hn⟩ | ⟨g, cap, cur, hv, -, hw, -, -, -, ht⟩⟩ := h
 ·have : L = [] := List.eq_nil_of_length_eq_zero hn
  subst this h0
  exact evs_none w
 ·refine ⟨_, cap, hv, fun j hj => ⟨g, rfl, fun i u hu => ?_⟩⟩
  have hi : i < 6 := (List.getElem?_eq_some_iff.1 hu).1
  have h1 := congrArg (fun x : List Value => x[j * 6 + i]?) ht
  simp only [List.getElem?_take, show j * 6 + i < L.length * 6 by omega, if_true, Array.getElem?_toList] at h1
  rw [cell_of_row w g (j * 6 + i) _ _ (0, 0) hw, h1, evcs_get L j i hj hi]
  exact hu
theorem info_ev : (Tryz.prog.info? 123).map (fun i => (i.zero, i.size, i.bytes)) = some (some (.agg #[.int .i64 0, .string ByteArray.empty, .string ByteArray.empty, .int .i64 0, .int .i64 0, .int .i64 0]), 6, 64) := by kernel_rfl
theorem ones_ev (k vk n ln : Int) (s key : ByteArray) : ∀ u ∈ ([.int .i64 k, .string s, .string key, .int .i64 vk, .int .i64 n, .int .i64 ln] : List Value), u.oneCell' = true := by
 intro u hu
 simp at hu
 rcases hu with rfl | rfl | rfl | rfl | rfl | rfl <;> rfl
end
section
open Go.Lib
def runesGo : Nat → List UInt8 → List Nat
 | 0, _ => []
 | n + 1, l => if l = [] then [] else (decodeL l).1 :: runesGo n (l.drop (decodeL l).2)
def runesU (l : List UInt8) : List Nat := runesGo l.length l
theorem runesGo_nil : ∀ n, runesGo n [] = []
 | 0 => rfl
 | _ + 1 => by simp [runesGo]
theorem runesGo_fuel : ∀ (n m : Nat) (l : List UInt8), l.length ≤ n → l.length ≤ m → runesGo n l = runesGo m l
 | 0, m, l, hn, _ => by
  have : l = [] := List.eq_nil_of_length_eq_zero (by omega)
  subst this
  rw [runesGo_nil, runesGo_nil]
 | n + 1, 0, l, _, hm => by
  have : l = [] := List.eq_nil_of_length_eq_zero (by omega)
  subst this
  rw [runesGo_nil, runesGo_nil]
 | n + 1, m + 1, l, hn, hm => by
  unfold runesGo
  by_cases hne : l = []
  ·simp [hne]
  ·have hw := decodeL_width l
   have hl : 0 < l.length := List.length_pos_iff.2 hne
   rw [if_neg hne, if_neg hne, runesGo_fuel n m (l.drop (decodeL l).2) (by rw [List.length_drop]; omega) (by rw [List.length_drop]; omega)]
theorem runesU_nil : runesU [] = [] := rfl
theorem runesU_step (l : List UInt8) (hne : l ≠ []) : runesU l = (decodeL l).1 :: runesU (l.drop (decodeL l).2) := by
 have hl : 0 < l.length := List.length_pos_iff.2 hne
 have hw := decodeL_width l
 obtain ⟨n, hn⟩ : ∃ n, l.length = n + 1 := ⟨l.length - 1, by omega⟩
 unfold runesU
 rw [hn]
 show (if l = [] then [] else _) = _
 rw [if_neg hne, runesGo_fuel n (l.drop (decodeL l).2).length _ (by rw [List.length_drop]; omega) (Nat.le_refl _)]
theorem runesGo_length : ∀ (n : Nat) (l : List UInt8), (runesGo n l).length ≤ n
 | 0, _ => by simp [runesGo]
 | n + 1, l => by
  unfold runesGo
  split
  ·simp
  ·have := runesGo_length n (l.drop (decodeL l).2)
   simp only [List.length_cons]; omega
theorem runesU_length (l : List UInt8) : (runesU l).length ≤ l.length := runesGo_length _ _
theorem runesFrom_go (s : ByteArray) : ∀ (b i : Nat) (acc : Array Value), Conv.runesFrom s b i acc = acc ++ ((runesGo b (s.data.toList.drop i)).map fun (n : Nat) => Value.int .i32 (n : Int)).toArray
 | 0, i, acc => by simp [Conv.runesFrom, runesGo]
 | b + 1, i, acc => by
  unfold Conv.runesFrom runesGo
  by_cases h : i < s.size
  ·have hne : s.data.toList.drop i ≠ [] := by
    intro e
    have := congrArg List.length e
    simp at this
    omega
   rw [if_pos h, if_neg hne]
   simp only []
   rw [runesFrom_go s b]
   simp [decodeL_drop, List.drop_drop]
  ·have he : s.data.toList.drop i = [] := List.drop_eq_nil_of_le (by rw [← Lib.size_eq]; omega)
   rw [if_neg h, he]
   simp
theorem runesFrom_all (l : List UInt8) : Conv.runesFrom (bs l) (bs l).size 0 #[] = ((runesU l).map fun (n : Nat) => Value.int .i32 (n : Int)).toArray := by
 rw [runesFrom_go]
 simp [bs, runesU, ByteArray.size]
def dig (c : Nat) : Bool := decide (48 ≤ c) && decide (c ≤ 57)
def part (c : Nat) : Bool := decide (127 < c) || decide (c = 95) || dig c || (decide (97 ≤ c) && decide (c ≤ 122)) || (decide (65 ≤ c) && decide (c ≤ 90))
def resL (l : List UInt8) : Bool :=
 decide (l = [98, 101, 103, 105, 110] ∨ l = [114, 101, 97, 100] ∨ l = [119, 114, 105, 116, 101] ∨ l = [111, 107] ∨ l = [102, 97, 105, 108] ∨ l = [105, 110, 102, 111] ∨ l = [110, 105, 108])
def word (r : List Nat) : Bool := decide (0 < r.length) && decide (r.length ≤ 20) && r.all part && !dig (r.getD 0 0)
def nameL (l : List UInt8) : Bool := !resL l && validD l && word (runesU l)
def lexLess : List Nat → List Nat → Bool
 | [], [] => false
 | [], _ :: _ => true
 | _ :: _, [] => false
 | a :: x, b :: y => if a = b then lexLess x y else decide (a < b)
def lexCmp : List Nat → List Nat → Int
 | [], [] => 0
 | [], _ :: _ => -1
 | _ :: _, [] => 1
 | a :: x, b :: y => if a = b then lexCmp x y else if a < b then -1 else 1
theorem lexCmp_less : ∀ x y, lexLess x y = decide (lexCmp x y < 0)
 | [], [] => rfl
 | [], _ :: _ => rfl
 | _ :: _, [] => rfl
 | a :: x, b :: y => by
  unfold lexLess lexCmp
  split
  ·exact lexCmp_less x y
  ·split <;> simp [*]
theorem lex_same : ∀ x y, (x = y) ↔ (lexLess x y = lexLess y x)
 | [], [] => by simp [lexLess]
 | [], _ :: _ => by simp [lexLess]
 | _ :: _, [] => by simp [lexLess]
 | a :: x, b :: y => by
  unfold lexLess
  by_cases h : a = b
  ·subst h
   simp [lex_same x y]
  ·have h' : ¬ b = a := fun e => h e.symm
   simp [h, h']
   omega
theorem decodeL_le' (l : List UInt8) (hne : l ≠ []) : 1 ≤ (decodeL l).2 ∧ (decodeL l).2 ≤ l.length := ⟨decodeL_width l, decodeL_le l hne⟩
def textU (r : List Nat) : List UInt8 := r.flatMap fun (c : Nat) => encodeRune (c : Int)
theorem textU_runes : ∀ (n : Nat) (l : List UInt8), l.length ≤ n → validD l = true → textU (runesU l) = l
 | 0, l, h, _ => by
  have : l = [] := List.eq_nil_of_length_eq_zero (by omega)
  subst this; rfl
 | n + 1, l, h, hv => by
  by_cases hne : l = []
  ·subst hne; rfl
  ·have hw := decodeL_le' l hne
   rw [validD_step l hne] at hv
   by_cases hb : (decodeL l).1 = 65533 ∧ (decodeL l).2 = 1
   ·simp [hb] at hv
   ·rw [if_neg hb] at hv
    have ih := textU_runes n (l.drop (decodeL l).2) (by rw [List.length_drop]; omega) hv
    rw [runesU_step l hne]
    show encodeRune ((decodeL l).1 : Int) ++ textU (runesU (l.drop (decodeL l).2)) = l
    rw [encode_decode l hne hb, ih, List.take_append_drop]
theorem runes_inj (a b : List UInt8) (ha : validD a = true) (hb : validD b = true) : runesU a = runesU b ↔ a = b := by
 constructor
 ·intro h
  rw [← textU_runes _ a (Nat.le_refl _) ha, ← textU_runes _ b (Nat.le_refl _) hb, h]
 ·rintro rfl; rfl
end
section
open Go.Lib
theorem cont_iff (b : Nat) : (b / 64 = 2) = (128 ≤ b ∧ b ≤ 191) := propext ⟨fun h => ⟨by omega, by omega⟩, fun h => by omega⟩
theorem cont_mod (b : Nat) (h : 128 ≤ b ∧ b ≤ 191) : b % 64 = b - 128 := by omega
theorem dec2 (n b0 b1 b2 b3 : Nat) (h : 194 ≤ b0) (h' : b0 ≤ 223) : decodeN n b0 b1 b2 b3 = if 1 < n ∧ 128 ≤ b1 ∧ b1 ≤ 191 then ((b0 - 192) * 64 + (b1 - 128), 2) else (65533, 1) := by
 have e0 : ¬ b0 < 128 := by omega
 have e1 : b0 / 32 = 6 := by omega
 have e2 : ¬ b0 / 16 = 14 := by omega
 have e3 : ¬ b0 / 8 = 30 := by omega
 have e4 : b0 % 32 = b0 - 192 := by omega
 unfold decodeN
 rw [if_neg e0]
 simp only [e1, e2, e3, e4, cont_iff, true_and, false_and, if_false]
 by_cases hc : 1 < n ∧ 128 ≤ b1 ∧ b1 ≤ 191
 ·rw [if_pos hc, if_pos hc, cont_mod b1 hc.2, if_pos (by omega)]
 ·rw [if_neg hc, if_neg hc]
theorem dec3 (n b0 b1 b2 b3 : Nat) (h : 224 ≤ b0) (h' : b0 ≤ 239) :
  decodeN n b0 b1 b2 b3 = if (2 < n ∧ 128 ≤ b1 ∧ b1 ≤ 191 ∧ 128 ≤ b2 ∧ b2 ≤ 191) ∧ 2048 ≤ (b0 - 224) * 4096 + (b1 - 128) * 64 + (b2 - 128) ∧ ¬ (55296 ≤ (b0 - 224) * 4096 + (b1 - 128) * 64 + (b2 - 128) ∧ (b0 - 224) * 4096 + (b1 - 128) * 64 + (b2 - 128) ≤ 57343) then
   ((b0 - 224) * 4096 + (b1 - 128) * 64 + (b2 - 128), 3) else (65533, 1) := by
 have e0 : ¬ b0 < 128 := by omega
 have e1 : ¬ b0 / 32 = 6 := by omega
 have e2 : b0 / 16 = 14 := by omega
 have e3 : ¬ b0 / 8 = 30 := by omega
 have e4 : b0 % 16 = b0 - 224 := by omega
 unfold decodeN
 rw [if_neg e0]
 simp only [e1, e2, e3, e4, cont_iff, true_and, false_and, if_false]
 by_cases hc : 2 < n ∧ 128 ≤ b1 ∧ b1 ≤ 191 ∧ 128 ≤ b2 ∧ b2 ≤ 191
 ·have hc1 : (1 < n ∧ 128 ≤ b1 ∧ b1 ≤ 191) ∧ 2 < n ∧ 128 ≤ b2 ∧ b2 ≤ 191 := by omega
  rw [if_pos hc1, cont_mod b1 hc1.1.2, cont_mod b2 hc1.2.2]
  obtain ⟨v, hv⟩ : ∃ v, (b0 - 224) * 4096 + (b1 - 128) * 64 + (b2 - 128) = v := ⟨_, rfl⟩
  have hle : v ≤ 65535 := by omega
  rw [hv]
  by_cases hd : 2048 ≤ v ∧ ¬ (55296 ≤ v ∧ v ≤ 57343)
  ·rw [if_pos (by omega), if_pos ⟨hc, hd⟩]
  ·rw [if_neg (by omega), if_neg (fun x => hd x.2)]
 ·rw [if_neg (fun x => hc (by omega)), if_neg (fun x => hc x.1)]
theorem dec4 (n b0 b1 b2 b3 : Nat) (h : 240 ≤ b0) (h' : b0 ≤ 244) :
  decodeN n b0 b1 b2 b3 = if (3 < n ∧ 128 ≤ b1 ∧ b1 ≤ 191 ∧ 128 ≤ b2 ∧ b2 ≤ 191 ∧ 128 ≤ b3 ∧ b3 ≤ 191) ∧ 65536 ≤ (b0 - 240) * 262144 + (b1 - 128) * 4096 + (b2 - 128) * 64 + (b3 - 128) ∧ (b0 - 240) * 262144 + (b1 - 128) * 4096 + (b2 - 128) * 64 + (b3 - 128) ≤ 1114111 then
   ((b0 - 240) * 262144 + (b1 - 128) * 4096 + (b2 - 128) * 64 + (b3 - 128), 4) else (65533, 1) := by
 have e0 : ¬ b0 < 128 := by omega
 have e1 : ¬ b0 / 32 = 6 := by omega
 have e2 : ¬ b0 / 16 = 14 := by omega
 have e3 : b0 / 8 = 30 := by omega
 have e4 : b0 % 8 = b0 - 240 := by omega
 unfold decodeN
 rw [if_neg e0]
 simp only [e1, e2, e3, e4, cont_iff, true_and, false_and, if_false]
 by_cases hc : 3 < n ∧ 128 ≤ b1 ∧ b1 ≤ 191 ∧ 128 ≤ b2 ∧ b2 ≤ 191 ∧ 128 ≤ b3 ∧ b3 ≤ 191
 ·have hc1 : (1 < n ∧ 128 ≤ b1 ∧ b1 ≤ 191) ∧ (2 < n ∧ 128 ≤ b2 ∧ b2 ≤ 191) ∧ 3 < n ∧ 128 ≤ b3 ∧ b3 ≤ 191 := by omega
  rw [if_pos hc1, cont_mod b1 hc1.1.2, cont_mod b2 hc1.2.1.2, cont_mod b3 hc1.2.2.2]
  obtain ⟨v, hv⟩ : ∃ v, (b0 - 240) * 262144 + (b1 - 128) * 4096 + (b2 - 128) * 64 + (b3 - 128) = v := ⟨_, rfl⟩
  rw [hv]
  by_cases hd : 65536 ≤ v ∧ v ≤ 1114111
  ·rw [if_pos (by omega), if_pos ⟨hc, hd⟩]
  ·rw [if_neg (by omega), if_neg (fun x => hd x.2)]
 ·rw [if_neg (fun x => hc (by omega)), if_neg (fun x => hc x.1)]
end
section
open Go.RowKit Go.Lib
def oneAt (l : List UInt8) (p : Nat) : Nat × Nat := decodeL (l.drop p)
theorem oneAt_N (l : List UInt8) (p : Nat) : oneAt l p = decodeN (l.length - p) (l.getD p 0).toNat (l.getD (p + 1) 0).toNat (l.getD (p + 2) 0).toNat (l.getD (p + 3) 0).toNat := by
 unfold oneAt
 rw [decodeL_N, List.length_drop, getD_dropU, getD_dropU, getD_dropU, getD_dropU, Nat.add_zero]
theorem getD_at (l : List UInt8) (p : Nat) (h : p < l.length) : l.getD p 0 = l[p] := by simp [h]
set_option maxRecDepth 100000 in
set_option maxHeartbeats 1000000 in
theorem one_low (l : List UInt8) (p : Nat) (hp : p < l.length) (h : l[p].toNat < 128 ∨ (128 ≤ l[p].toNat ∧ l[p].toNat < 194) ∨ 244 < l[p].toNat) (w : World) :
  Calls Tryz.prog 217 #[.string (bs l), .int .i64 p] w fun e w' => e = .returned (.tuple #[.int .i64 ((oneAt l p).2 : Nat), .int .i64 ((oneAt l p).1 : Nat)]) ∧ w = w' := by
 have H := Lib.hid (oneAt_N l p)
 have h0 := getD_at l p hp
 rcases h with h | ⟨h, h'⟩ | h
 ·go_enter Tryz.func217, Tryz.ntmps217
  go_wp2
  go_ret2
  rw [H.out, h0]
  simp [decodeN, h]
 ·go_enter Tryz.func217, Tryz.ntmps217
  go_wp2
  go_ret2
  rw [H.out, h0, decodeN_bad _ _ _ _ _ (.inl ⟨h, h'⟩)]
  exact ⟨rfl, rfl⟩
 ·have hb := l[p].toNat_lt
  go_enter Tryz.func217, Tryz.ntmps217
  go_wp2
  go_ret2
  rw [H.out, h0, decodeN_bad _ _ _ _ _ (.inr ⟨by omega, hb⟩)]
  exact ⟨rfl, rfl⟩
set_option maxRecDepth 100000 in
set_option maxHeartbeats 4000000 in
theorem one_two (l : List UInt8) (p : Nat) (hp : p < l.length) (hs : l.length ≤ 4611686018427387904) (h : 194 ≤ l[p].toNat) (h' : l[p].toNat ≤ 223) (w : World) :
  Calls Tryz.prog 217 #[.string (bs l), .int .i64 p] w fun e w' => e = .returned (.tuple #[.int .i64 ((oneAt l p).2 : Nat), .int .i64 ((oneAt l p).1 : Nat)]) ∧ w = w' := by
 have h0 := getD_at l p hp
 have hN := oneAt_N l p
 rw [h0, dec2 _ _ _ _ _ h h'] at hN
 by_cases hl : p + 1 < l.length
 ·have h1 := getD_at l (p + 1) (by omega)
  rw [h1] at hN
  have hb1 := l[p + 1].toNat_lt
  have H := Lib.hid hN
  clear hN h0 h1
  rcases (show (l[p + 1].toNat < 128) ∨ (128 ≤ l[p + 1].toNat ∧ 191 < l[p + 1].toNat) ∨ (128 ≤ l[p + 1].toNat ∧ l[p + 1].toNat ≤ 191) by omega) with ⟨r0⟩ | ⟨r0, r1⟩ | ⟨r0, r1⟩
  ·go_enter Tryz.func217, Tryz.ntmps217; go_wp2; go_rounds 2; go_ret2; rw [H.out, if_neg (by omega)]; exact ⟨rfl, rfl⟩
  ·go_enter Tryz.func217, Tryz.ntmps217; go_wp2; go_rounds 2; go_ret2; rw [H.out, if_neg (by omega)]; exact ⟨rfl, rfl⟩
  ·go_enter Tryz.func217, Tryz.ntmps217; go_wp2; go_rounds 2; go_ret2; rw [H.out, if_pos (by omega)]; refine ⟨?_, rfl⟩; simp; omega
 ·have H := Lib.hid hN
  clear hN h0
  go_enter Tryz.func217, Tryz.ntmps217; go_wp2; go_ret2; rw [H.out, if_neg (by omega)]; exact ⟨rfl, rfl⟩
end
section
open Go.RowKit Go.Lib
def szD (d : Nat × Nat) : Nat := if d.1 = 65533 ∧ d.2 = 1 then 0 else d.2
def sizeAt (l : List UInt8) (p : Nat) : Nat := szD (oneAt l p)
theorem szD_good (v n : Nat) (h : n ≠ 1) : szD (v, n) = n := by simp [szD, h]
def contGo (l : List UInt8) (p : Nat) : Nat → Nat → Nat → Option Nat
 | 0, _, v => some v
 | m + 1, k, v => if (l.getD (p + k) 0).toNat < 128 ∨ 191 < (l.getD (p + k) 0).toNat then none else contGo l p m (k + 1) (64 * v + ((l.getD (p + k) 0).toNat - 128))
def finN (n least : Nat) : Option Nat → Nat
 | none => 0
 | some v => if v < least ∨ 1114111 < v ∨ (55296 ≤ v ∧ v ≤ 57343) then 0 else n
theorem size_two (l : List UInt8) (p : Nat) (hp : p + 1 < l.length) (h : 194 ≤ l[p].toNat) (h' : l[p].toNat ≤ 223) : finN 2 128 (contGo l p 1 1 (l[p].toNat - 192)) = sizeAt l p := by
 have hN := oneAt_N l p
 rw [getD_at l p (by omega), dec2 _ _ _ _ _ h h'] at hN
 unfold sizeAt
 rw [hN]
 simp only [contGo]
 by_cases h1 : (l.getD (p + 1) 0).toNat < 128 ∨ 191 < (l.getD (p + 1) 0).toNat
 ·rw [if_pos h1, if_neg (by omega)]
  rfl
 ·rw [if_neg h1, if_pos (by omega)]
  simp only [finN]
  rw [if_neg (by omega), szD_good _ _ (by omega)]
theorem size_three (l : List UInt8) (p : Nat) (hp : p + 2 < l.length) (h : 224 ≤ l[p].toNat) (h' : l[p].toNat ≤ 239) : finN 3 2048 (contGo l p 2 1 (l[p].toNat - 224)) = sizeAt l p := by
 have hN := oneAt_N l p
 rw [getD_at l p (by omega), dec3 _ _ _ _ _ h h'] at hN
 unfold sizeAt
 rw [hN]
 simp only [contGo, Nat.reduceAdd]
 by_cases h1 : (l.getD (p + 1) 0).toNat < 128 ∨ 191 < (l.getD (p + 1) 0).toNat
 ·rw [if_pos h1, if_neg (by omega)]
  rfl
 ·rw [if_neg h1]
  by_cases h2 : (l.getD (p + 2) 0).toNat < 128 ∨ 191 < (l.getD (p + 2) 0).toNat
  ·rw [if_pos h2, if_neg (by omega)]
   rfl
  ·rw [if_neg h2]
   simp only [finN]
   split
   ·rw [if_neg (by omega)]
    rfl
   ·rw [if_pos (by omega), szD_good _ _ (by omega)]
theorem size_four (l : List UInt8) (p : Nat) (hp : p + 3 < l.length) (h : 240 ≤ l[p].toNat) (h' : l[p].toNat ≤ 244) : finN 4 65536 (contGo l p 3 1 (l[p].toNat - 240)) = sizeAt l p := by
 have hN := oneAt_N l p
 rw [getD_at l p (by omega), dec4 _ _ _ _ _ h h'] at hN
 unfold sizeAt
 rw [hN]
 simp only [contGo, Nat.reduceAdd]
 by_cases h1 : (l.getD (p + 1) 0).toNat < 128 ∨ 191 < (l.getD (p + 1) 0).toNat
 ·rw [if_pos h1, if_neg (by omega)]
  rfl
 ·rw [if_neg h1]
  by_cases h2 : (l.getD (p + 2) 0).toNat < 128 ∨ 191 < (l.getD (p + 2) 0).toNat
  ·rw [if_pos h2, if_neg (by omega)]
   rfl
  ·rw [if_neg h2]
   by_cases h3 : (l.getD (p + 3) 0).toNat < 128 ∨ 191 < (l.getD (p + 3) 0).toNat
   ·rw [if_pos h3, if_neg (by omega)]
    rfl
   ·rw [if_neg h3]
    simp only [finN]
    split
    ·rw [if_neg (by omega)]
     rfl
    ·rw [if_pos (by omega), szD_good _ _ (by omega)]
theorem size_short (l : List UInt8) (p : Nat) (hp : p < l.length) (h : (194 ≤ l[p].toNat ∧ l[p].toNat ≤ 223 ∧ ¬ p + 1 < l.length) ∨ (224 ≤ l[p].toNat ∧ l[p].toNat ≤ 239 ∧ ¬ p + 2 < l.length) ∨ (240 ≤ l[p].toNat ∧ l[p].toNat ≤ 244 ∧ ¬ p + 3 < l.length)) : sizeAt l p = 0 := by
 have hN := oneAt_N l p
 rw [getD_at l p hp] at hN
 unfold sizeAt
 rcases h with ⟨h, h', h''⟩ | ⟨h, h', h''⟩ | ⟨h, h', h''⟩
 ·rw [hN, dec2 _ _ _ _ _ h h', if_neg (by omega)]
  rfl
 ·rw [hN, dec3 _ _ _ _ _ h h', if_neg (by omega)]
  rfl
 ·rw [hN, dec4 _ _ _ _ _ h h', if_neg (by omega)]
  rfl
theorem size_ascii (l : List UInt8) (p : Nat) (hp : p < l.length) (h : l[p].toNat < 128) : sizeAt l p = 1 := by
 have hN := oneAt_N l p
 rw [getD_at l p hp] at hN
 unfold sizeAt
 rw [hN]
 simp [decodeN, h, szD]
 omega
theorem size_bad (l : List UInt8) (p : Nat) (hp : p < l.length) (h : (128 ≤ l[p].toNat ∧ l[p].toNat < 194) ∨ 244 < l[p].toNat) : sizeAt l p = 0 := by
 have hN := oneAt_N l p
 rw [getD_at l p hp] at hN
 have hb := l[p].toNat_lt
 unfold sizeAt
 rw [hN, decodeN_bad _ _ _ _ _ (by omega)]
 rfl
set_option maxRecDepth 100000 in
set_option maxHeartbeats 1000000 in
theorem size_low (l : List UInt8) (p : Nat) (hp : p < l.length) (h : l[p].toNat < 128) (w : World) :
  Calls Tryz.prog 205 #[.string (bs l), .int .i64 p] w fun e w' => e = .returned (.int .i64 (1 : Nat)) ∧ w = w' := by
 go_enter Tryz.func205, Tryz.ntmps205
 go_wp2
 go_ret
 exact ⟨rfl, rfl⟩
set_option maxRecDepth 100000 in
set_option maxHeartbeats 4000000 in
theorem size_wtwo (l : List UInt8) (p : Nat) (hp : p < l.length) (hs : l.length ≤ 4611686018427387904) (h : 194 ≤ l[p].toNat) (h' : l[p].toNat ≤ 223) (w : World) :
  Calls Tryz.prog 205 #[.string (bs l), .int .i64 p] w fun e w' => e = .returned (.int .i64 (sizeAt l p : Nat)) ∧ w = w' := by
 by_cases hl : p + 1 < l.length
 ·have hf := size_two l p hl h h'
  obtain ⟨R, hR⟩ : ∃ R, sizeAt l p = R := ⟨_, rfl⟩
  rw [hR] at hf ⊢
  clear hR
  have HF := Lib.hid hf
  clear hf
  go_enter Tryz.func205, Tryz.ntmps205
  go_wp2
  go_loop [8, 9] (fun v i => ∃ x k : Nat, v = .int .i64 x ∧ i = .int .i64 k ∧ 1 ≤ k ∧ k ≤ 2 ∧ ((k = 1 ∧ x < 64) ∨ (k = 2 ∧ x < 4096) ∨ (k = 3 ∧ x < 262144) ∨ (k = 4 ∧ x < 16777216)) ∧ finN 2 128 (contGo l p (2 - k) k x) = R) (fun _ i => 2 - (RowKit.intOf i).toNat)
  case atStart => exact ⟨l[p].toNat - 192, 1, by go_num, rfl, by omega, by omega, by omega, HF.out⟩
  case round =>
   obtain ⟨x, k, rfl, rfl, hk1, hk, hx, hr⟩ := hrel
   by_cases hlt : k < 2
   ·have e : 2 - k = (2 - (k + 1)) + 1 := by omega
    rw [e] at hr
    simp only [contGo] at hr
    have hg := getD_at l (p + k) (by omega)
    rw [hg] at hr
    have hb := (l[p + k]'(by omega)).toNat_lt
    have hin : p + k < l.length := by omega
    by_cases hc : l[p + k].toNat < 128 ∨ 191 < l[p + k].toNat
    ·rw [if_pos hc] at hr
     have HR := Lib.hid hr
     clear hr hg e
     rcases hc with hc | hc
     ·go_wp2
      go_ret
      exact ⟨by rw [← HR.out]; rfl, rfl⟩
     ·have hc0 : 128 ≤ l[p + k].toNat := by omega
      go_wp2
      go_ret
      exact ⟨by rw [← HR.out]; rfl, rfl⟩
    ·rw [if_neg hc] at hr
     have HR := Lib.hid hr
     have hc1 : 128 ≤ l[p + k].toNat := by omega
     have hc2 : l[p + k].toNat ≤ 191 := by omega
     clear hr hg e hc
     go_wp2
     go_round
     case rel => exact ⟨64 * x + (l[p + k].toNat - 128), k + 1, by go_num, by go_num, by omega, by omega, by omega, HR.out⟩
     case measure => simp [RowKit.intOf]; omega
   ·have e : k = 2 := by omega
    subst e
    simp only [Nat.sub_self, contGo, finN] at hr
    by_cases hc : x < 128 ∨ 1114111 < x ∨ (55296 ≤ x ∧ x ≤ 57343)
    ·rw [if_pos hc] at hr
     subst hr
     rcases (show (x < 128) ∨ (128 ≤ x ∧ 1114111 < x) ∨ (128 ≤ x ∧ 55296 ≤ x ∧ x ≤ 57343 ∧ x ≤ 1114111) by omega) with c | ⟨c, c'⟩ | ⟨c, c', c'', c3⟩
     all_goals
      clear hc HF hx
      go_wp2
      go_ret
      exact ⟨rfl, rfl⟩
    ·rw [if_neg hc] at hr
     subst hr
     rcases (show (128 ≤ x ∧ x < 55296) ∨ (128 ≤ x ∧ 57343 < x ∧ x ≤ 1114111) by omega) with ⟨c, c'⟩ | ⟨c, c', c''⟩
     all_goals
      clear hc HF hx
      go_wp2
      go_ret
      exact ⟨rfl, rfl⟩
 ·rw [size_short l p hp (by omega)]
  go_enter Tryz.func205, Tryz.ntmps205
  go_wp2
  go_ret
  exact ⟨rfl, rfl⟩
set_option maxRecDepth 100000 in
set_option maxHeartbeats 4000000 in
theorem size_wthree (l : List UInt8) (p : Nat) (hp : p < l.length) (hs : l.length ≤ 4611686018427387904) (h : 224 ≤ l[p].toNat) (h' : l[p].toNat ≤ 239) (w : World) :
  Calls Tryz.prog 205 #[.string (bs l), .int .i64 p] w fun e w' => e = .returned (.int .i64 (sizeAt l p : Nat)) ∧ w = w' := by
 by_cases hl : p + 2 < l.length
 ·have hf := size_three l p hl h h'
  obtain ⟨R, hR⟩ : ∃ R, sizeAt l p = R := ⟨_, rfl⟩
  rw [hR] at hf ⊢
  clear hR
  have HF := Lib.hid hf
  clear hf
  go_enter Tryz.func205, Tryz.ntmps205
  go_wp2
  go_loop [8, 9] (fun v i => ∃ x k : Nat, v = .int .i64 x ∧ i = .int .i64 k ∧ 1 ≤ k ∧ k ≤ 3 ∧ ((k = 1 ∧ x < 64) ∨ (k = 2 ∧ x < 4096) ∨ (k = 3 ∧ x < 262144) ∨ (k = 4 ∧ x < 16777216)) ∧ finN 3 2048 (contGo l p (3 - k) k x) = R) (fun _ i => 3 - (RowKit.intOf i).toNat)
  case atStart => exact ⟨l[p].toNat - 224, 1, by go_num, rfl, by omega, by omega, by omega, HF.out⟩
  case round =>
   obtain ⟨x, k, rfl, rfl, hk1, hk, hx, hr⟩ := hrel
   by_cases hlt : k < 3
   ·have e : 3 - k = (3 - (k + 1)) + 1 := by omega
    rw [e] at hr
    simp only [contGo] at hr
    have hg := getD_at l (p + k) (by omega)
    rw [hg] at hr
    have hb := (l[p + k]'(by omega)).toNat_lt
    have hin : p + k < l.length := by omega
    by_cases hc : l[p + k].toNat < 128 ∨ 191 < l[p + k].toNat
    ·rw [if_pos hc] at hr
     have HR := Lib.hid hr
     clear hr hg e
     rcases hc with hc | hc
     ·go_wp2
      go_ret
      exact ⟨by rw [← HR.out]; rfl, rfl⟩
     ·have hc0 : 128 ≤ l[p + k].toNat := by omega
      go_wp2
      go_ret
      exact ⟨by rw [← HR.out]; rfl, rfl⟩
    ·rw [if_neg hc] at hr
     have HR := Lib.hid hr
     have hc1 : 128 ≤ l[p + k].toNat := by omega
     have hc2 : l[p + k].toNat ≤ 191 := by omega
     clear hr hg e hc
     go_wp2
     go_round
     case rel => exact ⟨64 * x + (l[p + k].toNat - 128), k + 1, by go_num, by go_num, by omega, by omega, by omega, HR.out⟩
     case measure => simp [RowKit.intOf]; omega
   ·have e : k = 3 := by omega
    subst e
    simp only [Nat.sub_self, contGo, finN] at hr
    by_cases hc : x < 2048 ∨ 1114111 < x ∨ (55296 ≤ x ∧ x ≤ 57343)
    ·rw [if_pos hc] at hr
     subst hr
     rcases (show (x < 2048) ∨ (2048 ≤ x ∧ 1114111 < x) ∨ (2048 ≤ x ∧ 55296 ≤ x ∧ x ≤ 57343 ∧ x ≤ 1114111) by omega) with c | ⟨c, c'⟩ | ⟨c, c', c'', c3⟩
     all_goals
      clear hc HF hx
      go_wp2
      go_ret
      exact ⟨rfl, rfl⟩
    ·rw [if_neg hc] at hr
     subst hr
     rcases (show (2048 ≤ x ∧ x < 55296) ∨ (2048 ≤ x ∧ 57343 < x ∧ x ≤ 1114111) by omega) with ⟨c, c'⟩ | ⟨c, c', c''⟩
     all_goals
      clear hc HF hx
      go_wp2
      go_ret
      exact ⟨rfl, rfl⟩
 ·rw [size_short l p hp (by omega)]
  go_enter Tryz.func205, Tryz.ntmps205
  go_wp2
  go_ret
  exact ⟨rfl, rfl⟩
set_option maxRecDepth 100000 in
set_option maxHeartbeats 4000000 in
theorem size_wfour (l : List UInt8) (p : Nat) (hp : p < l.length) (hs : l.length ≤ 4611686018427387904) (h : 240 ≤ l[p].toNat) (h' : l[p].toNat ≤ 244) (w : World) :
  Calls Tryz.prog 205 #[.string (bs l), .int .i64 p] w fun e w' => e = .returned (.int .i64 (sizeAt l p : Nat)) ∧ w = w' := by
 by_cases hl : p + 3 < l.length
 ·have hf := size_four l p hl h h'
  obtain ⟨R, hR⟩ : ∃ R, sizeAt l p = R := ⟨_, rfl⟩
  rw [hR] at hf ⊢
  clear hR
  have HF := Lib.hid hf
  clear hf
  go_enter Tryz.func205, Tryz.ntmps205
  go_wp2
  simp only [show decide (((l[p].toNat : Nat) : Int) ≤ 244) = true from decide_eq_true (by omega)]
  go_loop [8, 9] (fun v i => ∃ x k : Nat, v = .int .i64 x ∧ i = .int .i64 k ∧ 1 ≤ k ∧ k ≤ 4 ∧ ((k = 1 ∧ x < 64) ∨ (k = 2 ∧ x < 4096) ∨ (k = 3 ∧ x < 262144) ∨ (k = 4 ∧ x < 16777216)) ∧ finN 4 65536 (contGo l p (4 - k) k x) = R) (fun _ i => 4 - (RowKit.intOf i).toNat)
  case atStart => exact ⟨l[p].toNat - 240, 1, by go_num, rfl, by omega, by omega, by omega, HF.out⟩
  case round =>
   obtain ⟨x, k, rfl, rfl, hk1, hk, hx, hr⟩ := hrel
   by_cases hlt : k < 4
   ·have e : 4 - k = (4 - (k + 1)) + 1 := by omega
    rw [e] at hr
    simp only [contGo] at hr
    have hg := getD_at l (p + k) (by omega)
    rw [hg] at hr
    have hb := (l[p + k]'(by omega)).toNat_lt
    have hin : p + k < l.length := by omega
    by_cases hc : l[p + k].toNat < 128 ∨ 191 < l[p + k].toNat
    ·rw [if_pos hc] at hr
     have HR := Lib.hid hr
     clear hr hg e
     rcases hc with hc | hc
     ·go_wp2
      go_ret
      exact ⟨by rw [← HR.out]; rfl, rfl⟩
     ·have hc0 : 128 ≤ l[p + k].toNat := by omega
      go_wp2
      go_ret
      exact ⟨by rw [← HR.out]; rfl, rfl⟩
    ·rw [if_neg hc] at hr
     have HR := Lib.hid hr
     have hc1 : 128 ≤ l[p + k].toNat := by omega
     have hc2 : l[p + k].toNat ≤ 191 := by omega
     clear hr hg e hc
     go_wp2
     go_round
     case rel => exact ⟨64 * x + (l[p + k].toNat - 128), k + 1, by go_num, by go_num, by omega, by omega, by omega, HR.out⟩
     case measure => simp [RowKit.intOf]; omega
   ·have e : k = 4 := by omega
    subst e
    simp only [Nat.sub_self, contGo, finN] at hr
    by_cases hc : x < 65536 ∨ 1114111 < x ∨ (55296 ≤ x ∧ x ≤ 57343)
    ·rw [if_pos hc] at hr
     subst hr
     rcases (show (x < 65536) ∨ (65536 ≤ x ∧ 1114111 < x) by omega) with c | ⟨c, c'⟩
     all_goals
      clear hc HF hx
      go_wp2
      go_ret
      exact ⟨rfl, rfl⟩
    ·rw [if_neg hc] at hr
     subst hr
     obtain ⟨c, c', c''⟩ : 65536 ≤ x ∧ 57343 < x ∧ x ≤ 1114111 := by omega
     all_goals
      clear hc HF hx
      go_wp2
      go_ret
      exact ⟨rfl, rfl⟩
 ·rw [size_short l p hp (by omega)]
  go_enter Tryz.func205, Tryz.ntmps205
  go_wp2
  go_ret
  exact ⟨rfl, rfl⟩
set_option maxRecDepth 100000 in
set_option maxHeartbeats 1000000 in
theorem size_wbad (l : List UInt8) (p : Nat) (hp : p < l.length) (h : (128 ≤ l[p].toNat ∧ l[p].toNat < 194) ∨ 244 < l[p].toNat) (w : World) :
  Calls Tryz.prog 205 #[.string (bs l), .int .i64 p] w fun e w' => e = .returned (.int .i64 (0 : Nat)) ∧ w = w' := by
 have hb := l[p].toNat_lt
 rcases h with ⟨h, h'⟩ | h
 all_goals
  go_enter Tryz.func205, Tryz.ntmps205
  go_wp2
  go_ret
  exact ⟨rfl, rfl⟩
theorem size_any (l : List UInt8) (p : Nat) (hp : p < l.length) (hs : l.length ≤ 4611686018427387904) (w : World) :
  Calls Tryz.prog 205 #[.string (bs l), .int .i64 p] w fun e w' => e = .returned (.int .i64 (sizeAt l p : Nat)) ∧ w = w' := by
 by_cases h0 : l[p].toNat < 128
 ·rw [size_ascii l p hp h0]
  exact size_low l p hp h0 w
 ·by_cases h1 : l[p].toNat < 194
  ·rw [size_bad l p hp (.inl ⟨by omega, h1⟩)]
   exact size_wbad l p hp (.inl ⟨by omega, h1⟩) w
  ·by_cases h2 : l[p].toNat ≤ 223
   ·exact size_wtwo l p hp hs (by omega) h2 w
   ·by_cases h3 : l[p].toNat ≤ 239
    ·exact size_wthree l p hp hs (by omega) h3 w
    ·by_cases h4 : l[p].toNat ≤ 244
     ·exact size_wfour l p hp hs (by omega) h4 w
     ·rw [size_bad l p hp (.inr (by omega))]
      exact size_wbad l p hp (.inr (by omega)) w
end
section
open Go.Lib
def Scalar (c : Nat) : Prop := c < 55296 ∨ (57343 < c ∧ c ≤ 1114111)
theorem u8n (x : Int) (n : Nat) (h : x = n) (hn : n < 256) : (x.toNat.toUInt8).toNat = n := by
 subst h
 simp only [Int.toNat_natCast, UInt8.toNat_ofNat', Nat.toUInt8]
 omega
theorem decode_encode (c : Nat) (h : Scalar c) (t : List UInt8) : decodeL (encodeRune (c : Int) ++ t) = (c, (encodeRune (c : Int)).length) := by
 unfold Scalar at h
 by_cases h1 : c ≤ 127
 ·have e0 := u8n (c : Int) c rfl (by omega)
  rw [encodeRune, encodeRuneZ_one (by omega) (by omega)]
  simp only [List.map_cons, List.map_nil, List.cons_append, List.nil_append, List.length_cons, List.length_nil]
  rw [decodeL_ascii _ _ (by rw [e0]; omega), e0]
 ·by_cases h2 : c ≤ 2047
  ·obtain ⟨d, r, hd, hr, hc⟩ : ∃ d r, c / 64 = d ∧ c % 64 = r ∧ c = 64 * d + r := ⟨_, _, rfl, rfl, by omega⟩
   have hr' : r < 64 := by omega
   have e0 := u8n (192 + (c : Int) / 64) (192 + d) (by omega) (by omega)
   have e1 := u8n (128 + (c : Int) % 64) (128 + r) (by omega) (by omega)
   rw [encodeRune, encodeRuneZ_two (by omega) (by omega)]
   simp only [List.map_cons, List.map_nil, List.cons_append, List.nil_append, List.length_cons, List.length_nil]
   rw [decodeL_N]
   simp only [List.getD_cons_zero, List.getD_cons_succ, List.length_cons, e0, e1]
   clear hd hr e0 e1
   rw [dec2 _ _ _ _ _ (by omega) (by omega), if_pos (by omega)]
   refine Prod.ext ?_ rfl
   simp only
   omega
  ·by_cases h3 : c ≤ 65535
   ·obtain ⟨d, r, s, hd, hr, hs, hc⟩ : ∃ d r s, c / 4096 = d ∧ c / 64 % 64 = r ∧ c % 64 = s ∧ c = 4096 * d + 64 * r + s := ⟨_, _, _, rfl, rfl, rfl, by omega⟩
    have hr' : r < 64 := by omega
    have hs' : s < 64 := by omega
    have e0 := u8n (224 + (c : Int) / 4096) (224 + d) (by omega) (by omega)
    have e1 := u8n (128 + (c : Int) / 64 % 64) (128 + r) (by omega) (by omega)
    have e2 := u8n (128 + (c : Int) % 64) (128 + s) (by omega) (by omega)
    rw [encodeRune, encodeRuneZ_three (by omega)]
    simp only [List.map_cons, List.map_nil, List.cons_append, List.nil_append, List.length_cons, List.length_nil]
    rw [decodeL_N]
    simp only [List.getD_cons_zero, List.getD_cons_succ, List.length_cons, e0, e1, e2]
    clear hd hr hs e0 e1 e2
    have a0 : 224 + d - 224 = d := by omega
    have a1 : 128 + r - 128 = r := by omega
    have a2 : 128 + s - 128 = s := by omega
    rw [dec3 _ _ _ _ _ (by omega) (by omega), a0, a1, a2, if_pos (by omega)]
    refine Prod.ext ?_ rfl
    simp only
    omega
   ·obtain ⟨d, q, r, s, hd, hq, hr, hs, hc⟩ : ∃ d q r s, c / 262144 = d ∧ c / 4096 % 64 = q ∧ c / 64 % 64 = r ∧ c % 64 = s ∧ c = 262144 * d + 4096 * q + 64 * r + s := ⟨_, _, _, _, rfl, rfl, rfl, rfl, by omega⟩
    have hq' : q < 64 := by omega
    have hr' : r < 64 := by omega
    have hs' : s < 64 := by omega
    have e0 := u8n (240 + (c : Int) / 262144) (240 + d) (by omega) (by omega)
    have e1 := u8n (128 + (c : Int) / 4096 % 64) (128 + q) (by omega) (by omega)
    have e2 := u8n (128 + (c : Int) / 64 % 64) (128 + r) (by omega) (by omega)
    have e3 := u8n (128 + (c : Int) % 64) (128 + s) (by omega) (by omega)
    rw [encodeRune, encodeRuneZ_four (by omega) (by omega)]
    simp only [List.map_cons, List.map_nil, List.cons_append, List.nil_append, List.length_cons, List.length_nil]
    rw [decodeL_N]
    simp only [List.getD_cons_zero, List.getD_cons_succ, List.length_cons, e0, e1, e2, e3]
    clear hd hq hr hs e0 e1 e2 e3
    have a0 : 240 + d - 240 = d := by omega
    have a1 : 128 + q - 128 = q := by omega
    have a2 : 128 + r - 128 = r := by omega
    have a3 : 128 + s - 128 = s := by omega
    rw [dec4 _ _ _ _ _ (by omega) (by omega), a0, a1, a2, a3, if_pos (by omega)]
    refine Prod.ext ?_ rfl
    simp only
    omega
theorem encodeRune_len (c : Int) : 1 ≤ (encodeRune c).length ∧ (encodeRune c).length ≤ 4 := by
 have := encodeRuneZ_length c
 simpa [encodeRune] using this
theorem textU_len : ∀ r : List Nat, (textU r).length ≤ 4 * r.length
 | [] => by simp [textU]
 | c :: r => by
  have ih := textU_len r
  have hl := (encodeRune_len (c : Int)).2
  have e : textU (c :: r) = encodeRune (c : Int) ++ textU r := rfl
  rw [e]
  simp only [List.length_append, List.length_cons]
  omega
theorem name_valid (l : List UInt8) (h : nameL l = true) : validD l = true := by
 unfold nameL at h
 simp only [Bool.and_eq_true] at h
 exact h.1.2
end
end Go.Proofs.YtmgchjddpmmglaaGreatDoor
