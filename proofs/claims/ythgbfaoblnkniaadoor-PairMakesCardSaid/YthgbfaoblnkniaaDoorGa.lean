/-
  Small lemmas on worlds that the walks of this seat share. No conditions.
  What an argument's reading says of its cells: slices of whatever element. No conditions.
  The step from a law's walk ('returns true; all memory that was there stands as it stood') to its row, for whatever arguments. No conditions.
  Layer 7 (event): events in plain words and in memory; the table of first words. No conditions.
  An event as an argument; a table of texts as its initialiser lays it. No conditions.
  Layer 2 (name) in plain words: a text's runes, what a name is, which of two texts is ahead; no program in sight. No conditions.
  What the decoder finds at a lead byte of two, three and four bytes, as the reference of layer 2 (name) reckons it; no program in sight. No conditions.
  The walks of layer 2 (name): what each function of package name, and of its reference, returns; memory that was there stands as it was. No conditions.
  The walk of layer 1's reference (line): how many bytes the rune at a place has, 0 where there is none. No conditions.
  Layer 2 (name) in plain words: that runes printed as UTF-8 are read as the same runes, so that turned twice a name is itself; no program in sight. No conditions.
  Layer 1 (line) in plain words: a text's lines, in the program's way and in the reference's; no program in sight. No conditions.
  Nothing of the shelf is laid here at this seat (the functions are not reached).
  The walks of layer 1 (line): how many runes a text has, in the program and in its reference; whether two lists of texts are the same. No conditions.
  Slices of texts: what one holds, and the walk of the comparison of two. No conditions.
  The walks of layer 1 (line): a text's lines, in the program and in its reference. No conditions but that internal/bytealg.MaxLen holds a number.
  The statements LineOf and LineJoins of layer 1 (line), walked. No conditions but that internal/bytealg.MaxLen holds a number.
  Layer 1 (line) in plain words: a text without blanks at its ends, as strings.TrimFunc goes and byte by byte; no program in sight. No conditions.
  Nothing of the shelf is laid here at this seat (the functions are not reached).
  The walks of layer 1 (line): the runes ahead of a byte, and a text without blanks, in the program and in its reference; the statement LineRunes. No conditions but that unicode/utf8's two tables are as their initialisers lay them and that internal/bytealg.MaxLen holds a number.
  Layer 6 (split) in plain words: a line's words, by bytes and by runes; no program in sight. No conditions.
  Nothing of the shelf is laid here at this seat (the functions are not reached).
  The walks of layer 6 (split): a line's words, in the program. No conditions but that internal/bytealg.MaxLen holds a number.
  The walks of layer 6's reference (split): a line's words. No conditions.
  The walks of layer 6 (split): remarks, texts joined, and the statement SplitWords. No conditions but that unicode/utf8's two tables are as their initialisers lay them and that internal/bytealg.MaxLen holds a number.
  Layer 6 (split): words joined and parted again are the same words, in plain words; and the statements SplitJoins and SplitAgain, walked. No conditions but that unicode/utf8's two tables are as their initialisers lay them and that internal/bytealg.MaxLen holds a number.
  Type assertions on a cell's value, as closed facts of the program's own tables. No conditions.
  Which values may be, in plain words. No conditions.
  Plain law of layer 3 (digit): a number's decimal text, the number of a text; they undo one another. No program in sight.
  The walks of layer 3 (digit): what each function of package digit, and of its reference, returns; memory that was there stands as it was. No conditions.
  The walks of Parse, of package digit and of its reference: a text's number, or the error. Texts of at most 2^62 bytes (every readable text is shorter).
  The walks of Print, of package digit and of its reference: any number's text. No conditions but that the number is an int64.
  Layer 3 (digit): what reading a text gives, at a known answer; how great it may be. Texts of at most 2^63 - 2 bytes.
  The walks of layer 5 (value): May, Print, Parse, Less, of the package and of its reference; each leaves all memory that was there as it was. Texts of at most 2^63 - 2 bytes.
  Layer 5 (value), in plain words: reading undoes printing. No conditions.
  Layer 7 (event) in plain words: which events may be, their lines, what a line is read as; that reading undoes printing, and that what is read may be; no program in sight. No conditions.
-/
import Derived.Test.YthgbfaoblnkniaaDoorRows
import Derived.Handy
import Derived.WalkSpells
import Derived.WalkLawsBesides
import Derived.Deep.RegionHeld3
import Derived.Deep.DrawnRows
import Derived.Lib.Hide
import Derived.Lib.Strings
import Derived.Lib.SmallJoins
import Derived.Deep.QuietTactic
import Derived.Deep.RegionWith
import Derived.BigQuiet
import Derived.Deep.Slices
import Derived.ChangeSame
import Derived.ProofKit
import Derived.OpenShut
import Derived.SizedLaws
import Derived.Lib.LaidU8
import Derived.Lib.ValidLaws
import Derived.Lib.MapLaws
import GoSem.Conv.StringToRunes
import Derived.Lib.DecodeN
import Derived.Lib.RuneBytes
import Derived.Lib.SplitLaws
import Derived.Test.YthgbfaoblnkniaaDoorProg
import Derived.Laws.RangeAny
import Derived.WalkKit
import Derived.Laws.AppendOwn
import Derived.Shelf.GgClosure.StringsTrimFunc
import Derived.WalkSmall
import Derived.Deep.AppendLies
import Derived.IntWalk
import Derived.Lib.Join
namespace Go.Proofs.YthgbfaoblnkniaaDoor
open Go.RowKit
theorem cell_past {w : World} {a : Addr} {v : Value} (o : Obj) (h : w.cell? a = some v) : (w.alloc o).cell? a = some v :=
 cell_later ((Below.refl _ _).alloc (Nat.le_refl _) o) h
theorem cell_drew {w : World} {a : Addr} {v : Value} (h : w.cell? a = some v) : w.drew.cell? a = some v := h
theorem below_next {w a b : World} (h : Below w.heap.size w a) (k : Below a.heap.size a b) : Below w.heap.size w b := h.trans (k.mono h.size)
theorem bcell {W w1 : World} (hb : Below W.heap.size W w1) : (∀ b o, b < W.heap.size → w1.cell? ⟨b, o, none⟩ = W.cell? ⟨b, o, none⟩) ∧ (∀ b o, b < W.heap.size → w1.frozen? ⟨b, o, none⟩ = W.frozen? ⟨b, o, none⟩) :=
 ⟨fun b o h => hb.cell (p := ⟨b, o, none⟩) h, fun b o h => hb.frozen (p := ⟨b, o, none⟩) h⟩
def bs (l : List UInt8) : ByteArray := ⟨l.toArray⟩
theorem bs_data (s : ByteArray) : s = bs s.data.toList := by
 obtain ⟨⟨l⟩⟩ := s
 rfl
theorem bs_size (l : List UInt8) : (bs l).size = l.length := by simp [bs, ByteArray.size]
theorem bs_toList (l : List UInt8) : (bs l).toList = l := by rw [Lib.toList_data]; simp [bs]
theorem bs_extract (l : List UInt8) (a b : Nat) : (bs l).extract a b = bs ((l.drop a).take (b - a)) := by
 have h := Lib.extract_data (bs l) a b
 rw [bs_data ((bs l).extract a b), h]; simp [bs]
theorem bs_append (a b : List UInt8) : bs a ++ bs b = bs (a ++ b) := by
 rw [bs_data (bs a ++ bs b), Joins.data_append]; simp [bs]
theorem bs_get (l : List UInt8) (i : Nat) (h : i < (bs l).size) : (bs l)[i] = l[i]'(by rw [bs_size] at h; exact h) := by
 rfl
attribute [go_sem] bs_size bs_toList bs_extract bs_append bs_get
structure Later (W : World) where
 w : World
 h : Below W.heap.size W w
instance (W : World) : Nonempty (Later W) := ⟨⟨W, Below.refl _ _⟩⟩
theorem Later.cell {W : World} (x : Later W) (b o : Nat) (hb : b < W.heap.size) : x.w.cell? ⟨b, o, none⟩ = W.cell? ⟨b, o, none⟩ := x.h.cell (p := ⟨b, o, none⟩) hb
theorem Later.frozen {W : World} (x : Later W) (b o : Nat) (hb : b < W.heap.size) : x.w.frozen? ⟨b, o, none⟩ = W.frozen? ⟨b, o, none⟩ := x.h.frozen (p := ⟨b, o, none⟩) hb
theorem Later.call {P : Program} {f : FuncId} {args : Array Value} {W : World} {x : Later W} {v : Value}
  (h : Calls P f args x.w fun e w' => e = .returned v ∧ Below x.w.heap.size x.w w') : Calls P f args x.w fun e w'' => e = .returned v ∧ ∃ m : Later W, w'' = m.w :=
 h.mono fun _ w' ⟨he, hm⟩ => ⟨he, ⟨w', below_next x.h hm⟩, rfl⟩
theorem wp_region_later {P : Program} {id : Nat} {Q : Exit → Act → World → Prop} {a : Act} {w : World} {l : List Oper} (hm : P.follows .mixedOrders = true) (hB : Region.lexB .any l.toArray = true)
  (h : wpQuiet P l.toArray (fun w' => ∃ x : Later w, w' = x.w) (fun a' => ∀ w', (∃ x : Later w, w' = x.w) → Q .normal a' w') l a) : (Code.region id l.toArray true).wp P Q a w :=
 wp_region_quiet (C := fun w' => ∃ x : Later w, w' = x.w) hm hB ⟨⟨w.drew, (Below.refl _ _).drew⟩, rfl⟩ (by simpa using h)
end Go.Proofs.YthgbfaoblnkniaaDoor

namespace Go.Proofs.YthgbfaoblnkniaaDoor
open Go.ChangeShapes Go.WideShapes Go.RowKit
def SlR {α : Type} (size : Nat) (R : World → List Value → α → Prop) (w : World) (v : Value) (L : List α) : Prop :=
 ∃ p cap, v = .slice p L.length cap ∧ L.length ≤ cap ∧ cap ≤ maxLen ∧ ∀ (j : Nat) (hj : j < L.length), ∃ (a : Addr) (cs : List Value), p = some a ∧ cs.length = size ∧ (∀ (i : Nat) (u : Value), cs[i]? = some u → w.cell? (a.add (j * size + i)) = some u) ∧ R w cs L[j]
theorem SlR.below {α : Type} {size : Nat} {R : World → List Value → α → Prop} (hR : ∀ w w' cs m, Below w.heap.size w w' → R w cs m → R w' cs m) {w w' : World} {v : Value} {L : List α} (h : SlR size R w v L) (hb : Below w.heap.size w w') : SlR size R w' v L := by
 obtain ⟨p, cap, hv, hl, hm, hc⟩ := h
 refine ⟨p, cap, hv, hl, hm, fun j hj => ?_⟩
 obtain ⟨a, cs, hp, hs, h1, h2⟩ := hc j hj
 exact ⟨a, cs, hp, hs, fun i u hu => cell_later hb (h1 i u hu), hR _ _ _ _ hb h2⟩
theorem SlR.mono {α : Type} {size : Nat} {R R' : World → List Value → α → Prop} {w : World} {v : Value} {L : List α} (h : SlR size R w v L) (hR : ∀ cs m, m ∈ L → R w cs m → R' w cs m) : SlR size R' w v L := by
 obtain ⟨p, cap, hv, hl, hm, hc⟩ := h
 refine ⟨p, cap, hv, hl, hm, fun j hj => ?_⟩
 obtain ⟨a, cs, hp, hs, h1, h2⟩ := hc j hj
 exact ⟨a, cs, hp, hs, h1, hR _ _ (List.getElem_mem hj) h2⟩
theorem pick_lt {β : Type} [Nonempty β] {n : Nat} {p : Nat → β → Prop} (h : ∀ i, i < n → ∃ b, p i b) : ∃ f : Nat → β, ∀ i, i < n → p i (f i) := by
 refine ⟨fun i => if hi : i < n then Classical.choose (h i hi) else Classical.choice inferInstance, fun i hi => ?_⟩
 simp only [dif_pos hi]
 exact Classical.choose_spec (h i hi)
section
variable {H : Type} {enc : TypeId × Value → H} {P : Program} {w : World} {base : Nat} {spare : Nat → Bool} {held : Bool}
theorem open_slR {α : Type} [Nonempty α] {size : Nat} {R : World → List Value → α → Prop} {t e : TypeId} {fuel : Nat} {cs : List Value} {x : DataW H × List MemPlace} (ht : P.underlying t = some (.slice e)) (hc : P.cellsOf e = size)
  (hR : ∀ n cs y, DataW.trod enc P w base spare held n e cs = some y → ∃ m, R w cs m) (h : DataW.trod enc P w base spare held fuel t cs = some x) : ∃ v L, cs = [v] ∧ SlR size R w v L := by
 rcases Go.Deep.open_slice ht h with ⟨rfl, -⟩ | ⟨a, len, cap, m, n, D, Pl, rfl, -, hl, hm, hmm, -, hi⟩
 ·exact ⟨_, [], rfl, none, 0, rfl, Nat.le_refl _, Nat.zero_le _, fun j hj => absurd hj (Nat.not_lt_zero j)⟩
 ·have hle : len ≤ m := by rw [hmm]; split <;> omega
  obtain ⟨M, hM⟩ := pick_lt (β := α) (n := len) (p := fun i m => ∃ cs', cs'.length = size ∧ (∀ (i' : Nat) (u : Value), cs'[i']? = some u → w.cell? (a.add (i * size + i')) = some u) ∧ R w cs' m) (fun i hil => by
   obtain ⟨cs', h1, h2⟩ := hi i (by omega)
   rw [hc] at h1
   obtain ⟨_, hlen, hat⟩ := World.cells?_some h1
   obtain ⟨m', hm'⟩ := hR _ _ _ h2
   refine ⟨m', cs', hlen, fun i' u hu => ?_, hm'⟩
   have hi' : i' < size := by
    have := (List.getElem?_eq_some_iff.1 hu).1
    omega
   rw [← Go.Deep.add_add, hat i' hi', hu])
  refine ⟨_, (List.range len).map M, rfl, some a, cap, by simp, by simpa using hl, hm, fun j hj => ?_⟩
  have hj' : j < len := by simpa using hj
  obtain ⟨cs', h1, h2, h3⟩ := hM j hj'
  exact ⟨a, cs', rfl, h1, h2, by simpa using h3⟩
theorem trod_len {fs : Array Field} {t : TypeId} {fuel : Nat} {cs : List Value} {x : DataW H × List MemPlace} (ht : P.underlying t = some (.struct fs)) (h : DataW.trod enc P w base spare held fuel t cs = some x) : cs.length = P.cellsOf t := by
 obtain ⟨xs, n, -, -, hl, -, -⟩ := DataW.trod_struct ht h
 exact hl
theorem trod_at {fs : Array Field} {t : TypeId} {fuel : Nat} {cs : List Value} {x : DataW H × List MemPlace} (i o : Nat) (ty : TypeId) (s : Nat) {f : Field} (ht : P.underlying t = some (.struct fs)) (h : DataW.trod enc P w base spare held fuel t cs = some x) (hi : fs[i]? = some f) (ho : f.offset = o) (hty : f.type = ty) (hs : P.cellsOf ty = s) :
  ∃ n y, DataW.trod enc P w base spare held n ty ((cs.drop o).take s) = some y := by
 obtain ⟨xs, n, -, -, hl, hlen, hf⟩ := DataW.trod_struct ht h
 refine ⟨n, xs[i]'(by rw [hlen]; exact (Array.getElem?_eq_some_iff.1 hi).1), ?_⟩
 have := hf i f hi
 subst ho hty hs
 rw [this]
 simp
end
end Go.Proofs.YthgbfaoblnkniaaDoor

namespace Go.Proofs.YthgbfaoblnkniaaDoor
open Go.ChangeShapes Go.WideShapes Go.ChangeAt Go.RowKit
theorem Tryd.own : ownKnob Tryd.prog.godebug = none := by kernel_rfl
theorem Tryd.laidOut : laidOutB Tryd.prog = true := by kernel_rfl
section
variable {H : Type} {enc : TypeId × Value → H} {P : Program}
theorem trodAll_later {W W' : World} (hl : laidOutB P = true) (hb : Below W.heap.size W W') {sp : Nat → Bool} : ∀ (ts : List TypeId) (vs : List Value) (ds : List (DataW H)) (ps : List MemPlace),
  ts.all (fun t => P.readableRec t && decide (t < P.types.size)) = true → DataW.TrodAll enc P W 0 (fun _ => true) true ts vs ds ps → (∀ x ∈ ps, x.block < W.heap.size) → (∀ x ∈ ps, sp x.block = true) →
  DataW.TrodAll enc P W' 0 sp true ts vs ds ps
 | [], vs, ds, ps, _, h, _, _ => by
  obtain ⟨rfl, rfl, rfl⟩ := trodAll_nil h
  exact trodAll_mk0
 | t :: ts, vs, ds, ps, hts, h, hlt, hsp => by
  obtain ⟨v, vs', d, ds', p, q, rfl, rfl, rfl, h0, h1⟩ := trodAll_cons h
  simp only [List.all_cons, Bool.and_eq_true, decide_eq_true_eq] at hts
  exact trodAll_cons_mk
   (WideElems.Trod_stays hl hts.1.1 hts.1.2 h0 (fun x hx => hb.same (hlt x (List.mem_append_left _ hx))) (fun x hx => hsp x (List.mem_append_left _ hx)))
   (trodAll_later hl hb ts vs' ds' q hts.2 h1 (fun x hx => hlt x (List.mem_append_right _ hx)) (fun x hx => hsp x (List.mem_append_right _ hx)))
theorem post_of_below {f : Func} {s : ChangeSpec} {apart fresh handsOn again : Bool}
  {W W' : World} {args : Array Value} {v : Value} {ds gs : List (DataW H)} {before pa pv : List MemPlace}
  (hW : DataW.Whole enc P f.params.toList s.vars apart W args.toList ds gs before)
  (hres : ∀ (b : Nat) (sp : Nat → Bool) (hd : Bool), DataW.TrodAll enc P W' b sp hd f.resultTypes.toList (v.resultList f.resultTypes.size) (s.fn H (ds ++ gs)).results [])
  (hargs : ∀ sp : Nat → Bool, (∀ p ∈ before, sp p.block = true) → DataW.TrodAll enc P W' 0 sp true f.params.toList args.toList (s.fn H (ds ++ gs)).args pa)
  (hvars : ∀ sp : Nat → Bool, (∀ p ∈ before, sp p.block = true) → DataW.TrodVars enc P W' sp s.vars (s.fn H (ds ++ gs)).vars pv)
  (hps : before = pa ++ pv) (hb : Below W.heap.size W W')
  (hok : ∀ (j : Nat) (t : TypeId) (r : Value), f.resultTypes[j]? = some t → (v.resultList f.resultTypes.size)[j]? = some r → Value.okWide P W' .any 0 t r) :
  s.post enc P f apart fresh handsOn again W args v W' := by
 have hlt : ∀ p ∈ before, p.block < W.heap.size := fun p hp => hW.lt p hp
 have hold : ∀ p ∈ before, (fun b => decide (b < W.heap.size)) p.block = true := fun p hp => by simpa using hlt p hp
 refine ⟨ds, gs, before, [], pa, pv, hW, hres _ _ _, hargs _ hold, hvars _ hold, World.keptBut_mono (fun p hp => ⟨hp, ?_⟩) (hb.frame (· ∈ before)), fun _ => ?_⟩
 ·rw [hps, List.mem_append] at hp
  exact Or.inr hp
 ·obtain ⟨_, _, _, _, _, hz, hn⟩ := hW
  refine ⟨hok, _, _, ([] ++ pa) ++ pv, ⟨[] ++ pa, pv, trodAll_append (hargs _ (fun _ _ => rfl)) (hres _ _ _), hvars _ (fun _ _ => rfl), rfl, ?_, ?_⟩, ?_⟩
  ·intro b off hp
   have hin : MemPlace.cell b off ∈ before := by rw [hps]; simpa using hp
   rw [hb.frozen (hlt _ hin)]
   exact hz b off hin
  ·intro ha
   have := hn ha
   rw [hps] at this
   simpa using this
  ·intro p hp _
   rw [hps]
   simpa using hp
theorem law_post {f : Func} {s : ChangeSpec} {tb : TypeId} (hu : P.underlying tb = some .bool) (hl : laidOutB P = true) (hrt : f.resultTypes = #[tb]) (hro : (Value.bool true).resultList 1 = [.bool true])
  (hts : f.params.toList.all (fun t => P.readableRec t && decide (t < P.types.size)) = true)
  {W W' : World} {args : Array Value} {ds : List (DataW H)} {before : List MemPlace} (hvs : s.vars = [])
  (hW : DataW.Whole enc P f.params.toList s.vars false W args.toList ds [] before)
  (hA : DataW.TrodAll enc P W 0 (fun _ => true) true f.params.toList args.toList ds before)
  (hres : (s.fn H (ds ++ [])).results = [.lit (.bool true)]) (hargs : (s.fn H (ds ++ [])).args = ds) (hvars : (s.fn H (ds ++ [])).vars = []) (hb : Below W.heap.size W W') :
  s.post enc P f false true false false W args (.bool true) W' := by
 have hlt : ∀ p ∈ before, p.block < W.heap.size := fun p hp => hW.lt p hp
 refine post_of_below (pa := before) (pv := []) hW (fun b sp hd => ?_) (fun sp hsp => ?_) (fun sp _ => ?_) (by simp) hb ?_
 ·rw [hres, hrt]
  exact trodAll_mk1 (shut_bool hu true)
 ·rw [hargs]
  exact trodAll_later hl hb _ _ _ _ hts hA hlt hsp
 ·rw [hvars, hvs]; rfl
 ·intro j t r hj hr
  rw [hrt] at hj hr
  rw [show (#[tb] : Array TypeId).size = 1 from rfl, hro] at hr
  match j with
  | 0 =>
   simp at hj hr
   subst hj; subst hr
   exact okWide_bool_mk hu _
  | j + 1 => simp at hj
end
theorem wf_wrap64 {x : Int} (h : (Lit.int .i64 x).wf = true) : IntKind.i64.wrap x = x := by
 have hb : -9223372036854775808 ≤ x ∧ x ≤ 9223372036854775807 := by simpa [Lit.wf, IntKind.min, IntKind.max, IntKind.signed, IntKind.bits] using h
 exact IntWalk.i64_in x hb
theorem wf_bounds {x : Int} (h : (Lit.int .i64 x).wf = true) : -9223372036854775808 ≤ x ∧ x ≤ 9223372036854775807 := by
 simpa [Lit.wf, IntKind.min, IntKind.max, IntKind.signed, IntKind.bits] using h
end Go.Proofs.YthgbfaoblnkniaaDoor

namespace Go.Proofs.YthgbfaoblnkniaaDoor
open Go.RowKit
abbrev EventM := Int × List UInt8 × List UInt8 × Int × Int × Int
def noEv : EventM := (0, [], [], 0, 0, 0)
def longK (k : Int) : Bool := k == 2 || k == 3
theorem long_cases (k : Int) : (k = 2 ∧ longK k = true) ∨ (k = 3 ∧ longK k = true) ∨ ((k == 2) = false ∧ (k == 3) = false ∧ longK k = false) := by
 by_cases h2 : k = 2
 ·exact .inl ⟨h2, by simp [longK, h2]⟩
 ·by_cases h3 : k = 3
  ·exact .inr (.inl ⟨h3, by simp [longK, h3]⟩)
  ·exact .inr (.inr ⟨by simpa using h2, by simpa using h3, by simp [longK, h2, h3]⟩)
end Go.Proofs.YthgbfaoblnkniaaDoor

namespace Go.Proofs.YthgbfaoblnkniaaDoor
open Go.ChangeShapes Go.WideShapes Go.ChangeAt Go.RowKit Go.Joins Go.Lib
def evCells (x : EventM) : List Value := [.int .i64 x.1, .string (bs x.2.1), .string (bs x.2.2.1), .int .i64 x.2.2.2.1, .int .i64 x.2.2.2.2.1, .int .i64 x.2.2.2.2.2]
def EvR (_ : World) (cs : List Value) (x : EventM) : Prop := cs = evCells x ∧ x.2.1.length ≤ 9223372036854775807 ∧ x.2.2.1.length ≤ 9223372036854775807 ∧ -9223372036854775808 ≤ x.2.2.2.2.1 ∧ x.2.2.2.2.1 ≤ 9223372036854775807
section
variable {H : Type} {enc : TypeId × Value → H} {w : World} {base : Nat} {spare : Nat → Bool} {held : Bool}
theorem str_of {s : ByteArray} (hs : s.size ≤ maxLen) : s.data.toList.length ≤ 9223372036854775807 := by
 unfold maxLen at hs
 rw [Lib.size_eq] at hs
 exact hs
set_option maxRecDepth 100000 in
theorem open_event {n : Nat} {cs : List Value} {y : DataW H × List MemPlace} (h : DataW.trod enc Tryd.prog w base spare held n 28 cs = some y) : ∃ x, EvR w cs x := by
 have hl := trod_len Tryd.underlying28 h
 obtain ⟨n0, y0, h0⟩ := trod_at 0 0 3 1 Tryd.underlying28 h rfl rfl rfl (by kernel_rfl)
 obtain ⟨n1, y1, h1⟩ := trod_at 1 1 9 1 Tryd.underlying28 h rfl rfl rfl (by kernel_rfl)
 obtain ⟨n2, y2, h2⟩ := trod_at 2 2 9 1 Tryd.underlying28 h rfl rfl rfl (by kernel_rfl)
 obtain ⟨n3, y3, h3⟩ := trod_at 3 3 26 2 Tryd.underlying28 h rfl rfl rfl (by kernel_rfl)
 obtain ⟨n4, y4, h4⟩ := trod_at 4 5 3 1 Tryd.underlying28 h rfl rfl rfl (by kernel_rfl)
 have hl3 := trod_len Tryd.underlying26 h3
 obtain ⟨m0, z0, g0⟩ := trod_at 0 0 3 1 Tryd.underlying26 h3 rfl rfl rfl (by kernel_rfl)
 obtain ⟨m1, z1, g1⟩ := trod_at 1 1 2 1 Tryd.underlying26 h3 rfl rfl rfl (by kernel_rfl)
 obtain ⟨k, hk, -, -⟩ := DataW.trod_int Tryd.underlying3 h0
 obtain ⟨s, hs, -, ls⟩ := DataW.trod_string Tryd.underlying9 h1
 obtain ⟨key, hkey, -, lk⟩ := DataW.trod_string Tryd.underlying9 h2
 obtain ⟨vk, hvk, -, -⟩ := DataW.trod_int Tryd.underlying3 g0
 obtain ⟨vn, hvn, -, wn⟩ := DataW.trod_int Tryd.underlying2 g1
 obtain ⟨ln, hln, -, -⟩ := DataW.trod_int Tryd.underlying3 h4
 have hb := wf_bounds wn
 rw [show Tryd.prog.cellsOf 28 = 6 by kernel_rfl] at hl
 match cs, hl with
 | [c0, c1, c2, c3, c4, c5], _ =>
  simp at hk hs hkey hvk hvn hln
  refine ⟨(k, s.data.toList, key.data.toList, vk, vn, ln), ?_, str_of ls, str_of lk, hb.1, hb.2⟩
  simp only [evCells, hk, hs, hkey, hvk, hvn, hln, ← bs_data]
set_option maxRecDepth 100000 in
theorem open_ev {r : Reach} {b0 : Nat} {v : Value} {d : DataW H} {ps : List MemPlace} (hval : Value.okWide Tryd.prog w r b0 28 v) (hd : DataW.Trod enc Tryd.prog w base spare held 28 v d ps) :
  ∃ k s key vk n ln, v = .agg #[.int .i64 k, .string (bs s), .string (bs key), .int .i64 vk, .int .i64 n, .int .i64 ln] ∧ s.length ≤ 9223372036854775807 ∧ key.length ≤ 9223372036854775807 ∧ -9223372036854775808 ≤ n ∧ n ≤ 9223372036854775807 := by
 obtain ⟨cs, rfl, -⟩ := okWide_struct Tryd.underlying28 hval
 obtain ⟨fuel, hf⟩ := hd
 obtain ⟨x, hx, h1, h2, h3, h4⟩ := open_event hf
 refine ⟨x.1, x.2.1, x.2.2.1, x.2.2.2.1, x.2.2.2.2.1, x.2.2.2.2.2, ?_, h1, h2, h3, h4⟩
 have e : cs.toList = evCells x := hx
 obtain ⟨l⟩ := cs
 simp only at e
 rw [e]
 rfl
end
theorem strs_of_reads {P : Program} {W : World} {name : String} {g : Nat} {t e : TypeId} {L : List (List UInt8)} (hn : P.globalNamed name = some g) (hty : (P.globals[g]?).map (·.type) = some t) (ht : P.underlying t = some (.array L.length e)) (he : P.underlying e = some .string) (hce : P.cellsOf e = 1)
  (h : VarReads P W name (.agg (L.map fun l => .lit (.string l)))) : ∀ i, i < L.length → W.cell? ⟨g, i, none⟩ = some (.string (bs (L.getD i []))) := by
 intro i hi
 obtain ⟨g', t', cs, fuel, p, hg, hty', hvar, hd⟩ := h
 obtain rfl := Option.some.inj (hn.symm.trans hg)
 obtain rfl := Option.some.inj (hty.symm.trans hty')
 obtain ⟨fuel', d, q, hdi, hel⟩ := array_elem ht hd i hi
 rw [hce, Nat.mul_one] at hel
 obtain ⟨s, hs, hx, -⟩ := DataW.trod_string he hel
 rw [World.var?_cell hg hvar i, ← Array.getElem?_toList]
 have h1 := congrArg (fun x : List Value => x[0]?) hs
 simp only [List.getElem?_take, List.getElem?_drop] at h1
 have h2 : (DataW.lit (.string (L.getD i [])) : DataW Unit) = .lit (.string s.data.toList) := by
  have h3 := congrArg Prod.fst hx
  simp only at h3
  rw [← h3]
  rw [List.getElem?_map, List.getElem?_eq_getElem hi] at hdi
  simp only [Option.map_some, Option.some.injEq] at hdi
  rw [← hdi]
  simp [hi]
 injection h2 with h2
 injection h2 with h2
 rw [h2, ← bs_data]
 simpa using h1
end Go.Proofs.YthgbfaoblnkniaaDoor

namespace Go.Proofs.YthgbfaoblnkniaaDoor
open Go.Lib
def runesGo : Nat → List UInt8 → List Nat
 | 0, _ => []
 | n + 1, l => if l = [] then [] else (decodeL l).1 :: runesGo n (l.drop (decodeL l).2)
def runesU (l : List UInt8) : List Nat := runesGo l.length l
theorem runesGo_nil : ∀ n, runesGo n [] = []
 | 0 => rfl
 | _ + 1 => by simp [runesGo]
theorem runesGo_fuel : ∀ (n m : Nat) (l : List UInt8), l.length ≤ n → l.length ≤ m → runesGo n l = runesGo m l
 | 0, m, l, hn, _ => by
  have : l = [] := List.eq_nil_of_length_eq_zero (by omega)
  subst this
  rw [runesGo_nil, runesGo_nil]
 | n + 1, 0, l, _, hm => by
  have : l = [] := List.eq_nil_of_length_eq_zero (by omega)
  subst this
  rw [runesGo_nil, runesGo_nil]
 | n + 1, m + 1, l, hn, hm => by
  unfold runesGo
  by_cases hne : l = []
  ·simp [hne]
  ·have hw := decodeL_width l
   have hl : 0 < l.length := List.length_pos_iff.2 hne
   rw [if_neg hne, if_neg hne, runesGo_fuel n m (l.drop (decodeL l).2) (by rw [List.length_drop]; omega) (by rw [List.length_drop]; omega)]
theorem runesU_nil : runesU [] = [] := rfl
theorem runesU_step (l : List UInt8) (hne : l ≠ []) : runesU l = (decodeL l).1 :: runesU (l.drop (decodeL l).2) := by
 have hl : 0 < l.length := List.length_pos_iff.2 hne
 have hw := decodeL_width l
 obtain ⟨n, hn⟩ : ∃ n, l.length = n + 1 := ⟨l.length - 1, by omega⟩
 unfold runesU
 rw [hn]
 show (if l = [] then [] else _) = _
 rw [if_neg hne, runesGo_fuel n (l.drop (decodeL l).2).length _ (by rw [List.length_drop]; omega) (Nat.le_refl _)]
theorem runesGo_length : ∀ (n : Nat) (l : List UInt8), (runesGo n l).length ≤ n
 | 0, _ => by simp [runesGo]
 | n + 1, l => by
  unfold runesGo
  split
  ·simp
  ·have := runesGo_length n (l.drop (decodeL l).2)
   simp only [List.length_cons]; omega
theorem runesU_length (l : List UInt8) : (runesU l).length ≤ l.length := runesGo_length _ _
theorem runesFrom_go (s : ByteArray) : ∀ (b i : Nat) (acc : Array Value), Conv.runesFrom s b i acc = acc ++ ((runesGo b (s.data.toList.drop i)).map fun (n : Nat) => Value.int .i32 (n : Int)).toArray
 | 0, i, acc => by simp [Conv.runesFrom, runesGo]
 | b + 1, i, acc => by
  unfold Conv.runesFrom runesGo
  by_cases h : i < s.size
  ·have hne : s.data.toList.drop i ≠ [] := by
    intro e
    have := congrArg List.length e
    simp at this
    omega
   rw [if_pos h, if_neg hne]
   simp only []
   rw [runesFrom_go s b]
   simp [decodeL_drop, List.drop_drop]
  ·have he : s.data.toList.drop i = [] := List.drop_eq_nil_of_le (by rw [← Lib.size_eq]; omega)
   rw [if_neg h, he]
   simp
theorem runesFrom_all (l : List UInt8) : Conv.runesFrom (bs l) (bs l).size 0 #[] = ((runesU l).map fun (n : Nat) => Value.int .i32 (n : Int)).toArray := by
 rw [runesFrom_go]
 simp [bs, runesU, ByteArray.size]
def dig (c : Nat) : Bool := decide (48 ≤ c) && decide (c ≤ 57)
def part (c : Nat) : Bool := decide (127 < c) || decide (c = 95) || dig c || (decide (97 ≤ c) && decide (c ≤ 122)) || (decide (65 ≤ c) && decide (c ≤ 90))
def resL (l : List UInt8) : Bool :=
 decide (l = [98, 101, 103, 105, 110] ∨ l = [114, 101, 97, 100] ∨ l = [119, 114, 105, 116, 101] ∨ l = [111, 107] ∨ l = [102, 97, 105, 108] ∨ l = [105, 110, 102, 111] ∨ l = [110, 105, 108])
def word (r : List Nat) : Bool := decide (0 < r.length) && decide (r.length ≤ 20) && r.all part && !dig (r.getD 0 0)
def nameL (l : List UInt8) : Bool := !resL l && validD l && word (runesU l)
def lexLess : List Nat → List Nat → Bool
 | [], [] => false
 | [], _ :: _ => true
 | _ :: _, [] => false
 | a :: x, b :: y => if a = b then lexLess x y else decide (a < b)
def lexCmp : List Nat → List Nat → Int
 | [], [] => 0
 | [], _ :: _ => -1
 | _ :: _, [] => 1
 | a :: x, b :: y => if a = b then lexCmp x y else if a < b then -1 else 1
theorem lexCmp_less : ∀ x y, lexLess x y = decide (lexCmp x y < 0)
 | [], [] => rfl
 | [], _ :: _ => rfl
 | _ :: _, [] => rfl
 | a :: x, b :: y => by
  unfold lexLess lexCmp
  split
  ·exact lexCmp_less x y
  ·split <;> simp [*]
theorem lex_same : ∀ x y, (x = y) ↔ (lexLess x y = lexLess y x)
 | [], [] => by simp [lexLess]
 | [], _ :: _ => by simp [lexLess]
 | _ :: _, [] => by simp [lexLess]
 | a :: x, b :: y => by
  unfold lexLess
  by_cases h : a = b
  ·subst h
   simp [lex_same x y]
  ·have h' : ¬ b = a := fun e => h e.symm
   simp [h, h']
   omega
theorem decodeL_le' (l : List UInt8) (hne : l ≠ []) : 1 ≤ (decodeL l).2 ∧ (decodeL l).2 ≤ l.length := ⟨decodeL_width l, decodeL_le l hne⟩
def textU (r : List Nat) : List UInt8 := r.flatMap fun (c : Nat) => encodeRune (c : Int)
theorem textU_runes : ∀ (n : Nat) (l : List UInt8), l.length ≤ n → validD l = true → textU (runesU l) = l
 | 0, l, h, _ => by
  have : l = [] := List.eq_nil_of_length_eq_zero (by omega)
  subst this; rfl
 | n + 1, l, h, hv => by
  by_cases hne : l = []
  ·subst hne; rfl
  ·have hw := decodeL_le' l hne
   rw [validD_step l hne] at hv
   by_cases hb : (decodeL l).1 = 65533 ∧ (decodeL l).2 = 1
   ·simp [hb] at hv
   ·rw [if_neg hb] at hv
    have ih := textU_runes n (l.drop (decodeL l).2) (by rw [List.length_drop]; omega) hv
    rw [runesU_step l hne]
    show encodeRune ((decodeL l).1 : Int) ++ textU (runesU (l.drop (decodeL l).2)) = l
    rw [encode_decode l hne hb, ih, List.take_append_drop]
theorem runes_inj (a b : List UInt8) (ha : validD a = true) (hb : validD b = true) : runesU a = runesU b ↔ a = b := by
 constructor
 ·intro h
  rw [← textU_runes _ a (Nat.le_refl _) ha, ← textU_runes _ b (Nat.le_refl _) hb, h]
 ·rintro rfl; rfl
end Go.Proofs.YthgbfaoblnkniaaDoor

namespace Go.Proofs.YthgbfaoblnkniaaDoor
open Go.Lib
theorem cont_iff (b : Nat) : (b / 64 = 2) = (128 ≤ b ∧ b ≤ 191) := propext ⟨fun h => ⟨by omega, by omega⟩, fun h => by omega⟩
theorem cont_mod (b : Nat) (h : 128 ≤ b ∧ b ≤ 191) : b % 64 = b - 128 := by omega
theorem dec2 (n b0 b1 b2 b3 : Nat) (h : 194 ≤ b0) (h' : b0 ≤ 223) : decodeN n b0 b1 b2 b3 = if 1 < n ∧ 128 ≤ b1 ∧ b1 ≤ 191 then ((b0 - 192) * 64 + (b1 - 128), 2) else (65533, 1) := by
 have e0 : ¬ b0 < 128 := by omega
 have e1 : b0 / 32 = 6 := by omega
 have e2 : ¬ b0 / 16 = 14 := by omega
 have e3 : ¬ b0 / 8 = 30 := by omega
 have e4 : b0 % 32 = b0 - 192 := by omega
 unfold decodeN
 rw [if_neg e0]
 simp only [e1, e2, e3, e4, cont_iff, true_and, false_and, if_false]
 by_cases hc : 1 < n ∧ 128 ≤ b1 ∧ b1 ≤ 191
 ·rw [if_pos hc, if_pos hc, cont_mod b1 hc.2, if_pos (by omega)]
 ·rw [if_neg hc, if_neg hc]
theorem dec3 (n b0 b1 b2 b3 : Nat) (h : 224 ≤ b0) (h' : b0 ≤ 239) :
  decodeN n b0 b1 b2 b3 = if (2 < n ∧ 128 ≤ b1 ∧ b1 ≤ 191 ∧ 128 ≤ b2 ∧ b2 ≤ 191) ∧ 2048 ≤ (b0 - 224) * 4096 + (b1 - 128) * 64 + (b2 - 128) ∧ ¬ (55296 ≤ (b0 - 224) * 4096 + (b1 - 128) * 64 + (b2 - 128) ∧ (b0 - 224) * 4096 + (b1 - 128) * 64 + (b2 - 128) ≤ 57343) then
   ((b0 - 224) * 4096 + (b1 - 128) * 64 + (b2 - 128), 3) else (65533, 1) := by
 have e0 : ¬ b0 < 128 := by omega
 have e1 : ¬ b0 / 32 = 6 := by omega
 have e2 : b0 / 16 = 14 := by omega
 have e3 : ¬ b0 / 8 = 30 := by omega
 have e4 : b0 % 16 = b0 - 224 := by omega
 unfold decodeN
 rw [if_neg e0]
 simp only [e1, e2, e3, e4, cont_iff, true_and, false_and, if_false]
 by_cases hc : 2 < n ∧ 128 ≤ b1 ∧ b1 ≤ 191 ∧ 128 ≤ b2 ∧ b2 ≤ 191
 ·have hc1 : (1 < n ∧ 128 ≤ b1 ∧ b1 ≤ 191) ∧ 2 < n ∧ 128 ≤ b2 ∧ b2 ≤ 191 := by omega
  rw [if_pos hc1, cont_mod b1 hc1.1.2, cont_mod b2 hc1.2.2]
  obtain ⟨v, hv⟩ : ∃ v, (b0 - 224) * 4096 + (b1 - 128) * 64 + (b2 - 128) = v := ⟨_, rfl⟩
  have hle : v ≤ 65535 := by omega
  rw [hv]
  by_cases hd : 2048 ≤ v ∧ ¬ (55296 ≤ v ∧ v ≤ 57343)
  ·rw [if_pos (by omega), if_pos ⟨hc, hd⟩]
  ·rw [if_neg (by omega), if_neg (fun x => hd x.2)]
 ·rw [if_neg (fun x => hc (by omega)), if_neg (fun x => hc x.1)]
theorem dec4 (n b0 b1 b2 b3 : Nat) (h : 240 ≤ b0) (h' : b0 ≤ 244) :
  decodeN n b0 b1 b2 b3 = if (3 < n ∧ 128 ≤ b1 ∧ b1 ≤ 191 ∧ 128 ≤ b2 ∧ b2 ≤ 191 ∧ 128 ≤ b3 ∧ b3 ≤ 191) ∧ 65536 ≤ (b0 - 240) * 262144 + (b1 - 128) * 4096 + (b2 - 128) * 64 + (b3 - 128) ∧ (b0 - 240) * 262144 + (b1 - 128) * 4096 + (b2 - 128) * 64 + (b3 - 128) ≤ 1114111 then
   ((b0 - 240) * 262144 + (b1 - 128) * 4096 + (b2 - 128) * 64 + (b3 - 128), 4) else (65533, 1) := by
 have e0 : ¬ b0 < 128 := by omega
 have e1 : ¬ b0 / 32 = 6 := by omega
 have e2 : ¬ b0 / 16 = 14 := by omega
 have e3 : b0 / 8 = 30 := by omega
 have e4 : b0 % 8 = b0 - 240 := by omega
 unfold decodeN
 rw [if_neg e0]
 simp only [e1, e2, e3, e4, cont_iff, true_and, false_and, if_false]
 by_cases hc : 3 < n ∧ 128 ≤ b1 ∧ b1 ≤ 191 ∧ 128 ≤ b2 ∧ b2 ≤ 191 ∧ 128 ≤ b3 ∧ b3 ≤ 191
 ·have hc1 : (1 < n ∧ 128 ≤ b1 ∧ b1 ≤ 191) ∧ (2 < n ∧ 128 ≤ b2 ∧ b2 ≤ 191) ∧ 3 < n ∧ 128 ≤ b3 ∧ b3 ≤ 191 := by omega
  rw [if_pos hc1, cont_mod b1 hc1.1.2, cont_mod b2 hc1.2.1.2, cont_mod b3 hc1.2.2.2]
  obtain ⟨v, hv⟩ : ∃ v, (b0 - 240) * 262144 + (b1 - 128) * 4096 + (b2 - 128) * 64 + (b3 - 128) = v := ⟨_, rfl⟩
  rw [hv]
  by_cases hd : 65536 ≤ v ∧ v ≤ 1114111
  ·rw [if_pos (by omega), if_pos ⟨hc, hd⟩]
  ·rw [if_neg (by omega), if_neg (fun x => hd x.2)]
 ·rw [if_neg (fun x => hc (by omega)), if_neg (fun x => hc x.1)]
end Go.Proofs.YthgbfaoblnkniaaDoor

namespace Go.Proofs.YthgbfaoblnkniaaDoor
open Go.RowKit Go.Lib
def oneAt (l : List UInt8) (p : Nat) : Nat × Nat := decodeL (l.drop p)
theorem oneAt_N (l : List UInt8) (p : Nat) : oneAt l p = decodeN (l.length - p) (l.getD p 0).toNat (l.getD (p + 1) 0).toNat (l.getD (p + 2) 0).toNat (l.getD (p + 3) 0).toNat := by
 unfold oneAt
 rw [decodeL_N, List.length_drop, getD_dropU, getD_dropU, getD_dropU, getD_dropU, Nat.add_zero]
theorem getD_at (l : List UInt8) (p : Nat) (h : p < l.length) : l.getD p 0 = l[p] := by simp [h]
set_option maxRecDepth 100000 in
set_option maxHeartbeats 1000000 in
theorem one_low (l : List UInt8) (p : Nat) (hp : p < l.length) (h : l[p].toNat < 128 ∨ (128 ≤ l[p].toNat ∧ l[p].toNat < 194) ∨ 244 < l[p].toNat) (w : World) :
  Calls Tryd.prog 54 #[.string (bs l), .int .i64 p] w fun e w' => e = .returned (.tuple #[.int .i64 ((oneAt l p).2 : Nat), .int .i64 ((oneAt l p).1 : Nat)]) ∧ w = w' := by
 have H := Lib.hid (oneAt_N l p)
 have h0 := getD_at l p hp
 rcases h with h | ⟨h, h'⟩ | h
 ·go_enter Tryd.func54, Tryd.ntmps54
  go_wp2
  go_ret2
  rw [H.out, h0]
  simp [decodeN, h]
 ·go_enter Tryd.func54, Tryd.ntmps54
  go_wp2
  go_ret2
  rw [H.out, h0, decodeN_bad _ _ _ _ _ (.inl ⟨h, h'⟩)]
  exact ⟨rfl, rfl⟩
 ·have hb := l[p].toNat_lt
  go_enter Tryd.func54, Tryd.ntmps54
  go_wp2
  go_ret2
  rw [H.out, h0, decodeN_bad _ _ _ _ _ (.inr ⟨by omega, hb⟩)]
  exact ⟨rfl, rfl⟩
set_option maxRecDepth 100000 in
set_option maxHeartbeats 4000000 in
theorem one_two (l : List UInt8) (p : Nat) (hp : p < l.length) (hs : l.length ≤ 4611686018427387904) (h : 194 ≤ l[p].toNat) (h' : l[p].toNat ≤ 223) (w : World) :
  Calls Tryd.prog 54 #[.string (bs l), .int .i64 p] w fun e w' => e = .returned (.tuple #[.int .i64 ((oneAt l p).2 : Nat), .int .i64 ((oneAt l p).1 : Nat)]) ∧ w = w' := by
 have h0 := getD_at l p hp
 have hN := oneAt_N l p
 rw [h0, dec2 _ _ _ _ _ h h'] at hN
 by_cases hl : p + 1 < l.length
 ·have h1 := getD_at l (p + 1) (by omega)
  rw [h1] at hN
  have hb1 := l[p + 1].toNat_lt
  have H := Lib.hid hN
  clear hN h0 h1
  rcases (show (l[p + 1].toNat < 128) ∨ (128 ≤ l[p + 1].toNat ∧ 191 < l[p + 1].toNat) ∨ (128 ≤ l[p + 1].toNat ∧ l[p + 1].toNat ≤ 191) by omega) with ⟨r0⟩ | ⟨r0, r1⟩ | ⟨r0, r1⟩
  ·go_enter Tryd.func54, Tryd.ntmps54; go_wp2; go_rounds 2; go_ret2; rw [H.out, if_neg (by omega)]; exact ⟨rfl, rfl⟩
  ·go_enter Tryd.func54, Tryd.ntmps54; go_wp2; go_rounds 2; go_ret2; rw [H.out, if_neg (by omega)]; exact ⟨rfl, rfl⟩
  ·go_enter Tryd.func54, Tryd.ntmps54; go_wp2; go_rounds 2; go_ret2; rw [H.out, if_pos (by omega)]; refine ⟨?_, rfl⟩; simp; omega
 ·have H := Lib.hid hN
  clear hN h0
  go_enter Tryd.func54, Tryd.ntmps54; go_wp2; go_ret2; rw [H.out, if_neg (by omega)]; exact ⟨rfl, rfl⟩
end Go.Proofs.YthgbfaoblnkniaaDoor

namespace Go.Proofs.YthgbfaoblnkniaaDoor
open Go.RowKit Go.Lib
end Go.Proofs.YthgbfaoblnkniaaDoor

namespace Go.Proofs.YthgbfaoblnkniaaDoor
open Go.Lib
theorem encodeRune_len (c : Int) : 1 ≤ (encodeRune c).length ∧ (encodeRune c).length ≤ 4 := by
 have := encodeRuneZ_length c
 simpa [encodeRune] using this
theorem textU_len : ∀ r : List Nat, (textU r).length ≤ 4 * r.length
 | [] => by simp [textU]
 | c :: r => by
  have ih := textU_len r
  have hl := (encodeRune_len (c : Int)).2
  have e : textU (c :: r) = encodeRune (c : Int) ++ textU r := rfl
  rw [e]
  simp only [List.length_append, List.length_cons]
  omega
theorem name_valid (l : List UInt8) (h : nameL l = true) : validD l = true := by
 unfold nameL at h
 simp only [Bool.and_eq_true] at h
 exact h.1.2
end Go.Proofs.YthgbfaoblnkniaaDoor

namespace Go.Proofs.YthgbfaoblnkniaaDoor
open Go.Lib
def runesFrom (l : List UInt8) (p n : Nat) : Nat × Bool := if validD (l.drop p) then (n + (runesU (l.drop p)).length, true) else (0, false)
end Go.Proofs.YthgbfaoblnkniaaDoor

namespace Go.Proofs
end Go.Proofs

namespace Go.Proofs.YthgbfaoblnkniaaDoor
open Go.RowKit Go.Lib
end Go.Proofs.YthgbfaoblnkniaaDoor

namespace Go.Proofs.YthgbfaoblnkniaaDoor
open Go.RowKit
def HasTexts (w : World) (p : Option Addr) (L : List (List UInt8)) : Prop := ∀ j, j < L.length → ∃ g, p = some ⟨g, 0, none⟩ ∧ w.cell? ⟨g, j, none⟩ = some (.string (bs (L.getD j [])))
theorem HasTexts.below {w w' : World} {p : Option Addr} {L : List (List UInt8)} (h : HasTexts w p L) (hb : Below w.heap.size w w') : HasTexts w' p L := fun j hj => by
 obtain ⟨g, hp, hc⟩ := h j hj
 exact ⟨g, hp, cell_later hb hc⟩
def Texts (w : World) (v : Value) (L : List (List UInt8)) : Prop := ∃ p cap, v = .slice p L.length cap ∧ HasTexts w p L
theorem Texts.below {w w' : World} {v : Value} {L : List (List UInt8)} (h : Texts w v L) (hb : Below w.heap.size w w') : Texts w' v L := by
 obtain ⟨p, cap, hv, ht⟩ := h
 exact ⟨p, cap, hv, ht.below hb⟩
theorem texts_none (w : World) : Texts w (.slice none 0 0) [] := ⟨none, 0, rfl, fun j hj => absurd hj (Nat.not_lt_zero j)⟩
def strs (L : List (List UInt8)) : List Value := L.map fun l => .string (bs l)
theorem strs_snoc (L : List (List UInt8)) (l : List UInt8) : strs L ++ [.string (bs l)] = strs (L ++ [l]) := by simp [strs]
theorem own_texts {w : World} {B : Nat} {e : TypeId} {v : Value} {L : List (List UInt8)} (h : w.ownsRow B e 1 v L.length (strs L)) : Texts w v L := by
 obtain ⟨-, ⟨h0, hn⟩ | ⟨g, cap, cur, hv, -, hw, -, -, -, ht⟩⟩ := h
 ·have : L = [] := List.eq_nil_of_length_eq_zero hn
  subst this h0
  exact texts_none w
 ·refine ⟨_, cap, hv, fun j hj => ⟨g, rfl, ?_⟩⟩
  have h1 := congrArg (fun x : List Value => x[j]?) ht
  simp only [Nat.mul_one, List.getElem?_take, hj, if_true, Array.getElem?_toList] at h1
  rw [cell_of_row w g j _ _ (0, 0) hw, h1]
  simp [strs, hj]
theorem info_str : (Tryd.prog.info? 9).map (fun i => (i.zero, i.size, i.bytes)) = some (some (.string ByteArray.empty), 1, 16) := by kernel_rfl
theorem list_same_step (L M : List (List UInt8)) (i : Nat) (R : Bool) (hl : L.length = M.length) (hi : i < L.length) (h : (L.drop i == M.drop i) = R) : (if L.getD i [] = M.getD i [] then (L.drop (i + 1) == M.drop (i + 1)) else false) = R := by
 have e1 : L.drop i = L.getD i [] :: L.drop (i + 1) := by
  rw [List.drop_eq_getElem_cons hi]
  simp [hi]
 have e2 : M.drop i = M.getD i [] :: M.drop (i + 1) := by
  rw [List.drop_eq_getElem_cons (by omega)]
  simp [hl ▸ hi]
 rw [e1, e2] at h
 rw [← h]
 by_cases hc : L.getD i [] = M.getD i []
 ·rw [if_pos hc, hc]
  simp
 ·rw [if_neg hc]
  exact (beq_eq_false_iff_ne.2 fun e => hc (List.cons.inj e).1).symm
set_option maxRecDepth 100000 in
set_option maxHeartbeats 1000000 in
theorem sametexts_at (w : World) (p q : Option Addr) (c d : Nat) (L M : List (List UInt8)) (hp : HasTexts w p L) (hq : HasTexts w q M) (hL : L.length ≤ 4611686018427387904) :
  Calls Tryd.prog 11 #[.slice p L.length c, .slice q M.length d] w fun e w' => e = .returned (.bool (L == M)) ∧ Below w.heap.size w w' := by
 have HP := Lib.hid hp
 have HQ := Lib.hid hq
 clear hp hq
 by_cases hl : L.length = M.length
 ·obtain ⟨R, hR⟩ : ∃ R, (L == M) = R := ⟨_, rfl⟩
  rw [hR]
  have HR := Lib.hid hR
  clear hR
  go_enter Tryd.func11, Tryd.ntmps11
  go_wp2
  go_loopw [5] (fun i wr => ∃ k n : Nat, k ≤ L.length ∧ i = .int .i64 k ∧ wr = w.drewN n ∧ (L.drop k == M.drop k) = R) (fun i _ => L.length - (RowKit.intOf i).toNat)
  case atStart => exact ⟨0, 0, Nat.zero_le _, rfl, rfl, HR.out⟩
  case round =>
   obtain ⟨k, n, hk, rfl, rfl, hr⟩ := hrel
   by_cases hlt : k < L.length
   ·obtain ⟨g, rfl, h1⟩ := HP.out k hlt
    obtain ⟨g2, rfl, h2⟩ := HQ.out k (by omega)
    have HS := Lib.hid (list_same_step L M k R hl hlt hr)
    clear hr
    generalize L.getD k [] = x at *
    generalize M.getD k [] = y at *
    by_cases hxy : x = y
    ·have H1 := HS.out
     rw [if_pos hxy] at H1
     have H2 := Lib.hid H1
     subst hxy
     clear H1 HS
     go_wp2_with fail
     go_region
     go_wp2_with fail
     go_roundw
     case rel => exact ⟨k + 1, n + 1, by omega, by go_num, rfl, H2.out⟩
     case measure => simp [RowKit.intOf]; omega
    ·have H1 := HS.out
     rw [if_neg hxy] at H1
     have H2 := Lib.hid H1
     have e1 : (x == y) = false := beq_eq_false_iff_ne.2 hxy
     clear H1 HS hxy
     go_wp2_with fail
     go_region
     go_wp2_with fail
     go_ret
     exact ⟨by rw [← H2.out]; rfl, (Go.below_drewN (Below.refl _ _) n).drew⟩
   ·have e1 : L.drop k = [] := List.drop_eq_nil_of_le (by omega)
    have e2 : M.drop k = [] := List.drop_eq_nil_of_le (by omega)
    rw [e1, e2] at hr
    have H2 := Lib.hid hr
    clear hr e1 e2
    go_wp2_with fail
    go_ret
    exact ⟨by rw [← H2.out]; rfl, Go.below_drewN (Below.refl _ _) n⟩
 ·have e : (L == M) = false := beq_eq_false_iff_ne.2 fun h => hl (congrArg List.length h)
  rw [e]
  have e1 : ((L.length : Int) != (M.length : Int)) = true := by simp; omega
  clear e hl
  go_enter Tryd.func11, Tryd.ntmps11
  go_wp2_with fail
  go_ret
  exact ⟨rfl, Below.refl _ _⟩
theorem sametexts_any (w : World) (v v' : Value) (L M : List (List UInt8)) (hv : Texts w v L) (hv' : Texts w v' M) (hL : L.length ≤ 4611686018427387904) :
  Calls Tryd.prog 11 #[v, v'] w fun e w' => e = .returned (.bool (L == M)) ∧ Below w.heap.size w w' := by
 obtain ⟨p, c, rfl, hp⟩ := hv
 obtain ⟨q, d, rfl, hq⟩ := hv'
 exact sametexts_at w p q c d L M hp hq hL
end Go.Proofs.YthgbfaoblnkniaaDoor

namespace Go.Proofs.YthgbfaoblnkniaaDoor
open Go.RowKit Go.Lib
def curL (l : List UInt8) (f i : Nat) : List UInt8 := (l.drop f).take (i - f)
end Go.Proofs.YthgbfaoblnkniaaDoor

namespace Go.Proofs.YthgbfaoblnkniaaDoor
open Go.RowKit Go.Lib
end Go.Proofs.YthgbfaoblnkniaaDoor

namespace Go.Proofs.YthgbfaoblnkniaaDoor
open Go.Lib
def blankR (c : Nat) : Bool := decide (c = 9) || decide (c = 13) || decide (c = 32)
def blankB (b : UInt8) : Bool := blankR b.toNat
theorem blankB_low (b : UInt8) (h : blankB b = true) : b.toNat < 128 := by
 unfold blankB blankR at h
 simp only [Bool.or_eq_true, decide_eq_true_eq] at h
 omega
theorem blankR_high (c : Nat) (h : 128 ≤ c) : blankR c = false := by
 unfold blankR
 simp only [Bool.or_eq_false_iff, decide_eq_false_iff_not]
 omega
theorem decN_high (n b0 b1 b2 b3 : Nat) (h : 128 ≤ b0) : 128 ≤ (decodeN n b0 b1 b2 b3).1 := by
 unfold decodeN
 repeat' split
 all_goals (simp only; omega)
theorem dec_blank (b : UInt8) (t : List UInt8) : blankR (decodeL (b :: t)).1 = blankB b ∧ (blankB b = true → (decodeL (b :: t)).2 = 1) := by
 by_cases h : b.toNat < 128
 ·rw [decodeL_ascii b t h]
  exact ⟨rfl, fun _ => rfl⟩
 ·have h2 := decN_high (b :: t).length ((b :: t).getD 0 0).toNat ((b :: t).getD 1 0).toNat ((b :: t).getD 2 0).toNat ((b :: t).getD 3 0).toNat (by simp only [List.getD_cons_zero]; omega)
  rw [← decodeL_N] at h2
  rw [blankR_high _ h2]
  refine ⟨(blankR_high _ (by omega)).symm, fun hb => absurd (blankB_low b hb) h⟩
def strL (l : List UInt8) : List UInt8 := l.dropWhile blankB
theorem strL_cons (b : UInt8) (t : List UInt8) : strL (b :: t) = if blankB b then strL t else b :: t := by
 unfold strL
 rw [List.dropWhile_cons]
theorem bs_list (l : List UInt8) : (bs l).data.toList = l := by simp [bs]
theorem idx_left (l : List UInt8) : ∀ (f p : Nat), p ≤ l.length → l.length - p ≤ f →
  (strL (l.drop p) = [] ∧ idxFuncFrom blankR false (bs l) f p = -1) ∨ (∃ q : Nat, p ≤ q ∧ q < l.length ∧ idxFuncFrom blankR false (bs l) f p = q ∧ strL (l.drop p) = l.drop q)
 | 0, p, hp, hf => by
  have e : l.drop p = [] := List.drop_eq_nil_of_le (by omega)
  rw [e]
  exact .inl ⟨rfl, rfl⟩
 | f + 1, p, hp, hf => by
  unfold idxFuncFrom
  rw [bs_size]
  by_cases h : p < l.length
  ·rw [if_pos h, ← decodeL_drop, bs_list]
   have e : l.drop p = l[p] :: l.drop (p + 1) := List.drop_eq_getElem_cons h
   rw [e]
   obtain ⟨h1, h2⟩ := dec_blank l[p] (l.drop (p + 1))
   rw [h1, strL_cons]
   by_cases hb : blankB l[p] = true
   ·rw [h2 hb, hb]
    simp only [if_true, Bool.true_eq_false, if_false]
    rcases idx_left l f (p + 1) (by omega) (by omega) with ⟨h3, h4⟩ | ⟨q, h3, h4, h5, h6⟩
    ·exact .inl ⟨h3, h4⟩
    ·exact .inr ⟨q, by omega, h4, h5, h6⟩
   ·rw [if_neg hb]
    have hb' : blankB l[p] = false := by simpa using hb
    rw [hb']
    simp only [if_true]
    exact .inr ⟨p, Nat.le_refl _, h, rfl, e.symm⟩
  ·rw [if_neg h]
   have e : l.drop p = [] := List.drop_eq_nil_of_le (by omega)
   rw [e]
   exact .inl ⟨rfl, rfl⟩
theorem left_eq (l : List UInt8) : trimLeftF blankR (bs l) = bs (strL l) := by
 unfold trimLeftF idxFunc
 rcases idx_left l (bs l).size 0 (Nat.zero_le _) (by rw [bs_size]; omega) with ⟨h1, h2⟩ | ⟨q, -, h2, h3, h4⟩
 ·rw [h2, if_pos rfl]
  rw [List.drop_zero] at h1
  rw [h1]
  rfl
 ·rw [h3, if_neg (by omega)]
  rw [List.drop_zero] at h4
  rw [h4, bs_extract, bs_size, show ((q : Int)).toNat = q by omega, List.take_of_length_le (by rw [List.length_drop]; omega)]
end Go.Proofs.YthgbfaoblnkniaaDoor

namespace Go.Proofs
end Go.Proofs

namespace Go.Proofs.YthgbfaoblnkniaaDoor
open Go.RowKit Go.Lib
end Go.Proofs.YthgbfaoblnkniaaDoor

namespace Go.Proofs.YthgbfaoblnkniaaDoor
open Go.Lib
end Go.Proofs.YthgbfaoblnkniaaDoor

namespace Go.Proofs
end Go.Proofs

namespace Go.Proofs.YthgbfaoblnkniaaDoor
open Go.RowKit Go.Lib
def HasWords (w : World) (p : Option Addr) (W : List (List UInt8 × Nat)) : Prop :=
 ∀ j, j < W.length → ∃ g, p = some ⟨g, 0, none⟩ ∧ w.cell? ⟨g, j * 2, none⟩ = some (.string (bs (W.getD j ([], 0)).1)) ∧ w.cell? ⟨g, j * 2 + 1, none⟩ = some (.int .i64 ((W.getD j ([], 0)).2 : Nat))
theorem HasWords.below {w w' : World} {p : Option Addr} {W : List (List UInt8 × Nat)} (h : HasWords w p W) (hb : Below w.heap.size w w') : HasWords w' p W := fun j hj => by
 obtain ⟨g, hp, hc, hd⟩ := h j hj
 exact ⟨g, hp, cell_later hb hc, cell_later hb hd⟩
end Go.Proofs.YthgbfaoblnkniaaDoor

namespace Go.Proofs.YthgbfaoblnkniaaDoor
open Go.RowKit Go.Lib
end Go.Proofs.YthgbfaoblnkniaaDoor

namespace Go.Proofs.YthgbfaoblnkniaaDoor
open Go.RowKit Go.Lib
def TextsC (w : World) (v : Value) (L : List (List UInt8)) : Prop := ∃ p cap, v = .slice p L.length cap ∧ L.length ≤ cap ∧ HasTexts w p L
theorem TextsC.below {w w' : World} {v : Value} {L : List (List UInt8)} (h : TextsC w v L) (hb : Below w.heap.size w w') : TextsC w' v L := by
 obtain ⟨p, cap, hv, hc, ht⟩ := h
 exact ⟨p, cap, hv, hc, ht.below hb⟩
end Go.Proofs.YthgbfaoblnkniaaDoor

namespace Go.Proofs.YthgbfaoblnkniaaDoor
open Go.RowKit Go.Lib
def begun (l : List UInt8) (i : Nat) : Option Nat → List UInt8
 | some f => curL l f i
 | none => []
end Go.Proofs.YthgbfaoblnkniaaDoor

namespace Go.Proofs.YthgbfaoblnkniaaDoor
open Go.RowKit
theorem as_nil (t : Nat) (w : World) (h : t = 2 ∨ t = 3) : (Instr.typeAssert .nilIface 20 t true).run Tryd.prog w = .ok (.tuple #[.int .i64 0, .bool false]) w := by
 rcases h with rfl | rfl <;> kernel_rfl
theorem as_nil_lost (w : World) : (Instr.typeAssert .nilIface 20 118 true).run Tryd.prog w = .ok (.tuple #[.agg #[], .bool false]) w := by kernel_rfl
theorem as_int64 (v : Value) (w : World) : (Instr.typeAssert (.iface 2 v) 20 2 true).run Tryd.prog w = .ok (.tuple #[v, .bool true]) w := by kernel_rfl
theorem as_int64_must (v : Value) (w : World) : (Instr.typeAssert (.iface 2 v) 20 2 false).run Tryd.prog w = .ok v w := by kernel_rfl
theorem as_int (v : Value) (w : World) : (Instr.typeAssert (.iface 3 v) 20 3 true).run Tryd.prog w = .ok (.tuple #[v, .bool true]) w := by kernel_rfl
theorem as_lost (v : Value) (w : World) : (Instr.typeAssert (.iface 118 v) 20 118 true).run Tryd.prog w = .ok (.tuple #[v, .bool true]) w := by kernel_rfl
theorem zero_int64 (w : World) : ((do pure (Value.tuple #[← zeroValue 2, .bool false])) : Sem Value).run Tryd.prog w = .ok (.tuple #[.int .i64 0, .bool false]) w := by kernel_rfl
theorem zero_int (w : World) : ((do pure (Value.tuple #[← zeroValue 3, .bool false])) : Sem Value).run Tryd.prog w = .ok (.tuple #[.int .i64 0, .bool false]) w := by kernel_rfl
theorem zero_lost (w : World) : ((do pure (Value.tuple #[← zeroValue 118, .bool false])) : Sem Value).run Tryd.prog w = .ok (.tuple #[.agg #[], .bool false]) w := by kernel_rfl
theorem as_int64_no (u : TypeId) (v : Value) (w : World) (h : (u == 2) = false) : (Instr.typeAssert (.iface u v) 20 2 true).run Tryd.prog w = .ok (.tuple #[.int .i64 0, .bool false]) w := by
 have e : (Instr.typeAssert (.iface u v) 20 2 true).run Tryd.prog w = (if u = 2 then (pure (Value.tuple #[v, .bool true]) : Sem Value) else (do pure (Value.tuple #[← zeroValue 2, .bool false]))).run Tryd.prog w := by kernel_rfl
 rw [e, if_neg (by simpa using h)]; exact zero_int64 w
theorem as_int_no (u : TypeId) (v : Value) (w : World) (h : (u == 3) = false) : (Instr.typeAssert (.iface u v) 20 3 true).run Tryd.prog w = .ok (.tuple #[.int .i64 0, .bool false]) w := by
 have e : (Instr.typeAssert (.iface u v) 20 3 true).run Tryd.prog w = (if u = 3 then (pure (Value.tuple #[v, .bool true]) : Sem Value) else (do pure (Value.tuple #[← zeroValue 3, .bool false]))).run Tryd.prog w := by kernel_rfl
 rw [e, if_neg (by simpa using h)]; exact zero_int w
theorem as_lost_no (u : TypeId) (v : Value) (w : World) (h : (u == 118) = false) : (Instr.typeAssert (.iface u v) 20 118 true).run Tryd.prog w = .ok (.tuple #[.agg #[], .bool false]) w := by
 have e : (Instr.typeAssert (.iface u v) 20 118 true).run Tryd.prog w = (if u = 118 then (pure (Value.tuple #[v, .bool true]) : Sem Value) else (do pure (Value.tuple #[← zeroValue 118, .bool false]))).run Tryd.prog w := by kernel_rfl
 rw [e, if_neg (by simpa using h)]; exact zero_lost w
end Go.Proofs.YthgbfaoblnkniaaDoor

namespace Go.Proofs.YthgbfaoblnkniaaDoor
def mayV (k n : Int) : Bool := k == 1 || ((k == 0 || k == 2) && n == 0)
theorem may_cases (k n : Int) : (k = 1 ∧ mayV k n = true) ∨ (k = 0 ∧ n = 0 ∧ mayV k n = true) ∨ (k = 2 ∧ n = 0 ∧ mayV k n = true) ∨
  (k = 0 ∧ (n == 0) = false ∧ (0 == n) = false ∧ mayV k n = false) ∨ (k = 2 ∧ (n == 0) = false ∧ (0 == n) = false ∧ mayV k n = false) ∨
  ((k == 0) = false ∧ (0 == k) = false ∧ (k == 1) = false ∧ (k == 2) = false ∧ mayV k n = false) := by
 by_cases h1 : k = 1
 ·exact .inl ⟨h1, by simp [mayV, h1]⟩
 by_cases h0 : k = 0
 ·by_cases hn : n = 0
  ·exact .inr (.inl ⟨h0, hn, by simp [mayV, h0, hn]⟩)
  ·exact .inr (.inr (.inr (.inl ⟨h0, by simpa using hn, by simpa using fun h => hn h.symm, by simp [mayV, h0, hn]⟩)))
 by_cases h2 : k = 2
 ·by_cases hn : n = 0
  ·exact .inr (.inr (.inl ⟨h2, hn, by simp [mayV, h2, hn]⟩))
  ·exact .inr (.inr (.inr (.inr (.inl ⟨h2, by simpa using hn, by simpa using fun h => hn h.symm, by simp [mayV, h2, hn]⟩))))
 ·exact .inr (.inr (.inr (.inr (.inr ⟨by simpa using h0, by simpa using fun h => h0 h.symm, by simpa using h1, by simpa using h2, by simp [mayV, h0, h1, h2]⟩))))
end Go.Proofs.YthgbfaoblnkniaaDoor

namespace Go.Proofs.YthgbfaoblnkniaaDoor
end Go.Proofs.YthgbfaoblnkniaaDoor

namespace Go.Proofs.YthgbfaoblnkniaaDoor
open Go.RowKit
end Go.Proofs.YthgbfaoblnkniaaDoor

namespace Go.Proofs.YthgbfaoblnkniaaDoor
open Go.RowKit
end Go.Proofs.YthgbfaoblnkniaaDoor

namespace Go.Proofs.YthgbfaoblnkniaaDoor
open Go.RowKit
end Go.Proofs.YthgbfaoblnkniaaDoor

namespace Go.Proofs.YthgbfaoblnkniaaDoor
open Go.RowKit
end Go.Proofs.YthgbfaoblnkniaaDoor

namespace Go.Proofs.YthgbfaoblnkniaaDoor
open Go.RowKit
attribute [local go_sem] as_nil as_nil_lost as_int64 as_int64_must as_int as_lost as_int64_no as_int_no as_lost_no
attribute [local go_sem] Later.cell Later.frozen
set_option maxHeartbeats 2000000 in
theorem may_any (k n : Int) (w : World) :
  Calls Tryd.prog 48 #[.agg #[.int .i64 k, .int .i64 n]] w fun e w' => e = .returned (.bool (mayV k n)) ∧ Below w.heap.size w w' := by
 rcases may_cases k n with ⟨rfl, h⟩ | ⟨rfl, rfl, h⟩ | ⟨rfl, rfl, h⟩ | ⟨rfl, h1, h2, h⟩ | ⟨rfl, h1, h2, h⟩ | ⟨h1, h2, h3, h4, h⟩ <;> rw [h] <;> clear h
 all_goals
  go_enter Tryd.func48, Tryd.ntmps48
  go_wp2
  go_ret
  exact ⟨rfl, by go_grown⟩
set_option maxHeartbeats 2000000 in
theorem refmay_any (k n : Int) (w : World) :
  Calls Tryd.prog 53 #[.agg #[.int .i64 k, .int .i64 n]] w fun e w' => e = .returned (.bool (mayV k n)) ∧ Below w.heap.size w w' := by
 rcases may_cases k n with ⟨rfl, h⟩ | ⟨rfl, rfl, h⟩ | ⟨rfl, rfl, h⟩ | ⟨rfl, h1, h2, h⟩ | ⟨rfl, h1, h2, h⟩ | ⟨h1, h2, h3, h4, h⟩ <;> rw [h] <;> clear h
 all_goals
  go_enter Tryd.func53, Tryd.ntmps53
  go_wp2
  go_ret
  exact ⟨rfl, by go_grown⟩
end Go.Proofs.YthgbfaoblnkniaaDoor

namespace Go.Proofs.YthgbfaoblnkniaaDoor
open Go.RowKit
end Go.Proofs.YthgbfaoblnkniaaDoor

namespace Go.Proofs.YthgbfaoblnkniaaDoor
open Go.RowKit Go.Lib
def mayE (x : EventM) : Bool := decide (1 ≤ x.1) && (decide (x.1 ≤ 6) && (nameL x.2.1 &&
 (if longK x.1 then nameL x.2.2.1 && (mayV x.2.2.2.1 x.2.2.2.2.1 && (x.1 == 2 || x.2.2.2.1 == 1)) else decide (x.2.2.1 = []) && (x.2.2.2.1 == 0 && x.2.2.2.2.1 == 0))))
end Go.Proofs.YthgbfaoblnkniaaDoor
