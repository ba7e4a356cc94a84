/-
  What an argument's reading says of its cells: slices of whatever element. No conditions.
  Layer 2 (name) in plain words: a text's runes, what a name is, which of two texts is ahead; no program in sight. No conditions.
  A history as an argument: what its reading says of its cells; rows of a call's own as histories' parts. No conditions.
  The walks of layer 2's reference (name) over a text's runes: the list of them, and whether the text is UTF-8. No conditions.
  The step from a law's walk ('returns true; all memory that was there stands as it stood') to its row, for whatever arguments. No conditions.
  Slices of numbers: what one holds, and the walk of the comparison of two. No conditions.
  The walks of layer 11 (hist), the program: whether the tables may be, whether all transactions may be. No conditions but that unicode/utf8's two tables are as their initialisers lay them.
  Layers 16 and 17 (world, whole) in plain words: worlds of a history, who committed, a history made whole by a world, the world by which; that it is whole, and that the world is told back; no program in sight. No conditions.
  A world of a history (fates, and lost values) as a value: an argument's, and one of the call's own. No conditions.
  A region that draws its order, where two operations may come up next. No conditions.
  Layer 14's reference (erase): a history without its lost reads. No conditions.
  Layer 17 (whole): what stands while a history is made whole; the clone of operations. No conditions.
-/
import Derived.Deep.Slices
import Derived.ChangeSame
import Derived.Lib.ValidLaws
import Derived.Lib.MapLaws
import GoSem.Conv.StringToRunes
import Derived.Lib.DecodeN
import Derived.Lib.RuneBytes
import Derived.Lib.SlicesCompact
import Derived.Sort.Statements
import Derived.WalkKit
import Derived.Laws.AppendOwn
import Derived.ProofKit
import Derived.OpenShut
import Derived.SizedLaws
import Derived.Laws.OwnMore
import Derived.Laws.IdiomStrings
import Derived.Shelf.SlGeneric
import Derived.Ground.NamesProg
import Derived.Ground.SlgnProg
import Derived.Shelf.Unicode.ValidAny
import Derived.Shelf.SlicesE.Reverse
import Derived.Test.YtldcbapjiflblaaDoorProg
import Derived.Laws.RangeAny
import Derived.Ground.SlsfProg
import Derived.Shelf.LaysM
import Derived.Shelf.SlSortCmp.NoneTotal
import Derived.Shelf.Slices.CompactS
import Derived.Lib.RowBridge
import Derived.Deep.AppendLies
import Derived.OwnWalk
import Derived.SliceStrings
import Derived.Lib.SliceRun
import Derived.RangeFuncNested
import Derived.RangeFuncBound
import Derived.RangeFuncCalls
import Derived.RangeFuncLeaves
import Derived.Shelf.Abstract
import Derived.Shelf.RegionOpen
import Derived.OwnWalkIn
import Derived.TacticsInMore
import Derived.LoopNIn
import Derived.LoopIn
import Derived.Maps.OwnIn
import Derived.Maps.OwnSet
import Derived.Maps.Views
import Derived.RangeFuncBox
import Derived.Maps.AppendAt
import Derived.WalkArith
import Derived.Outline
import Derived.Deep.DeepCutAuto
import Derived.Deep.CutBlock
import Derived.Test.YtldcbapjiflblaaDoorPPb
import Derived.Maps.OwnOps
import Derived.Deep.MidRow
import Derived.Lib.SplitLaws
import Derived.Shelf.Strings.Prefix
import Derived.Shelf.Strings.Split
import Derived.Shelf.GgClosure.StringsTrimFunc
import Derived.Shelf.Strings.Cut
import Derived.Shelf.Strings.Search3
import Derived.Shelf.Strings.OnBuilder
import Derived.WalkSmall
import Derived.IntWalk
import Derived.Lib.Join
namespace Go.Proofs.YtldcbapjiflblaaDoor
section
open Go.ChangeShapes Go.WideShapes Go.RowKit
def SlR {α : Type} (size : Nat) (R : World → List Value → α → Prop) (w : World) (v : Value) (L : List α) : Prop :=
 ∃ p cap, v = .slice p L.length cap ∧ L.length ≤ cap ∧ cap ≤ maxLen ∧ ∀ (j : Nat) (hj : j < L.length), ∃ (a : Addr) (cs : List Value), p = some a ∧ cs.length = size ∧ (∀ (i : Nat) (u : Value), cs[i]? = some u → w.cell? (a.add (j * size + i)) = some u) ∧ R w cs L[j]
theorem SlR.below {α : Type} {size : Nat} {R : World → List Value → α → Prop} (hR : ∀ w w' cs m, Below w.heap.size w w' → R w cs m → R w' cs m) {w w' : World} {v : Value} {L : List α} (h : SlR size R w v L) (hb : Below w.heap.size w w') : SlR size R w' v L := by
 obtain ⟨p, cap, hv, hl, hm, hc⟩ := h
 refine ⟨p, cap, hv, hl, hm, fun j hj => ?_⟩
 obtain ⟨a, cs, hp, hs, h1, h2⟩ := hc j hj
 exact ⟨a, cs, hp, hs, fun i u hu => cell_later hb (h1 i u hu), hR _ _ _ _ hb h2⟩
theorem SlR.mono {α : Type} {size : Nat} {R R' : World → List Value → α → Prop} {w : World} {v : Value} {L : List α} (h : SlR size R w v L) (hR : ∀ cs m, m ∈ L → R w cs m → R' w cs m) : SlR size R' w v L := by
 obtain ⟨p, cap, hv, hl, hm, hc⟩ := h
 refine ⟨p, cap, hv, hl, hm, fun j hj => ?_⟩
 obtain ⟨a, cs, hp, hs, h1, h2⟩ := hc j hj
 exact ⟨a, cs, hp, hs, h1, hR _ _ (List.getElem_mem hj) h2⟩
theorem pick_lt {β : Type} [Nonempty β] {n : Nat} {p : Nat → β → Prop} (h : ∀ i, i < n → ∃ b, p i b) : ∃ f : Nat → β, ∀ i, i < n → p i (f i) := by
 refine ⟨fun i => if hi : i < n then Classical.choose (h i hi) else Classical.choice inferInstance, fun i hi => ?_⟩
 simp only [dif_pos hi]
 exact Classical.choose_spec (h i hi)
section
variable {H : Type} {enc : TypeId × Value → H} {P : Program} {w : World} {base : Nat} {spare : Nat → Bool} {held : Bool}
theorem open_slR {α : Type} [Nonempty α] {size : Nat} {R : World → List Value → α → Prop} {t e : TypeId} {fuel : Nat} {cs : List Value} {x : DataW H × List MemPlace} (ht : P.underlying t = some (.slice e)) (hc : P.cellsOf e = size)
  (hR : ∀ n cs y, DataW.trod enc P w base spare held n e cs = some y → ∃ m, R w cs m) (h : DataW.trod enc P w base spare held fuel t cs = some x) : ∃ v L, cs = [v] ∧ SlR size R w v L := by
 rcases Go.Deep.open_slice ht h with ⟨rfl, -⟩ | ⟨a, len, cap, m, n, D, Pl, rfl, -, hl, hm, hmm, -, hi⟩
 ·exact ⟨_, [], rfl, none, 0, rfl, Nat.le_refl _, Nat.zero_le _, fun j hj => absurd hj (Nat.not_lt_zero j)⟩
 ·have hle : len ≤ m := by rw [hmm]; split <;> omega
  obtain ⟨M, hM⟩ := pick_lt (β := α) (n := len) (p := fun i m => ∃ cs', cs'.length = size ∧ (∀ (i' : Nat) (u : Value), cs'[i']? = some u → w.cell? (a.add (i * size + i')) = some u) ∧ R w cs' m) (fun i hil => by
   obtain ⟨cs', h1, h2⟩ := hi i (by omega)
   rw [hc] at h1
   obtain ⟨_, hlen, hat⟩ := World.cells?_some h1
   obtain ⟨m', hm'⟩ := hR _ _ _ h2
   refine ⟨m', cs', hlen, fun i' u hu => ?_, hm'⟩
   have hi' : i' < size := by
    have := (List.getElem?_eq_some_iff.1 hu).1
    omega
   rw [← Go.Deep.add_add, hat i' hi', hu])
  refine ⟨_, (List.range len).map M, rfl, some a, cap, by simp, by simpa using hl, hm, fun j hj => ?_⟩
  have hj' : j < len := by simpa using hj
  obtain ⟨cs', h1, h2, h3⟩ := hM j hj'
  exact ⟨a, cs', rfl, h1, h2, by simpa using h3⟩
theorem trod_len {fs : Array Field} {t : TypeId} {fuel : Nat} {cs : List Value} {x : DataW H × List MemPlace} (ht : P.underlying t = some (.struct fs)) (h : DataW.trod enc P w base spare held fuel t cs = some x) : cs.length = P.cellsOf t := by
 obtain ⟨xs, n, -, -, hl, -, -⟩ := DataW.trod_struct ht h
 exact hl
theorem trod_at {fs : Array Field} {t : TypeId} {fuel : Nat} {cs : List Value} {x : DataW H × List MemPlace} (i o : Nat) (ty : TypeId) (s : Nat) {f : Field} (ht : P.underlying t = some (.struct fs)) (h : DataW.trod enc P w base spare held fuel t cs = some x) (hi : fs[i]? = some f) (ho : f.offset = o) (hty : f.type = ty) (hs : P.cellsOf ty = s) :
  ∃ n y, DataW.trod enc P w base spare held n ty ((cs.drop o).take s) = some y := by
 obtain ⟨xs, n, -, -, hl, hlen, hf⟩ := DataW.trod_struct ht h
 refine ⟨n, xs[i]'(by rw [hlen]; exact (Array.getElem?_eq_some_iff.1 hi).1), ?_⟩
 have := hf i f hi
 subst ho hty hs
 rw [this]
 simp
end
end
section
open Go.Lib
def dig (c : Nat) : Bool := decide (48 ≤ c) && decide (c ≤ 57)
def part (c : Nat) : Bool := decide (127 < c) || decide (c = 95) || dig c || (decide (97 ≤ c) && decide (c ≤ 122)) || (decide (65 ≤ c) && decide (c ≤ 90))
end
section
open Go.ChangeShapes Go.WideShapes Go.ChangeAt Go.RowKit Go.Joins
section
variable {H : Type} {enc : TypeId × Value → H} {w : World} {base : Nat} {spare : Nat → Bool} {held : Bool}
end
theorem flat_get {α : Type} (f : α → List Value) (s : Nat) (hf : ∀ x, (f x).length = s) (d : α) : ∀ (L : List α) (j i : Nat), j < L.length → i < s → (L.flatMap f)[j * s + i]? = (f (L.getD j d))[i]?
 | [], j, _, hj, _ => absurd hj (Nat.not_lt_zero j)
 | x :: L, 0, i, _, hi => by
  rw [List.flatMap_cons, Nat.zero_mul, Nat.zero_add, List.getElem?_append_left (by rw [hf]; exact hi)]
  rfl
 | x :: L, j + 1, i, hj, hi => by
  rw [List.flatMap_cons, List.getElem?_append_right (by rw [hf, Nat.add_mul]; omega), hf, show (j + 1) * s + i - s = j * s + i by rw [Nat.add_mul]; omega]
  rw [flat_get f s hf d L j i (by simpa using hj) hi]
  rfl
theorem own_rowK {w : World} {base size n : Nat} {e : TypeId} {v : Value} {xs : List Value} (h : w.ownsRow base e size v n xs) : ∃ p cap, v = .slice p n cap ∧ n ≤ cap ∧ cap ≤ maxLen ∧ ∀ q u, q < n * size → xs[q]? = some u → ∃ g, p = some ⟨g, 0, none⟩ ∧ w.cell? ⟨g, q, none⟩ = some u := by
 obtain ⟨h1, ⟨rfl, rfl⟩ | ⟨g, cap, cur, rfl, -, hw, hc, hm, hs, ht⟩⟩ := h
 ·exact ⟨none, 0, rfl, Nat.le_refl _, Nat.zero_le _, fun q u hq => by omega⟩
 ·refine ⟨_, cap, rfl, hc, hm, fun q u hq hu => ⟨g, rfl, ?_⟩⟩
  have h2 := congrArg (fun x : List Value => x[q]?) ht
  simp only [List.getElem?_take, hq, if_true, Array.getElem?_toList] at h2
  rw [cell_of_row w g q _ _ (0, 0) hw, h2, hu]
theorem own_slR {α β : Type} {w : World} {base s : Nat} {e : TypeId} {v : Value} {L : List β} (f : β → List Value) (hf : ∀ x, (f x).length = s) (hs : 0 < s) (d : β) (g : β → α) {R : World → List Value → α → Prop} (h : w.ownsRow base e s v L.length (L.flatMap f)) (hR : ∀ x ∈ L, R w (f x) (g x)) : SlR s R w v (L.map g) := by
 obtain ⟨p, cap, rfl, h1, h2, hc⟩ := own_rowK h
 refine ⟨p, cap, by rw [List.length_map], by rw [List.length_map]; exact h1, h2, fun j hj => ?_⟩
 rw [List.length_map] at hj
 have hD : L.getD j d = L[j] := by simp [hj]
 have hg : ∀ i u, i < s → (f L[j])[i]? = some u → ∃ g, p = some ⟨g, 0, none⟩ ∧ w.cell? ⟨g, j * s + i, none⟩ = some u := fun i u hi hu =>
  hc _ u (by
   have : (j + 1) * s ≤ L.length * s := Nat.mul_le_mul_right s hj
   rw [Nat.add_mul] at this
   omega) (by rw [flat_get f s hf d L j i hj hi, hD]; exact hu)
 obtain ⟨g0, rfl, -⟩ := hg 0 ((f L[j])[0]'(by rw [hf]; exact hs)) hs (by simp)
 refine ⟨_, f L[j], rfl, hf _, fun i u hu => ?_, by rw [List.getElem_map]; exact hR _ (List.getElem_mem hj)⟩
 obtain ⟨g1, e1, h3⟩ := hg i u (by have := (List.getElem?_eq_some_iff.1 hu).1; rw [hf] at this; exact this) hu
 cases e1
 rw [Addr.add_lit, Nat.zero_add]
 exact h3
end
section
open Go.RowKit Go.Lib
def ints (r : List Nat) : List Value := r.map fun (n : Nat) => Value.int .i64 (n : Int)
end
section
open Go.ChangeShapes Go.WideShapes Go.ChangeAt Go.RowKit
theorem Tryd.own : ownKnob Tryd.prog.godebug = none := by kernel_rfl
theorem Tryd.laidOut : laidOutB Tryd.prog = true := by kernel_rfl
section
variable {H : Type} {enc : TypeId × Value → H} {P : Program}
theorem trodAll_later {W W' : World} (hl : laidOutB P = true) (hb : Below W.heap.size W W') {sp : Nat → Bool} : ∀ (ts : List TypeId) (vs : List Value) (ds : List (DataW H)) (ps : List MemPlace),
  ts.all (fun t => P.readableRec t && decide (t < P.types.size)) = true → DataW.TrodAll enc P W 0 (fun _ => true) true ts vs ds ps → (∀ x ∈ ps, x.block < W.heap.size) → (∀ x ∈ ps, sp x.block = true) →
  DataW.TrodAll enc P W' 0 sp true ts vs ds ps
 | [], vs, ds, ps, _, h, _, _ => by
  obtain ⟨rfl, rfl, rfl⟩ := trodAll_nil h
  exact trodAll_mk0
 | t :: ts, vs, ds, ps, hts, h, hlt, hsp => by
  obtain ⟨v, vs', d, ds', p, q, rfl, rfl, rfl, h0, h1⟩ := trodAll_cons h
  simp only [List.all_cons, Bool.and_eq_true, decide_eq_true_eq] at hts
  exact trodAll_cons_mk
   (WideElems.Trod_stays hl hts.1.1 hts.1.2 h0 (fun x hx => hb.same (hlt x (List.mem_append_left _ hx))) (fun x hx => hsp x (List.mem_append_left _ hx)))
   (trodAll_later hl hb ts vs' ds' q hts.2 h1 (fun x hx => hlt x (List.mem_append_right _ hx)) (fun x hx => hsp x (List.mem_append_right _ hx)))
theorem post_of_below {f : Func} {s : ChangeSpec} {apart fresh handsOn again : Bool}
  {W W' : World} {args : Array Value} {v : Value} {ds gs : List (DataW H)} {before pa pv : List MemPlace}
  (hW : DataW.Whole enc P f.params.toList s.vars apart W args.toList ds gs before)
  (hres : ∀ (b : Nat) (sp : Nat → Bool) (hd : Bool), DataW.TrodAll enc P W' b sp hd f.resultTypes.toList (v.resultList f.resultTypes.size) (s.fn H (ds ++ gs)).results [])
  (hargs : ∀ sp : Nat → Bool, (∀ p ∈ before, sp p.block = true) → DataW.TrodAll enc P W' 0 sp true f.params.toList args.toList (s.fn H (ds ++ gs)).args pa)
  (hvars : ∀ sp : Nat → Bool, (∀ p ∈ before, sp p.block = true) → DataW.TrodVars enc P W' sp s.vars (s.fn H (ds ++ gs)).vars pv)
  (hps : before = pa ++ pv) (hb : Below W.heap.size W W')
  (hok : ∀ (j : Nat) (t : TypeId) (r : Value), f.resultTypes[j]? = some t → (v.resultList f.resultTypes.size)[j]? = some r → Value.okWide P W' .any 0 t r) :
  s.post enc P f apart fresh handsOn again W args v W' := by
 have hlt : ∀ p ∈ before, p.block < W.heap.size := fun p hp => hW.lt p hp
 have hold : ∀ p ∈ before, (fun b => decide (b < W.heap.size)) p.block = true := fun p hp => by simpa using hlt p hp
 refine ⟨ds, gs, before, [], pa, pv, hW, hres _ _ _, hargs _ hold, hvars _ hold, World.keptBut_mono (fun p hp => ⟨hp, ?_⟩) (hb.frame (· ∈ before)), fun _ => ?_⟩
 ·rw [hps, List.mem_append] at hp
  exact Or.inr hp
 ·obtain ⟨_, _, _, _, _, hz, hn⟩ := hW
  refine ⟨hok, _, _, ([] ++ pa) ++ pv, ⟨[] ++ pa, pv, trodAll_append (hargs _ (fun _ _ => rfl)) (hres _ _ _), hvars _ (fun _ _ => rfl), rfl, ?_, ?_⟩, ?_⟩
  ·intro b off hp
   have hin : MemPlace.cell b off ∈ before := by rw [hps]; simpa using hp
   rw [hb.frozen (hlt _ hin)]
   exact hz b off hin
  ·intro ha
   have := hn ha
   rw [hps] at this
   simpa using this
  ·intro p hp _
   rw [hps]
   simpa using hp
theorem law_post {f : Func} {s : ChangeSpec} {tb : TypeId} (hu : P.underlying tb = some .bool) (hl : laidOutB P = true) (hrt : f.resultTypes = #[tb]) (hro : (Value.bool true).resultList 1 = [.bool true])
  (hts : f.params.toList.all (fun t => P.readableRec t && decide (t < P.types.size)) = true)
  {W W' : World} {args : Array Value} {ds : List (DataW H)} {before : List MemPlace} (hvs : s.vars = [])
  (hW : DataW.Whole enc P f.params.toList s.vars false W args.toList ds [] before)
  (hA : DataW.TrodAll enc P W 0 (fun _ => true) true f.params.toList args.toList ds before)
  (hres : (s.fn H (ds ++ [])).results = [.lit (.bool true)]) (hargs : (s.fn H (ds ++ [])).args = ds) (hvars : (s.fn H (ds ++ [])).vars = []) (hb : Below W.heap.size W W') :
  s.post enc P f false true false false W args (.bool true) W' := by
 have hlt : ∀ p ∈ before, p.block < W.heap.size := fun p hp => hW.lt p hp
 refine post_of_below (pa := before) (pv := []) hW (fun b sp hd => ?_) (fun sp hsp => ?_) (fun sp _ => ?_) (by simp) hb ?_
 ·rw [hres, hrt]
  exact trodAll_mk1 (shut_bool hu true)
 ·rw [hargs]
  exact trodAll_later hl hb _ _ _ _ hts hA hlt hsp
 ·rw [hvars, hvs]; rfl
 ·intro j t r hj hr
  rw [hrt] at hj hr
  rw [show (#[tb] : Array TypeId).size = 1 from rfl, hro] at hr
  match j with
  | 0 =>
   simp at hj hr
   subst hj; subst hr
   exact okWide_bool_mk hu _
  | j + 1 => simp at hj
end
theorem wf_wrap64 {x : Int} (h : (Lit.int .i64 x).wf = true) : IntKind.i64.wrap x = x := by
 have hb : -9223372036854775808 ≤ x ∧ x ≤ 9223372036854775807 := by simpa [Lit.wf, IntKind.min, IntKind.max, IntKind.signed, IntKind.bits] using h
 exact IntWalk.i64_in x hb
theorem wf_bounds {x : Int} (h : (Lit.int .i64 x).wf = true) : -9223372036854775808 ≤ x ∧ x ≤ 9223372036854775807 := by
 simpa [Lit.wf, IntKind.min, IntKind.max, IntKind.signed, IntKind.bits] using h
end
section
open Go.RowKit
def HasInts (w : World) (p : Option Addr) (L : List Int) : Prop := ∀ j, j < L.length → ∃ g, p = some ⟨g, 0, none⟩ ∧ w.cell? ⟨g, j, none⟩ = some (.int .i64 (L.getD j 0))
theorem HasInts.below {w w' : World} {p : Option Addr} {L : List Int} (h : HasInts w p L) (hb : Below w.heap.size w w') : HasInts w' p L := fun j hj => by
 obtain ⟨g, hp, hc⟩ := h j hj
 exact ⟨g, hp, cell_later hb hc⟩
def IntsS (w : World) (v : Value) (L : List Int) : Prop := ∃ p cap, v = .slice p L.length cap ∧ HasInts w p L
theorem IntsS.below {w w' : World} {v : Value} {L : List Int} (h : IntsS w v L) (hb : Below w.heap.size w w') : IntsS w' v L := by
 obtain ⟨p, cap, hv, ht⟩ := h
 exact ⟨p, cap, hv, ht.below hb⟩
theorem ints_none (w : World) : IntsS w (.slice none 0 0) [] := ⟨none, 0, rfl, fun j hj => absurd hj (Nat.not_lt_zero j)⟩
def vints (L : List Int) : List Value := L.map fun n => .int .i64 n
theorem own_intsI {w : World} {B : Nat} {e : TypeId} {v : Value} {L : List Int} (h : w.ownsRow B e 1 v L.length (vints L)) : IntsS w v L := by
 obtain ⟨-, ⟨h0, hn⟩ | ⟨g, cap, cur, hv, -, hw, -, -, -, ht⟩⟩ := h
 ·have : L = [] := List.eq_nil_of_length_eq_zero hn
  subst this h0
  exact ints_none w
 ·refine ⟨_, cap, hv, fun j hj => ⟨g, rfl, ?_⟩⟩
  have h1 := congrArg (fun x : List Value => x[j]?) ht
  simp only [Nat.mul_one, List.getElem?_take, hj, if_true, Array.getElem?_toList] at h1
  rw [cell_of_row w g j _ _ (0, 0) hw, h1]
  simp [vints, hj]
theorem ints_same_step (L M : List Int) (i : Nat) (R : Bool) (hl : L.length = M.length) (hi : i < L.length) (h : (L.drop i == M.drop i) = R) : (if L.getD i 0 = M.getD i 0 then (L.drop (i + 1) == M.drop (i + 1)) else false) = R := by
 have e1 : L.drop i = L.getD i 0 :: L.drop (i + 1) := by
  rw [List.drop_eq_getElem_cons hi]
  simp [hi]
 have e2 : M.drop i = M.getD i 0 :: M.drop (i + 1) := by
  rw [List.drop_eq_getElem_cons (by omega)]
  simp [hl ▸ hi]
 rw [e1, e2] at h
 rw [← h]
 by_cases hc : L.getD i 0 = M.getD i 0
 ·rw [if_pos hc, hc]
  simp
 ·rw [if_neg hc]
  exact (beq_eq_false_iff_ne.2 fun e => hc (List.cons.inj e).1).symm
end
section
open Go.RowKit Go.Lib
def Three (w : World) (B : Nat) (v0 v1 v2 : Value) : Prop := w.cell? ⟨B, 0, none⟩ = some v0 ∧ w.cell? ⟨B, 1, none⟩ = some v1 ∧ w.cell? ⟨B, 2, none⟩ = some v2
theorem Three.below {w w' : World} {B : Nat} {v0 v1 v2 : Value} (h : Three w B v0 v1 v2) (hb : Below w.heap.size w w') : Three w' B v0 v1 v2 := ⟨cell_later hb h.1, cell_later hb h.2.1, cell_later hb h.2.2⟩
end
section
open Go.RowKit Go.Lib
abbrev ValM := Int × Int
def noVal : ValM := (0, 0)
end
section
open Go.ChangeShapes Go.WideShapes Go.ChangeAt Go.RowKit Go.Joins
def valCells (x : ValM) : List Value := [.int .i64 x.1, .int .i64 x.2]
def ValR (_ : World) (cs : List Value) (x : ValM) : Prop := cs = valCells x
def ValsA (w : World) (v : Value) (L : List ValM) : Prop := SlR 2 ValR w v L
theorem ValsA.below {w w' : World} {v : Value} {L : List ValM} (h : ValsA w v L) (hb : Below w.heap.size w w') : ValsA w' v L := SlR.below (fun _ _ _ _ _ h => h) h hb
section
variable {H : Type} {enc : TypeId × Value → H} {w : World} {base : Nat} {spare : Nat → Bool} {held : Bool}
end
def valsC (L : List ValM) : List Value := L.flatMap valCells
theorem valsC_len (L : List ValM) : (valsC L).length = L.length * 2 := by
 unfold valsC
 induction L with
 | nil => rfl
 | cons x L ih => rw [List.flatMap_cons, List.length_append, ih, List.length_cons]; simp [valCells]; omega
theorem ones_vals (L : List ValM) : ∀ u ∈ valsC L, u.oneCell' = true := by
 intro u hu
 obtain ⟨o, -, ho⟩ := List.mem_flatMap.1 hu
 simp [valCells] at ho
 rcases ho with rfl | rfl <;> rfl
theorem own_valsA {w : World} {base : Nat} {e : TypeId} {v : Value} {L : List ValM} (h : w.ownsRow base e 2 v L.length (valsC L)) : ValsA w v L := by
 have := own_slR (R := ValR) valCells (fun _ => rfl) (by omega) noVal id h (fun x _ => rfl)
 rwa [List.map_id] at this
theorem vals_news {w : World} {a : Addr} {c n : Nat} {L : List ValM} (h : ValsA w (.slice (some a) n c) L) (m : Nat) : ∀ (q : Nat) (u : Value), (valsC (L.take m))[q]? = some u → w.cell? (a.add q) = some u := by
 obtain ⟨p', c', e, -, -, hc⟩ := h
 injection e with e1 _ _
 subst e1
 intro q u hq
 have hql : q < (L.take m).length * 2 := by rw [← valsC_len]; exact (List.getElem?_eq_some_iff.1 hq).1
 rw [List.length_take] at hql
 have hj : q / 2 < L.length := by omega
 obtain ⟨a', cs, e, -, h1, h2⟩ := hc (q / 2) hj
 cases e
 have hq' : q = q / 2 * 2 + q % 2 := by omega
 have hg := flat_get valCells 2 (fun _ => rfl) noVal (L.take m) (q / 2) (q % 2) (by rw [List.length_take]; omega) (by omega)
 rw [← hq'] at hg
 rw [hq']
 refine h1 _ _ ?_
 unfold ValR at h2
 rw [h2]
 unfold valsC at hq
 rw [hg] at hq
 rw [← hq]
 congr 2
 have hjm : q / 2 < m := by omega
 simp [List.getD, hjm, hj]
theorem valsA_len {w : World} {p : Option Addr} {n c : Nat} {L : List ValM} (h : ValsA w (.slice p n c) L) : n = L.length ∧ L.length ≤ c ∧ c ≤ maxLen ∧ (p = none → L = []) := by
 obtain ⟨p', c', e, h1, h2, hc⟩ := h
 injection e with e1 e2 e3
 subst e1 e3
 refine ⟨e2, h1, h2, fun hp => ?_⟩
 cases L with
 | nil => rfl
 | cons x l =>
  obtain ⟨a, -, ea, -⟩ := hc 0 (by simp)
  rw [hp] at ea
  cases ea
end
section
open Go.RowKit
section
variable {P : Program} {ops : Array Oper} {Q : Exit → Act → World → Prop} {md : Region.Mode} {S : World → Prop} {late : List Nat}
theorem wpAnyM_two (i j : Nat) {di dj : Option Tmp} {opi opj : Op} {tyi tyj : TypeId} {posi posj : String} {afti aftj : Array Edge} {gdi gdj : Option (Nat × Bool)} {fuel : Nat} {listed : Array Bool} {a : Act} {w : World} (hi : ops[i]? = some ⟨di, opi, tyi, posi, afti, gdi⟩) (hj : ops[j]? = some ⟨dj, opj, tyj, posj, aftj, gdj⟩) (hr : Region.ready md ops listed = [i, j])
  (h1 : ∀ K : Act → World → Prop, RowKit.Hid (∀ a' w', (late.contains i = false → S w → S w') → wpAnyM P md ops Q S late fuel (listed.setIfInBounds i true) a' w' → K a' w') → if Region.wanted ⟨di, opi, tyi, posi, afti, gdi⟩ (yielded ops a.tmps) = true then Oper.wp P ⟨di, opi, tyi, posi, afti, gdi⟩ a w K Q else K (a.put di undef) w)
  (h2 : ∀ K : Act → World → Prop, RowKit.Hid (∀ a' w', (late.contains j = false → S w → S w') → wpAnyM P md ops Q S late fuel (listed.setIfInBounds j true) a' w' → K a' w') → if Region.wanted ⟨dj, opj, tyj, posj, aftj, gdj⟩ (yielded ops a.tmps) = true then Oper.wp P ⟨dj, opj, tyj, posj, aftj, gdj⟩ a w K Q else K (a.put dj undef) w) : wpAnyM P md ops Q S late (fuel + 1) listed a w := by
 refine ⟨fun h0 => (by rw [hr] at h0; cases h0), fun q hq => ?_⟩
 rw [hr] at hq
 have hq' : q = i ∨ q = j := by simpa using hq
 rcases hq' with rfl | rfl
 ·exact wpOp_step hi (fun K hK => h1 K (Lib.hid (fun a' w' g1 g2 => hK a' w' ⟨g1, g2⟩)))
 ·exact wpOp_step hj (fun K hK => h2 K (Lib.hid (fun a' w' g1 g2 => hK a' w' ⟨g1, g2⟩)))
end
end
section
open Go.RowKit Go.Lib
theorem owns_beside {w w' : World} {base size n : Nat} {e : TypeId} {v : Value} {xs : List Value} {row : Option Nat} (h : w.ownsRow base e size v n xs) (hg : w.grownBy w' row) (hne : ∀ k, v.ownBlock = some k → row ≠ some k) : w'.ownsRow base e size v n xs := by
 refine h.kept hg ?_
 cases hv : v.ownBlock with
 | none =>
  rcases h.2 with ⟨rfl, -⟩ | ⟨g, cap, cur, rfl, -⟩
  ·exact .inl rfl
  ·cases hv
 | some k => exact .inr (fun e => hne k hv e.symm)
end
section
open Go.RowKit Go.Lib
theorem box_grown {w w' : World} {B base size n : Nat} {t e : TypeId} {cs xs : List Value} {v : Value} (h : Blk w B t cs) (hr : w.ownsRow base e size v n xs) (hne : e ≠ t) (hg : w.grownBy w' v.ownBlock) : Blk w' B t cs := by
 refine h.kept hg ?_
 intro e1
 rcases hr.2 with ⟨rfl, -⟩ | ⟨g, cap, cur, rfl, -, hw, -⟩
 ·cases e1
 ·have e2 : B = g := by simpa [Value.ownBlock] using e1
  subst e2
  have h2 : w.heap[B]? = some (.cells cs.toArray t (0, 0)) := h
  rw [hw] at h2
  injection h2 with h2
  injection h2 with _ h3 _
  exact hne h3
def Parted (v u : Value) : Prop := ∀ k, v.ownBlock = some k → u.ownBlock = some k → False
theorem Parted.flip {v u : Value} (h : Parted v u) : Parted u v := fun k h1 h2 => h k h2 h1
theorem Parted.new {w : World} {base size n : Nat} {e : TypeId} {v : Value} {xs : List Value} (h : w.ownsRow base e size v n xs) (a b : Nat) : Parted v (.slice (some ⟨w.heap.size, 0, none⟩) a b) := fun k h1 h2 => by
 have h3 : w.heap.size = k := by simpa [Value.ownBlock] using h2
 have := (h.lt k h1).2
 omega
theorem Parted.grow {w : World} {base size n : Nat} {e : TypeId} {v v' u : Value} {xs : List Value} (h : Parted v u) (hat : v'.ownBlock = v.ownBlock ∨ v'.ownBlock = some w.heap.size) (hu : w.ownsRow base e size u n xs) : Parted v' u := fun k h1 h2 => by
 rcases hat with e | e
 ·exact h k (e ▸ h1) h2
 ·rw [e] at h1
  have h3 : w.heap.size = k := by simpa using h1
  have := (hu.lt k h2).2
  omega
end
end Go.Proofs.YtldcbapjiflblaaDoor
