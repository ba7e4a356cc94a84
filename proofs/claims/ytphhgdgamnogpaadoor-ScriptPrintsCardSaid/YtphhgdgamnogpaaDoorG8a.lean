/-
  Small lemmas on worlds that the walks of this seat share. No conditions.
  Layer 7 (event): events in plain words and in memory; the table of first words. No conditions.
  Slices of texts: what one holds, and the walk of the comparison of two. No conditions.
  The walks of layer 7 (event): the kind of a first word, whether events of a kind are long; the reference's list of words. Condition: event.words holds what its initialiser lays.
  Layer 2 (name) in plain words: a text's runes, what a name is, which of two texts is ahead; no program in sight. No conditions.
  What the decoder finds at a lead byte of two, three and four bytes, as the reference of layer 2 (name) reckons it; no program in sight. No conditions.
  The walks of layer 2 (name): what each function of package name, and of its reference, returns; memory that was there stands as it was. No conditions.
  The walk of layer 1's reference (line): how many bytes the rune at a place has, 0 where there is none. No conditions.
  Layer 2 (name) in plain words: that runes printed as UTF-8 are read as the same runes, so that turned twice a name is itself; no program in sight. No conditions.
  Layer 1 (line) in plain words: a text's lines, in the program's way and in the reference's; no program in sight. No conditions.
  DERIVED: THE SHELF's CONTRACTS AT THIS DUMP, IN PLAIN WORDS (tools/lay-plain.mjs out of 'TrydShelfL4.lean', which tools/lay-shelf.mjs wrote): THE SAME DECLARATIONS UNDER THE SAME NAMES: 'import', 'namespace', 'open', 'def', 'theorem' AND NOTHING ELSE: no command of the shelf's: FOR A HAND-IN. Each laying: the table of numbers ('.._ren') and one theorem, a field a fact of the dump's own or the kernel's comparison; each contract: ONE APPLICATION.
  The walks of layer 1 (line): how many runes a text has, in the program and in its reference; whether two lists of texts are the same. No conditions.
  The walks of layer 1 (line): a text's lines, in the program and in its reference. No conditions but that internal/bytealg.MaxLen holds a number.
  The statements LineOf and LineJoins of layer 1 (line), walked. No conditions but that internal/bytealg.MaxLen holds a number.
  Layer 1 (line) in plain words: a text without blanks at its ends, as strings.TrimFunc goes and byte by byte; no program in sight. No conditions.
  Nothing of the shelf's is laid here at this seat (strings.TrimFunc is not reached).
-/
import Derived.Test.YtphhgdgamnogpaaDoorRows
import Derived.Handy
import Derived.WalkSpells
import Derived.WalkLawsBesides
import Derived.Deep.RegionHeld3
import Derived.Deep.DrawnRows
import Derived.Lib.Hide
import Derived.Lib.Strings
import Derived.Lib.SmallJoins
import Derived.Deep.QuietTactic
import Derived.Deep.RegionWith
import Derived.BigQuiet
import Derived.WalkKit
import Derived.Laws.AppendOwn
import Derived.Lib.ValidLaws
import Derived.Lib.MapLaws
import GoSem.Conv.StringToRunes
import Derived.Lib.DecodeN
import Derived.Lib.RuneBytes
import Derived.Lib.SplitLaws
import Derived.Ground.NamesProg
import Derived.Shelf.LaysM
import Derived.Shelf.Strings.Prefix
import Derived.Shelf.Strings.Split
import Derived.Test.YtphhgdgamnogpaaDoorProg
import Derived.Laws.RangeAny
import Derived.Shelf.GgClosure.StringsTrimFunc
namespace Go.Proofs.YtphhgdgamnogpaaDoor
open Go.RowKit

theorem cell_past {w : World} {a : Addr} {v : Value} (o : Obj) (h : w.cell? a = some v) : (w.alloc o).cell? a = some v :=
  cell_later ((Below.refl _ _).alloc (Nat.le_refl _) o) h
theorem cell_drew {w : World} {a : Addr} {v : Value} (h : w.cell? a = some v) : w.drew.cell? a = some v := h
/-- Two steps, each of which leaves what was there before it. -/
theorem below_next {w a b : World} (h : Below w.heap.size w a) (k : Below a.heap.size a b) : Below w.heap.size w b := h.trans (k.mono h.size)
/-- What a call leaves of old memory, as two rules of the walk. -/
theorem bcell {W w1 : World} (hb : Below W.heap.size W w1) : (∀ b o, b < W.heap.size → w1.cell? ⟨b, o, none⟩ = W.cell? ⟨b, o, none⟩) ∧ (∀ b o, b < W.heap.size → w1.frozen? ⟨b, o, none⟩ = W.frozen? ⟨b, o, none⟩) :=
  ⟨fun b o h => hb.cell (p := ⟨b, o, none⟩) h, fun b o h => hb.frozen (p := ⟨b, o, none⟩) h⟩

/-! ### A string as the list of its bytes: the walk's forms, written as lists. -/
/-- The string of these bytes. -/
def bs (l : List UInt8) : ByteArray := ⟨l.toArray⟩
theorem bs_data (s : ByteArray) : s = bs s.data.toList := by
  obtain ⟨⟨l⟩⟩ := s
  rfl
theorem bs_inj {a b : List UInt8} (h : bs a = bs b) : a = b := by
  have := congrArg (fun s : ByteArray => s.data.toList) h
  simpa [bs] using this
theorem bs_size (l : List UInt8) : (bs l).size = l.length := by simp [bs, ByteArray.size]
theorem bs_toList (l : List UInt8) : (bs l).toList = l := by rw [Lib.toList_data]; simp [bs]
theorem bs_extract (l : List UInt8) (a b : Nat) : (bs l).extract a b = bs ((l.drop a).take (b - a)) := by
  have h := Lib.extract_data (bs l) a b
  rw [bs_data ((bs l).extract a b), h]; simp [bs]
theorem bs_append (a b : List UInt8) : bs a ++ bs b = bs (a ++ b) := by
  rw [bs_data (bs a ++ bs b), Joins.data_append]; simp [bs]
theorem bs_get (l : List UInt8) (i : Nat) (h : i < (bs l).size) : (bs l)[i] = l[i]'(by rw [bs_size] at h; exact h) := by
  rfl
attribute [go_sem] bs_size bs_toList bs_extract bs_append bs_get
theorem str_const (l : List UInt8) : (Value.string { data := l.toArray }) = Value.string (bs l) := rfl

/-! ### A region that draws its order, whose operations read and whose callees make memory of their own alone: one walk, in the order of the text. -/
/-- A later world: all that W had stands in it as it stood. -/
structure Later (W : World) where
  w : World
  h : Below W.heap.size W w
instance (W : World) : Nonempty (Later W) := ⟨⟨W, Below.refl _ _⟩⟩
theorem Later.cell {W : World} (x : Later W) (b o : Nat) (hb : b < W.heap.size) : x.w.cell? ⟨b, o, none⟩ = W.cell? ⟨b, o, none⟩ := x.h.cell (p := ⟨b, o, none⟩) hb
theorem Later.frozen {W : World} (x : Later W) (b o : Nat) (hb : b < W.heap.size) : x.w.frozen? ⟨b, o, none⟩ = W.frozen? ⟨b, o, none⟩ := x.h.frozen (p := ⟨b, o, none⟩) hb
/-- A callee's contract, met in a later world. -/
theorem Later.call {P : Program} {f : FuncId} {args : Array Value} {W : World} {x : Later W} {v : Value}
    (h : Calls P f args x.w fun e w' => e = .returned v ∧ Below x.w.heap.size x.w w') : Calls P f args x.w fun e w'' => e = .returned v ∧ ∃ m : Later W, w'' = m.w :=
  h.mono fun _ w' ⟨he, hm⟩ => ⟨he, ⟨w', below_next x.h hm⟩, rfl⟩
theorem wp_region_later {P : Program} {id : Nat} {Q : Exit → Act → World → Prop} {a : Act} {w : World} {l : List Oper} (hm : P.follows .mixedOrders = true) (hB : Region.lexB .any l.toArray = true)
    (h : wpQuiet P l.toArray (fun w' => ∃ x : Later w, w' = x.w) (fun a' => ∀ w', (∃ x : Later w, w' = x.w) → Q .normal a' w') l a) : (Code.region id l.toArray true).wp P Q a w :=
  wp_region_quiet (C := fun w' => ∃ x : Later w, w' = x.w) hm hB ⟨⟨w.drew, (Below.refl _ _).drew⟩, rfl⟩ (by simpa using h)
end Go.Proofs.YtphhgdgamnogpaaDoor

namespace Go.Proofs.YtphhgdgamnogpaaDoor
open Go.RowKit

/-- An event: its kind, its session, its key, its value's kind and number, its line. -/
abbrev EventM := Int × List UInt8 × List UInt8 × Int × Int × Int
def noEv : EventM := (0, [], [], 0, 0, 0)
/-- A kind's first word. -/
def kindW (k : Int) : List UInt8 :=
  if k = 1 then [98, 101, 103, 105, 110] else if k = 2 then [114, 101, 97, 100] else if k = 3 then [119, 114, 105, 116, 101] else if k = 4 then [111, 107] else if k = 5 then [102, 97, 105, 108] else if k = 6 then [105, 110, 102, 111] else []
/-- The kind of a first word; 0: it is none. -/
def kindL (l : List UInt8) : Int :=
  if l = [98, 101, 103, 105, 110] then 1 else if l = [114, 101, 97, 100] then 2 else if l = [119, 114, 105, 116, 101] then 3 else if l = [111, 107] then 4 else if l = [102, 97, 105, 108] then 5 else if l = [105, 110, 102, 111] then 6 else 0
/-- Have events of a kind a key, and a value? -/
def longK (k : Int) : Bool := k == 2 || k == 3
/-- An event as a value. -/
def evV (x : EventM) : Value := .agg #[.int .i64 x.1, .string (bs x.2.1), .string (bs x.2.2.1), .int .i64 x.2.2.2.1, .int .i64 x.2.2.2.2.1, .int .i64 x.2.2.2.2.2]
theorem kindW_at (i : Nat) (h : i < 7) : kindW (i : Int) = [[], [98, 101, 103, 105, 110], [114, 101, 97, 100], [119, 114, 105, 116, 101], [111, 107], [102, 97, 105, 108], [105, 110, 102, 111]].getD i [] := by
  match i, h with
  | 0, _ => rfl
  | 1, _ => rfl
  | 2, _ => rfl
  | 3, _ => rfl
  | 4, _ => rfl
  | 5, _ => rfl
  | 6, _ => rfl
/-- The first words stand in event.words as its initialiser lays them. -/
def EvTab (w : World) : Prop := ∀ i : Nat, i < 7 → w.cell? ⟨1, i, none⟩ = some (.string (bs (kindW i)))
theorem EvTab.below {w w' : World} (h : EvTab w) (hb : Below w.heap.size w w') : EvTab w' := fun i hi => cell_later hb (h i hi)
theorem long_cases (k : Int) : (k = 2 ∧ longK k = true) ∨ (k = 3 ∧ longK k = true) ∨ ((k == 2) = false ∧ (k == 3) = false ∧ longK k = false) := by
  by_cases h2 : k = 2
  · exact .inl ⟨h2, by simp [longK, h2]⟩
  · by_cases h3 : k = 3
    · exact .inr (.inl ⟨h3, by simp [longK, h3]⟩)
    · exact .inr (.inr ⟨by simpa using h2, by simpa using h3, by simp [longK, h2, h3]⟩)
end Go.Proofs.YtphhgdgamnogpaaDoor

namespace Go.Proofs.YtphhgdgamnogpaaDoor
open Go.RowKit

/-- A slice's cells hold these texts. -/
def HasTexts (w : World) (p : Option Addr) (L : List (List UInt8)) : Prop := ∀ j, j < L.length → ∃ g, p = some ⟨g, 0, none⟩ ∧ w.cell? ⟨g, j, none⟩ = some (.string (bs (L.getD j [])))
theorem HasTexts.below {w w' : World} {p : Option Addr} {L : List (List UInt8)} (h : HasTexts w p L) (hb : Below w.heap.size w w') : HasTexts w' p L := fun j hj => by
  obtain ⟨g, hp, hc⟩ := h j hj
  exact ⟨g, hp, cell_later hb hc⟩
/-- A slice of these texts. -/
def Texts (w : World) (v : Value) (L : List (List UInt8)) : Prop := ∃ p cap, v = .slice p L.length cap ∧ HasTexts w p L
theorem Texts.below {w w' : World} {v : Value} {L : List (List UInt8)} (h : Texts w v L) (hb : Below w.heap.size w w') : Texts w' v L := by
  obtain ⟨p, cap, hv, ht⟩ := h
  exact ⟨p, cap, hv, ht.below hb⟩
theorem texts_none (w : World) : Texts w (.slice none 0 0) [] := ⟨none, 0, rfl, fun j hj => absurd hj (Nat.not_lt_zero j)⟩

/-- Texts as cells. -/
def strs (L : List (List UInt8)) : List Value := L.map fun l => .string (bs l)
theorem strs_snoc (L : List (List UInt8)) (l : List UInt8) : strs L ++ [.string (bs l)] = strs (L ++ [l]) := by simp [strs]
/-- A slice of texts that lies in a row of its own. -/
theorem own_texts {w : World} {B : Nat} {e : TypeId} {v : Value} {L : List (List UInt8)} (h : w.ownsRow B e 1 v L.length (strs L)) : Texts w v L := by
  obtain ⟨-, ⟨h0, hn⟩ | ⟨g, cap, cur, hv, -, hw, -, -, -, ht⟩⟩ := h
  · have : L = [] := List.eq_nil_of_length_eq_zero hn
    subst this h0
    exact texts_none w
  · refine ⟨_, cap, hv, fun j hj => ⟨g, rfl, ?_⟩⟩
    have h1 := congrArg (fun x : List Value => x[j]?) ht
    simp only [Nat.mul_one, List.getElem?_take, hj, if_true, Array.getElem?_toList] at h1
    rw [cell_of_row w g j _ _ (0, 0) hw, h1]
    simp [strs, hj]
theorem info_str : (Tryd.prog.info? 9).map (fun i => (i.zero, i.size, i.bytes)) = some (some (.string ByteArray.empty), 1, 16) := by kernel_rfl

theorem list_same_step (L M : List (List UInt8)) (i : Nat) (R : Bool) (hl : L.length = M.length) (hi : i < L.length) (h : (L.drop i == M.drop i) = R) : (if L.getD i [] = M.getD i [] then (L.drop (i + 1) == M.drop (i + 1)) else false) = R := by
  have e1 : L.drop i = L.getD i [] :: L.drop (i + 1) := by
    rw [List.drop_eq_getElem_cons hi]
    simp [hi]
  have e2 : M.drop i = M.getD i [] :: M.drop (i + 1) := by
    rw [List.drop_eq_getElem_cons (by omega)]
    simp [hl ▸ hi]
  rw [e1, e2] at h
  rw [← h]
  by_cases hc : L.getD i [] = M.getD i []
  · rw [if_pos hc, hc]
    simp
  · rw [if_neg hc]
    exact (beq_eq_false_iff_ne.2 fun e => hc (List.cons.inj e).1).symm

set_option maxRecDepth 100000 in
set_option maxHeartbeats 1000000 in
theorem sametexts_at (w : World) (p q : Option Addr) (c d : Nat) (L M : List (List UInt8)) (hp : HasTexts w p L) (hq : HasTexts w q M) (hL : L.length ≤ 4611686018427387904) :
    Calls Tryd.prog 44 #[.slice p L.length c, .slice q M.length d] w fun e w' => e = .returned (.bool (L == M)) ∧ Below w.heap.size w w' := by
  have HP := Lib.hid hp
  have HQ := Lib.hid hq
  clear hp hq
  by_cases hl : L.length = M.length
  · obtain ⟨R, hR⟩ : ∃ R, (L == M) = R := ⟨_, rfl⟩
    rw [hR]
    have HR := Lib.hid hR
    clear hR
    go_enter Tryd.func44, Tryd.ntmps44
    go_wp2
    go_loopw [5] (fun i wr => ∃ k n : Nat, k ≤ L.length ∧ i = .int .i64 k ∧ wr = w.drewN n ∧ (L.drop k == M.drop k) = R) (fun i _ => L.length - (RowKit.intOf i).toNat)
    case atStart => exact ⟨0, 0, Nat.zero_le _, rfl, rfl, HR.out⟩
    case round =>
      obtain ⟨k, n, hk, rfl, rfl, hr⟩ := hrel
      by_cases hlt : k < L.length
      · obtain ⟨g, rfl, h1⟩ := HP.out k hlt
        obtain ⟨g2, rfl, h2⟩ := HQ.out k (by omega)
        have HS := Lib.hid (list_same_step L M k R hl hlt hr)
        clear hr
        generalize L.getD k [] = x at *
        generalize M.getD k [] = y at *
        by_cases hxy : x = y
        · have H1 := HS.out
          rw [if_pos hxy] at H1
          have H2 := Lib.hid H1
          subst hxy
          clear H1 HS
          go_wp2_with fail
          go_region
          go_wp2_with fail
          go_roundw
          case rel => exact ⟨k + 1, n + 1, by omega, by go_num, rfl, H2.out⟩
          case measure => simp [RowKit.intOf]; omega
        · have H1 := HS.out
          rw [if_neg hxy] at H1
          have H2 := Lib.hid H1
          have e1 : (x == y) = false := beq_eq_false_iff_ne.2 hxy
          clear H1 HS hxy
          go_wp2_with fail
          go_region
          go_wp2_with fail
          go_ret
          exact ⟨by rw [← H2.out]; rfl, (Go.below_drewN (Below.refl _ _) n).drew⟩
      · have e1 : L.drop k = [] := List.drop_eq_nil_of_le (by omega)
        have e2 : M.drop k = [] := List.drop_eq_nil_of_le (by omega)
        rw [e1, e2] at hr
        have H2 := Lib.hid hr
        clear hr e1 e2
        go_wp2_with fail
        go_ret
        exact ⟨by rw [← H2.out]; rfl, Go.below_drewN (Below.refl _ _) n⟩
  · have e : (L == M) = false := beq_eq_false_iff_ne.2 fun h => hl (congrArg List.length h)
    rw [e]
    have e1 : ((L.length : Int) != (M.length : Int)) = true := by simp; omega
    clear e hl
    go_enter Tryd.func44, Tryd.ntmps44
    go_wp2_with fail
    go_ret
    exact ⟨rfl, Below.refl _ _⟩
theorem sametexts_any (w : World) (v v' : Value) (L M : List (List UInt8)) (hv : Texts w v L) (hv' : Texts w v' M) (hL : L.length ≤ 4611686018427387904) :
    Calls Tryd.prog 44 #[v, v'] w fun e w' => e = .returned (.bool (L == M)) ∧ Below w.heap.size w w' := by
  obtain ⟨p, c, rfl, hp⟩ := hv
  obtain ⟨q, d, rfl, hq⟩ := hv'
  exact sametexts_at w p q c d L M hp hq hL
end Go.Proofs.YtphhgdgamnogpaaDoor

namespace Go.Proofs.YtphhgdgamnogpaaDoor
open Go.RowKit

set_option maxHeartbeats 1000000 in
theorem long_any (k : Int) (w : World) :
    Calls Tryd.prog 57 #[.int .i64 k] w fun e w' => e = .returned (.bool (longK k)) ∧ w = w' := by
  rcases long_cases k with ⟨rfl, h⟩ | ⟨rfl, h⟩ | ⟨h1, h2, h⟩ <;> rw [h] <;> clear h
  all_goals
    go_enter Tryd.func57, Tryd.ntmps57
    go_wp2
    go_ret
    exact ⟨rfl, rfl⟩

theorem kindL_hit (i : Nat) (h0 : 0 < i) (h : i < 7) (l : List UInt8) (e : kindW i = l) : kindL l = i := by
  subst e
  match i, h0, h with
  | 1, _, _ => decide
  | 2, _, _ => decide
  | 3, _, _ => decide
  | 4, _, _ => decide
  | 5, _, _ => decide
  | 6, _, _ => decide
theorem kindL_miss (l : List UInt8) (h : ∀ i : Nat, 0 < i → i < 7 → kindW i ≠ l) : kindL l = 0 := by
  have h1 := h 1 (by decide) (by decide)
  have h2 := h 2 (by decide) (by decide)
  have h3 := h 3 (by decide) (by decide)
  have h4 := h 4 (by decide) (by decide)
  have h5 := h 5 (by decide) (by decide)
  have h6 := h 6 (by decide) (by decide)
  simp only [kindW] at h1 h2 h3 h4 h5 h6
  unfold kindL
  rw [if_neg (fun e => h1 (by rw [e]; rfl)), if_neg (fun e => h2 (by rw [e]; rfl)), if_neg (fun e => h3 (by rw [e]; rfl)), if_neg (fun e => h4 (by rw [e]; rfl)), if_neg (fun e => h5 (by rw [e]; rfl)), if_neg (fun e => h6 (by rw [e]; rfl))]

/-- The whole table as a value. -/
def tabE : Value := .agg #[.string (bs []), .string (bs [98, 101, 103, 105, 110]), .string (bs [114, 101, 97, 100]), .string (bs [119, 114, 105, 116, 101]), .string (bs [111, 107]), .string (bs [102, 97, 105, 108]), .string (bs [105, 110, 102, 111])]
theorem tabE_0 (w : World) : (Instr.index 96 tabE (.int .i64 ((0 : Nat) : Int))).run Tryd.prog w = .ok (.string (bs (kindW ((0 : Nat) : Int)))) w := by kernel_rfl
theorem tabE_1 (w : World) : (Instr.index 96 tabE (.int .i64 ((1 : Nat) : Int))).run Tryd.prog w = .ok (.string (bs (kindW ((1 : Nat) : Int)))) w := by kernel_rfl
theorem tabE_2 (w : World) : (Instr.index 96 tabE (.int .i64 ((2 : Nat) : Int))).run Tryd.prog w = .ok (.string (bs (kindW ((2 : Nat) : Int)))) w := by kernel_rfl
theorem tabE_3 (w : World) : (Instr.index 96 tabE (.int .i64 ((3 : Nat) : Int))).run Tryd.prog w = .ok (.string (bs (kindW ((3 : Nat) : Int)))) w := by kernel_rfl
theorem tabE_4 (w : World) : (Instr.index 96 tabE (.int .i64 ((4 : Nat) : Int))).run Tryd.prog w = .ok (.string (bs (kindW ((4 : Nat) : Int)))) w := by kernel_rfl
theorem tabE_5 (w : World) : (Instr.index 96 tabE (.int .i64 ((5 : Nat) : Int))).run Tryd.prog w = .ok (.string (bs (kindW ((5 : Nat) : Int)))) w := by kernel_rfl
theorem tabE_6 (w : World) : (Instr.index 96 tabE (.int .i64 ((6 : Nat) : Int))).run Tryd.prog w = .ok (.string (bs (kindW ((6 : Nat) : Int)))) w := by kernel_rfl
theorem tabE_at (i : Nat) (h : i < 7) (w : World) : (Instr.index 96 tabE (.int .i64 (i : Int))).run Tryd.prog w = .ok (.string (bs (kindW i))) w :=
  match i, h with
  | 0, _ => tabE_0 w
  | 1, _ => tabE_1 w
  | 2, _ => tabE_2 w
  | 3, _ => tabE_3 w
  | 4, _ => tabE_4 w
  | 5, _ => tabE_5 w
  | 6, _ => tabE_6 w

set_option maxRecDepth 100000 in
set_option maxHeartbeats 1000000 in
theorem kind_any (l : List UInt8) (w : World) (hE : EvTab w) :
    Calls Tryd.prog 66 #[.string (bs l)] w fun e w' => e = .returned (.int .i64 (kindL l)) ∧ w = w' := by
  have h0 : w.cell? ⟨1, 0, none⟩ = some (.string (bs [])) := hE 0 (by decide)
  have h1 : w.cell? ⟨1, 1, none⟩ = some (.string (bs [98, 101, 103, 105, 110])) := hE 1 (by decide)
  have h2 : w.cell? ⟨1, 2, none⟩ = some (.string (bs [114, 101, 97, 100])) := hE 2 (by decide)
  have h3 : w.cell? ⟨1, 3, none⟩ = some (.string (bs [119, 114, 105, 116, 101])) := hE 3 (by decide)
  have h4 : w.cell? ⟨1, 4, none⟩ = some (.string (bs [111, 107])) := hE 4 (by decide)
  have h5 : w.cell? ⟨1, 5, none⟩ = some (.string (bs [102, 97, 105, 108])) := hE 5 (by decide)
  have h6 : w.cell? ⟨1, 6, none⟩ = some (.string (bs [105, 110, 102, 111])) := hE 6 (by decide)
  clear hE
  have IX := Lib.hid tabE_at
  go_enter Tryd.func66, Tryd.ntmps66
  go_wp2
  clear h0 h1 h2 h3 h4 h5 h6
  go_loop [6] (fun i => ∃ k : Nat, k ≤ 7 ∧ i = .int .i64 k ∧ ∀ j : Nat, 0 < j → j < k → kindW j ≠ l) (fun i => 7 - (RowKit.intOf i).toNat)
  case atStart => exact ⟨0, by omega, rfl, fun j h0 h1 => absurd h1 (Nat.not_lt_zero j)⟩
  case round =>
    obtain ⟨k, hk, rfl, hno⟩ := hrel
    have HNo := Lib.hid hno
    clear hno
    by_cases hlt : k < 7
    · have ix := IX.out k hlt
      unfold tabE at ix
      by_cases hk0 : 0 < k
      · by_cases he : kindW k = l
        · have HR := Lib.hid (kindL_hit k hk0 hlt l he)
          have hb : (kindW k == l) = true := by rw [he]; simp
          clear he
          go_wp2_with fail
          go_ret
          exact ⟨by rw [HR.out]; rfl, rfl⟩
        · have HN : RowKit.Hid (∀ j : Nat, 0 < j → j < k + 1 → kindW j ≠ l) := Lib.hid (fun j h0 h1 => by
            by_cases h : j = k
            · rw [h]; exact he
            · exact HNo.out j h0 (by omega))
          have hb : (kindW k == l) = false := beq_eq_false_iff_ne.2 he
          clear he
          go_wp2_with fail
          go_round
          case rel => exact ⟨k + 1, by omega, by go_num, HN.out⟩
          case measure => simp [RowKit.intOf]; omega
      · have hk1 : k = 0 := by omega
        subst hk1
        clear ix
        have ix : ∀ w : World, (Instr.index 96 (.agg #[.string (bs []), .string (bs [98, 101, 103, 105, 110]), .string (bs [114, 101, 97, 100]), .string (bs [119, 114, 105, 116, 101]), .string (bs [111, 107]), .string (bs [102, 97, 105, 108]), .string (bs [105, 110, 102, 111])]) (.int .i64 0)).run Tryd.prog w = .ok (.string (bs [])) w := tabE_0
        go_wp2_with fail
        go_round
        case rel => exact ⟨1, by omega, rfl, fun j h0 h1 => by omega⟩
        case measure => simp [RowKit.intOf]
    · have hk7 : k = 7 := by omega
      subst hk7
      have HR := Lib.hid (kindL_miss l HNo.out)
      go_wp2_with fail
      go_ret
      exact ⟨by rw [HR.out]; rfl, rfl⟩
end Go.Proofs.YtphhgdgamnogpaaDoor

namespace Go.Proofs.YtphhgdgamnogpaaDoor
open Go.Lib

/-- A text's runes, one behind the other, by at most so many steps of the decoder. -/
def runesGo : Nat → List UInt8 → List Nat
  | 0, _ => []
  | n + 1, l => if l = [] then [] else (decodeL l).1 :: runesGo n (l.drop (decodeL l).2)
/-- A text's runes. -/
def runesU (l : List UInt8) : List Nat := runesGo l.length l
theorem runesGo_nil : ∀ n, runesGo n [] = []
  | 0 => rfl
  | _ + 1 => by simp [runesGo]
theorem runesGo_fuel : ∀ (n m : Nat) (l : List UInt8), l.length ≤ n → l.length ≤ m → runesGo n l = runesGo m l
  | 0, m, l, hn, _ => by
    have : l = [] := List.eq_nil_of_length_eq_zero (by omega)
    subst this
    rw [runesGo_nil, runesGo_nil]
  | n + 1, 0, l, _, hm => by
    have : l = [] := List.eq_nil_of_length_eq_zero (by omega)
    subst this
    rw [runesGo_nil, runesGo_nil]
  | n + 1, m + 1, l, hn, hm => by
    unfold runesGo
    by_cases hne : l = []
    · simp [hne]
    · have hw := decodeL_width l
      have hl : 0 < l.length := List.length_pos_iff.2 hne
      rw [if_neg hne, if_neg hne, runesGo_fuel n m (l.drop (decodeL l).2) (by rw [List.length_drop]; omega) (by rw [List.length_drop]; omega)]
theorem runesU_nil : runesU [] = [] := rfl
theorem runesU_step (l : List UInt8) (hne : l ≠ []) : runesU l = (decodeL l).1 :: runesU (l.drop (decodeL l).2) := by
  have hl : 0 < l.length := List.length_pos_iff.2 hne
  have hw := decodeL_width l
  obtain ⟨n, hn⟩ : ∃ n, l.length = n + 1 := ⟨l.length - 1, by omega⟩
  unfold runesU
  rw [hn]
  show (if l = [] then [] else _) = _
  rw [if_neg hne, runesGo_fuel n (l.drop (decodeL l).2).length _ (by rw [List.length_drop]; omega) (Nat.le_refl _)]
theorem runesGo_length : ∀ (n : Nat) (l : List UInt8), (runesGo n l).length ≤ n
  | 0, _ => by simp [runesGo]
  | n + 1, l => by
    unfold runesGo
    split
    · simp
    · have := runesGo_length n (l.drop (decodeL l).2)
      simp only [List.length_cons]; omega
theorem runesU_length (l : List UInt8) : (runesU l).length ≤ l.length := runesGo_length _ _
theorem runesGo_rune : ∀ (n : Nat) (l : List UInt8), ∀ c ∈ runesGo n l, c ≤ 1114111
  | 0, _ => by simp [runesGo]
  | n + 1, l => by
    unfold runesGo
    split
    · simp
    · have := runesGo_rune n (l.drop (decodeL l).2)
      have hd := decodeL_rune l
      intro c hc
      rcases List.mem_cons.1 hc with rfl | hc
      · exact hd
      · exact this c hc
theorem runesU_rune (l : List UInt8) : ∀ c ∈ runesU l, c ≤ 1114111 := runesGo_rune _ _

/-- The model's own conversion, by the same list. -/
theorem runesFrom_go (s : ByteArray) : ∀ (b i : Nat) (acc : Array Value), Conv.runesFrom s b i acc = acc ++ ((runesGo b (s.data.toList.drop i)).map fun (n : Nat) => Value.int .i32 (n : Int)).toArray
  | 0, i, acc => by simp [Conv.runesFrom, runesGo]
  | b + 1, i, acc => by
    unfold Conv.runesFrom runesGo
    by_cases h : i < s.size
    · have hne : s.data.toList.drop i ≠ [] := by
        intro e
        have := congrArg List.length e
        simp at this
        omega
      rw [if_pos h, if_neg hne]
      simp only []
      rw [runesFrom_go s b]
      simp [decodeL_drop, List.drop_drop]
    · have he : s.data.toList.drop i = [] := List.drop_eq_nil_of_le (by rw [← Lib.size_eq]; omega)
      rw [if_neg h, he]
      simp
theorem runesFrom_all (l : List UInt8) : Conv.runesFrom (bs l) (bs l).size 0 #[] = ((runesU l).map fun (n : Nat) => Value.int .i32 (n : Int)).toArray := by
  rw [runesFrom_go]
  simp [bs, runesU, ByteArray.size]

/-! ### what a name is -/
def dig (c : Nat) : Bool := decide (48 ≤ c) && decide (c ≤ 57)
/-- May a rune stand in a name? -/
def part (c : Nat) : Bool := decide (127 < c) || decide (c = 95) || dig c || (decide (97 ≤ c) && decide (c ≤ 122)) || (decide (65 ≤ c) && decide (c ≤ 90))
/-- Is a text reserved? -/
def resL (l : List UInt8) : Bool :=
  decide (l = [98, 101, 103, 105, 110] ∨ l = [114, 101, 97, 100] ∨ l = [119, 114, 105, 116, 101] ∨ l = [111, 107] ∨ l = [102, 97, 105, 108] ∨ l = [105, 110, 102, 111] ∨ l = [110, 105, 108])
/-- Are these runes a name's? -/
def word (r : List Nat) : Bool := decide (0 < r.length) && decide (r.length ≤ 20) && r.all part && !dig (r.getD 0 0)
def nameL (l : List UInt8) : Bool := !resL l && validD l && word (runesU l)

/-! ### which of two is ahead -/
def lexLess : List Nat → List Nat → Bool
  | [], [] => false
  | [], _ :: _ => true
  | _ :: _, [] => false
  | a :: x, b :: y => if a = b then lexLess x y else decide (a < b)
def lexCmp : List Nat → List Nat → Int
  | [], [] => 0
  | [], _ :: _ => -1
  | _ :: _, [] => 1
  | a :: x, b :: y => if a = b then lexCmp x y else if a < b then -1 else 1
theorem lexCmp_less : ∀ x y, lexLess x y = decide (lexCmp x y < 0)
  | [], [] => rfl
  | [], _ :: _ => rfl
  | _ :: _, [] => rfl
  | a :: x, b :: y => by
    unfold lexLess lexCmp
    split
    · exact lexCmp_less x y
    · split <;> simp [*]
theorem lex_same : ∀ x y, (x = y) ↔ (lexLess x y = lexLess y x)
  | [], [] => by simp [lexLess]
  | [], _ :: _ => by simp [lexLess]
  | _ :: _, [] => by simp [lexLess]
  | a :: x, b :: y => by
    unfold lexLess
    by_cases h : a = b
    · subst h
      simp [lex_same x y]
    · have h' : ¬ b = a := fun e => h e.symm
      simp [h, h']
      omega
theorem lex_not_both : ∀ x y, (lexLess x y && lexLess y x) = false
  | [], [] => rfl
  | [], _ :: _ => rfl
  | _ :: _, [] => rfl
  | a :: x, b :: y => by
    unfold lexLess
    by_cases h : a = b
    · subst h
      simpa using lex_not_both x y
    · have h' : ¬ b = a := fun e => h e.symm
      simp [h, h']
      omega
theorem lexCmp_skip : ∀ (p x y : List Nat), lexCmp (p ++ x) (p ++ y) = lexCmp x y
  | [], _, _ => rfl
  | a :: p, x, y => by simp [lexCmp, lexCmp_skip p x y]

theorem decodeL_le' (l : List UInt8) (hne : l ≠ []) : 1 ≤ (decodeL l).2 ∧ (decodeL l).2 ≤ l.length := ⟨decodeL_width l, decodeL_le l hne⟩

/-! ### that valid texts' runes tell them -/
/-- Runes as UTF-8. -/
def textU (r : List Nat) : List UInt8 := r.flatMap fun (c : Nat) => encodeRune (c : Int)
theorem textU_runes : ∀ (n : Nat) (l : List UInt8), l.length ≤ n → validD l = true → textU (runesU l) = l
  | 0, l, h, _ => by
    have : l = [] := List.eq_nil_of_length_eq_zero (by omega)
    subst this; rfl
  | n + 1, l, h, hv => by
    by_cases hne : l = []
    · subst hne; rfl
    · have hw := decodeL_le' l hne
      rw [validD_step l hne] at hv
      by_cases hb : (decodeL l).1 = 65533 ∧ (decodeL l).2 = 1
      · simp [hb] at hv
      · rw [if_neg hb] at hv
        have ih := textU_runes n (l.drop (decodeL l).2) (by rw [List.length_drop]; omega) hv
        rw [runesU_step l hne]
        show encodeRune ((decodeL l).1 : Int) ++ textU (runesU (l.drop (decodeL l).2)) = l
        rw [encode_decode l hne hb, ih, List.take_append_drop]
theorem runes_inj (a b : List UInt8) (ha : validD a = true) (hb : validD b = true) : runesU a = runesU b ↔ a = b := by
  constructor
  · intro h
    rw [← textU_runes _ a (Nat.le_refl _) ha, ← textU_runes _ b (Nat.le_refl _) hb, h]
  · rintro rfl; rfl
end Go.Proofs.YtphhgdgamnogpaaDoor

namespace Go.Proofs.YtphhgdgamnogpaaDoor
open Go.Lib

theorem cont_iff (b : Nat) : (b / 64 = 2) = (128 ≤ b ∧ b ≤ 191) := propext ⟨fun h => ⟨by omega, by omega⟩, fun h => by omega⟩
theorem cont_mod (b : Nat) (h : 128 ≤ b ∧ b ≤ 191) : b % 64 = b - 128 := by omega

theorem dec2 (n b0 b1 b2 b3 : Nat) (h : 194 ≤ b0) (h' : b0 ≤ 223) : decodeN n b0 b1 b2 b3 = if 1 < n ∧ 128 ≤ b1 ∧ b1 ≤ 191 then ((b0 - 192) * 64 + (b1 - 128), 2) else (65533, 1) := by
  have e0 : ¬ b0 < 128 := by omega
  have e1 : b0 / 32 = 6 := by omega
  have e2 : ¬ b0 / 16 = 14 := by omega
  have e3 : ¬ b0 / 8 = 30 := by omega
  have e4 : b0 % 32 = b0 - 192 := by omega
  unfold decodeN
  rw [if_neg e0]
  simp only [e1, e2, e3, e4, cont_iff, true_and, false_and, if_false]
  by_cases hc : 1 < n ∧ 128 ≤ b1 ∧ b1 ≤ 191
  · rw [if_pos hc, if_pos hc, cont_mod b1 hc.2, if_pos (by omega)]
  · rw [if_neg hc, if_neg hc]
theorem dec3 (n b0 b1 b2 b3 : Nat) (h : 224 ≤ b0) (h' : b0 ≤ 239) :
    decodeN n b0 b1 b2 b3 = if (2 < n ∧ 128 ≤ b1 ∧ b1 ≤ 191 ∧ 128 ≤ b2 ∧ b2 ≤ 191) ∧ 2048 ≤ (b0 - 224) * 4096 + (b1 - 128) * 64 + (b2 - 128) ∧ ¬ (55296 ≤ (b0 - 224) * 4096 + (b1 - 128) * 64 + (b2 - 128) ∧ (b0 - 224) * 4096 + (b1 - 128) * 64 + (b2 - 128) ≤ 57343) then
      ((b0 - 224) * 4096 + (b1 - 128) * 64 + (b2 - 128), 3) else (65533, 1) := by
  have e0 : ¬ b0 < 128 := by omega
  have e1 : ¬ b0 / 32 = 6 := by omega
  have e2 : b0 / 16 = 14 := by omega
  have e3 : ¬ b0 / 8 = 30 := by omega
  have e4 : b0 % 16 = b0 - 224 := by omega
  unfold decodeN
  rw [if_neg e0]
  simp only [e1, e2, e3, e4, cont_iff, true_and, false_and, if_false]
  by_cases hc : 2 < n ∧ 128 ≤ b1 ∧ b1 ≤ 191 ∧ 128 ≤ b2 ∧ b2 ≤ 191
  · have hc1 : (1 < n ∧ 128 ≤ b1 ∧ b1 ≤ 191) ∧ 2 < n ∧ 128 ≤ b2 ∧ b2 ≤ 191 := by omega
    rw [if_pos hc1, cont_mod b1 hc1.1.2, cont_mod b2 hc1.2.2]
    obtain ⟨v, hv⟩ : ∃ v, (b0 - 224) * 4096 + (b1 - 128) * 64 + (b2 - 128) = v := ⟨_, rfl⟩
    have hle : v ≤ 65535 := by omega
    rw [hv]
    by_cases hd : 2048 ≤ v ∧ ¬ (55296 ≤ v ∧ v ≤ 57343)
    · rw [if_pos (by omega), if_pos ⟨hc, hd⟩]
    · rw [if_neg (by omega), if_neg (fun x => hd x.2)]
  · rw [if_neg (fun x => hc (by omega)), if_neg (fun x => hc x.1)]
theorem dec4 (n b0 b1 b2 b3 : Nat) (h : 240 ≤ b0) (h' : b0 ≤ 244) :
    decodeN n b0 b1 b2 b3 = if (3 < n ∧ 128 ≤ b1 ∧ b1 ≤ 191 ∧ 128 ≤ b2 ∧ b2 ≤ 191 ∧ 128 ≤ b3 ∧ b3 ≤ 191) ∧ 65536 ≤ (b0 - 240) * 262144 + (b1 - 128) * 4096 + (b2 - 128) * 64 + (b3 - 128) ∧ (b0 - 240) * 262144 + (b1 - 128) * 4096 + (b2 - 128) * 64 + (b3 - 128) ≤ 1114111 then
      ((b0 - 240) * 262144 + (b1 - 128) * 4096 + (b2 - 128) * 64 + (b3 - 128), 4) else (65533, 1) := by
  have e0 : ¬ b0 < 128 := by omega
  have e1 : ¬ b0 / 32 = 6 := by omega
  have e2 : ¬ b0 / 16 = 14 := by omega
  have e3 : b0 / 8 = 30 := by omega
  have e4 : b0 % 8 = b0 - 240 := by omega
  unfold decodeN
  rw [if_neg e0]
  simp only [e1, e2, e3, e4, cont_iff, true_and, false_and, if_false]
  by_cases hc : 3 < n ∧ 128 ≤ b1 ∧ b1 ≤ 191 ∧ 128 ≤ b2 ∧ b2 ≤ 191 ∧ 128 ≤ b3 ∧ b3 ≤ 191
  · have hc1 : (1 < n ∧ 128 ≤ b1 ∧ b1 ≤ 191) ∧ (2 < n ∧ 128 ≤ b2 ∧ b2 ≤ 191) ∧ 3 < n ∧ 128 ≤ b3 ∧ b3 ≤ 191 := by omega
    rw [if_pos hc1, cont_mod b1 hc1.1.2, cont_mod b2 hc1.2.1.2, cont_mod b3 hc1.2.2.2]
    obtain ⟨v, hv⟩ : ∃ v, (b0 - 240) * 262144 + (b1 - 128) * 4096 + (b2 - 128) * 64 + (b3 - 128) = v := ⟨_, rfl⟩
    rw [hv]
    by_cases hd : 65536 ≤ v ∧ v ≤ 1114111
    · rw [if_pos (by omega), if_pos ⟨hc, hd⟩]
    · rw [if_neg (by omega), if_neg (fun x => hd x.2)]
  · rw [if_neg (fun x => hc (by omega)), if_neg (fun x => hc x.1)]
end Go.Proofs.YtphhgdgamnogpaaDoor

namespace Go.Proofs.YtphhgdgamnogpaaDoor
open Go.RowKit Go.Lib

/-- What the reference's decoder finds at a place. -/
def oneAt (l : List UInt8) (p : Nat) : Nat × Nat := decodeL (l.drop p)
theorem oneAt_N (l : List UInt8) (p : Nat) : oneAt l p = decodeN (l.length - p) (l.getD p 0).toNat (l.getD (p + 1) 0).toNat (l.getD (p + 2) 0).toNat (l.getD (p + 3) 0).toNat := by
  unfold oneAt
  rw [decodeL_N, List.length_drop, getD_dropU, getD_dropU, getD_dropU, getD_dropU, Nat.add_zero]
theorem getD_at (l : List UInt8) (p : Nat) (h : p < l.length) : l.getD p 0 = l[p] := by simp [h]

set_option maxRecDepth 100000 in
set_option maxHeartbeats 1000000 in
theorem one_low (l : List UInt8) (p : Nat) (hp : p < l.length) (h : l[p].toNat < 128 ∨ (128 ≤ l[p].toNat ∧ l[p].toNat < 194) ∨ 244 < l[p].toNat) (w : World) :
    Calls Tryd.prog 140 #[.string (bs l), .int .i64 p] w fun e w' => e = .returned (.tuple #[.int .i64 ((oneAt l p).2 : Nat), .int .i64 ((oneAt l p).1 : Nat)]) ∧ w = w' := by
  have H := Lib.hid (oneAt_N l p)
  have h0 := getD_at l p hp
  rcases h with h | ⟨h, h'⟩ | h
  · go_enter Tryd.func140, Tryd.ntmps140
    go_wp2
    go_ret2
    rw [H.out, h0]
    simp [decodeN, h]
  · go_enter Tryd.func140, Tryd.ntmps140
    go_wp2
    go_ret2
    rw [H.out, h0, decodeN_bad _ _ _ _ _ (.inl ⟨h, h'⟩)]
    exact ⟨rfl, rfl⟩
  · have hb := l[p].toNat_lt
    go_enter Tryd.func140, Tryd.ntmps140
    go_wp2
    go_ret2
    rw [H.out, h0, decodeN_bad _ _ _ _ _ (.inr ⟨by omega, hb⟩)]
    exact ⟨rfl, rfl⟩

set_option maxRecDepth 100000 in
set_option maxHeartbeats 4000000 in
theorem one_two (l : List UInt8) (p : Nat) (hp : p < l.length) (hs : l.length ≤ 4611686018427387904) (h : 194 ≤ l[p].toNat) (h' : l[p].toNat ≤ 223) (w : World) :
    Calls Tryd.prog 140 #[.string (bs l), .int .i64 p] w fun e w' => e = .returned (.tuple #[.int .i64 ((oneAt l p).2 : Nat), .int .i64 ((oneAt l p).1 : Nat)]) ∧ w = w' := by
  have h0 := getD_at l p hp
  have hN := oneAt_N l p
  rw [h0, dec2 _ _ _ _ _ h h'] at hN
  by_cases hl : p + 1 < l.length
  · have h1 := getD_at l (p + 1) (by omega)
    rw [h1] at hN
    have hb1 := l[p + 1].toNat_lt
    have H := Lib.hid hN
    clear hN h0 h1
    rcases (show (l[p + 1].toNat < 128) ∨ (128 ≤ l[p + 1].toNat ∧ 191 < l[p + 1].toNat) ∨ (128 ≤ l[p + 1].toNat ∧ l[p + 1].toNat ≤ 191) by omega) with ⟨r0⟩ | ⟨r0, r1⟩ | ⟨r0, r1⟩
    · go_enter Tryd.func140, Tryd.ntmps140; go_wp2; go_rounds 2; go_ret2; rw [H.out, if_neg (by omega)]; exact ⟨rfl, rfl⟩
    · go_enter Tryd.func140, Tryd.ntmps140; go_wp2; go_rounds 2; go_ret2; rw [H.out, if_neg (by omega)]; exact ⟨rfl, rfl⟩
    · go_enter Tryd.func140, Tryd.ntmps140; go_wp2; go_rounds 2; go_ret2; rw [H.out, if_pos (by omega)]; refine ⟨?_, rfl⟩; simp; omega
  · have H := Lib.hid hN
    clear hN h0
    go_enter Tryd.func140, Tryd.ntmps140; go_wp2; go_ret2; rw [H.out, if_neg (by omega)]; exact ⟨rfl, rfl⟩
end Go.Proofs.YtphhgdgamnogpaaDoor

namespace Go.Proofs.YtphhgdgamnogpaaDoor
open Go.RowKit Go.Lib

/-- How many bytes the rune at a place has; 0: there is none. -/
def szD (d : Nat × Nat) : Nat := if d.1 = 65533 ∧ d.2 = 1 then 0 else d.2
def sizeAt (l : List UInt8) (p : Nat) : Nat := szD (oneAt l p)
theorem szD_bad : szD (65533, 1) = 0 := rfl
theorem szD_good (v n : Nat) (h : n ≠ 1) : szD (v, n) = n := by simp [szD, h]
/-- The reference's way over the bytes behind the first. -/
def contGo (l : List UInt8) (p : Nat) : Nat → Nat → Nat → Option Nat
  | 0, _, v => some v
  | m + 1, k, v => if (l.getD (p + k) 0).toNat < 128 ∨ 191 < (l.getD (p + k) 0).toNat then none else contGo l p m (k + 1) (64 * v + ((l.getD (p + k) 0).toNat - 128))
/-- The reference's last test. -/
def finN (n least : Nat) : Option Nat → Nat
  | none => 0
  | some v => if v < least ∨ 1114111 < v ∨ (55296 ≤ v ∧ v ≤ 57343) then 0 else n
theorem size_two (l : List UInt8) (p : Nat) (hp : p + 1 < l.length) (h : 194 ≤ l[p].toNat) (h' : l[p].toNat ≤ 223) : finN 2 128 (contGo l p 1 1 (l[p].toNat - 192)) = sizeAt l p := by
  have hN := oneAt_N l p
  rw [getD_at l p (by omega), dec2 _ _ _ _ _ h h'] at hN
  unfold sizeAt
  rw [hN]
  simp only [contGo]
  by_cases h1 : (l.getD (p + 1) 0).toNat < 128 ∨ 191 < (l.getD (p + 1) 0).toNat
  · rw [if_pos h1, if_neg (by omega)]
    rfl
  · rw [if_neg h1, if_pos (by omega)]
    simp only [finN]
    rw [if_neg (by omega), szD_good _ _ (by omega)]
theorem size_three (l : List UInt8) (p : Nat) (hp : p + 2 < l.length) (h : 224 ≤ l[p].toNat) (h' : l[p].toNat ≤ 239) : finN 3 2048 (contGo l p 2 1 (l[p].toNat - 224)) = sizeAt l p := by
  have hN := oneAt_N l p
  rw [getD_at l p (by omega), dec3 _ _ _ _ _ h h'] at hN
  unfold sizeAt
  rw [hN]
  simp only [contGo, Nat.reduceAdd]
  by_cases h1 : (l.getD (p + 1) 0).toNat < 128 ∨ 191 < (l.getD (p + 1) 0).toNat
  · rw [if_pos h1, if_neg (by omega)]
    rfl
  · rw [if_neg h1]
    by_cases h2 : (l.getD (p + 2) 0).toNat < 128 ∨ 191 < (l.getD (p + 2) 0).toNat
    · rw [if_pos h2, if_neg (by omega)]
      rfl
    · rw [if_neg h2]
      simp only [finN]
      split
      · rw [if_neg (by omega)]
        rfl
      · rw [if_pos (by omega), szD_good _ _ (by omega)]
theorem size_four (l : List UInt8) (p : Nat) (hp : p + 3 < l.length) (h : 240 ≤ l[p].toNat) (h' : l[p].toNat ≤ 244) : finN 4 65536 (contGo l p 3 1 (l[p].toNat - 240)) = sizeAt l p := by
  have hN := oneAt_N l p
  rw [getD_at l p (by omega), dec4 _ _ _ _ _ h h'] at hN
  unfold sizeAt
  rw [hN]
  simp only [contGo, Nat.reduceAdd]
  by_cases h1 : (l.getD (p + 1) 0).toNat < 128 ∨ 191 < (l.getD (p + 1) 0).toNat
  · rw [if_pos h1, if_neg (by omega)]
    rfl
  · rw [if_neg h1]
    by_cases h2 : (l.getD (p + 2) 0).toNat < 128 ∨ 191 < (l.getD (p + 2) 0).toNat
    · rw [if_pos h2, if_neg (by omega)]
      rfl
    · rw [if_neg h2]
      by_cases h3 : (l.getD (p + 3) 0).toNat < 128 ∨ 191 < (l.getD (p + 3) 0).toNat
      · rw [if_pos h3, if_neg (by omega)]
        rfl
      · rw [if_neg h3]
        simp only [finN]
        split
        · rw [if_neg (by omega)]
          rfl
        · rw [if_pos (by omega), szD_good _ _ (by omega)]
theorem size_short (l : List UInt8) (p : Nat) (hp : p < l.length) (h : (194 ≤ l[p].toNat ∧ l[p].toNat ≤ 223 ∧ ¬ p + 1 < l.length) ∨ (224 ≤ l[p].toNat ∧ l[p].toNat ≤ 239 ∧ ¬ p + 2 < l.length) ∨ (240 ≤ l[p].toNat ∧ l[p].toNat ≤ 244 ∧ ¬ p + 3 < l.length)) : sizeAt l p = 0 := by
  have hN := oneAt_N l p
  rw [getD_at l p hp] at hN
  unfold sizeAt
  rcases h with ⟨h, h', h''⟩ | ⟨h, h', h''⟩ | ⟨h, h', h''⟩
  · rw [hN, dec2 _ _ _ _ _ h h', if_neg (by omega)]
    rfl
  · rw [hN, dec3 _ _ _ _ _ h h', if_neg (by omega)]
    rfl
  · rw [hN, dec4 _ _ _ _ _ h h', if_neg (by omega)]
    rfl
theorem size_ascii (l : List UInt8) (p : Nat) (hp : p < l.length) (h : l[p].toNat < 128) : sizeAt l p = 1 := by
  have hN := oneAt_N l p
  rw [getD_at l p hp] at hN
  unfold sizeAt
  rw [hN]
  simp [decodeN, h, szD]
  omega
theorem size_bad (l : List UInt8) (p : Nat) (hp : p < l.length) (h : (128 ≤ l[p].toNat ∧ l[p].toNat < 194) ∨ 244 < l[p].toNat) : sizeAt l p = 0 := by
  have hN := oneAt_N l p
  rw [getD_at l p hp] at hN
  have hb := l[p].toNat_lt
  unfold sizeAt
  rw [hN, decodeN_bad _ _ _ _ _ (by omega)]
  rfl

/-! ### the walk -/
set_option maxRecDepth 100000 in
set_option maxHeartbeats 1000000 in
theorem size_low (l : List UInt8) (p : Nat) (hp : p < l.length) (h : l[p].toNat < 128) (w : World) :
    Calls Tryd.prog 136 #[.string (bs l), .int .i64 p] w fun e w' => e = .returned (.int .i64 (1 : Nat)) ∧ w = w' := by
  go_enter Tryd.func136, Tryd.ntmps136
  go_wp2
  go_ret
  exact ⟨rfl, rfl⟩

set_option maxRecDepth 100000 in
set_option maxHeartbeats 4000000 in
theorem size_wtwo (l : List UInt8) (p : Nat) (hp : p < l.length) (hs : l.length ≤ 4611686018427387904) (h : 194 ≤ l[p].toNat) (h' : l[p].toNat ≤ 223) (w : World) :
    Calls Tryd.prog 136 #[.string (bs l), .int .i64 p] w fun e w' => e = .returned (.int .i64 (sizeAt l p : Nat)) ∧ w = w' := by
  by_cases hl : p + 1 < l.length
  · have hf := size_two l p hl h h'
    obtain ⟨R, hR⟩ : ∃ R, sizeAt l p = R := ⟨_, rfl⟩
    rw [hR] at hf ⊢
    clear hR
    have HF := Lib.hid hf
    clear hf
    go_enter Tryd.func136, Tryd.ntmps136
    go_wp2
    go_loop [8, 9] (fun v i => ∃ x k : Nat, v = .int .i64 x ∧ i = .int .i64 k ∧ 1 ≤ k ∧ k ≤ 2 ∧ ((k = 1 ∧ x < 64) ∨ (k = 2 ∧ x < 4096) ∨ (k = 3 ∧ x < 262144) ∨ (k = 4 ∧ x < 16777216)) ∧ finN 2 128 (contGo l p (2 - k) k x) = R) (fun _ i => 2 - (intOf i).toNat)
    case atStart => exact ⟨l[p].toNat - 192, 1, by go_num, rfl, by omega, by omega, by omega, HF.out⟩
    case round =>
      obtain ⟨x, k, rfl, rfl, hk1, hk, hx, hr⟩ := hrel
      by_cases hlt : k < 2
      · have e : 2 - k = (2 - (k + 1)) + 1 := by omega
        rw [e] at hr
        simp only [contGo] at hr
        have hg := getD_at l (p + k) (by omega)
        rw [hg] at hr
        have hb := (l[p + k]'(by omega)).toNat_lt
        have hin : p + k < l.length := by omega
        by_cases hc : l[p + k].toNat < 128 ∨ 191 < l[p + k].toNat
        · rw [if_pos hc] at hr
          have HR := Lib.hid hr
          clear hr hg e
          rcases hc with hc | hc
          · go_wp2
            go_ret
            exact ⟨by rw [← HR.out]; rfl, rfl⟩
          · have hc0 : 128 ≤ l[p + k].toNat := by omega
            go_wp2
            go_ret
            exact ⟨by rw [← HR.out]; rfl, rfl⟩
        · rw [if_neg hc] at hr
          have HR := Lib.hid hr
          have hc1 : 128 ≤ l[p + k].toNat := by omega
          have hc2 : l[p + k].toNat ≤ 191 := by omega
          clear hr hg e hc
          go_wp2
          go_round
          case rel => exact ⟨64 * x + (l[p + k].toNat - 128), k + 1, by go_num, by go_num, by omega, by omega, by omega, HR.out⟩
          case measure => simp [intOf]; omega
      · have e : k = 2 := by omega
        subst e
        simp only [Nat.sub_self, contGo, finN] at hr
        by_cases hc : x < 128 ∨ 1114111 < x ∨ (55296 ≤ x ∧ x ≤ 57343)
        · rw [if_pos hc] at hr
          subst hr
          rcases (show (x < 128) ∨ (128 ≤ x ∧ 1114111 < x) ∨ (128 ≤ x ∧ 55296 ≤ x ∧ x ≤ 57343 ∧ x ≤ 1114111) by omega) with c | ⟨c, c'⟩ | ⟨c, c', c'', c3⟩
          all_goals
            clear hc HF hx
            go_wp2
            go_ret
            exact ⟨rfl, rfl⟩
        · rw [if_neg hc] at hr
          subst hr
          rcases (show (128 ≤ x ∧ x < 55296) ∨ (128 ≤ x ∧ 57343 < x ∧ x ≤ 1114111) by omega) with ⟨c, c'⟩ | ⟨c, c', c''⟩
          all_goals
            clear hc HF hx
            go_wp2
            go_ret
            exact ⟨rfl, rfl⟩
  · rw [size_short l p hp (by omega)]
    go_enter Tryd.func136, Tryd.ntmps136
    go_wp2
    go_ret
    exact ⟨rfl, rfl⟩

set_option maxRecDepth 100000 in
set_option maxHeartbeats 4000000 in
theorem size_wthree (l : List UInt8) (p : Nat) (hp : p < l.length) (hs : l.length ≤ 4611686018427387904) (h : 224 ≤ l[p].toNat) (h' : l[p].toNat ≤ 239) (w : World) :
    Calls Tryd.prog 136 #[.string (bs l), .int .i64 p] w fun e w' => e = .returned (.int .i64 (sizeAt l p : Nat)) ∧ w = w' := by
  by_cases hl : p + 2 < l.length
  · have hf := size_three l p hl h h'
    obtain ⟨R, hR⟩ : ∃ R, sizeAt l p = R := ⟨_, rfl⟩
    rw [hR] at hf ⊢
    clear hR
    have HF := Lib.hid hf
    clear hf
    go_enter Tryd.func136, Tryd.ntmps136
    go_wp2
    go_loop [8, 9] (fun v i => ∃ x k : Nat, v = .int .i64 x ∧ i = .int .i64 k ∧ 1 ≤ k ∧ k ≤ 3 ∧ ((k = 1 ∧ x < 64) ∨ (k = 2 ∧ x < 4096) ∨ (k = 3 ∧ x < 262144) ∨ (k = 4 ∧ x < 16777216)) ∧ finN 3 2048 (contGo l p (3 - k) k x) = R) (fun _ i => 3 - (intOf i).toNat)
    case atStart => exact ⟨l[p].toNat - 224, 1, by go_num, rfl, by omega, by omega, by omega, HF.out⟩
    case round =>
      obtain ⟨x, k, rfl, rfl, hk1, hk, hx, hr⟩ := hrel
      by_cases hlt : k < 3
      · have e : 3 - k = (3 - (k + 1)) + 1 := by omega
        rw [e] at hr
        simp only [contGo] at hr
        have hg := getD_at l (p + k) (by omega)
        rw [hg] at hr
        have hb := (l[p + k]'(by omega)).toNat_lt
        have hin : p + k < l.length := by omega
        by_cases hc : l[p + k].toNat < 128 ∨ 191 < l[p + k].toNat
        · rw [if_pos hc] at hr
          have HR := Lib.hid hr
          clear hr hg e
          rcases hc with hc | hc
          · go_wp2
            go_ret
            exact ⟨by rw [← HR.out]; rfl, rfl⟩
          · have hc0 : 128 ≤ l[p + k].toNat := by omega
            go_wp2
            go_ret
            exact ⟨by rw [← HR.out]; rfl, rfl⟩
        · rw [if_neg hc] at hr
          have HR := Lib.hid hr
          have hc1 : 128 ≤ l[p + k].toNat := by omega
          have hc2 : l[p + k].toNat ≤ 191 := by omega
          clear hr hg e hc
          go_wp2
          go_round
          case rel => exact ⟨64 * x + (l[p + k].toNat - 128), k + 1, by go_num, by go_num, by omega, by omega, by omega, HR.out⟩
          case measure => simp [intOf]; omega
      · have e : k = 3 := by omega
        subst e
        simp only [Nat.sub_self, contGo, finN] at hr
        by_cases hc : x < 2048 ∨ 1114111 < x ∨ (55296 ≤ x ∧ x ≤ 57343)
        · rw [if_pos hc] at hr
          subst hr
          rcases (show (x < 2048) ∨ (2048 ≤ x ∧ 1114111 < x) ∨ (2048 ≤ x ∧ 55296 ≤ x ∧ x ≤ 57343 ∧ x ≤ 1114111) by omega) with c | ⟨c, c'⟩ | ⟨c, c', c'', c3⟩
          all_goals
            clear hc HF hx
            go_wp2
            go_ret
            exact ⟨rfl, rfl⟩
        · rw [if_neg hc] at hr
          subst hr
          rcases (show (2048 ≤ x ∧ x < 55296) ∨ (2048 ≤ x ∧ 57343 < x ∧ x ≤ 1114111) by omega) with ⟨c, c'⟩ | ⟨c, c', c''⟩
          all_goals
            clear hc HF hx
            go_wp2
            go_ret
            exact ⟨rfl, rfl⟩
  · rw [size_short l p hp (by omega)]
    go_enter Tryd.func136, Tryd.ntmps136
    go_wp2
    go_ret
    exact ⟨rfl, rfl⟩

set_option maxRecDepth 100000 in
set_option maxHeartbeats 4000000 in
theorem size_wfour (l : List UInt8) (p : Nat) (hp : p < l.length) (hs : l.length ≤ 4611686018427387904) (h : 240 ≤ l[p].toNat) (h' : l[p].toNat ≤ 244) (w : World) :
    Calls Tryd.prog 136 #[.string (bs l), .int .i64 p] w fun e w' => e = .returned (.int .i64 (sizeAt l p : Nat)) ∧ w = w' := by
  by_cases hl : p + 3 < l.length
  · have hf := size_four l p hl h h'
    obtain ⟨R, hR⟩ : ∃ R, sizeAt l p = R := ⟨_, rfl⟩
    rw [hR] at hf ⊢
    clear hR
    have HF := Lib.hid hf
    clear hf
    go_enter Tryd.func136, Tryd.ntmps136
    go_wp2
    simp only [show decide (((l[p].toNat : Nat) : Int) ≤ 244) = true from decide_eq_true (by omega)]
    go_loop [8, 9] (fun v i => ∃ x k : Nat, v = .int .i64 x ∧ i = .int .i64 k ∧ 1 ≤ k ∧ k ≤ 4 ∧ ((k = 1 ∧ x < 64) ∨ (k = 2 ∧ x < 4096) ∨ (k = 3 ∧ x < 262144) ∨ (k = 4 ∧ x < 16777216)) ∧ finN 4 65536 (contGo l p (4 - k) k x) = R) (fun _ i => 4 - (intOf i).toNat)
    case atStart => exact ⟨l[p].toNat - 240, 1, by go_num, rfl, by omega, by omega, by omega, HF.out⟩
    case round =>
      obtain ⟨x, k, rfl, rfl, hk1, hk, hx, hr⟩ := hrel
      by_cases hlt : k < 4
      · have e : 4 - k = (4 - (k + 1)) + 1 := by omega
        rw [e] at hr
        simp only [contGo] at hr
        have hg := getD_at l (p + k) (by omega)
        rw [hg] at hr
        have hb := (l[p + k]'(by omega)).toNat_lt
        have hin : p + k < l.length := by omega
        by_cases hc : l[p + k].toNat < 128 ∨ 191 < l[p + k].toNat
        · rw [if_pos hc] at hr
          have HR := Lib.hid hr
          clear hr hg e
          rcases hc with hc | hc
          · go_wp2
            go_ret
            exact ⟨by rw [← HR.out]; rfl, rfl⟩
          · have hc0 : 128 ≤ l[p + k].toNat := by omega
            go_wp2
            go_ret
            exact ⟨by rw [← HR.out]; rfl, rfl⟩
        · rw [if_neg hc] at hr
          have HR := Lib.hid hr
          have hc1 : 128 ≤ l[p + k].toNat := by omega
          have hc2 : l[p + k].toNat ≤ 191 := by omega
          clear hr hg e hc
          go_wp2
          go_round
          case rel => exact ⟨64 * x + (l[p + k].toNat - 128), k + 1, by go_num, by go_num, by omega, by omega, by omega, HR.out⟩
          case measure => simp [intOf]; omega
      · have e : k = 4 := by omega
        subst e
        simp only [Nat.sub_self, contGo, finN] at hr
        by_cases hc : x < 65536 ∨ 1114111 < x ∨ (55296 ≤ x ∧ x ≤ 57343)
        · rw [if_pos hc] at hr
          subst hr
          rcases (show (x < 65536) ∨ (65536 ≤ x ∧ 1114111 < x) by omega) with c | ⟨c, c'⟩
          all_goals
            clear hc HF hx
            go_wp2
            go_ret
            exact ⟨rfl, rfl⟩
        · rw [if_neg hc] at hr
          subst hr
          obtain ⟨c, c', c''⟩ : 65536 ≤ x ∧ 57343 < x ∧ x ≤ 1114111 := by omega
          all_goals
            clear hc HF hx
            go_wp2
            go_ret
            exact ⟨rfl, rfl⟩
  · rw [size_short l p hp (by omega)]
    go_enter Tryd.func136, Tryd.ntmps136
    go_wp2
    go_ret
    exact ⟨rfl, rfl⟩

set_option maxRecDepth 100000 in
set_option maxHeartbeats 1000000 in
theorem size_wbad (l : List UInt8) (p : Nat) (hp : p < l.length) (h : (128 ≤ l[p].toNat ∧ l[p].toNat < 194) ∨ 244 < l[p].toNat) (w : World) :
    Calls Tryd.prog 136 #[.string (bs l), .int .i64 p] w fun e w' => e = .returned (.int .i64 (0 : Nat)) ∧ w = w' := by
  have hb := l[p].toNat_lt
  rcases h with ⟨h, h'⟩ | h
  all_goals
    go_enter Tryd.func136, Tryd.ntmps136
    go_wp2
    go_ret
    exact ⟨rfl, rfl⟩

theorem size_any (l : List UInt8) (p : Nat) (hp : p < l.length) (hs : l.length ≤ 4611686018427387904) (w : World) :
    Calls Tryd.prog 136 #[.string (bs l), .int .i64 p] w fun e w' => e = .returned (.int .i64 (sizeAt l p : Nat)) ∧ w = w' := by
  by_cases h0 : l[p].toNat < 128
  · rw [size_ascii l p hp h0]
    exact size_low l p hp h0 w
  · by_cases h1 : l[p].toNat < 194
    · rw [size_bad l p hp (.inl ⟨by omega, h1⟩)]
      exact size_wbad l p hp (.inl ⟨by omega, h1⟩) w
    · by_cases h2 : l[p].toNat ≤ 223
      · exact size_wtwo l p hp hs (by omega) h2 w
      · by_cases h3 : l[p].toNat ≤ 239
        · exact size_wthree l p hp hs (by omega) h3 w
        · by_cases h4 : l[p].toNat ≤ 244
          · exact size_wfour l p hp hs (by omega) h4 w
          · rw [size_bad l p hp (.inr (by omega))]
            exact size_wbad l p hp (.inr (by omega)) w
end Go.Proofs.YtphhgdgamnogpaaDoor

namespace Go.Proofs.YtphhgdgamnogpaaDoor
open Go.Lib

/-- May a number be a rune of a text? -/
def Scalar (c : Nat) : Prop := c < 55296 ∨ (57343 < c ∧ c ≤ 1114111)
theorem decodeN_scalar (n b0 b1 b2 b3 : Nat) : Scalar (decodeN n b0 b1 b2 b3).1 := by
  unfold decodeN Scalar
  repeat' split
  all_goals (simp only; omega)
theorem runesGo_scalar : ∀ (n : Nat) (l : List UInt8), ∀ c ∈ runesGo n l, Scalar c
  | 0, _ => by simp [runesGo]
  | n + 1, l => by
    unfold runesGo
    split
    · simp
    · have := runesGo_scalar n (l.drop (decodeL l).2)
      intro c hc
      rcases List.mem_cons.1 hc with rfl | hc
      · rw [decodeL_N]; exact decodeN_scalar _ _ _ _ _
      · exact this c hc
theorem runesU_scalar (l : List UInt8) : ∀ c ∈ runesU l, Scalar c := runesGo_scalar _ _

theorem u8n (x : Int) (n : Nat) (h : x = n) (hn : n < 256) : (x.toNat.toUInt8).toNat = n := by
  subst h
  simp only [Int.toNat_natCast, UInt8.toNat_ofNat', Nat.toUInt8]
  omega
theorem div64 (c : Nat) (h : c ≤ 2047) (h' : 128 ≤ c) : 194 ≤ 192 + c / 64 ∧ 192 + c / 64 ≤ 223 := by omega
theorem decode_encode (c : Nat) (h : Scalar c) (t : List UInt8) : decodeL (encodeRune (c : Int) ++ t) = (c, (encodeRune (c : Int)).length) := by
  unfold Scalar at h
  by_cases h1 : c ≤ 127
  · have e0 := u8n (c : Int) c rfl (by omega)
    rw [encodeRune, encodeRuneZ_one (by omega) (by omega)]
    simp only [List.map_cons, List.map_nil, List.cons_append, List.nil_append, List.length_cons, List.length_nil]
    rw [decodeL_ascii _ _ (by rw [e0]; omega), e0]
  · by_cases h2 : c ≤ 2047
    · obtain ⟨d, r, hd, hr, hc⟩ : ∃ d r, c / 64 = d ∧ c % 64 = r ∧ c = 64 * d + r := ⟨_, _, rfl, rfl, by omega⟩
      have hr' : r < 64 := by omega
      have e0 := u8n (192 + (c : Int) / 64) (192 + d) (by omega) (by omega)
      have e1 := u8n (128 + (c : Int) % 64) (128 + r) (by omega) (by omega)
      rw [encodeRune, encodeRuneZ_two (by omega) (by omega)]
      simp only [List.map_cons, List.map_nil, List.cons_append, List.nil_append, List.length_cons, List.length_nil]
      rw [decodeL_N]
      simp only [List.getD_cons_zero, List.getD_cons_succ, List.length_cons, e0, e1]
      clear hd hr e0 e1
      rw [dec2 _ _ _ _ _ (by omega) (by omega), if_pos (by omega)]
      refine Prod.ext ?_ rfl
      simp only
      omega
    · by_cases h3 : c ≤ 65535
      · obtain ⟨d, r, s, hd, hr, hs, hc⟩ : ∃ d r s, c / 4096 = d ∧ c / 64 % 64 = r ∧ c % 64 = s ∧ c = 4096 * d + 64 * r + s := ⟨_, _, _, rfl, rfl, rfl, by omega⟩
        have hr' : r < 64 := by omega
        have hs' : s < 64 := by omega
        have e0 := u8n (224 + (c : Int) / 4096) (224 + d) (by omega) (by omega)
        have e1 := u8n (128 + (c : Int) / 64 % 64) (128 + r) (by omega) (by omega)
        have e2 := u8n (128 + (c : Int) % 64) (128 + s) (by omega) (by omega)
        rw [encodeRune, encodeRuneZ_three (by omega)]
        simp only [List.map_cons, List.map_nil, List.cons_append, List.nil_append, List.length_cons, List.length_nil]
        rw [decodeL_N]
        simp only [List.getD_cons_zero, List.getD_cons_succ, List.length_cons, e0, e1, e2]
        clear hd hr hs e0 e1 e2
        have a0 : 224 + d - 224 = d := by omega
        have a1 : 128 + r - 128 = r := by omega
        have a2 : 128 + s - 128 = s := by omega
        rw [dec3 _ _ _ _ _ (by omega) (by omega), a0, a1, a2, if_pos (by omega)]
        refine Prod.ext ?_ rfl
        simp only
        omega
      · obtain ⟨d, q, r, s, hd, hq, hr, hs, hc⟩ : ∃ d q r s, c / 262144 = d ∧ c / 4096 % 64 = q ∧ c / 64 % 64 = r ∧ c % 64 = s ∧ c = 262144 * d + 4096 * q + 64 * r + s := ⟨_, _, _, _, rfl, rfl, rfl, rfl, by omega⟩
        have hq' : q < 64 := by omega
        have hr' : r < 64 := by omega
        have hs' : s < 64 := by omega
        have e0 := u8n (240 + (c : Int) / 262144) (240 + d) (by omega) (by omega)
        have e1 := u8n (128 + (c : Int) / 4096 % 64) (128 + q) (by omega) (by omega)
        have e2 := u8n (128 + (c : Int) / 64 % 64) (128 + r) (by omega) (by omega)
        have e3 := u8n (128 + (c : Int) % 64) (128 + s) (by omega) (by omega)
        rw [encodeRune, encodeRuneZ_four (by omega) (by omega)]
        simp only [List.map_cons, List.map_nil, List.cons_append, List.nil_append, List.length_cons, List.length_nil]
        rw [decodeL_N]
        simp only [List.getD_cons_zero, List.getD_cons_succ, List.length_cons, e0, e1, e2, e3]
        clear hd hq hr hs e0 e1 e2 e3
        have a0 : 240 + d - 240 = d := by omega
        have a1 : 128 + q - 128 = q := by omega
        have a2 : 128 + r - 128 = r := by omega
        have a3 : 128 + s - 128 = s := by omega
        rw [dec4 _ _ _ _ _ (by omega) (by omega), a0, a1, a2, a3, if_pos (by omega)]
        refine Prod.ext ?_ rfl
        simp only
        omega
theorem encodeRune_len (c : Int) : 1 ≤ (encodeRune c).length ∧ (encodeRune c).length ≤ 4 := by
  have := encodeRuneZ_length c
  simpa [encodeRune] using this
theorem runesU_textU : ∀ r : List Nat, (∀ c ∈ r, Scalar c) → runesU (textU r) = r
  | [], _ => rfl
  | c :: r, h => by
    have hd := decode_encode c (h c (List.mem_cons_self ..)) (textU r)
    have ih := runesU_textU r fun x hx => h x (List.mem_cons_of_mem _ hx)
    have hl := (encodeRune_len (c : Int)).1
    have e : textU (c :: r) = encodeRune (c : Int) ++ textU r := rfl
    have hne : encodeRune (c : Int) ++ textU r ≠ [] := fun x => by
      have := congrArg List.length x
      simp only [List.length_append, List.length_nil] at this
      omega
    rw [e, runesU_step _ hne, hd]
    simp only [List.drop_left, ih]
theorem textU_len : ∀ r : List Nat, (textU r).length ≤ 4 * r.length
  | [] => by simp [textU]
  | c :: r => by
    have ih := textU_len r
    have hl := (encodeRune_len (c : Int)).2
    have e : textU (c :: r) = encodeRune (c : Int) ++ textU r := rfl
    rw [e]
    simp only [List.length_append, List.length_cons]
    omega
/-- A text turned. -/
def turnL (l : List UInt8) : List UInt8 := textU (runesU l).reverse
theorem turnL_len (l : List UInt8) : (turnL l).length ≤ 4 * l.length := by
  have h := textU_len (runesU l).reverse
  have h' := runesU_length l
  rw [List.length_reverse] at h
  unfold turnL
  omega
theorem turn_turn (l : List UInt8) (h : validD l = true) : turnL (turnL l) = l := by
  have e : runesU (turnL l) = (runesU l).reverse := runesU_textU _ fun c hc => runesU_scalar l c (List.mem_reverse.1 hc)
  unfold turnL at e
  unfold turnL
  rw [e, List.reverse_reverse]
  exact textU_runes _ l (Nat.le_refl _) h
theorem name_valid (l : List UInt8) (h : nameL l = true) : validD l = true := by
  unfold nameL at h
  simp only [Bool.and_eq_true] at h
  exact h.1.2
theorem order_law (a b : List UInt8) (ha : nameL a = true) (hb : nameL b = true) : decide (a = b) = decide (lexLess (runesU a) (runesU b) = lexLess (runesU b) (runesU a)) := by
  have h := lex_same (runesU a) (runesU b)
  rw [runes_inj a b (name_valid a ha) (name_valid b hb)] at h
  simp only [h]
end Go.Proofs.YtphhgdgamnogpaaDoor

namespace Go.Proofs.YtphhgdgamnogpaaDoor
open Go.Lib

/-- The lines of a text, of which a first part has been seen. -/
def linesAux : List UInt8 → List UInt8 → List (List UInt8)
  | cur, [] => if cur = [] then [] else [cur]
  | cur, b :: t => if b = 10 then cur :: linesAux [] t else linesAux (cur ++ [b]) t
def linesL (s : List UInt8) : List (List UInt8) := linesAux [] s
/-- A text parted at each line feed. -/
def partAux : List UInt8 → List UInt8 → List (List UInt8)
  | cur, [] => [cur]
  | cur, b :: t => if b = 10 then cur :: partAux [] t else partAux (cur ++ [b]) t
theorem index_cons_ne (b : UInt8) (l : List UInt8) (h : b ≠ 10) : index (b :: l) [10] = if index l [10] == -1 then -1 else index l [10] + 1 := by
  have hp : ([10] : List UInt8).isPrefixOf (b :: l) = false := by simp [List.isPrefixOf, Ne.symm h]
  rw [index, hp]
  simp
theorem split_part : ∀ s : List UInt8, ∃ h t, splitK [10] 0 (count s [10]) s = h :: t ∧ ∀ cur, partAux cur s = (cur ++ h) :: t
  | [] => ⟨[], [], by rw [count_miss (by simp [index])]; rfl, fun cur => by simp [partAux]⟩
  | b :: s => by
    obtain ⟨h, t, ih, ic⟩ := split_part s
    by_cases hb : b = 10
    · subst hb
      have hi : index ((10 : UInt8) :: s) [10] = 0 := by rw [index]; simp [List.isPrefixOf]
      refine ⟨[], h :: t, ?_, fun cur => ?_⟩
      · rw [count_cons_eq, Nat.add_comm 1]
        unfold splitK
        rw [hi, if_neg (by decide)]
        simp [ih]
      · have := ic []
        simp only [partAux, if_pos]
        rw [this]
        simp
    · rw [count_cons_ne b 10 s hb]
      have hx := index_cons_ne b s hb
      cases hk : count s [10] with
      | zero =>
        rw [hk] at ih
        refine ⟨b :: s, [], rfl, fun cur => ?_⟩
        simp only [splitK, List.cons.injEq] at ih
        obtain ⟨rfl, rfl⟩ := ih
        simp only [partAux, if_neg hb, ic]
        simp
      | succ k =>
        rw [hk] at ih
        obtain ⟨i, hi⟩ : ∃ i : Nat, index s [10] = i := by
          rcases index_spec s [10] with ⟨h1, -⟩ | ⟨i, h1, -⟩
          · rw [count_miss h1] at hk; omega
          · exact ⟨i, h1⟩
        have hm : ¬ ((i : Int) == -1) = true := fun e => by have := beq_iff_eq.1 e; omega
        rw [hi, if_neg hm] at hx
        have hm' : ¬ ((i : Int) + 1 == -1) = true := fun e => by have := beq_iff_eq.1 e; omega
        have e1 : ((i : Int)).toNat = i := by omega
        have e2 : ((i : Int) + 1).toNat = i + 1 := by omega
        unfold splitK at ih ⊢
        rw [hi, if_neg hm, e1] at ih
        rw [hx, if_neg hm', e2]
        simp only [List.cons.injEq] at ih
        obtain ⟨rfl, rfl⟩ := ih
        refine ⟨b :: List.take i s, splitK [10] 0 k (List.drop (i + 1) s), ?_, fun cur => ?_⟩
        · simp only [List.length_cons, List.length_nil, Nat.add_zero, Nat.zero_add, List.take_succ_cons, List.drop_succ_cons]
        · simp only [partAux, if_neg hb, ic]
          simp
theorem split_eq (s : List UInt8) : splitK [10] 0 (count s [10]) s = partAux [] s := by
  obtain ⟨h, t, h1, h2⟩ := split_part s
  rw [h1, h2]
  rfl
theorem lines_fed : ∀ (t cur : List UInt8), linesAux cur (t ++ [10]) = partAux cur t
  | [], cur => by simp [linesAux, partAux]
  | b :: t, cur => by
    simp only [List.cons_append, linesAux, partAux]
    rw [lines_fed t, lines_fed t]
theorem lines_bare : ∀ (s cur : List UInt8), (cur ≠ [] ∨ s ≠ []) → s.getLast? ≠ some 10 → linesAux cur s = partAux cur s
  | [], cur, h, _ => by
    have : cur ≠ [] := by simpa using h
    simp [linesAux, partAux, this]
  | [b], cur, _, hl => by
    have : ¬ b = 10 := by simpa using hl
    simp [linesAux, partAux, this]
  | b :: c :: t, cur, _, hl => by
    have hl' : (c :: t).getLast? ≠ some 10 := by simpa [List.getLast?_cons_cons] using hl
    simp only [linesAux, partAux]
    by_cases hb : b = 10
    · rw [if_pos hb, if_pos hb]
      exact congrArg _ (lines_bare (c :: t) [] (.inr (by simp)) hl')
    · rw [if_neg hb, if_neg hb]
      exact lines_bare (c :: t) _ (.inr (by simp)) hl'
theorem snoc_cases (s : List UInt8) : s = [] ∨ ∃ t b, s = t ++ [b] := by
  rcases List.eq_nil_or_concat s with h | ⟨t, b, h⟩
  · exact .inl h
  · exact .inr ⟨t, b, by simpa using h⟩
theorem suffix_snoc (t : List UInt8) (b : UInt8) : hasSuffix (t ++ [b]) [10] = decide (b = 10) := by
  unfold hasSuffix
  rw [Bool.eq_iff_iff]
  rw [List.isSuffixOf_iff_suffix]
  simp only [decide_eq_true_eq]
  constructor
  · rintro ⟨u, hu⟩
    have := List.append_inj_right' hu rfl
    simpa using this.symm
  · rintro rfl
    exact ⟨t, rfl⟩
/-- The program's lines are the text's. -/
theorem split_lines (s : List UInt8) (h : s ≠ []) : partAux [] (trimSuffix s [10]) = linesL s := by
  rcases snoc_cases s with h0 | ⟨t, b, rfl⟩
  · exact absurd h0 h
  · unfold trimSuffix linesL
    rw [suffix_snoc]
    by_cases hb : b = 10
    · subst hb
      simp only [decide_true, if_true]
      rw [lines_fed]
      simp
    · simp only [hb, decide_false]
      rw [lines_bare _ _ (.inr h) (by simpa using hb)]
      rfl

/-! ### which lines are told, or the first that is none -/
/-- The lines, the number of a first one that is not UTF-8, and the error. -/
def resGo (full : List (List UInt8)) : Nat → List (List UInt8) → List (List UInt8) × Nat × Nat
  | _, [] => (full, 0, 0)
  | n, x :: r => if validD x then resGo full (n + 1) r else ([], n + 1, 5)
def ofL (s : List UInt8) : List (List UInt8) × Nat × Nat := if 65536 < s.length then ([], 0, 6) else resGo (linesL s) 0 (linesL s)
/-- The reference's way. -/
def refGo : List (List UInt8) → List UInt8 → List UInt8 → List (List UInt8) × Nat × Nat
  | out, cur, [] => if cur = [] then (out, 0, 0) else if validD cur then (out ++ [cur], 0, 0) else ([], out.length + 1, 5)
  | out, cur, b :: t => if b = 10 then (if validD cur then refGo (out ++ [cur]) [] t else ([], out.length + 1, 5)) else refGo out (cur ++ [b]) t
theorem ref_res : ∀ (t cur : List UInt8) (out : List (List UInt8)), refGo out cur t = resGo (out ++ linesAux cur t) out.length (linesAux cur t)
  | [], cur, out => by
    unfold refGo linesAux
    by_cases h : cur = []
    · simp [h, resGo]
    · rw [if_neg h, if_neg h]
      simp only [resGo]
  | b :: t, cur, out => by
    unfold refGo linesAux
    by_cases h : b = 10
    · rw [if_pos h, if_pos h]
      simp only [resGo]
      by_cases hv : validD cur = true
      · rw [if_pos hv, if_pos hv, ref_res t [] (out ++ [cur])]
        simp
      · rw [if_neg hv, if_neg hv]
    · rw [if_neg h, if_neg h]
      exact ref_res t _ out
theorem ref_of (s : List UInt8) : refGo [] [] s = resGo (linesL s) 0 (linesL s) := ref_res s [] []
theorem resGo_full (full : List (List UInt8)) : ∀ (n : Nat) (r : List (List UInt8)), (resGo full n r).2.2 = 0 → (resGo full n r).1 = full ∧ (resGo full n r).2.1 = 0
  | _, [], _ => ⟨rfl, rfl⟩
  | n, x :: r, h => by
    unfold resGo at h ⊢
    split at h
    · rename_i hv
      rw [if_pos hv]
      exact resGo_full full (n + 1) r h
    · simp at h
theorem resGo_bad (full : List (List UInt8)) : ∀ (n : Nat) (r : List (List UInt8)), (resGo full n r).2.2 ≠ 0 → (resGo full n r).1 = [] ∧ (resGo full n r).2.2 = 5
  | _, [], h => absurd rfl h
  | n, x :: r, h => by
    unfold resGo at h ⊢
    split at h
    · rename_i hv
      rw [if_pos hv]
      exact resGo_bad full (n + 1) r h
    · rename_i hv
      rw [if_neg hv]
      exact ⟨rfl, rfl⟩
theorem lines_len : ∀ (t cur : List UInt8), (linesAux cur t).length ≤ t.length + 1
  | [], cur => by
    unfold linesAux
    split <;> simp
  | b :: t, cur => by
    unfold linesAux
    split
    · have := lines_len t []
      simp only [List.length_cons]; omega
    · have := lines_len t (cur ++ [b])
      simp only [List.length_cons]; omega
/-- The lines joined, a line feed behind each. -/
def feedL (L : List (List UInt8)) : List UInt8 := L.flatMap fun l => l ++ [10]
theorem feed_lines : ∀ (t cur : List UInt8), feedL (linesAux cur t) = cur ++ t ∨ feedL (linesAux cur t) = cur ++ t ++ [10]
  | [], cur => by
    unfold linesAux
    by_cases h : cur = []
    · left; simp [h, feedL]
    · right; simp [h, feedL]
  | b :: t, cur => by
    unfold linesAux
    by_cases h : b = 10
    · subst h
      rw [if_pos rfl]
      have e : feedL (cur :: linesAux [] t) = cur ++ [10] ++ feedL (linesAux [] t) := by simp [feedL]
      rw [e]
      rcases feed_lines t [] with h | h
      · left; rw [h]; simp
      · right; rw [h]; simp
    · rw [if_neg h]
      rcases feed_lines t (cur ++ [b]) with h | h
      · left; rw [h]; simp
      · right; rw [h]; simp

/-! ### how many runes -/
/-- How many runes a text has, and whether it is UTF-8. -/
def runesN (l : List UInt8) : Nat × Bool := if validD l then ((runesU l).length, true) else (0, false)
/-- The same, behind a first part that is UTF-8 and has so many. -/
def runesFrom (l : List UInt8) (p n : Nat) : Nat × Bool := if validD (l.drop p) then (n + (runesU (l.drop p)).length, true) else (0, false)
theorem runesFrom_start (l : List UInt8) : runesFrom l 0 0 = runesN l := by simp [runesFrom, runesN]
theorem runesFrom_end (l : List UInt8) (p n : Nat) (h : l.length ≤ p) : runesFrom l p n = (n, true) := by
  unfold runesFrom
  rw [List.drop_eq_nil_of_le h]
  rfl
theorem one_bounds (l : List UInt8) (p : Nat) (hp : p < l.length) : 1 ≤ (oneAt l p).2 ∧ p + (oneAt l p).2 ≤ l.length := by
  have hne : l.drop p ≠ [] := by
    intro e
    have := congrArg List.length e
    simp at this
    omega
  have hw := decodeL_le' (l.drop p) hne
  rw [List.length_drop] at hw
  exact ⟨hw.1, by unfold oneAt; omega⟩
theorem runesFrom_step (l : List UInt8) (p n : Nat) (hp : p < l.length) :
    runesFrom l p n = if sizeAt l p = 0 then (0, false) else runesFrom l (p + (oneAt l p).2) (n + 1) := by
  have hne : l.drop p ≠ [] := by
    intro e
    have := congrArg List.length e
    simp at this
    omega
  have hw := one_bounds l p hp
  unfold runesFrom
  rw [validD_step _ hne, runesU_step _ hne, List.drop_drop]
  have e : sizeAt l p = szD (decodeL (l.drop p)) := rfl
  have eo : oneAt l p = decodeL (l.drop p) := rfl
  rw [e, eo]
  rw [eo] at hw
  unfold szD
  by_cases h : (decodeL (l.drop p)).1 = 65533 ∧ (decodeL (l.drop p)).2 = 1
  · rw [if_pos h, if_pos h, if_pos rfl]
    rfl
  · rw [if_neg h, if_neg h, if_neg (show ¬ (decodeL (l.drop p)).2 = 0 by omega)]
    simp only [List.length_cons]
    split
    · refine Prod.ext ?_ rfl
      simp only
      omega
    · rfl
theorem sizeAt_good (l : List UInt8) (p : Nat) (h : sizeAt l p ≠ 0) : sizeAt l p = (oneAt l p).2 := by
  unfold sizeAt szD at h ⊢
  split at h
  · exact absurd rfl h
  · rename_i hc
    rw [if_neg hc]
/-- The program's test at a rune that may be the decoder's mark of an error. -/
theorem mark_width (l : List UInt8) (p : Nat) (hp : p < l.length) (h : (oneAt l p).1 = 65533) : hasPrefix (l.drop p) [239, 191, 189] = !decide (sizeAt l p = 0) := by
  have hne : l.drop p ≠ [] := by
    intro e
    have := congrArg List.length e
    simp at this
    omega
  have e : sizeAt l p = szD (decodeL (l.drop p)) := rfl
  have eo : oneAt l p = decodeL (l.drop p) := rfl
  have hw := one_bounds l p hp
  rw [eo] at h hw
  rw [e]
  have hr : encodeRune (65533 : Int) = [239, 191, 189] := by decide +kernel
  unfold hasPrefix szD
  by_cases h1 : (decodeL (l.drop p)).2 = 1
  · rw [if_pos ⟨h, h1⟩]
    simp only [decide_true, Bool.not_true]
    by_cases hx : ([239, 191, 189] : List UInt8).isPrefixOf (l.drop p) = true
    · obtain ⟨t, ht⟩ := List.isPrefixOf_iff_prefix.1 hx
      have := decode_encode 65533 (.inr ⟨by decide, by decide⟩) t
      rw [show ((65533 : Nat) : Int) = 65533 from rfl, hr, ht] at this
      rw [this] at h1
      simp at h1
    · exact Bool.eq_false_iff.2 hx
  · rw [if_neg (fun x => h1 x.2)]
    have hd : decide ((decodeL (l.drop p)).2 = 0) = false := decide_eq_false (by omega)
    rw [hd]
    simp only [Bool.not_false]
    have := encode_decode (l.drop p) hne (fun x => h1 x.2)
    rw [h, show ((65533 : Nat) : Int) = 65533 from rfl, hr] at this
    exact List.isPrefixOf_iff_prefix.2 ⟨(l.drop p).drop (decodeL (l.drop p)).2, by rw [this, List.take_append_drop]⟩
end Go.Proofs.YtphhgdgamnogpaaDoor

namespace Go.Proofs
open Go.Shelf
def Tryd.laysHasPrefix_ren : Go.Shelf.Ren := ⟨fun | 99 => 131 | 206 => 152 | n => n, fun | 9 => 9 | 4 => 4 | 3 => 3 | n => n, fun | n => n⟩
theorem Tryd.laysHasPrefix : Go.Proofs.Lays.n99 Tryd.prog Tryd.laysHasPrefix_ren := {
  mixed := by kernel_rfl
  f99 := Tryd.func131.trans (congrArg some (by kernel_rfl))
  f206 := Tryd.func152.trans (congrArg some (by kernel_rfl))
  t3 := Tryd.underlying3
  a3 := Tryd.isAgg3
  z3 := Tryd.sizeOf3
  v3 := Tryd.zeroValue3
  t4 := Tryd.underlying4
  a4 := Tryd.isAgg4
  z4 := Tryd.sizeOf4
  v4 := Tryd.zeroValue4
  t9 := Tryd.underlying9
  a9 := Tryd.isAgg9
  z9 := Tryd.sizeOf9
  v9 := Tryd.zeroValue9 }
def Tryd.laysTrimSuffix_ren : Go.Shelf.Ren := ⟨fun | 102 => 94 | 209 => 130 | 207 => 151 | n => n, fun | 9 => 9 | 4 => 4 | 3 => 3 | n => n, fun | n => n⟩
theorem Tryd.laysTrimSuffix : Go.Proofs.Lays.n102 Tryd.prog Tryd.laysTrimSuffix_ren := {
  mixed := by kernel_rfl
  f102 := Tryd.func94.trans (congrArg some (by kernel_rfl))
  f207 := Tryd.func151.trans (congrArg some (by kernel_rfl))
  f209 := Tryd.func130.trans (congrArg some (by kernel_rfl))
  t3 := Tryd.underlying3
  a3 := Tryd.isAgg3
  z3 := Tryd.sizeOf3
  v3 := Tryd.zeroValue3
  t4 := Tryd.underlying4
  a4 := Tryd.isAgg4
  z4 := Tryd.sizeOf4
  v4 := Tryd.zeroValue4
  t9 := Tryd.underlying9
  a9 := Tryd.isAgg9
  z9 := Tryd.sizeOf9
  v9 := Tryd.zeroValue9 }
def Tryd.laysSplit_ren : Go.Shelf.Ren := ⟨fun | 146 => 93 | 221 => 129 | 268 => 149 | 138 => 150 | 143 => 132 | 195 => 161 | 197 => 162 | 218 => 163 | 219 => 153 | 260 => 181 | 217 => 164 | 225 => 165 | 224 => 166 | 267 => 167 | 266 => 182 | 314 => 183 | n => n, fun | 9 => 9 | 31 => 61 | 3 => 3 | 4 => 4 | 0 => 0 | 105 => 202 | 21 => 21 | 5 => 5 | 46 => 187 | 119 => 183 | 139 => 186 | 138 => 185 | 146 => 218 | 51 => 215 | n => n, fun | 1 => 6 | 3 => 4 | 4 => 5 | n => n⟩
theorem Tryd.laysSplit : Go.Proofs.LaysM.n146 Tryd.prog Tryd.laysSplit_ren := {
  mixed := by kernel_rfl
  f138 := Tryd.func150.trans (congrArg some (by kernel_rfl))
  f143 := Tryd.func132.trans (congrArg some (by kernel_rfl))
  f146 := Tryd.func93.trans (congrArg some (by kernel_rfl))
  f195 := Tryd.func161.trans (congrArg some (by kernel_rfl))
  f197 := Tryd.func162.trans (congrArg some (by kernel_rfl))
  f217 := Tryd.func164.trans (congrArg some (by kernel_rfl))
  f218 := Tryd.func163.trans (congrArg some (by kernel_rfl))
  f219 := Tryd.func153.trans (congrArg some (by kernel_rfl))
  f221 := Tryd.func129.trans (congrArg some (by kernel_rfl))
  f224 := Tryd.func166.trans (congrArg some (by kernel_rfl))
  f225 := Tryd.func165.trans (congrArg some (by kernel_rfl))
  f260 := Tryd.func181.trans (congrArg some (by kernel_rfl))
  f266 := Tryd.func182.trans (congrArg some (by kernel_rfl))
  f267 := Tryd.func167.trans (congrArg some (by kernel_rfl))
  f268 := Tryd.func149.trans (congrArg some (by kernel_rfl))
  f314 := Tryd.func183.trans (congrArg some (by kernel_rfl))
  t0 := Tryd.underlying0
  a0 := Tryd.isAgg0
  z0 := Tryd.sizeOf0
  v0 := Tryd.zeroValue0
  t3 := Tryd.underlying3
  a3 := Tryd.isAgg3
  z3 := Tryd.sizeOf3
  v3 := Tryd.zeroValue3
  t4 := Tryd.underlying4
  a4 := Tryd.isAgg4
  z4 := Tryd.sizeOf4
  v4 := Tryd.zeroValue4
  t5 := Tryd.underlying5
  a5 := Tryd.isAgg5
  z5 := Tryd.sizeOf5
  v5 := Tryd.zeroValue5
  t9 := Tryd.underlying9
  a9 := Tryd.isAgg9
  z9 := Tryd.sizeOf9
  v9 := Tryd.zeroValue9
  t21 := Tryd.underlying21
  a21 := Tryd.isAgg21
  z21 := Tryd.sizeOf21
  v21 := Tryd.zeroValue21
  t31 := Tryd.underlying61
  a31 := Tryd.isAgg61
  z31 := Tryd.sizeOf61
  v31 := Tryd.zeroValue61
  t46 := Tryd.underlying187
  a46 := Tryd.isAgg187
  z46 := Tryd.sizeOf187
  v46 := Tryd.zeroValue187
  t51 := Tryd.underlying215
  a51 := Tryd.isAgg215
  z51 := Tryd.sizeOf215
  v51 := Tryd.zeroValue215
  t105 := Tryd.underlying202
  a105 := Tryd.isAgg202
  z105 := Tryd.sizeOf202
  v105 := Tryd.zeroValue202
  t119 := Tryd.underlying183
  a119 := Tryd.isAgg183
  z119 := Tryd.sizeOf183
  t138 := Tryd.underlying185
  a138 := Tryd.isAgg185
  z138 := Tryd.sizeOf185
  v138 := Tryd.zeroValue185
  t139 := Tryd.underlying186
  a139 := Tryd.isAgg186
  z139 := Tryd.sizeOf186
  v139 := Tryd.zeroValue186
  t146 := Tryd.underlying218
  a146 := Tryd.isAgg218
  z146 := Tryd.sizeOf218
  v146 := Tryd.zeroValue218
  g1 := by kernel_rfl
  g3 := by kernel_rfl
  g4 := by kernel_rfl
  i0 := by kernel_rfl
  i3 := by kernel_rfl
  i4 := by kernel_rfl
  i5 := by kernel_rfl
  i9 := by kernel_rfl
  i21 := by kernel_rfl
  i31 := by kernel_rfl
  i46 := by kernel_rfl
  i51 := by kernel_rfl
  i105 := by kernel_rfl
  i138 := by kernel_rfl
  i139 := by kernel_rfl
  i146 := by kernel_rfl
  m1 := by kernel_rfl
  s1_3 := fun w h => Go.Proofs.cell_of_shapedOpen_int (zero := #[.int .i64 0]) (t := 3) h (of_decide_eq_true (by kernel_rfl)) (by kernel_rfl) rfl (by kernel_rfl) (by kernel_rfl) Tryd.underlying3
  m3 := by kernel_rfl
  m4 := by kernel_rfl }
end Go.Proofs

namespace Go.Proofs.YtphhgdgamnogpaaDoor
open Go.RowKit Go.Lib

theorem lnext_at (l : List UInt8) (p : Nat) (hp : p < l.length) (w : World) (ty : TypeId) :
    (Instr.next (.pointer (some ⟨w.heap.size, 0, none⟩)) true ty).run Tryd.prog (w.iter (bs l) p) = .ok (.tuple #[.bool true, .int .i64 p, .int .i32 ((oneAt l p).1 : Nat)]) (w.iter (bs l) (p + (oneAt l p).2)) := by
  have h := run_next_any (P := Tryd.prog) w (bs l) p ty (by rw [bs_size]; exact hp)
  rw [← decodeL_drop] at h
  have e : (bs l).data.toList = l := by simp [bs]
  rw [e] at h
  exact h
theorem liter_below (w : World) (s : ByteArray) (p : Nat) : Below w.heap.size w (w.iter s p) := (Below.refl _ _).alloc (Nat.le_refl _) _

theorem hasprefix_any (l p : List UInt8) (w : World) :
    Calls Tryd.prog 131 #[.string (bs l), .string (bs p)] w fun e w' => e = .returned (.bool (hasPrefix l p)) ∧ w = w' := by
  have h := Any.strings_HasPrefix Tryd.laysHasPrefix (bs l) (bs p) w
  have e : ∀ l, (bs l).data.toList = l := fun l => by simp [bs]
  rw [e, e] at h
  exact h.mono fun _ _ ⟨a, b⟩ => ⟨a, b.symm⟩

set_option maxRecDepth 100000 in
set_option maxHeartbeats 1000000 in
theorem rrunes_any (l : List UInt8) (hs : l.length ≤ 1000000) (w : World) :
    Calls Tryd.prog 100 #[.string (bs l)] w fun e w' => e = .returned (.tuple #[.int .i64 ((runesN l).1 : Nat), .bool (runesN l).2]) ∧ w = w' := by
  obtain ⟨R, hR⟩ : ∃ R, runesN l = R := ⟨_, rfl⟩
  rw [hR]
  have HR := Lib.hid ((runesFrom_start l).trans hR)
  clear hR
  go_enter Tryd.func100, Tryd.ntmps100
  go_wp2
  go_loop [4, 5] (fun n i => ∃ p k : Nat, p ≤ l.length ∧ k ≤ p ∧ i = .int .i64 p ∧ n = .int .i64 k ∧ runesFrom l p k = R) (fun _ i => l.length - (RowKit.intOf i).toNat)
  case atStart => exact ⟨0, 0, Nat.zero_le _, Nat.le_refl _, rfl, rfl, HR.out⟩
  case round =>
    obtain ⟨p, k, hp, hk, rfl, rfl, hr⟩ := hrel
    by_cases hlt : p < l.length
    · have hb := one_bounds l p hlt
      rw [runesFrom_step l p k hlt] at hr
      have HC := Lib.hid (size_any l p hlt (by omega))
      have hg := sizeAt_good l p
      obtain ⟨D, hD⟩ : ∃ D, sizeAt l p = D := ⟨_, rfl⟩
      obtain ⟨e, he⟩ : ∃ e, (oneAt l p).2 = e := ⟨_, rfl⟩
      rw [hD] at HC hr hg
      rw [he] at hr hg hb
      clear hD he
      by_cases h0 : D = 0
      · rw [if_pos h0] at hr
        have HS := Lib.hid hr
        subst h0
        clear hr hg
        go_wp2_with fail
        refine (HC.out _).mono ?_
        rintro e w1 ⟨rfl, rfl⟩
        go_wp2_with fail
        go_ret2
        rw [← HS.out]
        exact ⟨rfl, rfl⟩
      · rw [if_neg h0] at hr
        have HS := Lib.hid hr
        have hde := hg h0
        subst hde
        have h1 : ((D : Int) == 0) = false := by simp; omega
        clear hr hg h0
        go_wp2_with fail
        refine (HC.out _).mono ?_
        rintro e w1 ⟨rfl, rfl⟩
        go_wp2_with fail
        go_round
        case rel => exact ⟨p + D, k + 1, hb.2, by omega, by go_num, by go_num, HS.out⟩
        case measure => simp [RowKit.intOf]; omega
    · rw [runesFrom_end l p k (by omega)] at hr
      have HS := Lib.hid hr
      clear hr
      go_wp2
      go_ret2
      rw [← HS.out]
      exact ⟨rfl, rfl⟩

set_option maxRecDepth 100000 in
set_option maxHeartbeats 2000000 in
theorem lrunes_any (l : List UInt8) (hs : l.length ≤ 1000000) (w : World) :
    Calls Tryd.prog 95 #[.string (bs l)] w fun e w' => e = .returned (.tuple #[.int .i64 ((runesN l).1 : Nat), .bool (runesN l).2]) ∧ Below w.heap.size w w' := by
  obtain ⟨R, hR⟩ : ∃ R, runesN l = R := ⟨_, rfl⟩
  rw [hR]
  have HR := Lib.hid ((runesFrom_start l).trans hR)
  clear hR
  go_enter Tryd.func95, Tryd.ntmps95
  go_wp2
  go_loopw [4] (fun i wr => ∃ p k : Nat, p ≤ l.length ∧ k ≤ p ∧ i = .int .i64 k ∧ wr = w.iter (bs l) p ∧ runesFrom l p k = R)
    (fun _ wr => l.length - wr.iterPos w.heap.size)
  case atStart => exact ⟨0, 0, Nat.zero_le _, Nat.le_refl _, rfl, rfl, HR.out⟩
  case round =>
    obtain ⟨p, k, hp, hk, rfl, rfl, hr⟩ := hrel
    by_cases hlt : p < l.length
    · have hb := one_bounds l p hlt
      rw [runesFrom_step l p k hlt] at hr
      have hnx := lnext_at l p hlt w
      have hm := mark_width l p hlt
      have hg := sizeAt_good l p
      have HP := Lib.hid (hasprefix_any ((l.drop p).take (l.length - p)) [239, 191, 189])
      rw [show hasPrefix ((l.drop p).take (l.length - p)) [239, 191, 189] = hasPrefix (l.drop p) [239, 191, 189] by rw [List.take_of_length_le (by rw [List.length_drop]; omega)]] at HP
      have hz : (oneAt l p).1 ≠ 65533 → sizeAt l p ≠ 0 := fun h => by
        unfold sizeAt szD
        rw [if_neg (fun x => h x.1)]
        omega
      have hle : (oneAt l p).1 ≤ 1114111 := decodeL_rune _
      obtain ⟨S, hS⟩ : ∃ S, sizeAt l p = S := ⟨_, rfl⟩
      obtain ⟨D, hD⟩ : ∃ D, oneAt l p = D := ⟨_, rfl⟩
      rw [hS] at hm hg hr hz
      rw [hD] at hm hg hr hb hnx hz hle
      clear hS hD
      have HR2 := Lib.hid hr
      clear hr
      by_cases h3 : D.1 = 65533
      · have hp3 := hm h3
        rw [hp3] at HP
        have e1 : ((D.1 : Int) == 65533) = true := by simp [h3]
        clear hp3 hm hz
        by_cases h0 : S = 0
        · have HS := HR2.out
          rw [if_pos h0] at HS
          have HS2 := Lib.hid HS
          subst h0
          clear HS h3
          simp only [decide_true, Bool.not_true] at HP
          go_wp2_with fail
          refine (HP.out _).mono ?_
          rintro e w1 ⟨rfl, rfl⟩
          go_wp2_with fail
          go_ret2
          rw [← HS2.out]
          exact ⟨rfl, liter_below _ _ _⟩
        · have HS := HR2.out
          rw [if_neg h0] at HS
          have HS2 := Lib.hid HS
          have hd : decide (S = 0) = false := decide_eq_false h0
          rw [hd] at HP
          clear HS h3 h0 hd
          simp only [Bool.not_false] at HP
          go_wp2_with fail
          refine (HP.out _).mono ?_
          rintro e w1 ⟨rfl, rfl⟩
          go_wp2_with fail
          go_roundw
          case rel => exact ⟨p + D.2, k + 1, hb.2, by omega, by go_num, rfl, HS2.out⟩
          case measure => simp; omega
      · have HS := HR2.out
        rw [if_neg (hz h3)] at HS
        have HS2 := Lib.hid HS
        have e1 : ((D.1 : Int) == 65533) = false := by simp; omega
        clear HS hm hz hg h3
        go_wp2_with fail
        go_roundw
        case rel => exact ⟨p + D.2, k + 1, hb.2, by omega, by go_num, rfl, HS2.out⟩
        case measure => simp; omega
    · have hnx := fun ty => run_next_end (P := Tryd.prog) w (bs l) p ty (by rw [bs_size]; exact hlt)
      rw [runesFrom_end l p k (by omega)] at hr
      have HS := Lib.hid hr
      clear hr
      go_wp2_with fail
      go_ret2
      rw [← HS.out]
      exact ⟨rfl, liter_below _ _ _⟩
end Go.Proofs.YtphhgdgamnogpaaDoor

namespace Go.Proofs.YtphhgdgamnogpaaDoor
open Go.RowKit Go.Lib

/-- internal/bytealg.MaxLen holds a number. -/
def HasMax (w : World) : Prop := ∃ m, w.cell? ⟨Tryd.laysSplit_ren.g 1, 0, none⟩ = some (.int .i64 m)
theorem HasMax.below {w w' : World} (h : HasMax w) (hb : Below w.heap.size w w') : HasMax w' := by
  obtain ⟨m, hm⟩ := h
  exact ⟨m, cell_later hb hm⟩
theorem HasMax.shaped {w : World} (h : w.ShapedOpen Tryd.prog) : HasMax w := Tryd.laysSplit.s1_3 w h

theorem trimsuffix_any (l p : List UInt8) (hs : l.length ≤ 9223372036854775807) (w : World) :
    Calls Tryd.prog 94 #[.string (bs l), .string (bs p)] w fun e w' => e = .returned (.string (bs (trimSuffix l p))) ∧ w = w' := by
  have h := Any.strings_TrimSuffix Tryd.laysTrimSuffix (bs l) (bs p) w (by rw [bs_size]; exact hs)
  have e : ∀ l, (bs l).data.toList = l := fun l => by simp [bs]
  rw [e, e] at h
  exact h.mono fun _ _ ⟨a, b⟩ => ⟨a, b.symm⟩
theorem split_any (s : List UInt8) (hs : s.length ≤ 1000000) (w : World) (hm : HasMax w) :
    Calls Tryd.prog 93 #[.string (bs s), .string (bs [10])] w fun e w' => e = .returned (.slice (some ⟨w.heap.size, 0, none⟩) (partAux [] s).length (partAux [] s).length) ∧ HasTexts w' (some ⟨w.heap.size, 0, none⟩) (partAux [] s) ∧ Below w.heap.size w w' := by
  obtain ⟨m, hm⟩ := hm
  have h := Any.strings_Split { Tryd.laysSplit with } Tryd.laysSplit.i9 (bs s) (bs [10]) m w (by rw [bs_size]; omega) hm (by rw [bs_size]; exact Nat.le_refl _)
  have e : ∀ l, (bs l).data.toList = l := fun l => by simp [bs]
  have hd := splitB_data (bs [10]) 0 (countB (bs s) (bs [10])) (bs s)
  rw [e, e] at hd
  have hc : countB (bs s) (bs [10]) = count s [10] := by unfold countB; rw [e, e]
  rw [hc, split_eq] at hd
  rw [hc] at h
  obtain ⟨L, hL⟩ : ∃ L, splitB (bs [10]) 0 (count s [10]) (bs s) = L := ⟨_, rfl⟩
  have hlen := splitB_all (bs [10]) (by rw [bs_size]; exact Nat.le_refl _) 0 _ (bs s) hc
  rw [hL] at hd h hlen
  have hl : (partAux [] s).length = count s [10] + 1 := by rw [← hd, List.length_map, hlen]
  rw [hl]
  refine h.mono fun e' w' ⟨h1, h2⟩ => ⟨h1, ?_, ?_⟩
  · intro j hj
    refine ⟨_, rfl, ?_⟩
    rw [h2, cell_of_row _ _ j _ _ (0, 0) (heap_alloc_new w _)]
    rw [← hd] at hj ⊢
    rw [List.length_map] at hj
    simp [hj, ← bs_data]
  · rw [h2]
    exact (Below.refl _ _).alloc (Nat.le_refl _) _
theorem runesN_snd (l : List UInt8) : (runesN l).2 = validD l := by
  unfold runesN
  split <;> simp [*]
theorem drop_at (L : List (List UInt8)) (k : Nat) (h : k < L.length) : L.drop k = L.getD k [] :: L.drop (k + 1) := by
  rw [List.drop_eq_getElem_cons h]
  simp [h]
theorem part_len : ∀ (t cur : List UInt8), (partAux cur t).length ≤ t.length + 1
  | [], cur => by simp [partAux]
  | b :: t, cur => by
    unfold partAux
    split
    · have := part_len t []
      simp only [List.length_cons]; omega
    · have := part_len t (cur ++ [b])
      simp only [List.length_cons]; omega
theorem part_mem : ∀ (t cur : List UInt8), ∀ x ∈ partAux cur t, x.length ≤ cur.length + t.length
  | [], cur => by simp [partAux]
  | b :: t, cur => by
    unfold partAux
    split
    · intro x hx
      rcases List.mem_cons.1 hx with rfl | hx
      · simp
      · have := part_mem t [] x hx
        simp only [List.length_cons, List.length_nil] at this ⊢
        omega
    · intro x hx
      have := part_mem t _ x hx
      simp only [List.length_append, List.length_cons, List.length_nil] at this ⊢
      omega

set_option maxRecDepth 100000 in
set_option maxHeartbeats 1000000 in
theorem lof_any (l : List UInt8) (hs : l.length ≤ 1000000) (w : World) (hm : HasMax w) :
    Calls Tryd.prog 51 #[.string (bs l)] w fun e w' => ∃ v, e = .returned (.tuple #[v, .int .i64 ((ofL l).2.1 : Nat), .int .i64 ((ofL l).2.2 : Nat)]) ∧ Texts w' v (ofL l).1 ∧ Below w.heap.size w w' := by
  by_cases hlong : 65536 < l.length
  · have e : ofL l = ([], 0, 6) := if_pos hlong
    rw [e]
    clear e
    go_enter Tryd.func51, Tryd.ntmps51
    go_wp2_with fail
    go_ret3
    exact ⟨_, rfl, texts_none _, Below.refl _ _⟩
  · by_cases hnil : l = []
    · subst hnil
      have e : ofL [] = ([], 0, 0) := rfl
      rw [e]
      clear e hlong
      go_enter Tryd.func51, Tryd.ntmps51
      go_wp2_with fail
      go_ret3
      exact ⟨_, rfl, texts_none _, Below.refl _ _⟩
    · have e0 : (l == []) = false := beq_eq_false_iff_ne.2 hnil
      have hll := split_lines l hnil
      have hle := trimSuffix_le l [10]
      have HT := Lib.hid (trimsuffix_any l [10] (by omega))
      have HS := Lib.hid (split_any (trimSuffix l [10]) (by omega))
      have hmem := part_mem (trimSuffix l [10]) []
      have hcnt := part_len (trimSuffix l [10]) []
      rw [hll] at HS hmem hcnt
      obtain ⟨M, hM⟩ : ∃ M, linesL l = M := ⟨_, rfl⟩
      have e : ofL l = resGo (linesL l) 0 (linesL l) := if_neg hlong
      rw [e]
      rw [hM] at HS hmem hcnt ⊢
      obtain ⟨R, hR⟩ : ∃ R, resGo M 0 M = R := ⟨_, rfl⟩
      rw [hR]
      have HR := Lib.hid hR
      have HE := Lib.hid (fun x hx => Nat.le_trans (hmem x hx) (show ([] : List UInt8).length + (trimSuffix l [10]).length ≤ 1000000 by simp only [List.length_nil]; omega))
      generalize trimSuffix l [10] = t at *
      have HM := Lib.hid hm
      have hM2 : M.length ≤ 1000001 := by omega
      clear hR hll e hM hmem hcnt hle hm hnil
      go_enter Tryd.func51, Tryd.ntmps51
      go_wp2_with fail
      refine (HT.out _).mono ?_
      rintro e w' ⟨rfl, rfl⟩
      go_wp2_with fail
      refine (HS.out _ HM.out).mono ?_
      rintro e w1 ⟨rfl, ht, hb1⟩
      have HX := Lib.hid ht
      clear ht
      go_wp2_with fail
      go_loopw [20] (fun i wr => ∃ k : Nat, k ≤ M.length ∧ i = .int .i64 k ∧ Below w1.heap.size w1 wr ∧ resGo M k (M.drop k) = R) (fun i _ => M.length - (RowKit.intOf i).toNat)
      case atStart => exact ⟨0, Nat.zero_le _, rfl, Below.refl _ _, HR.out⟩
      case round =>
        obtain ⟨k, hk, rfl, hbr, hr⟩ := hrel
        by_cases hlt : k < M.length
        · obtain ⟨g, hg, hc⟩ := HX.out k hlt
          obtain rfl : w.heap.size = g := by simpa using hg
          have hc' := cell_later hbr hc
          rw [drop_at M k hlt] at hr
          simp only [resGo] at hr
          have hx := HE.out (M.getD k []) (by
            have : M.getD k [] = M[k] := by simp [hlt]
            rw [this]
            exact List.getElem_mem hlt)
          obtain ⟨x, hx'⟩ : ∃ x, M.getD k [] = x := ⟨_, rfl⟩
          rw [hx'] at hr hc' hx
          have HC := Lib.hid (lrunes_any x hx)
          have hv := runesN_snd x
          generalize runesN x = N at *
          obtain ⟨N1, N2⟩ := N
          simp only at HC hv
          subst hv
          clear hc hg hx' hx
          by_cases hval : validD x = true
          · rw [if_pos hval] at hr
            rw [hval] at HC
            have H2 := Lib.hid hr
            clear hr hval
            go_wp2_with fail
            refine (HC.out _).mono ?_
            rintro e w2 ⟨rfl, hb2⟩
            go_wp2_with fail
            go_roundw
            case rel => exact ⟨k + 1, by omega, by go_num, below_next hbr hb2, H2.out⟩
            case measure => simp [RowKit.intOf]; omega
          · rw [if_neg hval] at hr
            have hval' : validD x = false := by simpa using hval
            rw [hval'] at HC
            have H2 := Lib.hid hr
            clear hr hval hval'
            go_wp2_with fail
            refine (HC.out _).mono ?_
            rintro e w2 ⟨rfl, hb2⟩
            go_wp2_with fail
            go_ret3
            rw [← H2.out]
            exact ⟨_, rfl, texts_none _, below_next hb1 (below_next hbr hb2)⟩
        · have ek : k = M.length := by omega
          subst ek
          rw [List.drop_eq_nil_of_le (Nat.le_refl _)] at hr
          have H2 := Lib.hid hr
          clear hr
          go_wp2_with fail
          go_ret3
          rw [← H2.out]
          exact ⟨_, rfl, ⟨_, _, rfl, HX.out.below hbr⟩, below_next hb1 hbr⟩

/-! ### the reference -/
/-- The line that is being read. -/
def curL (l : List UInt8) (f i : Nat) : List UInt8 := (l.drop f).take (i - f)
def refAt (l : List UInt8) (done : List (List UInt8)) (f i : Nat) : List (List UInt8) × Nat × Nat := if i ≤ l.length then refGo done (curL l f i) (l.drop i) else (done, 0, 0)
theorem curL_nil (l : List UInt8) (i : Nat) : curL l i i = [] := by simp [curL]
theorem curL_ne (l : List UInt8) (f i : Nat) (h : f < i) (hi : i ≤ l.length) : curL l f i ≠ [] := fun e => by
  have := congrArg List.length e
  unfold curL at this
  rw [List.length_take, List.length_drop, List.length_nil] at this
  omega
theorem curL_len (l : List UInt8) (f i : Nat) : (curL l f i).length ≤ l.length := by
  unfold curL
  rw [List.length_take, List.length_drop]
  omega
theorem curL_snoc (l : List UInt8) (f i : Nat) (h : f ≤ i) (hi : i < l.length) : curL l f (i + 1) = curL l f i ++ [l[i]] := by
  unfold curL
  rw [show i + 1 - f = (i - f) + 1 by omega, List.take_add_one, List.getElem?_drop, show f + (i - f) = i by omega]
  simp [hi]
theorem refAt_start (l : List UInt8) : refAt l [] 0 0 = resGo (linesL l) 0 (linesL l) := by
  unfold refAt
  rw [if_pos (Nat.zero_le _), curL_nil, List.drop_zero, ref_of]
theorem refAt_go (l : List UInt8) (done : List (List UInt8)) (f i : Nat) (h : f ≤ i) (hi : i < l.length) (hb : l[i] ≠ 10) : refAt l done f i = refAt l done f (i + 1) := by
  unfold refAt
  rw [if_pos (by omega), if_pos (by omega), curL_snoc l f i h hi, List.drop_eq_getElem_cons hi]
  simp only [refGo, if_neg hb]
theorem refAt_feed (l : List UInt8) (done : List (List UInt8)) (f i : Nat) (hi : i < l.length) (hb : l[i] = 10) :
    refAt l done f i = if validD (curL l f i) then refAt l (done ++ [curL l f i]) (i + 1) (i + 1) else ([], done.length + 1, 5) := by
  unfold refAt
  rw [if_pos (by omega), if_pos (show i + 1 ≤ l.length by omega), curL_nil, List.drop_eq_getElem_cons hi]
  simp only [refGo, if_pos hb]
theorem refAt_bare (l : List UInt8) (done : List (List UInt8)) (i : Nat) (hi : i = l.length) : refAt l done i i = refAt l done i (i + 1) := by
  unfold refAt
  rw [if_pos (by omega), if_neg (by omega), curL_nil, List.drop_eq_nil_of_le (by omega)]
  simp only [refGo, if_pos]
theorem refAt_last (l : List UInt8) (done : List (List UInt8)) (f i : Nat) (h : f < i) (hi : i = l.length) :
    refAt l done f i = if validD (curL l f i) then refAt l (done ++ [curL l f i]) (i + 1) (i + 1) else ([], done.length + 1, 5) := by
  unfold refAt
  rw [if_pos (by omega), if_neg (show ¬ i + 1 ≤ l.length by omega), List.drop_eq_nil_of_le (by omega)]
  simp only [refGo, if_neg (curL_ne l f i h (by omega))]
theorem refAt_end (l : List UInt8) (done : List (List UInt8)) (f i : Nat) (hi : l.length < i) : refAt l done f i = (done, 0, 0) := if_neg (by omega)

set_option maxRecDepth 100000 in
set_option maxHeartbeats 2000000 in
theorem rof_any (l : List UInt8) (hs : l.length ≤ 1000000) (w : World) :
    Calls Tryd.prog 54 #[.string (bs l)] w fun e w' => ∃ v, e = .returned (.tuple #[v, .int .i64 ((ofL l).2.1 : Nat), .int .i64 ((ofL l).2.2 : Nat)]) ∧ Texts w' v (ofL l).1 ∧ Below w.heap.size w w' := by
  by_cases hlong : 65536 < l.length
  · have e : ofL l = ([], 0, 6) := if_pos hlong
    rw [e]
    clear e
    go_enter Tryd.func54, Tryd.ntmps54
    go_wp2_with fail
    go_ret3
    exact ⟨_, rfl, texts_none _, Below.refl _ _⟩
  · have e : ofL l = resGo (linesL l) 0 (linesL l) := if_neg hlong
    rw [e, ← refAt_start]
    obtain ⟨R, hR⟩ : ∃ R, refAt l [] 0 0 = R := ⟨_, rfl⟩
    rw [hR]
    have HR := Lib.hid hR
    clear hR e
    obtain ⟨i0, hi, hz0, hz1, hz2⟩ := info_parts info_str
    go_enter Tryd.func54, Tryd.ntmps54
    go_wp2
    go_loopw [5, 6, 7] (fun v x y wr => ∃ f i : Nat, ∃ done : List (List UInt8), f ≤ i ∧ i ≤ l.length + 1 ∧ x = .int .i64 f ∧ y = .int .i64 i ∧ wr.ownsRow w.heap.size 9 1 v done.length (strs done) ∧ Below w.heap.size w wr ∧ done.length ≤ i ∧ refAt l done f i = R)
      (fun _ _ y _ => l.length + 1 - (RowKit.intOf y).toNat)
    case atStart =>
      exact ⟨0, 0, [], Nat.le_refl _, Nat.zero_le _, rfl, rfl, World.ownsRow_made w #[] 0 (Nat.le_refl _) (Nat.zero_le _) rfl, (Below.refl _ _).alloc (Nat.le_refl _) _, Nat.le_refl _, HR.out⟩
    case round =>
      obtain ⟨f, i, done, hf, hi', rfl, rfl, hown, hbw, hdl, hr⟩ := hrel
      by_cases hlt : i < l.length
      · have e2 : ((i : Int) == (l.length : Int)) = false := beq_eq_false_iff_ne.2 (by omega)
        by_cases hb : l[i] = 10
        · rw [refAt_feed l done f i hlt hb] at hr
          have e1 : ((l[i].toNat : Int) != 10) = false := by rw [hb]; rfl
          clear hb hi'
          have HC := Lib.hid (rrunes_any (curL l f i) (by have := curL_len l f i; omega))
          have hv := runesN_snd (curL l f i)
          have ec : (l.drop f).take (i - f) = curL l f i := rfl
          generalize curL l f i = x at *
          generalize runesN x = N at *
          obtain ⟨N1, N2⟩ := N
          simp only at HC hv
          subst hv
          by_cases hval : validD x = true
          · rw [if_pos hval] at hr
            rw [hval] at HC
            have H2 := Lib.hid hr
            have HE := Lib.hid ec
            clear hr hval ec
            go_wp2_with fail
            rw [HE.out]
            refine (HC.out _).mono ?_
            rintro e w2 ⟨rfl, rfl⟩
            go_wp2_with (at_builtin; refine wpList_append_own _ rfl _ _ 61 rfl w.heap.size 9 i0 (.string ByteArray.empty) 1 16 Tryd.underlying61 hi hz0 hz1 hz2 rfl (by decide) _ _ _ rfl (hown.alloc _) ⟨wr.heap.size, 0, none⟩ 1 1 [.string (bs x)] rfl rfl ?c1 ?c2 ?c3 ?c4 ?c5 ?_)
            case c1 =>
              intro j u hj
              match j, hj with
              | 0, hj => simp at hj; subst hj; simp [Addr.add]
            case c2 => intro u hu; simp at hu; subst hu; rfl
            case c3 => unfold maxLen; omega
            case c4 => omega
            case c5 => have := hbw.size; simp; omega
            · intro v' w1 hown' hgrow hnil
              have HO := Lib.hid hown'
              clear hown' hnil
              have hb1 : Below w.heap.size w w1 := (hbw.alloc (by have := hbw.size; omega) _).grown hgrow (by have := hbw.size; simp; omega) (fun k hk => (hown.lt k hk).1)
              go_wp2_with fail
              go_roundw
              case rel =>
                refine ⟨i + 1, i + 1, done ++ [x], Nat.le_refl _, by omega, by go_num, by go_num, ?_, hb1, by simp; omega, H2.out⟩
                have := HO.out
                rw [strs_snoc] at this
                simpa using this
              case measure => simp [RowKit.intOf]; omega
          · rw [if_neg hval] at hr
            have hval' : validD x = false := by simpa using hval
            rw [hval'] at HC
            have H2 := Lib.hid hr
            have HE := Lib.hid ec
            clear hr hval hval' ec
            go_wp2_with fail
            rw [HE.out]
            refine (HC.out _).mono ?_
            rintro e w2 ⟨rfl, rfl⟩
            obtain ⟨q, cap, rfl, -⟩ := own_texts hown
            go_wp2_with fail
            go_ret3
            rw [← H2.out]
            exact ⟨_, rfl, texts_none _, hbw⟩
        · rw [refAt_go l done f i hf hlt hb] at hr
          have e1 : ((l[i].toNat : Int) != 10) = true := by
            simp only [bne_iff_ne, ne_eq]
            intro h
            exact hb (UInt8.toNat_inj.1 (by simpa using (by omega : l[i].toNat = 10)))
          have H2 := Lib.hid hr
          clear hr hb hi'
          go_wp2_with fail
          go_roundw
          case rel => exact ⟨f, i + 1, done, by omega, by omega, rfl, by go_num, hown, hbw, by omega, H2.out⟩
          case measure => simp [RowKit.intOf]; omega
      · by_cases hend : i = l.length
        · have e2 : ((i : Int) == (l.length : Int)) = true := beq_iff_eq.2 (by omega)
          by_cases hfi : f = i
          · subst hfi
            rw [refAt_bare l done f hend] at hr
            have H2 := Lib.hid hr
            clear hr
            go_wp2_with fail
            go_roundw
            case rel => exact ⟨f, f + 1, done, by omega, by omega, rfl, by go_num, hown, hbw, by omega, H2.out⟩
            case measure => simp [RowKit.intOf]; omega
          · rw [refAt_last l done f i (by omega) hend] at hr
            have e3 : ((f : Int) == (l.length : Int)) = false := beq_eq_false_iff_ne.2 (by omega)
            clear hfi
            have HC := Lib.hid (rrunes_any (curL l f i) (by have := curL_len l f i; omega))
            have hv := runesN_snd (curL l f i)
            have ec : (l.drop f).take (l.length - f) = curL l f i := by rw [← hend]; rfl
            generalize curL l f i = x at *
            generalize runesN x = N at *
            obtain ⟨N1, N2⟩ := N
            simp only at HC hv
            subst hv
            by_cases hval : validD x = true
            · rw [if_pos hval] at hr
              rw [hval] at HC
              have H2 := Lib.hid hr
              have HE := Lib.hid ec
              clear hr hval ec
              go_wp2_with fail
              rw [HE.out]
              refine (HC.out _).mono ?_
              rintro e w2 ⟨rfl, rfl⟩
              go_wp2_with (at_builtin; refine wpList_append_own _ rfl _ _ 61 rfl w.heap.size 9 i0 (.string ByteArray.empty) 1 16 Tryd.underlying61 hi hz0 hz1 hz2 rfl (by decide) _ _ _ rfl (hown.alloc _) ⟨wr.heap.size, 0, none⟩ 1 1 [.string (bs x)] rfl rfl ?c1 ?c2 ?c3 ?c4 ?c5 ?_)
              case c1 =>
                intro j u hj
                match j, hj with
                | 0, hj => simp at hj; subst hj; simp [Addr.add]
              case c2 => intro u hu; simp at hu; subst hu; rfl
              case c3 => unfold maxLen; omega
              case c4 => omega
              case c5 => have := hbw.size; simp; omega
              · intro v' w1 hown' hgrow hnil
                have HO := Lib.hid hown'
                clear hown' hnil
                have hb1 : Below w.heap.size w w1 := (hbw.alloc (by have := hbw.size; omega) _).grown hgrow (by have := hbw.size; simp; omega) (fun k hk => (hown.lt k hk).1)
                go_wp2_with fail
                go_roundw
                case rel =>
                  refine ⟨i + 1, i + 1, done ++ [x], Nat.le_refl _, by omega, by go_num, by go_num, ?_, hb1, by simp; omega, H2.out⟩
                  have := HO.out
                  rw [strs_snoc] at this
                  simpa using this
                case measure => simp [RowKit.intOf]; omega
            · rw [if_neg hval] at hr
              have hval' : validD x = false := by simpa using hval
              rw [hval'] at HC
              have H2 := Lib.hid hr
              have HE := Lib.hid ec
              clear hr hval hval' ec
              go_wp2_with fail
              rw [HE.out]
              refine (HC.out _).mono ?_
              rintro e w2 ⟨rfl, rfl⟩
              obtain ⟨q, cap, rfl, -⟩ := own_texts hown
              go_wp2_with fail
              go_ret3
              rw [← H2.out]
              exact ⟨_, rfl, texts_none _, hbw⟩
        · rw [refAt_end l done f i (by omega)] at hr
          have H2 := Lib.hid hr
          clear hr
          go_wp2_with fail
          go_ret3
          rw [← H2.out]
          exact ⟨_, rfl, own_texts hown, hbw⟩
end Go.Proofs.YtphhgdgamnogpaaDoor

namespace Go.Proofs.YtphhgdgamnogpaaDoor
open Go.RowKit Go.Lib

theorem ex_of : ofL [97, 10, 10, 98] = ([[97], [], [98]], 0, 0) := by decide +kernel
theorem ex_runes : runesN [97, 195, 169] = (2, true) := by decide +kernel
theorem of_ok (x : List UInt8) (h : (ofL x).2.2 = 0) : (ofL x).1 = linesL x := by
  unfold ofL at h ⊢
  split at h
  · simp at h
  · rename_i hx
    rw [if_neg hx]
    exact (resGo_full _ _ _ h).1
theorem of_err (x : List UInt8) (h : (ofL x).2.2 ≠ 0) : (ofL x).1 = [] := by
  unfold ofL at h ⊢
  split at h
  · rename_i hx
    rw [if_pos hx]
  · rename_i hx
    rw [if_neg hx]
    exact (resGo_bad _ _ _ h).1
theorem resGo_le (full : List (List UInt8)) : ∀ (n : Nat) (r : List (List UInt8)), (resGo full n r).2.1 ≤ n + r.length ∧ (resGo full n r).2.2 ≤ 5 ∧ ((resGo full n r).1 = full ∨ (resGo full n r).1 = [])
  | n, [] => ⟨Nat.zero_le _, Nat.zero_le _, .inl rfl⟩
  | n, x :: r => by
    unfold resGo
    split
    · have := resGo_le full (n + 1) r
      exact ⟨by simp only [List.length_cons]; omega, this.2⟩
    · exact ⟨by simp only [List.length_cons]; omega, by simp, .inr rfl⟩
theorem of_le (x : List UInt8) (hx : x.length ≤ 65537) : (ofL x).2.1 ≤ 65539 ∧ (ofL x).2.2 ≤ 6 ∧ (ofL x).1.length ≤ 65538 := by
  unfold ofL
  split
  · exact ⟨by simp, by simp, by simp⟩
  · have h := resGo_le (linesL x) 0 (linesL x)
    have hl := lines_len x []
    have e : linesL x = linesAux [] x := rfl
    rw [e] at h ⊢
    refine ⟨by omega, by omega, ?_⟩
    rcases h.2.2 with h2 | h2
    · rw [h2]; omega
    · rw [h2]; simp
theorem feed_take (M : List (List UInt8)) (k : Nat) (hk : k < M.length) : feedL (M.take (k + 1)) = feedL (M.take k) ++ (M.getD k [] ++ [10]) := by
  have e : M.take (k + 1) = M.take k ++ [M.getD k []] := by
    rw [List.take_add_one]
    simp [hk]
  rw [e]
  unfold feedL
  rw [List.flatMap_append]
  simp
theorem feed_le : ∀ (M : List (List UInt8)) (k : Nat), (feedL (M.take k)).length ≤ (feedL M).length
  | [], k => by simp
  | x :: M, 0 => by simp [feedL]
  | x :: M, k + 1 => by
    have h := feed_le M k
    have e : ∀ x M, feedL (x :: M) = x ++ [10] ++ feedL M := fun x M => by simp [feedL]
    rw [List.take_succ_cons, e, e, List.length_append, List.length_append (bs := feedL M)]
    omega

end Go.Proofs.YtphhgdgamnogpaaDoor

namespace Go.Proofs.YtphhgdgamnogpaaDoor
open Go.Lib

/-- Is a rune a blank? -/
def blankR (c : Nat) : Bool := decide (c = 9) || decide (c = 13) || decide (c = 32)
def blankB (b : UInt8) : Bool := blankR b.toNat
theorem blankB_low (b : UInt8) (h : blankB b = true) : b.toNat < 128 := by
  unfold blankB blankR at h
  simp only [Bool.or_eq_true, decide_eq_true_eq] at h
  omega
theorem blankR_high (c : Nat) (h : 128 ≤ c) : blankR c = false := by
  unfold blankR
  simp only [Bool.or_eq_false_iff, decide_eq_false_iff_not]
  omega
theorem decN_high (n b0 b1 b2 b3 : Nat) (h : 128 ≤ b0) : 128 ≤ (decodeN n b0 b1 b2 b3).1 := by
  unfold decodeN
  repeat' split
  all_goals (simp only; omega)
theorem dec_blank (b : UInt8) (t : List UInt8) : blankR (decodeL (b :: t)).1 = blankB b ∧ (blankB b = true → (decodeL (b :: t)).2 = 1) := by
  by_cases h : b.toNat < 128
  · rw [decodeL_ascii b t h]
    exact ⟨rfl, fun _ => rfl⟩
  · have h2 := decN_high (b :: t).length ((b :: t).getD 0 0).toNat ((b :: t).getD 1 0).toNat ((b :: t).getD 2 0).toNat ((b :: t).getD 3 0).toNat (by simp only [List.getD_cons_zero]; omega)
    rw [← decodeL_N] at h2
    rw [blankR_high _ h2]
    refine ⟨(blankR_high _ (by omega)).symm, fun hb => absurd (blankB_low b hb) h⟩

/-! ### from the left -/
def strL (l : List UInt8) : List UInt8 := l.dropWhile blankB
theorem strL_cons (b : UInt8) (t : List UInt8) : strL (b :: t) = if blankB b then strL t else b :: t := by
  unfold strL
  rw [List.dropWhile_cons]
theorem bs_list (l : List UInt8) : (bs l).data.toList = l := by simp [bs]
theorem idx_left (l : List UInt8) : ∀ (f p : Nat), p ≤ l.length → l.length - p ≤ f →
    (strL (l.drop p) = [] ∧ idxFuncFrom blankR false (bs l) f p = -1) ∨ (∃ q : Nat, p ≤ q ∧ q < l.length ∧ idxFuncFrom blankR false (bs l) f p = q ∧ strL (l.drop p) = l.drop q)
  | 0, p, hp, hf => by
    have e : l.drop p = [] := List.drop_eq_nil_of_le (by omega)
    rw [e]
    exact .inl ⟨rfl, rfl⟩
  | f + 1, p, hp, hf => by
    unfold idxFuncFrom
    rw [bs_size]
    by_cases h : p < l.length
    · rw [if_pos h, ← decodeL_drop, bs_list]
      have e : l.drop p = l[p] :: l.drop (p + 1) := List.drop_eq_getElem_cons h
      rw [e]
      obtain ⟨h1, h2⟩ := dec_blank l[p] (l.drop (p + 1))
      rw [h1, strL_cons]
      by_cases hb : blankB l[p] = true
      · rw [h2 hb, hb]
        simp only [if_true, Bool.true_eq_false, if_false]
        rcases idx_left l f (p + 1) (by omega) (by omega) with ⟨h3, h4⟩ | ⟨q, h3, h4, h5, h6⟩
        · exact .inl ⟨h3, h4⟩
        · exact .inr ⟨q, by omega, h4, h5, h6⟩
      · rw [if_neg hb]
        have hb' : blankB l[p] = false := by simpa using hb
        rw [hb']
        simp only [if_true]
        exact .inr ⟨p, Nat.le_refl _, h, rfl, e.symm⟩
    · rw [if_neg h]
      have e : l.drop p = [] := List.drop_eq_nil_of_le (by omega)
      rw [e]
      exact .inl ⟨rfl, rfl⟩
theorem left_eq (l : List UInt8) : trimLeftF blankR (bs l) = bs (strL l) := by
  unfold trimLeftF idxFunc
  rcases idx_left l (bs l).size 0 (Nat.zero_le _) (by rw [bs_size]; omega) with ⟨h1, h2⟩ | ⟨q, -, h2, h3, h4⟩
  · rw [h2, if_pos rfl]
    rw [List.drop_zero] at h1
    rw [h1]
    rfl
  · rw [h3, if_neg (by omega)]
    rw [List.drop_zero] at h4
    rw [h4, bs_extract, bs_size, show ((q : Int)).toNat = q by omega, List.take_of_length_le (by rw [List.length_drop]; omega)]

/-! ### from the right -/
def strR (l : List UInt8) : List UInt8 := (l.reverse.dropWhile blankB).reverse
theorem strR_snoc (t : List UInt8) (b : UInt8) : strR (t ++ [b]) = if blankB b then strR t else t ++ [b] := by
  unfold strR
  rw [List.reverse_append]
  simp only [List.reverse_cons, List.reverse_nil, List.nil_append, List.singleton_append, List.dropWhile_cons]
  split
  · rfl
  · simp
theorem decN_app (n m b0 b1 b2 b3 c1 c2 c3 : Nat) (hn : 1 ≤ n) (hm : n ≤ m) (h : (decodeN n b0 b1 b2 b3).2 = n) (h1 : if 1 < n then c1 = b1 else c1 < 128) (h2 : if 2 < n then c2 = b2 else c2 < 128) (h3 : if 3 < n then c3 = b3 else c3 < 128) :
    (decodeN m b0 c1 c2 c3).2 = n := by
  have hn4 : n = 1 ∨ n = 2 ∨ n = 3 ∨ n = 4 := by
    rw [← h]
    unfold decodeN
    repeat' split
    all_goals simp
  rcases hn4 with rfl | rfl | rfl | rfl
  · simp only [Nat.lt_irrefl, if_false] at h1
    have hc : ¬ c1 / 64 = 2 := by omega
    unfold decodeN
    simp only [hc, and_false, false_and, if_false]
    split <;> rfl
  · simp only [show (1 : Nat) < 2 from by decide, if_true] at h1
    subst h1
    unfold decodeN at h ⊢
    split at h
    · simp at h
    · rename_i hA
      split at h
      · rename_i hB
        rw [if_neg hA, if_pos ⟨hB.1, by omega, hB.2.2⟩]
        exact h
      · exfalso
        split at h
        · rename_i hC
          omega
        · split at h
          · rename_i hD
            omega
          · simp at h
  · simp only [show (1 : Nat) < 3 from by decide, show (2 : Nat) < 3 from by decide, if_true] at h1 h2
    subst h1 h2
    unfold decodeN at h ⊢
    split at h
    · simp at h
    · rename_i hA
      split at h
      · split at h <;> simp at h
      · rename_i hB
        split at h
        · rename_i hC
          rw [if_neg hA, if_neg (fun x => hB ⟨x.1, by omega, x.2.2⟩), if_pos ⟨hC.1, ⟨by omega, hC.2.1.2⟩, by omega, hC.2.2.2⟩]
          exact h
        · exfalso
          split at h
          · rename_i hD
            omega
          · simp at h
  · simp only [show (1 : Nat) < 4 from by decide, show (2 : Nat) < 4 from by decide, show (3 : Nat) < 4 from by decide, if_true] at h1 h2 h3
    subst h1 h2 h3
    unfold decodeN at h ⊢
    split at h
    · simp at h
    · rename_i hA
      split at h
      · split at h <;> simp at h
      · rename_i hB
        split at h
        · split at h <;> simp at h
        · rename_i hC
          split at h
          · rename_i hD
            rw [if_neg hA, if_neg (fun x => hB ⟨x.1, by omega, x.2.2⟩), if_neg (fun x => hC ⟨x.1, ⟨by omega, x.2.1.2⟩, by omega, x.2.2.2⟩), if_pos ⟨hD.1, ⟨by omega, hD.2.1.2⟩, ⟨by omega, hD.2.2.1.2⟩, by omega, hD.2.2.2.2⟩]
            exact h
          · simp at h
theorem getD_appL (y z : List UInt8) (i : Nat) (h : i < y.length) : (y ++ z).getD i 0 = y.getD i 0 := by
  simp [List.getD, List.getElem?_append_left h]
theorem getD_appR (y z : List UInt8) (i : Nat) (h : ¬ i < y.length) (hz : ∀ b ∈ z, b.toNat < 128) : ((y ++ z).getD i 0).toNat < 128 := by
  simp only [List.getD, List.getElem?_append_right (Nat.le_of_not_lt h)]
  cases hx : z[i - y.length]? with
  | none => simp
  | some b => exact hz b (List.mem_of_getElem? hx)
/-- A rune that ends where a text ends has its width with low bytes behind it, too. -/
theorem dec_app (y z : List UInt8) (hy : y ≠ []) (h : (decodeL y).2 = y.length) (hz : ∀ b ∈ z, b.toNat < 128) : (decodeL (y ++ z)).2 = y.length := by
  have hl : 0 < y.length := List.length_pos_iff.2 hy
  rw [decodeL_N] at h ⊢
  rw [getD_appL y z 0 hl]
  refine decN_app y.length _ _ _ _ _ _ _ _ hl (by rw [List.length_append]; omega) h ?_ ?_ ?_
  all_goals
    split
    · rename_i hi
      rw [getD_appL y z _ hi]
    · rename_i hi
      exact getD_appR y z _ hi hz
theorem lastL_high (x : List UInt8) (b : UInt8) (h : 128 ≤ b.toNat) : 128 ≤ (decodeLastL (x ++ [b])).1 ∧
    ∃ y, y ≠ [] ∧ (∃ u, x ++ [b] = u ++ y) ∧ (decodeLastL (x ++ [b])).2 = y.length ∧ (decodeL y).2 = y.length := by
  have hlast : (x ++ [b]).getD ((x ++ [b]).length - 1) 0 = b := by simp [List.getD]
  have hone : (decodeL [b]).2 = 1 := by
    rw [decodeL_N]
    unfold decodeN
    simp only [List.length_cons, List.length_nil, Nat.zero_add, Nat.lt_irrefl, false_and, and_false, if_false, List.getD_cons_zero, List.getD_cons_succ, List.getD_nil]
    split <;> rfl
  unfold decodeLastL
  rw [if_neg (by simp), hlast, if_neg (by omega)]
  simp only
  by_cases hc : lastStart (x ++ [b]) + (decodeL ((x ++ [b]).drop (lastStart (x ++ [b])))).2 = (x ++ [b]).length
  · rw [if_pos hc]
    have hw := decodeL_width ((x ++ [b]).drop (lastStart (x ++ [b])))
    have hlen : ((x ++ [b]).drop (lastStart (x ++ [b]))).length = (decodeL ((x ++ [b]).drop (lastStart (x ++ [b])))).2 := by
      rw [List.length_drop]; omega
    have hne : (x ++ [b]).drop (lastStart (x ++ [b])) ≠ [] := fun e => by
      rw [e] at hlen hw
      simp only [List.length_nil] at hlen
      omega
    refine ⟨?_, _, hne, ⟨_, (List.take_append_drop (lastStart (x ++ [b])) _).symm⟩, hlen.symm, hlen.symm⟩
    generalize lastStart (x ++ [b]) = s at *
    obtain ⟨c, t, hct⟩ : ∃ c t, (x ++ [b]).drop s = c :: t := by
      cases he : (x ++ [b]).drop s with
      | nil => exact absurd he hne
      | cons c t => exact ⟨c, t, rfl⟩
    rw [hct] at hlen ⊢
    by_cases hlow : c.toNat < 128
    · rw [decodeL_ascii c t hlow] at hlen
      simp only [List.length_cons] at hlen
      have ht : t = [] := List.eq_nil_of_length_eq_zero (by omega)
      subst ht
      have hb : c = b := by
        have := congrArg (fun l : List UInt8 => l.getLast?) hct
        simp only [List.getLast?_drop, List.getLast?_singleton] at this
        split at this
        · simp at this
        · simpa using this.symm
      rw [hb] at hlow
      omega
    · rw [decodeL_N]
      exact decN_high _ _ _ _ _ (by simp only [List.getD_cons_zero]; omega)
  · rw [if_neg hc]
    exact ⟨by decide, [b], by simp, ⟨x, rfl⟩, rfl, hone⟩
theorem idx_right (l : List UInt8) : ∀ (f i : Nat), i ≤ l.length → i ≤ f →
    (strR (l.take i) = [] ∧ lastIdxFuncFrom blankR false (bs l) f i = -1) ∨ (∃ u y z, y ≠ [] ∧ l.take i = u ++ y ++ z ∧ (∀ b ∈ z, b.toNat < 128) ∧ (decodeL y).2 = y.length ∧ lastIdxFuncFrom blankR false (bs l) f i = (u.length : Nat) ∧ strR (l.take i) = u ++ y)
  | 0, i, hi, hf => by
    obtain rfl : i = 0 := by omega
    exact .inl ⟨rfl, rfl⟩
  | f + 1, i, hi, hf => by
    unfold lastIdxFuncFrom
    rw [bs_list]
    by_cases h : 0 < i
    · rw [if_pos h]
      obtain ⟨k, rfl⟩ : ∃ k, i = k + 1 := ⟨i - 1, by omega⟩
      have hk : k < l.length := by omega
      have e : l.take (k + 1) = l.take k ++ [l[k]] := by
        rw [List.take_add_one]
        simp [hk]
      rw [e, strR_snoc]
      by_cases hlow : l[k].toNat < 128
      · rw [decodeLastL_ascii _ _ hlow]
        have hb0 : blankR l[k].toNat = blankB l[k] := rfl
        rw [hb0]
        by_cases hb : blankB l[k] = true
        · rw [hb]
          simp only [if_true, Bool.true_eq_false, if_false, Nat.add_sub_cancel]
          rcases idx_right l f k (by omega) (by omega) with ⟨h3, h4⟩ | ⟨u, y, z, h3, h4, h5, h6, h7, h8⟩
          · exact .inl ⟨h3, h4⟩
          · refine .inr ⟨u, y, z ++ [l[k]], h3, by rw [h4]; simp, ?_, h6, h7, h8⟩
            intro b hb
            rcases List.mem_append.1 hb with hb | hb
            · exact h5 b hb
            · simp only [List.mem_singleton] at hb
              rw [hb]; exact hlow
        · have hb' : blankB l[k] = false := by simpa using hb
          rw [hb']
          simp only [if_true, Bool.false_eq_true, if_false, Nat.add_sub_cancel]
          refine .inr ⟨l.take k, [l[k]], [], by simp, by simp, by simp, ?_, ?_, rfl⟩
          · rw [decodeL_ascii _ _ hlow]; rfl
          · rw [List.length_take]; omega
      · have hb' : blankB l[k] = false := by
          by_cases hb : blankB l[k] = true
          · exact absurd (blankB_low _ hb) hlow
          · simpa using hb
        obtain ⟨h1, y, hy, ⟨u, hu⟩, h2, h3⟩ := lastL_high (l.take k) l[k] (by omega)
        rw [blankR_high _ h1, hb', h2]
        simp only [if_true, Bool.false_eq_true, if_false]
        refine .inr ⟨u, y, [], hy, by rw [hu]; simp, by simp, h3, ?_, hu⟩
        have hlen := congrArg List.length hu
        simp only [List.length_append, List.length_cons, List.length_nil, List.length_take] at hlen
        omega
    · rw [if_neg h]
      obtain rfl : i = 0 := by omega
      exact .inl ⟨rfl, rfl⟩
theorem right_eq (l : List UInt8) : trimRightF blankR (bs l) = bs (strR l) := by
  unfold trimRightF rightEndF lastIdxFunc
  rw [bs_size]
  have h := idx_right l l.length l.length (Nat.le_refl _) (Nat.le_refl _)
  rw [List.take_length] at h
  rcases h with ⟨h1, h2⟩ | ⟨u, y, z, h1, h2, h3, h4, h5, h6⟩
  · rw [h2, if_neg (by decide), h1, bs_extract]
    simp
  · rw [h5, if_pos (by omega), h6, bs_extract, bs_extract]
    have e : ((l.drop ((u.length : Nat) : Int).toNat).take (l.length - ((u.length : Nat) : Int).toNat)) = y ++ z := by
      rw [show ((u.length : Nat) : Int).toNat = u.length by omega, List.take_of_length_le (by rw [List.length_drop]; omega), h2, List.append_assoc, List.drop_left]
    rw [e]
    have hy := List.length_pos_iff.2 h1
    have hw : (decodeGoB (bs (y ++ z))).2 = y.length := by
      unfold decodeGoB
      rw [bs_size, if_neg (by rw [List.length_append]; omega), ← decodeL_drop, bs_list, List.drop_zero]
      exact dec_app y z h1 h4 h3
    rw [hw, List.drop_zero, show ((u.length : Nat) : Int).toNat + y.length - 0 = (u ++ y).length by rw [List.length_append]; omega, h2, List.take_left]
theorem trim_eq (l : List UInt8) : trimF blankR (bs l) = bs (strR (strL l)) := by
  unfold trimF
  rw [left_eq, right_eq]
end Go.Proofs.YtphhgdgamnogpaaDoor

namespace Go.Proofs
end Go.Proofs
