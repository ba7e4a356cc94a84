/-
  A history in memory beside a box of slices: stores into the box leave it as it was. No conditions.
  A history as an argument beside a box of slices: stores into the box leave it as it was. No conditions.
  The statement HistMays of layer 11 (hist), walked. No conditions but that unicode/utf8's two tables are as their initialisers lay them.
  The walks of layer 7 (event): the kind of a first word, whether events of a kind are long; the reference's list of words. Condition: event.words holds what its initialiser lays.
  The walk of layer 1's reference (line): how many bytes the rune at a place has, 0 where there is none. No conditions.
  Layer 1 (line) in plain words: a text's lines, in the program's way and in the reference's; no program in sight. No conditions.
  DERIVED: THE SHELF's CONTRACTS AT THIS DUMP, IN PLAIN WORDS (tools/lay-plain.mjs out of 'TrydShelfL4.lean', which tools/lay-shelf.mjs wrote): THE SAME DECLARATIONS UNDER THE SAME NAMES: 'import', 'namespace', 'open', 'def', 'theorem' AND NOTHING ELSE: no command of the shelf's: FOR A HAND-IN. Each laying: the table of numbers ('.._ren') and one theorem, a field a fact of the dump's own or the kernel's comparison; each contract: ONE APPLICATION.
  The walks of layer 1 (line): how many runes a text has, in the program and in its reference; whether two lists of texts are the same. No conditions.
-/
import Derived.Test.YthgbfaoblnkniaaGreatDoorZb
import Derived.Test.YthgbfaoblnkniaaGreatDoorZe
import Derived.Test.YthgbfaoblnkniaaGreatDoorZd
import Derived.Test.YthgbfaoblnkniaaGreatDoorZg
import Derived.Test.YthgbfaoblnkniaaGreatDoorZxHFew
import Derived.Test.YthgbfaoblnkniaaGreatDoorZa
import Derived.Lib.SplitLaws
import Derived.Ground.NamesProg
import Derived.Shelf.LaysM
import Derived.Shelf.Strings.Prefix
import Derived.Shelf.Strings.Split
import Derived.Test.YthgbfaoblnkniaaGreatDoorProg
import Derived.Laws.RangeAny
import Derived.WalkKit
namespace Go.Proofs.YthgbfaoblnkniaaGreatDoor
open Go.RowKit Go.Lib
def SlBox (w : World) (B : Nat) (t : TypeId) (cs : List Value) : Prop := Blk w B t cs ∧ ∀ x ∈ cs, ∃ p n c, x = .slice p n c
theorem SlBox.ne {w : World} {B : Nat} {t : TypeId} {cs : List Value} (h : SlBox w B t cs) {a : Addr} {v : Value} (ha : w.cell? a = some v) (hv : ∀ p n c, v ≠ .slice p n c) : a.block ≠ B := by
 intro e
 obtain ⟨b, o, s⟩ := a
 simp only at e
 subst e
 have hs : s = none := by
  cases s with
  | none => rfl
  | some q =>
   exfalso
   have hb : w.heap[b]? = some (.cells cs.toArray t (0, 0)) := h.1
   simp [World.cell?, hb] at ha
 subst hs
 have hb : w.heap[b]? = some (.cells cs.toArray t (0, 0)) := h.1
 rw [cell_of_row w b o cs.toArray t (0, 0) hb] at ha
 have hm : v ∈ cs := by
  have : cs[o]? = some v := by simpa using ha
  exact List.mem_of_getElem? this
 obtain ⟨p, n, c, e⟩ := h.2 v hm
 exact hv p n c e
theorem cell_set_far {w : World} {B i : Nat} {u v : Value} {a : Addr} (h : w.cell? a = some v) (hne : a.block ≠ B) : (w.setCell ⟨B, i, none⟩ u).cell? a = some v := by
 rw [World.cell?_setCell_far _ _ _ _ (fun e => hne e.symm)]; exact h
theorem SlBox.set {w : World} {B : Nat} {t : TypeId} {cs : List Value} (h : SlBox w B t cs) (i : Nat) (p : Option Addr) (n c : Nat) : SlBox (w.setCell ⟨B, i, none⟩ (.slice p n c)) B t (cs.set i (.slice p n c)) :=
 ⟨h.1.set i _, fun x hx => by
  rcases List.mem_or_eq_of_mem_set hx with h' | h'
  ·exact h.2 x h'
  ·exact ⟨p, n, c, h'⟩⟩
section
variable {w : World} {B : Nat} {t : TypeId} {cs : List Value} (hB : SlBox w B t cs) (i : Nat) (u : Value)
include hB
theorem texts_box {v : Value} {L : List (List UInt8)} (h : Texts w v L) : Texts (w.setCell ⟨B, i, none⟩ u) v L := by
 obtain ⟨p, c, rfl, hp⟩ := h
 refine ⟨p, c, rfl, fun j hj => ?_⟩
 obtain ⟨g, rfl, hc⟩ := hp j hj
 exact ⟨g, rfl, cell_set_far hc (hB.ne hc (by intros; simp))⟩
theorem opsS_box {v : Value} {L : List OpM} (h : OpsS w v L) : OpsS (w.setCell ⟨B, i, none⟩ u) v L := by
 obtain ⟨p, c, rfl, hp⟩ := h
 refine ⟨p, c, rfl, fun j hj => ?_⟩
 obtain ⟨g, rfl, h0, h1, h2, h3⟩ := hp j hj
 have hne : g ≠ B := hB.ne h0 (by intros; simp)
 exact ⟨g, rfl, cell_set_far h0 hne, cell_set_far h1 hne, cell_set_far h2 hne, cell_set_far h3 hne⟩
theorem txnsS_box {v : Value} {L : List TxnM} (h : TxnsS w v L) : TxnsS (w.setCell ⟨B, i, none⟩ u) v L := by
 obtain ⟨p, c, rfl, hp⟩ := h
 refine ⟨p, c, rfl, fun j hj => ?_⟩
 obtain ⟨g, sv, rfl, h0, h1, h2, h3⟩ := hp j hj
 have hne : g ≠ B := hB.ne h0 (by intros; simp)
 exact ⟨g, sv, rfl, cell_set_far h0 hne, cell_set_far h1 hne, cell_set_far h2 hne, opsS_box hB i u h3⟩
theorem histV_box {v : Value} {h : HistM} (hv : HistV w v h) : HistV (w.setCell ⟨B, i, none⟩ u) v h := by
 obtain ⟨v0, v1, v2, e, h0, h1, h2⟩ := hv
 exact ⟨v0, v1, v2, e, texts_box hB i u h0, texts_box hB i u h1, txnsS_box hB i u h2⟩
end
end Go.Proofs.YthgbfaoblnkniaaGreatDoor

namespace Go.Proofs.YthgbfaoblnkniaaGreatDoor
open Go.RowKit Go.Lib
section
variable {w : World} {B : Nat} {t : TypeId} {cs : List Value} (hB : SlBox w B t cs) (i : Nat) (u : Value)
include hB
theorem slR_box {α : Type} {size : Nat} {R : World → List Value → α → Prop} (hs : 0 < size) (hR : ∀ cs m, R w cs m → R (w.setCell ⟨B, i, none⟩ u) cs m) (hf : ∀ cs m, R w cs m → ∀ x, cs[0]? = some x → ∀ p n c, x ≠ .slice p n c) {v : Value} {L : List α} (h : SlR size R w v L) : SlR size R (w.setCell ⟨B, i, none⟩ u) v L := by
 obtain ⟨p, cap, hv, hl, hm, hc⟩ := h
 refine ⟨p, cap, hv, hl, hm, fun j hj => ?_⟩
 obtain ⟨a, ds, hp, hs', h1, h2⟩ := hc j hj
 obtain ⟨x, hx⟩ : ∃ x, ds[0]? = some x := ⟨ds[0]'(by omega), by simp⟩
 have hc0 := h1 0 x hx
 have hne : (a.add (j * size + 0)).block ≠ B := hB.ne hc0 (hf _ _ h2 x hx)
 have hne' : a.block ≠ B := by
  intro e
  apply hne
  unfold Addr.add
  split <;> exact e
 refine ⟨a, ds, hp, hs', fun q y hy => cell_set_far (h1 q y hy) ?_, hR _ _ h2⟩
 unfold Addr.add
 split <;> exact hne'
theorem strsA_box {v : Value} {L : List (List UInt8)} (h : StrsA w v L) : StrsA (w.setCell ⟨B, i, none⟩ u) v L :=
 slR_box hB i u (by omega) (fun _ _ h => h) (fun cs m h x hx p n c => by obtain ⟨rfl, -⟩ := h; simp at hx; subst hx; simp) h
theorem opsA_box {v : Value} {L : List OpM} (h : OpsA w v L) : OpsA (w.setCell ⟨B, i, none⟩ u) v L :=
 slR_box hB i u (by omega) (fun _ _ h => h) (fun cs m h x hx p n c => by unfold OpR at h; subst h; simp [opCells] at hx; subst hx; simp) h
theorem txnsA_box {v : Value} {L : List TxnM} (h : TxnsA w v L) : TxnsA (w.setCell ⟨B, i, none⟩ u) v L :=
 slR_box hB i u (by omega) (fun _ _ ⟨sv, e, h⟩ => ⟨sv, e, opsA_box hB i u h⟩) (fun cs m h x hx p n c => by obtain ⟨sv, rfl, -⟩ := h; simp at hx; subst hx; simp) h
theorem histA_box {v : Value} {h : HistM} (hv : HistA w v h) : HistA (w.setCell ⟨B, i, none⟩ u) v h := by
 obtain ⟨v0, v1, v2, e, h0, h1, h2⟩ := hv
 exact ⟨v0, v1, v2, e, strsA_box hB i u h0, strsA_box hB i u h1, txnsA_box hB i u h2⟩
end
theorem few_modst (h : HistM) : Modst (fewH h) := by
 refine ⟨Nat.le_trans (cutS_le _ _) (by omega), Nat.le_trans (cutS_le _ _) (by omega), ?_, ?_, ?_, ?_⟩
 ·simp [fewH]; omega
 ·intro x hx; have := cutS_short _ _ x hx; omega
 ·intro x hx; have := cutS_short _ _ x hx; omega
 ·intro t ht
  obtain ⟨t', -, rfl⟩ := List.mem_map.1 ht
  simp [cutTxn]; omega
theorem few_stored {w w1 : World} {W0 : World} {x0 x1 x2 : Value} {h : HistM} {p0 p1 p2 : Option Addr} {n0 n1 n2 c0 c1 c2 : Nat} (hb0 : Below w.heap.size w W0) (hB : Blk W0 w.heap.size 25 [x0, x1, x2]) (hx : ∀ x ∈ [x0, x1, x2], ∃ p n c, x = Value.slice p n c) (hb : Below W0.heap.size W0 w1)
  (hv : HistV w1 (.agg #[.slice p0 n0 c0, .slice p1 n1 c1, .slice p2 n2 c2]) h) (ha : HistA w1 (.agg #[.slice p0 n0 c0, .slice p1 n1 c1, .slice p2 n2 c2]) h) :
  Blk (((w1.setCell ⟨w.heap.size, 0, none⟩ (.slice p0 n0 c0)).setCell ⟨w.heap.size, 1, none⟩ (.slice p1 n1 c1)).setCell ⟨w.heap.size, 2, none⟩ (.slice p2 n2 c2)) w.heap.size 25 [.slice p0 n0 c0, .slice p1 n1 c1, .slice p2 n2 c2] ∧
  HistV (((w1.setCell ⟨w.heap.size, 0, none⟩ (.slice p0 n0 c0)).setCell ⟨w.heap.size, 1, none⟩ (.slice p1 n1 c1)).setCell ⟨w.heap.size, 2, none⟩ (.slice p2 n2 c2)) (.agg #[.slice p0 n0 c0, .slice p1 n1 c1, .slice p2 n2 c2]) h ∧
  HistA (((w1.setCell ⟨w.heap.size, 0, none⟩ (.slice p0 n0 c0)).setCell ⟨w.heap.size, 1, none⟩ (.slice p1 n1 c1)).setCell ⟨w.heap.size, 2, none⟩ (.slice p2 n2 c2)) (.agg #[.slice p0 n0 c0, .slice p1 n1 c1, .slice p2 n2 c2]) h ∧
  Below w.heap.size w (((w1.setCell ⟨w.heap.size, 0, none⟩ (.slice p0 n0 c0)).setCell ⟨w.heap.size, 1, none⟩ (.slice p1 n1 c1)).setCell ⟨w.heap.size, 2, none⟩ (.slice p2 n2 c2)) := by
 have s0 : SlBox w1 w.heap.size 25 [x0, x1, x2] := ⟨hB.later hb, hx⟩
 have s1 := s0.set 0 p0 n0 c0
 have s2 := s1.set 1 p1 n1 c1
 have s3 := s2.set 2 p2 n2 c2
 refine ⟨s3.1, histV_box s2 2 _ (histV_box s1 1 _ (histV_box s0 0 _ hv)), histA_box s2 2 _ (histA_box s1 1 _ (histA_box s0 0 _ ha)), ?_⟩
 exact (((below_next hb0 hb).setCell (by show w.heap.size ≤ w.heap.size; omega) _).setCell (by show w.heap.size ≤ w.heap.size; omega) _).setCell (by show w.heap.size ≤ w.heap.size; omega) _
end Go.Proofs.YthgbfaoblnkniaaGreatDoor

namespace Go.Proofs.YthgbfaoblnkniaaGreatDoor
open Go.RowKit Go.Lib
theorem few_v {w : World} {v : Value} {h : HistM} (hv : HistA w v (fewH h)) : Calls Tryz.prog 6 #[v] w fun e w' => ∃ v', e = .returned v' ∧ HistV w' v' (fewH h) ∧ HistA w' v' (fewH h) ∧ Below w.heap.size w w' := by
 have h1 := few11_any w v (fewH h) hv
 rw [fewH_few] at h1
 exact h1
end Go.Proofs.YthgbfaoblnkniaaGreatDoor

namespace Go.Proofs.YthgbfaoblnkniaaGreatDoor
open Go.RowKit
set_option maxHeartbeats 1000000 in
theorem long_any (k : Int) (w : World) :
  Calls Tryz.prog 69 #[.int .i64 k] w fun e w' => e = .returned (.bool (longK k)) ∧ w = w' := by
 rcases long_cases k with ⟨rfl, h⟩ | ⟨rfl, h⟩ | ⟨h1, h2, h⟩ <;> rw [h] <;> clear h
 all_goals
  go_enter Tryz.func69, Tryz.ntmps69
  go_wp2
  go_ret
  exact ⟨rfl, rfl⟩
theorem kindL_hit (i : Nat) (h0 : 0 < i) (h : i < 7) (l : List UInt8) (e : kindW i = l) : kindL l = i := by
 subst e
 match i, h0, h with
 | 1, _, _ => decide
 | 2, _, _ => decide
 | 3, _, _ => decide
 | 4, _, _ => decide
 | 5, _, _ => decide
 | 6, _, _ => decide
theorem kindL_miss (l : List UInt8) (h : ∀ i : Nat, 0 < i → i < 7 → kindW i ≠ l) : kindL l = 0 := by
 have h1 := h 1 (by decide) (by decide)
 have h2 := h 2 (by decide) (by decide)
 have h3 := h 3 (by decide) (by decide)
 have h4 := h 4 (by decide) (by decide)
 have h5 := h 5 (by decide) (by decide)
 have h6 := h 6 (by decide) (by decide)
 simp only [kindW] at h1 h2 h3 h4 h5 h6
 unfold kindL
 rw [if_neg (fun e => h1 (by rw [e]; rfl)), if_neg (fun e => h2 (by rw [e]; rfl)), if_neg (fun e => h3 (by rw [e]; rfl)), if_neg (fun e => h4 (by rw [e]; rfl)), if_neg (fun e => h5 (by rw [e]; rfl)), if_neg (fun e => h6 (by rw [e]; rfl))]
def tabE : Value := .agg #[.string (bs []), .string (bs [98, 101, 103, 105, 110]), .string (bs [114, 101, 97, 100]), .string (bs [119, 114, 105, 116, 101]), .string (bs [111, 107]), .string (bs [102, 97, 105, 108]), .string (bs [105, 110, 102, 111])]
theorem tabE_0 (w : World) : (Instr.index 121 tabE (.int .i64 ((0 : Nat) : Int))).run Tryz.prog w = .ok (.string (bs (kindW ((0 : Nat) : Int)))) w := by kernel_rfl
theorem tabE_1 (w : World) : (Instr.index 121 tabE (.int .i64 ((1 : Nat) : Int))).run Tryz.prog w = .ok (.string (bs (kindW ((1 : Nat) : Int)))) w := by kernel_rfl
theorem tabE_2 (w : World) : (Instr.index 121 tabE (.int .i64 ((2 : Nat) : Int))).run Tryz.prog w = .ok (.string (bs (kindW ((2 : Nat) : Int)))) w := by kernel_rfl
theorem tabE_3 (w : World) : (Instr.index 121 tabE (.int .i64 ((3 : Nat) : Int))).run Tryz.prog w = .ok (.string (bs (kindW ((3 : Nat) : Int)))) w := by kernel_rfl
theorem tabE_4 (w : World) : (Instr.index 121 tabE (.int .i64 ((4 : Nat) : Int))).run Tryz.prog w = .ok (.string (bs (kindW ((4 : Nat) : Int)))) w := by kernel_rfl
theorem tabE_5 (w : World) : (Instr.index 121 tabE (.int .i64 ((5 : Nat) : Int))).run Tryz.prog w = .ok (.string (bs (kindW ((5 : Nat) : Int)))) w := by kernel_rfl
theorem tabE_6 (w : World) : (Instr.index 121 tabE (.int .i64 ((6 : Nat) : Int))).run Tryz.prog w = .ok (.string (bs (kindW ((6 : Nat) : Int)))) w := by kernel_rfl
theorem tabE_at (i : Nat) (h : i < 7) (w : World) : (Instr.index 121 tabE (.int .i64 (i : Int))).run Tryz.prog w = .ok (.string (bs (kindW i))) w :=
 match i, h with
 | 0, _ => tabE_0 w
 | 1, _ => tabE_1 w
 | 2, _ => tabE_2 w
 | 3, _ => tabE_3 w
 | 4, _ => tabE_4 w
 | 5, _ => tabE_5 w
 | 6, _ => tabE_6 w
set_option maxRecDepth 100000 in
set_option maxHeartbeats 1000000 in
theorem kind_any (l : List UInt8) (w : World) (hE : EvTab w) :
  Calls Tryz.prog 79 #[.string (bs l)] w fun e w' => e = .returned (.int .i64 (kindL l)) ∧ w = w' := by
 have h0 : w.cell? ⟨0, 0, none⟩ = some (.string (bs [])) := hE 0 (by decide)
 have h1 : w.cell? ⟨0, 1, none⟩ = some (.string (bs [98, 101, 103, 105, 110])) := hE 1 (by decide)
 have h2 : w.cell? ⟨0, 2, none⟩ = some (.string (bs [114, 101, 97, 100])) := hE 2 (by decide)
 have h3 : w.cell? ⟨0, 3, none⟩ = some (.string (bs [119, 114, 105, 116, 101])) := hE 3 (by decide)
 have h4 : w.cell? ⟨0, 4, none⟩ = some (.string (bs [111, 107])) := hE 4 (by decide)
 have h5 : w.cell? ⟨0, 5, none⟩ = some (.string (bs [102, 97, 105, 108])) := hE 5 (by decide)
 have h6 : w.cell? ⟨0, 6, none⟩ = some (.string (bs [105, 110, 102, 111])) := hE 6 (by decide)
 clear hE
 have IX := Lib.hid tabE_at
 go_enter Tryz.func79, Tryz.ntmps79
 go_wp2
 clear h0 h1 h2 h3 h4 h5 h6
 go_loop [6] (fun i => ∃ k : Nat, k ≤ 7 ∧ i = .int .i64 k ∧ ∀ j : Nat, 0 < j → j < k → kindW j ≠ l) (fun i => 7 - (RowKit.intOf i).toNat)
 case atStart => exact ⟨0, by omega, rfl, fun j h0 h1 => absurd h1 (Nat.not_lt_zero j)⟩
 case round =>
  obtain ⟨k, hk, rfl, hno⟩ := hrel
  have HNo := Lib.hid hno
  clear hno
  by_cases hlt : k < 7
  ·have ix := IX.out k hlt
   unfold tabE at ix
   by_cases hk0 : 0 < k
   ·by_cases he : kindW k = l
    ·have HR := Lib.hid (kindL_hit k hk0 hlt l he)
     have hb : (kindW k == l) = true := by rw [he]; simp
     clear he
     go_wp2_with fail
     go_ret
     exact ⟨by rw [HR.out]; rfl, rfl⟩
    ·have HN : RowKit.Hid (∀ j : Nat, 0 < j → j < k + 1 → kindW j ≠ l) := Lib.hid (fun j h0 h1 => by
      by_cases h : j = k
      ·rw [h]; exact he
      ·exact HNo.out j h0 (by omega))
     have hb : (kindW k == l) = false := beq_eq_false_iff_ne.2 he
     clear he
     go_wp2_with fail
     go_round
     case rel => exact ⟨k + 1, by omega, by go_num, HN.out⟩
     case measure => simp [RowKit.intOf]; omega
   ·have hk1 : k = 0 := by omega
    subst hk1
    clear ix
    have ix : ∀ w : World, (Instr.index 121 (.agg #[.string (bs []), .string (bs [98, 101, 103, 105, 110]), .string (bs [114, 101, 97, 100]), .string (bs [119, 114, 105, 116, 101]), .string (bs [111, 107]), .string (bs [102, 97, 105, 108]), .string (bs [105, 110, 102, 111])]) (.int .i64 0)).run Tryz.prog w = .ok (.string (bs [])) w := tabE_0
    go_wp2_with fail
    go_round
    case rel => exact ⟨1, by omega, rfl, fun j h0 h1 => by omega⟩
    case measure => simp [RowKit.intOf]
  ·have hk7 : k = 7 := by omega
   subst hk7
   have HR := Lib.hid (kindL_miss l HNo.out)
   go_wp2_with fail
   go_ret
   exact ⟨by rw [HR.out]; rfl, rfl⟩
end Go.Proofs.YthgbfaoblnkniaaGreatDoor

namespace Go.Proofs.YthgbfaoblnkniaaGreatDoor
open Go.RowKit Go.Lib
def szD (d : Nat × Nat) : Nat := if d.1 = 65533 ∧ d.2 = 1 then 0 else d.2
def sizeAt (l : List UInt8) (p : Nat) : Nat := szD (oneAt l p)
theorem szD_good (v n : Nat) (h : n ≠ 1) : szD (v, n) = n := by simp [szD, h]
def contGo (l : List UInt8) (p : Nat) : Nat → Nat → Nat → Option Nat
 | 0, _, v => some v
 | m + 1, k, v => if (l.getD (p + k) 0).toNat < 128 ∨ 191 < (l.getD (p + k) 0).toNat then none else contGo l p m (k + 1) (64 * v + ((l.getD (p + k) 0).toNat - 128))
def finN (n least : Nat) : Option Nat → Nat
 | none => 0
 | some v => if v < least ∨ 1114111 < v ∨ (55296 ≤ v ∧ v ≤ 57343) then 0 else n
theorem size_two (l : List UInt8) (p : Nat) (hp : p + 1 < l.length) (h : 194 ≤ l[p].toNat) (h' : l[p].toNat ≤ 223) : finN 2 128 (contGo l p 1 1 (l[p].toNat - 192)) = sizeAt l p := by
 have hN := oneAt_N l p
 rw [getD_at l p (by omega), dec2 _ _ _ _ _ h h'] at hN
 unfold sizeAt
 rw [hN]
 simp only [contGo]
 by_cases h1 : (l.getD (p + 1) 0).toNat < 128 ∨ 191 < (l.getD (p + 1) 0).toNat
 ·rw [if_pos h1, if_neg (by omega)]
  rfl
 ·rw [if_neg h1, if_pos (by omega)]
  simp only [finN]
  rw [if_neg (by omega), szD_good _ _ (by omega)]
theorem size_three (l : List UInt8) (p : Nat) (hp : p + 2 < l.length) (h : 224 ≤ l[p].toNat) (h' : l[p].toNat ≤ 239) : finN 3 2048 (contGo l p 2 1 (l[p].toNat - 224)) = sizeAt l p := by
 have hN := oneAt_N l p
 rw [getD_at l p (by omega), dec3 _ _ _ _ _ h h'] at hN
 unfold sizeAt
 rw [hN]
 simp only [contGo, Nat.reduceAdd]
 by_cases h1 : (l.getD (p + 1) 0).toNat < 128 ∨ 191 < (l.getD (p + 1) 0).toNat
 ·rw [if_pos h1, if_neg (by omega)]
  rfl
 ·rw [if_neg h1]
  by_cases h2 : (l.getD (p + 2) 0).toNat < 128 ∨ 191 < (l.getD (p + 2) 0).toNat
  ·rw [if_pos h2, if_neg (by omega)]
   rfl
  ·rw [if_neg h2]
   simp only [finN]
   split
   ·rw [if_neg (by omega)]
    rfl
   ·rw [if_pos (by omega), szD_good _ _ (by omega)]
theorem size_four (l : List UInt8) (p : Nat) (hp : p + 3 < l.length) (h : 240 ≤ l[p].toNat) (h' : l[p].toNat ≤ 244) : finN 4 65536 (contGo l p 3 1 (l[p].toNat - 240)) = sizeAt l p := by
 have hN := oneAt_N l p
 rw [getD_at l p (by omega), dec4 _ _ _ _ _ h h'] at hN
 unfold sizeAt
 rw [hN]
 simp only [contGo, Nat.reduceAdd]
 by_cases h1 : (l.getD (p + 1) 0).toNat < 128 ∨ 191 < (l.getD (p + 1) 0).toNat
 ·rw [if_pos h1, if_neg (by omega)]
  rfl
 ·rw [if_neg h1]
  by_cases h2 : (l.getD (p + 2) 0).toNat < 128 ∨ 191 < (l.getD (p + 2) 0).toNat
  ·rw [if_pos h2, if_neg (by omega)]
   rfl
  ·rw [if_neg h2]
   by_cases h3 : (l.getD (p + 3) 0).toNat < 128 ∨ 191 < (l.getD (p + 3) 0).toNat
   ·rw [if_pos h3, if_neg (by omega)]
    rfl
   ·rw [if_neg h3]
    simp only [finN]
    split
    ·rw [if_neg (by omega)]
     rfl
    ·rw [if_pos (by omega), szD_good _ _ (by omega)]
theorem size_short (l : List UInt8) (p : Nat) (hp : p < l.length) (h : (194 ≤ l[p].toNat ∧ l[p].toNat ≤ 223 ∧ ¬ p + 1 < l.length) ∨ (224 ≤ l[p].toNat ∧ l[p].toNat ≤ 239 ∧ ¬ p + 2 < l.length) ∨ (240 ≤ l[p].toNat ∧ l[p].toNat ≤ 244 ∧ ¬ p + 3 < l.length)) : sizeAt l p = 0 := by
 have hN := oneAt_N l p
 rw [getD_at l p hp] at hN
 unfold sizeAt
 rcases h with ⟨h, h', h''⟩ | ⟨h, h', h''⟩ | ⟨h, h', h''⟩
 ·rw [hN, dec2 _ _ _ _ _ h h', if_neg (by omega)]
  rfl
 ·rw [hN, dec3 _ _ _ _ _ h h', if_neg (by omega)]
  rfl
 ·rw [hN, dec4 _ _ _ _ _ h h', if_neg (by omega)]
  rfl
theorem size_ascii (l : List UInt8) (p : Nat) (hp : p < l.length) (h : l[p].toNat < 128) : sizeAt l p = 1 := by
 have hN := oneAt_N l p
 rw [getD_at l p hp] at hN
 unfold sizeAt
 rw [hN]
 simp [decodeN, h, szD]
 omega
theorem size_bad (l : List UInt8) (p : Nat) (hp : p < l.length) (h : (128 ≤ l[p].toNat ∧ l[p].toNat < 194) ∨ 244 < l[p].toNat) : sizeAt l p = 0 := by
 have hN := oneAt_N l p
 rw [getD_at l p hp] at hN
 have hb := l[p].toNat_lt
 unfold sizeAt
 rw [hN, decodeN_bad _ _ _ _ _ (by omega)]
 rfl
set_option maxRecDepth 100000 in
set_option maxHeartbeats 1000000 in
theorem size_low (l : List UInt8) (p : Nat) (hp : p < l.length) (h : l[p].toNat < 128) (w : World) :
  Calls Tryz.prog 113 #[.string (bs l), .int .i64 p] w fun e w' => e = .returned (.int .i64 (1 : Nat)) ∧ w = w' := by
 go_enter Tryz.func113, Tryz.ntmps113
 go_wp2
 go_ret
 exact ⟨rfl, rfl⟩
set_option maxRecDepth 100000 in
set_option maxHeartbeats 4000000 in
theorem size_wtwo (l : List UInt8) (p : Nat) (hp : p < l.length) (hs : l.length ≤ 4611686018427387904) (h : 194 ≤ l[p].toNat) (h' : l[p].toNat ≤ 223) (w : World) :
  Calls Tryz.prog 113 #[.string (bs l), .int .i64 p] w fun e w' => e = .returned (.int .i64 (sizeAt l p : Nat)) ∧ w = w' := by
 by_cases hl : p + 1 < l.length
 ·have hf := size_two l p hl h h'
  obtain ⟨R, hR⟩ : ∃ R, sizeAt l p = R := ⟨_, rfl⟩
  rw [hR] at hf ⊢
  clear hR
  have HF := Lib.hid hf
  clear hf
  go_enter Tryz.func113, Tryz.ntmps113
  go_wp2
  go_loop [8, 9] (fun v i => ∃ x k : Nat, v = .int .i64 x ∧ i = .int .i64 k ∧ 1 ≤ k ∧ k ≤ 2 ∧ ((k = 1 ∧ x < 64) ∨ (k = 2 ∧ x < 4096) ∨ (k = 3 ∧ x < 262144) ∨ (k = 4 ∧ x < 16777216)) ∧ finN 2 128 (contGo l p (2 - k) k x) = R) (fun _ i => 2 - (RowKit.intOf i).toNat)
  case atStart => exact ⟨l[p].toNat - 192, 1, by go_num, rfl, by omega, by omega, by omega, HF.out⟩
  case round =>
   obtain ⟨x, k, rfl, rfl, hk1, hk, hx, hr⟩ := hrel
   by_cases hlt : k < 2
   ·have e : 2 - k = (2 - (k + 1)) + 1 := by omega
    rw [e] at hr
    simp only [contGo] at hr
    have hg := getD_at l (p + k) (by omega)
    rw [hg] at hr
    have hb := (l[p + k]'(by omega)).toNat_lt
    have hin : p + k < l.length := by omega
    by_cases hc : l[p + k].toNat < 128 ∨ 191 < l[p + k].toNat
    ·rw [if_pos hc] at hr
     have HR := Lib.hid hr
     clear hr hg e
     rcases hc with hc | hc
     ·go_wp2
      go_ret
      exact ⟨by rw [← HR.out]; rfl, rfl⟩
     ·have hc0 : 128 ≤ l[p + k].toNat := by omega
      go_wp2
      go_ret
      exact ⟨by rw [← HR.out]; rfl, rfl⟩
    ·rw [if_neg hc] at hr
     have HR := Lib.hid hr
     have hc1 : 128 ≤ l[p + k].toNat := by omega
     have hc2 : l[p + k].toNat ≤ 191 := by omega
     clear hr hg e hc
     go_wp2
     go_round
     case rel => exact ⟨64 * x + (l[p + k].toNat - 128), k + 1, by go_num, by go_num, by omega, by omega, by omega, HR.out⟩
     case measure => simp [RowKit.intOf]; omega
   ·have e : k = 2 := by omega
    subst e
    simp only [Nat.sub_self, contGo, finN] at hr
    by_cases hc : x < 128 ∨ 1114111 < x ∨ (55296 ≤ x ∧ x ≤ 57343)
    ·rw [if_pos hc] at hr
     subst hr
     rcases (show (x < 128) ∨ (128 ≤ x ∧ 1114111 < x) ∨ (128 ≤ x ∧ 55296 ≤ x ∧ x ≤ 57343 ∧ x ≤ 1114111) by omega) with c | ⟨c, c'⟩ | ⟨c, c', c'', c3⟩
     all_goals
      clear hc HF hx
      go_wp2
      go_ret
      exact ⟨rfl, rfl⟩
    ·rw [if_neg hc] at hr
     subst hr
     rcases (show (128 ≤ x ∧ x < 55296) ∨ (128 ≤ x ∧ 57343 < x ∧ x ≤ 1114111) by omega) with ⟨c, c'⟩ | ⟨c, c', c''⟩
     all_goals
      clear hc HF hx
      go_wp2
      go_ret
      exact ⟨rfl, rfl⟩
 ·rw [size_short l p hp (by omega)]
  go_enter Tryz.func113, Tryz.ntmps113
  go_wp2
  go_ret
  exact ⟨rfl, rfl⟩
set_option maxRecDepth 100000 in
set_option maxHeartbeats 4000000 in
theorem size_wthree (l : List UInt8) (p : Nat) (hp : p < l.length) (hs : l.length ≤ 4611686018427387904) (h : 224 ≤ l[p].toNat) (h' : l[p].toNat ≤ 239) (w : World) :
  Calls Tryz.prog 113 #[.string (bs l), .int .i64 p] w fun e w' => e = .returned (.int .i64 (sizeAt l p : Nat)) ∧ w = w' := by
 by_cases hl : p + 2 < l.length
 ·have hf := size_three l p hl h h'
  obtain ⟨R, hR⟩ : ∃ R, sizeAt l p = R := ⟨_, rfl⟩
  rw [hR] at hf ⊢
  clear hR
  have HF := Lib.hid hf
  clear hf
  go_enter Tryz.func113, Tryz.ntmps113
  go_wp2
  go_loop [8, 9] (fun v i => ∃ x k : Nat, v = .int .i64 x ∧ i = .int .i64 k ∧ 1 ≤ k ∧ k ≤ 3 ∧ ((k = 1 ∧ x < 64) ∨ (k = 2 ∧ x < 4096) ∨ (k = 3 ∧ x < 262144) ∨ (k = 4 ∧ x < 16777216)) ∧ finN 3 2048 (contGo l p (3 - k) k x) = R) (fun _ i => 3 - (RowKit.intOf i).toNat)
  case atStart => exact ⟨l[p].toNat - 224, 1, by go_num, rfl, by omega, by omega, by omega, HF.out⟩
  case round =>
   obtain ⟨x, k, rfl, rfl, hk1, hk, hx, hr⟩ := hrel
   by_cases hlt : k < 3
   ·have e : 3 - k = (3 - (k + 1)) + 1 := by omega
    rw [e] at hr
    simp only [contGo] at hr
    have hg := getD_at l (p + k) (by omega)
    rw [hg] at hr
    have hb := (l[p + k]'(by omega)).toNat_lt
    have hin : p + k < l.length := by omega
    by_cases hc : l[p + k].toNat < 128 ∨ 191 < l[p + k].toNat
    ·rw [if_pos hc] at hr
     have HR := Lib.hid hr
     clear hr hg e
     rcases hc with hc | hc
     ·go_wp2
      go_ret
      exact ⟨by rw [← HR.out]; rfl, rfl⟩
     ·have hc0 : 128 ≤ l[p + k].toNat := by omega
      go_wp2
      go_ret
      exact ⟨by rw [← HR.out]; rfl, rfl⟩
    ·rw [if_neg hc] at hr
     have HR := Lib.hid hr
     have hc1 : 128 ≤ l[p + k].toNat := by omega
     have hc2 : l[p + k].toNat ≤ 191 := by omega
     clear hr hg e hc
     go_wp2
     go_round
     case rel => exact ⟨64 * x + (l[p + k].toNat - 128), k + 1, by go_num, by go_num, by omega, by omega, by omega, HR.out⟩
     case measure => simp [RowKit.intOf]; omega
   ·have e : k = 3 := by omega
    subst e
    simp only [Nat.sub_self, contGo, finN] at hr
    by_cases hc : x < 2048 ∨ 1114111 < x ∨ (55296 ≤ x ∧ x ≤ 57343)
    ·rw [if_pos hc] at hr
     subst hr
     rcases (show (x < 2048) ∨ (2048 ≤ x ∧ 1114111 < x) ∨ (2048 ≤ x ∧ 55296 ≤ x ∧ x ≤ 57343 ∧ x ≤ 1114111) by omega) with c | ⟨c, c'⟩ | ⟨c, c', c'', c3⟩
     all_goals
      clear hc HF hx
      go_wp2
      go_ret
      exact ⟨rfl, rfl⟩
    ·rw [if_neg hc] at hr
     subst hr
     rcases (show (2048 ≤ x ∧ x < 55296) ∨ (2048 ≤ x ∧ 57343 < x ∧ x ≤ 1114111) by omega) with ⟨c, c'⟩ | ⟨c, c', c''⟩
     all_goals
      clear hc HF hx
      go_wp2
      go_ret
      exact ⟨rfl, rfl⟩
 ·rw [size_short l p hp (by omega)]
  go_enter Tryz.func113, Tryz.ntmps113
  go_wp2
  go_ret
  exact ⟨rfl, rfl⟩
set_option maxRecDepth 100000 in
set_option maxHeartbeats 4000000 in
theorem size_wfour (l : List UInt8) (p : Nat) (hp : p < l.length) (hs : l.length ≤ 4611686018427387904) (h : 240 ≤ l[p].toNat) (h' : l[p].toNat ≤ 244) (w : World) :
  Calls Tryz.prog 113 #[.string (bs l), .int .i64 p] w fun e w' => e = .returned (.int .i64 (sizeAt l p : Nat)) ∧ w = w' := by
 by_cases hl : p + 3 < l.length
 ·have hf := size_four l p hl h h'
  obtain ⟨R, hR⟩ : ∃ R, sizeAt l p = R := ⟨_, rfl⟩
  rw [hR] at hf ⊢
  clear hR
  have HF := Lib.hid hf
  clear hf
  go_enter Tryz.func113, Tryz.ntmps113
  go_wp2
  simp only [show decide (((l[p].toNat : Nat) : Int) ≤ 244) = true from decide_eq_true (by omega)]
  go_loop [8, 9] (fun v i => ∃ x k : Nat, v = .int .i64 x ∧ i = .int .i64 k ∧ 1 ≤ k ∧ k ≤ 4 ∧ ((k = 1 ∧ x < 64) ∨ (k = 2 ∧ x < 4096) ∨ (k = 3 ∧ x < 262144) ∨ (k = 4 ∧ x < 16777216)) ∧ finN 4 65536 (contGo l p (4 - k) k x) = R) (fun _ i => 4 - (RowKit.intOf i).toNat)
  case atStart => exact ⟨l[p].toNat - 240, 1, by go_num, rfl, by omega, by omega, by omega, HF.out⟩
  case round =>
   obtain ⟨x, k, rfl, rfl, hk1, hk, hx, hr⟩ := hrel
   by_cases hlt : k < 4
   ·have e : 4 - k = (4 - (k + 1)) + 1 := by omega
    rw [e] at hr
    simp only [contGo] at hr
    have hg := getD_at l (p + k) (by omega)
    rw [hg] at hr
    have hb := (l[p + k]'(by omega)).toNat_lt
    have hin : p + k < l.length := by omega
    by_cases hc : l[p + k].toNat < 128 ∨ 191 < l[p + k].toNat
    ·rw [if_pos hc] at hr
     have HR := Lib.hid hr
     clear hr hg e
     rcases hc with hc | hc
     ·go_wp2
      go_ret
      exact ⟨by rw [← HR.out]; rfl, rfl⟩
     ·have hc0 : 128 ≤ l[p + k].toNat := by omega
      go_wp2
      go_ret
      exact ⟨by rw [← HR.out]; rfl, rfl⟩
    ·rw [if_neg hc] at hr
     have HR := Lib.hid hr
     have hc1 : 128 ≤ l[p + k].toNat := by omega
     have hc2 : l[p + k].toNat ≤ 191 := by omega
     clear hr hg e hc
     go_wp2
     go_round
     case rel => exact ⟨64 * x + (l[p + k].toNat - 128), k + 1, by go_num, by go_num, by omega, by omega, by omega, HR.out⟩
     case measure => simp [RowKit.intOf]; omega
   ·have e : k = 4 := by omega
    subst e
    simp only [Nat.sub_self, contGo, finN] at hr
    by_cases hc : x < 65536 ∨ 1114111 < x ∨ (55296 ≤ x ∧ x ≤ 57343)
    ·rw [if_pos hc] at hr
     subst hr
     rcases (show (x < 65536) ∨ (65536 ≤ x ∧ 1114111 < x) by omega) with c | ⟨c, c'⟩
     all_goals
      clear hc HF hx
      go_wp2
      go_ret
      exact ⟨rfl, rfl⟩
    ·rw [if_neg hc] at hr
     subst hr
     obtain ⟨c, c', c''⟩ : 65536 ≤ x ∧ 57343 < x ∧ x ≤ 1114111 := by omega
     all_goals
      clear hc HF hx
      go_wp2
      go_ret
      exact ⟨rfl, rfl⟩
 ·rw [size_short l p hp (by omega)]
  go_enter Tryz.func113, Tryz.ntmps113
  go_wp2
  go_ret
  exact ⟨rfl, rfl⟩
set_option maxRecDepth 100000 in
set_option maxHeartbeats 1000000 in
theorem size_wbad (l : List UInt8) (p : Nat) (hp : p < l.length) (h : (128 ≤ l[p].toNat ∧ l[p].toNat < 194) ∨ 244 < l[p].toNat) (w : World) :
  Calls Tryz.prog 113 #[.string (bs l), .int .i64 p] w fun e w' => e = .returned (.int .i64 (0 : Nat)) ∧ w = w' := by
 have hb := l[p].toNat_lt
 rcases h with ⟨h, h'⟩ | h
 all_goals
  go_enter Tryz.func113, Tryz.ntmps113
  go_wp2
  go_ret
  exact ⟨rfl, rfl⟩
theorem size_any (l : List UInt8) (p : Nat) (hp : p < l.length) (hs : l.length ≤ 4611686018427387904) (w : World) :
  Calls Tryz.prog 113 #[.string (bs l), .int .i64 p] w fun e w' => e = .returned (.int .i64 (sizeAt l p : Nat)) ∧ w = w' := by
 by_cases h0 : l[p].toNat < 128
 ·rw [size_ascii l p hp h0]
  exact size_low l p hp h0 w
 ·by_cases h1 : l[p].toNat < 194
  ·rw [size_bad l p hp (.inl ⟨by omega, h1⟩)]
   exact size_wbad l p hp (.inl ⟨by omega, h1⟩) w
  ·by_cases h2 : l[p].toNat ≤ 223
   ·exact size_wtwo l p hp hs (by omega) h2 w
   ·by_cases h3 : l[p].toNat ≤ 239
    ·exact size_wthree l p hp hs (by omega) h3 w
    ·by_cases h4 : l[p].toNat ≤ 244
     ·exact size_wfour l p hp hs (by omega) h4 w
     ·rw [size_bad l p hp (.inr (by omega))]
      exact size_wbad l p hp (.inr (by omega)) w
end Go.Proofs.YthgbfaoblnkniaaGreatDoor

namespace Go.Proofs.YthgbfaoblnkniaaGreatDoor
open Go.Lib
def linesAux : List UInt8 → List UInt8 → List (List UInt8)
 | cur, [] => if cur = [] then [] else [cur]
 | cur, b :: t => if b = 10 then cur :: linesAux [] t else linesAux (cur ++ [b]) t
def linesL (s : List UInt8) : List (List UInt8) := linesAux [] s
def partAux : List UInt8 → List UInt8 → List (List UInt8)
 | cur, [] => [cur]
 | cur, b :: t => if b = 10 then cur :: partAux [] t else partAux (cur ++ [b]) t
theorem index_cons_ne (b : UInt8) (l : List UInt8) (h : b ≠ 10) : index (b :: l) [10] = if index l [10] == -1 then -1 else index l [10] + 1 := by
 have hp : ([10] : List UInt8).isPrefixOf (b :: l) = false := by simp [List.isPrefixOf, Ne.symm h]
 rw [index, hp]
 simp
theorem split_part : ∀ s : List UInt8, ∃ h t, splitK [10] 0 (count s [10]) s = h :: t ∧ ∀ cur, partAux cur s = (cur ++ h) :: t
 | [] => ⟨[], [], by rw [count_miss (by simp [index])]; rfl, fun cur => by simp [partAux]⟩
 | b :: s => by
  obtain ⟨h, t, ih, ic⟩ := split_part s
  by_cases hb : b = 10
  ·subst hb
   have hi : index ((10 : UInt8) :: s) [10] = 0 := by rw [index]; simp [List.isPrefixOf]
   refine ⟨[], h :: t, ?_, fun cur => ?_⟩
   ·rw [count_cons_eq, Nat.add_comm 1]
    unfold splitK
    rw [hi, if_neg (by decide)]
    simp [ih]
   ·have := ic []
    simp only [partAux, if_pos]
    rw [this]
    simp
  ·rw [count_cons_ne b 10 s hb]
   have hx := index_cons_ne b s hb
   cases hk : count s [10] with
   | zero =>
    rw [hk] at ih
    refine ⟨b :: s, [], rfl, fun cur => ?_⟩
    simp only [splitK, List.cons.injEq] at ih
    obtain ⟨rfl, rfl⟩ := ih
    simp only [partAux, if_neg hb, ic]
    simp
   | succ k =>
    rw [hk] at ih
    obtain ⟨i, hi⟩ : ∃ i : Nat, index s [10] = i := by
     rcases index_spec s [10] with ⟨h1, -⟩ | ⟨i, h1, -⟩
     ·rw [count_miss h1] at hk; omega
     ·exact ⟨i, h1⟩
    have hm : ¬ ((i : Int) == -1) = true := fun e => by have := beq_iff_eq.1 e; omega
    rw [hi, if_neg hm] at hx
    have hm' : ¬ ((i : Int) + 1 == -1) = true := fun e => by have := beq_iff_eq.1 e; omega
    have e1 : ((i : Int)).toNat = i := by omega
    have e2 : ((i : Int) + 1).toNat = i + 1 := by omega
    unfold splitK at ih ⊢
    rw [hi, if_neg hm, e1] at ih
    rw [hx, if_neg hm', e2]
    simp only [List.cons.injEq] at ih
    obtain ⟨rfl, rfl⟩ := ih
    refine ⟨b :: List.take i s, splitK [10] 0 k (List.drop (i + 1) s), ?_, fun cur => ?_⟩
    ·simp only [List.length_cons, List.length_nil, Nat.add_zero, Nat.zero_add, List.take_succ_cons, List.drop_succ_cons]
    ·simp only [partAux, if_neg hb, ic]
     simp
theorem split_eq (s : List UInt8) : splitK [10] 0 (count s [10]) s = partAux [] s := by
 obtain ⟨h, t, h1, h2⟩ := split_part s
 rw [h1, h2]
 rfl
theorem lines_fed : ∀ (t cur : List UInt8), linesAux cur (t ++ [10]) = partAux cur t
 | [], cur => by simp [linesAux, partAux]
 | b :: t, cur => by
  simp only [List.cons_append, linesAux, partAux]
  rw [lines_fed t, lines_fed t]
theorem lines_bare : ∀ (s cur : List UInt8), (cur ≠ [] ∨ s ≠ []) → s.getLast? ≠ some 10 → linesAux cur s = partAux cur s
 | [], cur, h, _ => by
  have : cur ≠ [] := by simpa using h
  simp [linesAux, partAux, this]
 | [b], cur, _, hl => by
  have : ¬ b = 10 := by simpa using hl
  simp [linesAux, partAux, this]
 | b :: c :: t, cur, _, hl => by
  have hl' : (c :: t).getLast? ≠ some 10 := by simpa [List.getLast?_cons_cons] using hl
  simp only [linesAux, partAux]
  by_cases hb : b = 10
  ·rw [if_pos hb, if_pos hb]
   exact congrArg _ (lines_bare (c :: t) [] (.inr (by simp)) hl')
  ·rw [if_neg hb, if_neg hb]
   exact lines_bare (c :: t) _ (.inr (by simp)) hl'
theorem snoc_cases (s : List UInt8) : s = [] ∨ ∃ t b, s = t ++ [b] := by
 rcases List.eq_nil_or_concat s with h | ⟨t, b, h⟩
 ·exact .inl h
 ·exact .inr ⟨t, b, by simpa using h⟩
theorem suffix_snoc (t : List UInt8) (b : UInt8) : hasSuffix (t ++ [b]) [10] = decide (b = 10) := by
 unfold hasSuffix
 rw [Bool.eq_iff_iff]
 rw [List.isSuffixOf_iff_suffix]
 simp only [decide_eq_true_eq]
 constructor
 ·rintro ⟨u, hu⟩
  have := List.append_inj_right' hu rfl
  simpa using this.symm
 ·rintro rfl
  exact ⟨t, rfl⟩
theorem split_lines (s : List UInt8) (h : s ≠ []) : partAux [] (trimSuffix s [10]) = linesL s := by
 rcases snoc_cases s with h0 | ⟨t, b, rfl⟩
 ·exact absurd h0 h
 ·unfold trimSuffix linesL
  rw [suffix_snoc]
  by_cases hb : b = 10
  ·subst hb
   simp only [decide_true, if_true]
   rw [lines_fed]
   simp
  ·simp only [hb, decide_false]
   rw [lines_bare _ _ (.inr h) (by simpa using hb)]
   rfl
def resGo (full : List (List UInt8)) : Nat → List (List UInt8) → List (List UInt8) × Nat × Nat
 | _, [] => (full, 0, 0)
 | n, x :: r => if validD x then resGo full (n + 1) r else ([], n + 1, 5)
def ofL (s : List UInt8) : List (List UInt8) × Nat × Nat := if 65536 < s.length then ([], 0, 6) else resGo (linesL s) 0 (linesL s)
def refGo : List (List UInt8) → List UInt8 → List UInt8 → List (List UInt8) × Nat × Nat
 | out, cur, [] => if cur = [] then (out, 0, 0) else if validD cur then (out ++ [cur], 0, 0) else ([], out.length + 1, 5)
 | out, cur, b :: t => if b = 10 then (if validD cur then refGo (out ++ [cur]) [] t else ([], out.length + 1, 5)) else refGo out (cur ++ [b]) t
theorem ref_res : ∀ (t cur : List UInt8) (out : List (List UInt8)), refGo out cur t = resGo (out ++ linesAux cur t) out.length (linesAux cur t)
 | [], cur, out => by
  unfold refGo linesAux
  by_cases h : cur = []
  ·simp [h, resGo]
  ·rw [if_neg h, if_neg h]
   simp only [resGo]
 | b :: t, cur, out => by
  unfold refGo linesAux
  by_cases h : b = 10
  ·rw [if_pos h, if_pos h]
   simp only [resGo]
   by_cases hv : validD cur = true
   ·rw [if_pos hv, if_pos hv, ref_res t [] (out ++ [cur])]
    simp
   ·rw [if_neg hv, if_neg hv]
  ·rw [if_neg h, if_neg h]
   exact ref_res t _ out
theorem ref_of (s : List UInt8) : refGo [] [] s = resGo (linesL s) 0 (linesL s) := ref_res s [] []
theorem resGo_full (full : List (List UInt8)) : ∀ (n : Nat) (r : List (List UInt8)), (resGo full n r).2.2 = 0 → (resGo full n r).1 = full ∧ (resGo full n r).2.1 = 0
 | _, [], _ => ⟨rfl, rfl⟩
 | n, x :: r, h => by
  unfold resGo at h ⊢
  split at h
  ·rename_i hv
   rw [if_pos hv]
   exact resGo_full full (n + 1) r h
  ·simp at h
theorem resGo_bad (full : List (List UInt8)) : ∀ (n : Nat) (r : List (List UInt8)), (resGo full n r).2.2 ≠ 0 → (resGo full n r).1 = [] ∧ (resGo full n r).2.2 = 5
 | _, [], h => absurd rfl h
 | n, x :: r, h => by
  unfold resGo at h ⊢
  split at h
  ·rename_i hv
   rw [if_pos hv]
   exact resGo_bad full (n + 1) r h
  ·rename_i hv
   rw [if_neg hv]
   exact ⟨rfl, rfl⟩
theorem lines_len : ∀ (t cur : List UInt8), (linesAux cur t).length ≤ t.length + 1
 | [], cur => by
  unfold linesAux
  split <;> simp
 | b :: t, cur => by
  unfold linesAux
  split
  ·have := lines_len t []
   simp only [List.length_cons]; omega
  ·have := lines_len t (cur ++ [b])
   simp only [List.length_cons]; omega
def feedL (L : List (List UInt8)) : List UInt8 := L.flatMap fun l => l ++ [10]
def runesN (l : List UInt8) : Nat × Bool := if validD l then ((runesU l).length, true) else (0, false)
def runesFrom (l : List UInt8) (p n : Nat) : Nat × Bool := if validD (l.drop p) then (n + (runesU (l.drop p)).length, true) else (0, false)
theorem runesFrom_start (l : List UInt8) : runesFrom l 0 0 = runesN l := by simp [runesFrom, runesN]
theorem runesFrom_end (l : List UInt8) (p n : Nat) (h : l.length ≤ p) : runesFrom l p n = (n, true) := by
 unfold runesFrom
 rw [List.drop_eq_nil_of_le h]
 rfl
theorem one_bounds (l : List UInt8) (p : Nat) (hp : p < l.length) : 1 ≤ (oneAt l p).2 ∧ p + (oneAt l p).2 ≤ l.length := by
 have hne : l.drop p ≠ [] := by
  intro e
  have := congrArg List.length e
  simp at this
  omega
 have hw := decodeL_le' (l.drop p) hne
 rw [List.length_drop] at hw
 exact ⟨hw.1, by unfold oneAt; omega⟩
theorem runesFrom_step (l : List UInt8) (p n : Nat) (hp : p < l.length) :
  runesFrom l p n = if sizeAt l p = 0 then (0, false) else runesFrom l (p + (oneAt l p).2) (n + 1) := by
 have hne : l.drop p ≠ [] := by
  intro e
  have := congrArg List.length e
  simp at this
  omega
 have hw := one_bounds l p hp
 unfold runesFrom
 rw [validD_step _ hne, runesU_step _ hne, List.drop_drop]
 have e : sizeAt l p = szD (decodeL (l.drop p)) := rfl
 have eo : oneAt l p = decodeL (l.drop p) := rfl
 rw [e, eo]
 rw [eo] at hw
 unfold szD
 by_cases h : (decodeL (l.drop p)).1 = 65533 ∧ (decodeL (l.drop p)).2 = 1
 ·rw [if_pos h, if_pos h, if_pos rfl]
  rfl
 ·rw [if_neg h, if_neg h, if_neg (show ¬ (decodeL (l.drop p)).2 = 0 by omega)]
  simp only [List.length_cons]
  split
  ·refine Prod.ext ?_ rfl
   simp only
   omega
  ·rfl
theorem sizeAt_good (l : List UInt8) (p : Nat) (h : sizeAt l p ≠ 0) : sizeAt l p = (oneAt l p).2 := by
 unfold sizeAt szD at h ⊢
 split at h
 ·exact absurd rfl h
 ·rename_i hc
  rw [if_neg hc]
theorem mark_width (l : List UInt8) (p : Nat) (hp : p < l.length) (h : (oneAt l p).1 = 65533) : hasPrefix (l.drop p) [239, 191, 189] = !decide (sizeAt l p = 0) := by
 have hne : l.drop p ≠ [] := by
  intro e
  have := congrArg List.length e
  simp at this
  omega
 have e : sizeAt l p = szD (decodeL (l.drop p)) := rfl
 have eo : oneAt l p = decodeL (l.drop p) := rfl
 have hw := one_bounds l p hp
 rw [eo] at h hw
 rw [e]
 have hr : encodeRune (65533 : Int) = [239, 191, 189] := by decide +kernel
 unfold hasPrefix szD
 by_cases h1 : (decodeL (l.drop p)).2 = 1
 ·rw [if_pos ⟨h, h1⟩]
  simp only [decide_true, Bool.not_true]
  by_cases hx : ([239, 191, 189] : List UInt8).isPrefixOf (l.drop p) = true
  ·obtain ⟨t, ht⟩ := List.isPrefixOf_iff_prefix.1 hx
   have := decode_encode 65533 (.inr ⟨by decide, by decide⟩) t
   rw [show ((65533 : Nat) : Int) = 65533 from rfl, hr, ht] at this
   rw [this] at h1
   simp at h1
  ·exact Bool.eq_false_iff.2 hx
 ·rw [if_neg (fun x => h1 x.2)]
  have hd : decide ((decodeL (l.drop p)).2 = 0) = false := decide_eq_false (by omega)
  rw [hd]
  simp only [Bool.not_false]
  have := encode_decode (l.drop p) hne (fun x => h1 x.2)
  rw [h, show ((65533 : Nat) : Int) = 65533 from rfl, hr] at this
  exact List.isPrefixOf_iff_prefix.2 ⟨(l.drop p).drop (decodeL (l.drop p)).2, by rw [this, List.take_append_drop]⟩
end Go.Proofs.YthgbfaoblnkniaaGreatDoor

namespace Go.Proofs
open Go.Shelf
def Tryz.laysHasPrefix_ren : Go.Shelf.Ren := ⟨fun | 99 => 105 | 206 => 126 | n => n, fun | 9 => 9 | 4 => 4 | 3 => 3 | n => n, fun | n => n⟩
theorem Tryz.laysHasPrefix : Go.Proofs.Lays.n99 Tryz.prog Tryz.laysHasPrefix_ren := {
 mixed := by kernel_rfl
 f99 := Tryz.func105.trans (congrArg some (by kernel_rfl))
 f206 := Tryz.func126.trans (congrArg some (by kernel_rfl))
 t3 := Tryz.underlying3
 a3 := Tryz.isAgg3
 z3 := Tryz.sizeOf3
 v3 := Tryz.zeroValue3
 t4 := Tryz.underlying4
 a4 := Tryz.isAgg4
 z4 := Tryz.sizeOf4
 v4 := Tryz.zeroValue4
 t9 := Tryz.underlying9
 a9 := Tryz.isAgg9
 z9 := Tryz.sizeOf9
 v9 := Tryz.zeroValue9 }
def Tryz.laysTrimSuffix_ren : Go.Shelf.Ren := ⟨fun | 102 => 76 | 209 => 104 | 207 => 125 | n => n, fun | 9 => 9 | 4 => 4 | 3 => 3 | n => n, fun | n => n⟩
theorem Tryz.laysTrimSuffix : Go.Proofs.Lays.n102 Tryz.prog Tryz.laysTrimSuffix_ren := {
 mixed := by kernel_rfl
 f102 := Tryz.func76.trans (congrArg some (by kernel_rfl))
 f207 := Tryz.func125.trans (congrArg some (by kernel_rfl))
 f209 := Tryz.func104.trans (congrArg some (by kernel_rfl))
 t3 := Tryz.underlying3
 a3 := Tryz.isAgg3
 z3 := Tryz.sizeOf3
 v3 := Tryz.zeroValue3
 t4 := Tryz.underlying4
 a4 := Tryz.isAgg4
 z4 := Tryz.sizeOf4
 v4 := Tryz.zeroValue4
 t9 := Tryz.underlying9
 a9 := Tryz.isAgg9
 z9 := Tryz.sizeOf9
 v9 := Tryz.zeroValue9 }
def Tryz.laysSplit_ren : Go.Shelf.Ren := ⟨fun | 146 => 75 | 221 => 103 | 268 => 122 | 138 => 123 | 143 => 124 | 195 => 134 | 197 => 135 | 218 => 136 | 219 => 137 | 260 => 144 | 217 => 145 | 225 => 146 | 224 => 147 | 267 => 148 | 266 => 161 | 314 => 162 | n => n, fun | 9 => 9 | 31 => 22 | 3 => 3 | 4 => 4 | 0 => 0 | 105 => 182 | 21 => 21 | 5 => 5 | 46 => 173 | 119 => 169 | 139 => 172 | 138 => 171 | 146 => 201 | 51 => 199 | n => n, fun | 1 => 3 | 3 => 1 | 4 => 2 | n => n⟩
theorem Tryz.laysSplit : Go.Proofs.LaysM.n146 Tryz.prog Tryz.laysSplit_ren := {
 mixed := by kernel_rfl
 f138 := Tryz.func123.trans (congrArg some (by kernel_rfl))
 f143 := Tryz.func124.trans (congrArg some (by kernel_rfl))
 f146 := Tryz.func75.trans (congrArg some (by kernel_rfl))
 f195 := Tryz.func134.trans (congrArg some (by kernel_rfl))
 f197 := Tryz.func135.trans (congrArg some (by kernel_rfl))
 f217 := Tryz.func145.trans (congrArg some (by kernel_rfl))
 f218 := Tryz.func136.trans (congrArg some (by kernel_rfl))
 f219 := Tryz.func137.trans (congrArg some (by kernel_rfl))
 f221 := Tryz.func103.trans (congrArg some (by kernel_rfl))
 f224 := Tryz.func147.trans (congrArg some (by kernel_rfl))
 f225 := Tryz.func146.trans (congrArg some (by kernel_rfl))
 f260 := Tryz.func144.trans (congrArg some (by kernel_rfl))
 f266 := Tryz.func161.trans (congrArg some (by kernel_rfl))
 f267 := Tryz.func148.trans (congrArg some (by kernel_rfl))
 f268 := Tryz.func122.trans (congrArg some (by kernel_rfl))
 f314 := Tryz.func162.trans (congrArg some (by kernel_rfl))
 t0 := Tryz.underlying0
 a0 := Tryz.isAgg0
 z0 := Tryz.sizeOf0
 v0 := Tryz.zeroValue0
 t3 := Tryz.underlying3
 a3 := Tryz.isAgg3
 z3 := Tryz.sizeOf3
 v3 := Tryz.zeroValue3
 t4 := Tryz.underlying4
 a4 := Tryz.isAgg4
 z4 := Tryz.sizeOf4
 v4 := Tryz.zeroValue4
 t5 := Tryz.underlying5
 a5 := Tryz.isAgg5
 z5 := Tryz.sizeOf5
 v5 := Tryz.zeroValue5
 t9 := Tryz.underlying9
 a9 := Tryz.isAgg9
 z9 := Tryz.sizeOf9
 v9 := Tryz.zeroValue9
 t21 := Tryz.underlying21
 a21 := Tryz.isAgg21
 z21 := Tryz.sizeOf21
 v21 := Tryz.zeroValue21
 t31 := Tryz.underlying22
 a31 := Tryz.isAgg22
 z31 := Tryz.sizeOf22
 v31 := Tryz.zeroValue22
 t46 := Tryz.underlying173
 a46 := Tryz.isAgg173
 z46 := Tryz.sizeOf173
 v46 := Tryz.zeroValue173
 t51 := Tryz.underlying199
 a51 := Tryz.isAgg199
 z51 := Tryz.sizeOf199
 v51 := Tryz.zeroValue199
 t105 := Tryz.underlying182
 a105 := Tryz.isAgg182
 z105 := Tryz.sizeOf182
 v105 := Tryz.zeroValue182
 t119 := Tryz.underlying169
 a119 := Tryz.isAgg169
 z119 := Tryz.sizeOf169
 t138 := Tryz.underlying171
 a138 := Tryz.isAgg171
 z138 := Tryz.sizeOf171
 v138 := Tryz.zeroValue171
 t139 := Tryz.underlying172
 a139 := Tryz.isAgg172
 z139 := Tryz.sizeOf172
 v139 := Tryz.zeroValue172
 t146 := Tryz.underlying201
 a146 := Tryz.isAgg201
 z146 := Tryz.sizeOf201
 v146 := Tryz.zeroValue201
 g1 := by kernel_rfl
 g3 := by kernel_rfl
 g4 := by kernel_rfl
 i0 := by kernel_rfl
 i3 := by kernel_rfl
 i4 := by kernel_rfl
 i5 := by kernel_rfl
 i9 := by kernel_rfl
 i21 := by kernel_rfl
 i31 := by kernel_rfl
 i46 := by kernel_rfl
 i51 := by kernel_rfl
 i105 := by kernel_rfl
 i138 := by kernel_rfl
 i139 := by kernel_rfl
 i146 := by kernel_rfl
 m1 := by kernel_rfl
 s1_3 := fun w h => Go.Proofs.cell_of_shapedOpen_int (zero := #[.int .i64 0]) (t := 3) h (of_decide_eq_true (by kernel_rfl)) (by kernel_rfl) rfl (by kernel_rfl) (by kernel_rfl) Tryz.underlying3
 m3 := by kernel_rfl
 m4 := by kernel_rfl }
end Go.Proofs

namespace Go.Proofs.YthgbfaoblnkniaaGreatDoor
open Go.RowKit Go.Lib
theorem lnext_at (l : List UInt8) (p : Nat) (hp : p < l.length) (w : World) (ty : TypeId) :
  (Instr.next (.pointer (some ⟨w.heap.size, 0, none⟩)) true ty).run Tryz.prog (w.iter (bs l) p) = .ok (.tuple #[.bool true, .int .i64 p, .int .i32 ((oneAt l p).1 : Nat)]) (w.iter (bs l) (p + (oneAt l p).2)) := by
 have h := run_next_any (P := Tryz.prog) w (bs l) p ty (by rw [bs_size]; exact hp)
 rw [← decodeL_drop] at h
 have e : (bs l).data.toList = l := by simp [bs]
 rw [e] at h
 exact h
theorem liter_below (w : World) (s : ByteArray) (p : Nat) : Below w.heap.size w (w.iter s p) := (Below.refl _ _).alloc (Nat.le_refl _) _
theorem hasprefix_any (l p : List UInt8) (w : World) :
  Calls Tryz.prog 105 #[.string (bs l), .string (bs p)] w fun e w' => e = .returned (.bool (hasPrefix l p)) ∧ w = w' := by
 have h := Any.strings_HasPrefix Tryz.laysHasPrefix (bs l) (bs p) w
 have e : ∀ l, (bs l).data.toList = l := fun l => by simp [bs]
 rw [e, e] at h
 exact h.mono fun _ _ ⟨a, b⟩ => ⟨a, b.symm⟩
set_option maxRecDepth 100000 in
set_option maxHeartbeats 1000000 in
theorem rrunes_any (l : List UInt8) (hs : l.length ≤ 1000000) (w : World) :
  Calls Tryz.prog 84 #[.string (bs l)] w fun e w' => e = .returned (.tuple #[.int .i64 ((runesN l).1 : Nat), .bool (runesN l).2]) ∧ w = w' := by
 obtain ⟨R, hR⟩ : ∃ R, runesN l = R := ⟨_, rfl⟩
 rw [hR]
 have HR := Lib.hid ((runesFrom_start l).trans hR)
 clear hR
 go_enter Tryz.func84, Tryz.ntmps84
 go_wp2
 go_loop [4, 5] (fun n i => ∃ p k : Nat, p ≤ l.length ∧ k ≤ p ∧ i = .int .i64 p ∧ n = .int .i64 k ∧ runesFrom l p k = R) (fun _ i => l.length - (RowKit.intOf i).toNat)
 case atStart => exact ⟨0, 0, Nat.zero_le _, Nat.le_refl _, rfl, rfl, HR.out⟩
 case round =>
  obtain ⟨p, k, hp, hk, rfl, rfl, hr⟩ := hrel
  by_cases hlt : p < l.length
  ·have hb := one_bounds l p hlt
   rw [runesFrom_step l p k hlt] at hr
   have HC := Lib.hid (size_any l p hlt (by omega))
   have hg := sizeAt_good l p
   obtain ⟨D, hD⟩ : ∃ D, sizeAt l p = D := ⟨_, rfl⟩
   obtain ⟨e, he⟩ : ∃ e, (oneAt l p).2 = e := ⟨_, rfl⟩
   rw [hD] at HC hr hg
   rw [he] at hr hg hb
   clear hD he
   by_cases h0 : D = 0
   ·rw [if_pos h0] at hr
    have HS := Lib.hid hr
    subst h0
    clear hr hg
    go_wp2_with fail
    refine (HC.out _).mono ?_
    rintro e w1 ⟨rfl, rfl⟩
    go_wp2_with fail
    go_ret2
    rw [← HS.out]
    exact ⟨rfl, rfl⟩
   ·rw [if_neg h0] at hr
    have HS := Lib.hid hr
    have hde := hg h0
    subst hde
    have h1 : ((D : Int) == 0) = false := by simp; omega
    clear hr hg h0
    go_wp2_with fail
    refine (HC.out _).mono ?_
    rintro e w1 ⟨rfl, rfl⟩
    go_wp2_with fail
    go_round
    case rel => exact ⟨p + D, k + 1, hb.2, by omega, by go_num, by go_num, HS.out⟩
    case measure => simp [RowKit.intOf]; omega
  ·rw [runesFrom_end l p k (by omega)] at hr
   have HS := Lib.hid hr
   clear hr
   go_wp2
   go_ret2
   rw [← HS.out]
   exact ⟨rfl, rfl⟩
set_option maxRecDepth 100000 in
set_option maxHeartbeats 2000000 in
theorem lrunes_any (l : List UInt8) (hs : l.length ≤ 1000000) (w : World) :
  Calls Tryz.prog 77 #[.string (bs l)] w fun e w' => e = .returned (.tuple #[.int .i64 ((runesN l).1 : Nat), .bool (runesN l).2]) ∧ Below w.heap.size w w' := by
 obtain ⟨R, hR⟩ : ∃ R, runesN l = R := ⟨_, rfl⟩
 rw [hR]
 have HR := Lib.hid ((runesFrom_start l).trans hR)
 clear hR
 go_enter Tryz.func77, Tryz.ntmps77
 go_wp2
 go_loopw [4] (fun i wr => ∃ p k : Nat, p ≤ l.length ∧ k ≤ p ∧ i = .int .i64 k ∧ wr = w.iter (bs l) p ∧ runesFrom l p k = R)
  (fun _ wr => l.length - wr.iterPos w.heap.size)
 case atStart => exact ⟨0, 0, Nat.zero_le _, Nat.le_refl _, rfl, rfl, HR.out⟩
 case round =>
  obtain ⟨p, k, hp, hk, rfl, rfl, hr⟩ := hrel
  by_cases hlt : p < l.length
  ·have hb := one_bounds l p hlt
   rw [runesFrom_step l p k hlt] at hr
   have hnx := lnext_at l p hlt w
   have hm := mark_width l p hlt
   have hg := sizeAt_good l p
   have HP := Lib.hid (hasprefix_any ((l.drop p).take (l.length - p)) [239, 191, 189])
   rw [show hasPrefix ((l.drop p).take (l.length - p)) [239, 191, 189] = hasPrefix (l.drop p) [239, 191, 189] by rw [List.take_of_length_le (by rw [List.length_drop]; omega)]] at HP
   have hz : (oneAt l p).1 ≠ 65533 → sizeAt l p ≠ 0 := fun h => by
    unfold sizeAt szD
    rw [if_neg (fun x => h x.1)]
    omega
   have hle : (oneAt l p).1 ≤ 1114111 := decodeL_rune _
   obtain ⟨S, hS⟩ : ∃ S, sizeAt l p = S := ⟨_, rfl⟩
   obtain ⟨D, hD⟩ : ∃ D, oneAt l p = D := ⟨_, rfl⟩
   rw [hS] at hm hg hr hz
   rw [hD] at hm hg hr hb hnx hz hle
   clear hS hD
   have HR2 := Lib.hid hr
   clear hr
   by_cases h3 : D.1 = 65533
   ·have hp3 := hm h3
    rw [hp3] at HP
    have e1 : ((D.1 : Int) == 65533) = true := by simp [h3]
    clear hp3 hm hz
    by_cases h0 : S = 0
    ·have HS := HR2.out
     rw [if_pos h0] at HS
     have HS2 := Lib.hid HS
     subst h0
     clear HS h3
     simp only [decide_true, Bool.not_true] at HP
     go_wp2_with fail
     refine (HP.out _).mono ?_
     rintro e w1 ⟨rfl, rfl⟩
     go_wp2_with fail
     go_ret2
     rw [← HS2.out]
     exact ⟨rfl, liter_below _ _ _⟩
    ·have HS := HR2.out
     rw [if_neg h0] at HS
     have HS2 := Lib.hid HS
     have hd : decide (S = 0) = false := decide_eq_false h0
     rw [hd] at HP
     clear HS h3 h0 hd
     simp only [Bool.not_false] at HP
     go_wp2_with fail
     refine (HP.out _).mono ?_
     rintro e w1 ⟨rfl, rfl⟩
     go_wp2_with fail
     go_roundw
     case rel => exact ⟨p + D.2, k + 1, hb.2, by omega, by go_num, rfl, HS2.out⟩
     case measure => simp; omega
   ·have HS := HR2.out
    rw [if_neg (hz h3)] at HS
    have HS2 := Lib.hid HS
    have e1 : ((D.1 : Int) == 65533) = false := by simp; omega
    clear HS hm hz hg h3
    go_wp2_with fail
    go_roundw
    case rel => exact ⟨p + D.2, k + 1, hb.2, by omega, by go_num, rfl, HS2.out⟩
    case measure => simp; omega
  ·have hnx := fun ty => run_next_end (P := Tryz.prog) w (bs l) p ty (by rw [bs_size]; exact hlt)
   rw [runesFrom_end l p k (by omega)] at hr
   have HS := Lib.hid hr
   clear hr
   go_wp2_with fail
   go_ret2
   rw [← HS.out]
   exact ⟨rfl, liter_below _ _ _⟩
end Go.Proofs.YthgbfaoblnkniaaGreatDoor
