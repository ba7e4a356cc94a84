/-
  The walks of layer 6 (split): a line's words, in the program. No conditions but that internal/bytealg.MaxLen holds a number.
  The walks of Parse, of package digit and of its reference: a text's number, or the error. Texts of at most 2^62 bytes (every readable text is shorter).
  Layer 3 (digit): what reading a text gives, at a known answer; how great it may be. Texts of at most 2^63 - 2 bytes.
  The walks of layer 5 (value): May, Print, Parse, Less, of the package and of its reference; each leaves all memory that was there as it was. Texts of at most 2^63 - 2 bytes.
  Layer 7 (event) in plain words: which events may be, their lines, what a line is read as; that reading undoes printing, and that what is read may be; no program in sight. No conditions.
  Layer 8 (log) in plain words: what a text is read as, a log's text, how many events are of a kind; that reading undoes printing; no program in sight. No conditions.
  Layer 10 (pair) in plain words: what events make, transaction by transaction; the history of events, the open sessions; no program in sight. No conditions.
  Layer 12 (show) in plain words: a history's events, its text, the history of a text; that reading undoes printing; no program in sight. No conditions.
  The walks of layer 7 (event): the kind of a first word, whether events of a kind are long; the reference's list of words. Condition: event.words holds what its initialiser lays.
  Slices of events: what one holds; a row of the call's own as one. No conditions.
  Layer 14 (erase) in plain words: a history without its lost reads, where an operation stands then; that it may be, has none, and stays so; no program in sight. No conditions.
  Whether two operations, transactions, histories are the same can be told. No conditions.
-/
import Derived.Test.YtdfegfagedeilaaGreatDoorXLb
import Derived.Laws.IdiomStrings
import Derived.Ground.SlsfProg
import Derived.Shelf.SlLaysF
import Derived.Shelf.SlLaysF0
import Derived.Shelf.SlSortCmp.NoneTotal
import Derived.Shelf.Slices.CompactS
import Derived.Lib.RowBridge
import Derived.OwnWalk
import Derived.SliceStrings
import Derived.Lib.SliceRun
import Derived.Laws.OwnMore
import Derived.RangeFuncNested
import Derived.RangeFuncBound
import Derived.RangeFuncCalls
import Derived.RangeFuncLeaves
import Derived.Shelf.Abstract
import Derived.Shelf.RegionOpen
import Derived.OwnWalkIn
import Derived.TacticsInMore
import Derived.LoopNIn
import Derived.LoopIn
import Derived.Maps.OwnIn
import Derived.Maps.OwnSet
import Derived.Maps.Views
import Derived.RangeFuncBox
import Derived.Maps.AppendAt
import Derived.WalkArith
import Derived.Outline
namespace Go.Proofs.YtdfegfagedeilaaGreatDoor
section
open Go.RowKit Go.Lib
def pZ (W : List (List UInt8 × Nat)) : List Value := W.flatMap fun x => [.string (bs x.1), .int .i64 (x.2 : Int)]
theorem aAb (W : List (List UInt8 × Nat)) (x : List UInt8) (n : Nat) : pZ W ++ [.string (bs x), .int .i64 ((n : Int) + 1)] = pZ (W ++ [(x, n + 1)]) := by simp [pZ]
theorem zK : ∀ (W : List (List UInt8 × Nat)) (j : Nat), j < W.length → (pZ W)[j * 2]? = some (.string (bs (W.getD j ([], 0)).1)) ∧ (pZ W)[j * 2 + 1]? = some (.int .i64 ((W.getD j ([], 0)).2 : Nat))
 | [], j, h => absurd h (Nat.not_lt_zero j)
 | x :: W, 0, _ => ⟨rfl, rfl⟩
 | x :: W, j + 1, h => by
  have := zK W j (by simpa using h);have e : pZ (x :: W) = .string (bs x.1) :: .int .i64 (x.2 : Int) :: pZ W := (by simp [pZ]);rw [e, show (j + 1) * 2 = j * 2 + 1 + 1 by omega];simpa using this
def bNm (w : World) (p : Option Addr) (W : List (List UInt8 × Nat)) : Prop :=
 ∀ j, j < W.length → ∃ g, p = some ⟨g, 0, none⟩ ∧ w.cell? ⟨g, j * 2, none⟩ = some (.string (bs (W.getD j ([], 0)).1)) ∧ w.cell? ⟨g, j * 2 + 1, none⟩ = some (.int .i64 ((W.getD j ([], 0)).2 : Nat))
theorem bNm.below {w w' : World} {p : Option Addr} {W : List (List UInt8 × Nat)} (h : bNm w p W) (hb : Below w.heap.size w w') : bNm w' p W := fun j hj => by
 obtain ⟨g, hp, hc, hd⟩ := h j hj;exact ⟨g, hp, cell_later hb hc, cell_later hb hd⟩
def aUn (w : World) (v : Value) (W : List (List UInt8 × Nat)) : Prop := ∃ p cap, v = .slice p W.length cap ∧ bNm w p W ∧ W.length ≤ cap ∧ cap ≤ maxLen
theorem bNl (w : World) : aUn w (.slice none 0 0) [] := ⟨none, 0, rfl, fun j hj => absurd hj (Nat.not_lt_zero j), Nat.le_refl _, Nat.zero_le _⟩
theorem aIl {w : World} {B : Nat} {e : TypeId} {v : Value} {W : List (List UInt8 × Nat)} (h : w.ownsRow B e 2 v W.length (pZ W)) : aUn w v W := by
 obtain ⟨-, ⟨h0, hn⟩ | ⟨g, cap, cur, hv, -, hw, hnc, hcm, -, ht⟩⟩ := h
 ·have : W = [] := List.eq_nil_of_length_eq_zero hn;subst this h0;exact bNl w
 ·refine ⟨_, cap, hv, fun j hj => ⟨g, rfl, ?_, ?_⟩, hnc, hcm⟩
  ·have h1 := congrArg (fun x : List Value => x[j * 2]?) ht;simp only [List.getElem?_take, show j * 2 < W.length * 2 by omega, if_true, Array.getElem?_toList] at h1;rw [cell_of_row w g (j * 2) _ _ (0, 0) hw, h1];exact (zK W j hj).1
  ·have h1 := congrArg (fun x : List Value => x[j * 2 + 1]?) ht;simp only [List.getElem?_take, show j * 2 + 1 < W.length * 2 by omega, if_true, Array.getElem?_toList] at h1;rw [cell_of_row w g (j * 2 + 1) _ _ (0, 0) hw, h1];exact (zK W j hj).2
theorem aXq : (Tryz.prog.info? 157).map (fun i => (i.zero, i.size, i.bytes)) = some (some (.agg #[.string ByteArray.empty, .int .i64 0]), 2, 24) := by kernel_rfl
theorem aTk (c : Nat) (w : World) :
  Calls Tryz.prog 133 #[.int .i32 c] w fun e w' => e = .returned (.bool (mO c)) ∧ w = w' := by
 go_enter Tryz.func133, Tryz.ntmps133
 go_wp2
 all_goals
  go_ret;refine ⟨?_, rfl⟩;unfold mO;refine congrArg (fun b => Ending.returned (Value.bool b)) ?_;rw [Bool.eq_iff_iff];simp;try omega
def aAx (s : List UInt8) : Bool := decide (0 ≤ index s [10])
theorem aJs (l : List UInt8) (hs : l.length ≤ 1000000) (w : World) (hm : HasMax w) :
  Calls Tryz.prog 131 #[.string (bs l), .string (bs [10])] w fun e w' => e = .returned (.bool (aAx l)) ∧ w = w' := by
 obtain ⟨m, hm⟩ := hm;have h := Any.strings_Contains Tryz.laysContains (bs l) (bs [10]) m w (by rw [gG]; omega) hm;rw [uM, uM] at h;exact h.mono fun _ _ ⟨a, b⟩ => ⟨a, b.symm⟩
theorem aRm (b : UInt8) (l : List UInt8) (h : b ≠ 35) : index (b :: l) [35] = if index l [35] == -1 then -1 else index l [35] + 1 := by
 have hp : ([35] : List UInt8).isPrefixOf (b :: l) = false := (by simp [List.isPrefixOf, Ne.symm h]);rw [index, hp];simp
theorem aUv : ∀ l : List UInt8, (index l [35] = -1 ∧ dD l = l) ∨ (index l [35] = (dD l).length ∧ (dD l).length < l.length)
 | [] => .inl ⟨by simp [index], rfl⟩
 | b :: t => by
  by_cases hb : b = 35
  ·subst hb
   right
   have hi : index ((35 : UInt8) :: t) [35] = 0 := (by rw [index]; simp [List.isPrefixOf]);rw [hi];simp [dD]
  ·have e : dD (b :: t) = b :: dD t := (by simp [dD, hb]);rw [aRm b t hb, e];rcases aUv t with ⟨h1, h2⟩ | ⟨h1, h2⟩
   ·left
    rw [h1, h2];exact ⟨rfl, rfl⟩
   ·right
    have hm' : ¬ (((dD t).length : Int) == -1) = true := fun e => (by have := beq_iff_eq.1 e; omega);rw [h1, if_neg hm'];simp only [List.length_cons];omega
theorem aQg (l : List UInt8) : dD l = l.take (dD l).length := by
 rcases xZ l with h | ⟨y, h⟩
 ·rw [h, List.take_length]
 ·have e := congrArg (List.take (dD l).length) h;rw [List.take_left] at e;exact e.symm
theorem bHb (l : List UInt8) (hs : l.length ≤ 1000000) (w : World) (hm : HasMax w) :
  Calls Tryz.prog 132 #[.string (bs l), .string (bs [35])] w fun e w' => e = .returned (.tuple #[.string (bs (dD l)), .string (bs (l.drop ((dD l).length + 1))), .bool (decide ((dD l).length < l.length))]) ∧ ∃ n, w' = w.drewN n := by
 obtain ⟨m, hm⟩ := hm;have h := Any.strings_Cut Tryz.laysCut (bs l) (bs [35]) m w (by rw [gG]; omega) hm;rw [uM, uM] at h
 have e : cut l [35] = (dD l, l.drop ((dD l).length + 1), decide ((dD l).length < l.length)) := by
  unfold cut;rcases aUv l with ⟨h1, h2⟩ | ⟨h1, h2⟩
  ·rw [h1, h2, if_neg (by decide), List.drop_eq_nil_of_le (by omega), decide_eq_false (Nat.lt_irrefl _)]
  ·rw [h1, if_pos (by omega), show ((dD l).length : Int).toNat = (dD l).length by omega, ← aQg, decide_eq_true h2];rfl
 rw [e] at h;exact h
def frV : Option Nat → Value
 | some f => .int .i64 (f : Int)
 | none => .int .i64 (-1)
def jJ (s : List UInt8) : List (List UInt8 × Nat) × Nat := if validD s && !aAx s then (aFw (dD s), 0) else ([], 5)
def bGt (t : List UInt8) (w wr : World) (k0 : Nat) (v fr fi n : Value) (R : List (Nat × Nat)) : Prop :=
 ∃ p k : Nat, ∃ st : Option Nat, ∃ done : List (Nat × Nat), p ≤ t.length ∧ k ≤ p ∧ n = .int .i64 k ∧ fr = frV st ∧ (∀ f, st = some f → f ≤ p ∧ fi = .int .i64 ((yD t 0 f + 1 : Nat) : Int)) ∧
  wr.ownsRow (k0 + 1) 157 2 v done.length (pZ (done.map (aFv t))) ∧ wr.heap[k0]? = some (.stringIter (bs t) p) ∧ Below w.heap.size w wr ∧ k0 < wr.heap.size ∧
  wW t p k ∧ R = done ++ jV t (t.length - p) p st ∧ done.length ≤ p
set_option maxRecDepth 100000 in
set_option maxHeartbeats 2000000 in
theorem aTu (s : List UInt8) (hs : s.length ≤ 1000000) (w : World) (hm : HasMax w) :
  Calls Tryz.prog 109 #[.string (bs s)] w fun e w' => ∃ v, e = .returned (.tuple #[v, .int .i64 ((jJ s).2 : Nat)]) ∧ aUn w' v (jJ s).1 ∧ Below w.heap.size w w' := by
 have HC := lhid (aDp s hs);have hv := aEy s;generalize sR s = N at *;obtain ⟨N1, N2⟩ := N;simp only at HC hv;subst hv;have HF := lhid (aJs s hs);have HX := lhid (bHb s hs);have HM := lhid hm;clear hm;have eR : jJ s = if validD s && !aAx s then (aFw (dD s), 0) else ([], 5) := rfl;rw [eR];clear eR;have hlen := aWb s;generalize validD s = V at *;generalize aAx s = F at *
 cases V with
 | false =>
  go_enter Tryz.func109, Tryz.ntmps109;(go_wp2_with fail);refine (HC.out _).mono ?_;rintro e w1 ⟨rfl, hb1⟩;go_wp2_with fail
  go_ret2
  exact ⟨_, rfl, bNl _, hb1⟩
 | true =>
  cases F with
  | true =>
   go_enter Tryz.func109, Tryz.ntmps109;(go_wp2_with fail);refine (HC.out _).mono ?_;rintro e w1 ⟨rfl, hb1⟩;have HM1 := lhid (HM.out.below hb1);(go_wp2_with fail);refine (HF.out _ HM1.out).mono ?_;rintro e w' ⟨rfl, rfl⟩;go_wp2_with fail
   go_ret2
   exact ⟨_, rfl, bNl _, hb1⟩
  | false =>
   show Calls _ _ _ _ fun e w' => ∃ v, e = .returned (.tuple #[v, .int .i64 ((0 : Nat) : Int)]) ∧ aUn w' v (aFw (dD s)) ∧ Below w.heap.size w w';have hlt : (dD s).length ≤ 1000000 := (by omega);generalize dD s = t at *;obtain ⟨R, hR⟩ : ∃ R, bKb t = R := ⟨_, rfl⟩;have eW : aFw t = R.map (aFv t) := (by rw [← hR]; rfl);rw [eW];have HR := lhid hR;clear hR eW hlen;obtain ⟨i0, hi, hz0, hz1, hz2⟩ := info_parts aXq;go_enter Tryz.func109, Tryz.ntmps109;(go_wp2_with fail);refine (HC.out _).mono ?_;rintro e w1 ⟨rfl, hb1⟩;have HM1 := lhid (HM.out.below hb1);(go_wp2_with fail);refine (HF.out _ HM1.out).mono ?_;rintro e w' ⟨rfl, rfl⟩;(go_wp2_with fail);refine (HX.out _ HM1.out).mono ?_;rintro e w2 ⟨rfl, q, rfl⟩;have hb2 : Below w.heap.size w (w1.drewN q) := hb1.trans ⟨rfl, rfl, rfl, Nat.le_refl _, fun _ _ => rfl⟩;go_wp2_with fail
   go_loopw [6, 7, 8, 9] (fun v fr fi n wr => bGt t w wr w1.heap.size v fr fi n R) (fun _ _ _ _ wr => t.length - wr.iterPos w1.heap.size)
   case atStart =>
    refine ⟨0, 0, none, [], Nat.zero_le _, Nat.le_refl _, rfl, rfl, (fun f hf => by cases hf), World.ownsRow_nil _ _ _ _, ?_, hb2.alloc (by have := hb1.size; simpa using this) _, by simp [World.iter], aGv t, by rw [← HR.out]; rfl, Nat.le_refl _⟩;have h5 := World.iter_heap (w1.drewN q) (bs t) 0;exact h5
   case round =>
    obtain ⟨p, k, st, done, hp, hkp, rfl, rfl, hfi, hown, hit, hbw, hk0, hrt, hR, hdl⟩ := hrel;have HFI := lhid hfi;have HRT := lhid hrt;have HRR := lhid hR;clear hfi hrt hR;by_cases hlt : p < t.length
    ·have hb := kS t p hlt;have hnx := fun ty => run_next_any_at (P := Tryz.prog) wr w1.heap.size (bs t) p ty hit (by rw [gG]; exact hlt);rw [← decodeL_drop, uM] at hnx;have eo : decodeL (t.drop p) = bH t p := rfl;rw [eo] at hnx;have hit2 := iterAt_heap wr w1.heap.size (bs t) p (p + (bH t p).2) hit;have hbw2 := below_iterAt hbw (k := w1.heap.size) (by have := hb1.size; omega) (bs t) (p + (bH t p).2);have hown' := ownsRow_iterAt hown (k := w1.heap.size) (by omega) (bs t) (p + (bH t p).2);have hsz := iterAt_size wr w1.heap.size (bs t) (p + (bH t p).2);obtain ⟨sr1, sr2⟩ := bAc t p st hlt;have hrt2 := lhid (aKp t p k hlt HRT.out);have hcol := aOx t p k HRT.out;have hle : (bH t p).1 ≤ 1114111 := decodeL_rune _;have HB := lhid (aTk (bH t p).1);obtain ⟨D, hD⟩ : ∃ D, bH t p = D := ⟨_, rfl⟩;rw [hD] at hb hnx hit2 hbw2 hown' sr1 sr2 hrt2 hle HB hsz;obtain ⟨WW, hWW⟩ : ∃ WW, wr.iterAt w1.heap.size (bs t) (p + D.2) = WW := ⟨_, rfl⟩;rw [hWW] at hnx hit2 hbw2 hown' hsz;have hpos : WW.iterPos w1.heap.size = p + D.2 := iterPos_of hit2;have hpos0 : wr.iterPos w1.heap.size = p := iterPos_of hit;have hk1 : w1.heap.size < WW.heap.size := (by omega);have hk2 := hbw2.size;clear eo hD hWW hown hit hbw hsz
     cases hbl : mO D.1 with
     | true =>
      rw [hbl] at HB;have hs1 := lhid (sr1 hbl);clear sr1 sr2 hbl
      cases st with
      | none =>
       have hR2 := lhid (HRR.out.trans (congrArg (done ++ ·) hs1.out));clear HRR hs1;simp only [frV, bNj, List.nil_append] at hR2 ⊢;(go_wp2_with (go_at_call 133; refine (HB.out _).mono ?_; rintro e w3 ⟨rfl, rfl⟩));go_roundw
       case rel => exact ⟨p + D.2, k + 1, none, done, hb.2, by omega, by go_num, rfl, (fun f hf => by cases hf), hown', hit2, hbw2, hk1, hrt2.out, hR2.out, by omega⟩
       case measure => rw [hpos, hpos0]; omega
      | some f =>
       obtain ⟨hfp, rfl⟩ := HFI.out f rfl;have hR2 := lhid (HRR.out.trans (congrArg (done ++ ·) hs1.out));clear HRR hs1 HFI;simp only [frV, bNj] at hR2 ⊢
       go_wp2_with (first
        | (go_at_call 133; refine (HB.out _).mono ?_; rintro e w3 ⟨rfl, rfl⟩)
        | (at_builtin; refine wpList_append_own _ rfl _ _ 152 rfl (w1.heap.size + 1) 157 i0 (.agg #[.string ByteArray.empty, .int .i64 0]) 2 24 Tryz.underlying152 hi hz0 hz1 hz2 rfl (by decide) _ _ _ rfl (hown'.alloc _) ⟨WW.heap.size, 0, none⟩ 1 1 [.string (bs (aLx t f p)), .int .i64 ((yD t 0 f + 1 : Nat) : Int)] rfl rfl ?c1 ?c2 ?c3 ?c4 ?c5 ?_))
       case c1 =>
        intro j u hj
        match j, hj with
        | 0, hj => simp at hj; subst hj; simp [Addr.add, aLx]
        | 1, hj => simp at hj; subst hj; simp [Addr.add]
       case c2 => intro u hu; simp at hu; rcases hu with rfl | rfl <;> rfl
       case c3 => unfold maxLen; omega
       case c4 => omega
       case c5 => simp; omega
       ·intro v' w4 hown4 hgrow hnil;have hlow := hown'.lt
        have hit4 : w4.heap[w1.heap.size]? = some (.stringIter (bs t) (p + D.2)) := by
         rw [hgrow.block w1.heap.size (by simp; omega) (fun e => by have := (hlow _ e.symm).1; omega), heap_alloc_old WW _ hk1];exact hit2
        have hb4 : Below w.heap.size w w4 := (hbw2.alloc hk2 _).grown hgrow (by simp; omega) (fun k hk => by have := (hlow k hk).1; have := hb1.size; omega);have hk4 : w1.heap.size < w4.heap.size := (by have := hgrow.size; simp at this; omega);have hpos4 : w4.iterPos w1.heap.size = p + D.2 := iterPos_of hit4;have HO := lhid hown4;clear hown4 hnil hit2 hbw2 hown' hgrow hlow;(go_wp2_with fail);go_roundw
        case rel =>
         refine ⟨p + D.2, k + 1, none, done ++ [(f, p)], hb.2, by omega, by go_num, rfl, (fun f hf => by cases hf), ?_, hit4, hb4, hk4, hrt2.out, by rw [hR2.out]; simp, by simp; omega⟩;have h5 := HO.out;rw [aAb] at h5;simpa [aFv] using h5
        case measure => rw [hpos4, hpos0]; omega
     | false =>
      rw [hbl] at HB;have hs2 := lhid (sr2 hbl);clear sr1 sr2 hbl
      cases st with
      | none =>
       have hR2 := lhid (HRR.out.trans (congrArg (done ++ ·) hs2.out));clear HRR hs2;simp only [frV, Option.getD_none] at hR2 ⊢;(go_wp2_with (go_at_call 133; refine (HB.out _).mono ?_; rintro e w3 ⟨rfl, rfl⟩));go_roundw
       case rel => exact ⟨p + D.2, k + 1, some p, done, hb.2, by omega, by go_num, rfl, (fun f hf => by obtain rfl := Option.some.inj hf; exact ⟨by omega, by rw [hcol]; go_num⟩), hown', hit2, hbw2, hk1, hrt2.out, hR2.out, by omega⟩
       case measure => rw [hpos, hpos0]; omega
      | some f =>
       obtain ⟨hfp, rfl⟩ := HFI.out f rfl;have hR2 := lhid (HRR.out.trans (congrArg (done ++ ·) hs2.out));clear HRR hs2 HFI;simp only [frV, Option.getD_some] at hR2 ⊢;(go_wp2_with (go_at_call 133; refine (HB.out _).mono ?_; rintro e w3 ⟨rfl, rfl⟩));go_roundw
       case rel => exact ⟨p + D.2, k + 1, some f, done, hb.2, by omega, by go_num, rfl, (fun g hg => by obtain rfl := Option.some.inj hg; exact ⟨by omega, rfl⟩), hown', hit2, hbw2, hk1, hrt2.out, hR2.out, by omega⟩
       case measure => rw [hpos, hpos0]; omega
    ·have hnx := fun ty => run_next_end_at (P := Tryz.prog) wr w1.heap.size (bs t) p ty hit (by rw [gG]; exact hlt);have hep : p = t.length := (by omega);have hR2 := lhid (HRR.out.trans (congrArg (done ++ ·) (bFg t p st (by omega))));subst hep;clear HRR
     cases st with
     | none =>
      simp only [frV, bNj, List.append_nil] at hR2 ⊢;go_wp2_with fail
      go_ret2
      rw [hR2.out];exact ⟨_, rfl, aIl (by rw [List.length_map]; exact hown), hbw⟩
     | some f =>
      obtain ⟨hfp, rfl⟩ := HFI.out f rfl;simp only [frV, bNj] at hR2 ⊢;go_wp2_with (at_builtin; refine wpList_append_own _ rfl _ _ 152 rfl (w1.heap.size + 1) 157 i0 (.agg #[.string ByteArray.empty, .int .i64 0]) 2 24 Tryz.underlying152 hi hz0 hz1 hz2 rfl (by decide) _ _ _ rfl (hown.alloc _) ⟨wr.heap.size, 0, none⟩ 1 1 [.string (bs (aLx t f t.length)), .int .i64 ((yD t 0 f + 1 : Nat) : Int)] rfl rfl ?c1 ?c2 ?c3 ?c4 ?c5 ?_)
      case c1 =>
       intro j u hj
       match j, hj with
       | 0, hj => simp at hj; subst hj; simp [Addr.add, aLx]
       | 1, hj => simp at hj; subst hj; simp [Addr.add]
      case c2 => intro u hu; simp at hu; rcases hu with rfl | rfl <;> rfl
      case c3 => unfold maxLen; omega
      case c4 => omega
      case c5 => simp; omega
      ·intro v' w4 hown4 hgrow hnil;have HO := lhid hown4;clear hown4 hnil;go_wp2_with fail
       go_ret2
       rw [hR2.out];refine ⟨_, rfl, aIl (B := w1.heap.size + 1) (e := 157) ?_, ?_⟩
       ·have h5 := HO.out;rw [aAb] at h5;simpa [aFv] using h5
       ·exact (hbw.alloc hbw.size _).grown hgrow (by have := hbw.size; simp; omega) (fun k hk => by have := (hown.lt k hk).1; have := hb1.size; omega)
end
section
open Go.RowKit
theorem aHk (t : List UInt8) (k : Nat) (h : mK (t.take k) = none) : mK t = none := by
 have e : mK t = (t.drop k).foldl xP (mK (t.take k)) := by
  unfold mK; rw [← List.foldl_append, List.take_append_drop]
 rw [e, h];generalize t.drop k = r
 induction r with
 | nil => rfl
 | cons a r ih => simpa [xP] using ih
theorem uO (t : List UInt8) (k : Nat) (hk : k < t.length) (n : Int) (h : mK (t.take k) = some n) : mK (t.take (k + 1)) = xP (some n) t[k] := by
 rw [List.take_succ_eq_append_getElem hk, aRc, h]
theorem aIw (n : Int) (c : UInt8) (h : n < -922337203685477580 ∨ (n = -922337203685477580 ∧ 56 < c.toNat)) : xP (some n) c = none := by
 simp only [xP, Option.bind_some];rw [if_pos (by omega)]
theorem aVt (n : Int) (c : UInt8) (h1 : 48 ≤ c.toNat) (h : ¬ (n < -922337203685477580 ∨ (n = -922337203685477580 ∧ 56 < c.toNat))) : xP (some n) c = some (n * 10 - ((c.toNat : Int) - 48)) := by
 simp only [xP, Option.bind_some];rw [if_neg (by omega)]; congr 1; omega
theorem aEn (l : List UInt8) (hd : yG l = true) (h : mK (mC l) = none) : jQ l = (0, 8) := by
 unfold jQ; rw [if_pos hd, h]
theorem aZq (l : List UInt8) (n : Int) (hd : yG l = true) (h : mK (mC l) = some n) (hn : pU l = true) : jQ l = (n, 0) := by
 unfold jQ; rw [if_pos hd, h]; simp [hn]
theorem aOj (l : List UInt8) (n : Int) (hd : yG l = true) (h : mK (mC l) = some n) (hn : pU l = false) (hl : n = -9223372036854775808) : jQ l = (0, 8) := by
 unfold jQ; rw [if_pos hd, h]; simp [hn, hl]
theorem aZs (l : List UInt8) (n : Int) (hd : yG l = true) (h : mK (mC l) = some n) (hn : pU l = false) (hl : -9223372036854775808 < n) : jQ l = (-n, 0) := by
 unfold jQ; rw [if_pos hd, h]; simp only [hn, Bool.false_eq_true, if_false]; rw [if_neg (by omega)]
theorem bEo (l : List UInt8) (hd : yG l = false) : jQ l = (0, 5) := by
 unfold jQ; rw [hd]; simp
theorem uC {a b c d : Int} (h : (a, b) = (c, d)) : Ending.returned (.tuple #[.int .i64 a, .int .i64 b]) = .returned (.tuple #[.int .i64 c, .int .i64 d]) := by
 injection h with h1 h2; rw [h1, h2]
theorem bCj (l : List UInt8) (h : yG l = true) : (mC l).all nH = true := by
 unfold yG aQv at h; simp only [Bool.and_eq_true] at h; exact h.2
theorem bBo (t : List UInt8) (h : t.all nH = true) (k : Nat) (hk : k < t.length) : 48 ≤ t[k].toNat ∧ t[k].toNat ≤ 57 :=
 (uS _).1 (List.all_eq_true.1 h _ (List.getElem_mem hk))
set_option maxHeartbeats 2000000 in
theorem aZt (l t : List UInt8) (neg : Bool) (ht : mC l = t) (hn : pU l = neg) (hd : yG l = true) (hs : l.length ≤ 9223372036854775806) (v c : Int) (hres : jQ l = (v, c)) (w : World) :
  Calls Tryz.prog 160 #[.string (bs l)] w fun e w' => e = .returned (.tuple #[.int .i64 v, .int .i64 c]) ∧ w = w' := by
 have HR := lhid hres;have HD := lhid (fun W => by simpa only [hd] using aCk l (by omega) W);have HC := lhid (aCj l t neg ht hn (by omega));have HT := lhid ht;have HN := lhid hn;have HG := lhid hd;have hta : t.all nH = true := (by rw [← ht]; exact bCj l hd);have HTA := lhid hta;have htl : t.length ≤ 9223372036854775806 := (by have := aOt l; rw [ht] at this; omega);clear hres hn hd hta;clear ht hs;go_enter Tryz.func160, Tryz.ntmps160
 go_wp2_with (first
  | (go_at_call 173; refine (HD.out _).mono ?_; rintro e w1 ⟨rfl, rfl⟩)
  | (go_at_call 174; refine (HC.out _).mono ?_; rintro e w1 ⟨rfl, rfl⟩))
 clear HD HC
 go_loop [6, 7, 8, 19] (fun a _ _ i => ∃ (k : Nat) (n : Int), k ≤ t.length ∧ i = .int .i64 k ∧ a = .int .i64 n ∧ -9223372036854775808 ≤ n ∧ n ≤ 0 ∧ mK (t.take k) = some n) (fun _ _ _ i => t.length - (RowKit.intOf i).toNat)
 case atStart => exact ⟨0, 0, Nat.zero_le _, rfl, rfl, by omega, by omega, rfl⟩
 case round =>
  obtain ⟨k, n, hk, rfl, rfl, hn0, hn1, hf⟩ := hrel;have HF := lhid hf;clear hf;by_cases hlt : k < t.length
  ·have hc1 := (bBo t HTA.out k hlt).1;have hc2 := (bBo t HTA.out k hlt).2;by_cases h1 : n < -922337203685477580
   ·have HX := lhid (aEn l HG.out (by rw [HT.out]; exact aHk t (k + 1) (by rw [uO t k hlt n HF.out]; exact aIw _ _ (.inl h1))))
    go_wp2
    go_ret2
    exact ⟨uC (HX.out.symm.trans HR.out), rfl⟩
   ·by_cases h2 : n = -922337203685477580
    ·by_cases h3 : 56 < t[k].toNat
     ·have HX := lhid (aEn l HG.out (by rw [HT.out]; exact aHk t (k + 1) (by rw [uO t k hlt n HF.out]; exact aIw _ _ (.inr ⟨h2, h3⟩))));subst h2;clear h1
      go_wp2
      go_ret2
      exact ⟨uC (HX.out.symm.trans HR.out), rfl⟩
     ·have HX := lhid (by rw [← aVt n t[k] hc1 (by omega)]; exact uO t k hlt n HF.out : mK (t.take (k + 1)) = some (n * 10 - ((t[k].toNat : Int) - 48)));subst h2;clear h1;have h4 : (t[k].toNat : Int) ≤ 56 := (by omega);clear h3
      go_wp2
      go_round
      case rel => exact ⟨k + 1, _, by omega, by go_num, rfl, by omega, by omega, HX.out⟩
      case measure => simp [RowKit.intOf]; omega
    ·have HX := lhid (by rw [← aVt n t[k] hc1 (by omega)]; exact uO t k hlt n HF.out : mK (t.take (k + 1)) = some (n * 10 - ((t[k].toNat : Int) - 48)));have h3 : -922337203685477579 ≤ n := (by omega);clear h1 h2
     go_wp2
     go_round
     case rel => exact ⟨k + 1, _, by omega, by go_num, rfl, by omega, by omega, HX.out⟩
     case measure => simp [RowKit.intOf]; omega
  ·have e : t.take k = t := List.take_of_length_le (by omega);have hF := HF.out;rw [e] at hF;have HB := lhid hF;clear HF hF e
   cases neg with
   | true =>
    have HX := lhid (aZq l n HG.out (by rw [HT.out]; exact HB.out) HN.out)
    go_wp2
    go_ret2
    exact ⟨uC (HX.out.symm.trans HR.out), rfl⟩
   | false =>
    by_cases hl : n = -9223372036854775808
    ·have HX := lhid (aOj l n HG.out (by rw [HT.out]; exact HB.out) HN.out hl);subst hl;clear hn0 hn1
     go_wp2
     go_ret2
     exact ⟨uC (HX.out.symm.trans HR.out), rfl⟩
    ·have HX := lhid (aZs l n HG.out (by rw [HT.out]; exact HB.out) HN.out (by omega));have hn2 : -9223372036854775808 < n := (by omega);clear hl hn0
     go_wp2
     go_ret2
     exact ⟨uC (HX.out.symm.trans HR.out), rfl⟩
set_option maxHeartbeats 1000000 in
theorem aZo (l : List UInt8) (hd : yG l = false) (hs : l.length ≤ 9223372036854775806) (w : World) :
  Calls Tryz.prog 160 #[.string (bs l)] w fun e w' => e = .returned (.tuple #[.int .i64 0, .int .i64 5]) ∧ w = w' := by
 have HD := lhid (fun W => by simpa only [hd] using aCk l (by omega) W);clear hd hs;go_enter Tryz.func160, Tryz.ntmps160;go_wp2_with (go_at_call 173; refine (HD.out _).mono ?_; rintro e w1 ⟨rfl, rfl⟩)
 go_ret2
 exact ⟨rfl, rfl⟩
theorem aZn (l : List UInt8) (hs : l.length ≤ 9223372036854775806) (w : World) :
  Calls Tryz.prog 160 #[.string (bs l)] w fun e w' => e = .returned (.tuple #[.int .i64 (jQ l).1, .int .i64 (jQ l).2]) ∧ w = w' := by
 cases hd : yG l
 ·rw [bEo l hd]; exact aZo l hd hs w
 ·exact aZt l _ _ rfl rfl hd hs _ _ rfl w
end
section
open Go.RowKit
theorem bEn (l : List UInt8) (v c : Int) (hs : l.length ≤ 9223372036854775806) (h : jQ l = (v, c)) (w : World) :
  Calls Tryz.prog 160 #[.string (bs l)] w fun e w' => e = .returned (.tuple #[.int .i64 v, .int .i64 c]) ∧ w = w' := by
 have := aZn l hs w
 rwa [h] at this
end
section
open Go.RowKit
attribute [local go_sem] aJn oU wY pG aQk aAw oT yA qZ
attribute [local go_sem] cR.cell cR.frozen
set_option maxHeartbeats 2000000 in
theorem bHy (k n : Int) (w : World) :
  Calls Tryz.prog 78 #[.agg #[.int .i64 k, .int .i64 n]] w fun e w' => e = .returned (.bool (kW k n)) ∧ Below w.heap.size w w' := by
 rcases qL k n with ⟨rfl, h⟩ | ⟨rfl, rfl, h⟩ | ⟨rfl, rfl, h⟩ | ⟨rfl, h1, h2, h⟩ | ⟨rfl, h1, h2, h⟩ | ⟨h1, h2, h3, h4, h⟩ <;> rw [h] <;> clear h
 all_goals
  go_enter Tryz.func78, Tryz.ntmps78
  go_wp2
  go_ret;exact ⟨rfl, by go_grown⟩
set_option maxHeartbeats 2000000 in
theorem aTd (k n : Int) (w : World) :
  Calls Tryz.prog 62 #[.agg #[.int .i64 k, .int .i64 n]] w fun e w' => e = .returned (.bool (kW k n)) ∧ Below w.heap.size w w' := by
 rcases qL k n with ⟨rfl, h⟩ | ⟨rfl, rfl, h⟩ | ⟨rfl, rfl, h⟩ | ⟨rfl, h1, h2, h⟩ | ⟨rfl, h1, h2, h⟩ | ⟨h1, h2, h3, h4, h⟩ <;> rw [h] <;> clear h
 all_goals
  go_enter Tryz.func62, Tryz.ntmps62
  go_wp2
  go_ret;exact ⟨rfl, by go_grown⟩
def dR (l : List UInt8) : Int × Int × Int :=
 if l = [110, 105, 108] then (0, 0, 0) else if l = [63] then (2, 0, 0) else if (jQ l).2 = 0 then (1, (jQ l).1, 0) else (0, 0, (jQ l).2)
theorem aKy (l : List UInt8) : (l = [110, 105, 108] ∧ dR l = (0, 0, 0)) ∨ (l = [63] ∧ dR l = (2, 0, 0)) ∨
  ((l == [110, 105, 108]) = false ∧ (l == [63]) = false ∧ ∃ v, jQ l = (v, 0) ∧ dR l = (1, v, 0)) ∨
  ((l == [110, 105, 108]) = false ∧ (l == [63]) = false ∧ ∃ v c, jQ l = (v, c) ∧ (c != 0) = true ∧ dR l = (0, 0, c)) := by
 by_cases h1 : l = [110, 105, 108]
 ·exact .inl ⟨h1, by simp [dR, h1]⟩
 by_cases h2 : l = [63]
 ·exact .inr (.inl ⟨h2, by simp [dR, h2]⟩)
 have e1 : (l == [110, 105, 108]) = false := (by simpa using h1);have e2 : (l == [63]) = false := (by simpa using h2);obtain ⟨v, c, hp⟩ : ∃ v c, jQ l = (v, c) := ⟨_, _, rfl⟩;by_cases hc : c = 0
 ·subst hc;exact .inr (.inr (.inl ⟨e1, e2, v, hp, by simp [dR, h1, h2, hp]⟩))
 ·exact .inr (.inr (.inr ⟨e1, e2, v, c, hp, by simpa using hc, by simp [dR, h1, h2, hp, hc]⟩))
set_option maxHeartbeats 2000000 in
theorem bBb (l : List UInt8) (a b c : Int) (hs : l.length ≤ 9223372036854775806) (h : dR l = (a, b, c)) (w : World) :
  Calls Tryz.prog 134 #[.string (bs l)] w fun e w' => e = .returned (.tuple #[.agg #[.int .i64 a, .int .i64 b], .int .i64 c]) ∧ Below w.heap.size w w' := by
 rcases aKy l with ⟨rfl, h'⟩ | ⟨rfl, h'⟩ | ⟨h1, h2, v, hp, h'⟩ | ⟨h1, h2, v, c', hp, hc, h'⟩
 all_goals
  rw [h'] at h;simp only [Prod.mk.injEq] at h;obtain ⟨rfl, rfl, rfl⟩ := h;clear h'
 ·go_enter Tryz.func134, Tryz.ntmps134
  go_wp2
  go_returns;exact ⟨rfl, by go_grown⟩
 ·go_enter Tryz.func134, Tryz.ntmps134
  go_wp2
  go_returns;exact ⟨rfl, by go_grown⟩
 all_goals
  have HP := lhid (bEn l _ _ hs hp);clear hp hs;go_enter Tryz.func134, Tryz.ntmps134;(go_wp2_with (go_at_call 160; refine (HP.out _).mono ?_; rintro e w1 ⟨rfl, rfl⟩));go_returns;exact ⟨rfl, by go_grown⟩
end
section
open Go.RowKit Go.Lib
def oH (x : aV) : Bool := decide (1 ≤ x.1) && (decide (x.1 ≤ 6) && (bA x.2.1 &&
 (if kD x.1 then bA x.2.2.1 && (kW x.2.2.2.1 x.2.2.2.2.1 && (x.1 == 2 || x.2.2.2.1 == 1)) else decide (x.2.2.1 = []) && (x.2.2.2.1 == 0 && x.2.2.2.2.1 == 0))))
def gI (k : Int) (s key t : List UInt8) : aV × Int :=
 if (dR t).2.2 ≠ 0 then (kE, (dR t).2.2) else if k = 3 ∧ (dR t).1 = 0 then (kE, 11) else if k = 3 ∧ (dR t).1 = 2 then (kE, 5) else ((k, s, key, (dR t).1, (dR t).2.1, 0), 0)
def aMp (L : List (List UInt8)) : Bool := decide (dN (L.getD 0 []) ≠ 0) && (decide (L.length = if kD (dN (L.getD 0 [])) then 4 else 2) && (bA (L.getD 1 []) && (!kD (dN (L.getD 0 [])) || bA (L.getD 2 []))))
def aEt (L : List (List UInt8)) : aV × Bool × Int :=
 if aMp L = false then (kE, false, 5)
 else if kD (dN (L.getD 0 [])) then ((gI (dN (L.getD 0 [])) (L.getD 1 []) (L.getD 2 []) (L.getD 3 [])).1, decide ((gI (dN (L.getD 0 [])) (L.getD 1 []) (L.getD 2 []) (L.getD 3 [])).2 = 0), (gI (dN (L.getD 0 [])) (L.getD 1 []) (L.getD 2 []) (L.getD 3 [])).2)
 else ((dN (L.getD 0 []), L.getD 1 [], [], 0, 0, 0), true, 0)
def dX (s : List UInt8) : aV × Bool × Int :=
 if (jJ s).2 ≠ 0 ∨ (jJ s).1 = [] then (kE, false, ((jJ s).2 : Int)) else aEt ((jJ s).1.map (·.1))
theorem aMy (l : List UInt8) : 0 ≤ dN l ∧ dN l ≤ 6 := by
 unfold dN
 (repeat' split) <;> decide
theorem aSw (t : List UInt8) (h : (dR t).2.2 = 0) : kW (dR t).1 (dR t).2.1 = true := by
 unfold dR at h ⊢
 (repeat' split) <;> simp_all [kW]
theorem bEz (L : List (List UInt8)) (h : (aEt L).2.1 = true) : (aEt L).2.2 = 0 ∧ oH (aEt L).1 = true := by
 unfold aEt at h ⊢;by_cases hh : aMp L = false
 ·rw [if_pos hh] at h; cases h
 ·rw [if_neg hh] at h ⊢;have hh' : aMp L = true := (by simpa using hh);clear hh;unfold aMp at hh';have hkr := aMy (L.getD 0 []);generalize dN (L.getD 0 []) = K at *;generalize L.getD 1 [] = n1 at *;generalize L.getD 2 [] = n2 at *;generalize L.getD 3 [] = t at *;simp only [Bool.and_eq_true, decide_eq_true_eq] at hh';obtain ⟨hk0, -, hn, hn2⟩ := hh'
  cases hl : kD K with
  | false =>
   rw [if_neg (by simp)];refine ⟨rfl, ?_⟩;unfold oH;simp only [hl, hn];simp;omega
  | true =>
   rw [hl] at h hn2;rw [if_pos rfl] at h ⊢;have hm := aSw t;unfold gI at h ⊢;obtain ⟨a, b, c, hp⟩ : ∃ a b c, dR t = (a, b, c) := ⟨_, _, _, rfl⟩;rw [hp] at h hm ⊢;simp only at h hm ⊢;have hn2' : bA n2 = true := (by simpa using hn2);by_cases h1 : c = 0
   ·subst h1;have hm' := hm rfl;rw [if_neg (by simp)] at h ⊢;by_cases h2 : K = 3 ∧ a = 0
    ·rw [if_pos h2] at h; simp at h
    ·rw [if_neg h2] at h ⊢;by_cases h3 : K = 3 ∧ a = 2
     ·rw [if_pos h3] at h; simp at h
     ·rw [if_neg h3];refine ⟨rfl, ?_⟩;unfold oH;simp only [hl, if_true, hn, hm', hn2']
      have hk23 : K = 2 ∨ K = 3 := by
       unfold kD at hl;simpa using hl
      have hv : K = 3 → a = 1 := by
       intro e;have a0 : a ≠ 0 := fun b => h2 ⟨e, b⟩;have a2 : a ≠ 2 := fun b => h3 ⟨e, b⟩;unfold kW at hm';simp at hm';omega
      rcases hk23 with e | e
      ·simp [e]
      ·simp [e, hv e]
   ·rw [if_pos (by simpa using h1)] at h;simp at h;exact absurd h h1
theorem aIn (s : List UInt8) (h : (dX s).2.1 = true) : (dX s).2.2 = 0 ∧ oH (dX s).1 = true := by
 unfold dX at h ⊢;split
 ·rename_i hc;rw [if_pos hc] at h;simp at h
 ·rename_i hc;rw [if_neg hc] at h;exact bEz _ h
end
section
open Go.RowKit Go.Lib
def bDw (x : aV) (n : Int) : aV := (x.1, x.2.1, x.2.2.1, x.2.2.2.1, x.2.2.2.2.1, n)
def lU : List (List UInt8) → Nat → List aV → List aV × Int × Int
 | [], _, out => (out, 0, 0)
 | t :: r, i, out =>
  if (dX t).2.2 ≠ 0 then ([], ((i + 1 : Nat) : Int), (dX t).2.2)
  else if (dX t).2.1 = false then lU r (i + 1) out
  else if out.length = 1000 then ([], ((i + 1 : Nat) : Int), 7)
  else lU r (i + 1) (out ++ [bDw (dX t).1 ((i + 1 : Nat) : Int)])
def mL (s : List UInt8) : List aV × Int × Int :=
 if (ofL s).2.2 ≠ 0 then ([], ((ofL s).2.1 : Int), ((ofL s).2.2 : Int)) else lU (ofL s).1 0 []
end
section
open Go.RowKit Go.Lib
structure aH where
 nm : List UInt8
 ks : List (List UInt8)
 ln : Int
 fate : Int
 ops : List OpM
 op : Bool
deriving DecidableEq
def noD : aH := ⟨[], [], 0, 0, [], false⟩
def gR (L : List aH) : List (List UInt8) := L.map (·.nm)
def dT (L : List aH) : List (List UInt8) := L.flatMap (·.ks)
def tD (s : List UInt8) (d : aH) : Bool := d.op && decide (d.nm = s)
def atD (L : List aH) (s : List UInt8) : Nat := L.findIdx (tD s)
def aAn (d : aH) (f : Int) : aH := { d with fate := f, op := false }
def aIb (d : aH) (x : aV) : aH := { d with ops := d.ops ++ [(x.1 == 3, 0, x.2.2.2.1, x.2.2.2.2.1)], ks := d.ks ++ [x.2.2.1] }
def kL (L : List aH) (x : aV) : List aH × Int :=
 if oH x = false then (L, 4)
 else if x.1 = 1 then
  if atD L x.2.1 < L.length then (L, 9)
  else if 20 < (aX (gR L ++ [x.2.1])).length ∨ L.length = 40 then (L, 7)
  else (L ++ [⟨x.2.1, [], x.2.2.2.2.2, 0, [], true⟩], 0)
 else if ¬ atD L x.2.1 < L.length then (L, 10)
 else if 4 ≤ x.1 then (L.set (atD L x.2.1) (aAn (L.getD (atD L x.2.1) noD) (x.1 - 3)), 0)
 else if (L.getD (atD L x.2.1) noD).ops.length = 20 ∨ 40 < (aX (dT L ++ [x.2.2.1])).length then (L, 7)
 else (L.set (atD L x.2.1) (aIb (L.getD (atD L x.2.1) noD) x), 0)
def kJ : List aV → List aH → List aH × Int × Int
 | [], L => (L, 0, 0)
 | x :: r, L => if (kL L x).2 = 0 then kJ r (kL L x).1 else ((kL L x).1, x.2.2.2.2.2, (kL L x).2)
def opK (K : List (List UInt8)) (o : OpM) (k : List UInt8) : OpM := (o.1, ((dS K k).1 : Int), o.2.2.1, o.2.2.2)
def bAu (S K : List (List UInt8)) (d : aH) : bB := (((dS S d.nm).1 : Int), d.fate, d.ops.zipWith (opK K) d.ks)
def noH : aI := ([], [], [])
def sZ (l : List aV) : aI × Int × Int :=
 if (kJ l []).2.2 ≠ 0 then (noH, (kJ l []).2.1, (kJ l []).2.2)
 else match (kJ l []).1.find? (·.op) with
  | some d => (noH, d.ln, 12)
  | none => ((aX (gR (kJ l []).1), aX (dT (kJ l []).1), (kJ l []).1.map (bAu (aX (gR (kJ l []).1)) (aX (dT (kJ l []).1)))), 0, 0)
structure bJo (d : aH) : Prop where
 nm : bA d.nm = true
 ks : ∀ k ∈ d.ks, bA k = true
 len : d.ks.length = d.ops.length
 few : d.ops.length ≤ 20
 fate : 0 ≤ d.fate ∧ d.fate ≤ 3
structure mJ (L : List aH) : Prop where
 all : ∀ d ∈ L, bJo d
 few : L.length ≤ 40
 names : (aX (gR L)).length ≤ 20
 keys : (aX (dT L)).length ≤ 40
 one : ∀ i j : Nat, i < j → j < L.length → (L.getD i noD).op = true → (L.getD j noD).op = true → (L.getD i noD).nm ≠ (L.getD j noD).nm
theorem aMm : mJ [] := ⟨fun d h => (by cases h), by decide, by decide, by decide, fun i j h h2 => absurd h2 (Nat.not_lt_zero j)⟩
theorem nY (L : List aH) (s : List UInt8) (h : atD L s < L.length) : (L.getD (atD L s) noD).op = true ∧ (L.getD (atD L s) noD).nm = s := by
 have h1 : tD s L[atD L s] = true := List.findIdx_getElem (p := tD s) (w := h);have e : L.getD (atD L s) noD = L[atD L s] := (by simp [h]);rw [e];generalize L[atD L s] = d at h1;unfold tD at h1;simpa using h1
theorem aQl (L : List aH) (s : List UInt8) (j : Nat) (h : j < atD L s) : tD s (L.getD j noD) = false := by
 have hj : j < L.length := Nat.lt_of_lt_of_le h List.findIdx_le_length;have h1 := List.not_of_lt_findIdx (p := tD s) (xs := L) h;have e : L.getD j noD = L[j] := (by simp [hj]);rw [e];simpa using h1
theorem aLp (L : List aH) (s : List UInt8) (h : ¬ atD L s < L.length) (j : Nat) (hj : j < L.length) : tD s (L.getD j noD) = false :=
 aQl L s j (by omega)
theorem xO (A B : List (List UInt8)) (h : ∀ y, y ∈ A ↔ y ∈ B) : aX A = aX B := by
 obtain ⟨a1, a2⟩ := gH A;obtain ⟨b1, b2⟩ := gH B;exact pY ltN oF nR _ _ a1 b1 (fun y => by rw [a2, b2, h])
theorem aDv (L : List aH) (d : aH) : gR (L ++ [d]) = gR L ++ [d.nm] := by simp [gR]
theorem aHp (L : List aH) (d : aH) : dT (L ++ [d]) = dT L ++ d.ks := by simp [dT]
theorem aId (L : List aH) (i : Nat) (d : aH) (hi : i < L.length) (h : d.nm = (L.getD i noD).nm) : gR (L.set i d) = gR L := by
 unfold gR;apply List.ext_getElem
 ·simp
 ·intro j h1 h2;simp only [List.length_map] at h2;rw [List.getElem_map, List.getElem_map, List.getElem_set];by_cases e : i = j
  ·subst e; rw [if_pos rfl, h]; simp [hi]
  ·rw [if_neg e]
theorem aDc (L : List aH) (y : List UInt8) : y ∈ dT L ↔ ∃ j, j < L.length ∧ y ∈ (L.getD j noD).ks := by
 unfold dT;rw [List.mem_flatMap];constructor
 ·rintro ⟨d, hd, hy⟩;obtain ⟨j, hj, rfl⟩ := List.getElem_of_mem hd;exact ⟨j, hj, by simpa [hj] using hy⟩
 ·rintro ⟨j, hj, hy⟩;exact ⟨L[j], List.getElem_mem hj, by simpa [hj] using hy⟩
theorem mQ (L : List aH) (i j : Nat) (d : aH) (hi : i < L.length) : (L.set i d).getD j noD = if i = j then d else L.getD j noD := by
 by_cases e : i = j
 ·subst e; simp [hi]
 ·rw [if_neg e]; simp [List.getElem?_set_ne e]
theorem xG (L : List aH) (i : Nat) (d : aH) (hi : i < L.length) (h : d.ks = (L.getD i noD).ks) : dT (L.set i d) = dT L := by
 unfold dT;rw [List.flatMap_def, List.flatMap_def];congr 1;apply List.ext_getElem
 ·simp
 ·intro j h1 h2;simp only [List.length_map] at h2;rw [List.getElem_map, List.getElem_map, List.getElem_set];by_cases e : i = j
  ·subst e; rw [if_pos rfl, h]; simp [hi]
  ·rw [if_neg e]
theorem pP (L : List aH) (i : Nat) (x : aV) (hi : i < L.length) (y : List UInt8) : y ∈ dT (L.set i (aIb (L.getD i noD) x)) ↔ y ∈ dT L ++ [x.2.2.1] := by
 rw [List.mem_append, aDc, aDc, List.length_set];constructor
 ·rintro ⟨j, hj, hy⟩;rw [mQ L i j _ hi] at hy;by_cases e : i = j
  ·rw [if_pos e] at hy;rcases List.mem_append.1 (show y ∈ (L.getD i noD).ks ++ [x.2.2.1] from hy) with h | h
   ·exact .inl ⟨i, hi, h⟩
   ·exact .inr h
  ·rw [if_neg e] at hy;exact .inl ⟨j, hj, hy⟩
 ·rintro (⟨j, hj, hy⟩ | hy)
  ·refine ⟨j, hj, ?_⟩;rw [mQ L i j _ hi];by_cases e : i = j
   ·subst e; rw [if_pos rfl]; exact List.mem_append.2 (.inl hy)
   ·rw [if_neg e]; exact hy
  ·refine ⟨i, hi, ?_⟩;rw [mQ L i i _ hi, if_pos rfl];exact List.mem_append.2 (.inr hy)
theorem aXy (L : List aH) (i : Nat) (x : aV) (hi : i < L.length) : aX (dT (L.set i (aIb (L.getD i noD) x))) = aX (dT L ++ [x.2.2.1]) := xO _ _ (pP L i x hi)
theorem xH (x : aV) (h : oH x = true) : bA x.2.1 = true ∧ 1 ≤ x.1 ∧ x.1 ≤ 6 ∧ (x.1 = 2 ∨ x.1 = 3 → bA x.2.2.1 = true) := by
 unfold oH at h;simp only [Bool.and_eq_true, decide_eq_true_eq] at h;refine ⟨h.2.2.1, h.1, h.2.1, fun hk => ?_⟩;have h4 := h.2.2.2;have e : kD x.1 = true := (by rcases hk with e | e <;> rw [e] <;> decide);rw [if_pos e] at h4;simp only [Bool.and_eq_true] at h4;exact h4.1
theorem qI (L : List aH) (i : Nat) (hi : i < L.length) : L.getD i noD ∈ L := by
 rw [show L.getD i noD = L[i] by simp [hi]]; exact List.getElem_mem hi
theorem aMn {L : List aH} (hL : mJ L) (i : Nat) (d : aH) (hi : i < L.length) (hd : bJo d) (hn : d.nm = (L.getD i noD).nm) (ho : d.op = true → (L.getD i noD).op = true) (hk : (aX (dT (L.set i d))).length ≤ 40) : mJ (L.set i d) := by
 refine ⟨fun e he => ?_, by rw [List.length_set]; exact hL.few, by rw [aId L i d hi hn]; exact hL.names, hk, fun a b hab hb h1 h2 => ?_⟩
 ·rcases List.mem_or_eq_of_mem_set he with h | h
  ·exact hL.all e h
  ·rw [h]; exact hd
 ·rw [List.length_set] at hb;rw [mQ L i a d hi] at h1 ⊢;rw [mQ L i b d hi] at h2 ⊢
  have h3 : (if i = a then d else L.getD a noD).nm = (L.getD a noD).nm := by
   by_cases e : i = a
   ·subst e; rw [if_pos rfl, hn]
   ·rw [if_neg e]
  have h4 : (if i = b then d else L.getD b noD).nm = (L.getD b noD).nm := by
   by_cases e : i = b
   ·subst e; rw [if_pos rfl, hn]
   ·rw [if_neg e]
  rw [h3, h4];refine hL.one a b hab hb ?_ ?_
  ·by_cases e : i = a
   ·subst e; rw [if_pos rfl] at h1; exact ho h1
   ·rw [if_neg e] at h1; exact h1
  ·by_cases e : i = b
   ·subst e; rw [if_pos rfl] at h2; exact ho h2
   ·rw [if_neg e] at h2; exact h2
theorem aEq {L : List aH} (hL : mJ L) (x : aV) : mJ (kL L x).1 := by
 unfold kL;by_cases hm : oH x = false
 ·rw [if_pos hm]; exact hL
 ·rw [if_neg hm];have hm' : oH x = true := (by simpa using hm);obtain ⟨h1, h2, h3, h4⟩ := xH x hm';by_cases hk : x.1 = 1
  ·rw [if_pos hk];by_cases ha : atD L x.2.1 < L.length
   ·rw [if_pos ha]; exact hL
   ·rw [if_neg ha];by_cases hf : 20 < (aX (gR L ++ [x.2.1])).length ∨ L.length = 40
    ·rw [if_pos hf]; exact hL
    ·rw [if_neg hf];have hl := hL.few;refine ⟨fun d hd => ?_, by rw [List.length_append]; simp; omega, by rw [aDv]; simp only; omega, by rw [aHp, List.append_nil]; exact hL.keys, fun i j hij hj g1 g2 => ?_⟩
     ·rcases List.mem_append.1 hd with h | h
      ·exact hL.all d h
      ·rw [List.mem_singleton] at h;subst h;exact ⟨h1, fun k hk => (by cases hk), rfl, Nat.zero_le _, Int.le_refl _, by simp only; omega⟩
     ·have hj' : j < L.length ∨ j = L.length := (by simp at hj; omega);have hi : i < L.length := (by omega);have e1 : ∀ d : aH, (L ++ [d]).getD i noD = L.getD i noD := fun d => (by simp [List.getElem?_append_left hi]);rw [e1] at g1 ⊢;rcases hj' with hj' | rfl
      ·have e2 : ∀ d : aH, (L ++ [d]).getD j noD = L.getD j noD := fun d => (by simp [List.getElem?_append_left hj']);rw [e2] at g2 ⊢;exact hL.one i j hij hj' g1 g2
      ·have e2 : ∀ d : aH, (L ++ [d]).getD L.length noD = d := fun d => (by simp);rw [e2];have h5 := aLp L x.2.1 ha i hi;intro e;unfold tD at h5;rw [g1] at h5;simp only [Bool.true_and, decide_eq_false_iff_not] at h5;exact h5 e
  ·rw [if_neg hk];by_cases ha : atD L x.2.1 < L.length
   ·rw [if_neg (by simpa using ha)];obtain ⟨o1, o2⟩ := nY L x.2.1 ha;have hg := hL.all _ (qI L _ ha);by_cases hf : 4 ≤ x.1
    ·rw [if_pos hf];refine aMn hL _ _ ha ⟨hg.nm, hg.ks, hg.len, hg.few, ?_, ?_⟩ rfl (fun h => (by cases h)) ?_
     ·show 0 ≤ x.1 - 3; omega
     ·show x.1 - 3 ≤ 3; omega
     ·rw [xG L _ (aAn (L.getD (atD L x.2.1) noD) (x.1 - 3)) ha rfl]; exact hL.keys
    ·rw [if_neg hf];by_cases hc : (L.getD (atD L x.2.1) noD).ops.length = 20 ∨ 40 < (aX (dT L ++ [x.2.2.1])).length
     ·rw [if_pos hc]; exact hL
     ·rw [if_neg hc];have hkey : bA x.2.2.1 = true := h4 (by omega);refine aMn hL _ _ ha ⟨hg.nm, fun k h => ?_, ?_, ?_, hg.fate⟩ rfl (fun _ => o1) ?_
      ·rcases List.mem_append.1 (show k ∈ (L.getD (atD L x.2.1) noD).ks ++ [x.2.2.1] from h) with h | h
       ·exact hg.ks k h
       ·rw [List.mem_singleton] at h; rw [h]; exact hkey
      ·show ((L.getD (atD L x.2.1) noD).ks ++ [x.2.2.1]).length = ((L.getD (atD L x.2.1) noD).ops ++ [_]).length;rw [List.length_append, List.length_append, hg.len]; rfl
      ·show ((L.getD (atD L x.2.1) noD).ops ++ [_]).length ≤ 20;have := hg.few;rw [List.length_append, List.length_singleton]; omega
      ·rw [aXy L _ x ha]; omega
   ·rw [if_pos (by simpa using ha)]; exact hL
theorem aHv : ∀ (l : List aV) (L : List aH), mJ L → mJ (kJ l L).1
 | [], _, h => h
 | x :: r, L, h => by
  unfold kJ;by_cases e : (kL L x).2 = 0
  ·rw [if_pos e]; exact aHv r _ (aEq h x)
  ·rw [if_neg e]; exact aEq h x
theorem tX {α : Type} [DecidableEq α] : ∀ (A B : List α), A.Nodup → (∀ x ∈ A, x ∈ B) → A.length ≤ B.length
 | [], _, _, _ => Nat.zero_le _
 | a :: A, B, hn, h => by
  rw [List.nodup_cons] at hn;have hb := h a (List.mem_cons_self ..);have h1 := tX A (B.erase a) hn.2 (fun x hx => (List.mem_erase_of_ne (fun e => hn.1 (by rw [← e]; exact hx))).2 (h x (List.mem_cons_of_mem _ hx)));rw [List.length_erase_of_mem hb] at h1;have := List.length_pos_of_mem hb;rw [List.length_cons];omega
theorem aKs (M : List (List UInt8)) : (aX M).Nodup := (gH M).1.imp (fun h e => by subst e; rw [oF] at h; cases h)
theorem mE (ks M : List (List UInt8)) (hd : ks.Nodup) (hm : ∀ x, x ∈ ks ↔ x ∈ M) (hn : ∀ x ∈ M, bA x = true) : (aX M).length = ks.length := by
 have h2 := (gH M).2;refine Nat.le_antisymm (tX _ _ (aKs M) (fun x hx => (hm x).2 ((h2 x).1 hx).1)) (tX _ _ hd (fun x hx => (h2 x).2 ⟨(hm x).1 hx, hn x ((hm x).1 hx)⟩))
theorem wG {L : List aH} (hL : mJ L) : ∀ x ∈ gR L, bA x = true := fun x hx => by
 obtain ⟨d, hd, rfl⟩ := List.mem_map.1 hx;exact (hL.all d hd).nm
theorem yS {L : List aH} (hL : mJ L) : ∀ x ∈ dT L, bA x = true := fun x hx => by
 obtain ⟨d, hd, h⟩ := List.mem_flatMap.1 hx;exact (hL.all d hd).ks x h
theorem aCg (ks M : List (List UInt8)) (s : List UInt8) (m : Nat) (hd : ks.Nodup) (hm : ∀ x, x ∈ ks ↔ x ∈ M) (hn : ∀ x ∈ M, bA x = true) (hs : bA s = true) (hle : (aX M).length ≤ m) : (m < (aX (M ++ [s])).length ↔ s ∉ ks ∧ ks.length = m) ∧ ks.length ≤ m := by
 have h1 := mE ks M hd hm hn;by_cases h : s ∈ ks
 ·have h2 := mE ks (M ++ [s]) hd (fun x => by
   rw [List.mem_append, List.mem_singleton, hm]
   exact ⟨.inl, fun g => g.elim id (fun e => by rw [e]; exact (hm s).1 h)⟩) (fun x hx => (List.mem_append.1 hx).elim (hn x) (fun g => by rw [List.mem_singleton.1 g]; exact hs))
  rw [h2];exact ⟨⟨fun g => by omega, fun g => absurd h g.1⟩, by omega⟩
 ·have h2 := mE (ks ++ [s]) (M ++ [s]) (List.nodup_append.2 ⟨hd, by simp, fun a ha b hb e => by rw [List.mem_singleton] at hb; subst hb; subst e; exact h ha⟩) (fun x => by rw [List.mem_append, List.mem_append, hm]) (fun x hx => (List.mem_append.1 hx).elim (hn x) (fun g => by rw [List.mem_singleton.1 g]; exact hs));rw [h2, List.length_append, List.length_singleton];exact ⟨⟨fun g => ⟨h, by omega⟩, fun g => by omega⟩, by omega⟩
end
section
open Go.RowKit Go.Lib
def wJ (l : List UInt8) : aI × Int × Int := if (mL l).2.2 ≠ 0 then (noH, (mL l).2.1, (mL l).2.2) else sZ (mL l).1
theorem yW : ∀ (r : List (List UInt8)) (i : Nat) (out : List aV), out.length ≤ 1000 → (∀ x ∈ out, oH x = true) → (lU r i out).1.length ≤ 1000 ∧ ∀ x ∈ (lU r i out).1, oH x = true
 | [], _, out, hl, h => ⟨hl, h⟩
 | t :: r, i, out, hl, h => by
  unfold lU;split
  ·exact ⟨Nat.zero_le _, fun x hx => (by cases hx)⟩
  ·split
   ·exact yW r (i + 1) out hl h
   ·rename_i h2;split
    ·exact ⟨Nat.zero_le _, fun x hx => (by cases hx)⟩
    ·refine yW r (i + 1) _ (by rw [List.length_append, List.length_singleton]; omega) (fun x hx => ?_);rcases List.mem_append.1 hx with g | g
     ·exact h x g
     ·rw [List.mem_singleton.1 g];exact (aIn t (by simpa using h2)).2
theorem aIp (l : List UInt8) : (mL l).1.length ≤ 1000 ∧ ∀ x ∈ (mL l).1, oH x = true := by
 unfold mL;split
 ·exact ⟨Nat.zero_le _, fun x hx => (by cases hx)⟩
 ·exact yW _ _ _ (Nat.zero_le _) (fun x hx => (by cases hx))
theorem aDu (l : List UInt8) (h : bA l = true) : l.length ≤ 1000000 := by
 have hv := nA _ l (Nat.le_refl _) (sK l h);unfold bA xV at h;simp only [Bool.and_eq_true, decide_eq_true_eq] at h;have := zF (aQ l);rw [hv] at this;omega
theorem aYv (x : aV) (h : oH x = true) : x.2.1.length ≤ 1000000 ∧ x.2.2.1.length ≤ 1000000 := by
 have h0 := xH x h;refine ⟨aDu _ h0.1, ?_⟩;by_cases hk : x.1 = 2 ∨ x.1 = 3
 ·exact aDu _ (h0.2.2.2 hk)
 ·unfold oH at h;simp only [Bool.and_eq_true] at h
  have e : kD x.1 = false := by
   unfold kD;simp only [not_or] at hk;simp [hk.1, hk.2]
  rw [e] at h;have h4 := h.2.2.2;simp at h4;rw [h4.1];exact Nat.zero_le _
theorem aTc (l : List UInt8) : ∀ x ∈ (mL l).1, x.2.1.length ≤ 1000000 ∧ x.2.2.1.length ≤ 1000000 := fun x hx => aYv x ((aIp l).2 x hx)
theorem aOd {l : List UInt8} {L : List aV} {n e : Int} (h : mL l = (L, n, e)) (he : e ≠ 0) : wJ l = (noH, n, e) := by
 unfold wJ;rw [h];exact if_pos he
theorem aSv {l : List UInt8} {L : List aV} {n : Int} (h : mL l = (L, n, 0)) : wJ l = sZ L := by
 unfold wJ;rw [h];exact if_neg (by simp)
theorem qD.ses {h : aI} (hm : qD h) {t : bB} (ht : t ∈ h.2.2) : 0 ≤ t.1 ∧ t.1 < h.1.length ∧ 1 ≤ t.2.1 ∧ t.2.1 ≤ 3 ∧ t.2.2.length ≤ 20 := by
 have h1 := hm.txn t ht;unfold bQ dV at h1;simp only [Bool.and_eq_true, decide_eq_true_eq] at h1;exact ⟨h1.1.1, h1.1.2, h1.2.1, h1.2.2.1, h1.2.2.2⟩
theorem qD.opOf {h : aI} (hm : qD h) {t : bB} (ht : t ∈ h.2.2) {o : OpM} (ho : o ∈ t.2.2) : jS h.2.1.length o = true := hm.op o (List.mem_flatMap.2 ⟨t, ht, ho⟩)
theorem bKc (L : List (List UInt8)) (i : Nat) (hi : i < L.length) : L.getD i [] ∈ L := by
 have e : L.getD i [] = L[i] := (by simp [hi]);rw [e];exact List.getElem_mem hi
theorem qD.name {h : aI} (hm : qD h) {t : bB} (ht : t ∈ h.2.2) : h.1.getD t.1.toNat [] ∈ h.1 ∧ bA (h.1.getD t.1.toNat []) = true := by
 obtain ⟨a, b, -⟩ := hm.ses ht;have h1 := bKc h.1 t.1.toNat (by omega);exact ⟨h1, ((aHn _).1 hm.t0).1 _ h1⟩
theorem qD.key {h : aI} (hm : qD h) {t : bB} (ht : t ∈ h.2.2) {o : OpM} (ho : o ∈ t.2.2) : h.2.1.getD o.2.1.toNat [] ∈ h.2.1 ∧ bA (h.2.1.getD o.2.1.toNat []) = true := by
 obtain ⟨a, b⟩ := bDv (hm.opOf ht ho);have h1 := bKc h.2.1 o.2.1.toNat (by omega);exact ⟨h1, ((aHn _).1 hm.t1).1 _ h1⟩
end
section
open Go.RowKit
set_option maxHeartbeats 1000000 in
theorem aNj (k : Int) (w : World) :
  Calls Tryz.prog 111 #[.int .i64 k] w fun e w' => e = .returned (.bool (kD k)) ∧ w = w' := by
 rcases aDl k with ⟨rfl, h⟩ | ⟨rfl, h⟩ | ⟨h1, h2, h⟩ <;> rw [h] <;> clear h
 all_goals
  go_enter Tryz.func111, Tryz.ntmps111
  go_wp2
  go_ret;exact ⟨rfl, rfl⟩
theorem aXz (i : Nat) (h0 : 0 < i) (h : i < 7) (l : List UInt8) (e : mY i = l) : dN l = i := by
 subst e
 match i, h0, h with
 | 1, _, _ => decide
 | 2, _, _ => decide
 | 3, _, _ => decide
 | 4, _, _ => decide
 | 5, _, _ => decide
 | 6, _, _ => decide
theorem aRw (l : List UInt8) (h : ∀ i : Nat, 0 < i → i < 7 → mY i ≠ l) : dN l = 0 := by
 have h1 := h 1 (by decide) (by decide);have h2 := h 2 (by decide) (by decide);have h3 := h 3 (by decide) (by decide);have h4 := h 4 (by decide) (by decide);have h5 := h 5 (by decide) (by decide);have h6 := h 6 (by decide) (by decide);simp only [mY] at h1 h2 h3 h4 h5 h6;unfold dN;rw [if_neg (fun e => h1 (by rw [e]; rfl)), if_neg (fun e => h2 (by rw [e]; rfl)), if_neg (fun e => h3 (by rw [e]; rfl)), if_neg (fun e => h4 (by rw [e]; rfl)), if_neg (fun e => h5 (by rw [e]; rfl)), if_neg (fun e => h6 (by rw [e]; rfl))]
def aKt : Value := .agg #[.string (bs []), .string (bs [98, 101, 103, 105, 110]), .string (bs [114, 101, 97, 100]), .string (bs [119, 114, 105, 116, 101]), .string (bs [111, 107]), .string (bs [102, 97, 105, 108]), .string (bs [105, 110, 102, 111])]
theorem bFp (w : World) : (Instr.index 177 aKt (.int .i64 ((0 : Nat) : Int))).run Tryz.prog w = .ok (.string (bs (mY ((0 : Nat) : Int)))) w := by kernel_rfl
theorem bKz (w : World) : (Instr.index 177 aKt (.int .i64 ((1 : Nat) : Int))).run Tryz.prog w = .ok (.string (bs (mY ((1 : Nat) : Int)))) w := by kernel_rfl
theorem bLa (w : World) : (Instr.index 177 aKt (.int .i64 ((2 : Nat) : Int))).run Tryz.prog w = .ok (.string (bs (mY ((2 : Nat) : Int)))) w := by kernel_rfl
theorem bLb (w : World) : (Instr.index 177 aKt (.int .i64 ((3 : Nat) : Int))).run Tryz.prog w = .ok (.string (bs (mY ((3 : Nat) : Int)))) w := by kernel_rfl
theorem bLc (w : World) : (Instr.index 177 aKt (.int .i64 ((4 : Nat) : Int))).run Tryz.prog w = .ok (.string (bs (mY ((4 : Nat) : Int)))) w := by kernel_rfl
theorem bLd (w : World) : (Instr.index 177 aKt (.int .i64 ((5 : Nat) : Int))).run Tryz.prog w = .ok (.string (bs (mY ((5 : Nat) : Int)))) w := by kernel_rfl
theorem bLg (w : World) : (Instr.index 177 aKt (.int .i64 ((6 : Nat) : Int))).run Tryz.prog w = .ok (.string (bs (mY ((6 : Nat) : Int)))) w := by kernel_rfl
theorem bJa (i : Nat) (h : i < 7) (w : World) : (Instr.index 177 aKt (.int .i64 (i : Int))).run Tryz.prog w = .ok (.string (bs (mY i))) w :=
 match i, h with
 | 0, _ => bFp w
 | 1, _ => bKz w
 | 2, _ => bLa w
 | 3, _ => bLb w
 | 4, _ => bLc w
 | 5, _ => bLd w
 | 6, _ => bLg w
set_option maxRecDepth 100000 in
set_option maxHeartbeats 1000000 in
theorem bDg (l : List UInt8) (w : World) (hE : EvTab w) :
  Calls Tryz.prog 110 #[.string (bs l)] w fun e w' => e = .returned (.int .i64 (dN l)) ∧ w = w' := by
 have h0 : w.cell? ⟨0, 0, none⟩ = some (.string (bs [])) := hE 0 (by decide);have h1 : w.cell? ⟨0, 1, none⟩ = some (.string (bs [98, 101, 103, 105, 110])) := hE 1 (by decide);have h2 : w.cell? ⟨0, 2, none⟩ = some (.string (bs [114, 101, 97, 100])) := hE 2 (by decide);have h3 : w.cell? ⟨0, 3, none⟩ = some (.string (bs [119, 114, 105, 116, 101])) := hE 3 (by decide);have h4 : w.cell? ⟨0, 4, none⟩ = some (.string (bs [111, 107])) := hE 4 (by decide);have h5 : w.cell? ⟨0, 5, none⟩ = some (.string (bs [102, 97, 105, 108])) := hE 5 (by decide);have h6 : w.cell? ⟨0, 6, none⟩ = some (.string (bs [105, 110, 102, 111])) := hE 6 (by decide);clear hE;have IX := lhid bJa;go_enter Tryz.func110, Tryz.ntmps110
 go_wp2
 clear h0 h1 h2 h3 h4 h5 h6
 go_loop [6] (fun i => ∃ k : Nat, k ≤ 7 ∧ i = .int .i64 k ∧ ∀ j : Nat, 0 < j → j < k → mY j ≠ l) (fun i => 7 - (RowKit.intOf i).toNat)
 case atStart => exact ⟨0, by omega, rfl, fun j h0 h1 => absurd h1 (Nat.not_lt_zero j)⟩
 case round =>
  obtain ⟨k, hk, rfl, hno⟩ := hrel;have HNo := lhid hno;clear hno;by_cases hlt : k < 7
  ·have ix := IX.out k hlt;unfold aKt at ix;by_cases hk0 : 0 < k
   ·by_cases he : mY k = l
    ·have HR := lhid (aXz k hk0 hlt l he);have hb : (mY k == l) = true := (by rw [he]; simp);clear he;(go_wp2_with fail);go_ret;exact ⟨by rw [HR.out]; rfl, rfl⟩
    ·have HN : Hid (∀ j : Nat, 0 < j → j < k + 1 → mY j ≠ l) := lhid (fun j h0 h1 => by
      by_cases h : j = k
      ·rw [h]; exact he
      ·exact HNo.out j h0 (by omega))
     have hb : (mY k == l) = false := beq_eq_false_iff_ne.2 he;clear he;(go_wp2_with fail);go_round
     case rel => exact ⟨k + 1, by omega, by go_num, HN.out⟩
     case measure => simp [RowKit.intOf]; omega
   ·have hk1 : k = 0 := (by omega);subst hk1;clear ix;have ix : ∀ w : World, (Instr.index 177 (.agg #[.string (bs []), .string (bs [98, 101, 103, 105, 110]), .string (bs [114, 101, 97, 100]), .string (bs [119, 114, 105, 116, 101]), .string (bs [111, 107]), .string (bs [102, 97, 105, 108]), .string (bs [105, 110, 102, 111])]) (.int .i64 0)).run Tryz.prog w = .ok (.string (bs [])) w := bFp;(go_wp2_with fail);go_round
    case rel => exact ⟨1, by omega, rfl, fun j h0 h1 => by omega⟩
    case measure => simp [RowKit.intOf]
  ·have hk7 : k = 7 := (by omega);subst hk7;have HR := lhid (aRw l HNo.out);(go_wp2_with fail);go_ret;exact ⟨by rw [HR.out]; rfl, rfl⟩
end
section
open Go.RowKit
def evc (x : aV) : List Value := [.int .i64 x.1, .string (bs x.2.1), .string (bs x.2.2.1), .int .i64 x.2.2.2.1, .int .i64 x.2.2.2.2.1, .int .i64 x.2.2.2.2.2]
def yI (L : List aV) : List Value := L.flatMap evc
theorem aWx (L : List aV) (x : aV) : yI L ++ evc x = yI (L ++ [x]) := by simp [yI]
def aLk (w : World) (v : Value) (L : List aV) : Prop := ∃ p cap, v = .slice p L.length cap ∧ ∀ j, j < L.length → ∃ g, p = some ⟨g, 0, none⟩ ∧ ∀ i u, (evc (L.getD j kE))[i]? = some u → w.cell? ⟨g, j * 6 + i, none⟩ = some u
theorem aLk.below {w w' : World} {v : Value} {L : List aV} (h : aLk w v L) (hb : Below w.heap.size w w') : aLk w' v L := by
 obtain ⟨p, cap, hv, hc⟩ := h;refine ⟨p, cap, hv, fun j hj => ?_⟩;obtain ⟨g, hp, h1⟩ := hc j hj;exact ⟨g, hp, fun i u hu => cell_later hb (h1 i u hu)⟩
theorem xA (w : World) : aLk w (.slice none 0 0) [] := ⟨none, 0, rfl, fun j hj => absurd hj (Nat.not_lt_zero j)⟩
theorem aMc : ∀ (L : List aV) (j i : Nat), j < L.length → i < 6 → (yI L)[j * 6 + i]? = (evc (L.getD j kE))[i]?
 | [], j, _, hj, _ => absurd hj (Nat.not_lt_zero j)
 | x :: L, 0, i, _, hi => by
  have e : yI (x :: L) = evc x ++ yI L := (by simp [yI]);rw [e, Nat.zero_mul, Nat.zero_add, List.getElem?_append_left (by simp [evc]; omega)];rfl
 | x :: L, j + 1, i, hj, hi => by
  have e : yI (x :: L) = evc x ++ yI L := (by simp [yI]);have h6 : (evc x).length = 6 := rfl;rw [e, List.getElem?_append_right (by rw [h6]; omega), h6, show (j + 1) * 6 + i - 6 = j * 6 + i by omega, aMc L j i (by simpa using hj) hi];rfl
theorem bIn {w : World} {B : Nat} {e : TypeId} {v : Value} {L : List aV} (h : w.ownsRow B e 6 v L.length (yI L)) : aLk w v L := by
 obtain ⟨-, ⟨h0, hn⟩ | ⟨g, cap, cur, hv, -, hw, -, -, -, ht⟩⟩ := h
 ·have : L = [] := List.eq_nil_of_length_eq_zero hn;subst this h0;exact xA w
 ·refine ⟨_, cap, hv, fun j hj => ⟨g, rfl, fun i u hu => ?_⟩⟩;have hi : i < 6 := (List.getElem?_eq_some_iff.1 hu).1;have h1 := congrArg (fun x : List Value => x[j * 6 + i]?) ht;simp only [List.getElem?_take, show j * 6 + i < L.length * 6 by omega, if_true, Array.getElem?_toList] at h1;rw [cell_of_row w g (j * 6 + i) _ _ (0, 0) hw, h1, aMc L j i hj hi];exact hu
theorem bHs : (Tryz.prog.info? 116).map (fun i => (i.zero, i.size, i.bytes)) = some (some (.agg #[.int .i64 0, .string ByteArray.empty, .string ByteArray.empty, .int .i64 0, .int .i64 0, .int .i64 0]), 6, 64) := by kernel_rfl
theorem bIg (k vk n ln : Int) (s key : ByteArray) : ∀ u ∈ ([.int .i64 k, .string s, .string key, .int .i64 vk, .int .i64 n, .int .i64 ln] : List Value), u.oneCell' = true := by
 intro u hu;simp at hu;rcases hu with rfl | rfl | rfl | rfl | rfl | rfl <;> rfl
end
section
open Go.RowKit Go.Lib
def jN (o : OpM) : Bool := o.2.2.1 == 2
end
section
instance decOp : DecidableEq OpM := fun a b => (inferInstance : Decidable (a = b))
instance decTxn : DecidableEq bB := fun a b => (inferInstance : Decidable (a = b))
instance decTxns : DecidableEq (List bB) := instDecidableEqList
instance decHist : DecidableEq aI := fun a b => (inferInstance : Decidable (a = b))
end
end Go.Proofs.YtdfegfagedeilaaGreatDoor
