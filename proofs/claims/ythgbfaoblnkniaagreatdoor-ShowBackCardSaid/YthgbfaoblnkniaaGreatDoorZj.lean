/-
  The walks of layer 6 (split): a line's words, in the program. No conditions but that internal/bytealg.MaxLen holds a number.
  The walks of layer 6's reference (split): a line's words. No conditions.
  The walks of layer 6 (split): remarks, texts joined, and the statement SplitWords. No conditions but that unicode/utf8's two tables are as their initialisers lay them and that internal/bytealg.MaxLen holds a number.
  Layer 6 (split): words joined and parted again are the same words, in plain words; and the statements SplitJoins and SplitAgain, walked. No conditions but that unicode/utf8's two tables are as their initialisers lay them and that internal/bytealg.MaxLen holds a number.
  Plain law of layer 3 (digit): a number's decimal text, the number of a text; they undo one another. No program in sight.
-/
import Derived.Test.YthgbfaoblnkniaaGreatDoorZi
import Derived.WalkSmall
import Derived.Deep.RegionHeld3
import Derived.Deep.AppendLies
import Derived.IntWalk
import Derived.Lib.Join
namespace Go.Proofs.YthgbfaoblnkniaaGreatDoor
open Go.RowKit Go.Lib
def wcells (W : List (List UInt8 × Nat)) : List Value := W.flatMap fun x => [.string (bs x.1), .int .i64 (x.2 : Int)]
theorem wcells_next (W : List (List UInt8 × Nat)) (x : List UInt8) (n : Nat) : wcells W ++ [.string (bs x), .int .i64 ((n : Int) + 1)] = wcells (W ++ [(x, n + 1)]) := by simp [wcells]
theorem wcells_at : ∀ (W : List (List UInt8 × Nat)) (j : Nat), j < W.length → (wcells W)[j * 2]? = some (.string (bs (W.getD j ([], 0)).1)) ∧ (wcells W)[j * 2 + 1]? = some (.int .i64 ((W.getD j ([], 0)).2 : Nat))
 | [], j, h => absurd h (Nat.not_lt_zero j)
 | x :: W, 0, _ => ⟨rfl, rfl⟩
 | x :: W, j + 1, h => by
  have := wcells_at W j (by simpa using h)
  have e : wcells (x :: W) = .string (bs x.1) :: .int .i64 (x.2 : Int) :: wcells W := by simp [wcells]
  rw [e, show (j + 1) * 2 = j * 2 + 1 + 1 by omega]
  simpa using this
def HasWords (w : World) (p : Option Addr) (W : List (List UInt8 × Nat)) : Prop :=
 ∀ j, j < W.length → ∃ g, p = some ⟨g, 0, none⟩ ∧ w.cell? ⟨g, j * 2, none⟩ = some (.string (bs (W.getD j ([], 0)).1)) ∧ w.cell? ⟨g, j * 2 + 1, none⟩ = some (.int .i64 ((W.getD j ([], 0)).2 : Nat))
theorem HasWords.below {w w' : World} {p : Option Addr} {W : List (List UInt8 × Nat)} (h : HasWords w p W) (hb : Below w.heap.size w w') : HasWords w' p W := fun j hj => by
 obtain ⟨g, hp, hc, hd⟩ := h j hj
 exact ⟨g, hp, cell_later hb hc, cell_later hb hd⟩
def Words (w : World) (v : Value) (W : List (List UInt8 × Nat)) : Prop := ∃ p cap, v = .slice p W.length cap ∧ HasWords w p W ∧ W.length ≤ cap ∧ cap ≤ maxLen
theorem words_none (w : World) : Words w (.slice none 0 0) [] := ⟨none, 0, rfl, fun j hj => absurd hj (Nat.not_lt_zero j), Nat.le_refl _, Nat.zero_le _⟩
theorem own_words {w : World} {B : Nat} {e : TypeId} {v : Value} {W : List (List UInt8 × Nat)} (h : w.ownsRow B e 2 v W.length (wcells W)) : Words w v W := by
 obtain ⟨-, ⟨h0, hn⟩ | ⟨g, cap, cur, hv, -, hw, hnc, hcm, -, ht⟩⟩ := h
 ·have : W = [] := List.eq_nil_of_length_eq_zero hn
  subst this h0
  exact words_none w
 ·refine ⟨_, cap, hv, fun j hj => ⟨g, rfl, ?_, ?_⟩, hnc, hcm⟩
  ·have h1 := congrArg (fun x : List Value => x[j * 2]?) ht
   simp only [List.getElem?_take, show j * 2 < W.length * 2 by omega, if_true, Array.getElem?_toList] at h1
   rw [cell_of_row w g (j * 2) _ _ (0, 0) hw, h1]
   exact (wcells_at W j hj).1
  ·have h1 := congrArg (fun x : List Value => x[j * 2 + 1]?) ht
   simp only [List.getElem?_take, show j * 2 + 1 < W.length * 2 by omega, if_true, Array.getElem?_toList] at h1
   rw [cell_of_row w g (j * 2 + 1) _ _ (0, 0) hw, h1]
   exact (wcells_at W j hj).2
theorem info_word : (Tryz.prog.info? 132).map (fun i => (i.zero, i.size, i.bytes)) = some (some (.agg #[.string ByteArray.empty, .int .i64 0]), 2, 24) := by kernel_rfl
theorem info_rword : (Tryz.prog.info? 141).map (fun i => (i.zero, i.size, i.bytes)) = some (some (.agg #[.string ByteArray.empty, .int .i64 0]), 2, 24) := by kernel_rfl
theorem sblank_any (c : Nat) (w : World) :
  Calls Tryz.prog 108 #[.int .i32 c] w fun e w' => e = .returned (.bool (blankR c)) ∧ w = w' := by
 go_enter Tryz.func108, Tryz.ntmps108
 go_wp2
 all_goals
  go_ret
  refine ⟨?_, rfl⟩
  unfold blankR
  refine congrArg (fun b => Ending.returned (Value.bool b)) ?_
  rw [Bool.eq_iff_iff]
  simp
  try omega
def hasFeed (s : List UInt8) : Bool := decide (0 ≤ index s [10])
theorem contains_any (l : List UInt8) (hs : l.length ≤ 1000000) (w : World) (hm : HasMax w) :
  Calls Tryz.prog 106 #[.string (bs l), .string (bs [10])] w fun e w' => e = .returned (.bool (hasFeed l)) ∧ w = w' := by
 obtain ⟨m, hm⟩ := hm
 have h := Any.strings_Contains Tryz.laysContains (bs l) (bs [10]) m w (by rw [bs_size]; omega) hm
 rw [bs_list, bs_list] at h
 exact h.mono fun _ _ ⟨a, b⟩ => ⟨a, b.symm⟩
theorem feed_at (l : List UInt8) : hasFeed l = l.any (fun b => decide (b = 10)) := by
 unfold hasFeed
 induction l with
 | nil => simp [index]
 | cons b t ih =>
  by_cases hb : b = 10
  ·subst hb
   have hi : index ((10 : UInt8) :: t) [10] = 0 := by rw [index]; simp [List.isPrefixOf]
   rw [hi]
   simp
  ·rw [index_cons_ne b t hb]
   have hge := index_ge t [10]
   simp only [List.any_cons, hb, decide_false, Bool.false_or]
   rw [← ih]
   by_cases hm : index t [10] = -1
   ·rw [hm]; decide
   ·have hm' : ¬ (index t [10] == -1) = true := fun e => hm (beq_iff_eq.1 e)
    rw [if_neg hm']
    simp only [decide_eq_decide]
    omega
theorem index35_ne (b : UInt8) (l : List UInt8) (h : b ≠ 35) : index (b :: l) [35] = if index l [35] == -1 then -1 else index l [35] + 1 := by
 have hp : ([35] : List UInt8).isPrefixOf (b :: l) = false := by simp [List.isPrefixOf, Ne.symm h]
 rw [index, hp]
 simp
theorem index35 : ∀ l : List UInt8, (index l [35] = -1 ∧ aheadL l = l) ∨ (index l [35] = (aheadL l).length ∧ (aheadL l).length < l.length)
 | [] => .inl ⟨by simp [index], rfl⟩
 | b :: t => by
  by_cases hb : b = 35
  ·subst hb
   right
   have hi : index ((35 : UInt8) :: t) [35] = 0 := by rw [index]; simp [List.isPrefixOf]
   rw [hi]
   simp [aheadL]
  ·have e : aheadL (b :: t) = b :: aheadL t := by simp [aheadL, hb]
   rw [index35_ne b t hb, e]
   rcases index35 t with ⟨h1, h2⟩ | ⟨h1, h2⟩
   ·left
    rw [h1, h2]
    exact ⟨rfl, rfl⟩
   ·right
    have hm' : ¬ (((aheadL t).length : Int) == -1) = true := fun e => by have := beq_iff_eq.1 e; omega
    rw [h1, if_neg hm']
    simp only [List.length_cons]
    omega
theorem ahead_take (l : List UInt8) : aheadL l = l.take (aheadL l).length := by
 rcases ahead_app l with h | ⟨y, h⟩
 ·rw [h, List.take_length]
 ·have e := congrArg (List.take (aheadL l).length) h
  rw [List.take_left] at e
  exact e.symm
theorem cut_any (l : List UInt8) (hs : l.length ≤ 1000000) (w : World) (hm : HasMax w) :
  Calls Tryz.prog 107 #[.string (bs l), .string (bs [35])] w fun e w' => e = .returned (.tuple #[.string (bs (aheadL l)), .string (bs (l.drop ((aheadL l).length + 1))), .bool (decide ((aheadL l).length < l.length))]) ∧ ∃ n, w' = w.drewN n := by
 obtain ⟨m, hm⟩ := hm
 have h := Any.strings_Cut Tryz.laysCut (bs l) (bs [35]) m w (by rw [bs_size]; omega) hm
 rw [bs_list, bs_list] at h
 have e : cut l [35] = (aheadL l, l.drop ((aheadL l).length + 1), decide ((aheadL l).length < l.length)) := by
  unfold cut
  rcases index35 l with ⟨h1, h2⟩ | ⟨h1, h2⟩
  ·rw [h1, h2, if_neg (by decide), List.drop_eq_nil_of_le (by omega), decide_eq_false (Nat.lt_irrefl _)]
  ·rw [h1, if_pos (by omega), show ((aheadL l).length : Int).toNat = (aheadL l).length by omega, ← ahead_take, decide_eq_true h2]
   rfl
 rw [e] at h
 exact h
def frV : Option Nat → Value
 | some f => .int .i64 (f : Int)
 | none => .int .i64 (-1)
def wordsR (s : List UInt8) : List (List UInt8 × Nat) × Nat := if validD s && !hasFeed s then (wordsL (aheadL s), 0) else ([], 5)
def WordsAt (t : List UInt8) (w wr : World) (k0 : Nat) (v fr fi n : Value) (R : List (Nat × Nat)) : Prop :=
 ∃ p k : Nat, ∃ st : Option Nat, ∃ done : List (Nat × Nat), p ≤ t.length ∧ k ≤ p ∧ n = .int .i64 k ∧ fr = frV st ∧ (∀ f, st = some f → f ≤ p ∧ fi = .int .i64 ((colN t 0 f + 1 : Nat) : Int)) ∧
  wr.ownsRow (k0 + 1) 132 2 v done.length (wcells (done.map (wordAt t))) ∧ wr.heap[k0]? = some (.stringIter (bs t) p) ∧ Below w.heap.size w wr ∧ k0 < wr.heap.size ∧
  RunesTo t p k ∧ R = done ++ scanGo t (t.length - p) p st ∧ done.length ≤ p
set_option maxRecDepth 100000 in
set_option maxHeartbeats 2000000 in
theorem swords_any (s : List UInt8) (hs : s.length ≤ 1000000) (w : World) (hm : HasMax w) :
  Calls Tryz.prog 78 #[.string (bs s)] w fun e w' => ∃ v, e = .returned (.tuple #[v, .int .i64 ((wordsR s).2 : Nat)]) ∧ Words w' v (wordsR s).1 ∧ Below w.heap.size w w' := by
 have HC := Lib.hid (lrunes_any s hs)
 have hv := runesN_snd s
 generalize runesN s = N at *
 obtain ⟨N1, N2⟩ := N
 simp only at HC hv
 subst hv
 have HF := Lib.hid (contains_any s hs)
 have HX := Lib.hid (cut_any s hs)
 have HM := Lib.hid hm
 clear hm
 have eR : wordsR s = if validD s && !hasFeed s then (wordsL (aheadL s), 0) else ([], 5) := rfl
 rw [eR]
 clear eR
 have hlen := ahead_len s
 generalize validD s = V at *
 generalize hasFeed s = F at *
 cases V with
 | false =>
  go_enter Tryz.func78, Tryz.ntmps78
  go_wp2_with fail
  refine (HC.out _).mono ?_
  rintro e w1 ⟨rfl, hb1⟩
  go_wp2_with fail
  go_ret2
  exact ⟨_, rfl, words_none _, hb1⟩
 | true =>
  cases F with
  | true =>
   go_enter Tryz.func78, Tryz.ntmps78
   go_wp2_with fail
   refine (HC.out _).mono ?_
   rintro e w1 ⟨rfl, hb1⟩
   have HM1 := Lib.hid (HM.out.below hb1)
   go_wp2_with fail
   refine (HF.out _ HM1.out).mono ?_
   rintro e w' ⟨rfl, rfl⟩
   go_wp2_with fail
   go_ret2
   exact ⟨_, rfl, words_none _, hb1⟩
  | false =>
   show Calls _ _ _ _ fun e w' => ∃ v, e = .returned (.tuple #[v, .int .i64 ((0 : Nat) : Int)]) ∧ Words w' v (wordsL (aheadL s)) ∧ Below w.heap.size w w'
   have hlt : (aheadL s).length ≤ 1000000 := by omega
   generalize aheadL s = t at *
   obtain ⟨R, hR⟩ : ∃ R, scanL t = R := ⟨_, rfl⟩
   have eW : wordsL t = R.map (wordAt t) := by rw [← hR]; rfl
   rw [eW]
   have HR := Lib.hid hR
   clear hR eW hlen
   obtain ⟨i0, hi, hz0, hz1, hz2⟩ := info_parts info_word
   go_enter Tryz.func78, Tryz.ntmps78
   go_wp2_with fail
   refine (HC.out _).mono ?_
   rintro e w1 ⟨rfl, hb1⟩
   have HM1 := Lib.hid (HM.out.below hb1)
   go_wp2_with fail
   refine (HF.out _ HM1.out).mono ?_
   rintro e w' ⟨rfl, rfl⟩
   go_wp2_with fail
   refine (HX.out _ HM1.out).mono ?_
   rintro e w2 ⟨rfl, q, rfl⟩
   have hb2 : Below w.heap.size w (w1.drewN q) := hb1.trans ⟨rfl, rfl, rfl, Nat.le_refl _, fun _ _ => rfl⟩
   go_wp2_with fail
   go_loopw [6, 7, 8, 9] (fun v fr fi n wr => WordsAt t w wr w1.heap.size v fr fi n R) (fun _ _ _ _ wr => t.length - wr.iterPos w1.heap.size)
   case atStart =>
    refine ⟨0, 0, none, [], Nat.zero_le _, Nat.le_refl _, rfl, rfl, (fun f hf => by cases hf), World.ownsRow_nil _ _ _ _, ?_, hb2.alloc (by have := hb1.size; simpa using this) _, by simp [World.iter], runesTo_start t, by rw [← HR.out]; rfl, Nat.le_refl _⟩
    have h5 := World.iter_heap (w1.drewN q) (bs t) 0
    exact h5
   case round =>
    obtain ⟨p, k, st, done, hp, hkp, rfl, rfl, hfi, hown, hit, hbw, hk0, hrt, hR, hdl⟩ := hrel
    have HFI := Lib.hid hfi
    have HRT := Lib.hid hrt
    have HRR := Lib.hid hR
    clear hfi hrt hR
    by_cases hlt : p < t.length
    ·have hb := one_bounds t p hlt
     have hnx := fun ty => run_next_any_at (P := Tryz.prog) wr w1.heap.size (bs t) p ty hit (by rw [bs_size]; exact hlt)
     rw [← decodeL_drop, bs_list] at hnx
     have eo : decodeL (t.drop p) = oneAt t p := rfl
     rw [eo] at hnx
     have hit2 := iterAt_heap wr w1.heap.size (bs t) p (p + (oneAt t p).2) hit
     have hbw2 := below_iterAt hbw (k := w1.heap.size) (by have := hb1.size; omega) (bs t) (p + (oneAt t p).2)
     have hown' := ownsRow_iterAt hown (k := w1.heap.size) (by omega) (bs t) (p + (oneAt t p).2)
     have hsz := iterAt_size wr w1.heap.size (bs t) (p + (oneAt t p).2)
     obtain ⟨sr1, sr2⟩ := scan_rune t p st hlt
     have hrt2 := Lib.hid (runesTo_step t p k hlt HRT.out)
     have hcol := runesTo_col t p k HRT.out
     have hle : (oneAt t p).1 ≤ 1114111 := decodeL_rune _
     have HB := Lib.hid (sblank_any (oneAt t p).1)
     obtain ⟨D, hD⟩ : ∃ D, oneAt t p = D := ⟨_, rfl⟩
     rw [hD] at hb hnx hit2 hbw2 hown' sr1 sr2 hrt2 hle HB hsz
     obtain ⟨WW, hWW⟩ : ∃ WW, wr.iterAt w1.heap.size (bs t) (p + D.2) = WW := ⟨_, rfl⟩
     rw [hWW] at hnx hit2 hbw2 hown' hsz
     have hpos : WW.iterPos w1.heap.size = p + D.2 := iterPos_of hit2
     have hpos0 : wr.iterPos w1.heap.size = p := iterPos_of hit
     have hk1 : w1.heap.size < WW.heap.size := by omega
     have hk2 := hbw2.size
     clear eo hD hWW hown hit hbw hsz
     cases hbl : blankR D.1 with
     | true =>
      rw [hbl] at HB
      have hs1 := Lib.hid (sr1 hbl)
      clear sr1 sr2 hbl
      cases st with
      | none =>
       have hR2 := Lib.hid (HRR.out.trans (congrArg (done ++ ·) hs1.out))
       clear HRR hs1
       simp only [frV, pushed, List.nil_append] at hR2 ⊢
       go_wp2_with (go_at_call 108; refine (HB.out _).mono ?_; rintro e w3 ⟨rfl, rfl⟩)
       go_roundw
       case rel => exact ⟨p + D.2, k + 1, none, done, hb.2, by omega, by go_num, rfl, (fun f hf => by cases hf), hown', hit2, hbw2, hk1, hrt2.out, hR2.out, by omega⟩
       case measure => rw [hpos, hpos0]; omega
      | some f =>
       obtain ⟨hfp, rfl⟩ := HFI.out f rfl
       have hR2 := Lib.hid (HRR.out.trans (congrArg (done ++ ·) hs1.out))
       clear HRR hs1 HFI
       simp only [frV, pushed] at hR2 ⊢
       go_wp2_with (first
        | (go_at_call 108; refine (HB.out _).mono ?_; rintro e w3 ⟨rfl, rfl⟩)
        | (at_builtin; refine wpList_append_own _ rfl _ _ 127 rfl (w1.heap.size + 1) 132 i0 (.agg #[.string ByteArray.empty, .int .i64 0]) 2 24 Tryz.underlying127 hi hz0 hz1 hz2 rfl (by decide) _ _ _ rfl (hown'.alloc _) ⟨WW.heap.size, 0, none⟩ 1 1 [.string (bs (curL t f p)), .int .i64 ((colN t 0 f + 1 : Nat) : Int)] rfl rfl ?c1 ?c2 ?c3 ?c4 ?c5 ?_))
       case c1 =>
        intro j u hj
        match j, hj with
        | 0, hj => simp at hj; subst hj; simp [Addr.add, curL]
        | 1, hj => simp at hj; subst hj; simp [Addr.add]
       case c2 => intro u hu; simp at hu; rcases hu with rfl | rfl <;> rfl
       case c3 => unfold maxLen; omega
       case c4 => omega
       case c5 => simp; omega
       ·intro v' w4 hown4 hgrow hnil
        have hlow := hown'.lt
        have hit4 : w4.heap[w1.heap.size]? = some (.stringIter (bs t) (p + D.2)) := by
         rw [hgrow.block w1.heap.size (by simp; omega) (fun e => by have := (hlow _ e.symm).1; omega), heap_alloc_old WW _ hk1]
         exact hit2
        have hb4 : Below w.heap.size w w4 := (hbw2.alloc hk2 _).grown hgrow (by simp; omega) (fun k hk => by have := (hlow k hk).1; have := hb1.size; omega)
        have hk4 : w1.heap.size < w4.heap.size := by have := hgrow.size; simp at this; omega
        have hpos4 : w4.iterPos w1.heap.size = p + D.2 := iterPos_of hit4
        have HO := Lib.hid hown4
        clear hown4 hnil hit2 hbw2 hown' hgrow hlow
        go_wp2_with fail
        go_roundw
        case rel =>
         refine ⟨p + D.2, k + 1, none, done ++ [(f, p)], hb.2, by omega, by go_num, rfl, (fun f hf => by cases hf), ?_, hit4, hb4, hk4, hrt2.out, by rw [hR2.out]; simp, by simp; omega⟩
         have h5 := HO.out
         rw [wcells_next] at h5
         simpa [wordAt] using h5
        case measure => rw [hpos4, hpos0]; omega
     | false =>
      rw [hbl] at HB
      have hs2 := Lib.hid (sr2 hbl)
      clear sr1 sr2 hbl
      cases st with
      | none =>
       have hR2 := Lib.hid (HRR.out.trans (congrArg (done ++ ·) hs2.out))
       clear HRR hs2
       simp only [frV, Option.getD_none] at hR2 ⊢
       go_wp2_with (go_at_call 108; refine (HB.out _).mono ?_; rintro e w3 ⟨rfl, rfl⟩)
       go_roundw
       case rel => exact ⟨p + D.2, k + 1, some p, done, hb.2, by omega, by go_num, rfl, (fun f hf => by obtain rfl := Option.some.inj hf; exact ⟨by omega, by rw [hcol]; go_num⟩), hown', hit2, hbw2, hk1, hrt2.out, hR2.out, by omega⟩
       case measure => rw [hpos, hpos0]; omega
      | some f =>
       obtain ⟨hfp, rfl⟩ := HFI.out f rfl
       have hR2 := Lib.hid (HRR.out.trans (congrArg (done ++ ·) hs2.out))
       clear HRR hs2 HFI
       simp only [frV, Option.getD_some] at hR2 ⊢
       go_wp2_with (go_at_call 108; refine (HB.out _).mono ?_; rintro e w3 ⟨rfl, rfl⟩)
       go_roundw
       case rel => exact ⟨p + D.2, k + 1, some f, done, hb.2, by omega, by go_num, rfl, (fun g hg => by obtain rfl := Option.some.inj hg; exact ⟨by omega, rfl⟩), hown', hit2, hbw2, hk1, hrt2.out, hR2.out, by omega⟩
       case measure => rw [hpos, hpos0]; omega
    ·have hnx := fun ty => run_next_end_at (P := Tryz.prog) wr w1.heap.size (bs t) p ty hit (by rw [bs_size]; exact hlt)
     have hep : p = t.length := by omega
     have hR2 := Lib.hid (HRR.out.trans (congrArg (done ++ ·) (scan_end t p st (by omega))))
     subst hep
     clear HRR
     cases st with
     | none =>
      simp only [frV, pushed, List.append_nil] at hR2 ⊢
      go_wp2_with fail
      go_ret2
      rw [hR2.out]
      exact ⟨_, rfl, own_words (by rw [List.length_map]; exact hown), hbw⟩
     | some f =>
      obtain ⟨hfp, rfl⟩ := HFI.out f rfl
      simp only [frV, pushed] at hR2 ⊢
      go_wp2_with (at_builtin; refine wpList_append_own _ rfl _ _ 127 rfl (w1.heap.size + 1) 132 i0 (.agg #[.string ByteArray.empty, .int .i64 0]) 2 24 Tryz.underlying127 hi hz0 hz1 hz2 rfl (by decide) _ _ _ rfl (hown.alloc _) ⟨wr.heap.size, 0, none⟩ 1 1 [.string (bs (curL t f t.length)), .int .i64 ((colN t 0 f + 1 : Nat) : Int)] rfl rfl ?c1 ?c2 ?c3 ?c4 ?c5 ?_)
      case c1 =>
       intro j u hj
       match j, hj with
       | 0, hj => simp at hj; subst hj; simp [Addr.add, curL]
       | 1, hj => simp at hj; subst hj; simp [Addr.add]
      case c2 => intro u hu; simp at hu; rcases hu with rfl | rfl <;> rfl
      case c3 => unfold maxLen; omega
      case c4 => omega
      case c5 => simp; omega
      ·intro v' w4 hown4 hgrow hnil
       have HO := Lib.hid hown4
       clear hown4 hnil
       go_wp2_with fail
       go_ret2
       rw [hR2.out]
       refine ⟨_, rfl, own_words (B := w1.heap.size + 1) (e := 132) ?_, ?_⟩
       ·have h5 := HO.out
        rw [wcells_next] at h5
        simpa [wordAt] using h5
       ·exact (hbw.alloc hbw.size _).grown hgrow (by have := hbw.size; simp; omega) (fun k hk => by have := (hown.lt k hk).1; have := hb1.size; omega)
end Go.Proofs.YthgbfaoblnkniaaGreatDoor

namespace Go.Proofs.YthgbfaoblnkniaaGreatDoor
open Go.RowKit Go.Lib
theorem news_word (w : World) (x : ByteArray) (n : Int) (e : TypeId) : ∀ (j : Nat) (u : Value), ([.string x, .int .i64 n] : List Value)[j]? = some u → (w.alloc (.cells #[.string x, .int .i64 n] e)).cell? ((⟨w.heap.size, 0, none⟩ : Addr).add j) = some u := by
 intro j u hj
 match j, hj with
 | 0, hj => simp at hj; subst hj; simp [Addr.add]
 | 1, hj => simp at hj; subst hj; simp [Addr.add]
theorem ones_word (x : ByteArray) (n : Int) : ∀ u ∈ ([.string x, .int .i64 n] : List Value), u.oneCell' = true := by
 intro u hu
 simp at hu
 rcases hu with rfl | rfl <;> rfl
theorem wrap_one (n : Nat) (h : n ≤ 1000000) : IntKind.i64.wrap ((n : Int) + 1) = (n : Int) + 1 := IntWalk.i64_in _ (by omega)
theorem ahead_none (s : List UInt8) : ∀ i, i ≤ s.length → (∀ j, j < i → s.getD j 0 ≠ 35) → (i = s.length → aheadL s = s) ∧ (∀ h : i < s.length, s[i] = 35 → aheadL s = s.take i) := by
 induction s with
 | nil => intro i _ _; exact ⟨fun _ => rfl, fun h => absurd h (Nat.not_lt_zero i)⟩
 | cons b t ih =>
  intro i hi hn
  cases i with
  | zero =>
   refine ⟨fun h => by simp at h, fun h hb => ?_⟩
   have hb' : b = 35 := hb
   simp [aheadL, hb']
  | succ i =>
   have h0 := hn 0 (Nat.succ_pos i)
   have hb : b ≠ 35 := h0
   have e : aheadL (b :: t) = b :: aheadL t := by simp [aheadL, hb]
   obtain ⟨h1, h2⟩ := ih i (by simpa using hi) (fun j hj => by have := hn (j + 1) (by omega); simpa using this)
   refine ⟨fun h => by rw [e, h1 (by simpa using h)], fun h hx => ?_⟩
   rw [e, h2 (by simpa using h) (by simpa using hx)]
   rfl
set_option maxRecDepth 100000 in
set_option maxHeartbeats 1000000 in
theorem rahead_any (s : List UInt8) (hs : s.length ≤ 1000000) (w : World) :
  Calls Tryz.prog 114 #[.string (bs s)] w fun e w' => e = .returned (.string (bs (aheadL s))) ∧ w = w' := by
 have HA := Lib.hid (ahead_none s)
 generalize aheadL s = t at *
 go_enter Tryz.func114, Tryz.ntmps114
 go_wp2_with fail
 go_loop [3] (fun v => ∃ i : Nat, i ≤ s.length ∧ v = .int .i64 i ∧ ∀ j, j < i → s.getD j 0 ≠ 35) (fun v => s.length - (RowKit.intOf v).toNat)
 case atStart => exact ⟨0, Nat.zero_le _, rfl, fun j hj => absurd hj (Nat.not_lt_zero j)⟩
 case round =>
  obtain ⟨i, hi, rfl, hn⟩ := hrel
  have HN := Lib.hid hn
  clear hn
  by_cases hlt : i < s.length
  ·by_cases hb : s[i] = 35
   ·have e1 : ((s[i].toNat : Int) == 35) = true := by rw [hb]; rfl
    have H2 := Lib.hid ((HA.out i hi HN.out).2 hlt hb)
    clear hb
    go_wp2_with fail
    go_ret
    exact ⟨by rw [H2.out]; rfl, rfl⟩
   ·have e1 : ((s[i].toNat : Int) == 35) = false := by
     rw [beq_eq_false_iff_ne]
     intro h
     exact hb (UInt8.toNat_inj.1 (by simpa using (by omega : s[i].toNat = 35)))
    have H2 : RowKit.Hid (∀ j, j < i + 1 → s.getD j 0 ≠ 35) := Lib.hid (by
     intro j hj
     by_cases hji : j < i
     ·exact HN.out j hji
     ·obtain rfl : j = i := by omega
      rw [getD_at s j hlt]
      exact hb)
    clear hb
    go_wp2_with fail
    go_round
    case rel => exact ⟨i + 1, by omega, by go_num, H2.out⟩
    case measure => simp [RowKit.intOf]; omega
  ·have hie : i = s.length := by omega
   have H2 := Lib.hid ((HA.out i hi HN.out).1 hie)
   subst hie
   clear hlt
   go_wp2_with fail
   go_ret
   exact ⟨by rw [H2.out]; rfl, rfl⟩
def refW (t : List UInt8) (done : List (Nat × Nat)) (i : Nat) (st : Option Nat) : List (Nat × Nat) := if i ≤ t.length then done ++ scanGo t (t.length - i) i st else done
theorem refW_blank (t : List UInt8) (done : List (Nat × Nat)) (i : Nat) (st : Option Nat) (h : i = t.length ∨ ∃ h : i < t.length, blankB t[i] = true) : refW t done i st = refW t (done ++ pushed st i) (i + 1) none := by
 unfold refW
 rcases h with h | ⟨h, hb⟩
 ·rw [if_pos (by omega), if_neg (by omega), scan_end t i st (by omega)]
 ·rw [if_pos (by omega), if_pos (by omega), scan_blank t i st h hb, List.append_assoc]
theorem refW_go (t : List UInt8) (done : List (Nat × Nat)) (i : Nat) (st : Option Nat) (h : i < t.length) (hb : blankB t[i] = false) : refW t done i st = refW t done (i + 1) (some (st.getD i)) := by
 unfold refW
 rw [if_pos (by omega), if_pos (by omega), scan_go t i st h hb]
theorem any_drop (s : List UInt8) (i : Nat) (h : i < s.length) : (s.drop i).any (fun b => decide (b = 10)) = (decide (s[i] = 10) || (s.drop (i + 1)).any (fun b => decide (b = 10))) := by
 rw [List.drop_eq_getElem_cons h, List.any_cons]
theorem colT_ahead (s : List UInt8) (f : Nat) (hv : validD s = true) (hf : f ≤ (aheadL s).length) : colT s f = colN (aheadL s) 0 f := by
 unfold colT
 rw [if_pos hv]
 exact (col_ahead s f hf (ahead_len s) _ 0 (Nat.le_refl _) (Nat.zero_le _)).symm
set_option maxRecDepth 100000 in
set_option maxHeartbeats 2000000 in
theorem rwords_any (s : List UInt8) (hs : s.length ≤ 1000000) (w : World) :
  Calls Tryz.prog 85 #[.string (bs s)] w fun e w' => ∃ v, e = .returned (.tuple #[v, .int .i64 ((wordsR s).2 : Nat)]) ∧ Words w' v (wordsR s).1 ∧ Below w.heap.size w w' := by
 have HC := Lib.hid (rrunes_any s hs)
 have hv := runesN_snd s
 generalize runesN s = N at *
 obtain ⟨N1, N2⟩ := N
 simp only at HC hv
 subst hv
 have HA := Lib.hid (rahead_any s hs)
 have HZ := Lib.hid (rcolumn_any s hs)
 have HCol := Lib.hid (colT_ahead s)
 have eR : wordsR s = if validD s && !hasFeed s then (wordsL (aheadL s), 0) else ([], 5) := rfl
 rw [eR]
 clear eR
 have hlen := ahead_len s
 have hF := feed_at s
 generalize hasFeed s = F at *
 generalize validD s = V at *
 cases V with
 | false =>
  go_enter Tryz.func85, Tryz.ntmps85
  go_wp2_with fail
  refine (HC.out _).mono ?_
  rintro e w1 ⟨rfl, rfl⟩
  go_wp2_with fail
  go_ret2
  exact ⟨_, rfl, words_none _, Below.refl _ _⟩
 | true =>
  have HCol2 := Lib.hid (fun f hf => HCol.out f rfl hf)
  clear HCol
  have HF := Lib.hid hF.symm
  have hlt0 : (aheadL s).length ≤ 1000000 := by omega
  clear hF hlen
  generalize aheadL s = t at *
  obtain ⟨R, hR⟩ : ∃ R, scanL t = R := ⟨_, rfl⟩
  have eW : wordsL t = R.map (wordAt t) := by rw [← hR]; rfl
  rw [eW]
  have HR : RowKit.Hid (refW t [] 0 none = R) := Lib.hid (by rw [← hR]; rfl)
  clear hR eW
  obtain ⟨i0, hi, hz0, hz1, hz2⟩ := info_parts info_rword
  go_enter Tryz.func85, Tryz.ntmps85
  go_wp2_with fail
  refine (HC.out _).mono ?_
  rintro e w1 ⟨rfl, rfl⟩
  go_wp2_with fail
  go_loop [6] (fun v => ∃ i : Nat, i ≤ s.length ∧ v = .int .i64 i ∧ (s.drop i).any (fun b => decide (b = 10)) = F) (fun v => s.length - (RowKit.intOf v).toNat)
  case atStart => exact ⟨0, Nat.zero_le _, rfl, HF.out⟩
  case round =>
   obtain ⟨i, hi', rfl, hn⟩ := hrel
   by_cases hlt : i < s.length
   ·rw [any_drop s i hlt] at hn
    by_cases hb : s[i] = 10
    ·have e1 : ((s[i].toNat : Int) == 10) = true := by rw [hb]; rfl
     have hFt : F = true := by rw [← hn]; simp [hb]
     subst hFt
     clear hb hn
     go_wp2_with fail
     go_ret2
     exact ⟨_, rfl, words_none _, Below.refl _ _⟩
    ·have e1 : ((s[i].toNat : Int) == 10) = false := by
      rw [beq_eq_false_iff_ne]
      intro h
      exact hb (UInt8.toNat_inj.1 (by simpa using (by omega : s[i].toNat = 10)))
     have H2 : RowKit.Hid ((s.drop (i + 1)).any (fun b => decide (b = 10)) = F) := Lib.hid (by rw [← hn]; simp [hb])
     clear hb hn
     go_wp2_with fail
     go_round
     case rel => exact ⟨i + 1, by omega, by go_num, H2.out⟩
     case measure => simp [RowKit.intOf]; omega
   ·rw [List.drop_eq_nil_of_le (by omega)] at hn
    have hFf : F = false := hn.symm
    subst hFf
    clear hn
    go_wp2_with fail
    refine (HA.out _).mono ?_
    rintro e w1 ⟨rfl, rfl⟩
    go_wp2_with fail
    go_loopw [8, 9, 10] (fun v fr n wr => ∃ i : Nat, ∃ st : Option Nat, ∃ done : List (Nat × Nat), i ≤ t.length + 1 ∧ n = .int .i64 i ∧ fr = frV st ∧ (∀ f, st = some f → f < i ∧ f < t.length) ∧ wr.ownsRow w.heap.size 141 2 v done.length (wcells (done.map (wordAt t))) ∧ Below w.heap.size w wr ∧ refW t done i st = R ∧ done.length ≤ i ∧ (t.length < i → st = none))
     (fun _ _ n _ => t.length + 1 - (RowKit.intOf n).toNat)
    case atStart =>
     exact ⟨0, none, [], Nat.zero_le _, rfl, rfl, (fun f hf => by cases hf), World.ownsRow_made w #[] 0 (Nat.le_refl _) (Nat.zero_le _) rfl, (Below.refl _ _).alloc (Nat.le_refl _) _, HR.out, Nat.le_refl _, fun _ => rfl⟩
    case round =>
     obtain ⟨i, st, done, hi', rfl, rfl, hst, hown, hbw, hr, hdl, hend⟩ := hrel
     by_cases hle : i ≤ t.length
     ·by_cases hte : i = t.length
      ·have e1 : ((i : Int) == (t.length : Int)) = true := beq_iff_eq.2 (by omega)
       rw [refW_blank t done i st (.inl hte)] at hr
       cases st with
       | none =>
        simp only [frV, pushed, List.append_nil] at hr ⊢
        have H2 := Lib.hid hr
        clear hr hst hend
        go_wp2_with fail
        go_roundw
        case rel => exact ⟨i + 1, none, done, by omega, by go_num, rfl, (fun f hf => by cases hf), hown, hbw, H2.out, by omega, fun _ => rfl⟩
        case measure => simp [RowKit.intOf]; omega
       | some f =>
        obtain ⟨hf1, hf2⟩ := hst f rfl
        have hf3 : f ≤ t.length := by omega
        have hf4 : f ≤ i := by omega
        simp only [frV, pushed] at hr ⊢
        have H2 := Lib.hid hr
        have hcol := HCol2.out f (by omega)
        have HZ2 := Lib.hid (HZ.out f)
        rw [hcol] at HZ2
        have hc1 : colN t 0 f ≤ 1000000 := Nat.le_trans (col_le t f _ 0 (Nat.le_refl _)) (by omega)
        clear hr hst hend hcol
        go_wp2_with fail
        have hown2 : wr.drew.ownsRow w.heap.size 141 2 _ done.length (wcells (done.map (wordAt t))) := hown
        go_region_held3 (fun _ => True) (trivial)
         (first
          | (go_at_call 115; refine (HZ2.out _).mono ?_; rintro e w' ⟨rfl, rfl⟩)
          | ((refine step_append_lies _ (by rfl) _ _ 138 (by rfl) w.heap.size 141 i0 (.agg #[.string ByteArray.empty, .int .i64 0]) 2 24 Tryz.underlying138 hi hz0 hz1 hz2 rfl (by decide) _ done.length (wcells (done.map (wordAt t))) (by rfl) (hown2.alloc _) ⟨wr.drew.heap.size, 0, none⟩ 1 1 [_, _] (by rfl) rfl (news_word _ _ _ _) (ones_word _ _) (by decide) (by unfold maxLen; omega) (by omega) (by have := hbw.size; simp; omega) _ rfl ?_); intro g cap w1 hown4 hgrow hat hlt))
        rw [wrap_one _ hc1, wcells_next] at hown4
        have hb4 : Below w.heap.size w w1 := (hbw.drew.alloc (by have := hbw.size; simpa using this) _).grown hgrow (by have := hbw.size; simp; omega) (fun k hk => (hown.lt k hk).1)
        have HO : RowKit.Hid (w1.ownsRow w.heap.size 141 2 (.slice (some ⟨g, 0, none⟩) (done.length + 1) cap) (done.length + 1) (wcells ((done ++ [(f, i)]).map (wordAt t)))) := Lib.hid (by
         rw [List.map_append]
         simpa [wordAt, curL, hte] using hown4)
        clear hown4 hgrow hat hown2 hown HZ2 hbw
        go_wp2_with fail
        go_roundw
        case rel => exact ⟨i + 1, none, done ++ [(f, i)], by omega, by go_num, rfl, (fun f hf => by cases hf), by simpa using HO.out, hb4, H2.out, by simp; omega, fun _ => rfl⟩
        case measure => simp [RowKit.intOf]; omega
      ·have hlt : i < t.length := by omega
       have e1 : ((i : Int) == (t.length : Int)) = false := beq_eq_false_iff_ne.2 (by omega)
       by_cases hb : blankB t[i] = true
       ·rw [refW_blank t done i st (.inr ⟨hlt, hb⟩)] at hr
        have hor : t[i].toNat = 32 ∨ (t[i].toNat ≠ 32 ∧ t[i].toNat = 9) ∨ (t[i].toNat ≠ 32 ∧ t[i].toNat ≠ 9 ∧ t[i].toNat = 13) := by
         unfold blankB blankR at hb
         simp only [Bool.or_eq_true, decide_eq_true_eq] at hb
         omega
        have hchain : (((t[i].toNat : Int) == 32) = true) ∨ (((t[i].toNat : Int) == 32) = false ∧ ((t[i].toNat : Int) == 9) = true) ∨ (((t[i].toNat : Int) == 32) = false ∧ ((t[i].toNat : Int) == 9) = false ∧ ((t[i].toNat : Int) == 13) = true) := by
         simp only [beq_iff_eq, beq_eq_false_iff_ne, ne_eq]
         omega
        clear hor hb
        cases st with
        | none =>
         rcases hchain with c1 | ⟨c1, c2⟩ | ⟨c1, c2, c3⟩
         all_goals
          simp only [frV, pushed, List.append_nil] at hr ⊢
          have H2 := Lib.hid hr
          clear hr hst hend
          go_wp2_with fail
          go_roundw
          case rel => exact ⟨i + 1, none, done, by omega, by go_num, rfl, (fun f hf => by cases hf), hown, hbw, H2.out, by omega, fun _ => rfl⟩
          case measure => simp [RowKit.intOf]; omega
        | some f =>
         rcases hchain with c1 | ⟨c1, c2⟩ | ⟨c1, c2, c3⟩
         all_goals
          obtain ⟨hf1, hf2⟩ := hst f rfl
          have hf3 : f ≤ t.length := by omega
          have hf4 : f ≤ i := by omega
          simp only [frV, pushed] at hr ⊢
          have H2 := Lib.hid hr
          have hcol := HCol2.out f (by omega)
          have HZ2 := Lib.hid (HZ.out f)
          rw [hcol] at HZ2
          have hc1 : colN t 0 f ≤ 1000000 := Nat.le_trans (col_le t f _ 0 (Nat.le_refl _)) (by omega)
          clear hr hst hend hcol
          go_wp2_with fail
          have hown2 : wr.drew.ownsRow w.heap.size 141 2 _ done.length (wcells (done.map (wordAt t))) := hown
          go_region_held3 (fun _ => True) (trivial)
           (first
            | (go_at_call 115; refine (HZ2.out _).mono ?_; rintro e w' ⟨rfl, rfl⟩)
            | ((refine step_append_lies _ (by rfl) _ _ 138 (by rfl) w.heap.size 141 i0 (.agg #[.string ByteArray.empty, .int .i64 0]) 2 24 Tryz.underlying138 hi hz0 hz1 hz2 rfl (by decide) _ done.length (wcells (done.map (wordAt t))) (by rfl) (hown2.alloc _) ⟨wr.drew.heap.size, 0, none⟩ 1 1 [_, _] (by rfl) rfl (news_word _ _ _ _) (ones_word _ _) (by decide) (by unfold maxLen; omega) (by omega) (by have := hbw.size; simp; omega) _ rfl ?_); intro g cap w1 hown4 hgrow hat hlt))
          rw [wrap_one _ hc1, wcells_next] at hown4
          have hb4 : Below w.heap.size w w1 := (hbw.drew.alloc (by have := hbw.size; simpa using this) _).grown hgrow (by have := hbw.size; simp; omega) (fun k hk => (hown.lt k hk).1)
          have HO : RowKit.Hid (w1.ownsRow w.heap.size 141 2 (.slice (some ⟨g, 0, none⟩) (done.length + 1) cap) (done.length + 1) (wcells ((done ++ [(f, i)]).map (wordAt t)))) := Lib.hid (by
           rw [List.map_append]
           simpa [wordAt, curL] using hown4)
          clear hown4 hgrow hat hown2 hown HZ2 hbw
          go_wp2_with fail
          go_roundw
          case rel => exact ⟨i + 1, none, done ++ [(f, i)], by omega, by go_num, rfl, (fun f hf => by cases hf), by simpa using HO.out, hb4, H2.out, by simp; omega, fun _ => rfl⟩
          case measure => simp [RowKit.intOf]; omega
       ·have hb' : blankB t[i] = false := by simpa using hb
        rw [refW_go t done i st hlt hb'] at hr
        have c0 : ((t[i].toNat : Int) == 32) = false ∧ ((t[i].toNat : Int) == 9) = false ∧ ((t[i].toNat : Int) == 13) = false := by
         unfold blankB blankR at hb'
         simp only [Bool.or_eq_false_iff, decide_eq_false_iff_not] at hb'
         simp only [beq_eq_false_iff_ne, ne_eq]
         omega
        obtain ⟨c1, c2, c3⟩ := c0
        clear hb hb'
        cases st with
        | none =>
         simp only [frV, Option.getD_none] at hr ⊢
         have H2 := Lib.hid hr
         clear hr hst hend
         go_wp2_with fail
         go_roundw
         case rel => exact ⟨i + 1, some i, done, by omega, by go_num, rfl, (fun f hf => by obtain rfl := Option.some.inj hf; exact ⟨by omega, hlt⟩), hown, hbw, H2.out, by omega, fun h => by omega⟩
         case measure => simp [RowKit.intOf]; omega
        | some f =>
         obtain ⟨hf1, hf2⟩ := hst f rfl
         simp only [frV, Option.getD_some] at hr ⊢
         have H2 := Lib.hid hr
         clear hr hst hend
         go_wp2_with fail
         go_roundw
         case rel => exact ⟨i + 1, some f, done, by omega, by go_num, rfl, (fun g hg => by obtain rfl := Option.some.inj hg; exact ⟨by omega, hf2⟩), hown, hbw, H2.out, by omega, fun h => by omega⟩
         case measure => simp [RowKit.intOf]; omega
     ·have eR : refW t done i st = done := if_neg hle
      rw [eR] at hr
      have H2 := Lib.hid hr
      clear hr eR
      go_wp2_with fail
      go_ret2
      refine ⟨_, rfl, ?_, hbw⟩
      rw [← H2.out]
      exact own_words (by rw [List.length_map]; exact hown)
end Go.Proofs.YthgbfaoblnkniaaGreatDoor

namespace Go.Proofs.YthgbfaoblnkniaaGreatDoor
open Go.RowKit Go.Lib
def TextsC (w : World) (v : Value) (L : List (List UInt8)) : Prop := ∃ p cap, v = .slice p L.length cap ∧ L.length ≤ cap ∧ HasTexts w p L
theorem TextsC.below {w w' : World} {v : Value} {L : List (List UInt8)} (h : TextsC w v L) (hb : Below w.heap.size w w') : TextsC w' v L := by
 obtain ⟨p, cap, hv, hc, ht⟩ := h
 exact ⟨p, cap, hv, hc, ht.below hb⟩
theorem libjoin_any (w : World) (v : Value) (L : List (List UInt8)) (h : TextsC w v L) (hL : L.length ≤ 1000000) (hlen : (join L [32]).length ≤ 10000000) :
  Calls Tryz.prog 98 #[v, .string (bs [32])] w fun e w' => e = .returned (.string (bs (join L [32]))) ∧ Below w.heap.size w w' := by
 obtain ⟨p, cap, rfl, hc, ht⟩ := h
 by_cases h0 : L = []
 ·subst h0
  exact (Any.strings_Join_none Tryz.laysJoin Tryz.extraJoin p cap (bs [32]) w).mono fun e w' ⟨he, hw⟩ => ⟨he, hw ▸ Below.refl _ _⟩
 ·obtain ⟨g, rfl, hg⟩ := ht 0 (List.length_pos_iff.2 h0)
  have hmap : (L.map bs).map (·.data.toList) = L := by
   rw [List.map_map]
   conv => rhs; rw [← List.map_id L]
   apply List.map_congr_left
   intro x _
   exact bs_list x
  have h := Any.strings_Join Tryz.laysJoin Tryz.extraJoin g 0 cap (L.map bs) (bs [32]) w (fun j x hx => by
   simp only [List.getElem?_map, Option.map_eq_some_iff] at hx
   obtain ⟨y, hy, rfl⟩ := hx
   have hj := (List.getElem?_eq_some_iff.1 hy).1
   obtain ⟨g', hg', hc'⟩ := ht j hj
   obtain rfl : g = g' := by simpa using hg'
   rw [Nat.zero_add, hc']
   simp [List.getD, hy]) (World.block_lt_of_cell? _ _ hg) (by rw [List.length_map]; omega) (by rw [List.length_map]; exact hc) (by rw [hmap, bs_list]; omega)
  rw [hmap, bs_list, List.length_map] at h
  exact h
set_option maxRecDepth 100000 in
theorem sjoin_any (w : World) (v : Value) (L : List (List UInt8)) (h : TextsC w v L) (hL : L.length ≤ 1000000) (hlen : (join L [32]).length ≤ 10000000) :
  Calls Tryz.prog 70 #[v] w fun e w' => e = .returned (.string (bs (join L [32]))) ∧ Below w.heap.size w w' := by
 have H := Lib.hid (libjoin_any w v L h hL hlen)
 go_enter Tryz.func70, Tryz.ntmps70
 go_wp2_with fail
 refine H.out.mono ?_
 rintro e w1 ⟨rfl, hb1⟩
 go_wp2_with fail
 go_ret
 exact ⟨rfl, hb1⟩
end Go.Proofs.YthgbfaoblnkniaaGreatDoor

namespace Go.Proofs.YthgbfaoblnkniaaGreatDoor
open Go.RowKit Go.Lib
def textsT : List UInt8 → List UInt8 → List (List UInt8)
 | cur, [] => if cur = [] then [] else [cur]
 | cur, b :: t => if blankB b then (if cur = [] then textsT [] t else cur :: textsT [] t) else textsT (cur ++ [b]) t
def begun (l : List UInt8) (i : Nat) : Option Nat → List UInt8
 | some f => curL l f i
 | none => []
theorem texts_scan (l : List UInt8) : ∀ (n i : Nat) (st : Option Nat), l.length - i ≤ n → i ≤ l.length → (∀ f, st = some f → f < i) →
  (scanGo l (l.length - i) i st).map (fun r => curL l r.1 r.2) = textsT (begun l i st) (l.drop i)
 | 0, i, st, hn, hi, hst => by
  have e : i = l.length := by omega
  subst e
  rw [scan_end l _ st (Nat.le_refl _), List.drop_eq_nil_of_le (Nat.le_refl _)]
  cases st with
  | none => rfl
  | some f =>
   have := curL_ne l f l.length (hst f rfl) (Nat.le_refl _)
   simp [pushed, begun, textsT, this]
 | n + 1, i, st, hn, hi, hst => by
  by_cases h : i < l.length
  ·rw [List.drop_eq_getElem_cons h]
   unfold textsT
   by_cases hb : blankB l[i] = true
   ·rw [scan_blank l i st h hb, if_pos hb, List.map_append, texts_scan l n (i + 1) none (by omega) (by omega) (fun f hf => by cases hf)]
    cases st with
    | none => simp [pushed, begun]
    | some f =>
     have := curL_ne l f i (hst f rfl) hi
     simp [pushed, begun, this]
   ·have hb' : blankB l[i] = false := by simpa using hb
    rw [scan_go l i st h hb', if_neg hb, texts_scan l n (i + 1) _ (by omega) (by omega) (fun f hf => by
     obtain rfl := Option.some.inj hf
     cases st with
     | none => simp
     | some g => have := hst g rfl; simp; omega)]
    congr 1
    cases st with
    | none =>
     simp only [begun, Option.getD_none, List.nil_append]
     rw [curL_snoc l i i (Nat.le_refl _) h, curL_nil]
     rfl
    | some f =>
     simp only [begun, Option.getD_some]
     exact curL_snoc l f i (by have := hst f rfl; omega) h
  ·have e : i = l.length := by omega
   subst e
   exact texts_scan l 0 _ st (by omega) hi hst
theorem words_texts (t : List UInt8) : (wordsL t).map (·.1) = textsT [] t := by
 have h := texts_scan t _ 0 none (Nat.le_refl _) (Nat.zero_le _) (fun f hf => by cases hf)
 rw [List.drop_zero] at h
 show ((scanL t).map (wordAt t)).map (·.1) = _
 rw [List.map_map]
 exact h
def WordT (x : List UInt8) : Prop := x ≠ [] ∧ (∀ b ∈ x, blankB b = false) ∧ validD x = true ∧ (∀ b ∈ x, b ≠ 35 ∧ b ≠ 10)
theorem texts_run : ∀ (x cur rest : List UInt8), (∀ b ∈ x, blankB b = false) → textsT cur (x ++ rest) = textsT (cur ++ x) rest
 | [], cur, rest, _ => by simp
 | b :: x, cur, rest, h => by
  have hb : blankB b = false := h b (List.mem_cons_self ..)
  show (if blankB b then _ else textsT (cur ++ [b]) (x ++ rest)) = _
  rw [hb]
  simp only [Bool.false_eq_true, if_false]
  rw [texts_run x (cur ++ [b]) rest (fun c hc => h c (List.mem_cons_of_mem _ hc))]
  simp
theorem join_two (x y : List UInt8) (r : List (List UInt8)) : join (x :: y :: r) [32] = x ++ 32 :: join (y :: r) [32] := by
 rw [join_cons, join_cons]
 simp [joinTail]
theorem texts_join : ∀ L : List (List UInt8), (∀ x ∈ L, WordT x) → textsT [] (join L [32]) = L
 | [], _ => rfl
 | [x], h => by
  have hx := h x (List.mem_cons_self ..)
  have e := texts_run x [] [] hx.2.1
  rw [List.append_nil, List.nil_append] at e
  rw [join_one, e]
  simp [textsT, hx.1]
 | x :: y :: r, h => by
  have hx := h x (List.mem_cons_self ..)
  rw [join_two, texts_run x [] _ hx.2.1, List.nil_append]
  show (if blankB 32 then (if x = [] then _ else x :: textsT [] (join (y :: r) [32])) else _) = _
  rw [if_pos (by decide), if_neg hx.1, texts_join (y :: r) (fun z hz => h z (List.mem_cons_of_mem _ hz))]
theorem join_valid : ∀ L : List (List UInt8), (∀ x ∈ L, WordT x) → validD (join L [32]) = true ∧ (∀ b ∈ join L [32], b ≠ 35 ∧ b ≠ 10)
 | [], _ => ⟨rfl, by simp [join_nil]⟩
 | [x], h => by
  have hx := h x (List.mem_cons_self ..)
  rw [join_one]
  exact ⟨hx.2.2.1, hx.2.2.2⟩
 | x :: y :: r, h => by
  have hx := h x (List.mem_cons_self ..)
  obtain ⟨h1, h2⟩ := join_valid (y :: r) (fun z hz => h z (List.mem_cons_of_mem _ hz))
  rw [join_two, valid_cut _ x _ 32 (Nat.le_refl _) (by decide), hx.2.2.1, h1]
  refine ⟨rfl, fun b hb => ?_⟩
  rcases List.mem_append.1 hb with hb | hb
  ·exact hx.2.2.2 b hb
  ·rcases List.mem_cons.1 hb with rfl | hb
   ·decide
   ·exact h2 b hb
theorem ahead_same (s : List UInt8) (h : ∀ b ∈ s, b ≠ 35) : aheadL s = s := by
 rcases ahead_app s with h1 | ⟨y, h1⟩
 ·exact h1
 ·have := h 35 (by rw [h1]; simp)
  exact absurd rfl this
theorem feed_false (s : List UInt8) (h : ∀ b ∈ s, b ≠ 10) : hasFeed s = false := by
 rw [feed_at, List.any_eq_false]
 intro b hb
 simpa using h b hb
end Go.Proofs.YthgbfaoblnkniaaGreatDoor

namespace Go.Proofs.YthgbfaoblnkniaaGreatDoor
def isDig (c : UInt8) : Bool := 48 ≤ c.toNat && c.toNat ≤ 57
def decL (m : Nat) : List UInt8 := if m < 10 then [UInt8.ofNat (48 + m)] else decL (m / 10) ++ [UInt8.ofNat (48 + m % 10)]
termination_by m
def printL (n : Int) : List UInt8 := if n < 0 then 45 :: decL n.natAbs else decL n.natAbs
def valL (t : List UInt8) : Nat := t.foldl (fun a c => a * 10 + (c.toNat - 48)) 0
def digT (t : List UInt8) (neg : Bool) : Bool := !t.isEmpty && !(t.head? == some 48 && (neg || decide (1 < t.length))) && t.all isDig
def negL (s : List UInt8) : Bool := s.head? == some 45
def restL (s : List UInt8) : List UInt8 := if negL s then s.tail else s
def digL (s : List UInt8) : Bool := digT (restL s) (negL s)
def stepP (acc : Option Int) (c : UInt8) : Option Int := acc.bind fun n =>
 if n < -922337203685477580 ∨ (n = -922337203685477580 ∧ (8 : Int) < (c.toNat - 48 : Nat)) then none else some (n * 10 - (c.toNat - 48 : Nat))
def foldP (t : List UInt8) : Option Int := t.foldl stepP (some 0)
def parseL (s : List UInt8) : Int × Int :=
 if digL s then
  match foldP (restL s) with
  | none => (0, 8)
  | some n => if negL s then (n, 0) else if n = -9223372036854775808 then (0, 8) else (-n, 0)
 else (0, 5)
theorem foldP_snoc (t : List UInt8) (c : UInt8) : foldP (t ++ [c]) = stepP (foldP t) c := by simp [foldP]
theorem valL_snoc (t : List UInt8) (c : UInt8) : valL (t ++ [c]) = valL t * 10 + (c.toNat - 48) := by simp [valL]
theorem snoc_ind {P : List UInt8 → Prop} (h0 : P []) (h1 : ∀ t c, P t → P (t ++ [c])) (t : List UInt8) : P t := by
 have : ∀ l : List UInt8, P l.reverse := by
  intro l
  induction l with
  | nil => exact h0
  | cons c l ih => rw [List.reverse_cons]; exact h1 _ _ ih
 simpa using this t.reverse
theorem isDig_iff (c : UInt8) : isDig c = true ↔ 48 ≤ c.toNat ∧ c.toNat ≤ 57 := by simp [isDig]
theorem foldP_spec (t : List UInt8) (h : t.all isDig = true) : foldP t = if valL t ≤ 9223372036854775808 then some (-(valL t : Int)) else none := by
 induction t using snoc_ind with
 | h0 => simp [foldP, valL]
 | h1 t c ih =>
  simp only [List.all_append, List.all_cons, List.all_nil, Bool.and_true, Bool.and_eq_true] at h
  obtain ⟨h1, h2⟩ := h
  have hc := (isDig_iff c).1 h2
  rw [foldP_snoc, ih h1, valL_snoc]
  by_cases hv : valL t ≤ 9223372036854775808
  ·rw [if_pos hv]
   simp only [stepP, Option.bind_some]
   by_cases hs : valL t * 10 + (c.toNat - 48) ≤ 9223372036854775808
   ·rw [if_pos hs, if_neg (by omega)]; congr 1; omega
   ·rw [if_neg hs, if_pos (by omega)]
  ·rw [if_neg hv, if_neg (by omega)]; rfl
theorem toNat_dig (m : Nat) (h : m < 10) : (UInt8.ofNat (48 + m)).toNat = 48 + m := by
 simp [UInt8.toNat_ofNat]; omega
theorem decL_all (m : Nat) : (decL m).all isDig = true := by
 induction m using Nat.strongRecOn with
 | _ m ih =>
  rw [decL]
  split
  ·rename_i h; simp [isDig_iff]; omega
  ·rename_i h
   simp only [List.all_append, ih (m / 10) (by omega), List.all_cons, List.all_nil, Bool.and_true, Bool.true_and]
   rw [isDig_iff, toNat_dig _ (by omega)]; omega
theorem decL_val (m : Nat) : valL (decL m) = m := by
 induction m using Nat.strongRecOn with
 | _ m ih =>
  rw [decL]
  split
  ·rename_i h; simp only [valL, List.foldl_cons, List.foldl_nil, toNat_dig m h]; omega
  ·rename_i h
   rw [valL_snoc, ih (m / 10) (by omega), toNat_dig _ (by omega)]; omega
theorem decL_ne (m : Nat) : decL m ≠ [] := by
 rw [decL]; split <;> simp
theorem decL_head (m : Nat) (hm : 0 < m) : (decL m).head? ≠ some 48 := by
 induction m using Nat.strongRecOn with
 | _ m ih =>
  rw [decL]
  split
  ·rename_i h
   simp only [List.head?_cons, ne_eq, Option.some.injEq]
   intro e
   have := congrArg UInt8.toNat e
   rw [toNat_dig m h] at this
   simp at this; omega
  ·rename_i h
   have h1 := ih (m / 10) (by omega) (by omega)
   have h2 := decL_ne (m / 10)
   cases hd : decL (m / 10) with
   | nil => exact absurd hd h2
   | cons a l => rw [hd] at h1; simpa using h1
theorem decL_zero : decL 0 = [48] := by rw [decL]; simp
theorem digT_dec (m : Nat) (neg : Bool) (h : neg = true → 0 < m) : digT (decL m) neg = true := by
 unfold digT
 rw [decL_all]
 have hne : (decL m).isEmpty = false := by simpa using decL_ne m
 rw [hne]
 by_cases hm : m = 0
 ·subst hm
  have : neg = false := by
   cases neg
   ·rfl
   ·exact absurd (h rfl) (by omega)
  rw [decL_zero, this]; rfl
 ·have := decL_head m (by omega)
  have e : ((decL m).head? == some 48) = false := by simpa using this
  rw [e]; rfl
theorem dig_ne45 {c : UInt8} (h : isDig c = true) : c ≠ 45 := by
 intro e; subst e; simp [isDig] at h
theorem negL_print (n : Int) : negL (printL n) = decide (n < 0) := by
 unfold printL
 split
 ·rename_i h; simp [negL, h]
 ·rename_i h
  have h2 := decL_all n.natAbs
  cases hd : decL n.natAbs with
  | nil => exact absurd hd (decL_ne _)
  | cons a l =>
   rw [hd] at h2
   simp only [List.all_cons, Bool.and_eq_true] at h2
   have := dig_ne45 h2.1
   have e2 : decide (n < 0) = false := by simpa using h
   rw [e2]; simp [negL, this]
theorem restL_print (n : Int) : restL (printL n) = decL n.natAbs := by
 unfold restL
 rw [negL_print]
 by_cases h : n < 0
 ·simp [h, printL]
 ·simp [h, printL]
theorem digL_print (n : Int) : digL (printL n) = true := by
 unfold digL
 rw [restL_print, negL_print]
 exact digT_dec _ _ (fun h => by have : n < 0 := by simpa using h
                                 omega)
theorem parse_print (n : Int) (h0 : -9223372036854775808 ≤ n) (h1 : n ≤ 9223372036854775807) : parseL (printL n) = (n, 0) := by
 unfold parseL
 rw [if_pos (digL_print n), restL_print, foldP_spec _ (decL_all _), decL_val, if_pos (by omega), negL_print]
 by_cases h : n < 0
 ·simp only [h, decide_true, if_true]; congr 1; omega
 ·simp only [h, decide_false, Bool.false_eq_true, if_false]
  rw [if_neg (by omega)]; congr 1; omega
end Go.Proofs.YthgbfaoblnkniaaGreatDoor
