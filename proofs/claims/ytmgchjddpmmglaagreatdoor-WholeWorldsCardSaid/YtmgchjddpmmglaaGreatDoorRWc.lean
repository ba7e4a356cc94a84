/-
  The walks of layer 6 (split): a line's words, in the program. No conditions but that internal/bytealg.MaxLen holds a number.
  Layer 6 (split): words joined and parted again are the same words, in plain words; and the statements SplitJoins and SplitAgain, walked. No conditions but that unicode/utf8's two tables are as their initialisers lay them and that internal/bytealg.MaxLen holds a number.
  Type assertions on a cell's value, as closed facts of the program's own tables. No conditions.
  Plain law of layer 3 (digit): a number's decimal text, the number of a text; they undo one another. No program in sight.
  The walks of layer 3 (digit): what each function of package digit, and of its reference, returns; memory that was there stands as it was. No conditions.
  The walks of Parse, of package digit and of its reference: a text's number, or the error. Texts of at most 2^62 bytes (every readable text is shorter).
  Layer 3 (digit): what reading a text gives, at a known answer; how great it may be. Texts of at most 2^63 - 2 bytes.
  The walks of layer 5 (value): May, Print, Parse, Less, of the package and of its reference; each leaves all memory that was there as it was. Texts of at most 2^63 - 2 bytes.
  Layer 7 (event) in plain words: which events may be, their lines, what a line is read as; that reading undoes printing, and that what is read may be; no program in sight. No conditions.
  Layer 8 (log) in plain words: what a text is read as, a log's text, how many events are of a kind; that reading undoes printing; no program in sight. No conditions.
-/
import Derived.Test.YtmgchjddpmmglaaGreatDoorRWb
import Derived.WalkSmall
import Derived.Deep.AppendLies
import Derived.IntWalk
import Derived.Lib.Join
namespace Go.Proofs.YtmgchjddpmmglaaGreatDoor
section
open Go.RowKit Go.Lib
def wcells (W : List (List UInt8 × Nat)) : List Value := W.flatMap fun x => [.string (bs x.1), .int .i64 (x.2 : Int)]
theorem wcells_next (W : List (List UInt8 × Nat)) (x : List UInt8) (n : Nat) : wcells W ++ [.string (bs x), .int .i64 ((n : Int) + 1)] = wcells (W ++ [(x, n + 1)]) := by simp [wcells]
theorem wcells_at : ∀ (W : List (List UInt8 × Nat)) (j : Nat), j < W.length → (wcells W)[j * 2]? = some (.string (bs (W.getD j ([], 0)).1)) ∧ (wcells W)[j * 2 + 1]? = some (.int .i64 ((W.getD j ([], 0)).2 : Nat))
 | [], j, h => absurd h (Nat.not_lt_zero j)
 | x :: W, 0, _ => ⟨rfl, rfl⟩
 | x :: W, j + 1, h => by
  have := wcells_at W j (by simpa using h)
  have e : wcells (x :: W) = .string (bs x.1) :: .int .i64 (x.2 : Int) :: wcells W := by simp [wcells]
  rw [e, show (j + 1) * 2 = j * 2 + 1 + 1 by omega]
  simpa using this
def HasWords (w : World) (p : Option Addr) (W : List (List UInt8 × Nat)) : Prop :=
 ∀ j, j < W.length → ∃ g, p = some ⟨g, 0, none⟩ ∧ w.cell? ⟨g, j * 2, none⟩ = some (.string (bs (W.getD j ([], 0)).1)) ∧ w.cell? ⟨g, j * 2 + 1, none⟩ = some (.int .i64 ((W.getD j ([], 0)).2 : Nat))
theorem HasWords.below {w w' : World} {p : Option Addr} {W : List (List UInt8 × Nat)} (h : HasWords w p W) (hb : Below w.heap.size w w') : HasWords w' p W := fun j hj => by
 obtain ⟨g, hp, hc, hd⟩ := h j hj
 exact ⟨g, hp, cell_later hb hc, cell_later hb hd⟩
def Words (w : World) (v : Value) (W : List (List UInt8 × Nat)) : Prop := ∃ p cap, v = .slice p W.length cap ∧ HasWords w p W ∧ W.length ≤ cap ∧ cap ≤ maxLen
theorem words_none (w : World) : Words w (.slice none 0 0) [] := ⟨none, 0, rfl, fun j hj => absurd hj (Nat.not_lt_zero j), Nat.le_refl _, Nat.zero_le _⟩
theorem own_words {w : World} {B : Nat} {e : TypeId} {v : Value} {W : List (List UInt8 × Nat)} (h : w.ownsRow B e 2 v W.length (wcells W)) : Words w v W := by
 obtain ⟨-, ⟨h0, hn⟩ | ⟨g, cap, cur, hv, -, hw, hnc, hcm, -, ht⟩⟩ := h
 ·have : W = [] := List.eq_nil_of_length_eq_zero hn
  subst this h0
  exact words_none w
 ·refine ⟨_, cap, hv, fun j hj => ⟨g, rfl, ?_, ?_⟩, hnc, hcm⟩
  ·have h1 := congrArg (fun x : List Value => x[j * 2]?) ht
   simp only [List.getElem?_take, show j * 2 < W.length * 2 by omega, if_true, Array.getElem?_toList] at h1
   rw [cell_of_row w g (j * 2) _ _ (0, 0) hw, h1]
   exact (wcells_at W j hj).1
  ·have h1 := congrArg (fun x : List Value => x[j * 2 + 1]?) ht
   simp only [List.getElem?_take, show j * 2 + 1 < W.length * 2 by omega, if_true, Array.getElem?_toList] at h1
   rw [cell_of_row w g (j * 2 + 1) _ _ (0, 0) hw, h1]
   exact (wcells_at W j hj).2
theorem info_word : (Tryz.prog.info? 175).map (fun i => (i.zero, i.size, i.bytes)) = some (some (.agg #[.string ByteArray.empty, .int .i64 0]), 2, 24) := by kernel_rfl
theorem sblank_any (c : Nat) (w : World) :
  Calls Tryz.prog 195 #[.int .i32 c] w fun e w' => e = .returned (.bool (blankR c)) ∧ w = w' := by
 go_enter Tryz.func195, Tryz.ntmps195
 go_wp2
 all_goals
  go_ret
  refine ⟨?_, rfl⟩
  unfold blankR
  refine congrArg (fun b => Ending.returned (Value.bool b)) ?_
  rw [Bool.eq_iff_iff]
  simp
  try omega
def hasFeed (s : List UInt8) : Bool := decide (0 ≤ index s [10])
theorem contains_any (l : List UInt8) (hs : l.length ≤ 1000000) (w : World) (hm : HasMax w) :
  Calls Tryz.prog 193 #[.string (bs l), .string (bs [10])] w fun e w' => e = .returned (.bool (hasFeed l)) ∧ w = w' := by
 obtain ⟨m, hm⟩ := hm
 have h := Any.strings_Contains Tryz.laysContains (bs l) (bs [10]) m w (by rw [bs_size]; omega) hm
 rw [bs_list, bs_list] at h
 exact h.mono fun _ _ ⟨a, b⟩ => ⟨a, b.symm⟩
theorem index35_ne (b : UInt8) (l : List UInt8) (h : b ≠ 35) : index (b :: l) [35] = if index l [35] == -1 then -1 else index l [35] + 1 := by
 have hp : ([35] : List UInt8).isPrefixOf (b :: l) = false := by simp [List.isPrefixOf, Ne.symm h]
 rw [index, hp]
 simp
theorem index35 : ∀ l : List UInt8, (index l [35] = -1 ∧ aheadL l = l) ∨ (index l [35] = (aheadL l).length ∧ (aheadL l).length < l.length)
 | [] => .inl ⟨by simp [index], rfl⟩
 | b :: t => by
  by_cases hb : b = 35
  ·subst hb
   right
   have hi : index ((35 : UInt8) :: t) [35] = 0 := by rw [index]; simp [List.isPrefixOf]
   rw [hi]
   simp [aheadL]
  ·have e : aheadL (b :: t) = b :: aheadL t := by simp [aheadL, hb]
   rw [index35_ne b t hb, e]
   rcases index35 t with ⟨h1, h2⟩ | ⟨h1, h2⟩
   ·left
    rw [h1, h2]
    exact ⟨rfl, rfl⟩
   ·right
    have hm' : ¬ (((aheadL t).length : Int) == -1) = true := fun e => by have := beq_iff_eq.1 e; omega
    rw [h1, if_neg hm']
    simp only [List.length_cons]
    omega
theorem ahead_take (l : List UInt8) : aheadL l = l.take (aheadL l).length := by
 rcases ahead_app l with h | ⟨y, h⟩
 ·rw [h, List.take_length]
 ·have e := congrArg (List.take (aheadL l).length) h
  rw [List.take_left] at e
  exact e.symm
theorem cut_any (l : List UInt8) (hs : l.length ≤ 1000000) (w : World) (hm : HasMax w) :
  Calls Tryz.prog 194 #[.string (bs l), .string (bs [35])] w fun e w' => e = .returned (.tuple #[.string (bs (aheadL l)), .string (bs (l.drop ((aheadL l).length + 1))), .bool (decide ((aheadL l).length < l.length))]) ∧ ∃ n, w' = w.drewN n := by
 obtain ⟨m, hm⟩ := hm
 have h := Any.strings_Cut Tryz.laysCut (bs l) (bs [35]) m w (by rw [bs_size]; omega) hm
 rw [bs_list, bs_list] at h
 have e : cut l [35] = (aheadL l, l.drop ((aheadL l).length + 1), decide ((aheadL l).length < l.length)) := by
  unfold cut
  rcases index35 l with ⟨h1, h2⟩ | ⟨h1, h2⟩
  ·rw [h1, h2, if_neg (by decide), List.drop_eq_nil_of_le (by omega), decide_eq_false (Nat.lt_irrefl _)]
  ·rw [h1, if_pos (by omega), show ((aheadL l).length : Int).toNat = (aheadL l).length by omega, ← ahead_take, decide_eq_true h2]
   rfl
 rw [e] at h
 exact h
def frV : Option Nat → Value
 | some f => .int .i64 (f : Int)
 | none => .int .i64 (-1)
def wordsR (s : List UInt8) : List (List UInt8 × Nat) × Nat := if validD s && !hasFeed s then (wordsL (aheadL s), 0) else ([], 5)
def WordsAt (t : List UInt8) (w wr : World) (k0 : Nat) (v fr fi n : Value) (R : List (Nat × Nat)) : Prop :=
 ∃ p k : Nat, ∃ st : Option Nat, ∃ done : List (Nat × Nat), p ≤ t.length ∧ k ≤ p ∧ n = .int .i64 k ∧ fr = frV st ∧ (∀ f, st = some f → f ≤ p ∧ fi = .int .i64 ((colN t 0 f + 1 : Nat) : Int)) ∧
  wr.ownsRow (k0 + 1) 175 2 v done.length (wcells (done.map (wordAt t))) ∧ wr.heap[k0]? = some (.stringIter (bs t) p) ∧ Below w.heap.size w wr ∧ k0 < wr.heap.size ∧
  RunesTo t p k ∧ R = done ++ scanGo t (t.length - p) p st ∧ done.length ≤ p
set_option maxRecDepth 100000 in
set_option maxHeartbeats 2000000 in
theorem swords_any (s : List UInt8) (hs : s.length ≤ 1000000) (w : World) (hm : HasMax w) :
  Calls Tryz.prog 154 #[.string (bs s)] w fun e w' => ∃ v, e = .returned (.tuple #[v, .int .i64 ((wordsR s).2 : Nat)]) ∧ Words w' v (wordsR s).1 ∧ Below w.heap.size w w' := by
 have HC := Lib.hid (lrunes_any s hs)
 have hv := runesN_snd s
 generalize runesN s = N at *
 obtain ⟨N1, N2⟩ := N
 simp only at HC hv
 subst hv
 have HF := Lib.hid (contains_any s hs)
 have HX := Lib.hid (cut_any s hs)
 have HM := Lib.hid hm
 clear hm
 have eR : wordsR s = if validD s && !hasFeed s then (wordsL (aheadL s), 0) else ([], 5) := rfl
 rw [eR]
 clear eR
 have hlen := ahead_len s
 generalize validD s = V at *
 generalize hasFeed s = F at *
 cases V with
 | false =>
  go_enter Tryz.func154, Tryz.ntmps154
  go_wp2_with fail
  refine (HC.out _).mono ?_
  rintro e w1 ⟨rfl, hb1⟩
  go_wp2_with fail
  go_ret2
  exact ⟨_, rfl, words_none _, hb1⟩
 | true =>
  cases F with
  | true =>
   go_enter Tryz.func154, Tryz.ntmps154
   go_wp2_with fail
   refine (HC.out _).mono ?_
   rintro e w1 ⟨rfl, hb1⟩
   have HM1 := Lib.hid (HM.out.below hb1)
   go_wp2_with fail
   refine (HF.out _ HM1.out).mono ?_
   rintro e w' ⟨rfl, rfl⟩
   go_wp2_with fail
   go_ret2
   exact ⟨_, rfl, words_none _, hb1⟩
  | false =>
   show Calls _ _ _ _ fun e w' => ∃ v, e = .returned (.tuple #[v, .int .i64 ((0 : Nat) : Int)]) ∧ Words w' v (wordsL (aheadL s)) ∧ Below w.heap.size w w'
   have hlt : (aheadL s).length ≤ 1000000 := by omega
   generalize aheadL s = t at *
   obtain ⟨R, hR⟩ : ∃ R, scanL t = R := ⟨_, rfl⟩
   have eW : wordsL t = R.map (wordAt t) := by rw [← hR]; rfl
   rw [eW]
   have HR := Lib.hid hR
   clear hR eW hlen
   obtain ⟨i0, hi, hz0, hz1, hz2⟩ := info_parts info_word
   go_enter Tryz.func154, Tryz.ntmps154
   go_wp2_with fail
   refine (HC.out _).mono ?_
   rintro e w1 ⟨rfl, hb1⟩
   have HM1 := Lib.hid (HM.out.below hb1)
   go_wp2_with fail
   refine (HF.out _ HM1.out).mono ?_
   rintro e w' ⟨rfl, rfl⟩
   go_wp2_with fail
   refine (HX.out _ HM1.out).mono ?_
   rintro e w2 ⟨rfl, q, rfl⟩
   have hb2 : Below w.heap.size w (w1.drewN q) := hb1.trans ⟨rfl, rfl, rfl, Nat.le_refl _, fun _ _ => rfl⟩
   go_wp2_with fail
   go_loopw [6, 7, 8, 9] (fun v fr fi n wr => WordsAt t w wr w1.heap.size v fr fi n R) (fun _ _ _ _ wr => t.length - wr.iterPos w1.heap.size)
   case atStart =>
    refine ⟨0, 0, none, [], Nat.zero_le _, Nat.le_refl _, rfl, rfl, (fun f hf => by cases hf), World.ownsRow_nil _ _ _ _, ?_, hb2.alloc (by have := hb1.size; simpa using this) _, by simp [World.iter], runesTo_start t, by rw [← HR.out]; rfl, Nat.le_refl _⟩
    have h5 := World.iter_heap (w1.drewN q) (bs t) 0
    exact h5
   case round =>
    obtain ⟨p, k, st, done, hp, hkp, rfl, rfl, hfi, hown, hit, hbw, hk0, hrt, hR, hdl⟩ := hrel
    have HFI := Lib.hid hfi
    have HRT := Lib.hid hrt
    have HRR := Lib.hid hR
    clear hfi hrt hR
    by_cases hlt : p < t.length
    ·have hb := one_bounds t p hlt
     have hnx := fun ty => run_next_any_at (P := Tryz.prog) wr w1.heap.size (bs t) p ty hit (by rw [bs_size]; exact hlt)
     rw [← decodeL_drop, bs_list] at hnx
     have eo : decodeL (t.drop p) = oneAt t p := rfl
     rw [eo] at hnx
     have hit2 := iterAt_heap wr w1.heap.size (bs t) p (p + (oneAt t p).2) hit
     have hbw2 := below_iterAt hbw (k := w1.heap.size) (by have := hb1.size; omega) (bs t) (p + (oneAt t p).2)
     have hown' := ownsRow_iterAt hown (k := w1.heap.size) (by omega) (bs t) (p + (oneAt t p).2)
     have hsz := iterAt_size wr w1.heap.size (bs t) (p + (oneAt t p).2)
     obtain ⟨sr1, sr2⟩ := scan_rune t p st hlt
     have hrt2 := Lib.hid (runesTo_step t p k hlt HRT.out)
     have hcol := runesTo_col t p k HRT.out
     have hle : (oneAt t p).1 ≤ 1114111 := decodeL_rune _
     have HB := Lib.hid (sblank_any (oneAt t p).1)
     obtain ⟨D, hD⟩ : ∃ D, oneAt t p = D := ⟨_, rfl⟩
     rw [hD] at hb hnx hit2 hbw2 hown' sr1 sr2 hrt2 hle HB hsz
     obtain ⟨WW, hWW⟩ : ∃ WW, wr.iterAt w1.heap.size (bs t) (p + D.2) = WW := ⟨_, rfl⟩
     rw [hWW] at hnx hit2 hbw2 hown' hsz
     have hpos : WW.iterPos w1.heap.size = p + D.2 := iterPos_of hit2
     have hpos0 : wr.iterPos w1.heap.size = p := iterPos_of hit
     have hk1 : w1.heap.size < WW.heap.size := by omega
     have hk2 := hbw2.size
     clear eo hD hWW hown hit hbw hsz
     cases hbl : blankR D.1 with
     | true =>
      rw [hbl] at HB
      have hs1 := Lib.hid (sr1 hbl)
      clear sr1 sr2 hbl
      cases st with
      | none =>
       have hR2 := Lib.hid (HRR.out.trans (congrArg (done ++ ·) hs1.out))
       clear HRR hs1
       simp only [frV, pushed, List.nil_append] at hR2 ⊢
       go_wp2_with (go_at_call 195; refine (HB.out _).mono ?_; rintro e w3 ⟨rfl, rfl⟩)
       go_roundw
       case rel => exact ⟨p + D.2, k + 1, none, done, hb.2, by omega, by go_num, rfl, (fun f hf => by cases hf), hown', hit2, hbw2, hk1, hrt2.out, hR2.out, by omega⟩
       case measure => rw [hpos, hpos0]; omega
      | some f =>
       obtain ⟨hfp, rfl⟩ := HFI.out f rfl
       have hR2 := Lib.hid (HRR.out.trans (congrArg (done ++ ·) hs1.out))
       clear HRR hs1 HFI
       simp only [frV, pushed] at hR2 ⊢
       go_wp2_with (first
        | (go_at_call 195; refine (HB.out _).mono ?_; rintro e w3 ⟨rfl, rfl⟩)
        | (at_builtin; refine wpList_append_own _ rfl _ _ 170 rfl (w1.heap.size + 1) 175 i0 (.agg #[.string ByteArray.empty, .int .i64 0]) 2 24 Tryz.underlying170 hi hz0 hz1 hz2 rfl (by decide) _ _ _ rfl (hown'.alloc _) ⟨WW.heap.size, 0, none⟩ 1 1 [.string (bs (curL t f p)), .int .i64 ((colN t 0 f + 1 : Nat) : Int)] rfl rfl ?c1 ?c2 ?c3 ?c4 ?c5 ?_))
       case c1 =>
        intro j u hj
        match j, hj with
        | 0, hj => simp at hj; subst hj; simp [Addr.add, curL]
        | 1, hj => simp at hj; subst hj; simp [Addr.add]
       case c2 => intro u hu; simp at hu; rcases hu with rfl | rfl <;> rfl
       case c3 => unfold maxLen; omega
       case c4 => omega
       case c5 => simp; omega
       ·intro v' w4 hown4 hgrow hnil
        have hlow := hown'.lt
        have hit4 : w4.heap[w1.heap.size]? = some (.stringIter (bs t) (p + D.2)) := by
         rw [hgrow.block w1.heap.size (by simp; omega) (fun e => by have := (hlow _ e.symm).1; omega), heap_alloc_old WW _ hk1]
         exact hit2
        have hb4 : Below w.heap.size w w4 := (hbw2.alloc hk2 _).grown hgrow (by simp; omega) (fun k hk => by have := (hlow k hk).1; have := hb1.size; omega)
        have hk4 : w1.heap.size < w4.heap.size := by have := hgrow.size; simp at this; omega
        have hpos4 : w4.iterPos w1.heap.size = p + D.2 := iterPos_of hit4
        have HO := Lib.hid hown4
        clear hown4 hnil hit2 hbw2 hown' hgrow hlow
        go_wp2_with fail
        go_roundw
        case rel =>
         refine ⟨p + D.2, k + 1, none, done ++ [(f, p)], hb.2, by omega, by go_num, rfl, (fun f hf => by cases hf), ?_, hit4, hb4, hk4, hrt2.out, by rw [hR2.out]; simp, by simp; omega⟩
         have h5 := HO.out
         rw [wcells_next] at h5
         simpa [wordAt] using h5
        case measure => rw [hpos4, hpos0]; omega
     | false =>
      rw [hbl] at HB
      have hs2 := Lib.hid (sr2 hbl)
      clear sr1 sr2 hbl
      cases st with
      | none =>
       have hR2 := Lib.hid (HRR.out.trans (congrArg (done ++ ·) hs2.out))
       clear HRR hs2
       simp only [frV, Option.getD_none] at hR2 ⊢
       go_wp2_with (go_at_call 195; refine (HB.out _).mono ?_; rintro e w3 ⟨rfl, rfl⟩)
       go_roundw
       case rel => exact ⟨p + D.2, k + 1, some p, done, hb.2, by omega, by go_num, rfl, (fun f hf => by obtain rfl := Option.some.inj hf; exact ⟨by omega, by rw [hcol]; go_num⟩), hown', hit2, hbw2, hk1, hrt2.out, hR2.out, by omega⟩
       case measure => rw [hpos, hpos0]; omega
      | some f =>
       obtain ⟨hfp, rfl⟩ := HFI.out f rfl
       have hR2 := Lib.hid (HRR.out.trans (congrArg (done ++ ·) hs2.out))
       clear HRR hs2 HFI
       simp only [frV, Option.getD_some] at hR2 ⊢
       go_wp2_with (go_at_call 195; refine (HB.out _).mono ?_; rintro e w3 ⟨rfl, rfl⟩)
       go_roundw
       case rel => exact ⟨p + D.2, k + 1, some f, done, hb.2, by omega, by go_num, rfl, (fun g hg => by obtain rfl := Option.some.inj hg; exact ⟨by omega, rfl⟩), hown', hit2, hbw2, hk1, hrt2.out, hR2.out, by omega⟩
       case measure => rw [hpos, hpos0]; omega
    ·have hnx := fun ty => run_next_end_at (P := Tryz.prog) wr w1.heap.size (bs t) p ty hit (by rw [bs_size]; exact hlt)
     have hep : p = t.length := by omega
     have hR2 := Lib.hid (HRR.out.trans (congrArg (done ++ ·) (scan_end t p st (by omega))))
     subst hep
     clear HRR
     cases st with
     | none =>
      simp only [frV, pushed, List.append_nil] at hR2 ⊢
      go_wp2_with fail
      go_ret2
      rw [hR2.out]
      exact ⟨_, rfl, own_words (by rw [List.length_map]; exact hown), hbw⟩
     | some f =>
      obtain ⟨hfp, rfl⟩ := HFI.out f rfl
      simp only [frV, pushed] at hR2 ⊢
      go_wp2_with (at_builtin; refine wpList_append_own _ rfl _ _ 170 rfl (w1.heap.size + 1) 175 i0 (.agg #[.string ByteArray.empty, .int .i64 0]) 2 24 Tryz.underlying170 hi hz0 hz1 hz2 rfl (by decide) _ _ _ rfl (hown.alloc _) ⟨wr.heap.size, 0, none⟩ 1 1 [.string (bs (curL t f t.length)), .int .i64 ((colN t 0 f + 1 : Nat) : Int)] rfl rfl ?c1 ?c2 ?c3 ?c4 ?c5 ?_)
      case c1 =>
       intro j u hj
       match j, hj with
       | 0, hj => simp at hj; subst hj; simp [Addr.add, curL]
       | 1, hj => simp at hj; subst hj; simp [Addr.add]
      case c2 => intro u hu; simp at hu; rcases hu with rfl | rfl <;> rfl
      case c3 => unfold maxLen; omega
      case c4 => omega
      case c5 => simp; omega
      ·intro v' w4 hown4 hgrow hnil
       have HO := Lib.hid hown4
       clear hown4 hnil
       go_wp2_with fail
       go_ret2
       rw [hR2.out]
       refine ⟨_, rfl, own_words (B := w1.heap.size + 1) (e := 175) ?_, ?_⟩
       ·have h5 := HO.out
        rw [wcells_next] at h5
        simpa [wordAt] using h5
       ·exact (hbw.alloc hbw.size _).grown hgrow (by have := hbw.size; simp; omega) (fun k hk => by have := (hown.lt k hk).1; have := hb1.size; omega)
end
section
open Go.RowKit Go.Lib
def begun (l : List UInt8) (i : Nat) : Option Nat → List UInt8
 | some f => curL l f i
 | none => []
end
section
open Go.RowKit
theorem as_nil (t : Nat) (w : World) (h : t = 2 ∨ t = 3) : (Instr.typeAssert .nilIface 20 t true).run Tryz.prog w = .ok (.tuple #[.int .i64 0, .bool false]) w := by
 rcases h with rfl | rfl <;> kernel_rfl
theorem as_nil_lost (w : World) : (Instr.typeAssert .nilIface 20 252 true).run Tryz.prog w = .ok (.tuple #[.agg #[], .bool false]) w := by kernel_rfl
theorem as_int64 (v : Value) (w : World) : (Instr.typeAssert (.iface 2 v) 20 2 true).run Tryz.prog w = .ok (.tuple #[v, .bool true]) w := by kernel_rfl
theorem as_int64_must (v : Value) (w : World) : (Instr.typeAssert (.iface 2 v) 20 2 false).run Tryz.prog w = .ok v w := by kernel_rfl
theorem as_int (v : Value) (w : World) : (Instr.typeAssert (.iface 3 v) 20 3 true).run Tryz.prog w = .ok (.tuple #[v, .bool true]) w := by kernel_rfl
theorem as_lost (v : Value) (w : World) : (Instr.typeAssert (.iface 252 v) 20 252 true).run Tryz.prog w = .ok (.tuple #[v, .bool true]) w := by kernel_rfl
theorem zero_int64 (w : World) : ((do pure (Value.tuple #[← zeroValue 2, .bool false])) : Sem Value).run Tryz.prog w = .ok (.tuple #[.int .i64 0, .bool false]) w := by kernel_rfl
theorem zero_int (w : World) : ((do pure (Value.tuple #[← zeroValue 3, .bool false])) : Sem Value).run Tryz.prog w = .ok (.tuple #[.int .i64 0, .bool false]) w := by kernel_rfl
theorem zero_lost (w : World) : ((do pure (Value.tuple #[← zeroValue 252, .bool false])) : Sem Value).run Tryz.prog w = .ok (.tuple #[.agg #[], .bool false]) w := by kernel_rfl
theorem as_int64_no (u : TypeId) (v : Value) (w : World) (h : (u == 2) = false) : (Instr.typeAssert (.iface u v) 20 2 true).run Tryz.prog w = .ok (.tuple #[.int .i64 0, .bool false]) w := by
 have e : (Instr.typeAssert (.iface u v) 20 2 true).run Tryz.prog w = (if u = 2 then (pure (Value.tuple #[v, .bool true]) : Sem Value) else (do pure (Value.tuple #[← zeroValue 2, .bool false]))).run Tryz.prog w := by kernel_rfl
 rw [e, if_neg (by simpa using h)]; exact zero_int64 w
theorem as_int_no (u : TypeId) (v : Value) (w : World) (h : (u == 3) = false) : (Instr.typeAssert (.iface u v) 20 3 true).run Tryz.prog w = .ok (.tuple #[.int .i64 0, .bool false]) w := by
 have e : (Instr.typeAssert (.iface u v) 20 3 true).run Tryz.prog w = (if u = 3 then (pure (Value.tuple #[v, .bool true]) : Sem Value) else (do pure (Value.tuple #[← zeroValue 3, .bool false]))).run Tryz.prog w := by kernel_rfl
 rw [e, if_neg (by simpa using h)]; exact zero_int w
theorem as_lost_no (u : TypeId) (v : Value) (w : World) (h : (u == 252) = false) : (Instr.typeAssert (.iface u v) 20 252 true).run Tryz.prog w = .ok (.tuple #[.agg #[], .bool false]) w := by
 have e : (Instr.typeAssert (.iface u v) 20 252 true).run Tryz.prog w = (if u = 252 then (pure (Value.tuple #[v, .bool true]) : Sem Value) else (do pure (Value.tuple #[← zeroValue 252, .bool false]))).run Tryz.prog w := by kernel_rfl
 rw [e, if_neg (by simpa using h)]; exact zero_lost w
end
section
def isDig (c : UInt8) : Bool := 48 ≤ c.toNat && c.toNat ≤ 57
def digT (t : List UInt8) (neg : Bool) : Bool := !t.isEmpty && !(t.head? == some 48 && (neg || decide (1 < t.length))) && t.all isDig
def negL (s : List UInt8) : Bool := s.head? == some 45
def restL (s : List UInt8) : List UInt8 := if negL s then s.tail else s
def digL (s : List UInt8) : Bool := digT (restL s) (negL s)
def stepP (acc : Option Int) (c : UInt8) : Option Int := acc.bind fun n =>
 if n < -922337203685477580 ∨ (n = -922337203685477580 ∧ (8 : Int) < (c.toNat - 48 : Nat)) then none else some (n * 10 - (c.toNat - 48 : Nat))
def foldP (t : List UInt8) : Option Int := t.foldl stepP (some 0)
def parseL (s : List UInt8) : Int × Int :=
 if digL s then
  match foldP (restL s) with
  | none => (0, 8)
  | some n => if negL s then (n, 0) else if n = -9223372036854775808 then (0, 8) else (-n, 0)
 else (0, 5)
theorem foldP_snoc (t : List UInt8) (c : UInt8) : foldP (t ++ [c]) = stepP (foldP t) c := by simp [foldP]
theorem isDig_iff (c : UInt8) : isDig c = true ↔ 48 ≤ c.toNat ∧ c.toNat ≤ 57 := by simp [isDig]
end
section
open Go.RowKit
set_option maxHeartbeats 400000 in
theorem dcut_any (l : List UInt8) (hs : l.length ≤ 9223372036854775807) (w : World) :
  Calls Tryz.prog 246 #[.string (bs l), .string ⟨#[45]⟩] w fun e w' => e = .returned (.tuple #[.string (bs (restL l)), .bool (negL l)]) ∧ w = w' := by
 cases l with
 | nil =>
  go_enter Tryz.func246, Tryz.ntmps246
  go_wp2
  go_ret2
  exact ⟨rfl, rfl⟩
 | cons a l =>
  by_cases h : a = 45
  ·subst h
   simp only [List.length_cons] at hs
   go_enter Tryz.func246, Tryz.ntmps246
   go_wp2
   go_ret2
   exact ⟨by simp [restL, negL], rfl⟩
  ·have h' : (a == 45) = false := by simpa using h
   simp only [List.length_cons] at hs
   go_enter Tryz.func246, Tryz.ntmps246
   go_wp2
   go_ret2
   exact ⟨by simp [restL, negL, h'], rfl⟩
theorem cut_of (l t : List UInt8) (neg : Bool) (ht : restL l = t) (hn : negL l = neg) (hs : l.length ≤ 9223372036854775807) (w : World) :
  Calls Tryz.prog 246 #[.string (bs l), .string ⟨#[45]⟩] w fun e w' => e = .returned (.tuple #[.string (bs t), .bool neg]) ∧ w = w' := by
 subst ht; subst hn; exact dcut_any l hs w
theorem all_take_succ (t : List UInt8) (k : Nat) (hk : k < t.length) (h : (t.take k).all isDig = true) (hd : isDig t[k] = true) : (t.take (k + 1)).all isDig = true := by
 rw [List.take_succ_eq_append_getElem hk, List.all_append, h]; simp [hd]
theorem not_all (t : List UInt8) (k : Nat) (hk : k < t.length) (hd : isDig t[k] = false) : t.all isDig = false := by
 rw [List.all_eq_false]; exact ⟨t[k], List.getElem_mem hk, by simp [hd]⟩
theorem ret_bool {a b : Bool} (h : a = b) : Ending.returned (.bool a) = .returned (.bool b) := by rw [h]
theorem u8_eq (a b : UInt8) : ((a.toNat : Int) == (b.toNat : Int)) = (a == b) := by
 rw [Bool.eq_iff_iff]; simp only [beq_iff_eq, ← UInt8.toNat_inj]; omega
set_option maxHeartbeats 1000000 in
theorem digits_run (l : List UInt8) (a : UInt8) (r : List UInt8) (neg : Bool) (ht : restL l = a :: r) (hn : negL l = neg) (hs : l.length ≤ 9223372036854775807) (hr : r.length + 1 ≤ 9223372036854775807)
  (hc : (a == 48) = false) (res : Bool) (hres : (a :: r).all isDig = res) (w : World) :
  Calls Tryz.prog 245 #[.string (bs l)] w fun e w' => e = .returned (.bool res) ∧ w = w' := by
 have HR := Lib.hid hres
 clear hres
 have HC := Lib.hid (cut_of l (a :: r) neg ht hn hs)
 clear ht hn hs
 have ha : ((a.toNat : Int) == 48) = false := by rw [← hc]; exact u8_eq a 48
 go_enter Tryz.func245, Tryz.ntmps245
 go_wp2_with (go_at_call 246; refine (HC.out _).mono ?_; rintro e w1 ⟨rfl, rfl⟩)
 clear HC ha hc
 have e1 : ((r.length : Int) + 1) = ((a :: r).length : Int) := by simp
 have e2 : (a :: r).length ≤ 9223372036854775807 := by simpa using hr
 rw [e1]
 clear e1 hr
 generalize a :: r = t at *
 go_loop [5, 28] (fun _ i => ∃ k : Nat, k ≤ t.length ∧ i = .int .i64 k ∧ (t.take k).all isDig = true) (fun _ i => t.length - (RowKit.intOf i).toNat)
 case atStart => exact ⟨0, Nat.zero_le _, rfl, rfl⟩
 case round =>
  obtain ⟨k, hk, rfl, hall⟩ := hrel
  have HA := Lib.hid hall
  clear hall
  by_cases hlt : k < t.length
  ·by_cases hd : isDig t[k] = true
   ·have HS := Lib.hid (all_take_succ t k hlt HA.out hd)
    have hd1 := ((isDig_iff _).1 hd).1
    have hd2 := ((isDig_iff _).1 hd).2
    clear hd
    go_wp2
    go_round
    case rel => exact ⟨k + 1, by omega, by go_num, HS.out⟩
    case measure => simp [RowKit.intOf]; omega
   ·have hf : isDig t[k] = false := by simpa using hd
    have HF := Lib.hid (not_all t k hlt hf)
    have hor : t[k].toNat < 48 ∨ (48 ≤ t[k].toNat ∧ 57 < t[k].toNat) := by
     have : ¬ (48 ≤ t[k].toNat ∧ t[k].toNat ≤ 57) := fun h => hd ((isDig_iff _).2 h)
     omega
    clear hd hf
    rcases hor with h1 | ⟨h1, h2⟩
    all_goals
     go_wp2
     go_ret
     exact ⟨ret_bool (HF.out.symm.trans HR.out), rfl⟩
  ·have e : t.take k = t := List.take_of_length_le (by omega)
   have HA' := HA.out
   rw [e] at HA'
   have HB := Lib.hid HA'
   clear HA HA' e
   go_wp2
   go_ret
   exact ⟨ret_bool (HB.out.symm.trans HR.out), rfl⟩
set_option maxHeartbeats 1000000 in
theorem digits_zero (l : List UInt8) (ht : restL l = [48]) (hn : negL l = false) (hs : l.length ≤ 9223372036854775807) (w : World) :
  Calls Tryz.prog 245 #[.string (bs l)] w fun e w' => e = .returned (.bool true) ∧ w = w' := by
 have HC := Lib.hid (cut_of l [48] false ht hn hs)
 clear ht hn hs
 go_enter Tryz.func245, Tryz.ntmps245
 go_wp2_with (go_at_call 246; refine (HC.out _).mono ?_; rintro e w1 ⟨rfl, rfl⟩)
 go_rounds 2
 go_ret
 exact ⟨rfl, rfl⟩
set_option maxHeartbeats 1000000 in
theorem digits_nil (l : List UInt8) (neg : Bool) (ht : restL l = []) (hn : negL l = neg) (hs : l.length ≤ 9223372036854775807) (w : World) :
  Calls Tryz.prog 245 #[.string (bs l)] w fun e w' => e = .returned (.bool false) ∧ w = w' := by
 have HC := Lib.hid (cut_of l [] neg ht hn hs)
 clear ht hn hs
 go_enter Tryz.func245, Tryz.ntmps245
 go_wp2_with (go_at_call 246; refine (HC.out _).mono ?_; rintro e w1 ⟨rfl, rfl⟩)
 go_ret
 exact ⟨rfl, rfl⟩
set_option maxHeartbeats 1000000 in
theorem digits_lead (l r : List UInt8) (neg : Bool) (ht : restL l = 48 :: r) (hn : negL l = neg) (hs : l.length ≤ 9223372036854775807) (hr : r.length + 1 ≤ 9223372036854775807) (hc : neg = true ∨ (neg = false ∧ 0 < r.length)) (w : World) :
  Calls Tryz.prog 245 #[.string (bs l)] w fun e w' => e = .returned (.bool false) ∧ w = w' := by
 have HC := Lib.hid (cut_of l (48 :: r) neg ht hn hs)
 clear ht hn hs
 rcases hc with rfl | ⟨rfl, hc⟩
 all_goals
  go_enter Tryz.func245, Tryz.ntmps245
  go_wp2_with (go_at_call 246; refine (HC.out _).mono ?_; rintro e w1 ⟨rfl, rfl⟩)
  go_ret
  exact ⟨rfl, rfl⟩
theorem rest_len (l : List UInt8) : (restL l).length ≤ l.length := by unfold restL; split <;> simp
theorem digits_any (l : List UInt8) (hs : l.length ≤ 9223372036854775807) (w : World) :
  Calls Tryz.prog 245 #[.string (bs l)] w fun e w' => e = .returned (.bool (digL l)) ∧ w = w' := by
 have hl := rest_len l
 unfold digL
 cases ht : restL l with
 | nil => exact digits_nil l _ ht rfl hs w
 | cons a r =>
  rw [ht] at hl
  simp only [List.length_cons] at hl
  by_cases ha : a = 48
  ·subst ha
   by_cases hc : negL l = true ∨ 0 < r.length
   ·have e : digT (48 :: r) (negL l) = false := by
     rcases hc with h | h <;> simp [digT, h]
    rw [e]
    refine digits_lead l r _ ht rfl hs (by omega) ?_ w
    cases hn : negL l
    ·rw [hn] at hc; exact .inr ⟨rfl, by simpa using hc⟩
    ·exact .inl rfl
   ·have hn : negL l = false := by
     cases h : negL l
     ·rfl
     ·exact absurd (.inl h) hc
    have hr : r = [] := List.eq_nil_of_length_eq_zero (by have : ¬ 0 < r.length := fun h => hc (.inr h)
                                                          omega)
    subst hr
    rw [hn, show digT [48] false = true from rfl]
    exact digits_zero l ht hn hs w
  ·have ha' : (a == 48) = false := by simpa using ha
   have e : digT (a :: r) (negL l) = (a :: r).all isDig := by
    unfold digT
    rw [List.head?_cons, show ((some a : Option UInt8) == some 48) = false by simpa using ha]
    simp
   rw [e]
   exact digits_run l a r _ ht rfl hs (by omega) ha' _ rfl w
end
section
open Go.RowKit
theorem fold_none (t : List UInt8) (k : Nat) (h : foldP (t.take k) = none) : foldP t = none := by
 have e : foldP t = (t.drop k).foldl stepP (foldP (t.take k)) := by
  unfold foldP; rw [← List.foldl_append, List.take_append_drop]
 rw [e, h]
 generalize t.drop k = r
 induction r with
 | nil => rfl
 | cons a r ih => simpa [stepP] using ih
theorem fold_succ (t : List UInt8) (k : Nat) (hk : k < t.length) (n : Int) (h : foldP (t.take k) = some n) : foldP (t.take (k + 1)) = stepP (some n) t[k] := by
 rw [List.take_succ_eq_append_getElem hk, foldP_snoc, h]
theorem step_over (n : Int) (c : UInt8) (h : n < -922337203685477580 ∨ (n = -922337203685477580 ∧ 56 < c.toNat)) : stepP (some n) c = none := by
 simp only [stepP, Option.bind_some]
 rw [if_pos (by omega)]
theorem step_on (n : Int) (c : UInt8) (h1 : 48 ≤ c.toNat) (h : ¬ (n < -922337203685477580 ∨ (n = -922337203685477580 ∧ 56 < c.toNat))) : stepP (some n) c = some (n * 10 - ((c.toNat : Int) - 48)) := by
 simp only [stepP, Option.bind_some]
 rw [if_neg (by omega)]; congr 1; omega
theorem parse_over (l : List UInt8) (hd : digL l = true) (h : foldP (restL l) = none) : parseL l = (0, 8) := by
 unfold parseL; rw [if_pos hd, h]
theorem parse_neg (l : List UInt8) (n : Int) (hd : digL l = true) (h : foldP (restL l) = some n) (hn : negL l = true) : parseL l = (n, 0) := by
 unfold parseL; rw [if_pos hd, h]; simp [hn]
theorem parse_least (l : List UInt8) (n : Int) (hd : digL l = true) (h : foldP (restL l) = some n) (hn : negL l = false) (hl : n = -9223372036854775808) : parseL l = (0, 8) := by
 unfold parseL; rw [if_pos hd, h]; simp [hn, hl]
theorem parse_pos (l : List UInt8) (n : Int) (hd : digL l = true) (h : foldP (restL l) = some n) (hn : negL l = false) (hl : -9223372036854775808 < n) : parseL l = (-n, 0) := by
 unfold parseL; rw [if_pos hd, h]; simp only [hn, Bool.false_eq_true, if_false]; rw [if_neg (by omega)]
theorem parse_no (l : List UInt8) (hd : digL l = false) : parseL l = (0, 5) := by
 unfold parseL; rw [hd]; simp
theorem ret_pair {a b c d : Int} (h : (a, b) = (c, d)) : Ending.returned (.tuple #[.int .i64 a, .int .i64 b]) = .returned (.tuple #[.int .i64 c, .int .i64 d]) := by
 injection h with h1 h2; rw [h1, h2]
theorem digL_all (l : List UInt8) (h : digL l = true) : (restL l).all isDig = true := by
 unfold digL digT at h; simp only [Bool.and_eq_true] at h; exact h.2
theorem all_at (t : List UInt8) (h : t.all isDig = true) (k : Nat) (hk : k < t.length) : 48 ≤ t[k].toNat ∧ t[k].toNat ≤ 57 :=
 (isDig_iff _).1 (List.all_eq_true.1 h _ (List.getElem_mem hk))
set_option maxHeartbeats 2000000 in
theorem parse_run (l t : List UInt8) (neg : Bool) (ht : restL l = t) (hn : negL l = neg) (hd : digL l = true) (hs : l.length ≤ 9223372036854775806) (v c : Int) (hres : parseL l = (v, c)) (w : World) :
  Calls Tryz.prog 229 #[.string (bs l)] w fun e w' => e = .returned (.tuple #[.int .i64 v, .int .i64 c]) ∧ w = w' := by
 have HR := Lib.hid hres
 have HD := Lib.hid (fun W => by simpa only [hd] using digits_any l (by omega) W)
 have HC := Lib.hid (cut_of l t neg ht hn (by omega))
 have HT := Lib.hid ht
 have HN := Lib.hid hn
 have HG := Lib.hid hd
 have hta : t.all isDig = true := by rw [← ht]; exact digL_all l hd
 have HTA := Lib.hid hta
 have htl : t.length ≤ 9223372036854775806 := by have := rest_len l; rw [ht] at this; omega
 clear hres hn hd hta
 clear ht hs
 go_enter Tryz.func229, Tryz.ntmps229
 go_wp2_with (first
  | (go_at_call 245; refine (HD.out _).mono ?_; rintro e w1 ⟨rfl, rfl⟩)
  | (go_at_call 246; refine (HC.out _).mono ?_; rintro e w1 ⟨rfl, rfl⟩))
 clear HD HC
 go_loop [6, 7, 8, 19] (fun a _ _ i => ∃ (k : Nat) (n : Int), k ≤ t.length ∧ i = .int .i64 k ∧ a = .int .i64 n ∧ -9223372036854775808 ≤ n ∧ n ≤ 0 ∧ foldP (t.take k) = some n) (fun _ _ _ i => t.length - (RowKit.intOf i).toNat)
 case atStart => exact ⟨0, 0, Nat.zero_le _, rfl, rfl, by omega, by omega, rfl⟩
 case round =>
  obtain ⟨k, n, hk, rfl, rfl, hn0, hn1, hf⟩ := hrel
  have HF := Lib.hid hf
  clear hf
  by_cases hlt : k < t.length
  ·have hc1 := (all_at t HTA.out k hlt).1
   have hc2 := (all_at t HTA.out k hlt).2
   by_cases h1 : n < -922337203685477580
   ·have HX := Lib.hid (parse_over l HG.out (by rw [HT.out]; exact fold_none t (k + 1) (by rw [fold_succ t k hlt n HF.out]; exact step_over _ _ (.inl h1))))
    go_wp2
    go_ret2
    exact ⟨ret_pair (HX.out.symm.trans HR.out), rfl⟩
   ·by_cases h2 : n = -922337203685477580
    ·by_cases h3 : 56 < t[k].toNat
     ·have HX := Lib.hid (parse_over l HG.out (by rw [HT.out]; exact fold_none t (k + 1) (by rw [fold_succ t k hlt n HF.out]; exact step_over _ _ (.inr ⟨h2, h3⟩))))
      subst h2
      clear h1
      go_wp2
      go_ret2
      exact ⟨ret_pair (HX.out.symm.trans HR.out), rfl⟩
     ·have HX := Lib.hid (by rw [← step_on n t[k] hc1 (by omega)]; exact fold_succ t k hlt n HF.out : foldP (t.take (k + 1)) = some (n * 10 - ((t[k].toNat : Int) - 48)))
      subst h2
      clear h1
      have h4 : (t[k].toNat : Int) ≤ 56 := by omega
      clear h3
      go_wp2
      go_round
      case rel => exact ⟨k + 1, _, by omega, by go_num, rfl, by omega, by omega, HX.out⟩
      case measure => simp [RowKit.intOf]; omega
    ·have HX := Lib.hid (by rw [← step_on n t[k] hc1 (by omega)]; exact fold_succ t k hlt n HF.out : foldP (t.take (k + 1)) = some (n * 10 - ((t[k].toNat : Int) - 48)))
     have h3 : -922337203685477579 ≤ n := by omega
     clear h1 h2
     go_wp2
     go_round
     case rel => exact ⟨k + 1, _, by omega, by go_num, rfl, by omega, by omega, HX.out⟩
     case measure => simp [RowKit.intOf]; omega
  ·have e : t.take k = t := List.take_of_length_le (by omega)
   have hF := HF.out
   rw [e] at hF
   have HB := Lib.hid hF
   clear HF hF e
   cases neg with
   | true =>
    have HX := Lib.hid (parse_neg l n HG.out (by rw [HT.out]; exact HB.out) HN.out)
    go_wp2
    go_ret2
    exact ⟨ret_pair (HX.out.symm.trans HR.out), rfl⟩
   | false =>
    by_cases hl : n = -9223372036854775808
    ·have HX := Lib.hid (parse_least l n HG.out (by rw [HT.out]; exact HB.out) HN.out hl)
     subst hl
     clear hn0 hn1
     go_wp2
     go_ret2
     exact ⟨ret_pair (HX.out.symm.trans HR.out), rfl⟩
    ·have HX := Lib.hid (parse_pos l n HG.out (by rw [HT.out]; exact HB.out) HN.out (by omega))
     have hn2 : -9223372036854775808 < n := by omega
     clear hl hn0
     go_wp2
     go_ret2
     exact ⟨ret_pair (HX.out.symm.trans HR.out), rfl⟩
set_option maxHeartbeats 1000000 in
theorem parse_bad (l : List UInt8) (hd : digL l = false) (hs : l.length ≤ 9223372036854775806) (w : World) :
  Calls Tryz.prog 229 #[.string (bs l)] w fun e w' => e = .returned (.tuple #[.int .i64 0, .int .i64 5]) ∧ w = w' := by
 have HD := Lib.hid (fun W => by simpa only [hd] using digits_any l (by omega) W)
 clear hd hs
 go_enter Tryz.func229, Tryz.ntmps229
 go_wp2_with (go_at_call 245; refine (HD.out _).mono ?_; rintro e w1 ⟨rfl, rfl⟩)
 go_ret2
 exact ⟨rfl, rfl⟩
theorem parse_any (l : List UInt8) (hs : l.length ≤ 9223372036854775806) (w : World) :
  Calls Tryz.prog 229 #[.string (bs l)] w fun e w' => e = .returned (.tuple #[.int .i64 (parseL l).1, .int .i64 (parseL l).2]) ∧ w = w' := by
 cases hd : digL l
 ·rw [parse_no l hd]; exact parse_bad l hd hs w
 ·exact parse_run l _ _ rfl rfl hd hs _ _ rfl w
end
section
open Go.RowKit
theorem parse_at (l : List UInt8) (v c : Int) (hs : l.length ≤ 9223372036854775806) (h : parseL l = (v, c)) (w : World) :
  Calls Tryz.prog 229 #[.string (bs l)] w fun e w' => e = .returned (.tuple #[.int .i64 v, .int .i64 c]) ∧ w = w' := by
 have := parse_any l hs w
 rwa [h] at this
end
section
open Go.RowKit
attribute [local go_sem] as_nil as_nil_lost as_int64 as_int64_must as_int as_lost as_int64_no as_int_no as_lost_no
attribute [local go_sem] Later.cell Later.frozen
set_option maxHeartbeats 2000000 in
theorem may_any (k n : Int) (w : World) :
  Calls Tryz.prog 181 #[.agg #[.int .i64 k, .int .i64 n]] w fun e w' => e = .returned (.bool (mayV k n)) ∧ Below w.heap.size w w' := by
 rcases may_cases k n with ⟨rfl, h⟩ | ⟨rfl, rfl, h⟩ | ⟨rfl, rfl, h⟩ | ⟨rfl, h1, h2, h⟩ | ⟨rfl, h1, h2, h⟩ | ⟨h1, h2, h3, h4, h⟩ <;> rw [h] <;> clear h
 all_goals
  go_enter Tryz.func181, Tryz.ntmps181
  go_wp2
  go_ret
  exact ⟨rfl, by go_grown⟩
def vParse (l : List UInt8) : Int × Int × Int :=
 if l = [110, 105, 108] then (0, 0, 0) else if l = [63] then (2, 0, 0) else if (parseL l).2 = 0 then (1, (parseL l).1, 0) else (0, 0, (parseL l).2)
theorem vparse_cases (l : List UInt8) : (l = [110, 105, 108] ∧ vParse l = (0, 0, 0)) ∨ (l = [63] ∧ vParse l = (2, 0, 0)) ∨
  ((l == [110, 105, 108]) = false ∧ (l == [63]) = false ∧ ∃ v, parseL l = (v, 0) ∧ vParse l = (1, v, 0)) ∨
  ((l == [110, 105, 108]) = false ∧ (l == [63]) = false ∧ ∃ v c, parseL l = (v, c) ∧ (c != 0) = true ∧ vParse l = (0, 0, c)) := by
 by_cases h1 : l = [110, 105, 108]
 ·exact .inl ⟨h1, by simp [vParse, h1]⟩
 by_cases h2 : l = [63]
 ·exact .inr (.inl ⟨h2, by simp [vParse, h2]⟩)
 have e1 : (l == [110, 105, 108]) = false := by simpa using h1
 have e2 : (l == [63]) = false := by simpa using h2
 obtain ⟨v, c, hp⟩ : ∃ v c, parseL l = (v, c) := ⟨_, _, rfl⟩
 by_cases hc : c = 0
 ·subst hc
  exact .inr (.inr (.inl ⟨e1, e2, v, hp, by simp [vParse, h1, h2, hp]⟩))
 ·exact .inr (.inr (.inr ⟨e1, e2, v, c, hp, by simpa using hc, by simp [vParse, h1, h2, hp, hc]⟩))
set_option maxHeartbeats 2000000 in
theorem vparse_of (l : List UInt8) (a b c : Int) (hs : l.length ≤ 9223372036854775806) (h : vParse l = (a, b, c)) (w : World) :
  Calls Tryz.prog 200 #[.string (bs l)] w fun e w' => e = .returned (.tuple #[.agg #[.int .i64 a, .int .i64 b], .int .i64 c]) ∧ Below w.heap.size w w' := by
 rcases vparse_cases l with ⟨rfl, h'⟩ | ⟨rfl, h'⟩ | ⟨h1, h2, v, hp, h'⟩ | ⟨h1, h2, v, c', hp, hc, h'⟩
 all_goals
  rw [h'] at h
  simp only [Prod.mk.injEq] at h
  obtain ⟨rfl, rfl, rfl⟩ := h
  clear h'
 ·go_enter Tryz.func200, Tryz.ntmps200
  go_wp2
  go_returns
  exact ⟨rfl, by go_grown⟩
 ·go_enter Tryz.func200, Tryz.ntmps200
  go_wp2
  go_returns
  exact ⟨rfl, by go_grown⟩
 all_goals
  have HP := Lib.hid (parse_at l _ _ hs hp)
  clear hp hs
  go_enter Tryz.func200, Tryz.ntmps200
  go_wp2_with (go_at_call 229; refine (HP.out _).mono ?_; rintro e w1 ⟨rfl, rfl⟩)
  go_returns
  exact ⟨rfl, by go_grown⟩
end
section
open Go.RowKit Go.Lib
def mayE (x : EventM) : Bool := decide (1 ≤ x.1) && (decide (x.1 ≤ 6) && (nameL x.2.1 &&
 (if longK x.1 then nameL x.2.2.1 && (mayV x.2.2.2.1 x.2.2.2.2.1 && (x.1 == 2 || x.2.2.2.1 == 1)) else decide (x.2.2.1 = []) && (x.2.2.2.1 == 0 && x.2.2.2.2.1 == 0))))
def valuedE (k : Int) (s key t : List UInt8) : EventM × Int :=
 if (vParse t).2.2 ≠ 0 then (noEv, (vParse t).2.2) else if k = 3 ∧ (vParse t).1 = 0 then (noEv, 11) else if k = 3 ∧ (vParse t).1 = 2 then (noEv, 5) else ((k, s, key, (vParse t).1, (vParse t).2.1, 0), 0)
def headE (L : List (List UInt8)) : Bool := decide (kindL (L.getD 0 []) ≠ 0) && (decide (L.length = if longK (kindL (L.getD 0 [])) then 4 else 2) && (nameL (L.getD 1 []) && (!longK (kindL (L.getD 0 [])) || nameL (L.getD 2 []))))
def readE (L : List (List UInt8)) : EventM × Bool × Int :=
 if headE L = false then (noEv, false, 5)
 else if longK (kindL (L.getD 0 [])) then ((valuedE (kindL (L.getD 0 [])) (L.getD 1 []) (L.getD 2 []) (L.getD 3 [])).1, decide ((valuedE (kindL (L.getD 0 [])) (L.getD 1 []) (L.getD 2 []) (L.getD 3 [])).2 = 0), (valuedE (kindL (L.getD 0 [])) (L.getD 1 []) (L.getD 2 []) (L.getD 3 [])).2)
 else ((kindL (L.getD 0 []), L.getD 1 [], [], 0, 0, 0), true, 0)
def parseE (s : List UInt8) : EventM × Bool × Int :=
 if (wordsR s).2 ≠ 0 ∨ (wordsR s).1 = [] then (noEv, false, ((wordsR s).2 : Int)) else readE ((wordsR s).1.map (·.1))
theorem kindL_range (l : List UInt8) : 0 ≤ kindL l ∧ kindL l ≤ 6 := by
 unfold kindL
 (repeat' split) <;> decide
theorem parse_digs (t : List UInt8) (h : (vParse t).2.2 = 0) : mayV (vParse t).1 (vParse t).2.1 = true := by
 unfold vParse at h ⊢
 (repeat' split) <;> simp_all [mayV]
theorem read_may (L : List (List UInt8)) (h : (readE L).2.1 = true) : (readE L).2.2 = 0 ∧ mayE (readE L).1 = true := by
 unfold readE at h ⊢
 by_cases hh : headE L = false
 ·rw [if_pos hh] at h; cases h
 ·rw [if_neg hh] at h ⊢
  have hh' : headE L = true := by simpa using hh
  clear hh
  unfold headE at hh'
  have hkr := kindL_range (L.getD 0 [])
  generalize kindL (L.getD 0 []) = K at *
  generalize L.getD 1 [] = n1 at *
  generalize L.getD 2 [] = n2 at *
  generalize L.getD 3 [] = t at *
  simp only [Bool.and_eq_true, decide_eq_true_eq] at hh'
  obtain ⟨hk0, -, hn, hn2⟩ := hh'
  cases hl : longK K with
  | false =>
   rw [if_neg (by simp)]
   refine ⟨rfl, ?_⟩
   unfold mayE
   simp only [hl, hn]
   simp
   omega
  | true =>
   rw [hl] at h hn2
   rw [if_pos rfl] at h ⊢
   have hm := parse_digs t
   unfold valuedE at h ⊢
   obtain ⟨a, b, c, hp⟩ : ∃ a b c, vParse t = (a, b, c) := ⟨_, _, _, rfl⟩
   rw [hp] at h hm ⊢
   simp only at h hm ⊢
   have hn2' : nameL n2 = true := by simpa using hn2
   by_cases h1 : c = 0
   ·subst h1
    have hm' := hm rfl
    rw [if_neg (by simp)] at h ⊢
    by_cases h2 : K = 3 ∧ a = 0
    ·rw [if_pos h2] at h; simp at h
    ·rw [if_neg h2] at h ⊢
     by_cases h3 : K = 3 ∧ a = 2
     ·rw [if_pos h3] at h; simp at h
     ·rw [if_neg h3]
      refine ⟨rfl, ?_⟩
      unfold mayE
      simp only [hl, if_true, hn, hm', hn2']
      have hk23 : K = 2 ∨ K = 3 := by
       unfold longK at hl
       simpa using hl
      have hv : K = 3 → a = 1 := by
       intro e
       have a0 : a ≠ 0 := fun b => h2 ⟨e, b⟩
       have a2 : a ≠ 2 := fun b => h3 ⟨e, b⟩
       unfold mayV at hm'
       simp at hm'
       omega
      rcases hk23 with e | e
      ·simp [e]
      ·simp [e, hv e]
   ·rw [if_pos (by simpa using h1)] at h
    simp at h
    exact absurd h h1
theorem parse_may (s : List UInt8) (h : (parseE s).2.1 = true) : (parseE s).2.2 = 0 ∧ mayE (parseE s).1 = true := by
 unfold parseE at h ⊢
 split
 ·rename_i hc
  rw [if_pos hc] at h
  simp at h
 ·rename_i hc
  rw [if_neg hc] at h
  exact read_may _ h
end
section
open Go.RowKit Go.Lib
def onLine (x : EventM) (n : Int) : EventM := (x.1, x.2.1, x.2.2.1, x.2.2.2.1, x.2.2.2.2.1, n)
def logGo : List (List UInt8) → Nat → List EventM → List EventM × Int × Int
 | [], _, out => (out, 0, 0)
 | t :: r, i, out =>
  if (parseE t).2.2 ≠ 0 then ([], ((i + 1 : Nat) : Int), (parseE t).2.2)
  else if (parseE t).2.1 = false then logGo r (i + 1) out
  else if out.length = 1000 then ([], ((i + 1 : Nat) : Int), 7)
  else logGo r (i + 1) (out ++ [onLine (parseE t).1 ((i + 1 : Nat) : Int)])
def readL (s : List UInt8) : List EventM × Int × Int :=
 if (ofL s).2.2 ≠ 0 then ([], ((ofL s).2.1 : Int), ((ofL s).2.2 : Int)) else logGo (ofL s).1 0 []
end
end Go.Proofs.YtmgchjddpmmglaaGreatDoor
