/-
  The walks of layer 6 (split): a line's words, in the program. No conditions but that internal/bytealg.MaxLen holds a number.
-/
import Derived.Test.YtphhgdgamnogpaaDoorSplitP
import Derived.Test.YtphhgdgamnogpaaDoorLayS
import Derived.WalkSmall
namespace Go.Proofs.YtphhgdgamnogpaaDoor
open Go.RowKit Go.Lib

/-! ### slices of words -/
/-- Words as cells. -/
def wcells (W : List (List UInt8 × Nat)) : List Value := W.flatMap fun x => [.string (bs x.1), .int .i64 (x.2 : Int)]
theorem wcells_snoc (W : List (List UInt8 × Nat)) (x : List UInt8) (n : Nat) : wcells W ++ [.string (bs x), .int .i64 (n : Int)] = wcells (W ++ [(x, n)]) := by simp [wcells]
theorem wcells_next (W : List (List UInt8 × Nat)) (x : List UInt8) (n : Nat) : wcells W ++ [.string (bs x), .int .i64 ((n : Int) + 1)] = wcells (W ++ [(x, n + 1)]) := by simp [wcells]
theorem wcells_at : ∀ (W : List (List UInt8 × Nat)) (j : Nat), j < W.length → (wcells W)[j * 2]? = some (.string (bs (W.getD j ([], 0)).1)) ∧ (wcells W)[j * 2 + 1]? = some (.int .i64 ((W.getD j ([], 0)).2 : Nat))
  | [], j, h => absurd h (Nat.not_lt_zero j)
  | x :: W, 0, _ => ⟨rfl, rfl⟩
  | x :: W, j + 1, h => by
    have := wcells_at W j (by simpa using h)
    have e : wcells (x :: W) = .string (bs x.1) :: .int .i64 (x.2 : Int) :: wcells W := by simp [wcells]
    rw [e, show (j + 1) * 2 = j * 2 + 1 + 1 by omega]
    simpa using this
def HasWords (w : World) (p : Option Addr) (W : List (List UInt8 × Nat)) : Prop :=
  ∀ j, j < W.length → ∃ g, p = some ⟨g, 0, none⟩ ∧ w.cell? ⟨g, j * 2, none⟩ = some (.string (bs (W.getD j ([], 0)).1)) ∧ w.cell? ⟨g, j * 2 + 1, none⟩ = some (.int .i64 ((W.getD j ([], 0)).2 : Nat))
theorem HasWords.below {w w' : World} {p : Option Addr} {W : List (List UInt8 × Nat)} (h : HasWords w p W) (hb : Below w.heap.size w w') : HasWords w' p W := fun j hj => by
  obtain ⟨g, hp, hc, hd⟩ := h j hj
  exact ⟨g, hp, cell_later hb hc, cell_later hb hd⟩
def Words (w : World) (v : Value) (W : List (List UInt8 × Nat)) : Prop := ∃ p cap, v = .slice p W.length cap ∧ HasWords w p W
theorem words_none (w : World) : Words w (.slice none 0 0) [] := ⟨none, 0, rfl, fun j hj => absurd hj (Nat.not_lt_zero j)⟩
theorem own_words {w : World} {B : Nat} {e : TypeId} {v : Value} {W : List (List UInt8 × Nat)} (h : w.ownsRow B e 2 v W.length (wcells W)) : Words w v W := by
  obtain ⟨-, ⟨h0, hn⟩ | ⟨g, cap, cur, hv, -, hw, -, -, -, ht⟩⟩ := h
  · have : W = [] := List.eq_nil_of_length_eq_zero hn
    subst this h0
    exact words_none w
  · refine ⟨_, cap, hv, fun j hj => ⟨g, rfl, ?_, ?_⟩⟩
    · have h1 := congrArg (fun x : List Value => x[j * 2]?) ht
      simp only [List.getElem?_take, show j * 2 < W.length * 2 by omega, if_true, Array.getElem?_toList] at h1
      rw [cell_of_row w g (j * 2) _ _ (0, 0) hw, h1]
      exact (wcells_at W j hj).1
    · have h1 := congrArg (fun x : List Value => x[j * 2 + 1]?) ht
      simp only [List.getElem?_take, show j * 2 + 1 < W.length * 2 by omega, if_true, Array.getElem?_toList] at h1
      rw [cell_of_row w g (j * 2 + 1) _ _ (0, 0) hw, h1]
      exact (wcells_at W j hj).2
theorem info_word : (Tryd.prog.info? 86).map (fun i => (i.zero, i.size, i.bytes)) = some (some (.agg #[.string ByteArray.empty, .int .i64 0]), 2, 24) := by kernel_rfl
theorem info_rword : (Tryd.prog.info? 153).map (fun i => (i.zero, i.size, i.bytes)) = some (some (.agg #[.string ByteArray.empty, .int .i64 0]), 2, 24) := by kernel_rfl

/-! ### the library's functions -/
theorem sblank_any (c : Nat) (w : World) :
    Calls Tryd.prog 98 #[.int .i32 c] w fun e w' => e = .returned (.bool (blankR c)) ∧ w = w' := by
  go_enter Tryd.func98, Tryd.ntmps98
  go_wp2
  all_goals
    go_ret
    refine ⟨?_, rfl⟩
    unfold blankR
    refine congrArg (fun b => Ending.returned (Value.bool b)) ?_
    rw [Bool.eq_iff_iff]
    simp
    try omega
/-- Has a text a line feed? -/
def hasFeed (s : List UInt8) : Bool := decide (0 ≤ index s [10])
theorem contains_any (l : List UInt8) (hs : l.length ≤ 1000000) (w : World) (hm : HasMax w) :
    Calls Tryd.prog 96 #[.string (bs l), .string (bs [10])] w fun e w' => e = .returned (.bool (hasFeed l)) ∧ w = w' := by
  obtain ⟨m, hm⟩ := hm
  have h := Any.strings_Contains Tryd.laysContains (bs l) (bs [10]) m w (by rw [bs_size]; omega) hm
  rw [bs_list, bs_list] at h
  exact h.mono fun _ _ ⟨a, b⟩ => ⟨a, b.symm⟩
theorem feed_at (l : List UInt8) : hasFeed l = l.any (fun b => decide (b = 10)) := by
  unfold hasFeed
  induction l with
  | nil => simp [index]
  | cons b t ih =>
    by_cases hb : b = 10
    · subst hb
      have hi : index ((10 : UInt8) :: t) [10] = 0 := by rw [index]; simp [List.isPrefixOf]
      rw [hi]
      simp
    · rw [index_cons_ne b t hb]
      have hge := index_ge t [10]
      simp only [List.any_cons, hb, decide_false, Bool.false_or]
      rw [← ih]
      by_cases hm : index t [10] = -1
      · rw [hm]; decide
      · have hm' : ¬ (index t [10] == -1) = true := fun e => hm (beq_iff_eq.1 e)
        rw [if_neg hm']
        simp only [decide_eq_decide]
        omega
theorem index35_ne (b : UInt8) (l : List UInt8) (h : b ≠ 35) : index (b :: l) [35] = if index l [35] == -1 then -1 else index l [35] + 1 := by
  have hp : ([35] : List UInt8).isPrefixOf (b :: l) = false := by simp [List.isPrefixOf, Ne.symm h]
  rw [index, hp]
  simp
theorem index35 : ∀ l : List UInt8, (index l [35] = -1 ∧ aheadL l = l) ∨ (index l [35] = (aheadL l).length ∧ (aheadL l).length < l.length)
  | [] => .inl ⟨by simp [index], rfl⟩
  | b :: t => by
    by_cases hb : b = 35
    · subst hb
      right
      have hi : index ((35 : UInt8) :: t) [35] = 0 := by rw [index]; simp [List.isPrefixOf]
      rw [hi]
      simp [aheadL]
    · have e : aheadL (b :: t) = b :: aheadL t := by simp [aheadL, hb]
      rw [index35_ne b t hb, e]
      rcases index35 t with ⟨h1, h2⟩ | ⟨h1, h2⟩
      · left
        rw [h1, h2]
        exact ⟨rfl, rfl⟩
      · right
        have hm' : ¬ (((aheadL t).length : Int) == -1) = true := fun e => by have := beq_iff_eq.1 e; omega
        rw [h1, if_neg hm']
        simp only [List.length_cons]
        omega
theorem ahead_take (l : List UInt8) : aheadL l = l.take (aheadL l).length := by
  rcases ahead_app l with h | ⟨y, h⟩
  · rw [h, List.take_length]
  · have e := congrArg (List.take (aheadL l).length) h
    rw [List.take_left] at e
    exact e.symm
theorem cut_any (l : List UInt8) (hs : l.length ≤ 1000000) (w : World) (hm : HasMax w) :
    Calls Tryd.prog 97 #[.string (bs l), .string (bs [35])] w fun e w' => e = .returned (.tuple #[.string (bs (aheadL l)), .string (bs (l.drop ((aheadL l).length + 1))), .bool (decide ((aheadL l).length < l.length))]) ∧ ∃ n, w' = w.drewN n := by
  obtain ⟨m, hm⟩ := hm
  have h := Any.strings_Cut Tryd.laysCut (bs l) (bs [35]) m w (by rw [bs_size]; omega) hm
  rw [bs_list, bs_list] at h
  have e : cut l [35] = (aheadL l, l.drop ((aheadL l).length + 1), decide ((aheadL l).length < l.length)) := by
    unfold cut
    rcases index35 l with ⟨h1, h2⟩ | ⟨h1, h2⟩
    · rw [h1, h2, if_neg (by decide), List.drop_eq_nil_of_le (by omega), decide_eq_false (Nat.lt_irrefl _)]
    · rw [h1, if_pos (by omega), show ((aheadL l).length : Int).toNat = (aheadL l).length by omega, ← ahead_take, decide_eq_true h2]
      rfl
  rw [e] at h
  exact h

/-! ### the program's words -/
/-- A place that may be none, as the program keeps it. -/
def frV : Option Nat → Value
  | some f => .int .i64 (f : Int)
  | none => .int .i64 (-1)
/-- The words of a line, and the error. -/
def wordsR (s : List UInt8) : List (List UInt8 × Nat) × Nat := if validD s && !hasFeed s then (wordsL (aheadL s), 0) else ([], 5)
theorem scan_len (l : List UInt8) : ∀ (n i : Nat) (fr : Option Nat), (scanGo l n i fr).length ≤ n + 1
  | 0, i, fr => by cases fr <;> simp [scanGo]
  | n + 1, i, fr => by
    unfold scanGo
    split
    · cases fr with
      | none => have := scan_len l n (i + 1) none; simp only; omega
      | some f => have := scan_len l n (i + 1) none; simp only [List.length_cons]; omega
    · have := scan_len l n (i + 1) (some (fr.getD i)); omega

/-- The program's state over a line's runes. -/
def WordsAt (t : List UInt8) (w wr : World) (k0 : Nat) (v fr fi n : Value) (R : List (Nat × Nat)) : Prop :=
  ∃ p k : Nat, ∃ st : Option Nat, ∃ done : List (Nat × Nat), p ≤ t.length ∧ k ≤ p ∧ n = .int .i64 k ∧ fr = frV st ∧ (∀ f, st = some f → f ≤ p ∧ fi = .int .i64 ((colN t 0 f + 1 : Nat) : Int)) ∧
    wr.ownsRow (k0 + 1) 86 2 v done.length (wcells (done.map (wordAt t))) ∧ wr.heap[k0]? = some (.stringIter (bs t) p) ∧ Below w.heap.size w wr ∧ k0 < wr.heap.size ∧
    RunesTo t p k ∧ R = done ++ scanGo t (t.length - p) p st ∧ done.length ≤ p

set_option maxRecDepth 100000 in
set_option maxHeartbeats 2000000 in
theorem swords_any (s : List UInt8) (hs : s.length ≤ 1000000) (w : World) (hm : HasMax w) :
    Calls Tryd.prog 52 #[.string (bs s)] w fun e w' => ∃ v, e = .returned (.tuple #[v, .int .i64 ((wordsR s).2 : Nat)]) ∧ Words w' v (wordsR s).1 ∧ Below w.heap.size w w' := by
  have HC := Lib.hid (lrunes_any s hs)
  have hv := runesN_snd s
  generalize runesN s = N at *
  obtain ⟨N1, N2⟩ := N
  simp only at HC hv
  subst hv
  have HF := Lib.hid (contains_any s hs)
  have HX := Lib.hid (cut_any s hs)
  have HM := Lib.hid hm
  clear hm
  have eR : wordsR s = if validD s && !hasFeed s then (wordsL (aheadL s), 0) else ([], 5) := rfl
  rw [eR]
  clear eR
  have hlen := ahead_len s
  generalize validD s = V at *
  generalize hasFeed s = F at *
  cases V with
  | false =>
    go_enter Tryd.func52, Tryd.ntmps52
    go_wp2_with fail
    refine (HC.out _).mono ?_
    rintro e w1 ⟨rfl, hb1⟩
    go_wp2_with fail
    go_ret2
    exact ⟨_, rfl, words_none _, hb1⟩
  | true =>
    cases F with
    | true =>
      go_enter Tryd.func52, Tryd.ntmps52
      go_wp2_with fail
      refine (HC.out _).mono ?_
      rintro e w1 ⟨rfl, hb1⟩
      have HM1 := Lib.hid (HM.out.below hb1)
      go_wp2_with fail
      refine (HF.out _ HM1.out).mono ?_
      rintro e w' ⟨rfl, rfl⟩
      go_wp2_with fail
      go_ret2
      exact ⟨_, rfl, words_none _, hb1⟩
    | false =>
      show Calls _ _ _ _ fun e w' => ∃ v, e = .returned (.tuple #[v, .int .i64 ((0 : Nat) : Int)]) ∧ Words w' v (wordsL (aheadL s)) ∧ Below w.heap.size w w'
      have hlt : (aheadL s).length ≤ 1000000 := by omega
      generalize aheadL s = t at *
      obtain ⟨R, hR⟩ : ∃ R, scanL t = R := ⟨_, rfl⟩
      have eW : wordsL t = R.map (wordAt t) := by rw [← hR]; rfl
      rw [eW]
      have HR := Lib.hid hR
      clear hR eW hlen
      obtain ⟨i0, hi, hz0, hz1, hz2⟩ := info_parts info_word
      go_enter Tryd.func52, Tryd.ntmps52
      go_wp2_with fail
      refine (HC.out _).mono ?_
      rintro e w1 ⟨rfl, hb1⟩
      have HM1 := Lib.hid (HM.out.below hb1)
      go_wp2_with fail
      refine (HF.out _ HM1.out).mono ?_
      rintro e w' ⟨rfl, rfl⟩
      go_wp2_with fail
      refine (HX.out _ HM1.out).mono ?_
      rintro e w2 ⟨rfl, q, rfl⟩
      have hb2 : Below w.heap.size w (w1.drewN q) := hb1.trans ⟨rfl, rfl, rfl, Nat.le_refl _, fun _ _ => rfl⟩
      go_wp2_with fail
      go_loopw [6, 7, 8, 9] (fun v fr fi n wr => WordsAt t w wr w1.heap.size v fr fi n R) (fun _ _ _ _ wr => t.length - wr.iterPos w1.heap.size)
      case atStart =>
        refine ⟨0, 0, none, [], Nat.zero_le _, Nat.le_refl _, rfl, rfl, (fun f hf => by cases hf), World.ownsRow_nil _ _ _ _, ?_, hb2.alloc (by have := hb1.size; simpa using this) _, by simp [World.iter], runesTo_start t, by rw [← HR.out]; rfl, Nat.le_refl _⟩
        have h5 := World.iter_heap (w1.drewN q) (bs t) 0
        exact h5
      case round =>
        obtain ⟨p, k, st, done, hp, hkp, rfl, rfl, hfi, hown, hit, hbw, hk0, hrt, hR, hdl⟩ := hrel
        have HFI := Lib.hid hfi
        have HRT := Lib.hid hrt
        have HRR := Lib.hid hR
        clear hfi hrt hR
        by_cases hlt : p < t.length
        · have hb := one_bounds t p hlt
          have hnx := fun ty => run_next_any_at (P := Tryd.prog) wr w1.heap.size (bs t) p ty hit (by rw [bs_size]; exact hlt)
          rw [← decodeL_drop, bs_list] at hnx
          have eo : decodeL (t.drop p) = oneAt t p := rfl
          rw [eo] at hnx
          have hit2 := iterAt_heap wr w1.heap.size (bs t) p (p + (oneAt t p).2) hit
          have hbw2 := below_iterAt hbw (k := w1.heap.size) (by have := hb1.size; omega) (bs t) (p + (oneAt t p).2)
          have hown' := ownsRow_iterAt hown (k := w1.heap.size) (by omega) (bs t) (p + (oneAt t p).2)
          have hsz := iterAt_size wr w1.heap.size (bs t) (p + (oneAt t p).2)
          obtain ⟨sr1, sr2⟩ := scan_rune t p st hlt
          have hrt2 := Lib.hid (runesTo_step t p k hlt HRT.out)
          have hcol := runesTo_col t p k HRT.out
          have hle : (oneAt t p).1 ≤ 1114111 := decodeL_rune _
          have HB := Lib.hid (sblank_any (oneAt t p).1)
          obtain ⟨D, hD⟩ : ∃ D, oneAt t p = D := ⟨_, rfl⟩
          rw [hD] at hb hnx hit2 hbw2 hown' sr1 sr2 hrt2 hle HB hsz
          obtain ⟨WW, hWW⟩ : ∃ WW, wr.iterAt w1.heap.size (bs t) (p + D.2) = WW := ⟨_, rfl⟩
          rw [hWW] at hnx hit2 hbw2 hown' hsz
          have hpos : WW.iterPos w1.heap.size = p + D.2 := iterPos_of hit2
          have hpos0 : wr.iterPos w1.heap.size = p := iterPos_of hit
          have hk1 : w1.heap.size < WW.heap.size := by omega
          have hk2 := hbw2.size
          clear eo hD hWW hown hit hbw hsz
          cases hbl : blankR D.1 with
          | true =>
            rw [hbl] at HB
            have hs1 := Lib.hid (sr1 hbl)
            clear sr1 sr2 hbl
            cases st with
            | none =>
              have hR2 := Lib.hid (HRR.out.trans (congrArg (done ++ ·) hs1.out))
              clear HRR hs1
              simp only [frV, pushed, List.nil_append] at hR2 ⊢
              go_wp2_with (go_at_call 98; refine (HB.out _).mono ?_; rintro e w3 ⟨rfl, rfl⟩)
              go_roundw
              case rel => exact ⟨p + D.2, k + 1, none, done, hb.2, by omega, by go_num, rfl, (fun f hf => by cases hf), hown', hit2, hbw2, hk1, hrt2.out, hR2.out, by omega⟩
              case measure => rw [hpos, hpos0]; omega
            | some f =>
              obtain ⟨hfp, rfl⟩ := HFI.out f rfl
              have hR2 := Lib.hid (HRR.out.trans (congrArg (done ++ ·) hs1.out))
              clear HRR hs1 HFI
              simp only [frV, pushed] at hR2 ⊢
              go_wp2_with (first
                | (go_at_call 98; refine (HB.out _).mono ?_; rintro e w3 ⟨rfl, rfl⟩)
                | (at_builtin; refine wpList_append_own _ rfl _ _ 81 rfl (w1.heap.size + 1) 86 i0 (.agg #[.string ByteArray.empty, .int .i64 0]) 2 24 Tryd.underlying81 hi hz0 hz1 hz2 rfl (by decide) _ _ _ rfl (hown'.alloc _) ⟨WW.heap.size, 0, none⟩ 1 1 [.string (bs (curL t f p)), .int .i64 ((colN t 0 f + 1 : Nat) : Int)] rfl rfl ?c1 ?c2 ?c3 ?c4 ?c5 ?_))
              case c1 =>
                intro j u hj
                match j, hj with
                | 0, hj => simp at hj; subst hj; simp [Addr.add, curL]
                | 1, hj => simp at hj; subst hj; simp [Addr.add]
              case c2 => intro u hu; simp at hu; rcases hu with rfl | rfl <;> rfl
              case c3 => unfold maxLen; omega
              case c4 => omega
              case c5 => simp; omega
              · intro v' w4 hown4 hgrow hnil
                have hlow := hown'.lt
                have hit4 : w4.heap[w1.heap.size]? = some (.stringIter (bs t) (p + D.2)) := by
                  rw [hgrow.block w1.heap.size (by simp; omega) (fun e => by have := (hlow _ e.symm).1; omega), heap_alloc_old WW _ hk1]
                  exact hit2
                have hb4 : Below w.heap.size w w4 := (hbw2.alloc hk2 _).grown hgrow (by simp; omega) (fun k hk => by have := (hlow k hk).1; have := hb1.size; omega)
                have hk4 : w1.heap.size < w4.heap.size := by have := hgrow.size; simp at this; omega
                have hpos4 : w4.iterPos w1.heap.size = p + D.2 := iterPos_of hit4
                have HO := Lib.hid hown4
                clear hown4 hnil hit2 hbw2 hown' hgrow hlow
                go_wp2_with fail
                go_roundw
                case rel =>
                  refine ⟨p + D.2, k + 1, none, done ++ [(f, p)], hb.2, by omega, by go_num, rfl, (fun f hf => by cases hf), ?_, hit4, hb4, hk4, hrt2.out, by rw [hR2.out]; simp, by simp; omega⟩
                  have h5 := HO.out
                  rw [wcells_next] at h5
                  simpa [wordAt] using h5
                case measure => rw [hpos4, hpos0]; omega
          | false =>
            rw [hbl] at HB
            have hs2 := Lib.hid (sr2 hbl)
            clear sr1 sr2 hbl
            cases st with
            | none =>
              have hR2 := Lib.hid (HRR.out.trans (congrArg (done ++ ·) hs2.out))
              clear HRR hs2
              simp only [frV, Option.getD_none] at hR2 ⊢
              go_wp2_with (go_at_call 98; refine (HB.out _).mono ?_; rintro e w3 ⟨rfl, rfl⟩)
              go_roundw
              case rel => exact ⟨p + D.2, k + 1, some p, done, hb.2, by omega, by go_num, rfl, (fun f hf => by obtain rfl := Option.some.inj hf; exact ⟨by omega, by rw [hcol]; go_num⟩), hown', hit2, hbw2, hk1, hrt2.out, hR2.out, by omega⟩
              case measure => rw [hpos, hpos0]; omega
            | some f =>
              obtain ⟨hfp, rfl⟩ := HFI.out f rfl
              have hR2 := Lib.hid (HRR.out.trans (congrArg (done ++ ·) hs2.out))
              clear HRR hs2 HFI
              simp only [frV, Option.getD_some] at hR2 ⊢
              go_wp2_with (go_at_call 98; refine (HB.out _).mono ?_; rintro e w3 ⟨rfl, rfl⟩)
              go_roundw
              case rel => exact ⟨p + D.2, k + 1, some f, done, hb.2, by omega, by go_num, rfl, (fun g hg => by obtain rfl := Option.some.inj hg; exact ⟨by omega, rfl⟩), hown', hit2, hbw2, hk1, hrt2.out, hR2.out, by omega⟩
              case measure => rw [hpos, hpos0]; omega
        · have hnx := fun ty => run_next_end_at (P := Tryd.prog) wr w1.heap.size (bs t) p ty hit (by rw [bs_size]; exact hlt)
          have hep : p = t.length := by omega
          have hR2 := Lib.hid (HRR.out.trans (congrArg (done ++ ·) (scan_end t p st (by omega))))
          subst hep
          clear HRR
          cases st with
          | none =>
            simp only [frV, pushed, List.append_nil] at hR2 ⊢
            go_wp2_with fail
            go_ret2
            rw [hR2.out]
            exact ⟨_, rfl, own_words (by rw [List.length_map]; exact hown), hbw⟩
          | some f =>
            obtain ⟨hfp, rfl⟩ := HFI.out f rfl
            simp only [frV, pushed] at hR2 ⊢
            go_wp2_with (at_builtin; refine wpList_append_own _ rfl _ _ 81 rfl (w1.heap.size + 1) 86 i0 (.agg #[.string ByteArray.empty, .int .i64 0]) 2 24 Tryd.underlying81 hi hz0 hz1 hz2 rfl (by decide) _ _ _ rfl (hown.alloc _) ⟨wr.heap.size, 0, none⟩ 1 1 [.string (bs (curL t f t.length)), .int .i64 ((colN t 0 f + 1 : Nat) : Int)] rfl rfl ?c1 ?c2 ?c3 ?c4 ?c5 ?_)
            case c1 =>
              intro j u hj
              match j, hj with
              | 0, hj => simp at hj; subst hj; simp [Addr.add, curL]
              | 1, hj => simp at hj; subst hj; simp [Addr.add]
            case c2 => intro u hu; simp at hu; rcases hu with rfl | rfl <;> rfl
            case c3 => unfold maxLen; omega
            case c4 => omega
            case c5 => simp; omega
            · intro v' w4 hown4 hgrow hnil
              have HO := Lib.hid hown4
              clear hown4 hnil
              go_wp2_with fail
              go_ret2
              rw [hR2.out]
              refine ⟨_, rfl, own_words (B := w1.heap.size + 1) (e := 86) ?_, ?_⟩
              · have h5 := HO.out
                rw [wcells_next] at h5
                simpa [wordAt] using h5
              · exact (hbw.alloc hbw.size _).grown hgrow (by have := hbw.size; simp; omega) (fun k hk => by have := (hown.lt k hk).1; have := hb1.size; omega)
end Go.Proofs.YtphhgdgamnogpaaDoor
