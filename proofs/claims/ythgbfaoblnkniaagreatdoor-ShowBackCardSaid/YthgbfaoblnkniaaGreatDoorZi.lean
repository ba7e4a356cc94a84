/-
  The walks of layer 1 (line): a text's lines, in the program and in its reference. No conditions but that internal/bytealg.MaxLen holds a number.
  The statements LineOf and LineJoins of layer 1 (line), walked. No conditions but that internal/bytealg.MaxLen holds a number.
  Layer 1 (line) in plain words: a text without blanks at its ends, as strings.TrimFunc goes and byte by byte; no program in sight. No conditions.
  Nothing of the shelf is laid here at this seat (the functions are not reached).
  The walks of layer 1 (line): the runes ahead of a byte, and a text without blanks, in the program and in its reference; the statement LineRunes. No conditions but that unicode/utf8's two tables are as their initialisers lay them and that internal/bytealg.MaxLen holds a number.
  Layer 6 (split) in plain words: a line's words, by bytes and by runes; no program in sight. No conditions.
  DERIVED: THE SHELF's CONTRACTS AT THIS DUMP, IN PLAIN WORDS (tools/lay-plain.mjs out of 'TrydShelfS4.lean', which tools/lay-shelf.mjs wrote): THE SAME DECLARATIONS UNDER THE SAME NAMES: 'import', 'namespace', 'open', 'def', 'theorem' AND NOTHING ELSE: no command of the shelf's: FOR A HAND-IN. Each laying: the table of numbers ('.._ren') and one theorem, a field a fact of the dump's own or the kernel's comparison; each contract: ONE APPLICATION.
-/
import Derived.Test.YthgbfaoblnkniaaGreatDoorZh
import Derived.Test.YthgbfaoblnkniaaGreatDoorZb
import Derived.Test.YthgbfaoblnkniaaGreatDoorZa
import Derived.Shelf.GgClosure.StringsTrimFunc
import Derived.Test.YthgbfaoblnkniaaGreatDoorProg
import Derived.Ground.NamesProg
import Derived.Shelf.LaysM
import Derived.Shelf.Strings.Cut
import Derived.Shelf.Strings.Search3
import Derived.Shelf.Strings.OnBuilder
namespace Go.Proofs.YthgbfaoblnkniaaGreatDoor
open Go.RowKit Go.Lib
def HasMax (w : World) : Prop := ∃ m, w.cell? ⟨Tryz.laysSplit_ren.g 1, 0, none⟩ = some (.int .i64 m)
theorem HasMax.below {w w' : World} (h : HasMax w) (hb : Below w.heap.size w w') : HasMax w' := by
 obtain ⟨m, hm⟩ := h
 exact ⟨m, cell_later hb hm⟩
theorem trimsuffix_any (l p : List UInt8) (hs : l.length ≤ 9223372036854775807) (w : World) :
  Calls Tryz.prog 76 #[.string (bs l), .string (bs p)] w fun e w' => e = .returned (.string (bs (trimSuffix l p))) ∧ w = w' := by
 have h := Any.strings_TrimSuffix Tryz.laysTrimSuffix (bs l) (bs p) w (by rw [bs_size]; exact hs)
 have e : ∀ l, (bs l).data.toList = l := fun l => by simp [bs]
 rw [e, e] at h
 exact h.mono fun _ _ ⟨a, b⟩ => ⟨a, b.symm⟩
theorem split_any (s : List UInt8) (hs : s.length ≤ 1000000) (w : World) (hm : HasMax w) :
  Calls Tryz.prog 75 #[.string (bs s), .string (bs [10])] w fun e w' => e = .returned (.slice (some ⟨w.heap.size, 0, none⟩) (partAux [] s).length (partAux [] s).length) ∧ HasTexts w' (some ⟨w.heap.size, 0, none⟩) (partAux [] s) ∧ Below w.heap.size w w' := by
 obtain ⟨m, hm⟩ := hm
 have h := Any.strings_Split { Tryz.laysSplit with } Tryz.laysSplit.i9 (bs s) (bs [10]) m w (by rw [bs_size]; omega) hm (by rw [bs_size]; exact Nat.le_refl _)
 have e : ∀ l, (bs l).data.toList = l := fun l => by simp [bs]
 have hd := splitB_data (bs [10]) 0 (countB (bs s) (bs [10])) (bs s)
 rw [e, e] at hd
 have hc : countB (bs s) (bs [10]) = count s [10] := by unfold countB; rw [e, e]
 rw [hc, split_eq] at hd
 rw [hc] at h
 obtain ⟨L, hL⟩ : ∃ L, splitB (bs [10]) 0 (count s [10]) (bs s) = L := ⟨_, rfl⟩
 have hlen := splitB_all (bs [10]) (by rw [bs_size]; exact Nat.le_refl _) 0 _ (bs s) hc
 rw [hL] at hd h hlen
 have hl : (partAux [] s).length = count s [10] + 1 := by rw [← hd, List.length_map, hlen]
 rw [hl]
 refine h.mono fun e' w' ⟨h1, h2⟩ => ⟨h1, ?_, ?_⟩
 ·intro j hj
  refine ⟨_, rfl, ?_⟩
  rw [h2, cell_of_row _ _ j _ _ (0, 0) (heap_alloc_new w _)]
  rw [← hd] at hj ⊢
  rw [List.length_map] at hj
  simp [hj, ← bs_data]
 ·rw [h2]
  exact (Below.refl _ _).alloc (Nat.le_refl _) _
theorem runesN_snd (l : List UInt8) : (runesN l).2 = validD l := by
 unfold runesN
 split <;> simp [*]
theorem drop_at (L : List (List UInt8)) (k : Nat) (h : k < L.length) : L.drop k = L.getD k [] :: L.drop (k + 1) := by
 rw [List.drop_eq_getElem_cons h]
 simp [h]
theorem part_len : ∀ (t cur : List UInt8), (partAux cur t).length ≤ t.length + 1
 | [], cur => by simp [partAux]
 | b :: t, cur => by
  unfold partAux
  split
  ·have := part_len t []
   simp only [List.length_cons]; omega
  ·have := part_len t (cur ++ [b])
   simp only [List.length_cons]; omega
theorem part_mem : ∀ (t cur : List UInt8), ∀ x ∈ partAux cur t, x.length ≤ cur.length + t.length
 | [], cur => by simp [partAux]
 | b :: t, cur => by
  unfold partAux
  split
  ·intro x hx
   rcases List.mem_cons.1 hx with rfl | hx
   ·simp
   ·have := part_mem t [] x hx
    simp only [List.length_cons, List.length_nil] at this ⊢
    omega
  ·intro x hx
   have := part_mem t _ x hx
   simp only [List.length_append, List.length_cons, List.length_nil] at this ⊢
   omega
set_option maxRecDepth 100000 in
set_option maxHeartbeats 1000000 in
theorem lof_any (l : List UInt8) (hs : l.length ≤ 1000000) (w : World) (hm : HasMax w) :
  Calls Tryz.prog 47 #[.string (bs l)] w fun e w' => ∃ v, e = .returned (.tuple #[v, .int .i64 ((ofL l).2.1 : Nat), .int .i64 ((ofL l).2.2 : Nat)]) ∧ Texts w' v (ofL l).1 ∧ Below w.heap.size w w' := by
 by_cases hlong : 65536 < l.length
 ·have e : ofL l = ([], 0, 6) := if_pos hlong
  rw [e]
  clear e
  go_enter Tryz.func47, Tryz.ntmps47
  go_wp2_with fail
  go_ret3
  exact ⟨_, rfl, texts_none _, Below.refl _ _⟩
 ·by_cases hnil : l = []
  ·subst hnil
   have e : ofL [] = ([], 0, 0) := rfl
   rw [e]
   clear e hlong
   go_enter Tryz.func47, Tryz.ntmps47
   go_wp2_with fail
   go_ret3
   exact ⟨_, rfl, texts_none _, Below.refl _ _⟩
  ·have e0 : (l == []) = false := beq_eq_false_iff_ne.2 hnil
   have hll := split_lines l hnil
   have hle := trimSuffix_le l [10]
   have HT := Lib.hid (trimsuffix_any l [10] (by omega))
   have HS := Lib.hid (split_any (trimSuffix l [10]) (by omega))
   have hmem := part_mem (trimSuffix l [10]) []
   have hcnt := part_len (trimSuffix l [10]) []
   rw [hll] at HS hmem hcnt
   obtain ⟨M, hM⟩ : ∃ M, linesL l = M := ⟨_, rfl⟩
   have e : ofL l = resGo (linesL l) 0 (linesL l) := if_neg hlong
   rw [e]
   rw [hM] at HS hmem hcnt ⊢
   obtain ⟨R, hR⟩ : ∃ R, resGo M 0 M = R := ⟨_, rfl⟩
   rw [hR]
   have HR := Lib.hid hR
   have HE := Lib.hid (fun x hx => Nat.le_trans (hmem x hx) (show ([] : List UInt8).length + (trimSuffix l [10]).length ≤ 1000000 by simp only [List.length_nil]; omega))
   generalize trimSuffix l [10] = t at *
   have HM := Lib.hid hm
   have hM2 : M.length ≤ 1000001 := by omega
   clear hR hll e hM hmem hcnt hle hm hnil
   go_enter Tryz.func47, Tryz.ntmps47
   go_wp2_with fail
   refine (HT.out _).mono ?_
   rintro e w' ⟨rfl, rfl⟩
   go_wp2_with fail
   refine (HS.out _ HM.out).mono ?_
   rintro e w1 ⟨rfl, ht, hb1⟩
   have HX := Lib.hid ht
   clear ht
   go_wp2_with fail
   go_loopw [20] (fun i wr => ∃ k : Nat, k ≤ M.length ∧ i = .int .i64 k ∧ Below w1.heap.size w1 wr ∧ resGo M k (M.drop k) = R) (fun i _ => M.length - (RowKit.intOf i).toNat)
   case atStart => exact ⟨0, Nat.zero_le _, rfl, Below.refl _ _, HR.out⟩
   case round =>
    obtain ⟨k, hk, rfl, hbr, hr⟩ := hrel
    by_cases hlt : k < M.length
    ·obtain ⟨g, hg, hc⟩ := HX.out k hlt
     obtain rfl : w.heap.size = g := by simpa using hg
     have hc' := cell_later hbr hc
     rw [drop_at M k hlt] at hr
     simp only [resGo] at hr
     have hx := HE.out (M.getD k []) (by
      have : M.getD k [] = M[k] := by simp [hlt]
      rw [this]
      exact List.getElem_mem hlt)
     obtain ⟨x, hx'⟩ : ∃ x, M.getD k [] = x := ⟨_, rfl⟩
     rw [hx'] at hr hc' hx
     have HC := Lib.hid (lrunes_any x hx)
     have hv := runesN_snd x
     generalize runesN x = N at *
     obtain ⟨N1, N2⟩ := N
     simp only at HC hv
     subst hv
     clear hc hg hx' hx
     by_cases hval : validD x = true
     ·rw [if_pos hval] at hr
      rw [hval] at HC
      have H2 := Lib.hid hr
      clear hr hval
      go_wp2_with fail
      refine (HC.out _).mono ?_
      rintro e w2 ⟨rfl, hb2⟩
      go_wp2_with fail
      go_roundw
      case rel => exact ⟨k + 1, by omega, by go_num, below_next hbr hb2, H2.out⟩
      case measure => simp [RowKit.intOf]; omega
     ·rw [if_neg hval] at hr
      have hval' : validD x = false := by simpa using hval
      rw [hval'] at HC
      have H2 := Lib.hid hr
      clear hr hval hval'
      go_wp2_with fail
      refine (HC.out _).mono ?_
      rintro e w2 ⟨rfl, hb2⟩
      go_wp2_with fail
      go_ret3
      rw [← H2.out]
      exact ⟨_, rfl, texts_none _, below_next hb1 (below_next hbr hb2)⟩
    ·have ek : k = M.length := by omega
     subst ek
     rw [List.drop_eq_nil_of_le (Nat.le_refl _)] at hr
     have H2 := Lib.hid hr
     clear hr
     go_wp2_with fail
     go_ret3
     rw [← H2.out]
     exact ⟨_, rfl, ⟨_, _, rfl, HX.out.below hbr⟩, below_next hb1 hbr⟩
def curL (l : List UInt8) (f i : Nat) : List UInt8 := (l.drop f).take (i - f)
def refAt (l : List UInt8) (done : List (List UInt8)) (f i : Nat) : List (List UInt8) × Nat × Nat := if i ≤ l.length then refGo done (curL l f i) (l.drop i) else (done, 0, 0)
theorem curL_nil (l : List UInt8) (i : Nat) : curL l i i = [] := by simp [curL]
theorem curL_ne (l : List UInt8) (f i : Nat) (h : f < i) (hi : i ≤ l.length) : curL l f i ≠ [] := fun e => by
 have := congrArg List.length e
 unfold curL at this
 rw [List.length_take, List.length_drop, List.length_nil] at this
 omega
theorem curL_len (l : List UInt8) (f i : Nat) : (curL l f i).length ≤ l.length := by
 unfold curL
 rw [List.length_take, List.length_drop]
 omega
theorem curL_snoc (l : List UInt8) (f i : Nat) (h : f ≤ i) (hi : i < l.length) : curL l f (i + 1) = curL l f i ++ [l[i]] := by
 unfold curL
 rw [show i + 1 - f = (i - f) + 1 by omega, List.take_add_one, List.getElem?_drop, show f + (i - f) = i by omega]
 simp [hi]
theorem refAt_start (l : List UInt8) : refAt l [] 0 0 = resGo (linesL l) 0 (linesL l) := by
 unfold refAt
 rw [if_pos (Nat.zero_le _), curL_nil, List.drop_zero, ref_of]
theorem refAt_go (l : List UInt8) (done : List (List UInt8)) (f i : Nat) (h : f ≤ i) (hi : i < l.length) (hb : l[i] ≠ 10) : refAt l done f i = refAt l done f (i + 1) := by
 unfold refAt
 rw [if_pos (by omega), if_pos (by omega), curL_snoc l f i h hi, List.drop_eq_getElem_cons hi]
 simp only [refGo, if_neg hb]
theorem refAt_feed (l : List UInt8) (done : List (List UInt8)) (f i : Nat) (hi : i < l.length) (hb : l[i] = 10) :
  refAt l done f i = if validD (curL l f i) then refAt l (done ++ [curL l f i]) (i + 1) (i + 1) else ([], done.length + 1, 5) := by
 unfold refAt
 rw [if_pos (by omega), if_pos (show i + 1 ≤ l.length by omega), curL_nil, List.drop_eq_getElem_cons hi]
 simp only [refGo, if_pos hb]
theorem refAt_bare (l : List UInt8) (done : List (List UInt8)) (i : Nat) (hi : i = l.length) : refAt l done i i = refAt l done i (i + 1) := by
 unfold refAt
 rw [if_pos (by omega), if_neg (by omega), curL_nil, List.drop_eq_nil_of_le (by omega)]
 simp only [refGo, if_pos]
theorem refAt_last (l : List UInt8) (done : List (List UInt8)) (f i : Nat) (h : f < i) (hi : i = l.length) :
  refAt l done f i = if validD (curL l f i) then refAt l (done ++ [curL l f i]) (i + 1) (i + 1) else ([], done.length + 1, 5) := by
 unfold refAt
 rw [if_pos (by omega), if_neg (show ¬ i + 1 ≤ l.length by omega), List.drop_eq_nil_of_le (by omega)]
 simp only [refGo, if_neg (curL_ne l f i h (by omega))]
theorem refAt_end (l : List UInt8) (done : List (List UInt8)) (f i : Nat) (hi : l.length < i) : refAt l done f i = (done, 0, 0) := if_neg (by omega)
set_option maxRecDepth 100000 in
set_option maxHeartbeats 2000000 in
theorem rof_any (l : List UInt8) (hs : l.length ≤ 1000000) (w : World) :
  Calls Tryz.prog 53 #[.string (bs l)] w fun e w' => ∃ v, e = .returned (.tuple #[v, .int .i64 ((ofL l).2.1 : Nat), .int .i64 ((ofL l).2.2 : Nat)]) ∧ Texts w' v (ofL l).1 ∧ Below w.heap.size w w' := by
 by_cases hlong : 65536 < l.length
 ·have e : ofL l = ([], 0, 6) := if_pos hlong
  rw [e]
  clear e
  go_enter Tryz.func53, Tryz.ntmps53
  go_wp2_with fail
  go_ret3
  exact ⟨_, rfl, texts_none _, Below.refl _ _⟩
 ·have e : ofL l = resGo (linesL l) 0 (linesL l) := if_neg hlong
  rw [e, ← refAt_start]
  obtain ⟨R, hR⟩ : ∃ R, refAt l [] 0 0 = R := ⟨_, rfl⟩
  rw [hR]
  have HR := Lib.hid hR
  clear hR e
  obtain ⟨i0, hi, hz0, hz1, hz2⟩ := info_parts info_str
  go_enter Tryz.func53, Tryz.ntmps53
  go_wp2
  go_loopw [5, 6, 7] (fun v x y wr => ∃ f i : Nat, ∃ done : List (List UInt8), f ≤ i ∧ i ≤ l.length + 1 ∧ x = .int .i64 f ∧ y = .int .i64 i ∧ wr.ownsRow w.heap.size 9 1 v done.length (strs done) ∧ Below w.heap.size w wr ∧ done.length ≤ i ∧ refAt l done f i = R)
   (fun _ _ y _ => l.length + 1 - (RowKit.intOf y).toNat)
  case atStart =>
   exact ⟨0, 0, [], Nat.le_refl _, Nat.zero_le _, rfl, rfl, World.ownsRow_made w #[] 0 (Nat.le_refl _) (Nat.zero_le _) rfl, (Below.refl _ _).alloc (Nat.le_refl _) _, Nat.le_refl _, HR.out⟩
  case round =>
   obtain ⟨f, i, done, hf, hi', rfl, rfl, hown, hbw, hdl, hr⟩ := hrel
   by_cases hlt : i < l.length
   ·have e2 : ((i : Int) == (l.length : Int)) = false := beq_eq_false_iff_ne.2 (by omega)
    by_cases hb : l[i] = 10
    ·rw [refAt_feed l done f i hlt hb] at hr
     have e1 : ((l[i].toNat : Int) != 10) = false := by rw [hb]; rfl
     clear hb hi'
     have HC := Lib.hid (rrunes_any (curL l f i) (by have := curL_len l f i; omega))
     have hv := runesN_snd (curL l f i)
     have ec : (l.drop f).take (i - f) = curL l f i := rfl
     generalize curL l f i = x at *
     generalize runesN x = N at *
     obtain ⟨N1, N2⟩ := N
     simp only at HC hv
     subst hv
     by_cases hval : validD x = true
     ·rw [if_pos hval] at hr
      rw [hval] at HC
      have H2 := Lib.hid hr
      have HE := Lib.hid ec
      clear hr hval ec
      go_wp2_with fail
      rw [HE.out]
      refine (HC.out _).mono ?_
      rintro e w2 ⟨rfl, rfl⟩
      go_wp2_with (at_builtin; refine wpList_append_own _ rfl _ _ 22 rfl w.heap.size 9 i0 (.string ByteArray.empty) 1 16 Tryz.underlying22 hi hz0 hz1 hz2 rfl (by decide) _ _ _ rfl (hown.alloc _) ⟨wr.heap.size, 0, none⟩ 1 1 [.string (bs x)] rfl rfl ?c1 ?c2 ?c3 ?c4 ?c5 ?_)
      case c1 =>
       intro j u hj
       match j, hj with
       | 0, hj => simp at hj; subst hj; simp [Addr.add]
      case c2 => intro u hu; simp at hu; subst hu; rfl
      case c3 => unfold maxLen; omega
      case c4 => omega
      case c5 => have := hbw.size; simp; omega
      ·intro v' w1 hown' hgrow hnil
       have HO := Lib.hid hown'
       clear hown' hnil
       have hb1 : Below w.heap.size w w1 := (hbw.alloc (by have := hbw.size; omega) _).grown hgrow (by have := hbw.size; simp; omega) (fun k hk => (hown.lt k hk).1)
       go_wp2_with fail
       go_roundw
       case rel =>
        refine ⟨i + 1, i + 1, done ++ [x], Nat.le_refl _, by omega, by go_num, by go_num, ?_, hb1, by simp; omega, H2.out⟩
        have := HO.out
        rw [strs_snoc] at this
        simpa using this
       case measure => simp [RowKit.intOf]; omega
     ·rw [if_neg hval] at hr
      have hval' : validD x = false := by simpa using hval
      rw [hval'] at HC
      have H2 := Lib.hid hr
      have HE := Lib.hid ec
      clear hr hval hval' ec
      go_wp2_with fail
      rw [HE.out]
      refine (HC.out _).mono ?_
      rintro e w2 ⟨rfl, rfl⟩
      obtain ⟨q, cap, rfl, -⟩ := own_texts hown
      go_wp2_with fail
      go_ret3
      rw [← H2.out]
      exact ⟨_, rfl, texts_none _, hbw⟩
    ·rw [refAt_go l done f i hf hlt hb] at hr
     have e1 : ((l[i].toNat : Int) != 10) = true := by
      simp only [bne_iff_ne, ne_eq]
      intro h
      exact hb (UInt8.toNat_inj.1 (by simpa using (by omega : l[i].toNat = 10)))
     have H2 := Lib.hid hr
     clear hr hb hi'
     go_wp2_with fail
     go_roundw
     case rel => exact ⟨f, i + 1, done, by omega, by omega, rfl, by go_num, hown, hbw, by omega, H2.out⟩
     case measure => simp [RowKit.intOf]; omega
   ·by_cases hend : i = l.length
    ·have e2 : ((i : Int) == (l.length : Int)) = true := beq_iff_eq.2 (by omega)
     by_cases hfi : f = i
     ·subst hfi
      rw [refAt_bare l done f hend] at hr
      have H2 := Lib.hid hr
      clear hr
      go_wp2_with fail
      go_roundw
      case rel => exact ⟨f, f + 1, done, by omega, by omega, rfl, by go_num, hown, hbw, by omega, H2.out⟩
      case measure => simp [RowKit.intOf]; omega
     ·rw [refAt_last l done f i (by omega) hend] at hr
      have e3 : ((f : Int) == (l.length : Int)) = false := beq_eq_false_iff_ne.2 (by omega)
      clear hfi
      have HC := Lib.hid (rrunes_any (curL l f i) (by have := curL_len l f i; omega))
      have hv := runesN_snd (curL l f i)
      have ec : (l.drop f).take (l.length - f) = curL l f i := by rw [← hend]; rfl
      generalize curL l f i = x at *
      generalize runesN x = N at *
      obtain ⟨N1, N2⟩ := N
      simp only at HC hv
      subst hv
      by_cases hval : validD x = true
      ·rw [if_pos hval] at hr
       rw [hval] at HC
       have H2 := Lib.hid hr
       have HE := Lib.hid ec
       clear hr hval ec
       go_wp2_with fail
       rw [HE.out]
       refine (HC.out _).mono ?_
       rintro e w2 ⟨rfl, rfl⟩
       go_wp2_with (at_builtin; refine wpList_append_own _ rfl _ _ 22 rfl w.heap.size 9 i0 (.string ByteArray.empty) 1 16 Tryz.underlying22 hi hz0 hz1 hz2 rfl (by decide) _ _ _ rfl (hown.alloc _) ⟨wr.heap.size, 0, none⟩ 1 1 [.string (bs x)] rfl rfl ?c1 ?c2 ?c3 ?c4 ?c5 ?_)
       case c1 =>
        intro j u hj
        match j, hj with
        | 0, hj => simp at hj; subst hj; simp [Addr.add]
       case c2 => intro u hu; simp at hu; subst hu; rfl
       case c3 => unfold maxLen; omega
       case c4 => omega
       case c5 => have := hbw.size; simp; omega
       ·intro v' w1 hown' hgrow hnil
        have HO := Lib.hid hown'
        clear hown' hnil
        have hb1 : Below w.heap.size w w1 := (hbw.alloc (by have := hbw.size; omega) _).grown hgrow (by have := hbw.size; simp; omega) (fun k hk => (hown.lt k hk).1)
        go_wp2_with fail
        go_roundw
        case rel =>
         refine ⟨i + 1, i + 1, done ++ [x], Nat.le_refl _, by omega, by go_num, by go_num, ?_, hb1, by simp; omega, H2.out⟩
         have := HO.out
         rw [strs_snoc] at this
         simpa using this
        case measure => simp [RowKit.intOf]; omega
      ·rw [if_neg hval] at hr
       have hval' : validD x = false := by simpa using hval
       rw [hval'] at HC
       have H2 := Lib.hid hr
       have HE := Lib.hid ec
       clear hr hval hval' ec
       go_wp2_with fail
       rw [HE.out]
       refine (HC.out _).mono ?_
       rintro e w2 ⟨rfl, rfl⟩
       obtain ⟨q, cap, rfl, -⟩ := own_texts hown
       go_wp2_with fail
       go_ret3
       rw [← H2.out]
       exact ⟨_, rfl, texts_none _, hbw⟩
    ·rw [refAt_end l done f i (by omega)] at hr
     have H2 := Lib.hid hr
     clear hr
     go_wp2_with fail
     go_ret3
     rw [← H2.out]
     exact ⟨_, rfl, own_texts hown, hbw⟩
end Go.Proofs.YthgbfaoblnkniaaGreatDoor

namespace Go.Proofs.YthgbfaoblnkniaaGreatDoor
open Go.RowKit Go.Lib
end Go.Proofs.YthgbfaoblnkniaaGreatDoor

namespace Go.Proofs.YthgbfaoblnkniaaGreatDoor
open Go.Lib
def blankR (c : Nat) : Bool := decide (c = 9) || decide (c = 13) || decide (c = 32)
def blankB (b : UInt8) : Bool := blankR b.toNat
theorem blankB_low (b : UInt8) (h : blankB b = true) : b.toNat < 128 := by
 unfold blankB blankR at h
 simp only [Bool.or_eq_true, decide_eq_true_eq] at h
 omega
theorem blankR_high (c : Nat) (h : 128 ≤ c) : blankR c = false := by
 unfold blankR
 simp only [Bool.or_eq_false_iff, decide_eq_false_iff_not]
 omega
theorem decN_high (n b0 b1 b2 b3 : Nat) (h : 128 ≤ b0) : 128 ≤ (decodeN n b0 b1 b2 b3).1 := by
 unfold decodeN
 repeat' split
 all_goals (simp only; omega)
theorem dec_blank (b : UInt8) (t : List UInt8) : blankR (decodeL (b :: t)).1 = blankB b ∧ (blankB b = true → (decodeL (b :: t)).2 = 1) := by
 by_cases h : b.toNat < 128
 ·rw [decodeL_ascii b t h]
  exact ⟨rfl, fun _ => rfl⟩
 ·have h2 := decN_high (b :: t).length ((b :: t).getD 0 0).toNat ((b :: t).getD 1 0).toNat ((b :: t).getD 2 0).toNat ((b :: t).getD 3 0).toNat (by simp only [List.getD_cons_zero]; omega)
  rw [← decodeL_N] at h2
  rw [blankR_high _ h2]
  refine ⟨(blankR_high _ (by omega)).symm, fun hb => absurd (blankB_low b hb) h⟩
def strL (l : List UInt8) : List UInt8 := l.dropWhile blankB
theorem strL_cons (b : UInt8) (t : List UInt8) : strL (b :: t) = if blankB b then strL t else b :: t := by
 unfold strL
 rw [List.dropWhile_cons]
theorem bs_list (l : List UInt8) : (bs l).data.toList = l := by simp [bs]
theorem idx_left (l : List UInt8) : ∀ (f p : Nat), p ≤ l.length → l.length - p ≤ f →
  (strL (l.drop p) = [] ∧ idxFuncFrom blankR false (bs l) f p = -1) ∨ (∃ q : Nat, p ≤ q ∧ q < l.length ∧ idxFuncFrom blankR false (bs l) f p = q ∧ strL (l.drop p) = l.drop q)
 | 0, p, hp, hf => by
  have e : l.drop p = [] := List.drop_eq_nil_of_le (by omega)
  rw [e]
  exact .inl ⟨rfl, rfl⟩
 | f + 1, p, hp, hf => by
  unfold idxFuncFrom
  rw [bs_size]
  by_cases h : p < l.length
  ·rw [if_pos h, ← decodeL_drop, bs_list]
   have e : l.drop p = l[p] :: l.drop (p + 1) := List.drop_eq_getElem_cons h
   rw [e]
   obtain ⟨h1, h2⟩ := dec_blank l[p] (l.drop (p + 1))
   rw [h1, strL_cons]
   by_cases hb : blankB l[p] = true
   ·rw [h2 hb, hb]
    simp only [if_true, Bool.true_eq_false, if_false]
    rcases idx_left l f (p + 1) (by omega) (by omega) with ⟨h3, h4⟩ | ⟨q, h3, h4, h5, h6⟩
    ·exact .inl ⟨h3, h4⟩
    ·exact .inr ⟨q, by omega, h4, h5, h6⟩
   ·rw [if_neg hb]
    have hb' : blankB l[p] = false := by simpa using hb
    rw [hb']
    simp only [if_true]
    exact .inr ⟨p, Nat.le_refl _, h, rfl, e.symm⟩
  ·rw [if_neg h]
   have e : l.drop p = [] := List.drop_eq_nil_of_le (by omega)
   rw [e]
   exact .inl ⟨rfl, rfl⟩
theorem left_eq (l : List UInt8) : trimLeftF blankR (bs l) = bs (strL l) := by
 unfold trimLeftF idxFunc
 rcases idx_left l (bs l).size 0 (Nat.zero_le _) (by rw [bs_size]; omega) with ⟨h1, h2⟩ | ⟨q, -, h2, h3, h4⟩
 ·rw [h2, if_pos rfl]
  rw [List.drop_zero] at h1
  rw [h1]
  rfl
 ·rw [h3, if_neg (by omega)]
  rw [List.drop_zero] at h4
  rw [h4, bs_extract, bs_size, show ((q : Int)).toNat = q by omega, List.take_of_length_le (by rw [List.length_drop]; omega)]
theorem getD_appL (y z : List UInt8) (i : Nat) (h : i < y.length) : (y ++ z).getD i 0 = y.getD i 0 := by
 simp [List.getD, List.getElem?_append_left h]
end Go.Proofs.YthgbfaoblnkniaaGreatDoor

namespace Go.Proofs
end Go.Proofs

namespace Go.Proofs.YthgbfaoblnkniaaGreatDoor
open Go.RowKit Go.Lib
def colGo : Nat → List UInt8 → Nat → Int → Nat
 | 0, _, _, _ => 0
 | f + 1, l, p, at' => if p < l.length ∧ (p : Int) < at' then 1 + colGo f l (p + (oneAt l p).2) at' else 0
def colN (l : List UInt8) (p : Nat) (at' : Int) : Nat := colGo (l.length - p) l p at'
theorem colGo_fuel (l : List UInt8) (at' : Int) : ∀ (f g p : Nat), l.length - p ≤ f → l.length - p ≤ g → colGo f l p at' = colGo g l p at'
 | 0, 0, _, _, _ => rfl
 | 0, g + 1, p, hf, _ => by
  unfold colGo
  rw [if_neg (by omega)]
 | f + 1, 0, p, _, hg => by
  unfold colGo
  rw [if_neg (by omega)]
 | f + 1, g + 1, p, hf, hg => by
  unfold colGo
  by_cases h : p < l.length ∧ (p : Int) < at'
  ·have hb := one_bounds l p h.1
   rw [if_pos h, if_pos h, colGo_fuel l at' f g (p + (oneAt l p).2) (by omega) (by omega)]
  ·rw [if_neg h, if_neg h]
theorem col_step (l : List UInt8) (p : Nat) (at' : Int) (hp : p < l.length) : colN l p at' = if (p : Int) < at' then 1 + colN l (p + (oneAt l p).2) at' else 0 := by
 have hb := one_bounds l p hp
 unfold colN
 obtain ⟨f, hf⟩ : ∃ f, l.length - p = f + 1 := ⟨l.length - p - 1, by omega⟩
 rw [hf]
 by_cases h : (p : Int) < at'
 ·rw [if_pos h]
  show (if p < l.length ∧ (p : Int) < at' then _ else _) = _
  rw [if_pos ⟨hp, h⟩, colGo_fuel l at' f _ (p + (oneAt l p).2) (by omega) (Nat.le_refl _)]
 ·rw [if_neg h]
  show (if p < l.length ∧ (p : Int) < at' then _ else _) = _
  rw [if_neg (fun x => h x.2)]
theorem col_end (l : List UInt8) (p : Nat) (at' : Int) (hp : l.length ≤ p) : colN l p at' = 0 := by
 unfold colN
 rw [show l.length - p = 0 by omega]
 rfl
theorem col_past (l : List UInt8) (p : Nat) (at' : Int) (h : at' ≤ (p : Int)) : colN l p at' = 0 := by
 by_cases hp : p < l.length
 ·rw [col_step l p at' hp, if_neg (by omega)]
 ·exact col_end l p at' (by omega)
def colT (l : List UInt8) (at' : Int) : Nat := if validD l then colN l 0 at' else 0
theorem valid_at (l : List UInt8) (p : Nat) (hp : p < l.length) (h : validD (l.drop p) = true) : sizeAt l p = (oneAt l p).2 ∧ validD (l.drop (p + (oneAt l p).2)) = true := by
 have hne : l.drop p ≠ [] := by
  intro e
  have := congrArg List.length e
  simp at this
  omega
 have hw := one_bounds l p hp
 rw [validD_step _ hne] at h
 split at h
 ·simp at h
 ·rename_i hc
  have hs : sizeAt l p = (oneAt l p).2 := by
   unfold sizeAt szD
   exact if_neg hc
  refine ⟨hs, ?_⟩
  rw [List.drop_drop] at h
  exact h
set_option maxRecDepth 100000 in
set_option maxHeartbeats 1000000 in
theorem rcolumn_any (l : List UInt8) (hs : l.length ≤ 1000000) (at' : Int) (w : World) :
  Calls Tryz.prog 115 #[.string (bs l), .int .i64 at'] w fun e w' => e = .returned (.int .i64 (colT l at' : Nat)) ∧ w = w' := by
 have HC := Lib.hid (rrunes_any l hs)
 have hv := runesN_snd l
 generalize runesN l = N at *
 obtain ⟨N1, N2⟩ := N
 simp only at HC hv
 subst hv
 by_cases hval : validD l = true
 ·have e : colT l at' = colN l 0 at' := if_pos hval
  rw [e]
  obtain ⟨R, hR⟩ : ∃ R, colN l 0 at' = R := ⟨_, rfl⟩
  rw [hR]
  have HR := Lib.hid hR
  have HV := Lib.hid hval
  rw [hval] at HC
  clear e hval
  by_cases hneg : at' < 0
  ·rw [col_past l 0 at' (by omega)] at hR
   have H2 := Lib.hid hR
   clear hR
   go_enter Tryz.func115, Tryz.ntmps115
   go_wp2_with fail
   refine (HC.out _).mono ?_
   rintro e w1 ⟨rfl, rfl⟩
   go_wp2_with fail
   go_ret
   rw [← H2.out]
   exact ⟨rfl, rfl⟩
  ·have hneg' : 0 ≤ at' := by omega
   clear hR hneg
   go_enter Tryz.func115, Tryz.ntmps115
   go_wp2_with fail
   refine (HC.out _).mono ?_
   rintro e w1 ⟨rfl, rfl⟩
   go_wp2_with fail
   go_loop [7, 8] (fun n i => ∃ p k : Nat, p ≤ l.length ∧ k ≤ p ∧ i = .int .i64 p ∧ n = .int .i64 k ∧ validD (l.drop p) = true ∧ k + colN l p at' = R) (fun _ i => l.length - (RowKit.intOf i).toNat)
   case atStart => exact ⟨0, 0, Nat.zero_le _, Nat.le_refl _, rfl, rfl, HV.out, by rw [HR.out]; omega⟩
   case round =>
    obtain ⟨p, k, hp, hk, rfl, rfl, hv, hr⟩ := hrel
    by_cases hlt : p < l.length
    ·have hb := one_bounds l p hlt
     obtain ⟨v1, v2⟩ := valid_at l p hlt hv
     have HZ := Lib.hid (size_any l p hlt (by omega))
     rw [col_step l p at' hlt] at hr
     rw [v1] at HZ
     obtain ⟨D, hD⟩ : ∃ D, (oneAt l p).2 = D := ⟨_, rfl⟩
     rw [hD] at hr hb HZ v2
     have HV2 := Lib.hid v2
     clear hD v1 v2 hv
     by_cases hat : (p : Int) < at'
     ·rw [if_pos hat] at hr
      have H2 := Lib.hid hr
      clear hr
      go_wp2_with fail
      refine (HZ.out _).mono ?_
      rintro e w1 ⟨rfl, rfl⟩
      go_wp2_with fail
      go_round
      case rel => exact ⟨p + D, k + 1, hb.2, by omega, by go_num, by go_num, HV2.out, by have := H2.out; omega⟩
      case measure => simp [RowKit.intOf]; omega
     ·rw [if_neg hat] at hr
      have H2 := Lib.hid hr
      have hat' : at' ≤ (p : Int) := by omega
      clear hr hat
      go_wp2_with fail
      go_ret
      rw [← H2.out]
      exact ⟨rfl, rfl⟩
    ·rw [col_end l p at' (by omega)] at hr
     have HS := Lib.hid hr
     clear hr
     go_wp2_with fail
     go_ret
     rw [← HS.out]
     exact ⟨rfl, rfl⟩
 ·have e : colT l at' = 0 := if_neg hval
  have hval' : validD l = false := by simpa using hval
  rw [e]
  rw [hval'] at HC
  clear e hval hval'
  go_enter Tryz.func115, Tryz.ntmps115
  go_wp2_with fail
  refine (HC.out _).mono ?_
  rintro e w1 ⟨rfl, rfl⟩
  go_wp2_with fail
  go_ret
  exact ⟨rfl, rfl⟩
end Go.Proofs.YthgbfaoblnkniaaGreatDoor

namespace Go.Proofs.YthgbfaoblnkniaaGreatDoor
open Go.Lib
theorem decN_ext (n m b0 b1 b2 b3 c1 c2 c3 : Nat) (hn : 1 ≤ n) (hm : n ≤ m) (h1 : 1 < n → c1 = b1) (h2 : 2 < n → c2 = b2) (h3 : 3 < n → c3 = b3)
  (l1 : n = 1 → c1 < 128) (l2 : n = 2 → c2 < 128) (l3 : n = 3 → c3 < 128) : decodeN m b0 c1 c2 c3 = decodeN n b0 b1 b2 b3 := by
 rcases (show n = 1 ∨ n = 2 ∨ n = 3 ∨ 4 ≤ n by omega) with rfl | rfl | rfl | h4
 ·have hc : ¬ c1 / 64 = 2 := by have := l1 rfl; omega
  unfold decodeN
  simp only [hc, Nat.lt_irrefl, and_false, false_and, if_false]
 ·have e1 := h1 (by omega)
  have hc : ¬ c2 / 64 = 2 := by have := l2 rfl; omega
  have hm1 : 1 < m := by omega
  subst e1
  unfold decodeN
  simp only [hc, hm1, show (1 : Nat) < 2 from by decide, Nat.lt_irrefl, and_false, false_and, true_and, if_false]
 ·have e1 := h1 (by omega)
  have e2 := h2 (by omega)
  have hc : ¬ c3 / 64 = 2 := by have := l3 rfl; omega
  have hm1 : 1 < m := by omega
  have hm2 : 2 < m := by omega
  subst e1 e2
  unfold decodeN
  simp only [hc, hm1, hm2, show (1 : Nat) < 3 from by decide, show (2 : Nat) < 3 from by decide, Nat.lt_irrefl, and_false, false_and, true_and, if_false]
 ·have e1 := h1 (by omega)
  have e2 := h2 (by omega)
  have e3 := h3 (by omega)
  subst e1 e2 e3
  unfold decodeN
  simp only [show 1 < m by omega, show 2 < m by omega, show 3 < m by omega, show 1 < n by omega, show 2 < n by omega, show 3 < n by omega]
theorem dec_cut (x y : List UInt8) (c : UInt8) (hx : x ≠ []) (hc : c.toNat < 128) : decodeL (x ++ c :: y) = decodeL x := by
 have hl : 0 < x.length := List.length_pos_iff.2 hx
 have hat : (x ++ c :: y).getD x.length 0 = c := by simp [List.getD]
 rw [decodeL_N, decodeL_N, getD_appL x _ 0 hl]
 refine decN_ext x.length _ _ _ _ _ _ _ _ hl (by rw [List.length_append]; omega) ?_ ?_ ?_ ?_ ?_ ?_
 ·intro h; rw [getD_appL x _ 1 h]
 ·intro h; rw [getD_appL x _ 2 h]
 ·intro h; rw [getD_appL x _ 3 h]
 ·intro h; rw [h] at hat; rw [hat]; exact hc
 ·intro h; rw [h] at hat; rw [hat]; exact hc
 ·intro h; rw [h] at hat; rw [hat]; exact hc
theorem valid_cut : ∀ (n : Nat) (x y : List UInt8) (c : UInt8), x.length ≤ n → c.toNat < 128 → validD (x ++ c :: y) = (validD x && validD y)
 | 0, x, y, c, hn, hc => by
  have : x = [] := List.eq_nil_of_length_eq_zero (by omega)
  subst this
  rw [List.nil_append, validD_cons c y hc]
  rfl
 | n + 1, x, y, c, hn, hc => by
  by_cases hx : x = []
  ·subst hx
   rw [List.nil_append, validD_cons c y hc]
   rfl
  ·have hw := decodeL_le' x hx
   rw [validD_step _ (by simp), validD_step x hx, dec_cut x y c hx hc]
   split
   ·rfl
   ·rw [List.drop_append_of_le_length hw.2, valid_cut n (x.drop (decodeL x).2) y c (by rw [List.length_drop]; omega) hc]
theorem dec_cont (l : List UInt8) (j : Nat) (hj : 1 ≤ j) (h : j < (decodeL l).2) : 128 ≤ (l.getD j 0).toNat := by
 rw [decodeL_N] at h
 generalize (l.getD 0 0).toNat = b0 at h
 generalize h1 : (l.getD 1 0).toNat = b1 at h
 generalize h2 : (l.getD 2 0).toNat = b2 at h
 generalize h3 : (l.getD 3 0).toNat = b3 at h
 have hj3 : j = 1 ∨ j = 2 ∨ j = 3 := by
  have : (decodeN l.length b0 b1 b2 b3).2 ≤ 4 := by
   unfold decodeN
   repeat' split
   all_goals simp
  omega
 unfold decodeN at h
 split at h
 ·simp only at h; omega
 ·split at h
  ·rename_i hc
   split at h
   ·simp only at h
    obtain rfl : j = 1 := by omega
    rw [h1]; omega
   ·simp only at h; omega
  ·split at h
   ·rename_i hc
    split at h
    ·simp only at h
     rcases (show j = 1 ∨ j = 2 by omega) with rfl | rfl
     ·rw [h1]; omega
     ·rw [h2]; omega
    ·simp only at h; omega
   ·split at h
    ·rename_i hc
     split at h
     ·simp only at h
      rcases hj3 with rfl | rfl | rfl
      ·rw [h1]; omega
      ·rw [h2]; omega
      ·rw [h3]; omega
     ·simp only at h; omega
    ·simp only at h; omega
def scanGo (l : List UInt8) : Nat → Nat → Option Nat → List (Nat × Nat)
 | 0, _, none => []
 | 0, i, some f => [(f, i)]
 | n + 1, i, fr => if blankB (l.getD i 0) then (match fr with | some f => (f, i) :: scanGo l n (i + 1) none | none => scanGo l n (i + 1) none) else scanGo l n (i + 1) (some (fr.getD i))
def pushed : Option Nat → Nat → List (Nat × Nat)
 | some f, i => [(f, i)]
 | none, _ => []
def scanL (l : List UInt8) : List (Nat × Nat) := scanGo l l.length 0 none
theorem scan_blank (l : List UInt8) (i : Nat) (fr : Option Nat) (hi : i < l.length) (hb : blankB l[i] = true) :
  scanGo l (l.length - i) i fr = pushed fr i ++ scanGo l (l.length - (i + 1)) (i + 1) none := by
 rw [show l.length - i = (l.length - (i + 1)) + 1 by omega]
 conv => lhs; unfold scanGo
 rw [getD_at l i hi, if_pos hb]
 cases fr <;> rfl
theorem scan_go (l : List UInt8) (i : Nat) (fr : Option Nat) (hi : i < l.length) (hb : blankB l[i] = false) :
  scanGo l (l.length - i) i fr = scanGo l (l.length - (i + 1)) (i + 1) (some (fr.getD i)) := by
 rw [show l.length - i = (l.length - (i + 1)) + 1 by omega]
 conv => lhs; unfold scanGo
 rw [getD_at l i hi, hb]
 rfl
theorem scan_end (l : List UInt8) (i : Nat) (fr : Option Nat) (hi : l.length ≤ i) : scanGo l (l.length - i) i fr = pushed fr i := by
 rw [show l.length - i = 0 by omega]
 cases fr <;> rfl
theorem scan_many (l : List UInt8) (f : Nat) : ∀ (k i : Nat), i + k ≤ l.length → (∀ j, j < k → blankB (l.getD (i + j) 0) = false) → scanGo l (l.length - i) i (some f) = scanGo l (l.length - (i + k)) (i + k) (some f)
 | 0, i, _, _ => rfl
 | k + 1, i, hk, hb => by
  have h0 := hb 0 (by omega)
  rw [Nat.add_zero, getD_at l i (by omega)] at h0
  rw [scan_go l i (some f) (by omega) h0]
  show scanGo l (l.length - (i + 1)) (i + 1) (some f) = _
  rw [scan_many l f k (i + 1) (by omega) (fun j hj => by have := hb (j + 1) (by omega); rwa [show i + (j + 1) = i + 1 + j by omega] at this), show i + 1 + k = i + (k + 1) by omega]
theorem scan_rune (l : List UInt8) (p : Nat) (fr : Option Nat) (hp : p < l.length) :
  (blankR (oneAt l p).1 = true → scanGo l (l.length - p) p fr = pushed fr p ++ scanGo l (l.length - (p + (oneAt l p).2)) (p + (oneAt l p).2) none) ∧
  (blankR (oneAt l p).1 = false → scanGo l (l.length - p) p fr = scanGo l (l.length - (p + (oneAt l p).2)) (p + (oneAt l p).2) (some (fr.getD p))) := by
 have e : l.drop p = l[p] :: l.drop (p + 1) := List.drop_eq_getElem_cons hp
 have eo : oneAt l p = decodeL (l.drop p) := rfl
 have hb := one_bounds l p hp
 obtain ⟨h1, h2⟩ := dec_blank l[p] (l.drop (p + 1))
 rw [← e, ← eo] at h1 h2
 constructor
 ·intro h
  rw [h1] at h
  rw [h2 h]
  exact scan_blank l p fr hp h
 ·intro h
  rw [h1] at h
  rw [scan_go l p fr hp h, scan_many l _ ((oneAt l p).2 - 1) (p + 1) (by omega) ?_, show p + 1 + ((oneAt l p).2 - 1) = p + (oneAt l p).2 by omega]
  intro j hj
  have hc := dec_cont (l.drop p) (j + 1) (by omega) (by rw [← eo]; omega)
  rw [getD_dropU, show p + (j + 1) = p + 1 + j by omega] at hc
  cases hz : blankB (l.getD (p + 1 + j) 0) with
  | true => have := blankB_low _ hz; omega
  | false => rfl
theorem col_le (l : List UInt8) (at' : Int) : ∀ (k p : Nat), l.length - p ≤ k → colN l p at' ≤ l.length - p
 | 0, p, hk => by
  rw [col_end l p at' (by omega)]
  exact Nat.zero_le _
 | k + 1, p, hk => by
  by_cases h : p < l.length
  ·have hb := one_bounds l p h
   have := col_le l at' k (p + (oneAt l p).2) (by omega)
   rw [col_step l p at' h]
   split <;> omega
  ·rw [col_end l p at' (by omega)]
   exact Nat.zero_le _
def RunesTo (l : List UInt8) (p n : Nat) : Prop := ∀ at' : Int, (p : Int) ≤ at' → colN l 0 at' = n + colN l p at'
theorem runesTo_start (l : List UInt8) : RunesTo l 0 0 := fun _ _ => by omega
theorem runesTo_step (l : List UInt8) (p n : Nat) (hp : p < l.length) (h : RunesTo l p n) : RunesTo l (p + (oneAt l p).2) (n + 1) := fun at' hat => by
 have hb := one_bounds l p hp
 have := h at' (by omega)
 rw [col_step l p at' hp, if_pos (by omega)] at this
 omega
theorem runesTo_col (l : List UInt8) (p n : Nat) (h : RunesTo l p n) : colN l 0 p = n := by
 have := h p (Int.le_refl _)
 rw [col_past l p p (Int.le_refl _)] at this
 omega
def wordAt (l : List UInt8) (r : Nat × Nat) : List UInt8 × Nat := (curL l r.1 r.2, colN l 0 r.1 + 1)
def wordsL (l : List UInt8) : List (List UInt8 × Nat) := (scanL l).map (wordAt l)
def aheadL (s : List UInt8) : List UInt8 := s.takeWhile (fun b => decide (b ≠ 35))
theorem ahead_app (s : List UInt8) : aheadL s = s ∨ ∃ y, s = aheadL s ++ 35 :: y := by
 unfold aheadL
 have h := List.takeWhile_append_dropWhile (p := fun b : UInt8 => decide (b ≠ 35)) (l := s)
 cases hd : s.dropWhile (fun b => decide (b ≠ 35)) with
 | nil => left; rw [hd, List.append_nil] at h; exact h
 | cons b y =>
  right
  have hb : b = 35 := by
   have := List.head?_dropWhile_not (fun b : UInt8 => decide (b ≠ 35)) s
   rw [hd] at this
   simpa using this
  rw [hd, hb] at h
  exact ⟨y, h.symm⟩
theorem oneAt_ahead (s : List UInt8) (p : Nat) (hp : p < (aheadL s).length) : oneAt (aheadL s) p = oneAt s p := by
 rcases ahead_app s with h | ⟨y, h⟩
 ·rw [h]
 ·have hne : (aheadL s).drop p ≠ [] := fun e => by
   have := congrArg List.length e
   rw [List.length_drop, List.length_nil] at this
   omega
  unfold oneAt
  conv => rhs; rw [h, List.drop_append_of_le_length (by omega)]
  exact (dec_cut _ y 35 hne (by decide)).symm
theorem col_ahead (s : List UInt8) (at' : Nat) (hat : at' ≤ (aheadL s).length) (hle : (aheadL s).length ≤ s.length) : ∀ (k p : Nat), (aheadL s).length - p ≤ k → p ≤ (aheadL s).length → colN (aheadL s) p at' = colN s p at'
 | 0, p, hk, hp => by
  rw [col_past _ p _ (by omega), col_past _ p _ (by omega)]
 | k + 1, p, hk, hp => by
  by_cases h : p < at'
  ·have hb := one_bounds (aheadL s) p (by omega)
   have e := oneAt_ahead s p (by omega)
   rw [col_step _ p _ (by omega), col_step s p _ (by omega), if_pos (by omega), if_pos (by omega), ← e, col_ahead s at' hat hle k _ (by omega) (by omega)]
  ·rw [col_past _ p _ (by omega), col_past _ p _ (by omega)]
theorem ahead_len (s : List UInt8) : (aheadL s).length ≤ s.length := by
 rcases ahead_app s with h | ⟨y, h⟩
 ·rw [h]; exact Nat.le_refl _
 ·conv => rhs; rw [h]
  rw [List.length_append]
  omega
end Go.Proofs.YthgbfaoblnkniaaGreatDoor

namespace Go.Proofs
open Go.Shelf
def Tryz.laysContains_ren : Go.Shelf.Ren := ⟨fun | 144 => 106 | 143 => 124 | 219 => 137 | 217 => 145 | 225 => 146 | 224 => 147 | 267 => 148 | 266 => 161 | 314 => 162 | n => n, fun | 9 => 9 | 4 => 4 | 3 => 3 | 5 => 5 | 46 => 173 | 146 => 201 | 51 => 199 | n => n, fun | 1 => 3 | n => n⟩
theorem Tryz.laysContains : Go.Proofs.Lays.n144 Tryz.prog Tryz.laysContains_ren := {
 mixed := by kernel_rfl
 f143 := Tryz.func124.trans (congrArg some (by kernel_rfl))
 f144 := Tryz.func106.trans (congrArg some (by kernel_rfl))
 f217 := Tryz.func145.trans (congrArg some (by kernel_rfl))
 f219 := Tryz.func137.trans (congrArg some (by kernel_rfl))
 f224 := Tryz.func147.trans (congrArg some (by kernel_rfl))
 f225 := Tryz.func146.trans (congrArg some (by kernel_rfl))
 f266 := Tryz.func161.trans (congrArg some (by kernel_rfl))
 f267 := Tryz.func148.trans (congrArg some (by kernel_rfl))
 f314 := Tryz.func162.trans (congrArg some (by kernel_rfl))
 t3 := Tryz.underlying3
 a3 := Tryz.isAgg3
 z3 := Tryz.sizeOf3
 v3 := Tryz.zeroValue3
 t4 := Tryz.underlying4
 a4 := Tryz.isAgg4
 z4 := Tryz.sizeOf4
 v4 := Tryz.zeroValue4
 t5 := Tryz.underlying5
 a5 := Tryz.isAgg5
 z5 := Tryz.sizeOf5
 v5 := Tryz.zeroValue5
 t9 := Tryz.underlying9
 a9 := Tryz.isAgg9
 z9 := Tryz.sizeOf9
 v9 := Tryz.zeroValue9
 t46 := Tryz.underlying173
 a46 := Tryz.isAgg173
 z46 := Tryz.sizeOf173
 v46 := Tryz.zeroValue173
 t51 := Tryz.underlying199
 a51 := Tryz.isAgg199
 z51 := Tryz.sizeOf199
 v51 := Tryz.zeroValue199
 t146 := Tryz.underlying201
 a146 := Tryz.isAgg201
 z146 := Tryz.sizeOf201
 v146 := Tryz.zeroValue201
 g1 := by kernel_rfl }
def Tryz.laysCut_ren : Go.Shelf.Ren := ⟨fun | 145 => 107 | 220 => 127 | 219 => 137 | 217 => 145 | 225 => 146 | 224 => 147 | 267 => 148 | 266 => 161 | 314 => 162 | n => n, fun | 9 => 9 | 4 => 4 | 59 => 157 | 3 => 3 | 5 => 5 | 46 => 173 | 146 => 201 | 51 => 199 | n => n, fun | 1 => 3 | n => n⟩
theorem Tryz.laysCut : Go.Proofs.Lays.n145 Tryz.prog Tryz.laysCut_ren := {
 mixed := by kernel_rfl
 f145 := Tryz.func107.trans (congrArg some (by kernel_rfl))
 f217 := Tryz.func145.trans (congrArg some (by kernel_rfl))
 f219 := Tryz.func137.trans (congrArg some (by kernel_rfl))
 f220 := Tryz.func127.trans (congrArg some (by kernel_rfl))
 f224 := Tryz.func147.trans (congrArg some (by kernel_rfl))
 f225 := Tryz.func146.trans (congrArg some (by kernel_rfl))
 f266 := Tryz.func161.trans (congrArg some (by kernel_rfl))
 f267 := Tryz.func148.trans (congrArg some (by kernel_rfl))
 f314 := Tryz.func162.trans (congrArg some (by kernel_rfl))
 t3 := Tryz.underlying3
 a3 := Tryz.isAgg3
 z3 := Tryz.sizeOf3
 v3 := Tryz.zeroValue3
 t4 := Tryz.underlying4
 a4 := Tryz.isAgg4
 z4 := Tryz.sizeOf4
 v4 := Tryz.zeroValue4
 t5 := Tryz.underlying5
 a5 := Tryz.isAgg5
 z5 := Tryz.sizeOf5
 v5 := Tryz.zeroValue5
 t9 := Tryz.underlying9
 a9 := Tryz.isAgg9
 z9 := Tryz.sizeOf9
 v9 := Tryz.zeroValue9
 t46 := Tryz.underlying173
 a46 := Tryz.isAgg173
 z46 := Tryz.sizeOf173
 v46 := Tryz.zeroValue173
 t51 := Tryz.underlying199
 a51 := Tryz.isAgg199
 z51 := Tryz.sizeOf199
 v51 := Tryz.zeroValue199
 t59 := Tryz.underlying157
 a59 := Tryz.isAgg157
 z59 := Tryz.sizeOf157
 v59 := Tryz.zeroValue157
 t146 := Tryz.underlying201
 a146 := Tryz.isAgg201
 z146 := Tryz.sizeOf201
 v146 := Tryz.zeroValue201
 g1 := by kernel_rfl }
def Tryz.laysJoin_ren : Go.Shelf.Ren := ⟨fun | 156 => 98 | 165 => 121 | 166 => 42 | 169 => 44 | 240 => 72 | 241 => 133 | 276 => 101 | 277 => 143 | n => n, fun | 31 => 22 | 9 => 9 | 3 => 3 | 4 => 4 | 0 => 0 | 20 => 20 | 72 => 76 | 76 => 80 | 70 => 73 | 37 => 74 | 75 => 79 | 127 => 123 | 164 => 154 | 5 => 5 | 80 => 83 | n => n, fun | n => n⟩
theorem Tryz.laysJoin : Go.Proofs.Lays.n156 Tryz.prog Tryz.laysJoin_ren := {
 mixed := by kernel_rfl
 f156 := Tryz.func98.trans (congrArg some (by kernel_rfl))
 f165 := Tryz.func121.trans (congrArg some (by kernel_rfl))
 f166 := Tryz.func42.trans (congrArg some (by kernel_rfl))
 f169 := Tryz.func44.trans (congrArg some (by kernel_rfl))
 f240 := Tryz.func72.trans (congrArg some (by kernel_rfl))
 f241 := Tryz.func133.trans (congrArg some (by kernel_rfl))
 f276 := Tryz.func101.trans (congrArg some (by kernel_rfl))
 f277 := Tryz.func143.trans (congrArg some (by kernel_rfl))
 t0 := Tryz.underlying0
 a0 := Tryz.isAgg0
 z0 := Tryz.sizeOf0
 v0 := Tryz.zeroValue0
 t3 := Tryz.underlying3
 a3 := Tryz.isAgg3
 z3 := Tryz.sizeOf3
 v3 := Tryz.zeroValue3
 t4 := Tryz.underlying4
 a4 := Tryz.isAgg4
 z4 := Tryz.sizeOf4
 v4 := Tryz.zeroValue4
 t9 := Tryz.underlying9
 a9 := Tryz.isAgg9
 z9 := Tryz.sizeOf9
 v9 := Tryz.zeroValue9
 t20 := Tryz.underlying20
 a20 := Tryz.isAgg20
 z20 := Tryz.sizeOf20
 v20 := Tryz.zeroValue20
 t31 := Tryz.underlying22
 a31 := Tryz.isAgg22
 z31 := Tryz.sizeOf22
 v31 := Tryz.zeroValue22
 t37 := Tryz.underlying74
 a37 := Tryz.isAgg74
 z37 := Tryz.sizeOf74
 v37 := Tryz.zeroValue74
 t70 := Tryz.underlying73
 a70 := Tryz.isAgg73
 z70 := Tryz.sizeOf73
 v70 := Tryz.zeroValue73
 t72 := Tryz.underlying76
 a72 := Tryz.isAgg76
 z72 := Tryz.sizeOf76
 v72 := Tryz.zeroValue76
 t75 := Tryz.underlying79
 a75 := Tryz.isAgg79
 z75 := Tryz.sizeOf79
 v75 := Tryz.zeroValue79
 t76 := Tryz.underlying80
 a76 := Tryz.isAgg80
 z76 := Tryz.sizeOf80
 v76 := Tryz.zeroValue80
 t127 := Tryz.underlying123
 a127 := Tryz.isAgg123
 z127 := Tryz.sizeOf123
 v127 := Tryz.zeroValue123
 t164 := Tryz.underlying154
 a164 := Tryz.isAgg154
 z164 := Tryz.sizeOf154
 v164 := Tryz.zeroValue154 }
theorem Tryz.extraJoin : Builder.Extra Tryz.prog Tryz.laysJoin_ren := {
 sizeBuilder := by kernel_rfl
 liesBuilder := by kernel_rfl
 t5 := Tryz.underlying5
 a5 := Tryz.isAgg5
 z5 := Tryz.sizeOf5
 v5 := Tryz.zeroValue5
 infoByte := by kernel_rfl
 cellsByte := by kernel_rfl
 sizeByte := by kernel_rfl
 neB5 := by decide }
end Go.Proofs
