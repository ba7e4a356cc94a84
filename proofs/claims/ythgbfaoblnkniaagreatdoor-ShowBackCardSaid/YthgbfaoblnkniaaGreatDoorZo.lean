/-
  The walk of layer 8 (log): what a text is read as. Conditions: unicode/utf8's two tables, and event.words, hold what their initialisers lay, internal/bytealg.MaxLen holds a number; texts of at most 1,000,000 bytes.
  The walk of layer 8 (log): what the reference reads a text as. Texts of at most 1,000,000 bytes.
  Layer 8 (log): are two lists of events the same: the reference's way. No conditions but lengths.
  The statements of layer 8 (log), walked. Conditions: unicode/utf8's two tables, and event.words, hold what their initialisers lay, internal/bytealg.MaxLen holds a number.
  Layer 11 (hist): are two lists of texts, of operations, the same: the program's way and the reference's. No conditions but lengths below 2^62.
  Layer 11 (hist): are two transactions the same; are two lists of them: the program's way. No conditions but lengths.
  Layer 11 (hist): are two histories the same: the reference's way. No conditions but lengths.
-/
import Derived.Test.YthgbfaoblnkniaaGreatDoorZxEvR
import Derived.Test.YthgbfaoblnkniaaGreatDoorZm
import Derived.Test.YthgbfaoblnkniaaGreatDoorZi
import Derived.Test.YthgbfaoblnkniaaGreatDoorZe
import Derived.Laws.OwnMore
import Derived.BigQuiet
import Derived.Test.YthgbfaoblnkniaaGreatDoorZn
import Derived.Test.YthgbfaoblnkniaaGreatDoorZxEvY
import Derived.Test.YthgbfaoblnkniaaGreatDoorZf
import Derived.IntWalk
namespace Go.Proofs.YthgbfaoblnkniaaGreatDoor
open Go.RowKit Go.Lib
theorem go_err (t : List UInt8) (r : List (List UInt8)) (i : Nat) (out : List EventM) (x : EventM) (b : Bool) (e : Int) (h : parseE t = (x, b, e)) (he : e ≠ 0) : logGo (t :: r) i out = ([], ((i + 1 : Nat) : Int), e) := by
 unfold logGo
 rw [h, if_pos he]
theorem go_skip' (t : List UInt8) (r : List (List UInt8)) (i : Nat) (out : List EventM) (x : EventM) (h : parseE t = (x, false, 0)) : logGo (t :: r) i out = logGo r (i + 1) out := by
 rw [logGo]
 rw [h, if_neg (by simp), if_pos rfl]
theorem go_full (t : List UInt8) (r : List (List UInt8)) (i : Nat) (out : List EventM) (x : EventM) (h : parseE t = (x, true, 0)) (hl : out.length = 1000) : logGo (t :: r) i out = ([], ((i + 1 : Nat) : Int), 7) := by
 unfold logGo
 rw [h, if_neg (by simp), if_neg (by simp), if_pos hl]
theorem go_more (t : List UInt8) (r : List (List UInt8)) (i : Nat) (out : List EventM) (x : EventM) (h : parseE t = (x, true, 0)) (hl : out.length ≠ 1000) : logGo (t :: r) i out = logGo r (i + 1) (out ++ [onLine x ((i + 1 : Nat) : Int)]) := by
 rw [logGo]
 rw [h, if_neg (by simp), if_neg (by simp), if_neg hl]
theorem parse_cases (t : List UInt8) : (∃ x e, parseE t = (x, false, e) ∧ (e != 0) = true) ∨ (∃ x, parseE t = (x, false, 0)) ∨ (∃ x, parseE t = (x, true, 0)) := by
 obtain ⟨⟨x, b, e⟩, h⟩ : ∃ y, parseE t = y := ⟨_, rfl⟩
 have hm := parse_may t
 rw [h] at hm ⊢
 cases b with
 | false =>
  by_cases he : e = 0
  ·subst he; exact .inr (.inl ⟨x, rfl⟩)
  ·exact .inl ⟨x, e, rfl, by simpa using he⟩
 | true =>
  have := (hm rfl).1
  simp only at this
  subst this
  exact .inr (.inr ⟨x, rfl⟩)
theorem line_short (l : List UInt8) (j : Nat) : ((ofL l).1.getD j []).length ≤ l.length := by
 by_cases h : j < (ofL l).1.length
 ·have hm : (ofL l).1.getD j [] ∈ (ofL l).1 := by simp [h]
  generalize (ofL l).1.getD j [] = x at *
  have key : ∀ (full : List (List UInt8)) (r : List (List UInt8)) (n : Nat), x ∈ (resGo full n r).1 → x ∈ full := by
   intro full r
   induction r with
   | nil => intro n hx; exact hx
   | cons y r ih =>
    intro n hx
    unfold resGo at hx
    split at hx
    ·exact ih _ hx
    ·cases hx
  unfold ofL at hm
  split at hm
  ·cases hm
  ·have h1 := key _ _ _ hm
   have lines : ∀ (t cur : List UInt8), ∀ y ∈ linesAux cur t, y.length ≤ cur.length + t.length := by
    intro t
    induction t with
    | nil =>
     intro cur y hy
     unfold linesAux at hy
     split at hy
     ·cases hy
     ·obtain rfl : y = cur := by simpa using hy
      simp
    | cons b t ih =>
     intro cur y hy
     unfold linesAux at hy
     split at hy
     ·rcases List.mem_cons.1 hy with rfl | hy
      ·omega
      ·have := ih [] y hy
       simp at this ⊢
       omega
     ·have := ih _ y hy
      simp at this ⊢
      omega
   have := lines l [] x h1
   simpa using this
 ·have : (ofL l).1.getD j [] = [] := by simp [h]
  rw [this]
  exact Nat.zero_le _
set_option maxRecDepth 100000 in
set_option maxHeartbeats 8000000 in
theorem log_any (l : List UInt8) (hl : l.length ≤ 1000000) (w : World) (hT : Lib.Utf8Tabs 1 2 w) (hm : HasMax w) (hE : EvTab w) :
  Calls Tryz.prog 23 #[.string (bs l)] w fun e w' => ∃ v, e = .returned (.tuple #[v, .int .i64 (readL l).2.1, .int .i64 (readL l).2.2]) ∧ EvsS w' v (readL l).1 ∧ Below w.heap.size w w' := by
 have HO := Lib.hid (lof_any l hl w hm)
 have HP := Lib.hid (fun t (ht : t.length ≤ 1000000) w' (h : Below w.heap.size w w') => eparse_any t ht w' (Utf8Tabs_below hT h) (hm.below h) (hE.below h))
 have HLs := Lib.hid (fun j => Nat.le_trans (line_short l j) hl)
 have hlen : (ofL l).1.length ≤ 1000001 := by
  unfold ofL
  split
  ·simp
  ·by_cases h : (resGo (linesL l) 0 (linesL l)).2.2 = 0
   ·rw [(resGo_full _ _ _ h).1]
    have := lines_len l []
    unfold linesL
    omega
   ·rw [(resGo_bad _ _ _ h).1]; simp
 clear hT hm hE
 have hre : readL l = if (ofL l).2.2 ≠ 0 then ([], ((ofL l).2.1 : Int), ((ofL l).2.2 : Int)) else logGo (ofL l).1 0 [] := rfl
 obtain ⟨⟨lns, en, ee⟩, hof⟩ : ∃ y, ofL l = y := ⟨_, rfl⟩
 rw [hof] at HO HLs hlen hre
 simp only at HO HLs hlen hre
 generalize readL l = R at *
 clear hof hl
 by_cases he : ee = 0
 ·subst he
  rw [if_neg (by simp)] at hre
  have HRe := Lib.hid hre
  clear hre
  obtain ⟨i0, hi, hz0, hz1, hz2⟩ := info_parts info_ev
  go_enter Tryz.func23, Tryz.ntmps23
  go_wp2_with fail
  refine HO.out.mono ?_
  rintro e w1 ⟨v1, rfl, hv1, hb1⟩
  obtain ⟨p, cap, rfl, hc⟩ := hv1
  have HC := Lib.hid hc
  have HB1 := Lib.hid hb1
  clear hc hb1
  go_wp2_with fail
  go_loopw [8, 26] (fun v8 i wr => ∃ (k : Nat) (out : List EventM), k ≤ lns.length ∧ out.length ≤ k ∧ i = .int .i64 k ∧ wr.ownsRow w1.heap.size 47 6 v8 out.length (evcs out) ∧ RowKit.Hid (logGo (lns.drop k) k out = R) ∧ Below w1.heap.size w1 wr) (fun _ i _ => lns.length - (RowKit.intOf i).toNat)
  case atStart => exact ⟨0, [], Nat.zero_le _, Nat.le_refl _, rfl, World.ownsRow_nil _ _ _ _, Lib.hid (by rw [List.drop_zero]; exact HRe.out.symm), Below.refl _ _⟩
  case round =>
   obtain ⟨k, out, hk, hol, rfl, hown, HG, hbw⟩ := hrel
   by_cases hlt : k < lns.length
   ·obtain ⟨g, rfl, hcell⟩ := HC.out k hlt
    have hc1 := cell_later hbw hcell
    have hd : lns.drop k = lns.getD k [] :: lns.drop (k + 1) := by
     rw [List.drop_eq_getElem_cons hlt]
     simp [hlt]
    have HG2 := Lib.hid HG.out
    rw [hd] at HG2
    have htl := HLs.out k
    have HPk := Lib.hid (HP.out (lns.getD k []) htl)
    generalize lns.getD k [] = t at *
    have HB := Lib.hid (below_next HB1.out hbw)
    have HBw := Lib.hid hbw
    have HOw := Lib.hid hown
    clear HG hd hcell hown hbw htl
    rcases parse_cases t with ⟨x, e, hp, he⟩ | ⟨x, hp⟩ | ⟨x, hp⟩
    ·rw [hp] at HPk
     have HR : RowKit.Hid (R = ([], ((k + 1 : Nat) : Int), e)) := Lib.hid (by rw [← HG2.out]; exact go_err _ _ _ _ _ _ _ hp (by simpa using he))
     clear hp HG2
     obtain ⟨x1, x2, x3, x4, x5, x6⟩ := x
     unfold evV at HPk
     dsimp only at HPk
     go_wp2_with fail
     refine (HPk.out _ HB.out).mono ?_
     rintro e2 w2 ⟨rfl, hb2⟩
     have hf2 := below_next HB.out hb2
     go_wp2_with fail
     go_ret3
     exact ⟨_, by rw [HR.out]; rfl, by rw [HR.out]; exact evs_none _, hf2.alloc hf2.size _⟩
    ·rw [hp] at HPk
     have HR : RowKit.Hid (logGo (lns.drop (k + 1)) (k + 1) out = R) := Lib.hid (by rw [← HG2.out]; exact (go_skip' _ _ _ _ _ hp).symm)
     clear hp HG2
     obtain ⟨x1, x2, x3, x4, x5, x6⟩ := x
     unfold evV at HPk
     dsimp only at HPk
     go_wp2_with fail
     refine (HPk.out _ HB.out).mono ?_
     rintro e2 w2 ⟨rfl, hb2⟩
     have hf2 := below_next HBw.out hb2
     have ho2 := (owns_later HOw.out hb2)
     go_wp2_with fail
     go_roundw
     case rel => exact ⟨k + 1, out, by omega, by omega, by go_num, ho2.alloc _, HR, hf2.alloc hf2.size _⟩
     case measure => simp [RowKit.intOf]; omega
    ·rw [hp] at HPk
     obtain ⟨x1, x2, x3, x4, x5, x6⟩ := x
     obtain ⟨p8, c8, rfl⟩ := owns_form HOw.out
     by_cases hfull : out.length = 1000
     ·have HR : RowKit.Hid (R = ([], ((k + 1 : Nat) : Int), 7)) := Lib.hid (by rw [← HG2.out]; exact go_full _ _ _ _ _ hp hfull)
      have hfb : ((out.length : Int) == 1000) = true := by simp; omega
      clear hp HG2 hfull
      unfold evV at HPk
      dsimp only at HPk
      go_wp2_with fail
      refine (HPk.out _ HB.out).mono ?_
      rintro e2 w2 ⟨rfl, hb2⟩
      have hf2 := below_next HB.out hb2
      go_wp2_with fail
      go_ret3
      exact ⟨_, by rw [HR.out]; rfl, by rw [HR.out]; exact evs_none _, hf2.alloc hf2.size _⟩
     ·have HR : RowKit.Hid (logGo (lns.drop (k + 1)) (k + 1) (out ++ [(x1, x2, x3, x4, x5, (k : Int) + 1)]) = R) := Lib.hid (by rw [← HG2.out]; exact (go_more _ _ _ _ _ hp hfull).symm)
      have hfb : ((out.length : Int) == 1000) = false := by rw [beq_eq_false_iff_ne]; omega
      clear hp HG2 hfull
      unfold evV at HPk
      dsimp only at HPk
      go_wp2_with fail
      refine (HPk.out _ HB.out).mono ?_
      rintro e2 w2 ⟨rfl, hb2⟩
      have hbx := below_next HBw.out hb2
      have ho2 := owns_later HOw.out hb2
      have hz := hbx.size
      clear hb2
      go_wp2_with (at_builtin; refine wpList_append_own _ rfl (.tmp 52) (.tmp 54) 27 rfl w1.heap.size 47 i0 (.agg #[.int .i64 0, .string ByteArray.empty, .string ByteArray.empty, .int .i64 0, .int .i64 0, .int .i64 0]) 6 64 Tryz.underlying27 hi hz0 hz1 hz2 rfl (by decide) _ _ _ rfl ((ho2.alloc _).alloc _) ⟨w2.heap.size + 1, 0, none⟩ 1 1 [.int .i64 x1, .string (bs x2), .string (bs x3), .int .i64 x4, .int .i64 x5, .int .i64 ((k : Int) + 1)] rfl rfl (news_lit _ _ _ _ (by simp)) (ones_ev _ _ _ _ _ _) (by unfold maxLen; omega) (by omega) (by simp; omega) ?_)
      intro v4 w4 hown4 hgrow hnil
      have hb4 : Below w1.heap.size w1 w4 := ((hbx.alloc hz _).alloc (by simp; omega) _).grown hgrow (by simp; omega) (fun k hk => (ho2.lt k hk).1)
      have HO4 : RowKit.Hid (w4.ownsRow w1.heap.size 47 6 v4 (out ++ [(x1, x2, x3, x4, x5, (k : Int) + 1)]).length (evcs (out ++ [(x1, x2, x3, x4, x5, (k : Int) + 1)]))) := Lib.hid (by rw [← evcs_snoc, List.length_append]; exact hown4)
      clear hown4 hgrow hnil ho2 hbx
      go_wp2_with fail
      go_roundw
      case rel => exact ⟨k + 1, _, by omega, by simp; omega, by go_num, HO4.out, HR, hb4⟩
      case measure => simp [RowKit.intOf]; omega
   ·have hke : k = lns.length := by omega
    subst hke
    have HR : RowKit.Hid (R = (out, 0, 0)) := Lib.hid (by rw [← HG.out, List.drop_length]; rfl)
    have HOw := Lib.hid (own_evs hown)
    clear hown HG
    go_wp2_with fail
    go_ret3
    exact ⟨_, by rw [HR.out]; rfl, by rw [HR.out]; exact HOw.out, below_next HB1.out hbw⟩
 ·have hd : (((ee : Nat) : Int) != 0) = true := by simp; omega
  rw [if_pos he] at hre
  have HRe := Lib.hid hre
  clear hre he
  go_enter Tryz.func23, Tryz.ntmps23
  go_wp2_with fail
  refine HO.out.mono ?_
  rintro e w1 ⟨v1, rfl, hv1, hb1⟩
  go_wp2_with fail
  go_ret3
  exact ⟨_, by rw [HRe.out]; rfl, by rw [HRe.out]; exact evs_none _, hb1⟩
end Go.Proofs.YthgbfaoblnkniaaGreatDoor

namespace Go.Proofs.YthgbfaoblnkniaaGreatDoor
open Go.RowKit Go.Lib
set_option maxRecDepth 100000 in
set_option maxHeartbeats 8000000 in
theorem rlog_of (HP0 : ∀ t : List UInt8, t.length ≤ 1000000 → ∀ w' : World, Calls Tryz.prog 54 #[.string (bs t)] w' fun e w'' => e = .returned (.tuple #[evV (parseE t).1, .bool (parseE t).2.1, .int .i64 (parseE t).2.2]) ∧ Below w'.heap.size w' w'') (l : List UInt8) (hl : l.length ≤ 1000000) (w : World) :
  Calls Tryz.prog 25 #[.string (bs l)] w fun e w' => ∃ v, e = .returned (.tuple #[v, .int .i64 (readL l).2.1, .int .i64 (readL l).2.2]) ∧ EvsS w' v (readL l).1 ∧ Below w.heap.size w w' := by
 have HO := Lib.hid (rof_any l hl w)
 have HP := Lib.hid HP0
 have HLs := Lib.hid (fun j => Nat.le_trans (line_short l j) hl)
 have hlen : (ofL l).1.length ≤ 1000001 := by
  unfold ofL
  split
  ·simp
  ·by_cases h : (resGo (linesL l) 0 (linesL l)).2.2 = 0
   ·rw [(resGo_full _ _ _ h).1]
    have := lines_len l []
    unfold linesL
    omega
   ·rw [(resGo_bad _ _ _ h).1]; simp
 have hre : readL l = if (ofL l).2.2 ≠ 0 then ([], ((ofL l).2.1 : Int), ((ofL l).2.2 : Int)) else logGo (ofL l).1 0 [] := rfl
 obtain ⟨⟨lns, en, ee⟩, hof⟩ : ∃ y, ofL l = y := ⟨_, rfl⟩
 rw [hof] at HO HLs hlen hre
 simp only at HO HLs hlen hre
 generalize readL l = R at *
 clear hof hl
 by_cases he : ee = 0
 ·subst he
  rw [if_neg (by simp)] at hre
  have HRe := Lib.hid hre
  clear hre
  obtain ⟨i0, hi, hz0, hz1, hz2⟩ := info_parts info_ev
  go_enter Tryz.func25, Tryz.ntmps25
  go_wp2_with fail
  refine HO.out.mono ?_
  rintro e w1 ⟨v1, rfl, hv1, hb1⟩
  obtain ⟨p, cap, rfl, hc⟩ := hv1
  have HC := Lib.hid hc
  have HB1 := Lib.hid hb1
  clear hc hb1
  go_wp2_with fail
  go_loopw [8, 9] (fun v8 i wr => ∃ (k : Nat) (out : List EventM), k ≤ lns.length ∧ out.length ≤ k ∧ i = .int .i64 k ∧ wr.ownsRow w1.heap.size 47 6 v8 out.length (evcs out) ∧ RowKit.Hid (logGo (lns.drop k) k out = R) ∧ Below w1.heap.size w1 wr) (fun _ i _ => lns.length - (RowKit.intOf i).toNat)
  case atStart => exact ⟨0, [], Nat.zero_le _, Nat.le_refl _, rfl, World.ownsRow_made w1 #[] 0 (Nat.le_refl _) (Nat.zero_le _) rfl, Lib.hid (by rw [List.drop_zero]; exact HRe.out.symm), (Below.refl _ _).alloc (Nat.le_refl _) _⟩
  case round =>
   obtain ⟨k, out, hk, hol, rfl, hown, HG, hbw⟩ := hrel
   by_cases hlt : k < lns.length
   ·obtain ⟨g, rfl, hcell⟩ := HC.out k hlt
    have hc1 := cell_later hbw hcell
    have hd : lns.drop k = lns.getD k [] :: lns.drop (k + 1) := by
     rw [List.drop_eq_getElem_cons hlt]
     simp [hlt]
    have HG2 := Lib.hid HG.out
    rw [hd] at HG2
    have htl := HLs.out k
    have HPk := Lib.hid (HP.out (lns.getD k []) htl)
    generalize lns.getD k [] = t at *
    have HB := Lib.hid (below_next HB1.out hbw)
    have HBw := Lib.hid hbw
    have HOw := Lib.hid hown
    clear HG hd hcell hown hbw htl
    rcases parse_cases t with ⟨x, e, hp, he⟩ | ⟨x, hp⟩ | ⟨x, hp⟩
    ·rw [hp] at HPk
     have HR : RowKit.Hid (R = ([], ((k + 1 : Nat) : Int), e)) := Lib.hid (by rw [← HG2.out]; exact go_err _ _ _ _ _ _ _ hp (by simpa using he))
     clear hp HG2
     obtain ⟨x1, x2, x3, x4, x5, x6⟩ := x
     unfold evV at HPk
     dsimp only at HPk
     go_wp2_with fail
     refine (HPk.out _).mono ?_
     rintro e2 w2 ⟨rfl, hb2⟩
     have hf2 := below_next HB.out hb2
     go_wp2_with fail
     go_ret3
     exact ⟨_, by rw [HR.out]; rfl, by rw [HR.out]; exact evs_none _, hf2.alloc hf2.size _⟩
    ·rw [hp] at HPk
     have HR : RowKit.Hid (logGo (lns.drop (k + 1)) (k + 1) out = R) := Lib.hid (by rw [← HG2.out]; exact (go_skip' _ _ _ _ _ hp).symm)
     clear hp HG2
     obtain ⟨x1, x2, x3, x4, x5, x6⟩ := x
     unfold evV at HPk
     dsimp only at HPk
     go_wp2_with fail
     refine (HPk.out _).mono ?_
     rintro e2 w2 ⟨rfl, hb2⟩
     have hf2 := below_next HBw.out hb2
     have ho2 := (owns_later HOw.out hb2)
     go_wp2_with fail
     go_roundw
     case rel => exact ⟨k + 1, out, by omega, by omega, by go_num, ho2.alloc _, HR, hf2.alloc hf2.size _⟩
     case measure => simp [RowKit.intOf]; omega
    ·rw [hp] at HPk
     obtain ⟨x1, x2, x3, x4, x5, x6⟩ := x
     obtain ⟨p8, c8, rfl⟩ := owns_form HOw.out
     by_cases hfull : out.length = 1000
     ·have HR : RowKit.Hid (R = ([], ((k + 1 : Nat) : Int), 7)) := Lib.hid (by rw [← HG2.out]; exact go_full _ _ _ _ _ hp hfull)
      have hfb : ((out.length : Int) == 1000) = true := by simp; omega
      clear hp HG2 hfull
      unfold evV at HPk
      dsimp only at HPk
      go_wp2_with fail
      refine (HPk.out _).mono ?_
      rintro e2 w2 ⟨rfl, hb2⟩
      have hf2 := below_next HB.out hb2
      go_wp2_with fail
      go_ret3
      exact ⟨_, by rw [HR.out]; rfl, by rw [HR.out]; exact evs_none _, hf2.alloc hf2.size _⟩
     ·have HR : RowKit.Hid (logGo (lns.drop (k + 1)) (k + 1) (out ++ [(x1, x2, x3, x4, x5, (k : Int) + 1)]) = R) := Lib.hid (by rw [← HG2.out]; exact (go_more _ _ _ _ _ hp hfull).symm)
      have hfb : ((out.length : Int) == 1000) = false := by rw [beq_eq_false_iff_ne]; omega
      clear hp HG2 hfull
      unfold evV at HPk
      dsimp only at HPk
      go_wp2_with fail
      refine (HPk.out _).mono ?_
      rintro e2 w2 ⟨rfl, hb2⟩
      have hbx := below_next HBw.out hb2
      have ho2 := owns_later HOw.out hb2
      have hz := hbx.size
      clear hb2
      go_wp2_with (at_builtin; refine wpList_append_own _ rfl (.tmp 54) (.tmp 56) 27 rfl w1.heap.size 47 i0 (.agg #[.int .i64 0, .string ByteArray.empty, .string ByteArray.empty, .int .i64 0, .int .i64 0, .int .i64 0]) 6 64 Tryz.underlying27 hi hz0 hz1 hz2 rfl (by decide) _ _ _ rfl ((ho2.alloc _).alloc _) ⟨w2.heap.size + 1, 0, none⟩ 1 1 [.int .i64 x1, .string (bs x2), .string (bs x3), .int .i64 x4, .int .i64 x5, .int .i64 ((k : Int) + 1)] rfl rfl (news_lit _ _ _ _ (by simp)) (ones_ev _ _ _ _ _ _) (by unfold maxLen; omega) (by omega) (by simp; omega) ?_)
      intro v4 w4 hown4 hgrow hnil
      have hb4 : Below w1.heap.size w1 w4 := ((hbx.alloc hz _).alloc (by simp; omega) _).grown hgrow (by simp; omega) (fun k hk => (ho2.lt k hk).1)
      have HO4 : RowKit.Hid (w4.ownsRow w1.heap.size 47 6 v4 (out ++ [(x1, x2, x3, x4, x5, (k : Int) + 1)]).length (evcs (out ++ [(x1, x2, x3, x4, x5, (k : Int) + 1)]))) := Lib.hid (by rw [← evcs_snoc, List.length_append]; exact hown4)
      clear hown4 hgrow hnil ho2 hbx
      go_wp2_with fail
      go_roundw
      case rel => exact ⟨k + 1, _, by omega, by simp; omega, by go_num, HO4.out, HR, hb4⟩
      case measure => simp [RowKit.intOf]; omega
   ·have hke : k = lns.length := by omega
    subst hke
    have HR : RowKit.Hid (R = (out, 0, 0)) := Lib.hid (by rw [← HG.out, List.drop_length]; rfl)
    have HOw := Lib.hid (own_evs hown)
    clear hown HG
    go_wp2_with fail
    go_ret3
    exact ⟨_, by rw [HR.out]; rfl, by rw [HR.out]; exact HOw.out, below_next HB1.out hbw⟩
 ·have hd : (((ee : Nat) : Int) != 0) = true := by simp; omega
  rw [if_pos he] at hre
  have HRe := Lib.hid hre
  clear hre he
  go_enter Tryz.func25, Tryz.ntmps25
  go_wp2_with fail
  refine HO.out.mono ?_
  rintro e w1 ⟨v1, rfl, hv1, hb1⟩
  go_wp2_with fail
  go_ret3
  exact ⟨_, by rw [HRe.out]; rfl, by rw [HRe.out]; exact evs_none _, hb1⟩
end Go.Proofs.YthgbfaoblnkniaaGreatDoor

namespace Go.Proofs.YthgbfaoblnkniaaGreatDoor
open Go.RowKit Go.Lib
theorem evlist_same (L M : List EventM) (hl : L.length = M.length) (h : ∀ j, j < L.length → L.getD j noEv = M.getD j noEv) : L = M := by
 refine List.ext_getElem hl (fun j h1 h2 => ?_)
 have := h j h1
 simpa [h1, h2] using this
theorem evlist_not {L M : List EventM} {k : Nat} (h : L.getD k noEv ≠ M.getD k noEv) : L ≠ M := fun e => h (by rw [e])
theorem evlen_not {L M : List EventM} (h : L.length ≠ M.length) : L ≠ M := fun e => h (by rw [e])
theorem ev_at {w : World} {g j : Nat} {x : EventM} (h : ∀ i u, (evc x)[i]? = some u → w.cell? ⟨g, j * 6 + i, none⟩ = some u) :
  w.cell? ⟨g, j * 6, none⟩ = some (.int .i64 x.1) ∧ w.cell? ⟨g, j * 6 + 1, none⟩ = some (.string (bs x.2.1)) ∧ w.cell? ⟨g, j * 6 + 2, none⟩ = some (.string (bs x.2.2.1)) ∧ w.cell? ⟨g, j * 6 + 3, none⟩ = some (.int .i64 x.2.2.2.1) ∧ w.cell? ⟨g, j * 6 + 4, none⟩ = some (.int .i64 x.2.2.2.2.1) ∧ w.cell? ⟨g, j * 6 + 5, none⟩ = some (.int .i64 x.2.2.2.2.2) :=
 ⟨h 0 _ rfl, h 1 _ rfl, h 2 _ rfl, h 3 _ rfl, h 4 _ rfl, h 5 _ rfl⟩
theorem ev_differ {x1 x4 x5 x6 y1 y4 y5 y6 : Int} {x2 x3 y2 y3 : List UInt8} (h : ¬ ((x1, x2, x3, x4, x5, x6) : EventM) = (y1, y2, y3, y4, y5, y6)) :
  (¬ x1 = y1) ∨ (x1 = y1 ∧ ¬ x2 = y2) ∨ (x1 = y1 ∧ x2 = y2 ∧ ¬ x3 = y3) ∨ (x1 = y1 ∧ x2 = y2 ∧ x3 = y3 ∧ ¬ x4 = y4) ∨ (x1 = y1 ∧ x2 = y2 ∧ x3 = y3 ∧ x4 = y4 ∧ ¬ x5 = y5) ∨ (x1 = y1 ∧ x2 = y2 ∧ x3 = y3 ∧ x4 = y4 ∧ x5 = y5 ∧ ¬ x6 = y6) := by
 by_cases h1 : x1 = y1
 ·by_cases h2 : x2 = y2
  ·by_cases h3 : x3 = y3
   ·by_cases h4 : x4 = y4
    ·by_cases h5 : x5 = y5
     ·by_cases h6 : x6 = y6
      ·exact absurd (by rw [h1, h2, h3, h4, h5, h6]) h
      ·exact .inr (.inr (.inr (.inr (.inr ⟨h1, h2, h3, h4, h5, h6⟩))))
     ·exact .inr (.inr (.inr (.inr (.inl ⟨h1, h2, h3, h4, h5⟩))))
    ·exact .inr (.inr (.inr (.inl ⟨h1, h2, h3, h4⟩)))
   ·exact .inr (.inr (.inl ⟨h1, h2, h3⟩))
  ·exact .inr (.inl ⟨h1, h2⟩)
 ·exact .inl h1
set_option maxRecDepth 100000 in
set_option maxHeartbeats 4000000 in
theorem rsame08_any (v v' : Value) (L M : List EventM) (w : World) (hv : EvsS w v L) (hv' : EvsS w v' M) (hl : L.length ≤ 1000000) (_ : M.length ≤ 1000000) :
  Calls Tryz.prog 11 #[v, v'] w fun e w' => e = .returned (.bool (decide (L = M))) ∧ Below w.heap.size w w' := by
 obtain ⟨p, c, rfl, hp⟩ := hv
 obtain ⟨q, d, rfl, hq⟩ := hv'
 have HP := Lib.hid hp
 have HQ := Lib.hid hq
 clear hp hq
 go_enter Tryz.func11, Tryz.ntmps11
 by_cases hlm : L.length = M.length
 ·have hlmi : ((L.length : Nat) : Int) = ((M.length : Nat) : Int) := by omega
  have HLM := Lib.hid hlm
  clear hlm
  go_wp2_with fail
  go_loopw [5] (fun i wr => ∃ k : Nat, k ≤ L.length ∧ i = .int .i64 k ∧ (∀ j, j < k → L.getD j noEv = M.getD j noEv) ∧ Below w.heap.size w wr) (fun i _ => L.length - (RowKit.intOf i).toNat)
  case atStart => exact ⟨0, Nat.zero_le _, rfl, fun j hj => absurd hj (Nat.not_lt_zero j), Below.refl _ _⟩
  case round =>
   obtain ⟨k, hk, rfl, heq, hbw⟩ := hrel
   have HEq := Lib.hid heq
   clear heq
   by_cases hk1 : k < L.length
   ·have hk2 : k < M.length := by rw [← HLM.out]; exact hk1
    obtain ⟨g, rfl, hA⟩ := HP.out k hk1
    obtain ⟨g', rfl, hB⟩ := HQ.out k hk2
    obtain ⟨a1, a2, a3, a4, a5, a6⟩ := ev_at hA
    obtain ⟨b1, b2, b3, b4, b5, b6⟩ := ev_at hB
    have a1' := cell_later hbw a1
    have b1' := cell_later hbw b1
    have a2' := cell_later hbw a2
    have b2' := cell_later hbw b2
    have a3' := cell_later hbw a3
    have b3' := cell_later hbw b3
    have a4' := cell_later hbw a4
    have b4' := cell_later hbw b4
    have a5' := cell_later hbw a5
    have b5' := cell_later hbw b5
    have a6' := cell_later hbw a6
    have b6' := cell_later hbw b6
    clear hA hB a1 b1 a2 b2 a3 b3 a4 b4 a5 b5 a6 b6
    by_cases hxy : L.getD k noEv = M.getD k noEv
    ·have HK : RowKit.Hid (∀ j, j < k + 1 → L.getD j noEv = M.getD j noEv) := Lib.hid (fun j hj => by
      by_cases h : j = k
      ·subst h; exact hxy
      ·exact HEq.out j (by omega))
     rw [← hxy] at b1' b2' b3' b4' b5' b6'
     clear hxy
     generalize L.getD k noEv = x at *
     obtain ⟨x1, x2, x3, x4, x5, x6⟩ := x
     simp only at a1' a2' a3' a4' a5' a6' b1' b2' b3' b4' b5' b6'
     go_wp2_with fail
     go_quiet (fail)
     have hbw2 : Below w.heap.size w (wr.drewN nq) := hbw.trans ⟨rfl, rfl, rfl, Nat.le_refl _, fun _ _ => rfl⟩
     generalize wr.drewN nq = wq at *
     go_wp2_with fail
     go_roundw
     case rel => exact ⟨k + 1, by omega, by go_num, HK.out, hbw2⟩
     case measure => simp [RowKit.intOf]; omega
    ·have HNe := Lib.hid (evlist_not hxy)
     generalize L.getD k noEv = x at *
     generalize M.getD k noEv = y at *
     obtain ⟨x1, x2, x3, x4, x5, x6⟩ := x
     obtain ⟨y1, y2, y3, y4, y5, y6⟩ := y
     have hd := ev_differ hxy
     simp only at a1' a2' a3' a4' a5' a6' b1' b2' b3' b4' b5' b6'
     clear hxy
     rcases hd with hd | ⟨rfl, hd⟩ | ⟨rfl, rfl, hd⟩ | ⟨rfl, rfl, rfl, hd⟩ | ⟨rfl, rfl, rfl, rfl, hd⟩ | ⟨rfl, rfl, rfl, rfl, rfl, hd⟩
     ·have he := beq_eq_false_iff_ne.2 hd
      go_wp2_with fail
      go_quiet (fail)
      have hbw2 : Below w.heap.size w (wr.drewN nq) := hbw.trans ⟨rfl, rfl, rfl, Nat.le_refl _, fun _ _ => rfl⟩
      generalize wr.drewN nq = wq at *
      go_wp2_with fail
      go_ret
      exact ⟨by rw [decide_eq_false HNe.out]; rfl, hbw2⟩
     ·have he := beq_eq_false_iff_ne.2 hd
      go_wp2_with fail
      go_quiet (fail)
      have hbw2 : Below w.heap.size w (wr.drewN nq) := hbw.trans ⟨rfl, rfl, rfl, Nat.le_refl _, fun _ _ => rfl⟩
      generalize wr.drewN nq = wq at *
      go_wp2_with fail
      go_ret
      exact ⟨by rw [decide_eq_false HNe.out]; rfl, hbw2⟩
     ·have he := beq_eq_false_iff_ne.2 hd
      go_wp2_with fail
      go_quiet (fail)
      have hbw2 : Below w.heap.size w (wr.drewN nq) := hbw.trans ⟨rfl, rfl, rfl, Nat.le_refl _, fun _ _ => rfl⟩
      generalize wr.drewN nq = wq at *
      go_wp2_with fail
      go_ret
      exact ⟨by rw [decide_eq_false HNe.out]; rfl, hbw2⟩
     ·have he := beq_eq_false_iff_ne.2 hd
      go_wp2_with fail
      go_quiet (fail)
      have hbw2 : Below w.heap.size w (wr.drewN nq) := hbw.trans ⟨rfl, rfl, rfl, Nat.le_refl _, fun _ _ => rfl⟩
      generalize wr.drewN nq = wq at *
      go_wp2_with fail
      go_ret
      exact ⟨by rw [decide_eq_false HNe.out]; rfl, hbw2⟩
     ·have he := beq_eq_false_iff_ne.2 hd
      go_wp2_with fail
      go_quiet (fail)
      have hbw2 : Below w.heap.size w (wr.drewN nq) := hbw.trans ⟨rfl, rfl, rfl, Nat.le_refl _, fun _ _ => rfl⟩
      generalize wr.drewN nq = wq at *
      go_wp2_with fail
      go_ret
      exact ⟨by rw [decide_eq_false HNe.out]; rfl, hbw2⟩
     ·have he := beq_eq_false_iff_ne.2 hd
      go_wp2_with fail
      go_quiet (fail)
      have hbw2 : Below w.heap.size w (wr.drewN nq) := hbw.trans ⟨rfl, rfl, rfl, Nat.le_refl _, fun _ _ => rfl⟩
      generalize wr.drewN nq = wq at *
      go_wp2_with fail
      go_ret
      exact ⟨by rw [decide_eq_false HNe.out]; rfl, hbw2⟩
   ·have hke : k = L.length := by omega
    subst hke
    have HLL := Lib.hid (evlist_same L M HLM.out HEq.out)
    go_wp2_with fail
    go_ret
    exact ⟨by rw [decide_eq_true HLL.out]; rfl, hbw⟩
 ·have HNe := Lib.hid (evlen_not hlm)
  have hlmi : ¬ (((L.length : Nat) : Int) = ((M.length : Nat) : Int)) := by omega
  go_wp2_with fail
  go_ret
  exact ⟨by rw [decide_eq_false HNe.out]; rfl, Below.refl _ _⟩
end Go.Proofs.YthgbfaoblnkniaaGreatDoor

namespace Go.Proofs.YthgbfaoblnkniaaGreatDoor
open Go.RowKit Go.Lib
theorem rlog_any (l : List UInt8) (hl : l.length ≤ 1000000) (w : World) :
  Calls Tryz.prog 25 #[.string (bs l)] w fun e w' => ∃ v, e = .returned (.tuple #[v, .int .i64 (readL l).2.1, .int .i64 (readL l).2.2]) ∧ EvsS w' v (readL l).1 ∧ Below w.heap.size w w' :=
 rlog_of (fun t ht w' => reparse_any t ht w') l hl w
instance : DecidableEq EventM := inferInstance
end Go.Proofs.YthgbfaoblnkniaaGreatDoor

namespace Go.Proofs.YthgbfaoblnkniaaGreatDoor
open Go.RowKit Go.Lib
theorem list_same {α : Type} (d : α) (L M : List α) (hl : L.length = M.length) (h : ∀ j, j < L.length → L.getD j d = M.getD j d) : L = M := by
 refine List.ext_getElem hl (fun j h1 h2 => ?_)
 have := h j h1
 simpa [h1, h2] using this
theorem list_not {α : Type} (d : α) {L M : List α} {k : Nat} (h : L.getD k d ≠ M.getD k d) : L ≠ M := fun e => h (by rw [e])
theorem len_not {α : Type} {L M : List α} (h : L.length ≠ M.length) : L ≠ M := fun e => h (by rw [e])
set_option maxRecDepth 100000 in
set_option maxHeartbeats 4000000 in
theorem rtexts_any (v v' : Value) (L M : List (List UInt8)) (w : World) (hv : Texts w v L) (hv' : Texts w v' M) (hl : L.length ≤ 1000000) (_ : M.length ≤ 1000000) :
  Calls Tryz.prog 27 #[v, v'] w fun e w' => e = .returned (.bool (decide (L = M))) ∧ Below w.heap.size w w' := by
 obtain ⟨p, c, rfl, hp⟩ := hv
 obtain ⟨q, d, rfl, hq⟩ := hv'
 have HP := Lib.hid hp
 have HQ := Lib.hid hq
 clear hp hq
 go_enter Tryz.func27, Tryz.ntmps27
 by_cases hlm : L.length = M.length
 ·have hlmi : ((L.length : Nat) : Int) = ((M.length : Nat) : Int) := by omega
  have HLM := Lib.hid hlm
  clear hlm
  go_wp2_with fail
  go_loopw [5] (fun i wr => ∃ k : Nat, k ≤ L.length ∧ i = .int .i64 k ∧ (∀ j, j < k → L.getD j [] = M.getD j []) ∧ Below w.heap.size w wr) (fun i _ => L.length - (RowKit.intOf i).toNat)
  case atStart => exact ⟨0, Nat.zero_le _, rfl, fun j hj => absurd hj (Nat.not_lt_zero j), Below.refl _ _⟩
  case round =>
   obtain ⟨k, hk, rfl, heq, hbw⟩ := hrel
   have HEq := Lib.hid heq
   clear heq
   by_cases hk1 : k < L.length
   ·have hk2 : k < M.length := by rw [← HLM.out]; exact hk1
    obtain ⟨g, rfl, a1⟩ := HP.out k hk1
    obtain ⟨g', rfl, b1⟩ := HQ.out k hk2
    have a1' := cell_later hbw a1
    have b1' := cell_later hbw b1
    clear a1 b1
    by_cases hxy : L.getD k [] = M.getD k []
    ·have HK : RowKit.Hid (∀ j, j < k + 1 → L.getD j [] = M.getD j []) := Lib.hid (fun j hj => by
      by_cases h : j = k
      ·subst h; exact hxy
      ·exact HEq.out j (by omega))
     rw [← hxy] at b1'
     clear hxy
     generalize L.getD k [] = x at *
     go_wp2_with fail
     go_quiet (fail)
     have hbw2 : Below w.heap.size w (wr.drewN nq) := hbw.trans ⟨rfl, rfl, rfl, Nat.le_refl _, fun _ _ => rfl⟩
     generalize wr.drewN nq = wq at *
     go_wp2_with fail
     go_roundw
     case rel => exact ⟨k + 1, by omega, by go_num, HK.out, hbw2⟩
     case measure => simp [RowKit.intOf]; omega
    ·have HNe := Lib.hid (list_not (d := []) hxy)
     generalize L.getD k [] = x at *
     generalize M.getD k [] = y at *
     have hb2 : (x == y) = false := beq_eq_false_iff_ne.2 hxy
     clear hxy
     go_wp2_with fail
     go_quiet (fail)
     have hbw2 : Below w.heap.size w (wr.drewN nq) := hbw.trans ⟨rfl, rfl, rfl, Nat.le_refl _, fun _ _ => rfl⟩
     generalize wr.drewN nq = wq at *
     go_wp2_with fail
     go_ret
     exact ⟨by rw [decide_eq_false HNe.out]; rfl, hbw2⟩
   ·have hke : k = L.length := by omega
    subst hke
    have HLL := Lib.hid (list_same [] L M HLM.out HEq.out)
    go_wp2_with fail
    go_ret
    exact ⟨by rw [decide_eq_true HLL.out]; rfl, hbw⟩
 ·have HNe := Lib.hid (len_not hlm)
  have hlmi : ¬ (((L.length : Nat) : Int) = ((M.length : Nat) : Int)) := by omega
  go_wp2_with fail
  go_ret
  exact ⟨by rw [decide_eq_false HNe.out]; rfl, Below.refl _ _⟩
set_option maxRecDepth 100000 in
set_option maxHeartbeats 4000000 in
theorem rsameops_any (v v' : Value) (L M : List OpM) (w : World) (hv : OpsS w v L) (hv' : OpsS w v' M) (hl : L.length ≤ 1000000) (_ : M.length ≤ 1000000) :
  Calls Tryz.prog 28 #[v, v'] w fun e w' => e = .returned (.bool (decide (L = M))) ∧ Below w.heap.size w w' := by
 obtain ⟨p, c, rfl, hp⟩ := hv
 obtain ⟨q, d, rfl, hq⟩ := hv'
 have HP := Lib.hid hp
 have HQ := Lib.hid hq
 clear hp hq
 go_enter Tryz.func28, Tryz.ntmps28
 by_cases hlm : L.length = M.length
 ·have hlmi : ((L.length : Nat) : Int) = ((M.length : Nat) : Int) := by omega
  have HLM := Lib.hid hlm
  clear hlm
  go_wp2_with fail
  go_loopw [5] (fun i wr => ∃ k : Nat, k ≤ L.length ∧ i = .int .i64 k ∧ (∀ j, j < k → L.getD j noOp = M.getD j noOp) ∧ Below w.heap.size w wr) (fun i _ => L.length - (RowKit.intOf i).toNat)
  case atStart => exact ⟨0, Nat.zero_le _, rfl, fun j hj => absurd hj (Nat.not_lt_zero j), Below.refl _ _⟩
  case round =>
   obtain ⟨k, hk, rfl, heq, hbw⟩ := hrel
   have HEq := Lib.hid heq
   clear heq
   by_cases hk1 : k < L.length
   ·have hk2 : k < M.length := by rw [← HLM.out]; exact hk1
    obtain ⟨g, rfl, a1, a2, a3, a4⟩ := HP.out k hk1
    obtain ⟨g', rfl, b1, b2, b3, b4⟩ := HQ.out k hk2
    have a1' := cell_later hbw a1
    have b1' := cell_later hbw b1
    have a2' := cell_later hbw a2
    have b2' := cell_later hbw b2
    have a3' := cell_later hbw a3
    have b3' := cell_later hbw b3
    have a4' := cell_later hbw a4
    have b4' := cell_later hbw b4
    clear a1 b1 a2 b2 a3 b3 a4 b4
    by_cases hxy : L.getD k noOp = M.getD k noOp
    ·have HK : RowKit.Hid (∀ j, j < k + 1 → L.getD j noOp = M.getD j noOp) := Lib.hid (fun j hj => by
      by_cases h : j = k
      ·subst h; exact hxy
      ·exact HEq.out j (by omega))
     rw [← hxy] at b1' b2' b3' b4'
     clear hxy
     generalize L.getD k noOp = x at *
     obtain ⟨x1, x2, x3, x4⟩ := x
     simp only at a1' a2' a3' a4' b1' b2' b3' b4'
     go_wp2_with fail
     go_quiet (fail)
     have hbw2 : Below w.heap.size w (wr.drewN nq) := hbw.trans ⟨rfl, rfl, rfl, Nat.le_refl _, fun _ _ => rfl⟩
     generalize wr.drewN nq = wq at *
     go_wp2_with fail
     go_roundw
     case rel => exact ⟨k + 1, by omega, by go_num, HK.out, hbw2⟩
     case measure => simp [RowKit.intOf]; omega
    ·have HNe := Lib.hid (list_not (d := noOp) hxy)
     generalize L.getD k noOp = x at *
     generalize M.getD k noOp = y at *
     obtain ⟨x1, x2, x3, x4⟩ := x
     obtain ⟨y1, y2, y3, y4⟩ := y
     have hd : (x1 = true ∧ y1 = false) ∨ (x1 = false ∧ y1 = true) ∨ (x1 = y1 ∧ ¬ x2 = y2) ∨ (x1 = y1 ∧ x2 = y2 ∧ ¬ x3 = y3) ∨ (x1 = y1 ∧ x2 = y2 ∧ x3 = y3 ∧ ¬ x4 = y4) := by
      by_cases h1 : x1 = y1
      ·by_cases h2 : x2 = y2
       ·by_cases h3 : x3 = y3
        ·by_cases h4 : x4 = y4
         ·exact absurd (by rw [h1, h2, h3, h4]) hxy
         ·exact .inr (.inr (.inr (.inr ⟨h1, h2, h3, h4⟩)))
        ·exact .inr (.inr (.inr (.inl ⟨h1, h2, h3⟩)))
       ·exact .inr (.inr (.inl ⟨h1, h2⟩))
      ·cases x1 <;> cases y1
       ·exact absurd rfl h1
       ·exact .inr (.inl ⟨rfl, rfl⟩)
       ·exact .inl ⟨rfl, rfl⟩
       ·exact absurd rfl h1
     simp only at a1' a2' a3' a4' b1' b2' b3' b4'
     clear hxy
     rcases hd with ⟨rfl, rfl⟩ | ⟨rfl, rfl⟩ | ⟨rfl, hd⟩ | ⟨rfl, rfl, hd⟩ | ⟨rfl, rfl, rfl, hd⟩
     ·go_wp2_with fail
      go_quiet (fail)
      have hbw2 : Below w.heap.size w (wr.drewN nq) := hbw.trans ⟨rfl, rfl, rfl, Nat.le_refl _, fun _ _ => rfl⟩
      generalize wr.drewN nq = wq at *
      go_wp2_with fail
      go_ret
      exact ⟨by rw [decide_eq_false HNe.out]; rfl, hbw2⟩
     ·go_wp2_with fail
      go_quiet (fail)
      have hbw2 : Below w.heap.size w (wr.drewN nq) := hbw.trans ⟨rfl, rfl, rfl, Nat.le_refl _, fun _ _ => rfl⟩
      generalize wr.drewN nq = wq at *
      go_wp2_with fail
      go_ret
      exact ⟨by rw [decide_eq_false HNe.out]; rfl, hbw2⟩
     ·have he := beq_eq_false_iff_ne.2 hd
      go_wp2_with fail
      go_quiet (fail)
      have hbw2 : Below w.heap.size w (wr.drewN nq) := hbw.trans ⟨rfl, rfl, rfl, Nat.le_refl _, fun _ _ => rfl⟩
      generalize wr.drewN nq = wq at *
      go_wp2_with fail
      go_ret
      exact ⟨by rw [decide_eq_false HNe.out]; rfl, hbw2⟩
     ·have he := beq_eq_false_iff_ne.2 hd
      go_wp2_with fail
      go_quiet (fail)
      have hbw2 : Below w.heap.size w (wr.drewN nq) := hbw.trans ⟨rfl, rfl, rfl, Nat.le_refl _, fun _ _ => rfl⟩
      generalize wr.drewN nq = wq at *
      go_wp2_with fail
      go_ret
      exact ⟨by rw [decide_eq_false HNe.out]; rfl, hbw2⟩
     ·have he := beq_eq_false_iff_ne.2 hd
      go_wp2_with fail
      go_quiet (fail)
      have hbw2 : Below w.heap.size w (wr.drewN nq) := hbw.trans ⟨rfl, rfl, rfl, Nat.le_refl _, fun _ _ => rfl⟩
      generalize wr.drewN nq = wq at *
      go_wp2_with fail
      go_ret
      exact ⟨by rw [decide_eq_false HNe.out]; rfl, hbw2⟩
   ·have hke : k = L.length := by omega
    subst hke
    have HLL := Lib.hid (list_same noOp L M HLM.out HEq.out)
    go_wp2_with fail
    go_ret
    exact ⟨by rw [decide_eq_true HLL.out]; rfl, hbw⟩
 ·have HNe := Lib.hid (len_not hlm)
  have hlmi : ¬ (((L.length : Nat) : Int) = ((M.length : Nat) : Int)) := by omega
  go_wp2_with fail
  go_ret
  exact ⟨by rw [decide_eq_false HNe.out]; rfl, Below.refl _ _⟩
end Go.Proofs.YthgbfaoblnkniaaGreatDoor

namespace Go.Proofs.YthgbfaoblnkniaaGreatDoor
open Go.RowKit Go.Lib
instance decTxn : DecidableEq TxnM := fun a b => (inferInstance : Decidable (a = b))
instance decTxns : DecidableEq (List TxnM) := instDecidableEqList
end Go.Proofs.YthgbfaoblnkniaaGreatDoor

namespace Go.Proofs.YthgbfaoblnkniaaGreatDoor
open Go.RowKit Go.Lib
attribute [local go_sem] Later.cell Later.frozen
def eqH (a b : HistM) : Bool := decide (a.1 = b.1) && (decide (a.2.1 = b.2.1) && decide (a.2.2 = b.2.2))
set_option maxRecDepth 100000 in
set_option maxHeartbeats 4000000 in
theorem rsame10_any (va0 va1 va2 vb0 vb1 vb2 : Value) (ha hb : HistM) (w : World) (a0 : Texts w va0 ha.1) (a1 : Texts w va1 ha.2.1) (a2 : TxnsS w va2 ha.2.2) (ma : Modst ha) (b0 : Texts w vb0 hb.1) (b1 : Texts w vb1 hb.2.1) (b2 : TxnsS w vb2 hb.2.2) (mb : Modst hb) :
  Calls Tryz.prog 15 #[.agg #[va0, va1, va2], .agg #[vb0, vb1, vb2]] w fun e w' => e = .returned (.bool (eqH ha hb)) ∧ Below w.heap.size w w' := by
 have HC0 := Lib.hid (fun w' (h : Below w.heap.size w w') => (rtexts_any va0 vb0 ha.1 hb.1 w' (a0.below h) (b0.below h) (by have := ma.1; omega) (by have := mb.1; omega)))
 have HC1 := Lib.hid (fun w' (h : Below w.heap.size w w') => (rtexts_any va1 vb1 ha.2.1 hb.2.1 w' (a1.below h) (b1.below h) (by have := ma.2.1; omega) (by have := mb.2.1; omega)))
 obtain ⟨p0, c0, rfl, -⟩ := a0
 obtain ⟨p1, c1, rfl, -⟩ := a1
 obtain ⟨p2, c2, rfl, hp⟩ := a2
 obtain ⟨q0, d0, rfl, -⟩ := b0
 obtain ⟨q1, d1, rfl, -⟩ := b1
 obtain ⟨q2, d2, rfl, hq⟩ := b2
 have HP := Lib.hid hp
 have HQ := Lib.hid hq
 have ml : ha.2.2.length ≤ 1000 := ma.2.2.1
 have ml' : hb.2.2.length ≤ 1000 := mb.2.2.1
 have HS : RowKit.Hid (eqH ha hb = (decide (ha.1 = hb.1) && (decide (ha.2.1 = hb.2.1) && decide (ha.2.2 = hb.2.2)))) := Lib.hid rfl
 generalize eqH ha hb = R at *
 generalize decide (ha.1 = hb.1) = e0 at *
 generalize decide (ha.2.1 = hb.2.1) = e1 at *
 clear hp hq
 go_enter Tryz.func15, Tryz.ntmps15
 cases e0 with
 | false =>
  have HR : RowKit.Hid (R = false) := Lib.hid HS.out
  clear HS
  go_wp2_with (fail)
  refine (HC0.out _ (by (repeat' (first | (with_reducible exact Below.refl _ _) | (with_reducible assumption) | (refine below_next ?_ (by with_reducible assumption)) | (with_reducible refine Below.alloc ?_ ?_ _) | (with_reducible refine Below.drew ?_) | (with_reducible refine below_drewN ?_ _) | omega | (simp; done) | (simp; omega))))).mono ?_
  rintro e w3 ⟨rfl, hb3⟩
  obtain ⟨hc3, hf3⟩ := bcell hb3
  have hz3 := hb3.size
  try simp at hz3
  have g3 : w.heap.size < w3.heap.size := by omega
  have k3 : w.heap.size + 1 < w3.heap.size := by omega
  go_wp2_with fail
  go_ret
  exact ⟨by rw [HR.out]; rfl, by (repeat' (first | (with_reducible exact Below.refl _ _) | (with_reducible assumption) | (refine below_next ?_ (by with_reducible assumption)) | (with_reducible refine Below.alloc ?_ ?_ _) | (with_reducible refine Below.drew ?_) | (with_reducible refine below_drewN ?_ _) | omega | (simp; done) | (simp; omega)))⟩
 | true =>
  cases e1 with
  | false =>
   have HR : RowKit.Hid (R = false) := Lib.hid HS.out
   clear HS
   go_wp2_with (fail)
   refine (HC0.out _ (by (repeat' (first | (with_reducible exact Below.refl _ _) | (with_reducible assumption) | (refine below_next ?_ (by with_reducible assumption)) | (with_reducible refine Below.alloc ?_ ?_ _) | (with_reducible refine Below.drew ?_) | (with_reducible refine below_drewN ?_ _) | omega | (simp; done) | (simp; omega))))).mono ?_
   rintro e w3 ⟨rfl, hb3⟩
   obtain ⟨hc3, hf3⟩ := bcell hb3
   have hz3 := hb3.size
   try simp at hz3
   have g3 : w.heap.size < w3.heap.size := by omega
   have k3 : w.heap.size + 1 < w3.heap.size := by omega
   go_wp2_with (fail)
   refine (HC1.out _ (by (repeat' (first | (with_reducible exact Below.refl _ _) | (with_reducible assumption) | (refine below_next ?_ (by with_reducible assumption)) | (with_reducible refine Below.alloc ?_ ?_ _) | (with_reducible refine Below.drew ?_) | (with_reducible refine below_drewN ?_ _) | omega | (simp; done) | (simp; omega))))).mono ?_
   rintro e w4 ⟨rfl, hb4⟩
   obtain ⟨hc4, hf4⟩ := bcell hb4
   have hz4 := hb4.size
   try simp at hz4
   have g4 : w.heap.size < w4.heap.size := by omega
   have k4 : w.heap.size + 1 < w4.heap.size := by omega
   go_wp2_with fail
   go_ret
   exact ⟨by rw [HR.out]; rfl, by (repeat' (first | (with_reducible exact Below.refl _ _) | (with_reducible assumption) | (refine below_next ?_ (by with_reducible assumption)) | (with_reducible refine Below.alloc ?_ ?_ _) | (with_reducible refine Below.drew ?_) | (with_reducible refine below_drewN ?_ _) | omega | (simp; done) | (simp; omega)))⟩
  | true =>
   have HR : RowKit.Hid (R = decide (ha.2.2 = hb.2.2)) := Lib.hid HS.out
   clear HS
   go_wp2_with (fail)
   refine (HC0.out _ (by (repeat' (first | (with_reducible exact Below.refl _ _) | (with_reducible assumption) | (refine below_next ?_ (by with_reducible assumption)) | (with_reducible refine Below.alloc ?_ ?_ _) | (with_reducible refine Below.drew ?_) | (with_reducible refine below_drewN ?_ _) | omega | (simp; done) | (simp; omega))))).mono ?_
   rintro e w3 ⟨rfl, hb3⟩
   obtain ⟨hc3, hf3⟩ := bcell hb3
   have hz3 := hb3.size
   try simp at hz3
   have g3 : w.heap.size < w3.heap.size := by omega
   have k3 : w.heap.size + 1 < w3.heap.size := by omega
   go_wp2_with (fail)
   refine (HC1.out _ (by (repeat' (first | (with_reducible exact Below.refl _ _) | (with_reducible assumption) | (refine below_next ?_ (by with_reducible assumption)) | (with_reducible refine Below.alloc ?_ ?_ _) | (with_reducible refine Below.drew ?_) | (with_reducible refine below_drewN ?_ _) | omega | (simp; done) | (simp; omega))))).mono ?_
   rintro e w4 ⟨rfl, hb4⟩
   obtain ⟨hc4, hf4⟩ := bcell hb4
   have hz4 := hb4.size
   try simp at hz4
   have g4 : w.heap.size < w4.heap.size := by omega
   have k4 : w.heap.size + 1 < w4.heap.size := by omega
   by_cases hlm : ha.2.2.length = hb.2.2.length
   ·have hlmi : ((ha.2.2.length : Nat) : Int) = ((hb.2.2.length : Nat) : Int) := by omega
    have HLM := Lib.hid hlm
    have x2 := cell_later hb4 (cell_later hb3 (show World.cell? _ ⟨w.heap.size, 2, none⟩ = some (Value.slice p2 ha.2.2.length c2) from by go_simp))
    have y2 := cell_later hb4 (cell_later hb3 (show World.cell? _ ⟨w.heap.size + 1, 2, none⟩ = some (Value.slice q2 hb.2.2.length d2) from by go_simp))
    have hbx : Below w.heap.size w w4 := by (repeat' (first | (with_reducible exact Below.refl _ _) | (with_reducible assumption) | (refine below_next ?_ (by with_reducible assumption)) | (with_reducible refine Below.alloc ?_ ?_ _) | (with_reducible refine Below.drew ?_) | (with_reducible refine below_drewN ?_ _) | omega | (simp; done) | (simp; omega)))
    have HBX := Lib.hid hbx
    have g5 : w.heap.size < w4.heap.size := by omega
    have k5 : w.heap.size + 1 < w4.heap.size := by omega
    clear hlm hbx
    go_wp2_with fail
    go_loopw [5] (fun i wr => ∃ k : Nat, k ≤ ha.2.2.length ∧ i = .int .i64 k ∧ (∀ j, j < k → ha.2.2.getD j noTxn = hb.2.2.getD j noTxn) ∧ Below w4.heap.size w4 wr) (fun i _ => ha.2.2.length - (RowKit.intOf i).toNat)
    case atStart => exact ⟨0, Nat.zero_le _, rfl, fun j hj => absurd hj (Nat.not_lt_zero j), Below.refl _ _⟩
    case round =>
     obtain ⟨k, hk, rfl, heq, hbw⟩ := hrel
     have HEq := Lib.hid heq
     clear heq
     have x2' := cell_later hbw x2
     have y2' := cell_later hbw y2
     have hbwx := below_next HBX.out hbw
     by_cases hk1 : k < ha.2.2.length
     ·have hk2 : k < hb.2.2.length := by rw [← HLM.out]; exact hk1
      have HWr := Lib.hid (show IntKind.i64.wrap ((k : Int) + 1) = (k : Int) + 1 from IntWalk.i64_in _ (by omega))
      obtain ⟨g, sv, rfl, a1, a2, a3, a4⟩ := HP.out k hk1
      obtain ⟨g', sv', rfl, b1, b2, b3, b4⟩ := HQ.out k hk2
      have a1' := cell_later hbwx a1
      have a2' := cell_later hbwx a2
      have a3' := cell_later hbwx a3
      have b1' := cell_later hbwx b1
      have b2' := cell_later hbwx b2
      have b3' := cell_later hbwx b3
      have hg0 : g < wr.heap.size := World.block_lt_of_cell? wr _ a1'
      have hg1 : g' < wr.heap.size := World.block_lt_of_cell? wr _ b1'
      have hg2 : w.heap.size < wr.heap.size := World.block_lt_of_cell? wr _ x2'
      have hg3 : w.heap.size + 1 < wr.heap.size := World.block_lt_of_cell? wr _ y2'
      have hx1 : (ha.2.2.getD k noTxn).2.2.length ≤ 1000 := ma.2.2.2.2.2 _ (by simp [hk1])
      have hx2 : (hb.2.2.getD k noTxn).2.2.length ≤ 1000 := mb.2.2.2.2.2 _ (by simp [hk2])
      have HC := Lib.hid (fun w' (h : Below wr.heap.size wr w') => rsameops_any sv sv' (ha.2.2.getD k noTxn).2.2 (hb.2.2.getD k noTxn).2.2 w' (a4.below (below_next hbwx h)) (b4.below (below_next hbwx h)) (by omega) (by omega))
      have HK : RowKit.Hid (ha.2.2.getD k noTxn = hb.2.2.getD k noTxn → ∀ j, j < k + 1 → ha.2.2.getD j noTxn = hb.2.2.getD j noTxn) := Lib.hid (fun h0 j hj => by
       by_cases h : j = k
       ·subst h; exact h0
       ·exact HEq.out j (by omega))
      have HN : RowKit.Hid (ha.2.2.getD k noTxn ≠ hb.2.2.getD k noTxn → decide (ha.2.2 = hb.2.2) = false) := Lib.hid (fun h0 => decide_eq_false (list_not (d := noTxn) h0))
      generalize ha.2.2.getD k noTxn = x at *
      generalize hb.2.2.getD k noTxn = y at *
      obtain ⟨s, f, l⟩ := x
      obtain ⟨s', f', l'⟩ := y
      obtain ⟨sp, sc, rfl, -⟩ := a4
      obtain ⟨sp', sc', rfl, -⟩ := b4
      simp only at HC a1' a2' a3' b1' b2' b3' hx1 hx2
      clear a1 a2 a3 b1 b2 b3 HP HQ HEq x2 y2 hc3 hc4 hf3 hf4
      by_cases h1 : s = s'
      ·subst h1
       by_cases h2 : f = f'
       ·subst h2
        by_cases h3 : l = l'
        ·have HYe := Lib.hid (HK.out (by rw [h3]))
         have h4 : decide (l = l') = true := decide_eq_true h3
         rw [h4] at HC
         clear h3 h4 HN HK
         go_wp2_with fail
         refine wp_region_later (by kernel_rfl) (by kernel_rfl) ?_
         repeat (go_big_quiet_step (first | (go_at_call 28; exact Later.call (HC.out _ (Later.h _)))))
         refine wpQuiet_nil ?_
         intro _ hw'
         obtain ⟨⟨w6, hb6⟩, hw''⟩ := hw'
         have hw3 : w6 = _ := hw''.symm
         subst hw3
         try dsimp only at hb6
         go_wp2_with fail
         go_roundw
         case rel => exact ⟨k + 1, by omega, by rw [HWr.out]; go_num, HYe.out, below_next hbw hb6⟩
         case measure => simp [RowKit.intOf, HWr.out]; omega
        ·have HNo := Lib.hid (HN.out (fun e => h3 (congrArg (fun t : TxnM => t.2.2) e)))
         have h4 : decide (l = l') = false := decide_eq_false h3
         rw [h4] at HC
         clear h3 h4 HN HK
         go_wp2_with fail
         refine wp_region_later (by kernel_rfl) (by kernel_rfl) ?_
         repeat (go_big_quiet_step (first | (go_at_call 28; exact Later.call (HC.out _ (Later.h _)))))
         refine wpQuiet_nil ?_
         intro _ hw'
         obtain ⟨⟨w6, hb6⟩, hw''⟩ := hw'
         have hw3 : w6 = _ := hw''.symm
         subst hw3
         try dsimp only at hb6
         go_wp2_with fail
         go_ret
         exact ⟨by rw [HR.out, HNo.out]; rfl, below_next hbwx hb6⟩
       ·have HNo := Lib.hid (HN.out (fun e => h2 (congrArg (fun t : TxnM => t.2.1) e)))
        have h5 := beq_eq_false_iff_ne.2 h2
        have h6 : (f != f') = true := bne_iff_ne.2 h2
        clear HN HK h2
        go_wp2_with fail
        refine wp_region_later (by kernel_rfl) (by kernel_rfl) ?_
        repeat (go_big_quiet_step (first | (go_at_call 28; exact Later.call (HC.out _ (Later.h _)))))
        refine wpQuiet_nil ?_
        intro _ hw'
        obtain ⟨⟨w6, hb6⟩, hw''⟩ := hw'
        have hw3 : w6 = _ := hw''.symm
        subst hw3
        try dsimp only at hb6
        go_wp2_with fail
        go_ret
        exact ⟨by rw [HR.out, HNo.out]; rfl, below_next hbwx hb6⟩
      ·have HNo := Lib.hid (HN.out (fun e => h1 (congrArg (fun t : TxnM => t.1) e)))
       have h5 := beq_eq_false_iff_ne.2 h1
       have h6 : (s != s') = true := bne_iff_ne.2 h1
       clear HN HK h1
       go_wp2_with fail
       refine wp_region_later (by kernel_rfl) (by kernel_rfl) ?_
       repeat (go_big_quiet_step (first | (go_at_call 28; exact Later.call (HC.out _ (Later.h _)))))
       refine wpQuiet_nil ?_
       intro _ hw'
       obtain ⟨⟨w6, hb6⟩, hw''⟩ := hw'
       have hw3 : w6 = _ := hw''.symm
       subst hw3
       try dsimp only at hb6
       go_wp2_with fail
       go_ret
       exact ⟨by rw [HR.out, HNo.out]; rfl, below_next hbwx hb6⟩
     ·have hke : k = ha.2.2.length := by omega
      subst hke
      have HLL := Lib.hid (list_same noTxn ha.2.2 hb.2.2 HLM.out HEq.out)
      go_wp2_with fail
      go_ret
      exact ⟨by rw [HR.out, decide_eq_true HLL.out]; rfl, hbwx⟩
   ·have hlmi : ¬ (((ha.2.2.length : Nat) : Int) = ((hb.2.2.length : Nat) : Int)) := by omega
    have HNe := Lib.hid (len_not hlm)
    go_wp2_with fail
    go_ret
    exact ⟨by rw [HR.out, decide_eq_false HNe.out]; rfl, by (repeat' (first | (with_reducible exact Below.refl _ _) | (with_reducible assumption) | (refine below_next ?_ (by with_reducible assumption)) | (with_reducible refine Below.alloc ?_ ?_ _) | (with_reducible refine Below.drew ?_) | (with_reducible refine below_drewN ?_ _) | omega | (simp; done) | (simp; omega)))⟩
end Go.Proofs.YthgbfaoblnkniaaGreatDoor
