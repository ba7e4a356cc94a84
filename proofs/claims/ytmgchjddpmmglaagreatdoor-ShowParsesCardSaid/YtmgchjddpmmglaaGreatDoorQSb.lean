/-
  The walk of layer 8 (log): what the reference reads a text as. Texts of at most 1,000,000 bytes.
  A strings.Builder of the call's own: written, measured, read. No conditions but those on sizes.
  The walks of layer 8 (log): events' text, in the program and in the reference. Conditions: unicode/utf8's two tables, and event.words, hold what their initialisers lay; names of at most 1,000,000 bytes.
  The statements of layer 8 (log), walked. Conditions: unicode/utf8's two tables, and event.words, hold what their initialisers lay, internal/bytealg.MaxLen holds a number.
  The walk of layer 2's reference (name): texts' names in order. No conditions.
  Layer 10 (pair), the document's answer: what its W holds, as memory of the call's own; at, keys, walked. No conditions.
-/
import Derived.Shelf.Strings.Builder1
import Derived.Deep.CutBlock
import Derived.Test.YtmgchjddpmmglaaGreatDoorQxEvY
import Derived.Test.YtmgchjddpmmglaaGreatDoorQAk
import Derived.Laws.AppendOwnNone
namespace Go.Proofs.YtmgchjddpmmglaaGreatDoor
section
open Go.RowKit Go.Lib
set_option maxRecDepth 100000 in
set_option maxHeartbeats 8000000 in
theorem rlog_of (HP0 : ∀ t : List UInt8, t.length ≤ 1000000 → ∀ w' : World, Calls Tryz.prog 122 #[.string (bs t)] w' fun e w'' => e = .returned (.tuple #[evV (parseE t).1, .bool (parseE t).2.1, .int .i64 (parseE t).2.2]) ∧ Below w'.heap.size w' w'') (l : List UInt8) (hl : l.length ≤ 1000000) (w : World) :
  Calls Tryz.prog 71 #[.string (bs l)] w fun e w' => ∃ v, e = .returned (.tuple #[v, .int .i64 (readL l).2.1, .int .i64 (readL l).2.2]) ∧ EvsS w' v (readL l).1 ∧ Below w.heap.size w w' := by
 have HO := Lib.hid (rof_any l hl w)
 have HP := Lib.hid HP0
 have HLs := Lib.hid (fun j => Nat.le_trans (line_short l j) hl)
 have hlen : (ofL l).1.length ≤ 1000001 := by
  unfold ofL
  split
  ·simp
  ·by_cases h : (resGo (linesL l) 0 (linesL l)).2.2 = 0
   ·rw [(resGo_full _ _ _ h).1]
    have := lines_len l []
    unfold linesL
    omega
   ·rw [(resGo_bad _ _ _ h).1]; simp
 have hre : readL l = if (ofL l).2.2 ≠ 0 then ([], ((ofL l).2.1 : Int), ((ofL l).2.2 : Int)) else logGo (ofL l).1 0 [] := rfl
 obtain ⟨⟨lns, en, ee⟩, hof⟩ : ∃ y, ofL l = y := ⟨_, rfl⟩
 rw [hof] at HO HLs hlen hre
 simp only at HO HLs hlen hre
 generalize readL l = R at *
 clear hof hl
 by_cases he : ee = 0
 ·subst he
  rw [if_neg (by simp)] at hre
  have HRe := Lib.hid hre
  clear hre
  obtain ⟨i0, hi, hz0, hz1, hz2⟩ := info_parts info_ev
  go_enter Tryz.func71, Tryz.ntmps71
  go_wp2_with fail
  refine HO.out.mono ?_
  rintro e w1 ⟨v1, rfl, hv1, hb1⟩
  obtain ⟨p, cap, rfl, hc⟩ := hv1
  have HC := Lib.hid hc
  have HB1 := Lib.hid hb1
  clear hc hb1
  go_wp2_with fail
  go_loopw [8, 9] (fun v8 i wr => ∃ (k : Nat) (out : List EventM), k ≤ lns.length ∧ out.length ≤ k ∧ i = .int .i64 k ∧ wr.ownsRow w1.heap.size 123 6 v8 out.length (evcs out) ∧ RowKit.Hid (logGo (lns.drop k) k out = R) ∧ Below w1.heap.size w1 wr) (fun _ i _ => lns.length - (RowKit.intOf i).toNat)
  case atStart => exact ⟨0, [], Nat.zero_le _, Nat.le_refl _, rfl, World.ownsRow_made w1 #[] 0 (Nat.le_refl _) (Nat.zero_le _) rfl, Lib.hid (by rw [List.drop_zero]; exact HRe.out.symm), (Below.refl _ _).alloc (Nat.le_refl _) _⟩
  case round =>
   obtain ⟨k, out, hk, hol, rfl, hown, HG, hbw⟩ := hrel
   by_cases hlt : k < lns.length
   ·obtain ⟨g, rfl, hcell⟩ := HC.out k hlt
    have hc1 := cell_later hbw hcell
    have hd : lns.drop k = lns.getD k [] :: lns.drop (k + 1) := by
     rw [List.drop_eq_getElem_cons hlt]
     simp [hlt]
    have HG2 := Lib.hid HG.out
    rw [hd] at HG2
    have htl := HLs.out k
    have HPk := Lib.hid (HP.out (lns.getD k []) htl)
    generalize lns.getD k [] = t at *
    have HB := Lib.hid (below_next HB1.out hbw)
    have HBw := Lib.hid hbw
    have HOw := Lib.hid hown
    clear HG hd hcell hown hbw htl
    rcases parse_cases t with ⟨x, e, hp, he⟩ | ⟨x, hp⟩ | ⟨x, hp⟩
    ·rw [hp] at HPk
     have HR : RowKit.Hid (R = ([], ((k + 1 : Nat) : Int), e)) := Lib.hid (by rw [← HG2.out]; exact go_err _ _ _ _ _ _ _ hp (by simpa using he))
     clear hp HG2
     obtain ⟨x1, x2, x3, x4, x5, x6⟩ := x
     unfold evV at HPk
     dsimp only at HPk
     go_wp2_with fail
     refine (HPk.out _).mono ?_
     rintro e2 w2 ⟨rfl, hb2⟩
     have hf2 := below_next HB.out hb2
     go_wp2_with fail
     go_ret3
     exact ⟨_, by rw [HR.out]; rfl, by rw [HR.out]; exact evs_none _, hf2.alloc hf2.size _⟩
    ·rw [hp] at HPk
     have HR : RowKit.Hid (logGo (lns.drop (k + 1)) (k + 1) out = R) := Lib.hid (by rw [← HG2.out]; exact (go_skip' _ _ _ _ _ hp).symm)
     clear hp HG2
     obtain ⟨x1, x2, x3, x4, x5, x6⟩ := x
     unfold evV at HPk
     dsimp only at HPk
     go_wp2_with fail
     refine (HPk.out _).mono ?_
     rintro e2 w2 ⟨rfl, hb2⟩
     have hf2 := below_next HBw.out hb2
     have ho2 := (owns_later HOw.out hb2)
     go_wp2_with fail
     go_roundw
     case rel => exact ⟨k + 1, out, by omega, by omega, by go_num, ho2.alloc _, HR, hf2.alloc hf2.size _⟩
     case measure => simp [RowKit.intOf]; omega
    ·rw [hp] at HPk
     obtain ⟨x1, x2, x3, x4, x5, x6⟩ := x
     obtain ⟨p8, c8, rfl⟩ := owns_form HOw.out
     by_cases hfull : out.length = 1000
     ·have HR : RowKit.Hid (R = ([], ((k + 1 : Nat) : Int), 7)) := Lib.hid (by rw [← HG2.out]; exact go_full _ _ _ _ _ hp hfull)
      have hfb : ((out.length : Int) == 1000) = true := by simp; omega
      clear hp HG2 hfull
      unfold evV at HPk
      dsimp only at HPk
      go_wp2_with fail
      refine (HPk.out _).mono ?_
      rintro e2 w2 ⟨rfl, hb2⟩
      have hf2 := below_next HB.out hb2
      go_wp2_with fail
      go_ret3
      exact ⟨_, by rw [HR.out]; rfl, by rw [HR.out]; exact evs_none _, hf2.alloc hf2.size _⟩
     ·have HR : RowKit.Hid (logGo (lns.drop (k + 1)) (k + 1) (out ++ [(x1, x2, x3, x4, x5, (k : Int) + 1)]) = R) := Lib.hid (by rw [← HG2.out]; exact (go_more _ _ _ _ _ hp hfull).symm)
      have hfb : ((out.length : Int) == 1000) = false := by rw [beq_eq_false_iff_ne]; omega
      clear hp HG2 hfull
      unfold evV at HPk
      dsimp only at HPk
      go_wp2_with fail
      refine (HPk.out _).mono ?_
      rintro e2 w2 ⟨rfl, hb2⟩
      have hbx := below_next HBw.out hb2
      have ho2 := owns_later HOw.out hb2
      have hz := hbx.size
      clear hb2
      go_wp2_with (at_builtin; refine wpList_append_own _ rfl (.tmp 54) (.tmp 56) 82 rfl w1.heap.size 123 i0 (.agg #[.int .i64 0, .string ByteArray.empty, .string ByteArray.empty, .int .i64 0, .int .i64 0, .int .i64 0]) 6 64 Tryz.underlying82 hi hz0 hz1 hz2 rfl (by decide) _ _ _ rfl ((ho2.alloc _).alloc _) ⟨w2.heap.size + 1, 0, none⟩ 1 1 [.int .i64 x1, .string (bs x2), .string (bs x3), .int .i64 x4, .int .i64 x5, .int .i64 ((k : Int) + 1)] rfl rfl (news_lit _ _ _ _ (by simp)) (ones_ev _ _ _ _ _ _) (by unfold maxLen; omega) (by omega) (by simp; omega) ?_)
      intro v4 w4 hown4 hgrow hnil
      have hb4 : Below w1.heap.size w1 w4 := ((hbx.alloc hz _).alloc (by simp; omega) _).grown hgrow (by simp; omega) (fun k hk => (ho2.lt k hk).1)
      have HO4 : RowKit.Hid (w4.ownsRow w1.heap.size 123 6 v4 (out ++ [(x1, x2, x3, x4, x5, (k : Int) + 1)]).length (evcs (out ++ [(x1, x2, x3, x4, x5, (k : Int) + 1)]))) := Lib.hid (by rw [← evcs_snoc, List.length_append]; exact hown4)
      clear hown4 hgrow hnil ho2 hbx
      go_wp2_with fail
      go_roundw
      case rel => exact ⟨k + 1, _, by omega, by simp; omega, by go_num, HO4.out, HR, hb4⟩
      case measure => simp [RowKit.intOf]; omega
   ·have hke : k = lns.length := by omega
    subst hke
    have HR : RowKit.Hid (R = (out, 0, 0)) := Lib.hid (by rw [← HG.out, List.drop_length]; rfl)
    have HOw := Lib.hid (own_evs hown)
    clear hown HG
    go_wp2_with fail
    go_ret3
    exact ⟨_, by rw [HR.out]; rfl, by rw [HR.out]; exact HOw.out, below_next HB1.out hbw⟩
 ·have hd : (((ee : Nat) : Int) != 0) = true := by simp; omega
  rw [if_pos he] at hre
  have HRe := Lib.hid hre
  clear hre he
  go_enter Tryz.func71, Tryz.ntmps71
  go_wp2_with fail
  refine HO.out.mono ?_
  rintro e w1 ⟨v1, rfl, hv1, hb1⟩
  go_wp2_with fail
  go_ret3
  exact ⟨_, by rw [HRe.out]; rfl, by rw [HRe.out]; exact evs_none _, hb1⟩
end
section
open Go.RowKit Go.Lib
def IsB (B b : Nat) (l : List UInt8) (w : World) : Prop := Lib.IsBuilder 195 5 B b (Lib.byteCells l) w
theorem isB_new (w : World) : IsB w.heap.size w.heap.size [] (w.alloc (.cells #[.pointer none, .slice none 0 0] 195)) := Lib.fresh_isBuilder _ _ w
theorem builderAt_later {T e : TypeId} {B b : Nat} {p : Value} {cs : List Value} {w w' : World} (h : Lib.BuilderAt T e B b p cs w) (hb : Below w.heap.size w w') : Lib.BuilderAt T e B b p cs w' := by
 have hlt := h.lt
 obtain ⟨hB, v, hbk, hown, hne⟩ := h
 exact ⟨hB, v, (hb.block b hlt).trans hbk, owns_later hown hb, hne⟩
theorem IsB.later {B b : Nat} {l : List UInt8} {w w' : World} (h : IsB B b l w) (hb : Below w.heap.size w w') : IsB B b l w' := by
 rcases h with h | h
 ·exact .inl (builderAt_later h hb)
 ·exact .inr (builderAt_later h hb)
theorem IsB.alloc {B b : Nat} {l : List UInt8} {w : World} (h : IsB B b l w) (o : Obj) : IsB B b l (w.alloc o) := h.later ((Below.refl _ _).alloc (Nat.le_refl _) o)
theorem IsB.drew {B b : Nat} {l : List UInt8} {w : World} (h : IsB B b l w) : IsB B b l w.drew := h.later (Below.refl _ _).drew
theorem IsB.lt {B b : Nat} {l : List UInt8} {w : World} (h : IsB B b l w) : b < w.heap.size := by
 rcases h with h | h
 ·exact h.lt
 ·exact h.lt
def Tryz.laysLen_ren : Go.Shelf.Ren := ⟨fun | 170 => 176 | n => n, Tryz.laysJoin_ren.t, fun n => n⟩
theorem Tryz.laysLen : Go.Proofs.Lays.n170 Tryz.prog Tryz.laysLen_ren := { Tryz.laysJoin with f170 := Tryz.func176.trans (congrArg some (by kernel_rfl)) }
theorem bwrite_any (B b : Nat) (l t : List UInt8) (w : World) (h : IsB B b l w) (hl : l.length + t.length ≤ 140737488355328) (hB : B ≤ w.heap.size) :
  Calls Tryz.prog 175 #[.pointer (some ⟨b, 0, none⟩), .string (bs t)] w fun e w' => e = .returned (.tuple #[.int .i64 t.length, .nilIface]) ∧ IsB B b (l ++ t) w' ∧ Below B w w' := by
 have h1 := Any.Builder_WriteString { Tryz.laysJoin with } Tryz.extraJoin B b (Lib.byteCells l) (bs t) w h (by rw [Lib.byteCells_length, bs_size]; exact hl) hB
 refine h1.mono ?_
 rintro e w' ⟨rfl, h2, h3⟩
 refine ⟨by rw [bs_size], ?_, h3⟩
 have e1 : Lib.byteCells l ++ Lib.strCells (bs t) = Lib.byteCells (l ++ t) := by
  rw [show Lib.strCells (bs t) = Lib.byteCells t from rfl]
  simp [Lib.byteCells]
 rw [e1] at h2
 exact .inr h2
theorem bstring_any (B b : Nat) (l : List UInt8) (w : World) (h : IsB B b l w) (hB : B ≤ w.heap.size) :
  Calls Tryz.prog 177 #[.pointer (some ⟨b, 0, none⟩)] w fun e w' => e = .returned (.string (bs l)) ∧ Below B w w' :=
 Any.Builder_String_any { Tryz.laysJoin with } Tryz.extraJoin B b l w h hB
theorem blen_any (B b : Nat) (l : List UInt8) (w : World) (h : IsB B b l w) :
  Calls Tryz.prog 176 #[.pointer (some ⟨b, 0, none⟩)] w fun e w' => e = .returned (.int .i64 l.length) ∧ w = w' := by
 have h1 := Any.Builder_Len Tryz.laysLen B b (Lib.byteCells l) w h
 refine h1.mono ?_
 rintro e w' ⟨rfl, h2⟩
 exact ⟨by rw [Lib.byteCells_length], h2.symm⟩
end
section
open Go.RowKit Go.Lib
theorem join_one (x : List UInt8) : join [x] [32] = x := by simp [join]
theorem lineE_len (x : EventM) (h1 : x.2.1.length ≤ 1000000) (h2 : x.2.2.1.length ≤ 1000000) (h3 : NumE x) : (lineE x).length ≤ 3000000 := by
 unfold lineE
 split
 ·unfold wordsE
  have hk := kindW_len x.1
  have hv := txt_len x.2.2.2.1 x.2.2.2.2.1 h3.1 h3.2
  split
  ·rw [join_two, join_two, join_two, join_one]
   simp only [List.length_append, List.length_cons]
   omega
  ·rw [join_two, join_one]
   simp only [List.length_append, List.length_cons]
   omega
 ·simp
theorem cat_stop (x : EventM) (r : List EventM) (s : List UInt8) (h : 65536 < (s ++ (lineE x ++ [10])).length) : catGo (x :: r) s = ([], 6) := by
 unfold catGo
 rw [if_pos (by rw [List.append_assoc]; exact h)]
theorem cat_more (x : EventM) (r : List EventM) (s : List UInt8) (h : ¬ 65536 < (s ++ (lineE x ++ [10])).length) : catGo (x :: r) s = catGo r (s ++ (lineE x ++ [10])) := by
 rw [catGo, if_neg (by rw [List.append_assoc]; exact h), List.append_assoc]
theorem drop_cons (L : List EventM) (k : Nat) (h : k < L.length) : L.drop k = L.getD k noEv :: L.drop (k + 1) := by
 rw [List.drop_eq_getElem_cons h]
 simp [h]
set_option maxRecDepth 100000 in
set_option maxHeartbeats 4000000 in
theorem logprint_any (v : Value) (L : List EventM) (w : World) (hv : EvsS w v L) (hL : L.length ≤ 1000000) (hM : ModE L) (hT : Lib.Utf8Tabs 1 2 w) (hE : EvTab w) :
  Calls Tryz.prog 128 #[v] w fun e w' => e = .returned (.tuple #[.string (bs (writeL L).1), .int .i64 (writeL L).2]) ∧ Below w.heap.size w w' := by
 have HA := Lib.hid (evcontains_any v L w hv hL hM hT)
 have HP := Lib.hid (fun k (hk : k < L.length) w' (h : Below w.heap.size w w') => eprint_any (L.getD k noEv).1 (L.getD k noEv).2.1 (L.getD k noEv).2.2.1 (L.getD k noEv).2.2.2.1 (L.getD k noEv).2.2.2.2.1 (L.getD k noEv).2.2.2.2.2 (hM.at k hk).1 (hM.at k hk).2.1 (hM.at k hk).2.2.1 (hM.at k hk).2.2.2 w' (Utf8Tabs_below hT h) (hE.below h))
 have HLn := Lib.hid (fun k (hk : k < L.length) => lineE_len (L.getD k noEv) (hM.at k hk).1 (hM.at k hk).2.1 (hM.at k hk).2.2)
 have hen := enters_of Tryz.func172 (by kernel_rfl) rfl
 obtain ⟨p, c, rfl, hp⟩ := hv
 have HX := Lib.hid hp
 clear hp hT hE hM hen
 unfold writeL
 cases hall : L.all mayE with
 | false =>
  rw [hall] at HA
  rw [if_neg (by decide)]
  clear hall HP HLn
  go_enter Tryz.func128, Tryz.ntmps128
  go_wp2_with fail
  refine HA.out.mono ?_
  rintro e w1 ⟨rfl, hb1⟩
  go_wp2_with fail
  go_ret2
  exact ⟨rfl, hb1⟩
 | true =>
  rw [hall] at HA
  rw [if_pos rfl]
  clear hall
  obtain ⟨R, hR⟩ : ∃ R, catGo L [] = R := ⟨_, rfl⟩
  rw [hR]
  have HR0 := Lib.hid hR
  clear hR
  go_enter Tryz.func128, Tryz.ntmps128
  go_wp2_with fail
  refine HA.out.mono ?_
  rintro e w1 ⟨rfl, hb1⟩
  have HB1 := Lib.hid hb1
  have HN1 := Lib.hid (isB_new w1)
  clear hb1
  go_wp2_with fail
  go_loopw [13] (fun i wr => ∃ (k : Nat) (s : List UInt8), k ≤ L.length ∧ i = .int .i64 k ∧ s.length ≤ 65536 ∧ IsB w1.heap.size w1.heap.size s wr ∧ RowKit.Hid (catGo (L.drop k) s = R) ∧ Below w1.heap.size w1 wr) (fun i _ => L.length - (RowKit.intOf i).toNat)
  case atStart => exact ⟨0, [], Nat.zero_le _, rfl, Nat.zero_le _, HN1.out, Lib.hid (by rw [List.drop_zero]; exact HR0.out), (Below.refl _ _).alloc (Nat.le_refl _) _⟩
  case round =>
   obtain ⟨k, s, hk, rfl, hs, hB, HR, hbw⟩ := hrel
   have HIB := Lib.hid hB
   have hBz := hbw.size
   clear hB
   by_cases hk1 : k < L.length
   ·obtain ⟨g, rfl, hcell⟩ := HX.out k hk1
    have hd := drop_cons L k hk1
    have HG := Lib.hid HR.out
    rw [hd] at HG
    have hbo := below_next HB1.out hbw
    have HPk := Lib.hid (HP.out k hk1)
    have hln := HLn.out k hk1
    have hfr := HB1.out
    have a0 := cell_later hbo (hcell 0 _ rfl)
    have a1 := cell_later hbo (hcell 1 _ rfl)
    have a2 := cell_later hbo (hcell 2 _ rfl)
    have a3 := cell_later hbo (hcell 3 _ rfl)
    have a4 := cell_later hbo (hcell 4 _ rfl)
    have a5 := cell_later hbo (hcell 5 _ rfl)
    simp only [Nat.add_zero] at a0 a1 a2 a3 a4 a5
    clear hcell hd HR hfr
    obtain ⟨t, ht⟩ : ∃ t, L.getD k noEv = t := ⟨_, rfl⟩
    rw [ht] at HG HPk hln a0 a1 a2 a3 a4 a5
    obtain ⟨x1, x2, x3, x4, x5, x6⟩ := t
    simp only at HPk a0 a1 a2 a3 a4 a5
    have HBO := Lib.hid hbo
    have HBW := Lib.hid hbw
    obtain ⟨tl, htl⟩ : ∃ tl, lineE (x1, x2, x3, x4, x5, x6) = tl := ⟨_, rfl⟩
    have HST := Lib.hid (cat_stop (x1, x2, x3, x4, x5, x6) (L.drop (k + 1)) s)
    have HMO := Lib.hid (cat_more (x1, x2, x3, x4, x5, x6) (L.drop (k + 1)) s)
    rw [htl] at HPk hln HST HMO
    clear ht hbo hbw htl
    go_wp2_with fail
    refine (HPk.out _ (HBO.out.alloc HBO.out.size _)).mono ?_
    rintro e w2 ⟨rfl, hb2⟩
    have hw2 : Below wr.heap.size wr w2 := below_next ((Below.refl _ _).alloc (Nat.le_refl _) _) hb2
    have hB2 := HIB.out.later hw2
    have hz2 := hw2.size
    go_wp2_with fail
    refine (bwrite_any w1.heap.size w1.heap.size s (tl ++ [10]) _ hB2 (by simp; omega) (by omega)).mono ?_
    rintro e w3 ⟨rfl, hB3, hb3⟩
    obtain ⟨S', hS'⟩ : ∃ S', s ++ (tl ++ [10]) = S' := ⟨_, rfl⟩
    rw [hS'] at hB3 HST HMO
    have HB3 := Lib.hid hB3
    have hbw3 : Below w1.heap.size w1 w3 := (HBW.out.trans (hw2.mono hBz)).trans hb3
    have HBW3 := Lib.hid hbw3
    clear hB2 hb2 hS' hB3 hb3 hbw3
    by_cases hbig : 65536 < S'.length
    ·have HE : RowKit.Hid (R = ([], 6)) := Lib.hid (by rw [← HG.out]; exact HST.out hbig)
     have hdec : decide ((65536 : Int) < (S'.length : Int)) = true := decide_eq_true (by omega)
     clear HST HMO HG
     go_wp2_with fail
     refine (blen_any w1.heap.size w1.heap.size S' _ HB3.out).mono ?_
     rintro e w4 ⟨rfl, rfl⟩
     go_wp2_with fail
     go_ret2
     exact ⟨by rw [HE.out]; rfl, below_next HB1.out HBW3.out⟩
    ·have HE : RowKit.Hid (catGo (L.drop (k + 1)) S' = R) := Lib.hid (by rw [← HG.out]; exact (HMO.out hbig).symm)
     have hdec : decide ((65536 : Int) < (S'.length : Int)) = false := decide_eq_false (by omega)
     clear HST HMO HG
     go_wp2_with fail
     refine (blen_any w1.heap.size w1.heap.size S' _ HB3.out).mono ?_
     rintro e w4 ⟨rfl, rfl⟩
     go_wp2_with fail
     go_roundw
     case rel => exact ⟨k + 1, S', by omega, by go_num, by omega, HB3.out, HE, HBW3.out⟩
     case measure => simp [RowKit.intOf]; omega
   ·have hke : k = L.length := by omega
    subst hke
    have HE : RowKit.Hid (R = (s, 0)) := Lib.hid (by rw [← HR.out, List.drop_length]; rfl)
    clear HR
    go_wp2_with fail
    refine (bstring_any w1.heap.size w1.heap.size s _ HIB.out (by omega)).mono ?_
    rintro e w4 ⟨rfl, hb4⟩
    go_wp2_with fail
    go_ret2
    exact ⟨by rw [HE.out]; rfl, below_next HB1.out (hbw.trans hb4)⟩
end
section
open Go.RowKit Go.Lib
theorem rlog_any (l : List UInt8) (hl : l.length ≤ 1000000) (w : World) :
  Calls Tryz.prog 71 #[.string (bs l)] w fun e w' => ∃ v, e = .returned (.tuple #[v, .int .i64 (readL l).2.1, .int .i64 (readL l).2.2]) ∧ EvsS w' v (readL l).1 ∧ Below w.heap.size w w' :=
 rlog_of (fun t ht w' => reparse_any t ht w') l hl w
instance : DecidableEq EventM := inferInstance
end
section
open Go.RowKit Go.Lib
def sortK (L : List (List UInt8)) (k : Nat) : List (List UInt8) := sortedN (L.take k)
theorem sortK_next (L : List (List UInt8)) (k : Nat) (hk : k < L.length) : sortK L (k + 1) = if nameL (L.getD k []) then insN (L.getD k []) (sortK L k) else sortK L k := by
 have e : L.take (k + 1) = L.take k ++ [L.getD k []] := by
  rw [List.take_add_one]
  simp [hk]
 unfold sortK sortedN
 rw [e, List.foldl_append]
 rfl
theorem ins_len (x : List UInt8) : ∀ r, (insN x r).length ≤ r.length + 1
 | [] => by simp [insN]
 | y :: r => by
  unfold insN
  split
  ·have := ins_len x r
   simp only [List.length_cons]; omega
  ·split <;> simp only [List.length_cons] <;> omega
theorem sortK_len (L : List (List UInt8)) : ∀ k, k ≤ L.length → (sortK L k).length ≤ k
 | 0, _ => by simp [sortK, sortedN]
 | k + 1, h => by
  have ih := sortK_len L k (by omega)
  rw [sortK_next L k (by omega)]
  split
  ·have := ins_len (L.getD k []) (sortK L k); omega
  ·omega
theorem sortK_mem (L : List (List UInt8)) (k : Nat) : ∀ x ∈ sortK L k, x ∈ L := fun x hx => List.mem_of_mem_take ((sortedN_spec (L.take k)).2 x |>.1 hx).1
set_option maxRecDepth 100000 in
set_option maxHeartbeats 4000000 in
theorem rsorted_new (w : World) (v : Value) (L : List (List UInt8)) (h : Texts w v L) (hL : L.length ≤ 100000) (hs : ∀ x ∈ L, x.length ≤ 1000000) :
  Calls Tryz.prog 124 #[v] w fun e w' => ∃ v', e = .returned v' ∧ TextsS w' v' (sortedN L) ∧ (∀ g, v'.ownBlock = some g → w.heap.size ≤ g) ∧ Below w.heap.size w w' := by
 obtain ⟨p, cap, rfl, ht⟩ := h
 have HX := Lib.hid ht
 have HS := Lib.hid hs
 clear ht hs
 obtain ⟨i0, hi, hz0, hz1, hz2⟩ := info_parts info_str
 go_enter Tryz.func124, Tryz.ntmps124
 go_wp2_with fail
 go_loopw [3, 4] (fun out i wr => ∃ k : Nat, k ≤ L.length ∧ i = .int .i64 k ∧ TextsS wr out (sortK L k) ∧ Below w.heap.size w wr ∧ RowKit.Hid (∀ g, out.ownBlock = some g → w.heap.size ≤ g)) (fun _ i _ => L.length - (RowKit.intOf i).toNat)
 case atStart => exact ⟨0, Nat.zero_le _, rfl, ⟨_, _, rfl, Nat.le_refl _, fun j hj => absurd hj (Nat.not_lt_zero j)⟩, (Below.refl _ _).alloc (Nat.le_refl _) _, Lib.hid (fun g e => by simp [Value.ownBlock] at e; omega)⟩
 case round =>
  obtain ⟨k, hk, rfl, hout, hbw, HNW⟩ := hrel
  by_cases hlt : k < L.length
  ·obtain ⟨gl, rfl, hc⟩ := HX.out k hlt
   have hc' := cell_later hbw hc
   have hnx := sortK_next L k hlt
   have hxl := HS.out _ (getD_mem L k hlt)
   have hslen := sortK_len L k hk
   have hsl : ∀ x ∈ sortK L k, x.length ≤ 1000000 := fun x hx => HS.out x (sortK_mem L k x hx)
   have HI := Lib.hid (ris_any (L.getD k []) hxl)
   obtain ⟨x, hx⟩ : ∃ x, L.getD k [] = x := ⟨_, rfl⟩
   rw [hx] at hc' hnx hxl HI
   obtain ⟨S, hS⟩ : ∃ S, sortK L k = S := ⟨_, rfl⟩
   rw [hS] at hout hnx hslen hsl
   clear hc hx hS
   obtain ⟨go, co, rfl, hco, hcells⟩ := hout
   have HC := Lib.hid hcells
   have HSL := Lib.hid hsl
   clear hcells hsl
   cases hn : nameL x with
   | false =>
    rw [hn] at hnx HI
    simp only [Bool.false_eq_true, if_false] at hnx
    have HN := Lib.hid hnx
    clear hnx hn
    go_wp2_with fail
    refine (HI.out _).mono ?_
    rintro e w1 ⟨rfl, hb1⟩
    go_wp2_with fail
    go_roundw
    case rel => exact ⟨k + 1, by omega, by go_num, by rw [HN.out]; exact ⟨go, co, rfl, hco, fun j hj => cell_later hb1 (HC.out j hj)⟩, below_next hbw hb1, HNW⟩
    case measure => simp [RowKit.intOf]; omega
   | true =>
    rw [hn] at hnx HI
    simp only [if_true] at hnx
    obtain ⟨q1, q2, q3, q4⟩ := ins_at x S
    rw [q4] at hnx
    have HN := Lib.hid hnx
    have HQ := Lib.hid q2
    have HQ3 := Lib.hid q3
    generalize aheadN x S = A at *
    clear hnx hn q4 q2 q3
    go_wp2_with fail
    refine (HI.out _).mono ?_
    rintro e w1 ⟨rfl, hb1⟩
    have hc1 := cell_later hb1 hc'
    have HC1 : RowKit.Hid (∀ j, j < S.length → w1.cell? ⟨go, j, none⟩ = some (.string (bs (S.getD j [])))) := Lib.hid (fun j hj => cell_later hb1 (HC.out j hj))
    have hb01 := below_next hbw hb1
    clear HC HI hb1 hc'
    go_wp2_with fail
    go_loopw [5] (fun a wa => ∃ j : Nat, j ≤ A ∧ a = .int .i64 j ∧ Below w1.heap.size w1 wa) (fun a _ => A - (RowKit.intOf a).toNat)
    case atStart => exact ⟨0, Nat.zero_le _, rfl, Below.refl _ _⟩
    case round =>
     obtain ⟨j, hj, rfl, hba⟩ := hrel
     have hc2 := cell_later hba hc1
     by_cases hjA : j < A
     ·have hcj := cell_later hba (HC1.out j (by omega))
      have hlj := HSL.out _ (getD_mem S j (by omega))
      have hq := HQ.out j hjA
      have HLt := Lib.hid (rless_any (S.getD j []) x hlj hxl)
      have hq' : lexLess (runesU (S.getD j [])) (runesU x) = true := hq
      rw [hq'] at HLt
      generalize S.getD j [] = y at *
      have hjS : j < S.length := by omega
      clear hq hq'
      go_wp2_with fail
      go_region_held3 (fun w' => w'.cell? ⟨go, j, none⟩ = some (.string (bs y)) ∧ w'.cell? ⟨gl, k, none⟩ = some (.string (bs x)) ∧ Below wr.heap.size wr w')
       (first | ((repeat' (refine And.intro ?_ ?_)) <;> (first | (go_simp; done) | (go_grown; done))) | (go_split_ands; (repeat' (refine And.intro ?_ ?_)) <;> (first | exact cell_later (by assumption) (by assumption) | (refine below_next ?_ (by assumption); assumption))))
       (first | (go_at_call 137; refine (HLt.out _).mono ?_; rintro e w3 ⟨rfl, hb3⟩))
      go_wp2_with fail
      go_roundw
      case rel => exact ⟨j + 1, by omega, by go_num, by go_split_ands; exact below_next hba (by assumption)⟩
      case measure => simp [RowKit.intOf]; omega
     ·obtain rfl : j = A := by omega
      by_cases hAS : j < S.length
      ·have hcj := cell_later hba (HC1.out j hAS)
       have hlj := HSL.out _ (getD_mem S j hAS)
       have hq := HQ3.out hAS
       have HLt := Lib.hid (rless_any (S.getD j []) x hlj hxl)
       have hq' : lexLess (runesU (S.getD j [])) (runesU x) = false := hq
       rw [hq'] at HLt
       obtain ⟨y, hy⟩ : ∃ y, S.getD j [] = y := ⟨_, rfl⟩
       rw [hy] at HLt hcj
       have HY := Lib.hid hy
       clear hq hq' hy hlj
       go_wp2_with fail
       go_region_held3 (fun w' => w'.cell? ⟨go, j, none⟩ = some (.string (bs y)) ∧ w'.cell? ⟨gl, k, none⟩ = some (.string (bs x)) ∧ Below wr.heap.size wr w')
        (first | ((repeat' (refine And.intro ?_ ?_)) <;> (first | (go_simp; done) | (go_grown; done))) | (go_split_ands; (repeat' (refine And.intro ?_ ?_)) <;> (first | exact cell_later (by assumption) (by assumption) | (refine below_next ?_ (by assumption); assumption))))
        (first | (go_at_call 137; refine (HLt.out _).mono ?_; rintro e w3 ⟨rfl, hb3⟩))
       go_split_ands
       have hb3' : Below wr.heap.size wr w3 := by assumption
       have hb13 := below_next hba hb3'
       have k1 : w3.cell? ⟨go, j, none⟩ = some (.string (bs y)) := by assumption
       have k2 : w3.cell? ⟨gl, k, none⟩ = some (.string (bs x)) := by assumption
       by_cases hyx : y = x
       ·subst hyx
        have hN2 := HN.out
        rw [if_pos ⟨hAS, HY.out⟩] at hN2
        have HN2 := Lib.hid hN2
        clear hN2
        go_wp2_with fail
        go_region
        go_wp2_with fail
        go_roundw
        case rel => exact ⟨k + 1, by omega, by go_num, by rw [HN2.out]; exact ⟨go, co, rfl, hco, fun q hq => cell_later hb13.drew (HC1.out q hq)⟩, below_next hb01 hb13.drew, HNW⟩
        case measure => simp [RowKit.intOf]; omega
       ·have hN2 := HN.out
        rw [if_neg (fun h => hyx (HY.out.symm.trans h.2))] at hN2
        have HN2 := Lib.hid hN2
        have HC3 : RowKit.Hid (∀ q, q < S.length → w3.drew.cell? ⟨go, q, none⟩ = some (.string (bs (S.getD q [])))) := Lib.hid (fun q hq => cell_later hb13.drew (HC1.out q hq))
        have hyx' : (y == x) = false := beq_eq_false_iff_ne.2 hyx
        have hb03 := below_next hb01 hb13.drew
        have hjc : j ≤ co := by omega
        clear hN2
        go_wp2_with fail
        go_region
        go_wp2_with fail
        have k3 : w3.drew.cell? ⟨gl, k, none⟩ = some (.string (bs x)) := k2
        generalize w3.drew = wx at *
        have HTake : RowKit.Hid (∀ q, q < (S.take j).length → wx.cell? ⟨go, 0 + q, none⟩ = some (.string (bs ((S.take j).getD q [])))) := Lib.hid (fun q hq => by
         rw [List.length_take] at hq
         rw [Nat.zero_add, HC3.out q (by omega)]
         simp [List.getD, show q < j by omega])
        have HDrop : RowKit.Hid (∀ q, q < (S.drop j).length → wx.cell? ⟨go, j + q, none⟩ = some (.string (bs ((S.drop j).getD q [])))) := Lib.hid (fun q hq => by
         rw [List.length_drop] at hq
         rw [HC3.out (j + q) (by omega)]
         simp [List.getD, List.getElem?_drop])
        have hcne : ¬ (co = j) := by omega
        clear k1 k2 hb3 hb3' hb13
        go_region_held3 (fun w' => w'.cell? ⟨gl, k, none⟩ = some (.string (bs x)) ∧ Below wx.heap.size wx w')
         (first | exact ⟨cell_later (by assumption) k3, by assumption⟩ | (go_split_ands; first | exact ⟨cell_later (by assumption) k3, by assumption⟩ | exact ⟨cell_later (keep_alloc (by assumption) _) k3, keep_alloc (by assumption) _⟩ | exact ⟨cell_later (Below.drew (keep_alloc (by assumption) _)) k3, Below.drew (keep_alloc (by assumption) _)⟩) | exact ⟨k3, Below.drew (Below.refl _ _)⟩ | exact ⟨k3, Below.refl _ _⟩)
         (first
          | (((go_split_ands; refine step_append_own (by rfl) _ _ 22 (by rfl) wx.heap.size 9 i0 (.string ByteArray.empty) 1 16 Tryz.underlying22 hi hz0 hz1 hz2 rfl (by decide) (.slice (some ⟨_, 0, none⟩) 0 0) 0 [] (by rfl) (by first | exact own_empty (heap_alloc_new _ _) (Nat.le_refl _) | exact own_empty (heap2_new _ _ _) (Nat.le_succ _) | exact own_empty (heap2_old _ _ _) (Nat.le_refl _)) ⟨go, 0, none⟩ j co (strs (S.take j)) (by rfl) (by simp only [strs, List.length_map, List.length_take]; omega) (cells_from _ go 0 (S.take j) (fun q hq => cell_later (by assumption) (HTake.out q hq))) (ones_strs _) (by unfold maxLen; omega) (by omega) (Below.size (by assumption)) ?_); intro v4 w4 hown4 hgrow4 hnil4; have hbw4 := keep_grown (by assumption) (by first | exact own_empty (heap_alloc_new _ _) (Nat.le_refl _) | exact own_empty (heap2_new _ _ _) (Nat.le_succ _) | exact own_empty (heap2_old _ _ _) (Nat.le_refl _)) hgrow4))
          | (((go_split_ands; refine step_append_own (by rfl) _ _ 22 (by rfl) wx.heap.size 9 i0 (.string ByteArray.empty) 1 16 Tryz.underlying22 hi hz0 hz1 hz2 rfl (by decide) v4 (0 + j) _ (by rfl) (by first | exact hown4 | exact hown4.alloc _) _ 1 1 ([.string (bs x)]) (by rfl) (rfl) (by first | exact news_str' _ _ _ | exact news_block (by first | (rw [hgrow4.block _ (by first | (simp; done) | (simp; omega)) (by first | (simp [Value.ownBlock]; done) | (simp [Value.ownBlock]; omega))]; first | exact heap2_new _ _ _ | exact heap2_old _ _ _))) (ones_one _) (by unfold maxLen; omega) (by omega) (Below.size (by assumption)) ?_); intro v6 w6 hown6 hgrow6 hnil6; have hbw6 := keep_grown (by assumption) (by first | exact hown4 | exact hown4.alloc _) hgrow6))
          | (((go_split_ands; refine step_append_own (by rfl) _ _ 22 (by rfl) wx.heap.size 9 i0 (.string ByteArray.empty) 1 16 Tryz.underlying22 hi hz0 hz1 hz2 rfl (by decide) v6 (0 + j + 1) _ (by rfl) (hown6) ⟨go, j, none⟩ (S.length - j) (co - j) (strs (S.drop j)) (by rfl) (by simp only [strs, List.length_map, List.length_drop, Nat.mul_one]) (cells_from _ go j (S.drop j) (fun q hq => cell_later (by assumption) (HDrop.out q hq))) (ones_strs _) (by unfold maxLen; omega) (by omega) (Below.size (by assumption)) ?_); intro v8 w8 hown8 hgrow8 hnil8; have hbw8 := keep_grown (by assumption) (hown6) hgrow8)))
        all_goals
         go_split_ands
         have hbf : Below w.heap.size w w8 := below_next hb03 (by assumption)
         have hn6 : v6 ≠ .slice none 0 0 := fun h => by have := hnil6.1 h; simp at this
         have hn8 : v8 ≠ .slice none 0 0 := fun h => hn6 (hnil8.1 h).1
         have hcat : [] ++ strs (S.take j) ++ [.string (bs x)] ++ strs (S.drop j) = strs (S.take j ++ x :: S.drop j) := by simp [strs]
         have hlen : 0 + j + 1 + (S.length - j) = (S.take j ++ x :: S.drop j).length := by
          rw [List.length_append, List.length_cons, List.length_take, List.length_drop]
          omega
         rw [hcat, hlen] at hown8
         have HNew : RowKit.Hid (∀ g, v8.ownBlock = some g → w.heap.size ≤ g) := Lib.hid (fun g e => Nat.le_trans (Below.size hb03) (hown8.lt g e).1)
         have HO := Lib.hid (own_textsS hown8 hn8)
         clear hown8 hn8 hn6 hnil8 hnil6 hnil4
         go_wp2_with fail
         go_roundw
         case rel => exact ⟨k + 1, by omega, by go_num, by rw [HN2.out]; exact HO.out, hbf, HNew⟩
         case measure => simp [RowKit.intOf]; omega
      ·obtain rfl : j = S.length := by omega
       have hN2 := HN.out
       rw [if_neg (fun h => hAS h.1), List.take_length, List.drop_length] at hN2
       have HN2 := Lib.hid hN2
       clear hN2 hAS hjA
       go_wp2_with fail
       go_quiet (fail)
       have hbq : Below w1.heap.size w1 (wr.drewN nq) := hba.trans ⟨rfl, rfl, rfl, Nat.le_refl _, fun _ _ => rfl⟩
       generalize wr.drewN nq = wq at *
       go_wp2_with fail
       go_quiet (fail)
       have hbz : Below w1.heap.size w1 (wq.drewN nq) := hbq.trans ⟨rfl, rfl, rfl, Nat.le_refl _, fun _ _ => rfl⟩
       generalize wq.drewN nq = wx at *
       go_wp2_with fail
       have hb03 := below_next hb01 hbz
       have HTake : RowKit.Hid (∀ q, q < S.length → wx.cell? ⟨go, 0 + q, none⟩ = some (.string (bs (S.getD q [])))) := Lib.hid (fun q hq => by
        rw [Nat.zero_add]
        exact cell_later hbz (HC1.out q hq))
       have k3 : wx.cell? ⟨gl, k, none⟩ = some (.string (bs x)) := cell_later hbz hc1
       clear hba hbq hbz hc2
       by_cases hcj : co = S.length
       ·subst hcj
        go_region_held3 (fun w' => w'.cell? ⟨gl, k, none⟩ = some (.string (bs x)) ∧ Below wx.heap.size wx w')
         (first | exact ⟨cell_later (by assumption) k3, by assumption⟩ | (go_split_ands; first | exact ⟨cell_later (by assumption) k3, by assumption⟩ | exact ⟨cell_later (keep_alloc (by assumption) _) k3, keep_alloc (by assumption) _⟩ | exact ⟨cell_later (Below.drew (keep_alloc (by assumption) _)) k3, Below.drew (keep_alloc (by assumption) _)⟩) | exact ⟨k3, Below.drew (Below.refl _ _)⟩ | exact ⟨k3, Below.refl _ _⟩)
         (first
          | (((go_split_ands; refine step_append_own (by rfl) _ _ 22 (by rfl) wx.heap.size 9 i0 (.string ByteArray.empty) 1 16 Tryz.underlying22 hi hz0 hz1 hz2 rfl (by decide) (.slice (some ⟨_, 0, none⟩) 0 0) 0 [] (by rfl) (by first | exact own_empty (heap_alloc_new _ _) (Nat.le_refl _) | exact own_empty (heap2_new _ _ _) (Nat.le_succ _) | exact own_empty (heap2_old _ _ _) (Nat.le_refl _)) ⟨go, 0, none⟩ S.length S.length (strs S) (by rfl) (by simp only [strs, List.length_map, Nat.mul_one]) (cells_from _ go 0 S (fun q hq => cell_later (by assumption) (HTake.out q hq))) (ones_strs _) (by unfold maxLen; omega) (by omega) (Below.size (by assumption)) ?_); intro v4 w4 hown4 hgrow4 hnil4; have hbw4 := keep_grown (by assumption) (by first | exact own_empty (heap_alloc_new _ _) (Nat.le_refl _) | exact own_empty (heap2_new _ _ _) (Nat.le_succ _) | exact own_empty (heap2_old _ _ _) (Nat.le_refl _)) hgrow4))
          | (((go_split_ands; refine step_append_own (by rfl) _ _ 22 (by rfl) wx.heap.size 9 i0 (.string ByteArray.empty) 1 16 Tryz.underlying22 hi hz0 hz1 hz2 rfl (by decide) v4 (0 + S.length) _ (by rfl) (by first | exact hown4 | exact hown4.alloc _) _ 1 1 ([.string (bs x)]) (by rfl) (rfl) (by first | exact news_str' _ _ _ | exact news_block (by first | (rw [hgrow4.block _ (by first | (simp; done) | (simp; omega)) (by first | (simp [Value.ownBlock]; done) | (simp [Value.ownBlock]; omega))]; first | exact heap2_new _ _ _ | exact heap2_old _ _ _))) (ones_one _) (by unfold maxLen; omega) (by omega) (Below.size (by assumption)) ?_); intro v6 w6 hown6 hgrow6 hnil6; have hbw6 := keep_grown (by assumption) (by first | exact hown4 | exact hown4.alloc _) hgrow6))
          | (((go_split_ands; refine step_append_own (by rfl) _ _ 22 (by rfl) wx.heap.size 9 i0 (.string ByteArray.empty) 1 16 Tryz.underlying22 hi hz0 hz1 hz2 rfl (by decide) v6 (0 + S.length + 1) _ (by rfl) (hown6) ⟨go, 0, none⟩ 0 0 ([]) (by rfl) (rfl) (fun j u hj => by simp at hj) (fun u hu => by simp at hu) (by unfold maxLen; omega) (by omega) (Below.size (by assumption)) ?_); intro v8 w8 hown8 hgrow8 hnil8; have hbw8 := keep_grown (by assumption) (hown6) hgrow8)))
        all_goals
         go_split_ands
         have hbf : Below w.heap.size w w8 := below_next hb03 (by assumption)
         have hn6 : v6 ≠ .slice none 0 0 := fun h => by have := hnil6.1 h; simp at this
         have hn8 : v8 ≠ .slice none 0 0 := fun h => hn6 (hnil8.1 h).1
         have hcat : [] ++ strs S ++ [.string (bs x)] ++ [] = strs (S ++ [x]) := by simp [strs]
         have hlen : 0 + S.length + 1 + 0 = (S ++ [x]).length := by
          rw [List.length_append]
          simp
         rw [hcat, hlen] at hown8
         have HNew : RowKit.Hid (∀ g, v8.ownBlock = some g → w.heap.size ≤ g) := Lib.hid (fun g e => Nat.le_trans (Below.size hb03) (hown8.lt g e).1)
         have HO := Lib.hid (own_textsS hown8 hn8)
         clear hown8 hn8 hn6 hnil8 hnil6 hnil4
         go_wp2_with fail
         go_roundw
         case rel => exact ⟨k + 1, by omega, by go_num, by rw [HN2.out]; exact HO.out, hbf, HNew⟩
         case measure => simp [RowKit.intOf]; omega
       ·have hcne : ¬ (co = S.length) := hcj
        go_region_held3 (fun w' => w'.cell? ⟨gl, k, none⟩ = some (.string (bs x)) ∧ Below wx.heap.size wx w')
         (first | exact ⟨cell_later (by assumption) k3, by assumption⟩ | (go_split_ands; first | exact ⟨cell_later (by assumption) k3, by assumption⟩ | exact ⟨cell_later (keep_alloc (by assumption) _) k3, keep_alloc (by assumption) _⟩ | exact ⟨cell_later (Below.drew (keep_alloc (by assumption) _)) k3, Below.drew (keep_alloc (by assumption) _)⟩) | exact ⟨k3, Below.drew (Below.refl _ _)⟩ | exact ⟨k3, Below.refl _ _⟩)
         (first
          | (((go_split_ands; refine step_append_own (by rfl) _ _ 22 (by rfl) wx.heap.size 9 i0 (.string ByteArray.empty) 1 16 Tryz.underlying22 hi hz0 hz1 hz2 rfl (by decide) (.slice (some ⟨_, 0, none⟩) 0 0) 0 [] (by rfl) (by first | exact own_empty (heap_alloc_new _ _) (Nat.le_refl _) | exact own_empty (heap2_new _ _ _) (Nat.le_succ _) | exact own_empty (heap2_old _ _ _) (Nat.le_refl _)) ⟨go, 0, none⟩ S.length co (strs S) (by rfl) (by simp only [strs, List.length_map, Nat.mul_one]) (cells_from _ go 0 S (fun q hq => cell_later (by assumption) (HTake.out q hq))) (ones_strs _) (by unfold maxLen; omega) (by omega) (Below.size (by assumption)) ?_); intro v4 w4 hown4 hgrow4 hnil4; have hbw4 := keep_grown (by assumption) (by first | exact own_empty (heap_alloc_new _ _) (Nat.le_refl _) | exact own_empty (heap2_new _ _ _) (Nat.le_succ _) | exact own_empty (heap2_old _ _ _) (Nat.le_refl _)) hgrow4))
          | (((go_split_ands; refine step_append_own (by rfl) _ _ 22 (by rfl) wx.heap.size 9 i0 (.string ByteArray.empty) 1 16 Tryz.underlying22 hi hz0 hz1 hz2 rfl (by decide) v4 (0 + S.length) _ (by rfl) (by first | exact hown4 | exact hown4.alloc _) _ 1 1 ([.string (bs x)]) (by rfl) (rfl) (by first | exact news_str' _ _ _ | exact news_block (by first | (rw [hgrow4.block _ (by first | (simp; done) | (simp; omega)) (by first | (simp [Value.ownBlock]; done) | (simp [Value.ownBlock]; omega))]; first | exact heap2_new _ _ _ | exact heap2_old _ _ _))) (ones_one _) (by unfold maxLen; omega) (by omega) (Below.size (by assumption)) ?_); intro v6 w6 hown6 hgrow6 hnil6; have hbw6 := keep_grown (by assumption) (by first | exact hown4 | exact hown4.alloc _) hgrow6))
          | (((go_split_ands; refine step_append_own (by rfl) _ _ 22 (by rfl) wx.heap.size 9 i0 (.string ByteArray.empty) 1 16 Tryz.underlying22 hi hz0 hz1 hz2 rfl (by decide) v6 (0 + S.length + 1) _ (by rfl) (hown6) ⟨go, S.length, none⟩ 0 (co - S.length) ([]) (by rfl) (rfl) (fun j u hj => by simp at hj) (fun u hu => by simp at hu) (by unfold maxLen; omega) (by omega) (Below.size (by assumption)) ?_); intro v8 w8 hown8 hgrow8 hnil8; have hbw8 := keep_grown (by assumption) (hown6) hgrow8)))
        all_goals
         go_split_ands
         have hbf : Below w.heap.size w w8 := below_next hb03 (by assumption)
         have hn6 : v6 ≠ .slice none 0 0 := fun h => by have := hnil6.1 h; simp at this
         have hn8 : v8 ≠ .slice none 0 0 := fun h => hn6 (hnil8.1 h).1
         have hcat : [] ++ strs S ++ [.string (bs x)] ++ [] = strs (S ++ [x]) := by simp [strs]
         have hlen : 0 + S.length + 1 + 0 = (S ++ [x]).length := by
          rw [List.length_append]
          simp
         rw [hcat, hlen] at hown8
         have HNew : RowKit.Hid (∀ g, v8.ownBlock = some g → w.heap.size ≤ g) := Lib.hid (fun g e => Nat.le_trans (Below.size hb03) (hown8.lt g e).1)
         have HO := Lib.hid (own_textsS hown8 hn8)
         clear hown8 hn8 hn6 hnil8 hnil6 hnil4
         go_wp2_with fail
         go_roundw
         case rel => exact ⟨k + 1, by omega, by go_num, by rw [HN2.out]; exact HO.out, hbf, HNew⟩
         case measure => simp [RowKit.intOf]; omega
  ·have hke : k = L.length := by omega
   subst hke
   have e : sortK L L.length = sortedN L := by unfold sortK; rw [List.take_length]
   rw [e] at hout
   have HO := Lib.hid hout
   clear hout e
   go_wp2_with fail
   go_ret
   exact ⟨_, rfl, HO.out, HNW.out, hbw⟩
theorem rsorted_any (w : World) (v : Value) (L : List (List UInt8)) (h : Texts w v L) (hL : L.length ≤ 100000) (hs : ∀ x ∈ L, x.length ≤ 1000000) :
  Calls Tryz.prog 124 #[v] w fun e w' => ∃ v', e = .returned v' ∧ TextsS w' v' (sortedN L) ∧ Below w.heap.size w w' :=
 (rsorted_new w v L h hL hs).mono (fun _ _ ⟨v', h1, h2, _, h3⟩ => ⟨v', h1, h2, h3⟩)
end
section
open Go.RowKit Go.Lib Go.Maps
abbrev EntR := Value × Value
def noR : EntR := (.slice none 0 0, .slice none 0 0)
def noQ : DraftM × EntR := (noD, noR)
def wtc (p : DraftM × EntR) : List Value := [.int .i64 0, .int .i64 p.1.fate, p.2.1]
def nmd (d : DraftM) : List Value := [.string (bs d.nm)]
def lnd (d : DraftM) : List Value := [.int .i64 d.ln]
def opd (d : DraftM) : List Value := [.bool d.op]
def ksd (e : EntR) : List Value := [e.2]
theorem wtc_len (p : DraftM × EntR) : (wtc p).length = 3 := rfl
theorem nmd_strs (L : List DraftM) : L.flatMap nmd = strs (namesD L) := by
 induction L with
 | nil => rfl
 | cons d L ih => rw [List.flatMap_cons, ih]; rfl
structure WI (w : World) (B gm : Nat) (L : List DraftM) (vT vN vK vL vO : Value) (E : List EntR) : Prop where
 bx : Blk w gm 146 [.slice none 0 0, .slice none 0 0, vT, vN, vK, vL, vO]
 base : B ≤ gm
 len : E.length = L.length
 rT : w.ownsRow B 47 3 vT L.length ((L.zip E).flatMap wtc)
 rN : w.ownsRow B 9 1 vN L.length (L.flatMap nmd)
 rK : w.ownsRow B 22 1 vK L.length (E.flatMap ksd)
 rL : w.ownsRow B 3 1 vL L.length (L.flatMap lnd)
 rO : w.ownsRow B 4 1 vO L.length (L.flatMap opd)
 ops : ∀ i, i < L.length → w.ownsRow B 51 4 (E.getD i noR).1 (L.getD i noD).ops.length ((L.getD i noD).ops.flatMap opc)
 ks : ∀ i, i < L.length → w.ownsRow B 9 1 (E.getD i noR).2 (L.getD i noD).ks.length (strs (L.getD i noD).ks)
 neo : ∀ i j, i < j → j < L.length → ∀ g, (E.getD i noR).1.ownBlock = some g → (E.getD j noR).1.ownBlock ≠ some g
 nek : ∀ i j, i < j → j < L.length → ∀ g, (E.getD i noR).2.ownBlock = some g → (E.getD j noR).2.ownBlock ≠ some g
 nkn : ∀ i, i < L.length → ∀ g, (E.getD i noR).2.ownBlock = some g → vN.ownBlock ≠ some g
theorem WI.below {w w' : World} {B gm : Nat} {L : List DraftM} {vT vN vK vL vO : Value} {E : List EntR} (h : WI w B gm L vT vN vK vL vO E) (hb : Below w.heap.size w w') : WI w' B gm L vT vN vK vL vO E :=
 ⟨h.bx.later hb, h.base, h.len, owns_later h.rT hb, owns_later h.rN hb, owns_later h.rK hb, owns_later h.rL hb, owns_later h.rO hb, fun i hi => owns_later (h.ops i hi) hb, fun i hi => owns_later (h.ks i hi) hb, h.neo, h.nek, h.nkn⟩
theorem wi_new (w : World) {B : Nat} (hB : B ≤ w.heap.size) : WI (w.alloc (.cells #[.slice none 0 0, .slice none 0 0, .slice none 0 0, .slice none 0 0, .slice none 0 0, .slice none 0 0, .slice none 0 0] 146)) B w.heap.size [] (.slice none 0 0) (.slice none 0 0) (.slice none 0 0) (.slice none 0 0) (.slice none 0 0) [] :=
 ⟨Blk.new w _ [.slice none 0 0, .slice none 0 0, .slice none 0 0, .slice none 0 0, .slice none 0 0, .slice none 0 0, .slice none 0 0], hB, rfl, World.ownsRow_nil _ _ _ _, World.ownsRow_nil _ _ _ _, World.ownsRow_nil _ _ _ _, World.ownsRow_nil _ _ _ _, World.ownsRow_nil _ _ _ _,
  fun i hi => absurd hi (Nat.not_lt_zero i), fun i hi => absurd hi (Nat.not_lt_zero i), fun _i j _ hj => absurd hj (Nat.not_lt_zero j), fun _i j _ hj => absurd hj (Nat.not_lt_zero j), fun i hi => absurd hi (Nat.not_lt_zero i)⟩
theorem own_cell {α : Type} {f : α → List Value} {s : Nat} (d : α) (hf : ∀ x, (f x).length = s) {w : World} {B n : Nat} {e : TypeId} {v : Value} {L : List α} (h : w.ownsRow B e s v n (L.flatMap f)) (hn : L.length = n) (j : Nat) (hj : j < n) : ∃ g cap, v = .slice (some ⟨g, 0, none⟩) n cap ∧ (∀ i u, (f (L.getD j d))[i]? = some u → w.cell? ⟨g, j * s + i, none⟩ = some u) ∧ ∀ i, w.frozen? ⟨g, i, none⟩ = false := by
 subst hn
 obtain ⟨p, cap, hv, hc⟩ := own_sls d hf h
 obtain ⟨g, rfl, hg⟩ := hc j hj
 subst hv
 exact ⟨g, cap, rfl, hg, fun i => h.frozenAt i⟩
def atI (L : List DraftM) (s : List UInt8) : Int := if atD L s < L.length then (atD L s : Nat) else -1
theorem atI_at (L : List DraftM) (s : List UInt8) (k : Nat) (hk : k < L.length) (h : isAt s (L.getD k noD) = true) (hb : ∀ j, j < k → isAt s (L.getD j noD) = false) : atI L s = (k : Nat) := by
 have e : atD L s = k := by
  unfold atD
  rw [List.findIdx_eq hk]
  refine ⟨by simpa [hk] using h, fun j hj => ?_⟩
  have := hb j hj
  have hjl : j < L.length := by omega
  simpa [hjl] using this
 unfold atI
 rw [e, if_pos hk]
theorem atI_no (L : List DraftM) (s : List UInt8) (hb : ∀ j, j < L.length → isAt s (L.getD j noD) = false) : atI L s = -1 := by
 unfold atI
 refine if_neg (fun hlt => ?_)
 obtain ⟨o1, o2⟩ := atD_spec L s hlt
 have := hb _ hlt
 unfold isAt at this
 rw [o1, o2] at this
 simp at this
set_option maxRecDepth 100000 in
set_option maxHeartbeats 1000000 in
theorem rat10_any {w : World} {B gm : Nat} {L : List DraftM} {vT vN vK vL vO : Value} {E : List EntR} (s : List UInt8) (h : WI w B gm L vT vN vK vL vO E) (hL : L.length ≤ 1000) :
  Calls Tryz.prog 210 #[.pointer (some ⟨gm, 0, none⟩), .string (bs s)] w fun e w' => e = .returned (.int .i64 (atI L s)) ∧ w' = w := by
 obtain ⟨pO, cO, rfl⟩ := owns_form h.rO
 obtain ⟨pN, cN, rfl⟩ := owns_form h.rN
 have hb4 := h.bx.cell 6 rfl
 have hb1 := h.bx.cell 3 rfl
 have HO := Lib.hid h.rO
 have HN := Lib.hid h.rN
 have HY := Lib.hid (atI_at L s)
 have HZ := Lib.hid (atI_no L s)
 obtain ⟨r, hr⟩ : ∃ r, atI L s = r := ⟨_, rfl⟩
 rw [hr] at HY HZ ⊢
 clear h hr
 go_enter Tryz.func210, Tryz.ntmps210
 go_wp2_with fail
 go_loopw [5] (fun i wr => ∃ k : Nat, k ≤ L.length ∧ i = .int .i64 k ∧ (∀ j, j < k → isAt s (L.getD j noD) = false) ∧ wr = w) (fun i _ => L.length - (RowKit.intOf i).toNat)
 case atStart => exact ⟨0, Nat.zero_le _, rfl, fun j hj => absurd hj (Nat.not_lt_zero j), rfl⟩
 case round =>
  obtain ⟨k, hk, rfl, hno, rfl⟩ := hrel
  have HNo := Lib.hid hno
  clear hno
  by_cases hk1 : k < L.length
  ·obtain ⟨gO, c1, e1, a1, -⟩ := own_cell (f := opd) (s := 1) noD (fun _ => rfl) HO.out rfl k hk1
   obtain ⟨gN, c2, e2, a2, -⟩ := own_cell (f := nmd) (s := 1) noD (fun _ => rfl) HN.out rfl k hk1
   injection e1 with e1 _ e1'
   injection e2 with e2 _ e2'
   subst e1 e2 e1' e2'
   have b1 := a1 0 _ rfl
   have b2 := a2 0 _ rfl
   simp only [Nat.mul_one, Nat.add_zero] at b1 b2
   obtain ⟨d, hd⟩ : ∃ d, L.getD k noD = d := ⟨_, rfl⟩
   have HIs : RowKit.Hid (∀ b, isAt s d = b → isAt s (L.getD k noD) = b) := Lib.hid (fun b hb => by rw [hd]; exact hb)
   rw [hd] at b1 b2
   clear hd a1 a2
   cases ho : d.op with
   | false =>
    rw [ho] at b1
    have HF := Lib.hid (HIs.out false (by unfold isAt; rw [ho]; rfl))
    clear HIs ho
    go_wp2_with fail
    go_roundw
    case rel => exact ⟨k + 1, by omega, by go_num, fun j hj => by
     rcases Nat.lt_or_ge j k with h1 | h1
     ·exact HNo.out j h1
     ·have e : j = k := by omega
      rw [e]; exact HF.out, by first | rfl | trivial⟩
    case measure => simp [RowKit.intOf]; omega
   | true =>
    rw [ho] at b1
    by_cases hs : d.nm = s
    ·have HT := Lib.hid (HY.out k hk1 (HIs.out true (by unfold isAt; rw [ho, hs]; simp)) HNo.out)
     rw [hs] at b2
     clear HIs ho hs
     go_wp2_with fail
     go_ret
     exact ⟨by rw [HT.out]; rfl, rfl⟩
    ·have HF := Lib.hid (HIs.out false (by unfold isAt; rw [ho]; simp [hs]))
     have hsb : (d.nm == s) = false := by simpa using hs
     clear HIs ho
     go_wp2_with fail
     go_roundw
     case rel => exact ⟨k + 1, by omega, by go_num, fun j hj => by
      rcases Nat.lt_or_ge j k with h1 | h1
      ·exact HNo.out j h1
      ·have e : j = k := by omega
       rw [e]; exact HF.out, by first | rfl | trivial⟩
     case measure => simp [RowKit.intOf]; omega
  ·have hke : k = L.length := by omega
   subst hke
   have HT := Lib.hid (HZ.out HNo.out)
   go_wp2_with fail
   go_ret
   exact ⟨by rw [HT.out]; rfl, rfl⟩
theorem keys_take (L : List DraftM) (k : Nat) (hk : k < L.length) : keysD (L.take (k + 1)) = keysD (L.take k) ++ (L.getD k noD).ks := by
 rw [List.take_succ_eq_append_getElem hk, keys_snoc]
 simp [hk]
theorem keys_few (L : List DraftM) (h : ∀ d ∈ L, d.ks.length ≤ 20) : (keysD L).length ≤ 20 * L.length := by
 induction L with
 | nil => simp [keysD]
 | cons d L ih =>
  have h1 := ih (fun x hx => h x (List.mem_cons_of_mem _ hx))
  have h2 := h d (List.mem_cons_self ..)
  have e : keysD (d :: L) = d.ks ++ keysD L := rfl
  rw [e, List.length_append, List.length_cons]
  omega
theorem strs_app (A B : List (List UInt8)) : strs A ++ strs B = strs (A ++ B) := by simp [strs]
set_option maxRecDepth 100000 in
set_option maxHeartbeats 2000000 in
theorem rkeys10_any {w : World} {B gm : Nat} {L : List DraftM} {vT vN vK vL vO : Value} {E : List EntR} (h : WI w B gm L vT vN vK vL vO E) (hL : L.length ≤ 1000) (hK : ∀ d ∈ L, d.ks.length ≤ 20) :
  Calls Tryz.prog 125 #[.pointer (some ⟨gm, 0, none⟩)] w fun e w' => ∃ v', e = .returned v' ∧ w'.ownsRow w.heap.size 9 1 v' (keysD L).length (strs (keysD L)) ∧ Below w.heap.size w w' := by
 have HW := Lib.hid h
 have hel := h.len
 obtain ⟨pK, cK, rfl⟩ := owns_form h.rK
 have hb2 := h.bx.cell 4 rfl
 have hlt := h.bx.lt
 have HR := Lib.hid h.rK
 have HFew := Lib.hid (fun k (hk : k ≤ L.length) => keys_few (L.take k) (fun d hd => hK d (List.mem_of_mem_take hd)))
 have HFe2 := Lib.hid (fun k (hk : k < L.length) => hK _ (getD_memD L k hk))
 have HOE := Lib.hid (own_empty (heap_alloc_new w (.cells #[] 9)) (Nat.le_refl _))
 obtain ⟨i0, hi, hz0, hz1, hz2⟩ := info_parts info_str
 have HEl := Lib.hid hel
 clear h hK hel
 go_enter Tryz.func125, Tryz.ntmps125
 go_wp2_with fail
 go_loopw [3, 4] (fun out i wr => ∃ k : Nat, k ≤ L.length ∧ i = .int .i64 k ∧ wr.ownsRow w.heap.size 9 1 out (keysD (L.take k)).length (strs (keysD (L.take k))) ∧ Below w.heap.size w wr) (fun _ i _ => L.length - (RowKit.intOf i).toNat)
 case atStart => exact ⟨0, Nat.zero_le _, rfl, HOE.out, (Below.refl _ _).alloc (Nat.le_refl _) _⟩
 case round =>
  obtain ⟨k, hk, rfl, hown, hbw⟩ := hrel
  have hb2' := cell_later hbw hb2
  have hfl := HFew.out k hk
  rw [List.length_take] at hfl
  by_cases hk1 : k < L.length
  ·obtain ⟨gK, c1, e1, a1, -⟩ := own_cell (f := ksd) (s := 1) noR (fun _ => rfl) (owns_later HR.out hbw) HEl.out k hk1
   injection e1 with e1 _ e1'
   subst e1 e1'
   have b1 := a1 0 _ rfl
   simp only [Nat.mul_one, Nat.add_zero] at b1
   have hks := owns_later (HW.out.ks k hk1) hbw
   have hkf := HFe2.out k hk1
   have HNx := Lib.hid (keys_take L k hk1)
   obtain ⟨d, hd⟩ : ∃ d, (L.getD k noD).ks = d := ⟨_, rfl⟩
   obtain ⟨⟨vo, vk⟩, he⟩ : ∃ e, E.getD k noR = e := ⟨_, rfl⟩
   rw [hd, he] at hks
   rw [he] at b1
   rw [hd] at HNx hkf
   dsimp only at hks b1
   clear a1 hd he
   rcases id hks.2 with ⟨rfl, hn0⟩ | ⟨g, cap, cur, rfl, -⟩
   ·have hd0 : d = [] := List.eq_nil_of_length_eq_zero hn0
    subst hd0
    go_wp2_with (at_builtin; refine wpList_append_own_none rfl _ _ 22 rfl w.heap.size 9 i0 1 Tryz.underlying22 hi _ _ _ rfl hown rfl ?_)
    go_wp2_with fail
    go_roundw
    case rel => exact ⟨k + 1, by omega, by go_num, by rw [HNx.out, List.append_nil]; exact hown, hbw⟩
    case measure => simp [RowKit.intOf]; omega
   ·have hcs := hks.cells (g := g) rfl
    go_wp2_with (at_builtin; refine wpList_append_own _ rfl _ _ 22 rfl w.heap.size 9 i0 (.string ByteArray.empty) 1 16 Tryz.underlying22 hi hz0 hz1 hz2 rfl (by decide) _ _ _ rfl hown ⟨g, 0, none⟩ d.length cap (strs d) rfl (by simp [strs]) hcs (ones_strs _) (by unfold maxLen; omega) (by omega) hbw.size ?_)
    intro v4 w4 hown4 hgrow hnil
    have hb4 : Below w.heap.size w w4 := hbw.grown hgrow hbw.size (fun q hq => (hown.lt q hq).1)
    rw [strs_app, ← List.length_append, ← HNx.out] at hown4
    clear hown hgrow hnil hks hcs hbw
    go_wp2_with fail
    go_roundw
    case rel => exact ⟨k + 1, by omega, by go_num, hown4, hb4⟩
    case measure => simp [RowKit.intOf]; omega
  ·have hke : k = L.length := by omega
   subst hke
   rw [List.take_length] at hown
   have HO := Lib.hid hown
   clear hown
   go_wp2_with fail
   go_ret
   exact ⟨_, rfl, HO.out, hbw⟩
end
end Go.Proofs.YtmgchjddpmmglaaGreatDoor
