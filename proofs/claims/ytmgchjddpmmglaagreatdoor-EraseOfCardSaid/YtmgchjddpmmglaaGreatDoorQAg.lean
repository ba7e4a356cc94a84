/-
  The walk of layer 8 (log): what a text is read as. Conditions: unicode/utf8's two tables, and event.words, hold what their initialisers lay, internal/bytealg.MaxLen holds a number; texts of at most 1,000,000 bytes.
  Layer 2 (name) in plain words: texts' names in order, as the program makes them (sorted, then no two alike) and as the reference does (put in one by one); no program in sight. No conditions.
  Layer 9 (table) in plain words: lists of names in order, where a name stands in one, and numbers of names; no program in sight. No conditions.
  Layer 11 (hist) in plain words: operations, transactions, histories; which may be; no program in sight. No conditions.
  A history in memory: operations, transactions, histories as cells. No conditions.
  DERIVED: THE SHELF's CONTRACTS AT THIS DUMP, IN PLAIN WORDS (tools/lay-plain.mjs out of 'TrydShelfO4.lean', which tools/lay-shelf.mjs wrote): THE SAME DECLARATIONS UNDER THE SAME NAMES: 'import', 'namespace', 'open', 'def', 'theorem' AND NOTHING ELSE: no command of the shelf's: FOR A HAND-IN. Each laying: the table of numbers ('.._ren') and one theorem, a field a fact of the dump's own or the kernel's comparison; each contract: ONE APPLICATION.
  The walk of layer 2 (name): texts' names in order, in the program. No conditions but that unicode/utf8's two tables are as their initialisers lay them.
-/
import Derived.Test.YtmgchjddpmmglaaGreatDoorQxEvR
import Derived.Laws.OwnMore
import Derived.Lib.SlicesCompact
import Derived.Sort.Statements
import Derived.Ground.SlsfProg
import Derived.Shelf.SlLaysF
import Derived.Shelf.SlLaysF0
import Derived.Shelf.SlSortCmp.NoneTotal
import Derived.Shelf.Slices.CompactS
namespace Go.Proofs.YtmgchjddpmmglaaGreatDoor
open Go.RowKit Go.Lib
theorem go_err (t : List UInt8) (r : List (List UInt8)) (i : Nat) (out : List EventM) (x : EventM) (b : Bool) (e : Int) (h : parseE t = (x, b, e)) (he : e ≠ 0) : logGo (t :: r) i out = ([], ((i + 1 : Nat) : Int), e) := by
 unfold logGo
 rw [h, if_pos he]
theorem go_skip' (t : List UInt8) (r : List (List UInt8)) (i : Nat) (out : List EventM) (x : EventM) (h : parseE t = (x, false, 0)) : logGo (t :: r) i out = logGo r (i + 1) out := by
 rw [logGo]
 rw [h, if_neg (by simp), if_pos rfl]
theorem go_full (t : List UInt8) (r : List (List UInt8)) (i : Nat) (out : List EventM) (x : EventM) (h : parseE t = (x, true, 0)) (hl : out.length = 1000) : logGo (t :: r) i out = ([], ((i + 1 : Nat) : Int), 7) := by
 unfold logGo
 rw [h, if_neg (by simp), if_neg (by simp), if_pos hl]
theorem go_more (t : List UInt8) (r : List (List UInt8)) (i : Nat) (out : List EventM) (x : EventM) (h : parseE t = (x, true, 0)) (hl : out.length ≠ 1000) : logGo (t :: r) i out = logGo r (i + 1) (out ++ [onLine x ((i + 1 : Nat) : Int)]) := by
 rw [logGo]
 rw [h, if_neg (by simp), if_neg (by simp), if_neg hl]
theorem parse_cases (t : List UInt8) : (∃ x e, parseE t = (x, false, e) ∧ (e != 0) = true) ∨ (∃ x, parseE t = (x, false, 0)) ∨ (∃ x, parseE t = (x, true, 0)) := by
 obtain ⟨⟨x, b, e⟩, h⟩ : ∃ y, parseE t = y := ⟨_, rfl⟩
 have hm := parse_may t
 rw [h] at hm ⊢
 cases b with
 | false =>
  by_cases he : e = 0
  ·subst he; exact .inr (.inl ⟨x, rfl⟩)
  ·exact .inl ⟨x, e, rfl, by simpa using he⟩
 | true =>
  have := (hm rfl).1
  simp only at this
  subst this
  exact .inr (.inr ⟨x, rfl⟩)
theorem line_short (l : List UInt8) (j : Nat) : ((ofL l).1.getD j []).length ≤ l.length := by
 by_cases h : j < (ofL l).1.length
 ·have hm : (ofL l).1.getD j [] ∈ (ofL l).1 := by simp [h]
  generalize (ofL l).1.getD j [] = x at *
  have key : ∀ (full : List (List UInt8)) (r : List (List UInt8)) (n : Nat), x ∈ (resGo full n r).1 → x ∈ full := by
   intro full r
   induction r with
   | nil => intro n hx; exact hx
   | cons y r ih =>
    intro n hx
    unfold resGo at hx
    split at hx
    ·exact ih _ hx
    ·cases hx
  unfold ofL at hm
  split at hm
  ·cases hm
  ·have h1 := key _ _ _ hm
   have lines : ∀ (t cur : List UInt8), ∀ y ∈ linesAux cur t, y.length ≤ cur.length + t.length := by
    intro t
    induction t with
    | nil =>
     intro cur y hy
     unfold linesAux at hy
     split at hy
     ·cases hy
     ·obtain rfl : y = cur := by simpa using hy
      simp
    | cons b t ih =>
     intro cur y hy
     unfold linesAux at hy
     split at hy
     ·rcases List.mem_cons.1 hy with rfl | hy
      ·omega
      ·have := ih [] y hy
       simp at this ⊢
       omega
     ·have := ih _ y hy
      simp at this ⊢
      omega
   have := lines l [] x h1
   simpa using this
 ·have : (ofL l).1.getD j [] = [] := by simp [h]
  rw [this]
  exact Nat.zero_le _
set_option maxRecDepth 100000 in
set_option maxHeartbeats 8000000 in
theorem log_any (l : List UInt8) (hl : l.length ≤ 1000000) (w : World) (hT : Lib.Utf8Tabs 1 2 w) (hm : HasMax w) (hE : EvTab w) :
  Calls Tryz.prog 69 #[.string (bs l)] w fun e w' => ∃ v, e = .returned (.tuple #[v, .int .i64 (readL l).2.1, .int .i64 (readL l).2.2]) ∧ EvsS w' v (readL l).1 ∧ Below w.heap.size w w' := by
 have HO := Lib.hid (lof_any l hl w hm)
 have HP := Lib.hid (fun t (ht : t.length ≤ 1000000) w' (h : Below w.heap.size w w') => eparse_any t ht w' (Utf8Tabs_below hT h) (hm.below h) (hE.below h))
 have HLs := Lib.hid (fun j => Nat.le_trans (line_short l j) hl)
 have hlen : (ofL l).1.length ≤ 1000001 := by
  unfold ofL
  split
  ·simp
  ·by_cases h : (resGo (linesL l) 0 (linesL l)).2.2 = 0
   ·rw [(resGo_full _ _ _ h).1]
    have := lines_len l []
    unfold linesL
    omega
   ·rw [(resGo_bad _ _ _ h).1]; simp
 clear hT hm hE
 have hre : readL l = if (ofL l).2.2 ≠ 0 then ([], ((ofL l).2.1 : Int), ((ofL l).2.2 : Int)) else logGo (ofL l).1 0 [] := rfl
 obtain ⟨⟨lns, en, ee⟩, hof⟩ : ∃ y, ofL l = y := ⟨_, rfl⟩
 rw [hof] at HO HLs hlen hre
 simp only at HO HLs hlen hre
 generalize readL l = R at *
 clear hof hl
 by_cases he : ee = 0
 ·subst he
  rw [if_neg (by simp)] at hre
  have HRe := Lib.hid hre
  clear hre
  obtain ⟨i0, hi, hz0, hz1, hz2⟩ := info_parts info_ev
  go_enter Tryz.func69, Tryz.ntmps69
  go_wp2_with fail
  refine HO.out.mono ?_
  rintro e w1 ⟨v1, rfl, hv1, hb1⟩
  obtain ⟨p, cap, rfl, hc⟩ := hv1
  have HC := Lib.hid hc
  have HB1 := Lib.hid hb1
  clear hc hb1
  go_wp2_with fail
  go_loopw [8, 26] (fun v8 i wr => ∃ (k : Nat) (out : List EventM), k ≤ lns.length ∧ out.length ≤ k ∧ i = .int .i64 k ∧ wr.ownsRow w1.heap.size 123 6 v8 out.length (evcs out) ∧ RowKit.Hid (logGo (lns.drop k) k out = R) ∧ Below w1.heap.size w1 wr) (fun _ i _ => lns.length - (RowKit.intOf i).toNat)
  case atStart => exact ⟨0, [], Nat.zero_le _, Nat.le_refl _, rfl, World.ownsRow_nil _ _ _ _, Lib.hid (by rw [List.drop_zero]; exact HRe.out.symm), Below.refl _ _⟩
  case round =>
   obtain ⟨k, out, hk, hol, rfl, hown, HG, hbw⟩ := hrel
   by_cases hlt : k < lns.length
   ·obtain ⟨g, rfl, hcell⟩ := HC.out k hlt
    have hc1 := cell_later hbw hcell
    have hd : lns.drop k = lns.getD k [] :: lns.drop (k + 1) := by
     rw [List.drop_eq_getElem_cons hlt]
     simp [hlt]
    have HG2 := Lib.hid HG.out
    rw [hd] at HG2
    have htl := HLs.out k
    have HPk := Lib.hid (HP.out (lns.getD k []) htl)
    generalize lns.getD k [] = t at *
    have HB := Lib.hid (below_next HB1.out hbw)
    have HBw := Lib.hid hbw
    have HOw := Lib.hid hown
    clear HG hd hcell hown hbw htl
    rcases parse_cases t with ⟨x, e, hp, he⟩ | ⟨x, hp⟩ | ⟨x, hp⟩
    ·rw [hp] at HPk
     have HR : RowKit.Hid (R = ([], ((k + 1 : Nat) : Int), e)) := Lib.hid (by rw [← HG2.out]; exact go_err _ _ _ _ _ _ _ hp (by simpa using he))
     clear hp HG2
     obtain ⟨x1, x2, x3, x4, x5, x6⟩ := x
     unfold evV at HPk
     dsimp only at HPk
     go_wp2_with fail
     refine (HPk.out _ HB.out).mono ?_
     rintro e2 w2 ⟨rfl, hb2⟩
     have hf2 := below_next HB.out hb2
     go_wp2_with fail
     go_ret3
     exact ⟨_, by rw [HR.out]; rfl, by rw [HR.out]; exact evs_none _, hf2.alloc hf2.size _⟩
    ·rw [hp] at HPk
     have HR : RowKit.Hid (logGo (lns.drop (k + 1)) (k + 1) out = R) := Lib.hid (by rw [← HG2.out]; exact (go_skip' _ _ _ _ _ hp).symm)
     clear hp HG2
     obtain ⟨x1, x2, x3, x4, x5, x6⟩ := x
     unfold evV at HPk
     dsimp only at HPk
     go_wp2_with fail
     refine (HPk.out _ HB.out).mono ?_
     rintro e2 w2 ⟨rfl, hb2⟩
     have hf2 := below_next HBw.out hb2
     have ho2 := (owns_later HOw.out hb2)
     go_wp2_with fail
     go_roundw
     case rel => exact ⟨k + 1, out, by omega, by omega, by go_num, ho2.alloc _, HR, hf2.alloc hf2.size _⟩
     case measure => simp [RowKit.intOf]; omega
    ·rw [hp] at HPk
     obtain ⟨x1, x2, x3, x4, x5, x6⟩ := x
     obtain ⟨p8, c8, rfl⟩ := owns_form HOw.out
     by_cases hfull : out.length = 1000
     ·have HR : RowKit.Hid (R = ([], ((k + 1 : Nat) : Int), 7)) := Lib.hid (by rw [← HG2.out]; exact go_full _ _ _ _ _ hp hfull)
      have hfb : ((out.length : Int) == 1000) = true := by simp; omega
      clear hp HG2 hfull
      unfold evV at HPk
      dsimp only at HPk
      go_wp2_with fail
      refine (HPk.out _ HB.out).mono ?_
      rintro e2 w2 ⟨rfl, hb2⟩
      have hf2 := below_next HB.out hb2
      go_wp2_with fail
      go_ret3
      exact ⟨_, by rw [HR.out]; rfl, by rw [HR.out]; exact evs_none _, hf2.alloc hf2.size _⟩
     ·have HR : RowKit.Hid (logGo (lns.drop (k + 1)) (k + 1) (out ++ [(x1, x2, x3, x4, x5, (k : Int) + 1)]) = R) := Lib.hid (by rw [← HG2.out]; exact (go_more _ _ _ _ _ hp hfull).symm)
      have hfb : ((out.length : Int) == 1000) = false := by rw [beq_eq_false_iff_ne]; omega
      clear hp HG2 hfull
      unfold evV at HPk
      dsimp only at HPk
      go_wp2_with fail
      refine (HPk.out _ HB.out).mono ?_
      rintro e2 w2 ⟨rfl, hb2⟩
      have hbx := below_next HBw.out hb2
      have ho2 := owns_later HOw.out hb2
      have hz := hbx.size
      clear hb2
      go_wp2_with (at_builtin; refine wpList_append_own _ rfl (.tmp 52) (.tmp 54) 82 rfl w1.heap.size 123 i0 (.agg #[.int .i64 0, .string ByteArray.empty, .string ByteArray.empty, .int .i64 0, .int .i64 0, .int .i64 0]) 6 64 Tryz.underlying82 hi hz0 hz1 hz2 rfl (by decide) _ _ _ rfl ((ho2.alloc _).alloc _) ⟨w2.heap.size + 1, 0, none⟩ 1 1 [.int .i64 x1, .string (bs x2), .string (bs x3), .int .i64 x4, .int .i64 x5, .int .i64 ((k : Int) + 1)] rfl rfl (news_lit _ _ _ _ (by simp)) (ones_ev _ _ _ _ _ _) (by unfold maxLen; omega) (by omega) (by simp; omega) ?_)
      intro v4 w4 hown4 hgrow hnil
      have hb4 : Below w1.heap.size w1 w4 := ((hbx.alloc hz _).alloc (by simp; omega) _).grown hgrow (by simp; omega) (fun k hk => (ho2.lt k hk).1)
      have HO4 : RowKit.Hid (w4.ownsRow w1.heap.size 123 6 v4 (out ++ [(x1, x2, x3, x4, x5, (k : Int) + 1)]).length (evcs (out ++ [(x1, x2, x3, x4, x5, (k : Int) + 1)]))) := Lib.hid (by rw [← evcs_snoc, List.length_append]; exact hown4)
      clear hown4 hgrow hnil ho2 hbx
      go_wp2_with fail
      go_roundw
      case rel => exact ⟨k + 1, _, by omega, by simp; omega, by go_num, HO4.out, HR, hb4⟩
      case measure => simp [RowKit.intOf]; omega
   ·have hke : k = lns.length := by omega
    subst hke
    have HR : RowKit.Hid (R = (out, 0, 0)) := Lib.hid (by rw [← HG.out, List.drop_length]; rfl)
    have HOw := Lib.hid (own_evs hown)
    clear hown HG
    go_wp2_with fail
    go_ret3
    exact ⟨_, by rw [HR.out]; rfl, by rw [HR.out]; exact HOw.out, below_next HB1.out hbw⟩
 ·have hd : (((ee : Nat) : Int) != 0) = true := by simp; omega
  rw [if_pos he] at hre
  have HRe := Lib.hid hre
  clear hre he
  go_enter Tryz.func69, Tryz.ntmps69
  go_wp2_with fail
  refine HO.out.mono ?_
  rintro e w1 ⟨v1, rfl, hv1, hb1⟩
  go_wp2_with fail
  go_ret3
  exact ⟨_, by rw [HRe.out]; rfl, by rw [HRe.out]; exact evs_none _, hb1⟩
end Go.Proofs.YtmgchjddpmmglaaGreatDoor

namespace Go.Proofs.YtmgchjddpmmglaaGreatDoor
open Go.Lib
theorem lexLess_irrefl : ∀ x : List Nat, lexLess x x = false
 | [] => rfl
 | a :: x => by
  unfold lexLess
  rw [if_pos rfl]
  exact lexLess_irrefl x
theorem lexLess_trans : ∀ x y z : List Nat, lexLess x y = true → lexLess y z = true → lexLess x z = true
 | [], [], _, h, _ => by simp [lexLess] at h
 | [], _ :: _, [], _, h => by simp [lexLess] at h
 | [], _ :: _, _ :: _, _, _ => rfl
 | _ :: _, [], _, h, _ => by simp [lexLess] at h
 | _ :: _, _ :: _, [], _, h => by simp [lexLess] at h
 | a :: x, b :: y, c :: z, h1, h2 => by
  unfold lexLess at h1 h2 ⊢
  by_cases hab : a = b
  ·subst hab
   rw [if_pos rfl] at h1
   by_cases hac : a = c
   ·rw [if_pos hac] at h2 ⊢
    exact lexLess_trans x y z h1 h2
   ·rw [if_neg hac] at h2 ⊢
    exact h2
  ·rw [if_neg hab] at h1
   have h1' : a < b := by simpa using h1
   by_cases hbc : b = c
   ·subst hbc
    rw [if_neg hab]
    exact h1
   ·rw [if_neg hbc] at h2
    have h2' : b < c := by simpa using h2
    rw [if_neg (by omega)]
    simpa using (by omega : a < c)
theorem lexLess_total (x y : List Nat) (h1 : lexLess x y = false) (h2 : lexLess y x = false) : x = y := (lex_same x y).2 (h1.trans h2.symm)
theorem lexLess_ntrans (x y z : List Nat) (h1 : lexLess x y = false) (h2 : lexLess y z = false) : lexLess x z = false := by
 cases h : lexLess x z with
 | false => rfl
 | true =>
  cases h3 : lexLess y x with
  | true => rw [lexLess_trans y x z h3 h] at h2; exact absurd h2 (by decide)
  | false =>
   have e := lexLess_total x y h1 h3
   rw [e, h2] at h
   exact absurd h (by decide)
def ltN (a b : List UInt8) : Bool := lexLess (runesU a) (runesU b)
theorem ltN_irrefl (a : List UInt8) : ltN a a = false := lexLess_irrefl _
theorem ltN_trans (a b c : List UInt8) : ltN a b = true → ltN b c = true → ltN a c = true := lexLess_trans _ _ _
theorem ltN_total (a b : List UInt8) (ha : nameL a = true) (hb : nameL b = true) (h1 : ltN a b = false) (h2 : ltN b a = false) : a = b :=
 (runes_inj a b (name_valid a ha) (name_valid b hb)).1 (lexLess_total _ _ h1 h2)
theorem strict_unique (lt : List UInt8 → List UInt8 → Bool) (hi : ∀ a, lt a a = false) (ht : ∀ a b c, lt a b = true → lt b c = true → lt a c = true) :
  ∀ A B : List (List UInt8), A.Pairwise (fun a b => lt a b = true) → B.Pairwise (fun a b => lt a b = true) → (∀ x, x ∈ A ↔ x ∈ B) → A = B
 | [], [], _, _, _ => rfl
 | [], b :: B, _, _, h => by have := (h b).2 (List.mem_cons_self ..); simp at this
 | a :: A, [], _, _, h => by have := (h a).1 (List.mem_cons_self ..); simp at this
 | a :: A, b :: B, hA, hB, h => by
  rw [List.pairwise_cons] at hA hB
  have hab : a = b := by
   rcases List.mem_cons.1 ((h a).1 (List.mem_cons_self ..)) with e | e
   ·exact e
   ·rcases List.mem_cons.1 ((h b).2 (List.mem_cons_self ..)) with e2 | e2
    ·exact e2.symm
    ·have := ht a b a (hA.1 b e2) (hB.1 a e)
     rw [hi] at this
     exact absurd this (by decide)
  subst hab
  rw [strict_unique lt hi ht A B hA.2 hB.2 ?_]
  intro x
  constructor
  ·intro hx
   rcases List.mem_cons.1 ((h x).1 (List.mem_cons_of_mem _ hx)) with e | e
   ·subst e
    have := hA.1 x hx
    rw [hi] at this
    exact absurd this (by decide)
   ·exact e
  ·intro hx
   rcases List.mem_cons.1 ((h x).2 (List.mem_cons_of_mem _ hx)) with e | e
   ·subst e
    have := hB.1 x hx
    rw [hi] at this
    exact absurd this (by decide)
   ·exact e
def insN (x : List UInt8) : List (List UInt8) → List (List UInt8)
 | [] => [x]
 | y :: r => if ltN y x then y :: insN x r else if y = x then y :: r else x :: y :: r
theorem ins_mem (x y : List UInt8) : ∀ r, y ∈ insN x r ↔ y = x ∨ y ∈ r
 | [] => by simp [insN]
 | z :: r => by
  unfold insN
  split
  ·rw [List.mem_cons, ins_mem x y r, List.mem_cons]
   constructor
   ·rintro (h | h | h)
    ·exact .inr (.inl h)
    ·exact .inl h
    ·exact .inr (.inr h)
   ·rintro (h | h | h)
    ·exact .inr (.inl h)
    ·exact .inl h
    ·exact .inr (.inr h)
  ·split
   ·rename_i h
    subst h
    simp
   ·simp
theorem ins_sorted (x : List UInt8) (hx : nameL x = true) : ∀ r, (∀ y ∈ r, nameL y = true) → r.Pairwise (fun a b => ltN a b = true) → (insN x r).Pairwise (fun a b => ltN a b = true)
 | [], _, _ => by simp [insN]
 | y :: r, hn, hs => by
  have hy := hn y (List.mem_cons_self ..)
  rw [List.pairwise_cons] at hs
  unfold insN
  split
  ·rename_i h
   rw [List.pairwise_cons]
   refine ⟨fun z hz => ?_, ins_sorted x hx r (fun z hz => hn z (List.mem_cons_of_mem _ hz)) hs.2⟩
   rcases (ins_mem x z r).1 hz with e | e
   ·subst e; exact h
   ·exact hs.1 z e
  ·rename_i h
   split
   ·rw [List.pairwise_cons]; exact hs
   ·rename_i he
    have hxy : ltN x y = true := by
     cases hq : ltN x y with
     | true => rfl
     | false => exact absurd (ltN_total y x hy hx (by simpa using h) hq) he
    rw [List.pairwise_cons, List.pairwise_cons]
    refine ⟨fun z hz => ?_, hs⟩
    rcases List.mem_cons.1 hz with e | e
    ·subst e; exact hxy
    ·exact ltN_trans x y z hxy (hs.1 z e)
def aheadN (x : List UInt8) (r : List (List UInt8)) : Nat := (r.takeWhile (fun y => ltN y x)).length
theorem ins_at (x : List UInt8) : ∀ r : List (List UInt8), aheadN x r ≤ r.length ∧ (∀ j, j < aheadN x r → ltN (r.getD j []) x = true) ∧
  (aheadN x r < r.length → ltN (r.getD (aheadN x r) []) x = false) ∧
  insN x r = if aheadN x r < r.length ∧ r.getD (aheadN x r) [] = x then r else r.take (aheadN x r) ++ x :: r.drop (aheadN x r)
 | [] => by simp [aheadN, insN]
 | y :: r => by
  obtain ⟨h1, h2, h3, h4⟩ := ins_at x r
  by_cases h : ltN y x = true
  ·have e : aheadN x (y :: r) = aheadN x r + 1 := by simp [aheadN, h]
   rw [e]
   refine ⟨by simpa using h1, ?_, ?_, ?_⟩
   ·intro j hj
    cases j with
    | zero => exact h
    | succ j => exact h2 j (by omega)
   ·intro hl
    exact h3 (by simpa using hl)
   ·unfold insN
    rw [if_pos h, h4]
    by_cases hc : aheadN x r < r.length ∧ r.getD (aheadN x r) [] = x
    ·rw [if_pos hc, if_pos (by simpa using hc)]
    ·rw [if_neg hc, if_neg (by simpa using hc)]
     simp
  ·have h' : ltN y x = false := by simpa using h
   have e : aheadN x (y :: r) = 0 := by simp [aheadN, h']
   rw [e]
   refine ⟨Nat.zero_le _, fun j hj => absurd hj (Nat.not_lt_zero j), fun _ => h', ?_⟩
   unfold insN
   rw [if_neg h]
   simp
def sortedN (L : List (List UInt8)) : List (List UInt8) := L.foldl (fun out x => if nameL x then insN x out else out) []
theorem foldN (L : List (List UInt8)) : ∀ out : List (List UInt8), (∀ y ∈ out, nameL y = true) → out.Pairwise (fun a b => ltN a b = true) →
  (L.foldl (fun out x => if nameL x then insN x out else out) out).Pairwise (fun a b => ltN a b = true) ∧
  ∀ y, y ∈ L.foldl (fun out x => if nameL x then insN x out else out) out ↔ y ∈ out ∨ (y ∈ L ∧ nameL y = true) := by
 induction L with
 | nil => intro out _ hs; exact ⟨hs, by simp⟩
 | cons x L ih =>
  intro out hn hs
  rw [List.foldl_cons]
  by_cases h : nameL x = true
  ·rw [if_pos h]
   obtain ⟨h1, h2⟩ := ih (insN x out) (fun y hy => by rcases (ins_mem x y out).1 hy with e | e; (subst e; exact h); exact hn y e) (ins_sorted x h out hn hs)
   refine ⟨h1, fun y => ?_⟩
   rw [h2, ins_mem, List.mem_cons]
   constructor
   ·rintro ((e | e) | ⟨e, e'⟩)
    ·subst e; exact .inr ⟨.inl rfl, h⟩
    ·exact .inl e
    ·exact .inr ⟨.inr e, e'⟩
   ·rintro (e | ⟨e | e, e'⟩)
    ·exact .inl (.inr e)
    ·exact .inl (.inl e)
    ·exact .inr ⟨e, e'⟩
  ·rw [if_neg h]
   obtain ⟨h1, h2⟩ := ih out hn hs
   refine ⟨h1, fun y => ?_⟩
   rw [h2, List.mem_cons]
   constructor
   ·rintro (e | ⟨e, e'⟩)
    ·exact .inl e
    ·exact .inr ⟨.inr e, e'⟩
   ·rintro (e | ⟨e | e, e'⟩)
    ·exact .inl e
    ·subst e; exact absurd e' h
    ·exact .inr ⟨e, e'⟩
theorem sortedN_spec (L : List (List UInt8)) : (sortedN L).Pairwise (fun a b => ltN a b = true) ∧ ∀ y, y ∈ sortedN L ↔ y ∈ L ∧ nameL y = true := by
 obtain ⟨h1, h2⟩ := foldN L [] (by simp) List.Pairwise.nil
 exact ⟨h1, fun y => by rw [sortedN, h2]; simp⟩
theorem compact_up (d : Array (List UInt8)) (hn : ∀ j, j < d.size → nameL d[j]! = true) (hs : ∀ i j, i < j → j < d.size → ltN d[j]! d[i]! = false) :
  ∀ m, m ≤ d.size → (compactUpTo d m).Pairwise (fun a b => ltN a b = true) ∧ (∀ j, j < m → d[j]! ∈ compactUpTo d m) ∧ (∀ y ∈ compactUpTo d m, ∃ j, j < m ∧ y = d[j]!)
 | 0, _ => ⟨by simp [compactUpTo], by simp, by simp [compactUpTo]⟩
 | m + 1, hm => by
  obtain ⟨h1, h2, h3⟩ := compact_up d hn hs m (by omega)
  rw [compactUpTo_succ]
  cases hk : keeps d m with
  | true =>
   simp only [if_true]
   refine ⟨?_, ?_, ?_⟩
   ·rw [List.pairwise_append]
    refine ⟨h1, by simp, ?_⟩
    intro a ha b hb
    obtain rfl : b = d[m]! := by simpa using hb
    obtain ⟨j, hj, rfl⟩ := h3 a ha
    have hne : d[j]! ≠ d[m]! := by
     intro e
     unfold keeps at hk
     simp only [decide_eq_true_eq] at hk
     rcases hk with hk | hk
     ·omega
     ·have hjm : d[m - 1]! = d[m]! := by
       by_cases hj1 : j = m - 1
       ·rw [← hj1]; exact e
       ·have a1 := hs j (m - 1) (by omega) (by omega)
        have a2 := hs (m - 1) m (by omega) (by omega)
        rw [e] at a1
        exact ltN_total _ _ (hn _ (by omega)) (hn _ (by omega)) a1 a2
      exact hk hjm.symm
    have a := hs j m hj (by omega)
    cases hl : ltN d[j]! d[m]! with
    | true => rfl
    | false => exact absurd (ltN_total _ _ (hn _ (by omega)) (hn _ (by omega)) hl a) hne
   ·intro j hj
    by_cases hjm : j < m
    ·exact List.mem_append_left _ (h2 j hjm)
    ·obtain rfl : j = m := by omega
     exact List.mem_append_right _ (by simp)
   ·intro y hy
    rcases List.mem_append.1 hy with hy | hy
    ·obtain ⟨j, hj, e⟩ := h3 y hy
     exact ⟨j, by omega, e⟩
    ·exact ⟨m, by omega, by simpa using hy⟩
  | false =>
   simp only [Bool.false_eq_true, if_false, List.append_nil]
   refine ⟨h1, ?_, fun y hy => by obtain ⟨j, hj, e⟩ := h3 y hy; exact ⟨j, by omega, e⟩⟩
   intro j hj
   by_cases hjm : j < m
   ·exact h2 j hjm
   ·obtain rfl : j = m := by omega
    unfold keeps at hk
    simp only [decide_eq_false_iff_not, not_or, ne_eq, Classical.not_not] at hk
    rw [hk.2]
    exact h2 (j - 1) (by omega)
theorem compact_sorted (S L : List (List UInt8)) (hm : ∀ y, y ∈ S ↔ y ∈ L ∧ nameL y = true) (hs : S.Pairwise (fun a b => ltN b a = false)) : compact S = sortedN L := by
 have hget : ∀ j, j < S.toArray.size → S.toArray[j]! ∈ S := fun j hj => by
  have hj' : j < S.length := by simpa using hj
  have : S.toArray[j]! = S[j] := by simp [hj']
  rw [this]
  exact List.getElem_mem hj'
 obtain ⟨h1, h2, h3⟩ := compact_up S.toArray (fun j hj => ((hm _).1 (hget j hj)).2) (fun i j hij hj => by
  have hj' : j < S.length := by simpa using hj
  have e1 : S.toArray[j]! = S[j] := by simp [hj']
  have e2 : S.toArray[i]! = S[i] := by simp [show i < S.length by omega]
  rw [e1, e2]
  exact List.pairwise_iff_getElem.1 hs i j (by omega) hj' hij) S.length (by simp)
 obtain ⟨g1, g2⟩ := sortedN_spec L
 refine strict_unique ltN ltN_irrefl ltN_trans _ _ h1 g1 fun x => ?_
 rw [g2, ← hm]
 constructor
 ·intro hx
  obtain ⟨j, hj, rfl⟩ := h3 x hx
  exact hget j (by simpa using hj)
 ·intro hx
  obtain ⟨j, hj, e⟩ := List.getElem_of_mem hx
  have := h2 j hj
  have e1 : S.toArray[j]! = S[j] := by simp [hj]
  rw [e1, e] at this
  exact this
end Go.Proofs.YtmgchjddpmmglaaGreatDoor

namespace Go.Proofs.YtmgchjddpmmglaaGreatDoor
open Go.Lib
def goodT (L : List (List UInt8)) (i : Nat) : Bool := nameL (L.getD i []) && (decide (i = 0) || ltN (L.getD (i - 1) []) (L.getD i []))
def isT (L : List (List UInt8)) : Bool := (List.range L.length).all (goodT L)
theorem isT_no (L : List (List UInt8)) (i : Nat) (hi : i < L.length) (h : goodT L i = false) : isT L = false := by
 unfold isT
 rw [List.all_eq_false]
 exact ⟨i, List.mem_range.2 hi, by simp [h]⟩
theorem isT_yes (L : List (List UInt8)) (h : ∀ j, j < L.length → goodT L j = true) : isT L = true := by
 unfold isT
 rw [List.all_eq_true]
 exact fun j hj => h j (List.mem_range.1 hj)
theorem good_first (L : List (List UInt8)) : goodT L 0 = nameL (L.getD 0 []) := by simp [goodT]
theorem good_next (L : List (List UInt8)) (k : Nat) : goodT L (k + 1) = (nameL (L.getD (k + 1) []) && ltN (L.getD k []) (L.getD (k + 1) [])) := by simp [goodT]
def idxI (L : List (List UInt8)) (s : List UInt8) : Int := if s ∈ L then (L.idxOf s : Int) else -1
theorem idx_at (L : List (List UInt8)) (s : List UInt8) : ∀ k, k < L.length → L.getD k [] = s → (∀ j, j < k → L.getD j [] ≠ s) → L.idxOf s = k ∧ s ∈ L := by
 induction L with
 | nil => intro k hk; exact absurd hk (Nat.not_lt_zero k)
 | cons x L ih =>
  intro k hk he hn
  cases k with
  | zero =>
   have : x = s := he
   subst this
   exact ⟨by simp, List.mem_cons_self ..⟩
  | succ k =>
   have hx : x ≠ s := hn 0 (by omega)
   obtain ⟨h1, h2⟩ := ih k (by simpa using hk) (by simpa using he) (fun j hj => by simpa using hn (j + 1) (by omega))
   refine ⟨?_, List.mem_cons_of_mem _ h2⟩
   rw [List.idxOf_cons, beq_eq_false_iff_ne.2 hx, h1]
   rfl
theorem idx_none (L : List (List UInt8)) (s : List UInt8) (h : ∀ j, j < L.length → L.getD j [] ≠ s) : s ∉ L := by
 intro hm
 obtain ⟨j, hj, e⟩ := List.getElem_of_mem hm
 exact h j hj (by simp [hj, e])
theorem idxI_at (L : List (List UInt8)) (s : List UInt8) (k : Nat) (hk : k < L.length) (he : L.getD k [] = s) (hn : ∀ j, j < k → L.getD j [] ≠ s) : idxI L s = (k : Int) := by
 obtain ⟨h1, h2⟩ := idx_at L s k hk he hn
 simp [idxI, h1, h2]
theorem idxI_none (L : List (List UInt8)) (s : List UInt8) (h : ∀ j, j < L.length → L.getD j [] ≠ s) : idxI L s = -1 := by simp [idxI, idx_none L s h]
theorem idxI_range (L : List (List UInt8)) (s : List UInt8) : -1 ≤ idxI L s ∧ idxI L s < L.length := by
 unfold idxI
 split
 ·rename_i h
  have := List.idxOf_lt_length_of_mem h
  omega
 ·omega
def findT (L : List (List UInt8)) (s : List UInt8) : Nat × Bool := if isT L = true ∧ s ∈ L then (L.idxOf s, true) else (0, false)
theorem find_not (L : List (List UInt8)) (s : List UInt8) (h : isT L = false) : findT L s = (0, false) := by simp [findT, h]
theorem find_idx (L : List (List UInt8)) (s : List UInt8) (h : isT L = true) : findT L s = ((max (idxI L s) 0).toNat, decide (0 ≤ idxI L s)) := by
 unfold findT idxI
 by_cases hm : s ∈ L
 ·rw [if_pos ⟨h, hm⟩, if_pos hm]
  refine Prod.ext ?_ ?_
  ·show List.idxOf s L = _
   omega
  ·simp
 ·rw [if_neg (fun h => hm h.2), if_neg hm]
  refine Prod.ext ?_ ?_
  ·show 0 = (max (-1 : Int) 0).toNat
   omega
  ·simp
def numT (tn : List (List UInt8)) (x : List UInt8) : Int := if (findT tn x).2 = true then ((findT tn x).1 : Int) else -1
def mapT (fr tn : List (List UInt8)) : List Int := fr.map (numT tn)
theorem sorted_isT (L : List (List UInt8)) : isT (sortedN L) = true := by
 obtain ⟨h1, h2⟩ := sortedN_spec L
 refine isT_yes _ fun j hj => ?_
 have hg : ∀ i, i < (sortedN L).length → (sortedN L).getD i [] ∈ sortedN L := fun i hi => by
  have : (sortedN L).getD i [] = (sortedN L)[i] := by simp [hi]
  rw [this]
  exact List.getElem_mem hi
 have hn := ((h2 _).1 (hg j hj)).2
 cases j with
 | zero => rw [good_first]; exact hn
 | succ k =>
  rw [good_next, hn]
  have e1 : (sortedN L).getD k [] = (sortedN L)[k] := by simp [show k < (sortedN L).length by omega]
  have e2 : (sortedN L).getD (k + 1) [] = (sortedN L)[k + 1] := by simp [hj]
  rw [e1, e2, List.pairwise_iff_getElem.1 h1 k (k + 1) (by omega) hj (by omega)]
  rfl
end Go.Proofs.YtmgchjddpmmglaaGreatDoor

namespace Go.Proofs.YtmgchjddpmmglaaGreatDoor
open Go.Lib
abbrev OpM := Bool × Int × Int × Int
abbrev TxnM := Int × Int × List OpM
abbrev HistM := List (List UInt8) × List (List UInt8) × List TxnM
def noOp : OpM := (false, 0, 0, 0)
def noTxn : TxnM := (0, 0, [])
def inside (n : Int) (m : Nat) : Bool := decide (0 ≤ n) && decide (n < m)
def okOp (m : Nat) (o : OpM) : Bool := inside o.2.1 m && (mayV o.2.2.1 o.2.2.2 && (!o.1 || o.2.2.1 == 1))
def okTxn (m : Nat) (t : TxnM) : Bool := inside t.1 m && (decide (1 ≤ t.2.1) && (decide (t.2.1 ≤ 3) && decide (t.2.2.length ≤ 20)))
def okHeads (h : HistM) : Bool := isT h.1 && (isT h.2.1 && (decide (h.1.length ≤ 20) && (decide (h.2.1.length ≤ 40) && decide (h.2.2.length ≤ 40))))
def allOps (h : HistM) : List OpM := h.2.2.flatMap (·.2.2)
def allUsed (m : Nat) (l : List Int) : Bool := (List.range m).all fun i => l.contains (i : Int)
def usedH (h : HistM) : Bool := allUsed h.1.length (h.2.2.map (·.1)) && allUsed h.2.1.length ((allOps h).map (·.2.1))
def mayH (h : HistM) : Bool := okHeads h && (h.2.2.all (okTxn h.1.length) && ((allOps h).all (okOp h.2.1.length) && usedH h))
def errH (h : HistM) : Int := if mayH h then 0 else 4
def unlike : List Int → List Int
 | [] => []
 | a :: l => let r := unlike l; if r.contains a then r else a :: r
theorem unlike_mem (x : Int) : ∀ l : List Int, x ∈ unlike l ↔ x ∈ l
 | [] => by simp [unlike]
 | a :: l => by
  have ih := unlike_mem x l
  unfold unlike
  by_cases h : (unlike l).contains a = true
  ·rw [if_pos h, List.mem_cons, ih]
   constructor
   ·exact fun h => .inr h
   ·rintro (e | e)
    ·subst e; exact ih.1 (by simpa using h)
    ·exact e
  ·rw [if_neg h, List.mem_cons, List.mem_cons, ih]
theorem unlike_nodup : ∀ l : List Int, (unlike l).Nodup
 | [] => by simp [unlike]
 | a :: l => by
  have ih := unlike_nodup l
  unfold unlike
  by_cases h : (unlike l).contains a = true
  ·rw [if_pos h]; exact ih
  ·rw [if_neg h, List.nodup_cons]
   exact ⟨by simpa using h, ih⟩
theorem nodup_bound : ∀ (m : Nat) (l : List Int), l.Nodup → (∀ x ∈ l, 0 ≤ x ∧ x < m) → l.length ≤ m
 | 0, l, _, h => by
  cases l with
  | nil => simp
  | cons a l => have := h a (List.mem_cons_self ..); omega
 | m + 1, l, hn, h => by
  have h1 : (l.erase (m : Int)).length ≤ m := nodup_bound m _ (hn.erase _) fun x hx => by
   have hxl := List.mem_of_mem_erase hx
   have h2 := h x hxl
   have hne : x ≠ (m : Int) := fun e => by
    subst e
    exact absurd hx (by rw [hn.mem_erase_iff]; simp)
   omega
  rw [List.length_erase] at h1
  split at h1 <;> omega
theorem nodup_sub : ∀ (A B : List Int), A.Nodup → (∀ x ∈ A, x ∈ B) → A.length ≤ B.length
 | [], B, _, _ => by simp
 | a :: A, B, hn, h => by
  rw [List.nodup_cons] at hn
  have ha := h a (List.mem_cons_self ..)
  have h1 := nodup_sub A (B.erase a) hn.2 fun x hx => by
   have hne : x ≠ a := fun e => hn.1 (e ▸ hx)
   exact (List.mem_erase_of_ne hne).2 (h x (List.mem_cons_of_mem _ hx))
  rw [List.length_erase_of_mem ha] at h1
  have := List.length_pos_of_mem ha
  simp only [List.length_cons]
  omega
theorem unlike_all (m : Nat) (l : List Int) (h : ∀ x ∈ l, 0 ≤ x ∧ x < (m : Int)) : decide ((unlike l).length = m) = allUsed m l := by
 have hb := nodup_bound m (unlike l) (unlike_nodup l) fun x hx => h x ((unlike_mem x l).1 hx)
 rw [Bool.eq_iff_iff, decide_eq_true_iff]
 unfold allUsed
 rw [List.all_eq_true]
 constructor
 ·intro he i hi
  by_cases hc : (i : Int) ∈ l
  ·simpa using hc
  ·exfalso
   have hi' : i < m := List.mem_range.1 hi
   have hne : (i : Int) ∉ unlike l := fun hm => hc ((unlike_mem _ _).1 hm)
   have h2 := nodup_bound m ((i : Int) :: unlike l) (List.nodup_cons.2 ⟨hne, unlike_nodup l⟩) fun x hx => by
    rcases List.mem_cons.1 hx with e | e
    ·subst e; omega
    ·exact h x ((unlike_mem x l).1 e)
   simp only [List.length_cons] at h2
   omega
 ·intro ha
  have hs : ∀ n, n ≤ m → n ≤ (unlike l).length := by
   intro n hn
   have hsub : ((List.range n).map (fun i : Nat => (i : Int))).Nodup := by
    rw [List.nodup_iff_pairwise_ne, List.pairwise_map]
    exact (List.nodup_range (n := n)).imp fun {a b} hab e => hab (by omega)
   have hle := nodup_sub _ (unlike l) hsub (fun x hx => by
    obtain ⟨i, hi, rfl⟩ := List.mem_map.1 hx
    rw [unlike_mem]
    have := ha i (List.mem_range.2 (by have := List.mem_range.1 hi; omega))
    simpa using this)
   simpa using hle
  have := hs m (Nat.le_refl _)
  omega
end Go.Proofs.YtmgchjddpmmglaaGreatDoor

namespace Go.Proofs.YtmgchjddpmmglaaGreatDoor
open Go.RowKit
def HasOps (w : World) (p : Option Addr) (L : List OpM) : Prop := ∀ j, j < L.length → ∃ g, p = some ⟨g, 0, none⟩ ∧ w.cell? ⟨g, j * 4, none⟩ = some (.bool (L.getD j noOp).1) ∧ w.cell? ⟨g, j * 4 + 1, none⟩ = some (.int .i64 (L.getD j noOp).2.1) ∧
 w.cell? ⟨g, j * 4 + 2, none⟩ = some (.int .i64 (L.getD j noOp).2.2.1) ∧ w.cell? ⟨g, j * 4 + 3, none⟩ = some (.int .i64 (L.getD j noOp).2.2.2)
theorem HasOps.below {w w' : World} {p : Option Addr} {L : List OpM} (h : HasOps w p L) (hb : Below w.heap.size w w') : HasOps w' p L := fun j hj => by
 obtain ⟨g, hp, h1, h2, h3, h4⟩ := h j hj
 exact ⟨g, hp, cell_later hb h1, cell_later hb h2, cell_later hb h3, cell_later hb h4⟩
def OpsS (w : World) (v : Value) (L : List OpM) : Prop := ∃ p cap, v = .slice p L.length cap ∧ L.length ≤ cap ∧ HasOps w p L
theorem OpsS.below {w w' : World} {v : Value} {L : List OpM} (h : OpsS w v L) (hb : Below w.heap.size w w') : OpsS w' v L := by
 obtain ⟨p, cap, hv, hc, ht⟩ := h
 exact ⟨p, cap, hv, hc, ht.below hb⟩
def HasTxns (w : World) (p : Option Addr) (L : List TxnM) : Prop := ∀ j, j < L.length → ∃ g sv, p = some ⟨g, 0, none⟩ ∧ w.cell? ⟨g, j * 3, none⟩ = some (.int .i64 (L.getD j noTxn).1) ∧ w.cell? ⟨g, j * 3 + 1, none⟩ = some (.int .i64 (L.getD j noTxn).2.1) ∧
 w.cell? ⟨g, j * 3 + 2, none⟩ = some sv ∧ OpsS w sv (L.getD j noTxn).2.2
theorem HasTxns.below {w w' : World} {p : Option Addr} {L : List TxnM} (h : HasTxns w p L) (hb : Below w.heap.size w w') : HasTxns w' p L := fun j hj => by
 obtain ⟨g, sv, hp, h1, h2, h3, h4⟩ := h j hj
 exact ⟨g, sv, hp, cell_later hb h1, cell_later hb h2, cell_later hb h3, h4.below hb⟩
def TxnsS (w : World) (v : Value) (L : List TxnM) : Prop := ∃ p cap, v = .slice p L.length cap ∧ HasTxns w p L
theorem TxnsS.below {w w' : World} {v : Value} {L : List TxnM} (h : TxnsS w v L) (hb : Below w.heap.size w w') : TxnsS w' v L := by
 obtain ⟨p, cap, hv, ht⟩ := h
 exact ⟨p, cap, hv, ht.below hb⟩
def HistV (w : World) (v : Value) (h : HistM) : Prop := ∃ v0 v1 v2, v = .agg #[v0, v1, v2] ∧ Texts w v0 h.1 ∧ Texts w v1 h.2.1 ∧ TxnsS w v2 h.2.2
theorem HistV.below {w w' : World} {v : Value} {h : HistM} (hh : HistV w v h) (hb : Below w.heap.size w w') : HistV w' v h := by
 obtain ⟨v0, v1, v2, hv, h0, h1, h2⟩ := hh
 exact ⟨v0, v1, v2, hv, h0.below hb, h1.below hb, h2.below hb⟩
end Go.Proofs.YtmgchjddpmmglaaGreatDoor

namespace Go.Proofs
open Go.Shelf
def Tryz.laysSort_ren : Go.Shelf.Ren := ⟨fun | 6 => 230 | 15 => 239 | 14 => 247 | 28 => 258 | 29 => 259 | 20 => 268 | 21 => 269 | 22 => 270 | 23 => 271 | 24 => 272 | 25 => 273 | 26 => 274 | 27 => 275 | 46 => 285 | 47 => 279 | 48 => 280 | 49 => 286 | 50 => 287 | 57 => 291 | n => n, fun | 22 => 22 | 24 => 9 | 25 => 238 | 3 => 3 | 39 => 244 | 0 => 0 | 53 => 276 | 55 => 259 | 4 => 4 | 46 => 270 | 45 => 269 | 50 => 138 | 5 => 5 | 9 => 9 | 66 => 286 | 70 => 290 | 76 => 297 | 77 => 233 | n => n, fun | n => n⟩
theorem Tryz.laysSort : Go.Proofs.SlLaysF.n6 Tryz.prog Tryz.laysSort_ren := {
 mixed := by kernel_rfl
 f6 := ⟨Tryz.f230.name, by decide, Tryz.func230.trans (congrArg some (by kernel_rfl))⟩
 f14 := ⟨Tryz.f247.name, by decide, Tryz.func247.trans (congrArg some (by kernel_rfl))⟩
 f15 := Tryz.func239.trans (congrArg some (by kernel_rfl))
 f20 := ⟨Tryz.f268.name, by decide, Tryz.func268.trans (congrArg some (by kernel_rfl))⟩
 f21 := ⟨Tryz.f269.name, by decide, Tryz.func269.trans (congrArg some (by kernel_rfl))⟩
 f22 := ⟨Tryz.f270.name, by decide, Tryz.func270.trans (congrArg some (by kernel_rfl))⟩
 f23 := ⟨Tryz.f271.name, by decide, Tryz.func271.trans (congrArg some (by kernel_rfl))⟩
 f24 := ⟨Tryz.f272.name, by decide, Tryz.func272.trans (congrArg some (by kernel_rfl))⟩
 f25 := ⟨Tryz.f273.name, by decide, Tryz.func273.trans (congrArg some (by kernel_rfl))⟩
 f26 := ⟨Tryz.f274.name, by decide, Tryz.func274.trans (congrArg some (by kernel_rfl))⟩
 f27 := ⟨Tryz.f275.name, by decide, Tryz.func275.trans (congrArg some (by kernel_rfl))⟩
 f28 := Tryz.func258.trans (congrArg some (by kernel_rfl))
 f29 := Tryz.func259.trans (congrArg some (by kernel_rfl))
 f46 := ⟨Tryz.f285.name, by decide, Tryz.func285.trans (congrArg some (by kernel_rfl))⟩
 f47 := Tryz.func279.trans (congrArg some (by kernel_rfl))
 f48 := Tryz.func280.trans (congrArg some (by kernel_rfl))
 f49 := ⟨Tryz.f286.name, by decide, Tryz.func286.trans (congrArg some (by kernel_rfl))⟩
 f50 := ⟨Tryz.f287.name, by decide, Tryz.func287.trans (congrArg some (by kernel_rfl))⟩
 f57 := ⟨Tryz.f291.name, by decide, Tryz.func291.trans (congrArg some (by kernel_rfl))⟩
 t0 := Tryz.underlying0
 a0 := Tryz.isAgg0
 z0 := Tryz.sizeOf0
 v0 := Tryz.zeroValue0
 t3 := Tryz.underlying3
 a3 := Tryz.isAgg3
 z3 := Tryz.sizeOf3
 v3 := Tryz.zeroValue3
 t4 := Tryz.underlying4
 a4 := Tryz.isAgg4
 z4 := Tryz.sizeOf4
 v4 := Tryz.zeroValue4
 t5 := Tryz.underlying5
 a5 := Tryz.isAgg5
 z5 := Tryz.sizeOf5
 v5 := Tryz.zeroValue5
 t9 := Tryz.underlying9
 a9 := Tryz.isAgg9
 z9 := Tryz.sizeOf9
 v9 := Tryz.zeroValue9
 t22 := Tryz.underlying22
 a22 := Tryz.isAgg22
 z22 := Tryz.sizeOf22
 v22 := Tryz.zeroValue22
 a24 := Tryz.isAgg9
 z24 := Tryz.sizeOf9
 t25 := Tryz.underlying238
 a25 := Tryz.isAgg238
 z25 := Tryz.sizeOf238
 v25 := Tryz.zeroValue238
 t39 := Tryz.underlying244
 a39 := Tryz.isAgg244
 z39 := Tryz.sizeOf244
 v39 := Tryz.zeroValue244
 t45 := Tryz.underlying269
 a45 := Tryz.isAgg269
 z45 := Tryz.sizeOf269
 v45 := Tryz.zeroValue269
 t46 := Tryz.underlying270
 a46 := Tryz.isAgg270
 z46 := Tryz.sizeOf270
 v46 := Tryz.zeroValue270
 t50 := Tryz.underlying138
 a50 := Tryz.isAgg138
 z50 := Tryz.sizeOf138
 v50 := Tryz.zeroValue138
 t53 := Tryz.underlying276
 a53 := Tryz.isAgg276
 z53 := Tryz.sizeOf276
 v53 := Tryz.zeroValue276
 t55 := Tryz.underlying259
 a55 := Tryz.isAgg259
 z55 := Tryz.sizeOf259
 v55 := Tryz.zeroValue259
 t66 := Tryz.underlying286
 a66 := Tryz.isAgg286
 z66 := Tryz.sizeOf286
 v66 := Tryz.zeroValue286
 t70 := Tryz.underlying290
 a70 := Tryz.isAgg290
 z70 := Tryz.sizeOf290
 v70 := Tryz.zeroValue290
 t76 := Tryz.underlying297
 a76 := Tryz.isAgg297
 z76 := Tryz.sizeOf297
 v76 := Tryz.zeroValue297
 t77 := Tryz.underlying233
 a77 := Tryz.isAgg233
 z77 := Tryz.sizeOf233
 v77 := Tryz.zeroValue233 }
def Tryz.laysSort0_ren : Go.Shelf.Ren := ⟨fun | 6 => 230 | 15 => 239 | 14 => 247 | 28 => 258 | 29 => 259 | 20 => 268 | 21 => 269 | 22 => 270 | 23 => 271 | 24 => 272 | 25 => 273 | 26 => 274 | 27 => 275 | 46 => 285 | 47 => 279 | 48 => 280 | 49 => 286 | 50 => 287 | 57 => 291 | n => n, fun | 22 => 22 | 24 => 9 | 25 => 238 | 3 => 3 | 39 => 244 | 0 => 0 | 53 => 276 | 55 => 259 | 4 => 4 | 46 => 270 | 45 => 269 | 50 => 138 | 5 => 5 | 9 => 9 | 66 => 286 | 70 => 290 | 76 => 297 | 77 => 233 | n => n, fun | n => n⟩
theorem Tryz.laysSort0 : Go.Proofs.SlLaysF0.n6 Tryz.prog Tryz.laysSort0_ren := {
 mixed := by kernel_rfl
 f6 := ⟨Tryz.f230.name, by decide, Tryz.func230.trans (congrArg some (by kernel_rfl))⟩
 f14 := ⟨Tryz.f247.name, by decide, Tryz.func247.trans (congrArg some (by kernel_rfl))⟩
 f15 := Tryz.func239.trans (congrArg some (by kernel_rfl))
 f20 := ⟨Tryz.f268.name, by decide, Tryz.func268.trans (congrArg some (by kernel_rfl))⟩
 f21 := ⟨Tryz.f269.name, by decide, Tryz.func269.trans (congrArg some (by kernel_rfl))⟩
 f22 := ⟨Tryz.f270.name, by decide, Tryz.func270.trans (congrArg some (by kernel_rfl))⟩
 f23 := ⟨Tryz.f271.name, by decide, Tryz.func271.trans (congrArg some (by kernel_rfl))⟩
 f24 := ⟨Tryz.f272.name, by decide, Tryz.func272.trans (congrArg some (by kernel_rfl))⟩
 f25 := ⟨Tryz.f273.name, by decide, Tryz.func273.trans (congrArg some (by kernel_rfl))⟩
 f26 := ⟨Tryz.f274.name, by decide, Tryz.func274.trans (congrArg some (by kernel_rfl))⟩
 f27 := ⟨Tryz.f275.name, by decide, Tryz.func275.trans (congrArg some (by kernel_rfl))⟩
 f28 := Tryz.func258.trans (congrArg some (by kernel_rfl))
 f29 := Tryz.func259.trans (congrArg some (by kernel_rfl))
 f46 := ⟨Tryz.f285.name, by decide, Tryz.func285.trans (congrArg some (by kernel_rfl))⟩
 f47 := Tryz.func279.trans (congrArg some (by kernel_rfl))
 f48 := Tryz.func280.trans (congrArg some (by kernel_rfl))
 f49 := ⟨Tryz.f286.name, by decide, Tryz.func286.trans (congrArg some (by kernel_rfl))⟩
 f50 := ⟨Tryz.f287.name, by decide, Tryz.func287.trans (congrArg some (by kernel_rfl))⟩
 f57 := ⟨Tryz.f291.name, by decide, Tryz.func291.trans (congrArg some (by kernel_rfl))⟩
 t0 := Tryz.underlying0
 a0 := Tryz.isAgg0
 z0 := Tryz.sizeOf0
 v0 := Tryz.zeroValue0
 t3 := Tryz.underlying3
 a3 := Tryz.isAgg3
 z3 := Tryz.sizeOf3
 v3 := Tryz.zeroValue3
 t4 := Tryz.underlying4
 a4 := Tryz.isAgg4
 z4 := Tryz.sizeOf4
 v4 := Tryz.zeroValue4
 t5 := Tryz.underlying5
 a5 := Tryz.isAgg5
 z5 := Tryz.sizeOf5
 v5 := Tryz.zeroValue5
 t9 := Tryz.underlying9
 a9 := Tryz.isAgg9
 z9 := Tryz.sizeOf9
 v9 := Tryz.zeroValue9
 t22 := Tryz.underlying22
 a22 := Tryz.isAgg22
 z22 := Tryz.sizeOf22
 v22 := Tryz.zeroValue22
 t25 := Tryz.underlying238
 a25 := Tryz.isAgg238
 z25 := Tryz.sizeOf238
 v25 := Tryz.zeroValue238
 t39 := Tryz.underlying244
 a39 := Tryz.isAgg244
 z39 := Tryz.sizeOf244
 v39 := Tryz.zeroValue244
 t45 := Tryz.underlying269
 a45 := Tryz.isAgg269
 z45 := Tryz.sizeOf269
 v45 := Tryz.zeroValue269
 t46 := Tryz.underlying270
 a46 := Tryz.isAgg270
 z46 := Tryz.sizeOf270
 v46 := Tryz.zeroValue270
 t50 := Tryz.underlying138
 a50 := Tryz.isAgg138
 z50 := Tryz.sizeOf138
 v50 := Tryz.zeroValue138
 t53 := Tryz.underlying276
 a53 := Tryz.isAgg276
 z53 := Tryz.sizeOf276
 v53 := Tryz.zeroValue276
 t55 := Tryz.underlying259
 a55 := Tryz.isAgg259
 z55 := Tryz.sizeOf259
 v55 := Tryz.zeroValue259
 t66 := Tryz.underlying286
 a66 := Tryz.isAgg286
 z66 := Tryz.sizeOf286
 v66 := Tryz.zeroValue286
 t70 := Tryz.underlying290
 a70 := Tryz.isAgg290
 z70 := Tryz.sizeOf290
 v70 := Tryz.zeroValue290
 t76 := Tryz.underlying297
 a76 := Tryz.isAgg297
 z76 := Tryz.sizeOf297
 v76 := Tryz.zeroValue297
 t77 := Tryz.underlying233
 a77 := Tryz.isAgg233
 z77 := Tryz.sizeOf233
 v77 := Tryz.zeroValue233 }
def Tryz.laysCompact_ren : Go.Shelf.Ren := ⟨fun | 194 => 232 | n => n, fun | 31 => 22 | 9 => 9 | 3 => 3 | 4 => 4 | 0 => 0 | n => n, fun | n => n⟩
theorem Tryz.laysCompact : Go.Proofs.Lays.n194 Tryz.prog Tryz.laysCompact_ren := {
 mixed := by kernel_rfl
 f194 := Tryz.func232.trans (congrArg some (by kernel_rfl))
 t0 := Tryz.underlying0
 a0 := Tryz.isAgg0
 z0 := Tryz.sizeOf0
 v0 := Tryz.zeroValue0
 t3 := Tryz.underlying3
 a3 := Tryz.isAgg3
 z3 := Tryz.sizeOf3
 v3 := Tryz.zeroValue3
 t4 := Tryz.underlying4
 a4 := Tryz.isAgg4
 z4 := Tryz.sizeOf4
 v4 := Tryz.zeroValue4
 t9 := Tryz.underlying9
 a9 := Tryz.isAgg9
 z9 := Tryz.sizeOf9
 v9 := Tryz.zeroValue9
 t31 := Tryz.underlying22
 a31 := Tryz.isAgg22
 z31 := Tryz.sizeOf22
 v31 := Tryz.zeroValue22 }
end Go.Proofs

namespace Go.Proofs.YtmgchjddpmmglaaGreatDoor
open Go.RowKit Go.Lib Go.Sort
theorem two_allocs (w : World) (A B : Obj) : ((w.alloc A).alloc B).drew.drew = grow (w.drewN 2) #[A, B] := by
 have e : (w.heap.push A).push B = w.heap ++ #[A, B] := by
  apply Array.ext'
  simp [Array.toList_push]
 unfold grow World.alloc World.drew World.drewN
 simp only [e]
set_option maxRecDepth 100000 in
set_option maxHeartbeats 1000000 in
theorem ncompare_grows (a b : List UInt8) (ha : a.length ≤ 1000000) (hb : b.length ≤ 1000000) (w : World) :
  Calls Tryz.prog 231 #[.string (bs a), .string (bs b)] w fun e w' => e = .returned (.int .i64 (lexCmp (runesU a) (runesU b))) ∧ ∃ q os, w' = grow (w.drewN q) os := by
 have hca := conv_runes a ha
 have hcb := conv_runes b hb
 go_enter Tryz.func231, Tryz.ntmps231
 go_wp2_with fail
 refine (compare_any (runesU a) (runesU b) _ _ _ _ _ ?_ ?_ (by have := runesU_length a; omega)).mono ?_
 ·intro j hj
  exact cell_past _ (cell_drew (rowR_cell w w.drew a j hj))
 ·intro j hj
  have h := rowR_cell (w.alloc (.cells (rowR w a) 21)).drew (w.alloc (.cells (rowR w a) 21)) b j hj
  rw [show (w.alloc (.cells (rowR w a) 21)).heap.size = w.heap.size + 1 by simp] at h
  exact cell_drew (cell_drew h)
 ·rintro e w1 ⟨rfl, rfl⟩
  go_wp2_with fail
  go_ret
  exact ⟨rfl, 2, _, two_allocs _ _ _⟩
abbrev NameT := { l : List UInt8 // nameL l = true }
instance : Inhabited NameT := ⟨⟨[97], by decide +kernel⟩⟩
def encN (x : NameT) : Value := .string (bs x.1)
theorem encN_one : OneCell encN := fun _ => rfl
def cmpN (x y : NameT) : Int := lexCmp (runesU x.1) (runesU y.1)
theorem lt_cmpN (x y : NameT) : ltOf cmpN x y = ltN x.1 y.1 := (lexCmp_less _ _).symm
theorem swo_cmpN : SWO (ltOf cmpN) where
 irrefl x := by rw [lt_cmpN]; exact ltN_irrefl _
 trans x y z h1 h2 := by rw [lt_cmpN] at *; exact ltN_trans _ _ _ h1 h2
 ntrans x y z h1 h2 := by rw [lt_cmpN] at *; exact lexLess_ntrans _ _ _ h1 h2
theorem name_len (l : List UInt8) (h : nameL l = true) : l.length ≤ 1000000 := by
 have hv := textU_runes _ l (Nat.le_refl _) (name_valid l h)
 unfold nameL word at h
 simp only [Bool.and_eq_true, decide_eq_true_eq] at h
 have := textU_len (runesU l)
 rw [hv] at this
 omega
theorem compare_enters : ∀ args w, (callFunc 231 args).run Tryz.prog w = .ok (.enter 231 args) w := enters_of Tryz.func231 (by kernel_rfl) rfl
theorem sort_names (g cap : Nat) (d : Array NameT) (w : World) (hH : Holds encN w g 0 d) (hg : g < w.heap.size) (hsz : d.size < 4611686018427387904) :
  Calls Tryz.prog 230 #[.slice (some ⟨g, 0, none⟩) d.size cap, .func (.func 231) #[] #[]] w fun e w' =>
   e = .returned (.tuple #[]) ∧ ∃ n os, w' = sortWorld encN w g 0 n (d.toList.mergeSort fun x y => !(ltOf cmpN) y x).toArray os :=
 Any.slices_SortFunc_total Tryz.laysSort encN encN_one cmpN swo_cmpN 231 #[] g 0 cap d w compare_enters
  (fun m os dk _ x y => ncompare_grows x.1 y.1 (name_len _ x.2) (name_len _ y.2) _) hH hg hsz
  (fun x y h1 h2 => by rw [lt_cmpN] at h1 h2; exact Subtype.ext (ltN_total _ _ x.2 y.2 h1 h2))
theorem compact_names (g cap : Nat) (S : List (List UInt8)) (w : World) (hH : Holds Go.Proofs.encStr w g 0 S.toArray) (hsz : S.length ≤ 9223372036854775807) (hcap : S.length ≤ cap) :
  Calls Tryz.prog 232 #[.slice (some ⟨g, 0, none⟩) S.length cap] w fun e w' => e = .returned (.slice (some ⟨g, 0, none⟩) (compact S).length cap) ∧
   ∃ q, w' = putRow Go.Proofs.encStr (Sort.ahead w q) g 0 (compact S ++ List.replicate (S.length - (compact S).length) []).toArray :=
 Any.slices_Compact_string Tryz.laysCompact g 0 cap S w hH hsz hcap
def leN (x y : NameT) : Bool := !(ltOf cmpN) y x
theorem leN_trans (a b c : NameT) (h1 : leN a b = true) (h2 : leN b c = true) : leN a c = true := by
 unfold leN at *
 simp only [Bool.not_eq_true'] at *
 exact swo_cmpN.ntrans c b a h2 h1
theorem leN_total (a b : NameT) : (leN a b || leN b a) = true := by
 unfold leN
 simp only [lt_cmpN]
 cases h1 : ltN b.1 a.1 with
 | false => rfl
 | true =>
  cases h2 : ltN a.1 b.1 with
  | false => rfl
  | true =>
   have := ltN_trans _ _ _ h1 h2
   rw [ltN_irrefl] at this
   exact absurd this (by decide)
theorem sort_spec (d : List NameT) (L : List (List UInt8)) (h : ∀ y, y ∈ d.map (·.1) ↔ y ∈ L ∧ nameL y = true) : compact ((d.mergeSort leN).map (·.1)) = sortedN L := by
 refine compact_sorted _ L (fun y => ?_) ?_
 ·rw [← h, List.mem_map, List.mem_map]
  constructor
  ·rintro ⟨x, hx, e⟩
   exact ⟨x, (List.mergeSort_perm d leN).mem_iff.1 hx, e⟩
  ·rintro ⟨x, hx, e⟩
   exact ⟨x, (List.mergeSort_perm d leN).mem_iff.2 hx, e⟩
 ·rw [List.pairwise_map]
  refine (List.pairwise_mergeSort leN_trans leN_total d).imp fun {a b} hab => ?_
  unfold leN at hab
  rw [lt_cmpN] at hab
  simpa using hab
theorem lift_names : ∀ M : List (List UInt8), (∀ x ∈ M, nameL x = true) → ∃ d : List NameT, d.map (·.1) = M
 | [], _ => ⟨[], rfl⟩
 | x :: M, h => by
  obtain ⟨d, hd⟩ := lift_names M (fun y hy => h y (List.mem_cons_of_mem _ hy))
  exact ⟨⟨x, h x (List.mem_cons_self ..)⟩ :: d, by simp [hd]⟩
theorem filter_next (L : List (List UInt8)) (k : Nat) (hk : k < L.length) : (L.take (k + 1)).filter nameL = (L.take k).filter nameL ++ (if nameL (L.getD k []) then [L.getD k []] else []) := by
 have e : L.take (k + 1) = L.take k ++ [L.getD k []] := by
  rw [List.take_add_one]
  simp [hk]
 rw [e, List.filter_append]
 congr 1
 simp only [List.filter_cons, List.filter_nil]
theorem below_sortWorld {a w : World} {g n : Nat} {dk : Array NameT} {os : Array Obj} (h : Below a.heap.size a w) (hg : a.heap.size ≤ g) : Below a.heap.size a (sortWorld encN w g 0 n dk os) := by
 refine ⟨h.os, h.tape, h.output, ?_, fun k hk => ?_⟩
 ·have := h.size
  show a.heap.size ≤ (grow (putRow encN (Sort.ahead w n) g 0 dk) os).heap.size
  unfold grow
  simp only [Array.size_append]
  rw [size_putRow]
  show _ ≤ w.heap.size + _
  omega
 ·have hkw : k < w.heap.size := Nat.lt_of_lt_of_le hk h.size
  rw [← h.block k hk]
  have hne : g ≠ k := by omega
  show ((putRow encN (Sort.ahead w n) g 0 dk).heap ++ os)[k]? = _
  rw [Array.getElem?_append_left (by rw [size_putRow]; exact hkw)]
  simp only [putRow, mapBlock, Array.getElem?_modify, if_neg hne]
  rfl
theorem below_putRow {a w : World} {g q : Nat} {dk : Array (List UInt8)} (h : Below a.heap.size a w) (hg : a.heap.size ≤ g) : Below a.heap.size a (putRow Go.Proofs.encStr (Sort.ahead w q) g 0 dk) := by
 refine ⟨h.os, h.tape, h.output, ?_, fun k hk => ?_⟩
 ·rw [size_putRow]
  exact h.size
 ·have hkw : k < w.heap.size := Nat.lt_of_lt_of_le hk h.size
  rw [← h.block k hk]
  have hne : g ≠ k := by omega
  simp only [putRow, mapBlock, Array.getElem?_modify, if_neg hne]
  rfl
end Go.Proofs.YtmgchjddpmmglaaGreatDoor
