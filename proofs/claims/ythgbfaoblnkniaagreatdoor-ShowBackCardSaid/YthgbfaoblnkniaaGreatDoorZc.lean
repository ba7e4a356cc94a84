/-
  The decoder of layer 2's reference, at any place. No conditions.
  The walks of layer 2's reference (name) over a text's runes: the list of them, and whether the text is UTF-8. No conditions.
  The walks of layer 2 (name): reserved words, what may stand in a name, the comparison of two runes. No conditions.
  The walks of layer 2 (name): which of two texts is ahead, in the program and in the reference. No conditions.
  DERIVED: THE SHELF's CONTRACTS AT THIS DUMP, IN PLAIN WORDS (tools/lay-plain.mjs out of 'TrydShelfV4.lean', which tools/lay-shelf.mjs wrote): THE SAME DECLARATIONS UNDER THE SAME NAMES: 'import', 'namespace', 'open', 'def', 'theorem' AND NOTHING ELSE: no command of the shelf's: FOR A HAND-IN. Each laying: the table of numbers ('.._ren') and one theorem, a field a fact of the dump's own or the kernel's comparison; each contract: ONE APPLICATION.
  The walk of layer 2 (name): what a name is, in the program, where unicode/utf8's two tables are as their initialisers lay them. No conditions.
  DERIVED: THE SHELF's CONTRACTS AT THIS DUMP, IN PLAIN WORDS (tools/lay-plain.mjs out of 'TrydShelfO4.lean', which tools/lay-shelf.mjs wrote): THE SAME DECLARATIONS UNDER THE SAME NAMES: 'import', 'namespace', 'open', 'def', 'theorem' AND NOTHING ELSE: no command of the shelf's: FOR A HAND-IN. Each laying: the table of numbers ('.._ren') and one theorem, a field a fact of the dump's own or the kernel's comparison; each contract: ONE APPLICATION.
  The walk of layer 2 (name): texts' names in order, in the program. No conditions but that unicode/utf8's two tables are as their initialisers lay them.
  The walk of layer 2 (name): texts' names in order, in the program. No conditions but that unicode/utf8's two tables are as their initialisers lay them.
-/
import Derived.Test.YthgbfaoblnkniaaGreatDoorZxNameX
import Derived.Test.YthgbfaoblnkniaaGreatDoorZxNameY
import Derived.WalkKit
import Derived.Laws.IdiomStrings
import Derived.Shelf.SlGeneric
import Derived.Ground.NamesProg
import Derived.Shelf.LaysM
import Derived.Shelf.Unicode.ValidAny
import Derived.Test.YthgbfaoblnkniaaGreatDoorProg
import Derived.Laws.RangeAny
import Derived.Ground.SlsfProg
import Derived.Shelf.SlLaysF
import Derived.Shelf.SlLaysF0
import Derived.Shelf.SlSortCmp.NoneTotal
import Derived.Shelf.Slices.CompactS
import Derived.Test.YthgbfaoblnkniaaGreatDoorZa
import Derived.Test.YthgbfaoblnkniaaGreatDoorZb
import Derived.Lib.RowBridge
namespace Go.Proofs.YthgbfaoblnkniaaGreatDoor
open Go.RowKit Go.Lib
theorem one_any (l : List UInt8) (p : Nat) (hp : p < l.length) (hs : l.length ≤ 4611686018427387904) (w : World) :
  Calls Tryz.prog 118 #[.string (bs l), .int .i64 p] w fun e w' => e = .returned (.tuple #[.int .i64 ((oneAt l p).2 : Nat), .int .i64 ((oneAt l p).1 : Nat)]) ∧ w = w' := by
 by_cases h1 : l[p].toNat < 194
 ·exact one_low l p hp (by omega) w
 ·by_cases h2 : l[p].toNat ≤ 223
  ·exact one_two l p hp hs (by omega) h2 w
  ·by_cases h3 : l[p].toNat ≤ 239
   ·exact one_three l p hp hs (by omega) h3 w
   ·by_cases h4 : l[p].toNat ≤ 244
    ·exact one_four l p hp hs (by omega) h4 w
    ·exact one_low l p hp (by omega) w
end Go.Proofs.YthgbfaoblnkniaaGreatDoor

namespace Go.Proofs.YthgbfaoblnkniaaGreatDoor
open Go.RowKit Go.Lib
theorem runes_step (l : List UInt8) (p : Nat) (done : List Nat) (hp : p < l.length) (h : runesU l = done ++ runesU (l.drop p)) :
  runesU l = (done ++ [(oneAt l p).1]) ++ runesU (l.drop (p + (oneAt l p).2)) ∧ 1 ≤ (oneAt l p).2 ∧ p + (oneAt l p).2 ≤ l.length := by
 have hne : l.drop p ≠ [] := by
  intro e
  have := congrArg List.length e
  simp at this
  omega
 have hw := decodeL_le' (l.drop p) hne
 rw [List.length_drop] at hw
 refine ⟨?_, hw.1, by unfold oneAt; omega⟩
 rw [h, runesU_step _ hne, List.append_assoc, List.drop_drop]
 rfl
def ints (r : List Nat) : List Value := r.map fun (n : Nat) => Value.int .i64 (n : Int)
theorem ints_snoc (r : List Nat) (n : Nat) : ints r ++ [.int .i64 (n : Int)] = ints (r ++ [n]) := by simp [ints]
theorem own_row {w : World} {B : Nat} {e : TypeId} {v : Value} {r : List Nat} (h : w.ownsRow B e 1 v r.length (ints r)) (hn : v ≠ .slice none 0 0) :
  ∃ g cap, v = .slice (some ⟨g, 0, none⟩) r.length cap ∧ B ≤ g ∧ g < w.heap.size ∧ r.length ≤ cap ∧ ∀ j, j < r.length → w.cell? ⟨g, j, none⟩ = some (.int .i64 ((r.getD j 0 : Nat) : Int)) := by
 obtain ⟨-, ⟨h0, -⟩ | ⟨g, cap, cur, hv, hB, hw, hc, -, -, ht⟩⟩ := h
 ·exact absurd h0 hn
 ·refine ⟨g, cap, hv, hB, (Array.getElem?_eq_some_iff.1 hw).1, hc, fun j hj => ?_⟩
  have h1 := congrArg (fun x : List Value => x[j]?) ht
  simp only [Nat.mul_one, List.getElem?_take, hj, if_true, Array.getElem?_toList] at h1
  rw [cell_of_row w g j _ _ (0, 0) hw, h1]
  simp [ints, hj]
theorem info_int : (Tryz.prog.info? 3).map (fun i => (i.zero, i.size, i.bytes)) = some (some (.int .i64 0), 1, 8) := by kernel_rfl
set_option maxRecDepth 100000 in
set_option maxHeartbeats 1000000 in
theorem runes_any (l : List UInt8) (hs : l.length ≤ 1000000) (w : World) :
  Calls Tryz.prog 88 #[.string (bs l)] w fun e w' => ∃ g cap, e = .returned (.slice (some ⟨g, 0, none⟩) (runesU l).length cap) ∧ w.heap.size ≤ g ∧ g < w'.heap.size ∧ (runesU l).length ≤ cap ∧
   (∀ j, j < (runesU l).length → w'.cell? ⟨g, j, none⟩ = some (.int .i64 (((runesU l).getD j 0 : Nat) : Int))) ∧ Below w.heap.size w w' := by
 obtain ⟨i0, hi, hz0, hz1, hz2⟩ := info_parts info_int
 go_enter Tryz.func88, Tryz.ntmps88
 go_wp2
 go_loopw [3, 4] (fun v i wr => ∃ p : Nat, ∃ done : List Nat, p ≤ l.length ∧ i = .int .i64 p ∧ wr.ownsRow w.heap.size 3 1 v done.length (ints done) ∧ Below w.heap.size w wr ∧ done.length ≤ p ∧ runesU l = done ++ runesU (l.drop p) ∧ v ≠ .slice none 0 0)
  (fun _ i _ => l.length - (RowKit.intOf i).toNat)
 case atStart =>
  exact ⟨0, [], Nat.zero_le _, rfl, World.ownsRow_made w #[] 0 (Nat.le_refl _) (Nat.zero_le _) rfl, (Below.refl _ _).alloc (Nat.le_refl _) _, Nat.le_refl _, rfl, by simp⟩
 case round =>
  obtain ⟨p, done, hp, rfl, hown, hbw, hdp, hdone, hnn⟩ := hrel
  have HD := Lib.hid hdone
  have HN := Lib.hid hnn
  clear hdone hnn
  by_cases hlt : p < l.length
  ·obtain ⟨s1, s2, s3⟩ := runes_step l p done hlt HD.out
   obtain ⟨D, hD⟩ : ∃ D, oneAt l p = D := ⟨_, rfl⟩
   have HC := Lib.hid (one_any l p hlt (by omega))
   rw [hD] at HC s1 s2 s3
   have HS := Lib.hid s1
   clear s1 hD
   go_wp2_with (first
    | (go_at_call 118; refine (HC.out _).mono ?_; rintro e w1 ⟨rfl, rfl⟩)
    | (at_builtin; refine wpList_append_own _ rfl _ _ 102 rfl w.heap.size 3 i0 (.int .i64 0) 1 8 Tryz.underlying102 hi hz0 hz1 hz2 rfl (by decide) _ _ _ rfl (hown.alloc _) ⟨wr.heap.size, 0, none⟩ 1 1 [.int .i64 (D.1 : Nat)] rfl rfl ?c1 ?c2 ?c3 ?c4 ?c5 ?_))
   case c1 =>
    intro j u hj
    match j, hj with
    | 0, hj => simp at hj; subst hj; simp [Addr.add]
   case c2 => intro u hu; simp at hu; subst hu; rfl
   case c3 => unfold maxLen; omega
   case c4 => omega
   case c5 => have := hbw.size; simp; omega
   ·intro v' w1 hown' hgrow hnil
    have HV := Lib.hid hnil
    clear hnil
    have HO := Lib.hid hown'
    clear hown'
    have hb1 : Below w.heap.size w w1 := (hbw.alloc (by have := hbw.size; omega) _).grown hgrow (by have := hbw.size; simp; omega) (fun k hk => (hown.lt k hk).1)
    go_wp2
    go_roundw
    case rel =>
     refine ⟨p + D.2, done ++ [D.1], s3, by go_num, ?_, hb1, by simp; omega, HS.out, HV.out⟩
     have := HO.out
     rw [ints_snoc] at this
     simpa using this
    case measure => simp [RowKit.intOf]; omega
  ·have e : l.drop p = [] := List.drop_eq_nil_of_le (by omega)
   have h2 := HD.out
   rw [e, runesU_nil, List.append_nil] at h2
   have H2 := Lib.hid h2
   clear h2 e
   go_wp2
   go_ret
   rw [H2.out]
   obtain ⟨g, cap, rfl, h1, h2, h3, h4⟩ := own_row hown HN.out
   exact ⟨g, cap, rfl, h1, h2, h3, h4, hbw⟩
theorem decN_width (n b0 b1 b2 b3 : Nat) : (decodeN n b0 b1 b2 b3).1 = 65533 → (decodeN n b0 b1 b2 b3).2 = 1 ∨ (decodeN n b0 b1 b2 b3).2 = 3 := by
 unfold decodeN
 repeat' split
 all_goals first | (intro _; exact .inl rfl) | (intro _; exact .inr rfl) | (intro h; exfalso; simp only at h; omega)
theorem dec_width (l : List UInt8) (h : (decodeL l).1 = 65533) : (decodeL l).2 = 1 ∨ (decodeL l).2 = 3 := by
 rw [decodeL_N] at h ⊢
 exact decN_width _ _ _ _ _ h
theorem valid_step (l : List UInt8) (p : Nat) (hp : p < l.length) :
  validD (l.drop p) = (if (oneAt l p).1 = 65533 ∧ (oneAt l p).2 ≠ 3 then false else validD (l.drop (p + (oneAt l p).2))) ∧ 1 ≤ (oneAt l p).2 ∧ p + (oneAt l p).2 ≤ l.length := by
 have hne : l.drop p ≠ [] := by
  intro e
  have := congrArg List.length e
  simp at this
  omega
 have hw := decodeL_le' (l.drop p) hne
 have h3 := dec_width (l.drop p)
 rw [List.length_drop] at hw
 refine ⟨?_, hw.1, by unfold oneAt; omega⟩
 rw [validD_step _ hne, List.drop_drop]
 unfold oneAt
 by_cases h : (decodeL (l.drop p)).1 = 65533
 ·rcases h3 h with h4 | h4 <;> simp [h, h4]
 ·simp [h]
set_option maxRecDepth 100000 in
set_option maxHeartbeats 1000000 in
theorem clean_any (l : List UInt8) (hs : l.length ≤ 1000000) (w : World) :
  Calls Tryz.prog 90 #[.string (bs l)] w fun e w' => e = .returned (.bool (validD l)) ∧ w = w' := by
 obtain ⟨R, hR⟩ : ∃ R, validD l = R := ⟨_, rfl⟩
 rw [hR]
 have HR := Lib.hid hR
 clear hR
 go_enter Tryz.func90, Tryz.ntmps90
 go_wp2
 go_loop [3] (fun i => ∃ p : Nat, p ≤ l.length ∧ i = .int .i64 p ∧ validD (l.drop p) = R) (fun i => l.length - (RowKit.intOf i).toNat)
 case atStart => exact ⟨0, Nat.zero_le _, rfl, HR.out⟩
 case round =>
  obtain ⟨p, hp, rfl, hv⟩ := hrel
  have HV := Lib.hid hv
  clear hv
  by_cases hlt : p < l.length
  ·obtain ⟨s1, s2, s3⟩ := valid_step l p hlt
   obtain ⟨D, hD⟩ : ∃ D, oneAt l p = D := ⟨_, rfl⟩
   have HC := Lib.hid (one_any l p hlt (by omega))
   rw [hD] at HC s1 s2 s3
   rw [HV.out] at s1
   have HS := Lib.hid s1
   clear s1 hD
   rcases (show (D.1 = 65533 ∧ D.2 ≠ 3) ∨ (D.1 = 65533 ∧ D.2 = 3) ∨ D.1 ≠ 65533 by omega) with ⟨d1, d2⟩ | ⟨d1, d2⟩ | d1
   ·have H1 := HS.out
    rw [if_pos ⟨d1, d2⟩] at H1
    have H2 := Lib.hid H1
    have e1 : ((D.1 : Int) == 65533) = true := by simp [d1]
    have e2 : ((D.2 : Int) == 3) = false := by simp; omega
    clear H1 d1 d2
    go_wp2_with (go_at_call 118; refine (HC.out _).mono ?_; rintro e w1 ⟨rfl, rfl⟩)
    go_ret
    exact ⟨by rw [H2.out]; rfl, rfl⟩
   ·have H1 := HS.out
    rw [if_neg (by omega)] at H1
    have H2 := Lib.hid H1
    have e1 : ((D.1 : Int) == 65533) = true := by simp [d1]
    have e2 : ((D.2 : Int) == 3) = true := by simp [d2]
    clear H1 d1 d2
    go_wp2_with (go_at_call 118; refine (HC.out _).mono ?_; rintro e w1 ⟨rfl, rfl⟩)
    go_round
    case rel => exact ⟨p + D.2, s3, by go_num, H2.out.symm⟩
    case measure => simp [RowKit.intOf]; omega
   ·have H1 := HS.out
    rw [if_neg (fun x => d1 x.1)] at H1
    have H2 := Lib.hid H1
    have e1 : ((D.1 : Int) == 65533) = false := by simp; omega
    clear H1 d1
    go_wp2_with (go_at_call 118; refine (HC.out _).mono ?_; rintro e w1 ⟨rfl, rfl⟩)
    go_round
    case rel => exact ⟨p + D.2, s3, by go_num, H2.out.symm⟩
    case measure => simp [RowKit.intOf]; omega
  ·have e : l.drop p = [] := List.drop_eq_nil_of_le (by omega)
   have h2 := HV.out
   rw [e, validD_nil] at h2
   have H2 := Lib.hid h2
   clear h2 e
   go_wp2
   go_ret
   exact ⟨by rw [H2.out]; rfl, rfl⟩
end Go.Proofs.YthgbfaoblnkniaaGreatDoor

namespace Go.Proofs.YthgbfaoblnkniaaGreatDoor
open Go.RowKit Go.Lib
set_option maxRecDepth 100000 in
set_option maxHeartbeats 1000000 in
theorem reserved_any (l : List UInt8) (w : World) :
  Calls Tryz.prog 94 #[.string (bs l)] w fun e w' => e = .returned (.bool (resL l)) ∧ w = w' := by
 go_enter Tryz.func94, Tryz.ntmps94
 go_wp2
 all_goals
  go_ret
  refine ⟨?_, rfl⟩
  simp_all [resL]
set_option maxRecDepth 100000 in
set_option maxHeartbeats 1000000 in
theorem digit_any (c : Nat) (hc : c ≤ 1114111) (w : World) :
  Calls Tryz.prog 97 #[.int .i32 c] w fun e w' => e = .returned (.bool (dig c)) ∧ w = w' := by
 rcases (show c < 48 ∨ (48 ≤ c ∧ c ≤ 57) ∨ (48 ≤ c ∧ 57 < c) by omega) with h | ⟨h, h'⟩ | ⟨h, h'⟩
 all_goals
  go_enter Tryz.func97, Tryz.ntmps97
  go_wp2
  go_ret
  refine ⟨?_, rfl⟩
  simp [dig, *]
  try omega
set_option maxRecDepth 100000 in
set_option maxHeartbeats 1000000 in
theorem rreserved_any (l : List UInt8) (w : World) :
  Calls Tryz.prog 89 #[.string (bs l)] w fun e w' => e = .returned (.bool (resL l)) ∧ w = w' := by
 go_enter Tryz.func89, Tryz.ntmps89
 go_wp2
 all_goals
  go_ret
  refine ⟨?_, rfl⟩
  simp_all [resL]
  try (rw [Bool.eq_iff_iff]; simp [*])
set_option maxRecDepth 100000 in
set_option maxHeartbeats 1000000 in
theorem part_any (c : Nat) (hc : c ≤ 1114111) (w : World) :
  Calls Tryz.prog 96 #[.int .i32 c] w fun e w' => e = .returned (.bool (part c)) ∧ w = w' := by
 obtain ⟨G, hG⟩ : ∃ G, dig c = G := ⟨_, rfl⟩
 have HC := Lib.hid (digit_any c hc)
 rw [hG] at HC
 have HG := Lib.hid hG
 clear hG hc
 go_enter Tryz.func96, Tryz.ntmps96
 go_wp2_with (go_at_call 97; refine (HC.out _).mono ?_; rintro e w1 ⟨rfl, rfl⟩)
 all_goals
  go_ret
  refine ⟨?_, rfl⟩
  refine congrArg (fun b => Ending.returned (Value.bool b)) ?_
  rw [Bool.eq_iff_iff]
  simp [part, HG.out]
  try first | omega | (cases G <;> simp_all <;> omega) | (cases G <;> simp_all)
set_option maxRecDepth 100000 in
set_option maxHeartbeats 1000000 in
theorem cmp_any (a b : Int) (w : World) :
  Calls Tryz.prog 142 #[.int .i32 a, .int .i32 b] w fun e w' => e = .returned (.int .i64 (if a < b then -1 else if b < a then 1 else 0)) ∧ w = w' := by
 rcases (show a < b ∨ (¬ a < b ∧ b < a) ∨ (¬ a < b ∧ ¬ b < a) by omega) with h | ⟨h, h'⟩ | ⟨h, h'⟩
 all_goals
  go_enter Tryz.func142, Tryz.ntmps142
  go_wp2
  go_ret
  refine ⟨?_, rfl⟩
  simp [*]
theorem lexCmp_drop (x y : List Nat) (k : Nat) (hx : k < x.length) (hy : k < y.length) :
  lexCmp (x.drop k) (y.drop k) = if x.getD k 0 = y.getD k 0 then lexCmp (x.drop (k + 1)) (y.drop (k + 1)) else if x.getD k 0 < y.getD k 0 then -1 else 1 := by
 rw [List.drop_eq_getElem_cons hx, List.drop_eq_getElem_cons hy]
 simp [lexCmp, hx, hy]
theorem lexCmp_short (x y : List Nat) (k : Nat) (hx : k < x.length) (hy : y.length ≤ k) : lexCmp (x.drop k) (y.drop k) = 1 := by
 rw [List.drop_eq_getElem_cons hx, List.drop_eq_nil_of_le hy]
 rfl
theorem lexCmp_end (x y : List Nat) (k : Nat) (hx : x.length ≤ k) : lexCmp (x.drop k) (y.drop k) = if k < y.length then -1 else 0 := by
 rw [List.drop_eq_nil_of_le hx]
 by_cases hy : k < y.length
 ·rw [List.drop_eq_getElem_cons hy, if_pos hy]
  rfl
 ·rw [List.drop_eq_nil_of_le (by omega), if_neg hy]
  rfl
set_option maxRecDepth 100000 in
set_option maxHeartbeats 2000000 in
theorem compare_any (x y : List Nat) (a b c d : Nat) (w : World) (hx : ∀ j, j < x.length → w.cell? ⟨a, j, none⟩ = some (.int .i32 ((x.getD j 0 : Nat) : Int))) (hy : ∀ j, j < y.length → w.cell? ⟨b, j, none⟩ = some (.int .i32 ((y.getD j 0 : Nat) : Int)))
  (hlx : x.length ≤ 1000000) :
  Calls Tryz.prog 132 #[.slice (some ⟨a, 0, none⟩) x.length c, .slice (some ⟨b, 0, none⟩) y.length d] w fun e w' => e = .returned (.int .i64 (lexCmp x y)) ∧ w = w' := by
 obtain ⟨R, hR⟩ : ∃ R, lexCmp x y = R := ⟨_, rfl⟩
 rw [hR]
 have HR := Lib.hid hR
 have HX := Lib.hid hx
 have HY := Lib.hid hy
 clear hR hx hy
 go_enter Tryz.func132, Tryz.ntmps132
 go_wp2
 go_loop [11] (fun i => ∃ k : Nat, k ≤ x.length ∧ i = .int .i64 k ∧ k ≤ y.length ∧ lexCmp (x.drop k) (y.drop k) = R) (fun i => x.length - (RowKit.intOf i).toNat)
 case atStart => exact ⟨0, Nat.zero_le _, rfl, Nat.zero_le _, HR.out⟩
 case round =>
  obtain ⟨k, hk, rfl, hky, hv⟩ := hrel
  have HV := Lib.hid hv
  clear hv
  by_cases hlt : k < x.length
  ·by_cases hlt2 : k < y.length
   ·have h1 := lexCmp_drop x y k hlt hlt2
    rw [HV.out] at h1
    have c1 := HX.out k hlt
    have c2 := HY.out k hlt2
    obtain ⟨p, hp⟩ : ∃ p, x.getD k 0 = p := ⟨_, rfl⟩
    obtain ⟨q, hq⟩ : ∃ q, y.getD k 0 = q := ⟨_, rfl⟩
    rw [hp] at h1 c1
    rw [hq] at h1 c2
    clear hp hq
    have HC := Lib.hid (cmp_any (p : Int) (q : Int))
    rcases (show p < q ∨ q < p ∨ p = q by omega) with h | h | h
    ·rw [if_neg (by omega), if_pos h] at h1
     rw [if_pos (by omega)] at HC
     have H1 := Lib.hid h1
     clear h1 h
     go_wp2_with (go_at_call 142; refine (HC.out _).mono ?_; rintro e w1 ⟨rfl, rfl⟩)
     go_ret
     exact ⟨by rw [H1.out]; rfl, rfl⟩
    ·rw [if_neg (by omega), if_neg (by omega)] at h1
     rw [if_neg (by omega), if_pos (by omega)] at HC
     have H1 := Lib.hid h1
     clear h1 h
     go_wp2_with (go_at_call 142; refine (HC.out _).mono ?_; rintro e w1 ⟨rfl, rfl⟩)
     go_ret
     exact ⟨by rw [H1.out]; rfl, rfl⟩
    ·rw [if_pos h] at h1
     rw [if_neg (by omega), if_neg (by omega)] at HC
     have H1 := Lib.hid h1
     clear h1 h
     go_wp2_with (go_at_call 142; refine (HC.out _).mono ?_; rintro e w1 ⟨rfl, rfl⟩)
     go_round
     case rel => exact ⟨k + 1, by omega, by go_num, by omega, H1.out.symm⟩
     case measure => simp [RowKit.intOf]; omega
   ·have h1 := lexCmp_short x y k hlt (by omega)
    rw [HV.out] at h1
    have H1 := Lib.hid h1
    have c1 := HX.out k hlt
    clear h1
    go_wp2_with fail
    go_ret
    exact ⟨by rw [H1.out]; rfl, rfl⟩
  ·have h1 := lexCmp_end x y k (by omega)
   rw [HV.out] at h1
   by_cases hlt2 : k < y.length
   ·rw [if_pos hlt2] at h1
    have H1 := Lib.hid h1
    clear h1
    go_wp2_with fail
    go_ret
    exact ⟨by rw [H1.out]; rfl, rfl⟩
   ·rw [if_neg hlt2] at h1
    have H1 := Lib.hid h1
    clear h1
    go_wp2_with fail
    go_ret
    exact ⟨by rw [H1.out]; rfl, rfl⟩
end Go.Proofs.YthgbfaoblnkniaaGreatDoor

namespace Go.Proofs.YthgbfaoblnkniaaGreatDoor
open Go.RowKit Go.Lib
def rowR (w : World) (l : List UInt8) : Array Value :=
 ((runesU l).map fun (n : Nat) => Value.int .i32 (n : Int)).toArray ++ Array.replicate (grownCap w (runesU l).length 0 21 - (runesU l).length) (.int .i32 0)
theorem conv_runes (l : List UInt8) (hs : l.length ≤ 1000000) (w : World) :
  (convert 9 180 (.string (bs l))).run Tryz.prog w = .ok (.slice (some ⟨w.heap.size, 0, none⟩) (runesU l).length (grownCap w (runesU l).length 0 21)) (w.drew.alloc (.cells (rowR w l) 21)) := by
 have h := run_runes_of_string (P := Tryz.prog) w 9 180 21 (bs l) Tryz.underlying9 Tryz.underlying180 Tryz.underlying21
 have e := runesFrom_all l
 have hl := runesU_length l
 have hz : (Conv.runesFrom (bs l) (bs l).size 0 #[]).size = (runesU l).length := by rw [e]; simp
 rw [hz, e] at h
 exact h (by omega)
theorem rowR_cell (w w' : World) (l : List UInt8) (j : Nat) (hj : j < (runesU l).length) : (w'.alloc (.cells (rowR w l) 21)).cell? ⟨w'.heap.size, j, none⟩ = some (.int .i32 (((runesU l).getD j 0 : Nat) : Int)) := by
 rw [cell_of_row _ _ j _ _ (0, 0) (heap_alloc_new w' _)]
 unfold rowR
 rw [Array.getElem?_append_left (by simpa using hj)]
 simp [hj]
set_option maxRecDepth 100000 in
set_option maxHeartbeats 1000000 in
theorem ncompare_any (a b : List UInt8) (ha : a.length ≤ 1000000) (hb : b.length ≤ 1000000) (w : World) :
  Calls Tryz.prog 119 #[.string (bs a), .string (bs b)] w fun e w' => e = .returned (.int .i64 (lexCmp (runesU a) (runesU b))) ∧ Below w.heap.size w w' := by
 have hca := conv_runes a ha
 have hcb := conv_runes b hb
 go_enter Tryz.func119, Tryz.ntmps119
 go_wp2_with fail
 refine (compare_any (runesU a) (runesU b) _ _ _ _ _ ?_ ?_ (by have := runesU_length a; omega)).mono ?_
 ·intro j hj
  exact cell_past _ (cell_drew (rowR_cell w w.drew a j hj))
 ·intro j hj
  have h := rowR_cell (w.alloc (.cells (rowR w a) 21)).drew (w.alloc (.cells (rowR w a) 21)) b j hj
  rw [show (w.alloc (.cells (rowR w a) 21)).heap.size = w.heap.size + 1 by simp] at h
  exact cell_drew (cell_drew h)
 ·rintro e w1 ⟨rfl, rfl⟩
  go_wp2_with fail
  go_ret
  exact ⟨rfl, by (repeat' (first | (with_reducible exact Below.refl _ _) | (with_reducible assumption) | (refine below_next ?_ (by with_reducible assumption)) | (with_reducible refine Below.alloc ?_ ?_ _) | (with_reducible refine Below.drew ?_) | (with_reducible refine below_drewN ?_ _) | omega | (simp; done) | (simp; omega)))⟩
set_option maxRecDepth 100000 in
set_option maxHeartbeats 1000000 in
theorem nless_any (a b : List UInt8) (ha : a.length ≤ 1000000) (hb : b.length ≤ 1000000) (w : World) :
  Calls Tryz.prog 91 #[.string (bs a), .string (bs b)] w fun e w' => e = .returned (.bool (lexLess (runesU a) (runesU b))) ∧ Below w.heap.size w w' := by
 have HC := Lib.hid (ncompare_any a b ha hb)
 have HL := Lib.hid (lexCmp_less (runesU a) (runesU b))
 generalize lexLess (runesU a) (runesU b) = L at *
 generalize lexCmp (runesU a) (runesU b) = C at *
 go_enter Tryz.func91, Tryz.ntmps91
 go_wp2_with (go_at_call 119; refine (HC.out _).mono ?_; rintro e w1 ⟨rfl, hw1⟩)
 go_ret
 exact ⟨by rw [HL.out]; rfl, hw1⟩
theorem lexLess_drop (x y : List Nat) (k : Nat) (hx : k < x.length) (hy : k < y.length) :
  lexLess (x.drop k) (y.drop k) = if x.getD k 0 = y.getD k 0 then lexLess (x.drop (k + 1)) (y.drop (k + 1)) else decide (x.getD k 0 < y.getD k 0) := by
 rw [List.drop_eq_getElem_cons hx, List.drop_eq_getElem_cons hy]
 simp [lexLess, hx, hy]
theorem lexLess_end (x y : List Nat) (k : Nat) (h : x.length ≤ k ∨ y.length ≤ k) (hx : k ≤ x.length) (hy : k ≤ y.length) : lexLess (x.drop k) (y.drop k) = decide (x.length < y.length) := by
 by_cases h1 : x.length ≤ k
 ·rw [List.drop_eq_nil_of_le h1]
  by_cases h2 : k < y.length
  ·rw [List.drop_eq_getElem_cons h2]
   simp [lexLess]; omega
  ·rw [List.drop_eq_nil_of_le (by omega)]
   simp [lexLess]; omega
 ·rw [List.drop_eq_nil_of_le (show y.length ≤ k by omega), List.drop_eq_getElem_cons (show k < x.length by omega)]
  simp [lexLess]; omega
set_option maxRecDepth 100000 in
set_option maxHeartbeats 2000000 in
theorem rless_any (a b : List UInt8) (ha : a.length ≤ 1000000) (hb : b.length ≤ 1000000) (w : World) :
  Calls Tryz.prog 60 #[.string (bs a), .string (bs b)] w fun e w' => e = .returned (.bool (lexLess (runesU a) (runesU b))) ∧ Below w.heap.size w w' := by
 have HA := Lib.hid (runes_any a ha)
 have HB := Lib.hid (runes_any b hb)
 have hla := runesU_length a
 have hlb := runesU_length b
 generalize runesU a = x at *
 generalize runesU b = y at *
 obtain ⟨R, hR⟩ : ∃ R, lexLess x y = R := ⟨_, rfl⟩
 rw [hR]
 have HR := Lib.hid hR
 have hlx : x.length ≤ 1000000 := by omega
 have hly : y.length ≤ 1000000 := by omega
 clear hR hla hlb
 go_enter Tryz.func60, Tryz.ntmps60
 go_wp2_with fail
 refine (HA.out _).mono ?_
 rintro e w1 ⟨g, c, rfl, hg, hgs, hgc, hx, hb1⟩
 go_wp2_with fail
 refine (HB.out _).mono ?_
 rintro e w2 ⟨g', c', rfl, hg', hgs', hgc', hy, hb2⟩
 have hx2 : ∀ j, j < x.length → w2.cell? ⟨g, j, none⟩ = some (.int .i64 ((x.getD j 0 : Nat) : Int)) := fun j hj => cell_later hb2 (hx j hj)
 have hbw := below_next hb1 hb2
 have HX := Lib.hid hx2
 have HY := Lib.hid hy
 clear hx hx2 hy hb1 hb2 hg hgs hg' hgs' HA HB
 go_wp2_with fail
 go_loopw [7] (fun i wr => ∃ k : Nat, k ≤ x.length ∧ i = .int .i64 k ∧ k ≤ y.length ∧ lexLess (x.drop k) (y.drop k) = R ∧ ∃ n, wr = w2.drewN n) (fun i _ => x.length - (RowKit.intOf i).toNat)
 case atStart => exact ⟨0, Nat.zero_le _, rfl, Nat.zero_le _, HR.out, 0, rfl⟩
 case round =>
  obtain ⟨k, hk, rfl, hky, hv, n, rfl⟩ := hrel
  have HV := Lib.hid hv
  clear hv
  by_cases hlt : k < x.length ∧ k < y.length
  ·have c1 := HX.out k hlt.1
   have c2 := HY.out k hlt.2
   have h1 := lexLess_drop x y k hlt.1 hlt.2
   rw [HV.out] at h1
   obtain ⟨hk1, hk2⟩ := hlt
   obtain ⟨p, hp⟩ : ∃ p, x.getD k 0 = p := ⟨_, rfl⟩
   obtain ⟨q, hq⟩ : ∃ q, y.getD k 0 = q := ⟨_, rfl⟩
   rw [hp] at h1 c1
   rw [hq] at h1 c2
   clear hp hq
   by_cases h : p = q
   ·rw [if_pos h] at h1
    have H1 := Lib.hid h1
    have e1 : ((p : Int) != (q : Int)) = false := by simp [h]
    clear h1 h
    go_wp2_with fail
    go_region
    go_wp2_with fail
    go_roundw
    case rel => exact ⟨k + 1, by omega, by go_num, by omega, H1.out.symm, n + 1, rfl⟩
    case measure => simp [RowKit.intOf]; omega
   ·rw [if_neg h] at h1
    have H1 := Lib.hid h1
    have e1 : ((p : Int) != (q : Int)) = true := by simp; omega
    clear h1 h
    go_wp2_with fail
    go_region
    go_wp2_with fail
    go_region
    go_wp2_with fail
    go_ret
    exact ⟨by rw [H1.out]; first | rfl | simp, (Go.below_drewN hbw n).drew.drew⟩
  ·have h1 := lexLess_end x y k (by omega) hk hky
   rw [HV.out] at h1
   have H1 := Lib.hid h1
   clear h1
   by_cases hx1 : k < x.length
   ·have hy1 : ¬ k < y.length := fun h => hlt ⟨hx1, h⟩
    clear hlt
    go_wp2_with fail
    go_ret
    refine ⟨?_, Go.below_drewN hbw n⟩
    rw [H1.out]
    simp
   ·clear hlt
    go_wp2_with fail
    go_ret
    refine ⟨?_, Go.below_drewN hbw n⟩
    rw [H1.out]
    simp
end Go.Proofs.YthgbfaoblnkniaaGreatDoor

namespace Go.Proofs
open Go.Shelf
def Tryz.laysValid_ren : Go.Shelf.Ren := ⟨fun | 196 => 95 | 259 => 120 | n => n, fun | 9 => 9 | 4 => 4 | 3 => 3 | 5 => 5 | 12 => 12 | 119 => 169 | 0 => 0 | 46 => 173 | 139 => 172 | 138 => 171 | 53 => 181 | n => n, fun | 3 => 1 | 4 => 2 | n => n⟩
theorem Tryz.laysValid : Go.Proofs.Lays.n196 Tryz.prog Tryz.laysValid_ren := {
 mixed := by kernel_rfl
 f196 := Tryz.func95.trans (congrArg some (by kernel_rfl))
 f259 := Tryz.func120.trans (congrArg some (by kernel_rfl))
 t0 := Tryz.underlying0
 a0 := Tryz.isAgg0
 z0 := Tryz.sizeOf0
 v0 := Tryz.zeroValue0
 t3 := Tryz.underlying3
 a3 := Tryz.isAgg3
 z3 := Tryz.sizeOf3
 v3 := Tryz.zeroValue3
 t4 := Tryz.underlying4
 a4 := Tryz.isAgg4
 z4 := Tryz.sizeOf4
 v4 := Tryz.zeroValue4
 t5 := Tryz.underlying5
 a5 := Tryz.isAgg5
 z5 := Tryz.sizeOf5
 v5 := Tryz.zeroValue5
 t9 := Tryz.underlying9
 a9 := Tryz.isAgg9
 z9 := Tryz.sizeOf9
 v9 := Tryz.zeroValue9
 t12 := Tryz.underlying12
 a12 := Tryz.isAgg12
 z12 := Tryz.sizeOf12
 v12 := Tryz.zeroValue12
 t46 := Tryz.underlying173
 a46 := Tryz.isAgg173
 z46 := Tryz.sizeOf173
 v46 := Tryz.zeroValue173
 t53 := Tryz.underlying181
 a53 := Tryz.isAgg181
 z53 := Tryz.sizeOf181
 v53 := Tryz.zeroValue181
 t119 := Tryz.underlying169
 a119 := Tryz.isAgg169
 z119 := Tryz.sizeOf169
 t138 := Tryz.underlying171
 a138 := Tryz.isAgg171
 z138 := Tryz.sizeOf171
 v138 := Tryz.zeroValue171
 t139 := Tryz.underlying172
 a139 := Tryz.isAgg172
 z139 := Tryz.sizeOf172
 v139 := Tryz.zeroValue172
 g3 := by kernel_rfl
 g4 := by kernel_rfl }
end Go.Proofs

namespace Go.Proofs.YthgbfaoblnkniaaGreatDoor
open Go.RowKit Go.Lib
theorem valid_any (l : List UInt8) (hs : l.length ≤ 1000000) (w : World) (hT : Lib.Utf8Tabs 1 2 w) :
  Calls Tryz.prog 95 #[.string (bs l)] w fun e w' => e = .returned (.bool (validD l)) ∧ Below w.heap.size w w' := by
 have h := Any.utf8_ValidString Tryz.laysValid (bs l) w (by rw [bs_size]; omega) hT
 have e : (bs l).data.toList = l := by simp [bs]
 rw [e] at h
 exact h
theorem next_at (l : List UInt8) (p : Nat) (hp : p < l.length) (w : World) (ty : TypeId) :
  (Instr.next (.pointer (some ⟨w.heap.size, 0, none⟩)) true ty).run Tryz.prog (w.iter (bs l) p) = .ok (.tuple #[.bool true, .int .i64 p, .int .i32 ((oneAt l p).1 : Nat)]) (w.iter (bs l) (p + (oneAt l p).2)) := by
 have h := run_next_any (P := Tryz.prog) w (bs l) p ty (by rw [bs_size]; exact hp)
 rw [← decodeL_drop] at h
 have e : (bs l).data.toList = l := by simp [bs]
 rw [e] at h
 exact h
theorem iter_below (w : World) (s : ByteArray) (p : Nat) : Below w.heap.size w (w.iter s p) := (Below.refl _ _).alloc (Nat.le_refl _) _
theorem word_bad (done rest : List Nat) (c : Nat) (h : part c = false) : word (done ++ c :: rest) = false := by
 simp [word, h]
theorem word_dig (rest : List Nat) (c : Nat) (h : dig c = true) : word (c :: rest) = false := by
 simp [word, h]
theorem word_end (done : List Nat) (h : done.all part = true) (h0 : done ≠ [] → dig (done.getD 0 0) = false) : word done = (decide (0 < done.length) && decide (done.length ≤ 20)) := by
 unfold word
 rw [h]
 cases done with
 | nil => rfl
 | cons a r => rw [h0 (by simp)]; simp
set_option maxRecDepth 100000 in
set_option maxHeartbeats 2000000 in
theorem nis_any (l : List UInt8) (hs : l.length ≤ 1000000) (w : World) (hT : Lib.Utf8Tabs 1 2 w) :
  Calls Tryz.prog 68 #[.string (bs l)] w fun e w' => e = .returned (.bool (nameL l)) ∧ Below w.heap.size w w' := by
 have HS := Lib.hid (reserved_any l)
 have HV := Lib.hid (valid_any l hs w hT)
 clear hT
 have hN : nameL l = (!resL l && validD l && word (runesU l)) := rfl
 rw [hN]
 clear hN
 generalize validD l = V at *
 generalize resL l = S at *
 cases S with
 | true =>
  go_enter Tryz.func68, Tryz.ntmps68
  go_wp2_with (go_at_call 94; refine (HS.out _).mono ?_; rintro e w2 ⟨rfl, rfl⟩)
  go_ret
  exact ⟨rfl, Below.refl _ _⟩
 | false =>
  cases V with
  | false =>
   go_enter Tryz.func68, Tryz.ntmps68
   go_wp2_with (first | (go_at_call 94; refine (HS.out _).mono ?_; rintro e w2 ⟨rfl, rfl⟩) | (go_at_call 95; refine HV.out.mono ?_; rintro e w2 ⟨rfl, hb2⟩))
   go_ret
   exact ⟨rfl, hb2⟩
  | true =>
   obtain ⟨R, hR⟩ : ∃ R, (!false && true && word (runesU l)) = R := ⟨_, rfl⟩
   have HR := Lib.hid hR
   rw [hR]
   clear hR
   go_enter Tryz.func68, Tryz.ntmps68
   go_wp2_with (first | (go_at_call 94; refine (HS.out _).mono ?_; rintro e w2 ⟨rfl, rfl⟩) | (go_at_call 95; refine HV.out.mono ?_; rintro e w2 ⟨rfl, hb2⟩))
   clear HS HV
   go_loopw [3] (fun i wr => ∃ p : Nat, ∃ done : List Nat, p ≤ l.length ∧ i = .int .i64 done.length ∧ wr = w2.iter (bs l) p ∧ done.length ≤ p ∧ runesU l = done ++ runesU (l.drop p) ∧ done.all part = true ∧ (done ≠ [] → dig (done.getD 0 0) = false))
    (fun _ wr => l.length - wr.iterPos w2.heap.size)
   case atStart => exact ⟨0, [], Nat.zero_le _, rfl, rfl, Nat.le_refl _, rfl, rfl, fun h => absurd rfl h⟩
   case round =>
    obtain ⟨p, done, hp, rfl, rfl, hdp, hd, hall, hdig⟩ := hrel
    have HD := Lib.hid hd
    have HL := Lib.hid hall
    have HG := Lib.hid hdig
    clear hd hall hdig
    by_cases hlt : p < l.length
    ·obtain ⟨s1, s2, s3⟩ := runes_step l p done hlt HD.out
     have hnx := next_at l p hlt w2
     have hr : (oneAt l p).1 ≤ 1114111 := decodeL_rune _
     obtain ⟨D, hD⟩ : ∃ D, oneAt l p = D := ⟨_, rfl⟩
     rw [hD] at s1 s2 s3 hnx hr
     have HS1 := Lib.hid s1
     have HCP := Lib.hid (part_any D.1 hr)
     have HCD := Lib.hid (digit_any D.1 hr)
     clear s1 hD
     by_cases hpt : part D.1 = true
     ·have HL2 : RowKit.Hid ((done ++ [D.1]).all part = true) := Lib.hid (by rw [List.all_append, HL.out]; simp [hpt])
      rw [hpt] at HCP
      by_cases hn : done.length = 0
      ·have e0 : ((done.length : Int) == 0) = true := by simp [hn]
       have hnil : done = [] := List.eq_nil_of_length_eq_zero hn
       have HNil := Lib.hid hnil
       clear hnil hpt
       by_cases hdg : dig D.1 = true
       ·have H1 : RowKit.Hid (R = false) := Lib.hid (by have h1 := HS1.out; rw [HNil.out] at h1; rw [← HR.out, h1]; simpa using word_dig _ _ hdg)
        rw [hdg] at HCD
        clear hdg hn
        go_wp2_with (first | (go_at_call 96; refine (HCP.out _).mono ?_; rintro e w4 ⟨rfl, rfl⟩) | (go_at_call 97; refine (HCD.out _).mono ?_; rintro e w4 ⟨rfl, rfl⟩))
        go_ret
        refine ⟨by rw [H1.out]; rfl, below_next hb2 (iter_below _ _ _)⟩
       ·have hdf : dig D.1 = false := by simpa using hdg
        have HG2 : RowKit.Hid (done ++ [D.1] ≠ [] → dig ((done ++ [D.1]).getD 0 0) = false) := Lib.hid (by rw [HNil.out]; simpa using hdf)
        rw [hdf] at HCD
        clear hdg hdf hn
        go_wp2_with (first | (go_at_call 96; refine (HCP.out _).mono ?_; rintro e w4 ⟨rfl, rfl⟩) | (go_at_call 97; refine (HCD.out _).mono ?_; rintro e w4 ⟨rfl, rfl⟩))
        go_roundw
        case rel => exact ⟨p + D.2, done ++ [D.1], s3, by simp, rfl, by simp; omega, HS1.out, HL2.out, HG2.out⟩
        case measure => simp; omega
      ·have e0 : ((done.length : Int) == 0) = false := beq_eq_false_iff_ne.2 (by omega)
       have HG2 : RowKit.Hid (done ++ [D.1] ≠ [] → dig ((done ++ [D.1]).getD 0 0) = false) := Lib.hid (by
        have h1 : done ≠ [] := fun e => hn (by rw [e]; rfl)
        intro _
        rw [← HG.out h1]
        cases done with
        | nil => exact absurd rfl h1
        | cons a t => rfl)
       have hlen : done.length ≤ 1000000 := by omega
       clear hn hpt
       go_wp2_with (first | (go_at_call 96; refine (HCP.out _).mono ?_; rintro e w4 ⟨rfl, rfl⟩) | (go_at_call 97; refine (HCD.out _).mono ?_; rintro e w4 ⟨rfl, rfl⟩))
       go_roundw
       case rel => exact ⟨p + D.2, done ++ [D.1], s3, by simp, rfl, by simp; omega, HS1.out, HL2.out, HG2.out⟩
       case measure => simp; omega
     ·have hpf : part D.1 = false := by simpa using hpt
      have H1 : RowKit.Hid (R = false) := Lib.hid (by have h1 := HS1.out; rw [← HR.out, h1, List.append_assoc]; simpa using word_bad done _ _ hpf)
      rw [hpf] at HCP
      clear hpf hpt
      go_wp2_with (first | (go_at_call 96; refine (HCP.out _).mono ?_; rintro e w4 ⟨rfl, rfl⟩) | (go_at_call 97; refine (HCD.out _).mono ?_; rintro e w4 ⟨rfl, rfl⟩))
      go_ret
      exact ⟨by rw [H1.out]; rfl, below_next hb2 (iter_below _ _ _)⟩
    ·have hnx := fun ty => run_next_end (P := Tryz.prog) w2 (bs l) p ty (by rw [bs_size]; exact hlt)
     have H1 : RowKit.Hid (R = (decide (0 < done.length) && decide (done.length ≤ 20))) := Lib.hid (by
      have h1 := HD.out
      rw [List.drop_eq_nil_of_le (by omega), runesU_nil, List.append_nil] at h1
      rw [← HR.out, h1]
      simpa using word_end done HL.out HG.out)
     go_wp2_with fail
     all_goals
      go_ret
      refine ⟨?_, below_next hb2 (iter_below _ _ _)⟩
      rw [H1.out]
      refine congrArg (fun b => Ending.returned (Value.bool b)) ?_
      rw [Bool.eq_iff_iff]
      simp
      try omega
end Go.Proofs.YthgbfaoblnkniaaGreatDoor

namespace Go.Proofs
open Go.Shelf
def Tryz.laysSort_ren : Go.Shelf.Ren := ⟨fun | 6 => 129 | 15 => 141 | 14 => 140 | 28 => 158 | 29 => 159 | 20 => 150 | 21 => 151 | 22 => 152 | 23 => 153 | 24 => 154 | 25 => 155 | 26 => 156 | 27 => 157 | 46 => 163 | 47 => 164 | 48 => 165 | 49 => 166 | 50 => 167 | 57 => 168 | n => n, fun | 22 => 22 | 24 => 9 | 25 => 165 | 3 => 3 | 39 => 173 | 0 => 0 | 53 => 199 | 55 => 181 | 4 => 4 | 46 => 193 | 45 => 192 | 50 => 100 | 5 => 5 | 9 => 9 | 66 => 203 | 70 => 207 | 76 => 209 | 77 => 163 | n => n, fun | n => n⟩
theorem Tryz.laysSort : Go.Proofs.SlLaysF.n6 Tryz.prog Tryz.laysSort_ren := {
 mixed := by kernel_rfl
 f6 := ⟨Tryz.f129.name, by decide, Tryz.func129.trans (congrArg some (by kernel_rfl))⟩
 f14 := ⟨Tryz.f140.name, by decide, Tryz.func140.trans (congrArg some (by kernel_rfl))⟩
 f15 := Tryz.func141.trans (congrArg some (by kernel_rfl))
 f20 := ⟨Tryz.f150.name, by decide, Tryz.func150.trans (congrArg some (by kernel_rfl))⟩
 f21 := ⟨Tryz.f151.name, by decide, Tryz.func151.trans (congrArg some (by kernel_rfl))⟩
 f22 := ⟨Tryz.f152.name, by decide, Tryz.func152.trans (congrArg some (by kernel_rfl))⟩
 f23 := ⟨Tryz.f153.name, by decide, Tryz.func153.trans (congrArg some (by kernel_rfl))⟩
 f24 := ⟨Tryz.f154.name, by decide, Tryz.func154.trans (congrArg some (by kernel_rfl))⟩
 f25 := ⟨Tryz.f155.name, by decide, Tryz.func155.trans (congrArg some (by kernel_rfl))⟩
 f26 := ⟨Tryz.f156.name, by decide, Tryz.func156.trans (congrArg some (by kernel_rfl))⟩
 f27 := ⟨Tryz.f157.name, by decide, Tryz.func157.trans (congrArg some (by kernel_rfl))⟩
 f28 := Tryz.func158.trans (congrArg some (by kernel_rfl))
 f29 := Tryz.func159.trans (congrArg some (by kernel_rfl))
 f46 := ⟨Tryz.f163.name, by decide, Tryz.func163.trans (congrArg some (by kernel_rfl))⟩
 f47 := Tryz.func164.trans (congrArg some (by kernel_rfl))
 f48 := Tryz.func165.trans (congrArg some (by kernel_rfl))
 f49 := ⟨Tryz.f166.name, by decide, Tryz.func166.trans (congrArg some (by kernel_rfl))⟩
 f50 := ⟨Tryz.f167.name, by decide, Tryz.func167.trans (congrArg some (by kernel_rfl))⟩
 f57 := ⟨Tryz.f168.name, by decide, Tryz.func168.trans (congrArg some (by kernel_rfl))⟩
 t0 := Tryz.underlying0
 a0 := Tryz.isAgg0
 z0 := Tryz.sizeOf0
 v0 := Tryz.zeroValue0
 t3 := Tryz.underlying3
 a3 := Tryz.isAgg3
 z3 := Tryz.sizeOf3
 v3 := Tryz.zeroValue3
 t4 := Tryz.underlying4
 a4 := Tryz.isAgg4
 z4 := Tryz.sizeOf4
 v4 := Tryz.zeroValue4
 t5 := Tryz.underlying5
 a5 := Tryz.isAgg5
 z5 := Tryz.sizeOf5
 v5 := Tryz.zeroValue5
 t9 := Tryz.underlying9
 a9 := Tryz.isAgg9
 z9 := Tryz.sizeOf9
 v9 := Tryz.zeroValue9
 t22 := Tryz.underlying22
 a22 := Tryz.isAgg22
 z22 := Tryz.sizeOf22
 v22 := Tryz.zeroValue22
 a24 := Tryz.isAgg9
 z24 := Tryz.sizeOf9
 t25 := Tryz.underlying165
 a25 := Tryz.isAgg165
 z25 := Tryz.sizeOf165
 v25 := Tryz.zeroValue165
 t39 := Tryz.underlying173
 a39 := Tryz.isAgg173
 z39 := Tryz.sizeOf173
 v39 := Tryz.zeroValue173
 t45 := Tryz.underlying192
 a45 := Tryz.isAgg192
 z45 := Tryz.sizeOf192
 v45 := Tryz.zeroValue192
 t46 := Tryz.underlying193
 a46 := Tryz.isAgg193
 z46 := Tryz.sizeOf193
 v46 := Tryz.zeroValue193
 t50 := Tryz.underlying100
 a50 := Tryz.isAgg100
 z50 := Tryz.sizeOf100
 v50 := Tryz.zeroValue100
 t53 := Tryz.underlying199
 a53 := Tryz.isAgg199
 z53 := Tryz.sizeOf199
 v53 := Tryz.zeroValue199
 t55 := Tryz.underlying181
 a55 := Tryz.isAgg181
 z55 := Tryz.sizeOf181
 v55 := Tryz.zeroValue181
 t66 := Tryz.underlying203
 a66 := Tryz.isAgg203
 z66 := Tryz.sizeOf203
 v66 := Tryz.zeroValue203
 t70 := Tryz.underlying207
 a70 := Tryz.isAgg207
 z70 := Tryz.sizeOf207
 v70 := Tryz.zeroValue207
 t76 := Tryz.underlying209
 a76 := Tryz.isAgg209
 z76 := Tryz.sizeOf209
 v76 := Tryz.zeroValue209
 t77 := Tryz.underlying163
 a77 := Tryz.isAgg163
 z77 := Tryz.sizeOf163
 v77 := Tryz.zeroValue163 }
def Tryz.laysSort0_ren : Go.Shelf.Ren := ⟨fun | 6 => 129 | 15 => 141 | 14 => 140 | 28 => 158 | 29 => 159 | 20 => 150 | 21 => 151 | 22 => 152 | 23 => 153 | 24 => 154 | 25 => 155 | 26 => 156 | 27 => 157 | 46 => 163 | 47 => 164 | 48 => 165 | 49 => 166 | 50 => 167 | 57 => 168 | n => n, fun | 22 => 22 | 24 => 9 | 25 => 165 | 3 => 3 | 39 => 173 | 0 => 0 | 53 => 199 | 55 => 181 | 4 => 4 | 46 => 193 | 45 => 192 | 50 => 100 | 5 => 5 | 9 => 9 | 66 => 203 | 70 => 207 | 76 => 209 | 77 => 163 | n => n, fun | n => n⟩
theorem Tryz.laysSort0 : Go.Proofs.SlLaysF0.n6 Tryz.prog Tryz.laysSort0_ren := {
 mixed := by kernel_rfl
 f6 := ⟨Tryz.f129.name, by decide, Tryz.func129.trans (congrArg some (by kernel_rfl))⟩
 f14 := ⟨Tryz.f140.name, by decide, Tryz.func140.trans (congrArg some (by kernel_rfl))⟩
 f15 := Tryz.func141.trans (congrArg some (by kernel_rfl))
 f20 := ⟨Tryz.f150.name, by decide, Tryz.func150.trans (congrArg some (by kernel_rfl))⟩
 f21 := ⟨Tryz.f151.name, by decide, Tryz.func151.trans (congrArg some (by kernel_rfl))⟩
 f22 := ⟨Tryz.f152.name, by decide, Tryz.func152.trans (congrArg some (by kernel_rfl))⟩
 f23 := ⟨Tryz.f153.name, by decide, Tryz.func153.trans (congrArg some (by kernel_rfl))⟩
 f24 := ⟨Tryz.f154.name, by decide, Tryz.func154.trans (congrArg some (by kernel_rfl))⟩
 f25 := ⟨Tryz.f155.name, by decide, Tryz.func155.trans (congrArg some (by kernel_rfl))⟩
 f26 := ⟨Tryz.f156.name, by decide, Tryz.func156.trans (congrArg some (by kernel_rfl))⟩
 f27 := ⟨Tryz.f157.name, by decide, Tryz.func157.trans (congrArg some (by kernel_rfl))⟩
 f28 := Tryz.func158.trans (congrArg some (by kernel_rfl))
 f29 := Tryz.func159.trans (congrArg some (by kernel_rfl))
 f46 := ⟨Tryz.f163.name, by decide, Tryz.func163.trans (congrArg some (by kernel_rfl))⟩
 f47 := Tryz.func164.trans (congrArg some (by kernel_rfl))
 f48 := Tryz.func165.trans (congrArg some (by kernel_rfl))
 f49 := ⟨Tryz.f166.name, by decide, Tryz.func166.trans (congrArg some (by kernel_rfl))⟩
 f50 := ⟨Tryz.f167.name, by decide, Tryz.func167.trans (congrArg some (by kernel_rfl))⟩
 f57 := ⟨Tryz.f168.name, by decide, Tryz.func168.trans (congrArg some (by kernel_rfl))⟩
 t0 := Tryz.underlying0
 a0 := Tryz.isAgg0
 z0 := Tryz.sizeOf0
 v0 := Tryz.zeroValue0
 t3 := Tryz.underlying3
 a3 := Tryz.isAgg3
 z3 := Tryz.sizeOf3
 v3 := Tryz.zeroValue3
 t4 := Tryz.underlying4
 a4 := Tryz.isAgg4
 z4 := Tryz.sizeOf4
 v4 := Tryz.zeroValue4
 t5 := Tryz.underlying5
 a5 := Tryz.isAgg5
 z5 := Tryz.sizeOf5
 v5 := Tryz.zeroValue5
 t9 := Tryz.underlying9
 a9 := Tryz.isAgg9
 z9 := Tryz.sizeOf9
 v9 := Tryz.zeroValue9
 t22 := Tryz.underlying22
 a22 := Tryz.isAgg22
 z22 := Tryz.sizeOf22
 v22 := Tryz.zeroValue22
 t25 := Tryz.underlying165
 a25 := Tryz.isAgg165
 z25 := Tryz.sizeOf165
 v25 := Tryz.zeroValue165
 t39 := Tryz.underlying173
 a39 := Tryz.isAgg173
 z39 := Tryz.sizeOf173
 v39 := Tryz.zeroValue173
 t45 := Tryz.underlying192
 a45 := Tryz.isAgg192
 z45 := Tryz.sizeOf192
 v45 := Tryz.zeroValue192
 t46 := Tryz.underlying193
 a46 := Tryz.isAgg193
 z46 := Tryz.sizeOf193
 v46 := Tryz.zeroValue193
 t50 := Tryz.underlying100
 a50 := Tryz.isAgg100
 z50 := Tryz.sizeOf100
 v50 := Tryz.zeroValue100
 t53 := Tryz.underlying199
 a53 := Tryz.isAgg199
 z53 := Tryz.sizeOf199
 v53 := Tryz.zeroValue199
 t55 := Tryz.underlying181
 a55 := Tryz.isAgg181
 z55 := Tryz.sizeOf181
 v55 := Tryz.zeroValue181
 t66 := Tryz.underlying203
 a66 := Tryz.isAgg203
 z66 := Tryz.sizeOf203
 v66 := Tryz.zeroValue203
 t70 := Tryz.underlying207
 a70 := Tryz.isAgg207
 z70 := Tryz.sizeOf207
 v70 := Tryz.zeroValue207
 t76 := Tryz.underlying209
 a76 := Tryz.isAgg209
 z76 := Tryz.sizeOf209
 v76 := Tryz.zeroValue209
 t77 := Tryz.underlying163
 a77 := Tryz.isAgg163
 z77 := Tryz.sizeOf163
 v77 := Tryz.zeroValue163 }
def Tryz.laysCompact_ren : Go.Shelf.Ren := ⟨fun | 194 => 130 | n => n, fun | 31 => 22 | 9 => 9 | 3 => 3 | 4 => 4 | 0 => 0 | n => n, fun | n => n⟩
theorem Tryz.laysCompact : Go.Proofs.Lays.n194 Tryz.prog Tryz.laysCompact_ren := {
 mixed := by kernel_rfl
 f194 := Tryz.func130.trans (congrArg some (by kernel_rfl))
 t0 := Tryz.underlying0
 a0 := Tryz.isAgg0
 z0 := Tryz.sizeOf0
 v0 := Tryz.zeroValue0
 t3 := Tryz.underlying3
 a3 := Tryz.isAgg3
 z3 := Tryz.sizeOf3
 v3 := Tryz.zeroValue3
 t4 := Tryz.underlying4
 a4 := Tryz.isAgg4
 z4 := Tryz.sizeOf4
 v4 := Tryz.zeroValue4
 t9 := Tryz.underlying9
 a9 := Tryz.isAgg9
 z9 := Tryz.sizeOf9
 v9 := Tryz.zeroValue9
 t31 := Tryz.underlying22
 a31 := Tryz.isAgg22
 z31 := Tryz.sizeOf22
 v31 := Tryz.zeroValue22 }
end Go.Proofs

namespace Go.Proofs.YthgbfaoblnkniaaGreatDoor
open Go.RowKit Go.Lib Go.Sort
theorem two_allocs (w : World) (A B : Obj) : ((w.alloc A).alloc B).drew.drew = grow (w.drewN 2) #[A, B] := by
 have e : (w.heap.push A).push B = w.heap ++ #[A, B] := by
  apply Array.ext'
  simp [Array.toList_push]
 unfold grow World.alloc World.drew World.drewN
 simp only [e]
set_option maxRecDepth 100000 in
set_option maxHeartbeats 1000000 in
theorem ncompare_grows (a b : List UInt8) (ha : a.length ≤ 1000000) (hb : b.length ≤ 1000000) (w : World) :
  Calls Tryz.prog 119 #[.string (bs a), .string (bs b)] w fun e w' => e = .returned (.int .i64 (lexCmp (runesU a) (runesU b))) ∧ ∃ q os, w' = grow (w.drewN q) os := by
 have hca := conv_runes a ha
 have hcb := conv_runes b hb
 go_enter Tryz.func119, Tryz.ntmps119
 go_wp2_with fail
 refine (compare_any (runesU a) (runesU b) _ _ _ _ _ ?_ ?_ (by have := runesU_length a; omega)).mono ?_
 ·intro j hj
  exact cell_past _ (cell_drew (rowR_cell w w.drew a j hj))
 ·intro j hj
  have h := rowR_cell (w.alloc (.cells (rowR w a) 21)).drew (w.alloc (.cells (rowR w a) 21)) b j hj
  rw [show (w.alloc (.cells (rowR w a) 21)).heap.size = w.heap.size + 1 by simp] at h
  exact cell_drew (cell_drew h)
 ·rintro e w1 ⟨rfl, rfl⟩
  go_wp2_with fail
  go_ret
  exact ⟨rfl, 2, _, two_allocs _ _ _⟩
abbrev NameT := { l : List UInt8 // nameL l = true }
instance : Inhabited NameT := ⟨⟨[97], by decide +kernel⟩⟩
def encN (x : NameT) : Value := .string (bs x.1)
theorem encN_one : OneCell encN := fun _ => rfl
def cmpN (x y : NameT) : Int := lexCmp (runesU x.1) (runesU y.1)
theorem lt_cmpN (x y : NameT) : ltOf cmpN x y = ltN x.1 y.1 := (lexCmp_less _ _).symm
theorem swo_cmpN : SWO (ltOf cmpN) where
 irrefl x := by rw [lt_cmpN]; exact ltN_irrefl _
 trans x y z h1 h2 := by rw [lt_cmpN] at *; exact ltN_trans _ _ _ h1 h2
 ntrans x y z h1 h2 := by rw [lt_cmpN] at *; exact lexLess_ntrans _ _ _ h1 h2
theorem name_len (l : List UInt8) (h : nameL l = true) : l.length ≤ 1000000 := by
 have hv := textU_runes _ l (Nat.le_refl _) (name_valid l h)
 unfold nameL word at h
 simp only [Bool.and_eq_true, decide_eq_true_eq] at h
 have := textU_len (runesU l)
 rw [hv] at this
 omega
theorem compare_enters : ∀ args w, (callFunc 119 args).run Tryz.prog w = .ok (.enter 119 args) w := enters_of Tryz.func119 (by kernel_rfl) rfl
theorem sort_names (g cap : Nat) (d : Array NameT) (w : World) (hH : Holds encN w g 0 d) (hg : g < w.heap.size) (hsz : d.size < 4611686018427387904) :
  Calls Tryz.prog 129 #[.slice (some ⟨g, 0, none⟩) d.size cap, .func (.func 119) #[] #[]] w fun e w' =>
   e = .returned (.tuple #[]) ∧ ∃ n os, w' = sortWorld encN w g 0 n (d.toList.mergeSort fun x y => !(ltOf cmpN) y x).toArray os :=
 Any.slices_SortFunc_total Tryz.laysSort encN encN_one cmpN swo_cmpN 119 #[] g 0 cap d w compare_enters
  (fun m os dk _ x y => ncompare_grows x.1 y.1 (name_len _ x.2) (name_len _ y.2) _) hH hg hsz
  (fun x y h1 h2 => by rw [lt_cmpN] at h1 h2; exact Subtype.ext (ltN_total _ _ x.2 y.2 h1 h2))
theorem compact_names (g cap : Nat) (S : List (List UInt8)) (w : World) (hH : Holds Go.Proofs.encStr w g 0 S.toArray) (hsz : S.length ≤ 9223372036854775807) (hcap : S.length ≤ cap) :
  Calls Tryz.prog 130 #[.slice (some ⟨g, 0, none⟩) S.length cap] w fun e w' => e = .returned (.slice (some ⟨g, 0, none⟩) (compact S).length cap) ∧
   ∃ q, w' = putRow Go.Proofs.encStr (Sort.ahead w q) g 0 (compact S ++ List.replicate (S.length - (compact S).length) []).toArray :=
 Any.slices_Compact_string Tryz.laysCompact g 0 cap S w hH hsz hcap
def leN (x y : NameT) : Bool := !(ltOf cmpN) y x
theorem leN_trans (a b c : NameT) (h1 : leN a b = true) (h2 : leN b c = true) : leN a c = true := by
 unfold leN at *
 simp only [Bool.not_eq_true'] at *
 exact swo_cmpN.ntrans c b a h2 h1
theorem leN_total (a b : NameT) : (leN a b || leN b a) = true := by
 unfold leN
 simp only [lt_cmpN]
 cases h1 : ltN b.1 a.1 with
 | false => rfl
 | true =>
  cases h2 : ltN a.1 b.1 with
  | false => rfl
  | true =>
   have := ltN_trans _ _ _ h1 h2
   rw [ltN_irrefl] at this
   exact absurd this (by decide)
theorem sort_spec (d : List NameT) (L : List (List UInt8)) (h : ∀ y, y ∈ d.map (·.1) ↔ y ∈ L ∧ nameL y = true) : compact ((d.mergeSort leN).map (·.1)) = sortedN L := by
 refine compact_sorted _ L (fun y => ?_) ?_
 ·rw [← h, List.mem_map, List.mem_map]
  constructor
  ·rintro ⟨x, hx, e⟩
   exact ⟨x, (List.mergeSort_perm d leN).mem_iff.1 hx, e⟩
  ·rintro ⟨x, hx, e⟩
   exact ⟨x, (List.mergeSort_perm d leN).mem_iff.2 hx, e⟩
 ·rw [List.pairwise_map]
  refine (List.pairwise_mergeSort leN_trans leN_total d).imp fun {a b} hab => ?_
  unfold leN at hab
  rw [lt_cmpN] at hab
  simpa using hab
theorem lift_names : ∀ M : List (List UInt8), (∀ x ∈ M, nameL x = true) → ∃ d : List NameT, d.map (·.1) = M
 | [], _ => ⟨[], rfl⟩
 | x :: M, h => by
  obtain ⟨d, hd⟩ := lift_names M (fun y hy => h y (List.mem_cons_of_mem _ hy))
  exact ⟨⟨x, h x (List.mem_cons_self ..)⟩ :: d, by simp [hd]⟩
theorem filter_next (L : List (List UInt8)) (k : Nat) (hk : k < L.length) : (L.take (k + 1)).filter nameL = (L.take k).filter nameL ++ (if nameL (L.getD k []) then [L.getD k []] else []) := by
 have e : L.take (k + 1) = L.take k ++ [L.getD k []] := by
  rw [List.take_add_one]
  simp [hk]
 rw [e, List.filter_append]
 congr 1
 simp only [List.filter_cons, List.filter_nil]
theorem below_sortWorld {a w : World} {g n : Nat} {dk : Array NameT} {os : Array Obj} (h : Below a.heap.size a w) (hg : a.heap.size ≤ g) : Below a.heap.size a (sortWorld encN w g 0 n dk os) := by
 refine ⟨h.os, h.tape, h.output, ?_, fun k hk => ?_⟩
 ·have := h.size
  show a.heap.size ≤ (grow (putRow encN (Sort.ahead w n) g 0 dk) os).heap.size
  unfold grow
  simp only [Array.size_append]
  rw [size_putRow]
  show _ ≤ w.heap.size + _
  omega
 ·have hkw : k < w.heap.size := Nat.lt_of_lt_of_le hk h.size
  rw [← h.block k hk]
  have hne : g ≠ k := by omega
  show ((putRow encN (Sort.ahead w n) g 0 dk).heap ++ os)[k]? = _
  rw [Array.getElem?_append_left (by rw [size_putRow]; exact hkw)]
  simp only [putRow, mapBlock, Array.getElem?_modify, if_neg hne]
  rfl
theorem below_putRow {a w : World} {g q : Nat} {dk : Array (List UInt8)} (h : Below a.heap.size a w) (hg : a.heap.size ≤ g) : Below a.heap.size a (putRow Go.Proofs.encStr (Sort.ahead w q) g 0 dk) := by
 refine ⟨h.os, h.tape, h.output, ?_, fun k hk => ?_⟩
 ·rw [size_putRow]
  exact h.size
 ·have hkw : k < w.heap.size := Nat.lt_of_lt_of_le hk h.size
  rw [← h.block k hk]
  have hne : g ≠ k := by omega
  simp only [putRow, mapBlock, Array.getElem?_modify, if_neg hne]
  rfl
end Go.Proofs.YthgbfaoblnkniaaGreatDoor

namespace Go.Proofs.YthgbfaoblnkniaaGreatDoor
open Go.RowKit Go.Lib Go.Sort
theorem news_txt (w : World) (x : ByteArray) (e : TypeId) : ∀ (j : Nat) (u : Value), ([.string x] : List Value)[j]? = some u → (w.alloc (.cells #[.string x] e)).cell? ((⟨w.heap.size, 0, none⟩ : Addr).add j) = some u := by
 intro j u hj
 match j, hj with
 | 0, hj => simp at hj; subst hj; simp [Addr.add]
theorem ones_txt (x : ByteArray) : ∀ u ∈ ([.string x] : List Value), u.oneCell' = true := by
 intro u hu
 simp at hu
 subst hu
 rfl
theorem holds_own {w : World} {g cap : Nat} {cur : Array Value} {M : List (List UInt8)} {d : List NameT} (hd : d.map (·.1) = M) (hw : w.heap[g]? = some (.cells cur 9 (0, 0))) (ht : cur.toList.take (M.length * 1) = strs M) (hc : M.length ≤ cap) : Holds encN w g 0 d.toArray := by
 intro j hj
 have hj' : j < d.length := by simpa using hj
 have hjM : j < M.length := by rw [← hd]; simpa using hj'
 refine ⟨?_, ?_⟩
 ·have h1 := congrArg (fun x : List Value => x[j]?) ht
  simp only [Nat.mul_one, List.getElem?_take, hjM, if_true, Array.getElem?_toList] at h1
  rw [Nat.zero_add, cell_of_row w g j _ _ (0, 0) hw, h1]
  subst hd
  simp [strs, hj', encN]
 ·rw [Nat.zero_add]
  exact frozen_of_row w g j cur _ hw
theorem owns_below {w w1 : World} {B size n : Nat} {e : TypeId} {v : Value} {xs : List Value} (h : w.ownsRow B e size v n xs) (hb : Below w.heap.size w w1) : w1.ownsRow B e size v n xs := by
 obtain ⟨h1, h2 | ⟨g, cap, cur, hv, hB, hw, hrest⟩⟩ := h
 ·exact ⟨h1, .inl h2⟩
 ·exact ⟨h1, .inr ⟨g, cap, cur, hv, hB, by rw [hb.block g (Array.getElem?_eq_some_iff.1 hw).1]; exact hw, hrest⟩⟩
theorem holds_str {w : World} {g : Nat} (d : List NameT) (h : Holds encN w g 0 d.toArray) : Holds Go.Proofs.encStr w g 0 (d.map (·.1)).toArray := by
 intro j hj
 have hj' : j < d.length := by simpa using hj
 obtain ⟨h1, h2⟩ := h j (by simpa using hj')
 refine ⟨?_, h2⟩
 rw [h1]
 simp [hj', encN, bs]
theorem texts_put {w : World} {g q : Nat} {S C : List (List UInt8)} (hC : C.length ≤ S.length) (hH : Holds Go.Proofs.encStr w g 0 S.toArray) :
  HasTexts (putRow Go.Proofs.encStr (Sort.ahead w q) g 0 (C ++ List.replicate (S.length - C.length) []).toArray) (some ⟨g, 0, none⟩) C := by
 have h2 := holds_putRow Go.Proofs.encStr (Sort.ahead w q) g 0 S.toArray (C ++ List.replicate (S.length - C.length) []).toArray hH (by simp; omega)
 intro j hj
 have hjs : j < (C ++ List.replicate (S.length - C.length) ([] : List UInt8)).toArray.size := by simp; omega
 have := (h2 j hjs).1
 refine ⟨g, rfl, ?_⟩
 rw [Nat.zero_add] at this
 rw [this]
 have e : (C ++ List.replicate (S.length - C.length) ([] : List UInt8)).toArray[j]! = C.getD j [] := by
  rw [getElem!_pos _ j hjs]
  simp [hj]
 rw [e]
 rfl
def NewV (B : Nat) (v : Value) : Prop := ∀ g, v.ownBlock = some g → B ≤ g
set_option maxRecDepth 100000 in
set_option maxHeartbeats 2000000 in
theorem nsorted_new (w : World) (v : Value) (L : List (List UInt8)) (h : Texts w v L) (hL : L.length ≤ 100000) (hs : ∀ x ∈ L, x.length ≤ 1000000) (hT : Lib.Utf8Tabs 1 2 w) :
  Calls Tryz.prog 112 #[v] w fun e w' => ∃ v', e = .returned v' ∧ Texts w' v' (sortedN L) ∧ NewV w.heap.size v' ∧ Below w.heap.size w w' := by
 obtain ⟨p, cap, rfl, ht⟩ := h
 have HX := Lib.hid ht
 have HS := Lib.hid hs
 have HT := Lib.hid hT
 clear ht hs hT
 obtain ⟨R, hR⟩ : ∃ R, sortedN L = R := ⟨_, rfl⟩
 rw [hR]
 have HR := Lib.hid hR
 clear hR
 obtain ⟨i0, hi, hz0, hz1, hz2⟩ := info_parts info_str
 go_enter Tryz.func112, Tryz.ntmps112
 go_wp2_with fail
 go_loopw [3, 8] (fun out i wr => ∃ k : Nat, k ≤ L.length ∧ i = .int .i64 k ∧ wr.ownsRow w.heap.size 9 1 out ((L.take k).filter nameL).length (strs ((L.take k).filter nameL)) ∧ Below w.heap.size w wr) (fun _ i _ => L.length - (RowKit.intOf i).toNat)
 case atStart => exact ⟨0, Nat.zero_le _, rfl, World.ownsRow_nil _ _ _ _, Below.refl _ _⟩
 case round =>
  obtain ⟨k, hk, rfl, hown, hbw⟩ := hrel
  have hflen : ((L.take k).filter nameL).length ≤ 100000 := by
   have h1 := List.length_filter_le nameL (L.take k)
   rw [List.length_take] at h1
   omega
  by_cases hlt : k < L.length
  ·obtain ⟨gl, rfl, hc⟩ := HX.out k hlt
   have hc' := cell_later hbw hc
   have hnx := filter_next L k hlt
   have hxl : (L.getD k []).length ≤ 1000000 := HS.out _ (by
    have : L.getD k [] = L[k] := by simp [hlt]
    rw [this]
    exact List.getElem_mem hlt)
   have HTr := Lib.hid (Utf8Tabs_below HT.out hbw)
   have HI := Lib.hid (nis_any (L.getD k []) hxl)
   obtain ⟨x, hx⟩ : ∃ x, L.getD k [] = x := ⟨_, rfl⟩
   rw [hx] at hc' hnx HI
   obtain ⟨M, hM⟩ : ∃ M, (L.take k).filter nameL = M := ⟨_, rfl⟩
   rw [hM] at hown hnx hflen
   clear hc hx hxl hM
   cases hn : nameL x with
   | false =>
    rw [hn] at hnx HI
    simp only [Bool.false_eq_true, if_false, List.append_nil] at hnx
    have HN := Lib.hid hnx
    clear hnx hn
    go_wp2_with fail
    refine (HI.out _ HTr.out).mono ?_
    rintro e w1 ⟨rfl, hb1⟩
    go_wp2_with fail
    go_roundw
    case rel => exact ⟨k + 1, by omega, by go_num, by rw [HN.out]; exact owns_below hown hb1, below_next hbw hb1⟩
    case measure => simp [RowKit.intOf]; omega
   | true =>
    rw [hn] at hnx HI
    simp only [if_true] at hnx
    have HN := Lib.hid hnx
    clear hnx hn
    go_wp2_with fail
    refine (HI.out _ HTr.out).mono ?_
    rintro e w1 ⟨rfl, hb1⟩
    have hown1 := owns_below hown hb1
    have hbw1 := below_next hbw hb1
    clear hown hb1 hbw
    go_wp2_with (at_builtin; refine wpList_append_own _ rfl _ _ 22 rfl w.heap.size 9 i0 (.string ByteArray.empty) 1 16 Tryz.underlying22 hi hz0 hz1 hz2 rfl (by decide) _ _ _ rfl (hown1.alloc _) ⟨w1.heap.size, 0, none⟩ 1 1 [.string (bs x)] rfl rfl (news_txt _ _ _) (ones_txt _) (by unfold maxLen; omega) (by omega) (by have := hbw1.size; simp; omega) ?_)
    intro v' w4 hown4 hgrow hnil
    have hb4 : Below w.heap.size w w4 := (hbw1.alloc hbw1.size _).grown hgrow (by have := hbw1.size; simp; omega) (fun k hk => (hown1.lt k hk).1)
    have HO : RowKit.Hid (w4.ownsRow w.heap.size 9 1 v' (M ++ [x]).length (strs (M ++ [x]))) := Lib.hid (by
     rw [← strs_snoc, List.length_append]
     exact hown4)
    clear hown4 hgrow hnil hown1 hbw1
    go_wp2_with fail
    go_roundw
    case rel => exact ⟨k + 1, by omega, by go_num, by rw [HN.out]; exact HO.out, hb4⟩
    case measure => simp [RowKit.intOf]; omega
  ·have hke : k = L.length := by omega
   subst hke
   rw [List.take_length] at hown hflen
   have hmem : ∀ y, y ∈ L.filter nameL ↔ y ∈ L ∧ nameL y = true := fun y => List.mem_filter
   obtain ⟨M, hM⟩ : ∃ M, L.filter nameL = M := ⟨_, rfl⟩
   rw [hM] at hown hflen hmem
   clear hM
   obtain ⟨d, hd⟩ := lift_names M (fun x hx => ((hmem x).1 hx).2)
   have hspec := sort_spec d L (by rw [hd]; exact hmem)
   by_cases hM0 : M = []
   ·subst hM0
    have hd0 : d = [] := by
     cases d with
     | nil => rfl
     | cons a t => exact absurd hd (by simp)
    subst hd0
    have hnw : NewV w.heap.size _ := fun g e => (hown.lt g e).1
    obtain ⟨q, cq, hv, -⟩ := own_texts hown
    subst hv
    have hsn : R = [] := by rw [← HR.out, ← hspec]; simp [compact, compactUpTo]
    have H1 := Lib.hid (AnyF.slices_SortFunc_none Tryz.laysSort0 q cq (.func (.func 119) #[] #[]))
    have H2 := Lib.hid (Any.slices_Compact_string_empty Tryz.laysCompact q cq)
    clear hspec hown hmem
    go_wp2_with fail
    refine (H1.out _).mono ?_
    rintro e w1 ⟨rfl, rfl⟩
    go_wp2_with fail
    refine (H2.out _).mono ?_
    rintro e w1 ⟨rfl, rfl⟩
    go_wp2_with fail
    go_ret
    rw [hsn]
    exact ⟨_, rfl, ⟨q, cq, rfl, fun j hj => absurd hj (Nat.not_lt_zero j)⟩, hnw, hbw⟩
   ·obtain ⟨-, ⟨-, hn⟩ | ⟨g, cq, cur, rfl, hgB, hcur, hcq, -, hcsz, htk⟩⟩ := id hown
    ·exact absurd (List.eq_nil_of_length_eq_zero hn) hM0
    ·have hH := holds_own hd hcur htk hcq
     have hg := (Array.getElem?_eq_some_iff.1 hcur).1
     have hsz : d.toArray.size = M.length := by rw [← hd]; simp
     have H1 := Lib.hid (sort_names g cq d.toArray wr hH hg (by rw [hsz]; omega))
     rw [hsz] at H1
     have HS2 := Lib.hid hspec
     clear hown hcur htk hcsz hspec
     go_wp2_with fail
     refine H1.out.mono ?_
     rintro e w1 ⟨rfl, nn, os, hw1⟩
     have hH1 : Holds encN w1 g 0 (d.mergeSort leN).toArray := by
      rw [hw1]
      exact holds_sortWorld encN wr g 0 nn d.toArray _ os hg hH (by simp [List.length_mergeSort])
     have hB1 : Below w.heap.size w w1 := by
      rw [hw1]
      exact below_sortWorld hbw hgB
     have hH2 := holds_str (d.mergeSort leN) hH1
     have hSl : ((d.mergeSort leN).map (·.1)).length = M.length := by
      rw [List.length_map, List.length_mergeSort, ← hd, List.length_map]
     have hcl : (compact ((d.mergeSort leN).map (·.1))).length ≤ ((d.mergeSort leN).map (·.1)).length := compact_length_le _
     have H2 := Lib.hid (compact_names g cq _ w1 hH2 (by omega) (by omega))
     rw [hSl] at H2
     clear hw1 hH1
     go_wp2_with fail
     refine H2.out.mono ?_
     rintro e w2 ⟨rfl, q2, hw2⟩
     have hB2 : Below w.heap.size w w2 := by
      rw [hw2]
      exact below_putRow hB1 hgB
     have hT2 := texts_put (q := q2) hcl hH2
     rw [hSl, ← hw2] at hT2
     rw [HS2.out, HR.out] at hT2 ⊢
     clear hw2 hH2 hB1 hbw H2 H1
     go_wp2_with fail
     go_ret
     exact ⟨_, rfl, ⟨_, cq, rfl, hT2⟩, (fun g' e => by simp [Value.ownBlock] at e; omega), hB2⟩
end Go.Proofs.YthgbfaoblnkniaaGreatDoor
