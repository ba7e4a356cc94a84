/-
  The decoder of layer 2's reference, at any place. No conditions.
  The walks of layer 2's reference (name) over a text's runes: the list of them, and whether the text is UTF-8. No conditions.
  The walks of layer 2 (name): reserved words, what may stand in a name, the comparison of two runes. No conditions.
  The walks of layer 2 (name): which of two texts is ahead, in the program and in the reference. No conditions.
  DERIVED: THE SHELF's CONTRACTS AT THIS DUMP, IN PLAIN WORDS (tools/lay-plain.mjs out of 'TrydShelfV4.lean', which tools/lay-shelf.mjs wrote): THE SAME DECLARATIONS UNDER THE SAME NAMES: 'import', 'namespace', 'open', 'def', 'theorem' AND NOTHING ELSE: no command of the shelf's: FOR A HAND-IN. Each laying: the table of numbers ('.._ren') and one theorem, a field a fact of the dump's own or the kernel's comparison; each contract: ONE APPLICATION.
  The walk of layer 2 (name): what a name is, in the program, where unicode/utf8's two tables are as their initialisers lay them. No conditions.
-/
import Derived.Test.YtmgchjddpmmglaaGreatDoorRxNameX
import Derived.Test.YtmgchjddpmmglaaGreatDoorRxNameY
import Derived.Laws.IdiomStrings
import Derived.Shelf.SlGeneric
import Derived.Shelf.Unicode.ValidAny
namespace Go.Proofs.YtmgchjddpmmglaaGreatDoor
open Go.RowKit Go.Lib
theorem one_any (l : List UInt8) (p : Nat) (hp : p < l.length) (hs : l.length ≤ 4611686018427387904) (w : World) :
  Calls Tryz.prog 217 #[.string (bs l), .int .i64 p] w fun e w' => e = .returned (.tuple #[.int .i64 ((oneAt l p).2 : Nat), .int .i64 ((oneAt l p).1 : Nat)]) ∧ w = w' := by
 by_cases h1 : l[p].toNat < 194
 ·exact one_low l p hp (by omega) w
 ·by_cases h2 : l[p].toNat ≤ 223
  ·exact one_two l p hp hs (by omega) h2 w
  ·by_cases h3 : l[p].toNat ≤ 239
   ·exact one_three l p hp hs (by omega) h3 w
   ·by_cases h4 : l[p].toNat ≤ 244
    ·exact one_four l p hp hs (by omega) h4 w
    ·exact one_low l p hp (by omega) w
end Go.Proofs.YtmgchjddpmmglaaGreatDoor

namespace Go.Proofs.YtmgchjddpmmglaaGreatDoor
open Go.RowKit Go.Lib
theorem runes_step (l : List UInt8) (p : Nat) (done : List Nat) (hp : p < l.length) (h : runesU l = done ++ runesU (l.drop p)) :
  runesU l = (done ++ [(oneAt l p).1]) ++ runesU (l.drop (p + (oneAt l p).2)) ∧ 1 ≤ (oneAt l p).2 ∧ p + (oneAt l p).2 ≤ l.length := by
 have hne : l.drop p ≠ [] := by
  intro e
  have := congrArg List.length e
  simp at this
  omega
 have hw := decodeL_le' (l.drop p) hne
 rw [List.length_drop] at hw
 refine ⟨?_, hw.1, by unfold oneAt; omega⟩
 rw [h, runesU_step _ hne, List.append_assoc, List.drop_drop]
 rfl
def ints (r : List Nat) : List Value := r.map fun (n : Nat) => Value.int .i64 (n : Int)
theorem ints_snoc (r : List Nat) (n : Nat) : ints r ++ [.int .i64 (n : Int)] = ints (r ++ [n]) := by simp [ints]
theorem own_row {w : World} {B : Nat} {e : TypeId} {v : Value} {r : List Nat} (h : w.ownsRow B e 1 v r.length (ints r)) (hn : v ≠ .slice none 0 0) :
  ∃ g cap, v = .slice (some ⟨g, 0, none⟩) r.length cap ∧ B ≤ g ∧ g < w.heap.size ∧ r.length ≤ cap ∧ ∀ j, j < r.length → w.cell? ⟨g, j, none⟩ = some (.int .i64 ((r.getD j 0 : Nat) : Int)) := by
 obtain ⟨-, ⟨h0, -⟩ | ⟨g, cap, cur, hv, hB, hw, hc, -, -, ht⟩⟩ := h
 ·exact absurd h0 hn
 ·refine ⟨g, cap, hv, hB, (Array.getElem?_eq_some_iff.1 hw).1, hc, fun j hj => ?_⟩
  have h1 := congrArg (fun x : List Value => x[j]?) ht
  simp only [Nat.mul_one, List.getElem?_take, hj, if_true, Array.getElem?_toList] at h1
  rw [cell_of_row w g j _ _ (0, 0) hw, h1]
  simp [ints, hj]
theorem info_int : (Tryz.prog.info? 3).map (fun i => (i.zero, i.size, i.bytes)) = some (some (.int .i64 0), 1, 8) := by kernel_rfl
set_option maxRecDepth 100000 in
set_option maxHeartbeats 1000000 in
theorem runes_any (l : List UInt8) (hs : l.length ≤ 1000000) (w : World) :
  Calls Tryz.prog 182 #[.string (bs l)] w fun e w' => ∃ g cap, e = .returned (.slice (some ⟨g, 0, none⟩) (runesU l).length cap) ∧ w.heap.size ≤ g ∧ g < w'.heap.size ∧ (runesU l).length ≤ cap ∧
   (∀ j, j < (runesU l).length → w'.cell? ⟨g, j, none⟩ = some (.int .i64 (((runesU l).getD j 0 : Nat) : Int))) ∧ Below w.heap.size w w' := by
 obtain ⟨i0, hi, hz0, hz1, hz2⟩ := info_parts info_int
 go_enter Tryz.func182, Tryz.ntmps182
 go_wp2
 go_loopw [3, 4] (fun v i wr => ∃ p : Nat, ∃ done : List Nat, p ≤ l.length ∧ i = .int .i64 p ∧ wr.ownsRow w.heap.size 3 1 v done.length (ints done) ∧ Below w.heap.size w wr ∧ done.length ≤ p ∧ runesU l = done ++ runesU (l.drop p) ∧ v ≠ .slice none 0 0)
  (fun _ i _ => l.length - (RowKit.intOf i).toNat)
 case atStart =>
  exact ⟨0, [], Nat.zero_le _, rfl, World.ownsRow_made w #[] 0 (Nat.le_refl _) (Nat.zero_le _) rfl, (Below.refl _ _).alloc (Nat.le_refl _) _, Nat.le_refl _, rfl, by simp⟩
 case round =>
  obtain ⟨p, done, hp, rfl, hown, hbw, hdp, hdone, hnn⟩ := hrel
  have HD := Lib.hid hdone
  have HN := Lib.hid hnn
  clear hdone hnn
  by_cases hlt : p < l.length
  ·obtain ⟨s1, s2, s3⟩ := runes_step l p done hlt HD.out
   obtain ⟨D, hD⟩ : ∃ D, oneAt l p = D := ⟨_, rfl⟩
   have HC := Lib.hid (one_any l p hlt (by omega))
   rw [hD] at HC s1 s2 s3
   have HS := Lib.hid s1
   clear s1 hD
   go_wp2_with (first
    | (go_at_call 217; refine (HC.out _).mono ?_; rintro e w1 ⟨rfl, rfl⟩)
    | (at_builtin; refine wpList_append_own _ rfl _ _ 56 rfl w.heap.size 3 i0 (.int .i64 0) 1 8 Tryz.underlying56 hi hz0 hz1 hz2 rfl (by decide) _ _ _ rfl (hown.alloc _) ⟨wr.heap.size, 0, none⟩ 1 1 [.int .i64 (D.1 : Nat)] rfl rfl ?c1 ?c2 ?c3 ?c4 ?c5 ?_))
   case c1 =>
    intro j u hj
    match j, hj with
    | 0, hj => simp at hj; subst hj; simp [Addr.add]
   case c2 => intro u hu; simp at hu; subst hu; rfl
   case c3 => unfold maxLen; omega
   case c4 => omega
   case c5 => have := hbw.size; simp; omega
   ·intro v' w1 hown' hgrow hnil
    have HV := Lib.hid hnil
    clear hnil
    have HO := Lib.hid hown'
    clear hown'
    have hb1 : Below w.heap.size w w1 := (hbw.alloc (by have := hbw.size; omega) _).grown hgrow (by have := hbw.size; simp; omega) (fun k hk => (hown.lt k hk).1)
    go_wp2
    go_roundw
    case rel =>
     refine ⟨p + D.2, done ++ [D.1], s3, by go_num, ?_, hb1, by simp; omega, HS.out, HV.out⟩
     have := HO.out
     rw [ints_snoc] at this
     simpa using this
    case measure => simp [RowKit.intOf]; omega
  ·have e : l.drop p = [] := List.drop_eq_nil_of_le (by omega)
   have h2 := HD.out
   rw [e, runesU_nil, List.append_nil] at h2
   have H2 := Lib.hid h2
   clear h2 e
   go_wp2
   go_ret
   rw [H2.out]
   obtain ⟨g, cap, rfl, h1, h2, h3, h4⟩ := own_row hown HN.out
   exact ⟨g, cap, rfl, h1, h2, h3, h4, hbw⟩
theorem decN_width (n b0 b1 b2 b3 : Nat) : (decodeN n b0 b1 b2 b3).1 = 65533 → (decodeN n b0 b1 b2 b3).2 = 1 ∨ (decodeN n b0 b1 b2 b3).2 = 3 := by
 unfold decodeN
 repeat' split
 all_goals first | (intro _; exact .inl rfl) | (intro _; exact .inr rfl) | (intro h; exfalso; simp only at h; omega)
theorem dec_width (l : List UInt8) (h : (decodeL l).1 = 65533) : (decodeL l).2 = 1 ∨ (decodeL l).2 = 3 := by
 rw [decodeL_N] at h ⊢
 exact decN_width _ _ _ _ _ h
theorem valid_step (l : List UInt8) (p : Nat) (hp : p < l.length) :
  validD (l.drop p) = (if (oneAt l p).1 = 65533 ∧ (oneAt l p).2 ≠ 3 then false else validD (l.drop (p + (oneAt l p).2))) ∧ 1 ≤ (oneAt l p).2 ∧ p + (oneAt l p).2 ≤ l.length := by
 have hne : l.drop p ≠ [] := by
  intro e
  have := congrArg List.length e
  simp at this
  omega
 have hw := decodeL_le' (l.drop p) hne
 have h3 := dec_width (l.drop p)
 rw [List.length_drop] at hw
 refine ⟨?_, hw.1, by unfold oneAt; omega⟩
 rw [validD_step _ hne, List.drop_drop]
 unfold oneAt
 by_cases h : (decodeL (l.drop p)).1 = 65533
 ·rcases h3 h with h4 | h4 <;> simp [h, h4]
 ·simp [h]
set_option maxRecDepth 100000 in
set_option maxHeartbeats 1000000 in
theorem clean_any (l : List UInt8) (hs : l.length ≤ 1000000) (w : World) :
  Calls Tryz.prog 184 #[.string (bs l)] w fun e w' => e = .returned (.bool (validD l)) ∧ w = w' := by
 obtain ⟨R, hR⟩ : ∃ R, validD l = R := ⟨_, rfl⟩
 rw [hR]
 have HR := Lib.hid hR
 clear hR
 go_enter Tryz.func184, Tryz.ntmps184
 go_wp2
 go_loop [3] (fun i => ∃ p : Nat, p ≤ l.length ∧ i = .int .i64 p ∧ validD (l.drop p) = R) (fun i => l.length - (RowKit.intOf i).toNat)
 case atStart => exact ⟨0, Nat.zero_le _, rfl, HR.out⟩
 case round =>
  obtain ⟨p, hp, rfl, hv⟩ := hrel
  have HV := Lib.hid hv
  clear hv
  by_cases hlt : p < l.length
  ·obtain ⟨s1, s2, s3⟩ := valid_step l p hlt
   obtain ⟨D, hD⟩ : ∃ D, oneAt l p = D := ⟨_, rfl⟩
   have HC := Lib.hid (one_any l p hlt (by omega))
   rw [hD] at HC s1 s2 s3
   rw [HV.out] at s1
   have HS := Lib.hid s1
   clear s1 hD
   rcases (show (D.1 = 65533 ∧ D.2 ≠ 3) ∨ (D.1 = 65533 ∧ D.2 = 3) ∨ D.1 ≠ 65533 by omega) with ⟨d1, d2⟩ | ⟨d1, d2⟩ | d1
   ·have H1 := HS.out
    rw [if_pos ⟨d1, d2⟩] at H1
    have H2 := Lib.hid H1
    have e1 : ((D.1 : Int) == 65533) = true := by simp [d1]
    have e2 : ((D.2 : Int) == 3) = false := by simp; omega
    clear H1 d1 d2
    go_wp2_with (go_at_call 217; refine (HC.out _).mono ?_; rintro e w1 ⟨rfl, rfl⟩)
    go_ret
    exact ⟨by rw [H2.out]; rfl, rfl⟩
   ·have H1 := HS.out
    rw [if_neg (by omega)] at H1
    have H2 := Lib.hid H1
    have e1 : ((D.1 : Int) == 65533) = true := by simp [d1]
    have e2 : ((D.2 : Int) == 3) = true := by simp [d2]
    clear H1 d1 d2
    go_wp2_with (go_at_call 217; refine (HC.out _).mono ?_; rintro e w1 ⟨rfl, rfl⟩)
    go_round
    case rel => exact ⟨p + D.2, s3, by go_num, H2.out.symm⟩
    case measure => simp [RowKit.intOf]; omega
   ·have H1 := HS.out
    rw [if_neg (fun x => d1 x.1)] at H1
    have H2 := Lib.hid H1
    have e1 : ((D.1 : Int) == 65533) = false := by simp; omega
    clear H1 d1
    go_wp2_with (go_at_call 217; refine (HC.out _).mono ?_; rintro e w1 ⟨rfl, rfl⟩)
    go_round
    case rel => exact ⟨p + D.2, s3, by go_num, H2.out.symm⟩
    case measure => simp [RowKit.intOf]; omega
  ·have e : l.drop p = [] := List.drop_eq_nil_of_le (by omega)
   have h2 := HV.out
   rw [e, validD_nil] at h2
   have H2 := Lib.hid h2
   clear h2 e
   go_wp2
   go_ret
   exact ⟨by rw [H2.out]; rfl, rfl⟩
end Go.Proofs.YtmgchjddpmmglaaGreatDoor

namespace Go.Proofs.YtmgchjddpmmglaaGreatDoor
open Go.RowKit Go.Lib
set_option maxRecDepth 100000 in
set_option maxHeartbeats 1000000 in
theorem reserved_any (l : List UInt8) (w : World) :
  Calls Tryz.prog 196 #[.string (bs l)] w fun e w' => e = .returned (.bool (resL l)) ∧ w = w' := by
 go_enter Tryz.func196, Tryz.ntmps196
 go_wp2
 all_goals
  go_ret
  refine ⟨?_, rfl⟩
  simp_all [resL]
set_option maxRecDepth 100000 in
set_option maxHeartbeats 1000000 in
theorem digit_any (c : Nat) (hc : c ≤ 1114111) (w : World) :
  Calls Tryz.prog 199 #[.int .i32 c] w fun e w' => e = .returned (.bool (dig c)) ∧ w = w' := by
 rcases (show c < 48 ∨ (48 ≤ c ∧ c ≤ 57) ∨ (48 ≤ c ∧ 57 < c) by omega) with h | ⟨h, h'⟩ | ⟨h, h'⟩
 all_goals
  go_enter Tryz.func199, Tryz.ntmps199
  go_wp2
  go_ret
  refine ⟨?_, rfl⟩
  simp [dig, *]
  try omega
set_option maxRecDepth 100000 in
set_option maxHeartbeats 1000000 in
theorem rreserved_any (l : List UInt8) (w : World) :
  Calls Tryz.prog 183 #[.string (bs l)] w fun e w' => e = .returned (.bool (resL l)) ∧ w = w' := by
 go_enter Tryz.func183, Tryz.ntmps183
 go_wp2
 all_goals
  go_ret
  refine ⟨?_, rfl⟩
  simp_all [resL]
  try (rw [Bool.eq_iff_iff]; simp [*])
set_option maxRecDepth 100000 in
set_option maxHeartbeats 1000000 in
theorem part_any (c : Nat) (hc : c ≤ 1114111) (w : World) :
  Calls Tryz.prog 198 #[.int .i32 c] w fun e w' => e = .returned (.bool (part c)) ∧ w = w' := by
 obtain ⟨G, hG⟩ : ∃ G, dig c = G := ⟨_, rfl⟩
 have HC := Lib.hid (digit_any c hc)
 rw [hG] at HC
 have HG := Lib.hid hG
 clear hG hc
 go_enter Tryz.func198, Tryz.ntmps198
 go_wp2_with (go_at_call 199; refine (HC.out _).mono ?_; rintro e w1 ⟨rfl, rfl⟩)
 all_goals
  go_ret
  refine ⟨?_, rfl⟩
  refine congrArg (fun b => Ending.returned (Value.bool b)) ?_
  rw [Bool.eq_iff_iff]
  simp [part, HG.out]
  try first | omega | (cases G <;> simp_all <;> omega) | (cases G <;> simp_all)
set_option maxRecDepth 100000 in
set_option maxHeartbeats 1000000 in
theorem cmp_any (a b : Int) (w : World) :
  Calls Tryz.prog 276 #[.int .i32 a, .int .i32 b] w fun e w' => e = .returned (.int .i64 (if a < b then -1 else if b < a then 1 else 0)) ∧ w = w' := by
 rcases (show a < b ∨ (¬ a < b ∧ b < a) ∨ (¬ a < b ∧ ¬ b < a) by omega) with h | ⟨h, h'⟩ | ⟨h, h'⟩
 all_goals
  go_enter Tryz.func276, Tryz.ntmps276
  go_wp2
  go_ret
  refine ⟨?_, rfl⟩
  simp [*]
theorem lexCmp_drop (x y : List Nat) (k : Nat) (hx : k < x.length) (hy : k < y.length) :
  lexCmp (x.drop k) (y.drop k) = if x.getD k 0 = y.getD k 0 then lexCmp (x.drop (k + 1)) (y.drop (k + 1)) else if x.getD k 0 < y.getD k 0 then -1 else 1 := by
 rw [List.drop_eq_getElem_cons hx, List.drop_eq_getElem_cons hy]
 simp [lexCmp, hx, hy]
theorem lexCmp_short (x y : List Nat) (k : Nat) (hx : k < x.length) (hy : y.length ≤ k) : lexCmp (x.drop k) (y.drop k) = 1 := by
 rw [List.drop_eq_getElem_cons hx, List.drop_eq_nil_of_le hy]
 rfl
theorem lexCmp_end (x y : List Nat) (k : Nat) (hx : x.length ≤ k) : lexCmp (x.drop k) (y.drop k) = if k < y.length then -1 else 0 := by
 rw [List.drop_eq_nil_of_le hx]
 by_cases hy : k < y.length
 ·rw [List.drop_eq_getElem_cons hy, if_pos hy]
  rfl
 ·rw [List.drop_eq_nil_of_le (by omega), if_neg hy]
  rfl
set_option maxRecDepth 100000 in
set_option maxHeartbeats 2000000 in
theorem compare_any (x y : List Nat) (a b c d : Nat) (w : World) (hx : ∀ j, j < x.length → w.cell? ⟨a, j, none⟩ = some (.int .i32 ((x.getD j 0 : Nat) : Int))) (hy : ∀ j, j < y.length → w.cell? ⟨b, j, none⟩ = some (.int .i32 ((y.getD j 0 : Nat) : Int)))
  (hlx : x.length ≤ 1000000) :
  Calls Tryz.prog 248 #[.slice (some ⟨a, 0, none⟩) x.length c, .slice (some ⟨b, 0, none⟩) y.length d] w fun e w' => e = .returned (.int .i64 (lexCmp x y)) ∧ w = w' := by
 obtain ⟨R, hR⟩ : ∃ R, lexCmp x y = R := ⟨_, rfl⟩
 rw [hR]
 have HR := Lib.hid hR
 have HX := Lib.hid hx
 have HY := Lib.hid hy
 clear hR hx hy
 go_enter Tryz.func248, Tryz.ntmps248
 go_wp2
 go_loop [11] (fun i => ∃ k : Nat, k ≤ x.length ∧ i = .int .i64 k ∧ k ≤ y.length ∧ lexCmp (x.drop k) (y.drop k) = R) (fun i => x.length - (RowKit.intOf i).toNat)
 case atStart => exact ⟨0, Nat.zero_le _, rfl, Nat.zero_le _, HR.out⟩
 case round =>
  obtain ⟨k, hk, rfl, hky, hv⟩ := hrel
  have HV := Lib.hid hv
  clear hv
  by_cases hlt : k < x.length
  ·by_cases hlt2 : k < y.length
   ·have h1 := lexCmp_drop x y k hlt hlt2
    rw [HV.out] at h1
    have c1 := HX.out k hlt
    have c2 := HY.out k hlt2
    obtain ⟨p, hp⟩ : ∃ p, x.getD k 0 = p := ⟨_, rfl⟩
    obtain ⟨q, hq⟩ : ∃ q, y.getD k 0 = q := ⟨_, rfl⟩
    rw [hp] at h1 c1
    rw [hq] at h1 c2
    clear hp hq
    have HC := Lib.hid (cmp_any (p : Int) (q : Int))
    rcases (show p < q ∨ q < p ∨ p = q by omega) with h | h | h
    ·rw [if_neg (by omega), if_pos h] at h1
     rw [if_pos (by omega)] at HC
     have H1 := Lib.hid h1
     clear h1 h
     go_wp2_with (go_at_call 276; refine (HC.out _).mono ?_; rintro e w1 ⟨rfl, rfl⟩)
     go_ret
     exact ⟨by rw [H1.out]; rfl, rfl⟩
    ·rw [if_neg (by omega), if_neg (by omega)] at h1
     rw [if_neg (by omega), if_pos (by omega)] at HC
     have H1 := Lib.hid h1
     clear h1 h
     go_wp2_with (go_at_call 276; refine (HC.out _).mono ?_; rintro e w1 ⟨rfl, rfl⟩)
     go_ret
     exact ⟨by rw [H1.out]; rfl, rfl⟩
    ·rw [if_pos h] at h1
     rw [if_neg (by omega), if_neg (by omega)] at HC
     have H1 := Lib.hid h1
     clear h1 h
     go_wp2_with (go_at_call 276; refine (HC.out _).mono ?_; rintro e w1 ⟨rfl, rfl⟩)
     go_round
     case rel => exact ⟨k + 1, by omega, by go_num, by omega, H1.out.symm⟩
     case measure => simp [RowKit.intOf]; omega
   ·have h1 := lexCmp_short x y k hlt (by omega)
    rw [HV.out] at h1
    have H1 := Lib.hid h1
    have c1 := HX.out k hlt
    clear h1
    go_wp2_with fail
    go_ret
    exact ⟨by rw [H1.out]; rfl, rfl⟩
  ·have h1 := lexCmp_end x y k (by omega)
   rw [HV.out] at h1
   by_cases hlt2 : k < y.length
   ·rw [if_pos hlt2] at h1
    have H1 := Lib.hid h1
    clear h1
    go_wp2_with fail
    go_ret
    exact ⟨by rw [H1.out]; rfl, rfl⟩
   ·rw [if_neg hlt2] at h1
    have H1 := Lib.hid h1
    clear h1
    go_wp2_with fail
    go_ret
    exact ⟨by rw [H1.out]; rfl, rfl⟩
end Go.Proofs.YtmgchjddpmmglaaGreatDoor

namespace Go.Proofs.YtmgchjddpmmglaaGreatDoor
open Go.RowKit Go.Lib
def rowR (w : World) (l : List UInt8) : Array Value :=
 ((runesU l).map fun (n : Nat) => Value.int .i32 (n : Int)).toArray ++ Array.replicate (grownCap w (runesU l).length 0 21 - (runesU l).length) (.int .i32 0)
theorem conv_runes (l : List UInt8) (hs : l.length ≤ 1000000) (w : World) :
  (convert 9 264 (.string (bs l))).run Tryz.prog w = .ok (.slice (some ⟨w.heap.size, 0, none⟩) (runesU l).length (grownCap w (runesU l).length 0 21)) (w.drew.alloc (.cells (rowR w l) 21)) := by
 have h := run_runes_of_string (P := Tryz.prog) w 9 264 21 (bs l) Tryz.underlying9 Tryz.underlying264 Tryz.underlying21
 have e := runesFrom_all l
 have hl := runesU_length l
 have hz : (Conv.runesFrom (bs l) (bs l).size 0 #[]).size = (runesU l).length := by rw [e]; simp
 rw [hz, e] at h
 exact h (by omega)
theorem rowR_cell (w w' : World) (l : List UInt8) (j : Nat) (hj : j < (runesU l).length) : (w'.alloc (.cells (rowR w l) 21)).cell? ⟨w'.heap.size, j, none⟩ = some (.int .i32 (((runesU l).getD j 0 : Nat) : Int)) := by
 rw [cell_of_row _ _ j _ _ (0, 0) (heap_alloc_new w' _)]
 unfold rowR
 rw [Array.getElem?_append_left (by simpa using hj)]
 simp [hj]
set_option maxRecDepth 100000 in
set_option maxHeartbeats 1000000 in
theorem ncompare_any (a b : List UInt8) (ha : a.length ≤ 1000000) (hb : b.length ≤ 1000000) (w : World) :
  Calls Tryz.prog 231 #[.string (bs a), .string (bs b)] w fun e w' => e = .returned (.int .i64 (lexCmp (runesU a) (runesU b))) ∧ Below w.heap.size w w' := by
 have hca := conv_runes a ha
 have hcb := conv_runes b hb
 go_enter Tryz.func231, Tryz.ntmps231
 go_wp2_with fail
 refine (compare_any (runesU a) (runesU b) _ _ _ _ _ ?_ ?_ (by have := runesU_length a; omega)).mono ?_
 ·intro j hj
  exact cell_past _ (cell_drew (rowR_cell w w.drew a j hj))
 ·intro j hj
  have h := rowR_cell (w.alloc (.cells (rowR w a) 21)).drew (w.alloc (.cells (rowR w a) 21)) b j hj
  rw [show (w.alloc (.cells (rowR w a) 21)).heap.size = w.heap.size + 1 by simp] at h
  exact cell_drew (cell_drew h)
 ·rintro e w1 ⟨rfl, rfl⟩
  go_wp2_with fail
  go_ret
  exact ⟨rfl, bel⟩
set_option maxRecDepth 100000 in
set_option maxHeartbeats 1000000 in
theorem nless_any (a b : List UInt8) (ha : a.length ≤ 1000000) (hb : b.length ≤ 1000000) (w : World) :
  Calls Tryz.prog 204 #[.string (bs a), .string (bs b)] w fun e w' => e = .returned (.bool (lexLess (runesU a) (runesU b))) ∧ Below w.heap.size w w' := by
 have HC := Lib.hid (ncompare_any a b ha hb)
 have HL := Lib.hid (lexCmp_less (runesU a) (runesU b))
 generalize lexLess (runesU a) (runesU b) = L at *
 generalize lexCmp (runesU a) (runesU b) = C at *
 go_enter Tryz.func204, Tryz.ntmps204
 go_wp2_with (go_at_call 231; refine (HC.out _).mono ?_; rintro e w1 ⟨rfl, hw1⟩)
 go_ret
 exact ⟨by rw [HL.out]; rfl, hw1⟩
theorem lexLess_drop (x y : List Nat) (k : Nat) (hx : k < x.length) (hy : k < y.length) :
  lexLess (x.drop k) (y.drop k) = if x.getD k 0 = y.getD k 0 then lexLess (x.drop (k + 1)) (y.drop (k + 1)) else decide (x.getD k 0 < y.getD k 0) := by
 rw [List.drop_eq_getElem_cons hx, List.drop_eq_getElem_cons hy]
 simp [lexLess, hx, hy]
theorem lexLess_end (x y : List Nat) (k : Nat) (h : x.length ≤ k ∨ y.length ≤ k) (hx : k ≤ x.length) (hy : k ≤ y.length) : lexLess (x.drop k) (y.drop k) = decide (x.length < y.length) := by
 by_cases h1 : x.length ≤ k
 ·rw [List.drop_eq_nil_of_le h1]
  by_cases h2 : k < y.length
  ·rw [List.drop_eq_getElem_cons h2]
   simp [lexLess]; omega
  ·rw [List.drop_eq_nil_of_le (by omega)]
   simp [lexLess]; omega
 ·rw [List.drop_eq_nil_of_le (show y.length ≤ k by omega), List.drop_eq_getElem_cons (show k < x.length by omega)]
  simp [lexLess]; omega
set_option maxRecDepth 100000 in
set_option maxHeartbeats 2000000 in
theorem rless_any (a b : List UInt8) (ha : a.length ≤ 1000000) (hb : b.length ≤ 1000000) (w : World) :
  Calls Tryz.prog 137 #[.string (bs a), .string (bs b)] w fun e w' => e = .returned (.bool (lexLess (runesU a) (runesU b))) ∧ Below w.heap.size w w' := by
 have HA := Lib.hid (runes_any a ha)
 have HB := Lib.hid (runes_any b hb)
 have hla := runesU_length a
 have hlb := runesU_length b
 generalize runesU a = x at *
 generalize runesU b = y at *
 obtain ⟨R, hR⟩ : ∃ R, lexLess x y = R := ⟨_, rfl⟩
 rw [hR]
 have HR := Lib.hid hR
 have hlx : x.length ≤ 1000000 := by omega
 have hly : y.length ≤ 1000000 := by omega
 clear hR hla hlb
 go_enter Tryz.func137, Tryz.ntmps137
 go_wp2_with fail
 refine (HA.out _).mono ?_
 rintro e w1 ⟨g, c, rfl, hg, hgs, hgc, hx, hb1⟩
 go_wp2_with fail
 refine (HB.out _).mono ?_
 rintro e w2 ⟨g', c', rfl, hg', hgs', hgc', hy, hb2⟩
 have hx2 : ∀ j, j < x.length → w2.cell? ⟨g, j, none⟩ = some (.int .i64 ((x.getD j 0 : Nat) : Int)) := fun j hj => cell_later hb2 (hx j hj)
 have hbw := below_next hb1 hb2
 have HX := Lib.hid hx2
 have HY := Lib.hid hy
 clear hx hx2 hy hb1 hb2 hg hgs hg' hgs' HA HB
 go_wp2_with fail
 go_loopw [7] (fun i wr => ∃ k : Nat, k ≤ x.length ∧ i = .int .i64 k ∧ k ≤ y.length ∧ lexLess (x.drop k) (y.drop k) = R ∧ ∃ n, wr = w2.drewN n) (fun i _ => x.length - (RowKit.intOf i).toNat)
 case atStart => exact ⟨0, Nat.zero_le _, rfl, Nat.zero_le _, HR.out, 0, rfl⟩
 case round =>
  obtain ⟨k, hk, rfl, hky, hv, n, rfl⟩ := hrel
  have HV := Lib.hid hv
  clear hv
  by_cases hlt : k < x.length ∧ k < y.length
  ·have c1 := HX.out k hlt.1
   have c2 := HY.out k hlt.2
   have h1 := lexLess_drop x y k hlt.1 hlt.2
   rw [HV.out] at h1
   obtain ⟨hk1, hk2⟩ := hlt
   obtain ⟨p, hp⟩ : ∃ p, x.getD k 0 = p := ⟨_, rfl⟩
   obtain ⟨q, hq⟩ : ∃ q, y.getD k 0 = q := ⟨_, rfl⟩
   rw [hp] at h1 c1
   rw [hq] at h1 c2
   clear hp hq
   by_cases h : p = q
   ·rw [if_pos h] at h1
    have H1 := Lib.hid h1
    have e1 : ((p : Int) != (q : Int)) = false := by simp [h]
    clear h1 h
    go_wp2_with fail
    go_region
    go_wp2_with fail
    go_roundw
    case rel => exact ⟨k + 1, by omega, by go_num, by omega, H1.out.symm, n + 1, rfl⟩
    case measure => simp [RowKit.intOf]; omega
   ·rw [if_neg h] at h1
    have H1 := Lib.hid h1
    have e1 : ((p : Int) != (q : Int)) = true := by simp; omega
    clear h1 h
    go_wp2_with fail
    go_region
    go_wp2_with fail
    go_region
    go_wp2_with fail
    go_ret
    exact ⟨by rw [H1.out]; first | rfl | simp, (Go.below_drewN hbw n).drew.drew⟩
  ·have h1 := lexLess_end x y k (by omega) hk hky
   rw [HV.out] at h1
   have H1 := Lib.hid h1
   clear h1
   by_cases hx1 : k < x.length
   ·have hy1 : ¬ k < y.length := fun h => hlt ⟨hx1, h⟩
    clear hlt
    go_wp2_with fail
    go_ret
    refine ⟨?_, Go.below_drewN hbw n⟩
    rw [H1.out]
    simp
   ·clear hlt
    go_wp2_with fail
    go_ret
    refine ⟨?_, Go.below_drewN hbw n⟩
    rw [H1.out]
    simp
end Go.Proofs.YtmgchjddpmmglaaGreatDoor

namespace Go.Proofs
open Go.Shelf
def Tryz.laysValid_ren : Go.Shelf.Ren := ⟨fun | 196 => 197 | 259 => 228 | n => n, fun | 9 => 9 | 4 => 4 | 3 => 3 | 5 => 5 | 12 => 12 | 119 => 240 | 0 => 0 | 46 => 244 | 139 => 243 | 138 => 242 | 53 => 259 | n => n, fun | 3 => 1 | 4 => 2 | n => n⟩
theorem Tryz.laysValid : Go.Proofs.Lays.n196 Tryz.prog Tryz.laysValid_ren := {
 mixed := by kernel_rfl
 f196 := Tryz.func197.trans (congrArg some (by kernel_rfl))
 f259 := Tryz.func228.trans (congrArg some (by kernel_rfl))
 t0 := Tryz.underlying0
 a0 := Tryz.isAgg0
 z0 := Tryz.sizeOf0
 v0 := Tryz.zeroValue0
 t3 := Tryz.underlying3
 a3 := Tryz.isAgg3
 z3 := Tryz.sizeOf3
 v3 := Tryz.zeroValue3
 t4 := Tryz.underlying4
 a4 := Tryz.isAgg4
 z4 := Tryz.sizeOf4
 v4 := Tryz.zeroValue4
 t5 := Tryz.underlying5
 a5 := Tryz.isAgg5
 z5 := Tryz.sizeOf5
 v5 := Tryz.zeroValue5
 t9 := Tryz.underlying9
 a9 := Tryz.isAgg9
 z9 := Tryz.sizeOf9
 v9 := Tryz.zeroValue9
 t12 := Tryz.underlying12
 a12 := Tryz.isAgg12
 z12 := Tryz.sizeOf12
 v12 := Tryz.zeroValue12
 t46 := Tryz.underlying244
 a46 := Tryz.isAgg244
 z46 := Tryz.sizeOf244
 v46 := Tryz.zeroValue244
 t53 := Tryz.underlying259
 a53 := Tryz.isAgg259
 z53 := Tryz.sizeOf259
 v53 := Tryz.zeroValue259
 t119 := Tryz.underlying240
 a119 := Tryz.isAgg240
 z119 := Tryz.sizeOf240
 t138 := Tryz.underlying242
 a138 := Tryz.isAgg242
 z138 := Tryz.sizeOf242
 v138 := Tryz.zeroValue242
 t139 := Tryz.underlying243
 a139 := Tryz.isAgg243
 z139 := Tryz.sizeOf243
 v139 := Tryz.zeroValue243
 g3 := by kernel_rfl
 g4 := by kernel_rfl }
end Go.Proofs

namespace Go.Proofs.YtmgchjddpmmglaaGreatDoor
open Go.RowKit Go.Lib
theorem valid_any (l : List UInt8) (hs : l.length ≤ 1000000) (w : World) (hT : Lib.Utf8Tabs 1 2 w) :
  Calls Tryz.prog 197 #[.string (bs l)] w fun e w' => e = .returned (.bool (validD l)) ∧ Below w.heap.size w w' := by
 have h := Any.utf8_ValidString Tryz.laysValid (bs l) w (by rw [bs_size]; omega) hT
 have e : (bs l).data.toList = l := by simp [bs]
 rw [e] at h
 exact h
theorem next_at (l : List UInt8) (p : Nat) (hp : p < l.length) (w : World) (ty : TypeId) :
  (Instr.next (.pointer (some ⟨w.heap.size, 0, none⟩)) true ty).run Tryz.prog (w.iter (bs l) p) = .ok (.tuple #[.bool true, .int .i64 p, .int .i32 ((oneAt l p).1 : Nat)]) (w.iter (bs l) (p + (oneAt l p).2)) := by
 have h := run_next_any (P := Tryz.prog) w (bs l) p ty (by rw [bs_size]; exact hp)
 rw [← decodeL_drop] at h
 have e : (bs l).data.toList = l := by simp [bs]
 rw [e] at h
 exact h
theorem iter_below (w : World) (s : ByteArray) (p : Nat) : Below w.heap.size w (w.iter s p) := (Below.refl _ _).alloc (Nat.le_refl _) _
theorem word_bad (done rest : List Nat) (c : Nat) (h : part c = false) : word (done ++ c :: rest) = false := by
 simp [word, h]
theorem word_dig (rest : List Nat) (c : Nat) (h : dig c = true) : word (c :: rest) = false := by
 simp [word, h]
theorem word_end (done : List Nat) (h : done.all part = true) (h0 : done ≠ [] → dig (done.getD 0 0) = false) : word done = (decide (0 < done.length) && decide (done.length ≤ 20)) := by
 unfold word
 rw [h]
 cases done with
 | nil => rfl
 | cons a r => rw [h0 (by simp)]; simp
set_option maxRecDepth 100000 in
set_option maxHeartbeats 2000000 in
theorem nis_any (l : List UInt8) (hs : l.length ≤ 1000000) (w : World) (hT : Lib.Utf8Tabs 1 2 w) :
  Calls Tryz.prog 157 #[.string (bs l)] w fun e w' => e = .returned (.bool (nameL l)) ∧ Below w.heap.size w w' := by
 have HS := Lib.hid (reserved_any l)
 have HV := Lib.hid (valid_any l hs w hT)
 clear hT
 have hN : nameL l = (!resL l && validD l && word (runesU l)) := rfl
 rw [hN]
 clear hN
 generalize validD l = V at *
 generalize resL l = S at *
 cases S with
 | true =>
  go_enter Tryz.func157, Tryz.ntmps157
  go_wp2_with (go_at_call 196; refine (HS.out _).mono ?_; rintro e w2 ⟨rfl, rfl⟩)
  go_ret
  exact ⟨rfl, Below.refl _ _⟩
 | false =>
  cases V with
  | false =>
   go_enter Tryz.func157, Tryz.ntmps157
   go_wp2_with (first | (go_at_call 196; refine (HS.out _).mono ?_; rintro e w2 ⟨rfl, rfl⟩) | (go_at_call 197; refine HV.out.mono ?_; rintro e w2 ⟨rfl, hb2⟩))
   go_ret
   exact ⟨rfl, hb2⟩
  | true =>
   obtain ⟨R, hR⟩ : ∃ R, (!false && true && word (runesU l)) = R := ⟨_, rfl⟩
   have HR := Lib.hid hR
   rw [hR]
   clear hR
   go_enter Tryz.func157, Tryz.ntmps157
   go_wp2_with (first | (go_at_call 196; refine (HS.out _).mono ?_; rintro e w2 ⟨rfl, rfl⟩) | (go_at_call 197; refine HV.out.mono ?_; rintro e w2 ⟨rfl, hb2⟩))
   clear HS HV
   go_loopw [3] (fun i wr => ∃ p : Nat, ∃ done : List Nat, p ≤ l.length ∧ i = .int .i64 done.length ∧ wr = w2.iter (bs l) p ∧ done.length ≤ p ∧ runesU l = done ++ runesU (l.drop p) ∧ done.all part = true ∧ (done ≠ [] → dig (done.getD 0 0) = false))
    (fun _ wr => l.length - wr.iterPos w2.heap.size)
   case atStart => exact ⟨0, [], Nat.zero_le _, rfl, rfl, Nat.le_refl _, rfl, rfl, fun h => absurd rfl h⟩
   case round =>
    obtain ⟨p, done, hp, rfl, rfl, hdp, hd, hall, hdig⟩ := hrel
    have HD := Lib.hid hd
    have HL := Lib.hid hall
    have HG := Lib.hid hdig
    clear hd hall hdig
    by_cases hlt : p < l.length
    ·obtain ⟨s1, s2, s3⟩ := runes_step l p done hlt HD.out
     have hnx := next_at l p hlt w2
     have hr : (oneAt l p).1 ≤ 1114111 := decodeL_rune _
     obtain ⟨D, hD⟩ : ∃ D, oneAt l p = D := ⟨_, rfl⟩
     rw [hD] at s1 s2 s3 hnx hr
     have HS1 := Lib.hid s1
     have HCP := Lib.hid (part_any D.1 hr)
     have HCD := Lib.hid (digit_any D.1 hr)
     clear s1 hD
     by_cases hpt : part D.1 = true
     ·have HL2 : RowKit.Hid ((done ++ [D.1]).all part = true) := Lib.hid (by rw [List.all_append, HL.out]; simp [hpt])
      rw [hpt] at HCP
      by_cases hn : done.length = 0
      ·have e0 : ((done.length : Int) == 0) = true := by simp [hn]
       have hnil : done = [] := List.eq_nil_of_length_eq_zero hn
       have HNil := Lib.hid hnil
       clear hnil hpt
       by_cases hdg : dig D.1 = true
       ·have H1 : RowKit.Hid (R = false) := Lib.hid (by have h1 := HS1.out; rw [HNil.out] at h1; rw [← HR.out, h1]; simpa using word_dig _ _ hdg)
        rw [hdg] at HCD
        clear hdg hn
        go_wp2_with (first | (go_at_call 198; refine (HCP.out _).mono ?_; rintro e w4 ⟨rfl, rfl⟩) | (go_at_call 199; refine (HCD.out _).mono ?_; rintro e w4 ⟨rfl, rfl⟩))
        go_ret
        refine ⟨by rw [H1.out]; rfl, below_next hb2 (iter_below _ _ _)⟩
       ·have hdf : dig D.1 = false := by simpa using hdg
        have HG2 : RowKit.Hid (done ++ [D.1] ≠ [] → dig ((done ++ [D.1]).getD 0 0) = false) := Lib.hid (by rw [HNil.out]; simpa using hdf)
        rw [hdf] at HCD
        clear hdg hdf hn
        go_wp2_with (first | (go_at_call 198; refine (HCP.out _).mono ?_; rintro e w4 ⟨rfl, rfl⟩) | (go_at_call 199; refine (HCD.out _).mono ?_; rintro e w4 ⟨rfl, rfl⟩))
        go_roundw
        case rel => exact ⟨p + D.2, done ++ [D.1], s3, by simp, rfl, by simp; omega, HS1.out, HL2.out, HG2.out⟩
        case measure => simp; omega
      ·have e0 : ((done.length : Int) == 0) = false := beq_eq_false_iff_ne.2 (by omega)
       have HG2 : RowKit.Hid (done ++ [D.1] ≠ [] → dig ((done ++ [D.1]).getD 0 0) = false) := Lib.hid (by
        have h1 : done ≠ [] := fun e => hn (by rw [e]; rfl)
        intro _
        rw [← HG.out h1]
        cases done with
        | nil => exact absurd rfl h1
        | cons a t => rfl)
       have hlen : done.length ≤ 1000000 := by omega
       clear hn hpt
       go_wp2_with (first | (go_at_call 198; refine (HCP.out _).mono ?_; rintro e w4 ⟨rfl, rfl⟩) | (go_at_call 199; refine (HCD.out _).mono ?_; rintro e w4 ⟨rfl, rfl⟩))
       go_roundw
       case rel => exact ⟨p + D.2, done ++ [D.1], s3, by simp, rfl, by simp; omega, HS1.out, HL2.out, HG2.out⟩
       case measure => simp; omega
     ·have hpf : part D.1 = false := by simpa using hpt
      have H1 : RowKit.Hid (R = false) := Lib.hid (by have h1 := HS1.out; rw [← HR.out, h1, List.append_assoc]; simpa using word_bad done _ _ hpf)
      rw [hpf] at HCP
      clear hpf hpt
      go_wp2_with (first | (go_at_call 198; refine (HCP.out _).mono ?_; rintro e w4 ⟨rfl, rfl⟩) | (go_at_call 199; refine (HCD.out _).mono ?_; rintro e w4 ⟨rfl, rfl⟩))
      go_ret
      exact ⟨by rw [H1.out]; rfl, below_next hb2 (iter_below _ _ _)⟩
    ·have hnx := fun ty => run_next_end (P := Tryz.prog) w2 (bs l) p ty (by rw [bs_size]; exact hlt)
     have H1 : RowKit.Hid (R = (decide (0 < done.length) && decide (done.length ≤ 20))) := Lib.hid (by
      have h1 := HD.out
      rw [List.drop_eq_nil_of_le (by omega), runesU_nil, List.append_nil] at h1
      rw [← HR.out, h1]
      simpa using word_end done HL.out HG.out)
     go_wp2_with fail
     all_goals
      go_ret
      refine ⟨?_, below_next hb2 (iter_below _ _ _)⟩
      rw [H1.out]
      refine congrArg (fun b => Ending.returned (Value.bool b)) ?_
      rw [Bool.eq_iff_iff]
      simp
      try omega
end Go.Proofs.YtmgchjddpmmglaaGreatDoor
