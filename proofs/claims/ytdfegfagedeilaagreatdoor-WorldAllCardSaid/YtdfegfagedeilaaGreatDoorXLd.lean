/-
  The decoder of layer 2's reference, at any place. No conditions.
  The walks of layer 2's reference (name) over a text's runes: the list of them, and whether the text is UTF-8. No conditions.
  The walks of layer 2 (name): reserved words, what may stand in a name, the comparison of two runes. No conditions.
  The walks of layer 2 (name): which of two texts is ahead, in the program and in the reference. No conditions.
  The walk of layer 2 (name): what a name is, in the program, where unicode/utf8's two tables are as their initialisers lay them. No conditions.
  An event's six cells in memory: the build, the store and the load of a whole event as one rule of the walk each. No conditions.
  The walks of layer 7 (event): an event of four words; whether an event may be, in the program and in the reference. Conditions: unicode/utf8's two tables, and event.words, hold what their initialisers lay; texts of at most 1,000,000 bytes.
  A region that draws its order, some of whose operations wait for all that read: one condition on the world serves till those. No conditions.
  Blocks of cells known whole: made, kept, stored into; rows of a call's own against them. No conditions.
  Rows of texts of a call's own; append to a row of one's own as one step of a region that draws. No conditions.
-/
import Derived.Test.YtdfegfagedeilaaGreatDoorXxNameX
import Derived.Test.YtdfegfagedeilaaGreatDoorXxNameY
import Derived.Deep.MidRow
import Derived.Test.YtdfegfagedeilaaGreatDoorXLc
import Derived.Deep.DeepCutAuto
import Derived.OrdersHeld
namespace Go.Proofs.YtdfegfagedeilaaGreatDoor
section
open Go.RowKit Go.Lib
theorem aVk (l : List UInt8) (p : Nat) (hp : p < l.length) (hs : l.length ≤ 4611686018427387904) (w : World) :
  Calls Tryz.prog 98 #[.string (bs l), .int .i64 p] w fun e w' => e = .returned (.tuple #[.int .i64 ((bH l p).2 : Nat), .int .i64 ((bH l p).1 : Nat)]) ∧ w = w' := by
 by_cases h1 : l[p].toNat < 194
 ·exact aVl l p hp (by omega) w
 ·by_cases h2 : l[p].toNat ≤ 223
  ·exact bId l p hp hs (by omega) h2 w
  ·by_cases h3 : l[p].toNat ≤ 239
   ·exact aZb l p hp hs (by omega) h3 w
   ·by_cases h4 : l[p].toNat ≤ 244
    ·exact bDx l p hp hs (by omega) h4 w
    ·exact aVl l p hp (by omega) w
end
section
open Go.RowKit Go.Lib
theorem aFa (l : List UInt8) (p : Nat) (done : List Nat) (hp : p < l.length) (h : aQ l = done ++ aQ (l.drop p)) :
  aQ l = (done ++ [(bH l p).1]) ++ aQ (l.drop (p + (bH l p).2)) ∧ 1 ≤ (bH l p).2 ∧ p + (bH l p).2 ≤ l.length := by
 have hne : l.drop p ≠ [] := by
  intro e;have := congrArg List.length e;simp at this;omega
 have hw := oV (l.drop p) hne;rw [List.length_drop] at hw;refine ⟨?_, hw.1, by unfold bH; omega⟩;rw [h, uE _ hne, List.append_assoc, List.drop_drop];rfl
def aXt (r : List Nat) : List Value := r.map fun (n : Nat) => Value.int .i64 (n : Int)
theorem aXu (r : List Nat) (n : Nat) : aXt r ++ [.int .i64 (n : Int)] = aXt (r ++ [n]) := by simp [aXt]
theorem bIp {w : World} {B : Nat} {e : TypeId} {v : Value} {r : List Nat} (h : w.ownsRow B e 1 v r.length (aXt r)) (hn : v ≠ .slice none 0 0) :
  ∃ g cap, v = .slice (some ⟨g, 0, none⟩) r.length cap ∧ B ≤ g ∧ g < w.heap.size ∧ r.length ≤ cap ∧ ∀ j, j < r.length → w.cell? ⟨g, j, none⟩ = some (.int .i64 ((r.getD j 0 : Nat) : Int)) := by
 obtain ⟨-, ⟨h0, -⟩ | ⟨g, cap, cur, hv, hB, hw, hc, -, -, ht⟩⟩ := h
 ·exact absurd h0 hn
 ·refine ⟨g, cap, hv, hB, (Array.getElem?_eq_some_iff.1 hw).1, hc, fun j hj => ?_⟩;have h1 := congrArg (fun x : List Value => x[j]?) ht;simp only [Nat.mul_one, List.getElem?_take, hj, if_true, Array.getElem?_toList] at h1;rw [cell_of_row w g j _ _ (0, 0) hw, h1];simp [aXt, hj]
theorem bDa : (Tryz.prog.info? 3).map (fun i => (i.zero, i.size, i.bytes)) = some (some (.int .i64 0), 1, 8) := by kernel_rfl
set_option maxRecDepth 100000 in
set_option maxHeartbeats 1000000 in
theorem zD (l : List UInt8) (hs : l.length ≤ 1000000) (w : World) :
  Calls Tryz.prog 79 #[.string (bs l)] w fun e w' => ∃ g cap, e = .returned (.slice (some ⟨g, 0, none⟩) (aQ l).length cap) ∧ w.heap.size ≤ g ∧ g < w'.heap.size ∧ (aQ l).length ≤ cap ∧
   (∀ j, j < (aQ l).length → w'.cell? ⟨g, j, none⟩ = some (.int .i64 (((aQ l).getD j 0 : Nat) : Int))) ∧ Below w.heap.size w w' := by
 obtain ⟨i0, hi, hz0, hz1, hz2⟩ := info_parts bDa;go_enter Tryz.func79, Tryz.ntmps79
 go_wp2
 go_loopw [3, 4] (fun v i wr => ∃ p : Nat, ∃ done : List Nat, p ≤ l.length ∧ i = .int .i64 p ∧ wr.ownsRow w.heap.size 3 1 v done.length (aXt done) ∧ Below w.heap.size w wr ∧ done.length ≤ p ∧ aQ l = done ++ aQ (l.drop p) ∧ v ≠ .slice none 0 0)
  (fun _ i _ => l.length - (RowKit.intOf i).toNat)
 case atStart =>
  exact ⟨0, [], Nat.zero_le _, rfl, World.ownsRow_made w #[] 0 (Nat.le_refl _) (Nat.zero_le _) rfl, (Below.refl _ _).alloc (Nat.le_refl _) _, Nat.le_refl _, rfl, by simp⟩
 case round =>
  obtain ⟨p, done, hp, rfl, hown, hbw, hdp, hdone, hnn⟩ := hrel;have HD := lhid hdone;have HN := lhid hnn;clear hdone hnn;by_cases hlt : p < l.length
  ·obtain ⟨s1, s2, s3⟩ := aFa l p done hlt HD.out;obtain ⟨D, hD⟩ : ∃ D, bH l p = D := ⟨_, rfl⟩;have HC := lhid (aVk l p hlt (by omega));rw [hD] at HC s1 s2 s3;have HS := lhid s1;clear s1 hD
   go_wp2_with (first
    | (go_at_call 98; refine (HC.out _).mono ?_; rintro e w1 ⟨rfl, rfl⟩)
    | (at_builtin; refine wpList_append_own _ rfl _ _ 49 rfl w.heap.size 3 i0 (.int .i64 0) 1 8 Tryz.underlying49 hi hz0 hz1 hz2 rfl (by decide) _ _ _ rfl (hown.alloc _) ⟨wr.heap.size, 0, none⟩ 1 1 [.int .i64 (D.1 : Nat)] rfl rfl ?c1 ?c2 ?c3 ?c4 ?c5 ?_))
   case c1 =>
    intro j u hj
    match j, hj with
    | 0, hj => simp at hj; subst hj; simp [Addr.add]
   case c2 => intro u hu; simp at hu; subst hu; rfl
   case c3 => unfold maxLen; omega
   case c4 => omega
   case c5 => have := hbw.size; simp; omega
   ·intro v' w1 hown' hgrow hnil;have HV := lhid hnil;clear hnil;have HO := lhid hown';clear hown';have hb1 : Below w.heap.size w w1 := (hbw.alloc (by have := hbw.size; omega) _).grown hgrow (by have := hbw.size; simp; omega) (fun k hk => (hown.lt k hk).1)
    go_wp2
    go_roundw
    case rel =>
     refine ⟨p + D.2, done ++ [D.1], s3, by go_num, ?_, hb1, by simp; omega, HS.out, HV.out⟩;have := HO.out;rw [aXu] at this;simpa using this
    case measure => simp [RowKit.intOf]; omega
  ·have e : l.drop p = [] := List.drop_eq_nil_of_le (by omega);have h2 := HD.out;rw [e, aEz, List.append_nil] at h2;have H2 := lhid h2;clear h2 e
   go_wp2
   go_ret;rw [H2.out];obtain ⟨g, cap, rfl, h1, h2, h3, h4⟩ := bIp hown HN.out;exact ⟨g, cap, rfl, h1, h2, h3, h4, hbw⟩
theorem aQu (n b0 b1 b2 b3 : Nat) : (decodeN n b0 b1 b2 b3).1 = 65533 → (decodeN n b0 b1 b2 b3).2 = 1 ∨ (decodeN n b0 b1 b2 b3).2 = 3 := by
 unfold decodeN;(repeat' split);all_goals first | (intro _; exact .inl rfl) | (intro _; exact .inr rfl) | (intro h; exfalso; simp only at h; omega)
theorem aWv (l : List UInt8) (h : (decodeL l).1 = 65533) : (decodeL l).2 = 1 ∨ (decodeL l).2 = 3 := by
 rw [decodeL_N] at h ⊢;exact aQu _ _ _ _ _ h
theorem aUb (l : List UInt8) (p : Nat) (hp : p < l.length) :
  validD (l.drop p) = (if (bH l p).1 = 65533 ∧ (bH l p).2 ≠ 3 then false else validD (l.drop (p + (bH l p).2))) ∧ 1 ≤ (bH l p).2 ∧ p + (bH l p).2 ≤ l.length := by
 have hne : l.drop p ≠ [] := by
  intro e;have := congrArg List.length e;simp at this;omega
 have hw := oV (l.drop p) hne;have h3 := aWv (l.drop p);rw [List.length_drop] at hw;refine ⟨?_, hw.1, by unfold bH; omega⟩;rw [validD_step _ hne, List.drop_drop];unfold bH;by_cases h : (decodeL (l.drop p)).1 = 65533
 ·rcases h3 h with h4 | h4 <;> simp [h, h4]
 ·simp [h]
set_option maxRecDepth 100000 in
set_option maxHeartbeats 1000000 in
theorem aWn (l : List UInt8) (hs : l.length ≤ 1000000) (w : World) :
  Calls Tryz.prog 81 #[.string (bs l)] w fun e w' => e = .returned (.bool (validD l)) ∧ w = w' := by
 obtain ⟨R, hR⟩ : ∃ R, validD l = R := ⟨_, rfl⟩;rw [hR];have HR := lhid hR;clear hR;go_enter Tryz.func81, Tryz.ntmps81
 go_wp2
 go_loop [3] (fun i => ∃ p : Nat, p ≤ l.length ∧ i = .int .i64 p ∧ validD (l.drop p) = R) (fun i => l.length - (RowKit.intOf i).toNat)
 case atStart => exact ⟨0, Nat.zero_le _, rfl, HR.out⟩
 case round =>
  obtain ⟨p, hp, rfl, hv⟩ := hrel;have HV := lhid hv;clear hv;by_cases hlt : p < l.length
  ·obtain ⟨s1, s2, s3⟩ := aUb l p hlt;obtain ⟨D, hD⟩ : ∃ D, bH l p = D := ⟨_, rfl⟩;have HC := lhid (aVk l p hlt (by omega));rw [hD] at HC s1 s2 s3;rw [HV.out] at s1;have HS := lhid s1;clear s1 hD;rcases (show (D.1 = 65533 ∧ D.2 ≠ 3) ∨ (D.1 = 65533 ∧ D.2 = 3) ∨ D.1 ≠ 65533 by omega) with ⟨d1, d2⟩ | ⟨d1, d2⟩ | d1
   ·have H1 := HS.out;rw [if_pos ⟨d1, d2⟩] at H1;have H2 := lhid H1;have e1 : ((D.1 : Int) == 65533) = true := (by simp [d1]);have e2 : ((D.2 : Int) == 3) = false := (by simp; omega);clear H1 d1 d2;(go_wp2_with (go_at_call 98; refine (HC.out _).mono ?_; rintro e w1 ⟨rfl, rfl⟩));go_ret;exact ⟨by rw [H2.out]; rfl, rfl⟩
   ·have H1 := HS.out;rw [if_neg (by omega)] at H1;have H2 := lhid H1;have e1 : ((D.1 : Int) == 65533) = true := (by simp [d1]);have e2 : ((D.2 : Int) == 3) = true := (by simp [d2]);clear H1 d1 d2;(go_wp2_with (go_at_call 98; refine (HC.out _).mono ?_; rintro e w1 ⟨rfl, rfl⟩));go_round
    case rel => exact ⟨p + D.2, s3, by go_num, H2.out.symm⟩
    case measure => simp [RowKit.intOf]; omega
   ·have H1 := HS.out;rw [if_neg (fun x => d1 x.1)] at H1;have H2 := lhid H1;have e1 : ((D.1 : Int) == 65533) = false := (by simp; omega);clear H1 d1;(go_wp2_with (go_at_call 98; refine (HC.out _).mono ?_; rintro e w1 ⟨rfl, rfl⟩));go_round
    case rel => exact ⟨p + D.2, s3, by go_num, H2.out.symm⟩
    case measure => simp [RowKit.intOf]; omega
  ·have e : l.drop p = [] := List.drop_eq_nil_of_le (by omega);have h2 := HV.out;rw [e, validD_nil] at h2;have H2 := lhid h2;clear h2 e
   go_wp2
   go_ret;exact ⟨by rw [H2.out]; rfl, rfl⟩
end
section
open Go.RowKit Go.Lib
set_option maxRecDepth 100000 in
set_option maxHeartbeats 1000000 in
theorem aKo (l : List UInt8) (w : World) :
  Calls Tryz.prog 116 #[.string (bs l)] w fun e w' => e = .returned (.bool (aGq l)) ∧ w = w' := by
 go_enter Tryz.func116, Tryz.ntmps116
 go_wp2
 all_goals
  go_ret;refine ⟨?_, rfl⟩
  simp_all [aGq]
set_option maxRecDepth 100000 in
set_option maxHeartbeats 1000000 in
theorem aHd (c : Nat) (hc : c ≤ 1114111) (w : World) :
  Calls Tryz.prog 119 #[.int .i32 c] w fun e w' => e = .returned (.bool (dig c)) ∧ w = w' := by
 rcases (show c < 48 ∨ (48 ≤ c ∧ c ≤ 57) ∨ (48 ≤ c ∧ 57 < c) by omega) with h | ⟨h, h'⟩ | ⟨h, h'⟩
 all_goals
  go_enter Tryz.func119, Tryz.ntmps119
  go_wp2
  go_ret;refine ⟨?_, rfl⟩;simp [dig, *];try omega
set_option maxRecDepth 100000 in
set_option maxHeartbeats 1000000 in
theorem aGs (l : List UInt8) (w : World) :
  Calls Tryz.prog 80 #[.string (bs l)] w fun e w' => e = .returned (.bool (aGq l)) ∧ w = w' := by
 go_enter Tryz.func80, Tryz.ntmps80
 go_wp2
 all_goals
  go_ret;refine ⟨?_, rfl⟩
  simp_all [aGq]
  try (rw [Bool.eq_iff_iff]; simp [*])
set_option maxRecDepth 100000 in
set_option maxHeartbeats 1000000 in
theorem bEp (c : Nat) (hc : c ≤ 1114111) (w : World) :
  Calls Tryz.prog 118 #[.int .i32 c] w fun e w' => e = .returned (.bool (oR c)) ∧ w = w' := by
 obtain ⟨G, hG⟩ : ∃ G, dig c = G := ⟨_, rfl⟩;have HC := lhid (aHd c hc);rw [hG] at HC;have HG := lhid hG;clear hG hc;go_enter Tryz.func118, Tryz.ntmps118;go_wp2_with (go_at_call 119; refine (HC.out _).mono ?_; rintro e w1 ⟨rfl, rfl⟩)
 all_goals
  go_ret;refine ⟨?_, rfl⟩;refine congrArg (fun b => Ending.returned (Value.bool b)) ?_;rw [Bool.eq_iff_iff];simp [oR, HG.out];try first | omega | (cases G <;> simp_all <;> omega) | (cases G <;> simp_all)
set_option maxRecDepth 100000 in
set_option maxHeartbeats 1000000 in
theorem bGz (a b : Int) (w : World) :
  Calls Tryz.prog 163 #[.int .i32 a, .int .i32 b] w fun e w' => e = .returned (.int .i64 (if a < b then -1 else if b < a then 1 else 0)) ∧ w = w' := by
 rcases (show a < b ∨ (¬ a < b ∧ b < a) ∨ (¬ a < b ∧ ¬ b < a) by omega) with h | ⟨h, h'⟩ | ⟨h, h'⟩
 all_goals
  go_enter Tryz.func163, Tryz.ntmps163
  go_wp2
  go_ret;refine ⟨?_, rfl⟩;simp [*]
theorem aNc (x y : List Nat) (k : Nat) (hx : k < x.length) (hy : k < y.length) :
  lJ (x.drop k) (y.drop k) = if x.getD k 0 = y.getD k 0 then lJ (x.drop (k + 1)) (y.drop (k + 1)) else if x.getD k 0 < y.getD k 0 then -1 else 1 := by
 rw [List.drop_eq_getElem_cons hx, List.drop_eq_getElem_cons hy];simp [lJ, hx, hy]
theorem aJy (x y : List Nat) (k : Nat) (hx : k < x.length) (hy : y.length ≤ k) : lJ (x.drop k) (y.drop k) = 1 := by
 rw [List.drop_eq_getElem_cons hx, List.drop_eq_nil_of_le hy];rfl
theorem aRy (x y : List Nat) (k : Nat) (hx : x.length ≤ k) : lJ (x.drop k) (y.drop k) = if k < y.length then -1 else 0 := by
 rw [List.drop_eq_nil_of_le hx];by_cases hy : k < y.length
 ·rw [List.drop_eq_getElem_cons hy, if_pos hy];rfl
 ·rw [List.drop_eq_nil_of_le (by omega), if_neg hy];rfl
set_option maxRecDepth 100000 in
set_option maxHeartbeats 2000000 in
theorem zS (x y : List Nat) (a b c d : Nat) (w : World) (hx : ∀ j, j < x.length → w.cell? ⟨a, j, none⟩ = some (.int .i32 ((x.getD j 0 : Nat) : Int))) (hy : ∀ j, j < y.length → w.cell? ⟨b, j, none⟩ = some (.int .i32 ((y.getD j 0 : Nat) : Int)))
  (hlx : x.length ≤ 1000000) :
  Calls Tryz.prog 140 #[.slice (some ⟨a, 0, none⟩) x.length c, .slice (some ⟨b, 0, none⟩) y.length d] w fun e w' => e = .returned (.int .i64 (lJ x y)) ∧ w = w' := by
 obtain ⟨R, hR⟩ : ∃ R, lJ x y = R := ⟨_, rfl⟩;rw [hR];have HR := lhid hR;have HX := lhid hx;have HY := lhid hy;clear hR hx hy;go_enter Tryz.func140, Tryz.ntmps140
 go_wp2
 go_loop [11] (fun i => ∃ k : Nat, k ≤ x.length ∧ i = .int .i64 k ∧ k ≤ y.length ∧ lJ (x.drop k) (y.drop k) = R) (fun i => x.length - (RowKit.intOf i).toNat)
 case atStart => exact ⟨0, Nat.zero_le _, rfl, Nat.zero_le _, HR.out⟩
 case round =>
  obtain ⟨k, hk, rfl, hky, hv⟩ := hrel;have HV := lhid hv;clear hv;by_cases hlt : k < x.length
  ·by_cases hlt2 : k < y.length
   ·have h1 := aNc x y k hlt hlt2;rw [HV.out] at h1;have c1 := HX.out k hlt;have c2 := HY.out k hlt2;obtain ⟨p, hp⟩ : ∃ p, x.getD k 0 = p := ⟨_, rfl⟩;obtain ⟨q, hq⟩ : ∃ q, y.getD k 0 = q := ⟨_, rfl⟩;rw [hp] at h1 c1;rw [hq] at h1 c2;clear hp hq;have HC := lhid (bGz (p : Int) (q : Int));rcases (show p < q ∨ q < p ∨ p = q by omega) with h | h | h
    ·rw [if_neg (by omega), if_pos h] at h1;rw [if_pos (by omega)] at HC;have H1 := lhid h1;clear h1 h;(go_wp2_with (go_at_call 163; refine (HC.out _).mono ?_; rintro e w1 ⟨rfl, rfl⟩));go_ret;exact ⟨by rw [H1.out]; rfl, rfl⟩
    ·rw [if_neg (by omega), if_neg (by omega)] at h1;rw [if_neg (by omega), if_pos (by omega)] at HC;have H1 := lhid h1;clear h1 h;(go_wp2_with (go_at_call 163; refine (HC.out _).mono ?_; rintro e w1 ⟨rfl, rfl⟩));go_ret;exact ⟨by rw [H1.out]; rfl, rfl⟩
    ·rw [if_pos h] at h1;rw [if_neg (by omega), if_neg (by omega)] at HC;have H1 := lhid h1;clear h1 h;(go_wp2_with (go_at_call 163; refine (HC.out _).mono ?_; rintro e w1 ⟨rfl, rfl⟩));go_round
     case rel => exact ⟨k + 1, by omega, by go_num, by omega, H1.out.symm⟩
     case measure => simp [RowKit.intOf]; omega
   ·have h1 := aJy x y k hlt (by omega);rw [HV.out] at h1;have H1 := lhid h1;have c1 := HX.out k hlt;clear h1;(go_wp2_with fail);go_ret;exact ⟨by rw [H1.out]; rfl, rfl⟩
  ·have h1 := aRy x y k (by omega);rw [HV.out] at h1;by_cases hlt2 : k < y.length
   ·rw [if_pos hlt2] at h1;have H1 := lhid h1;clear h1;(go_wp2_with fail);go_ret;exact ⟨by rw [H1.out]; rfl, rfl⟩
   ·rw [if_neg hlt2] at h1;have H1 := lhid h1;clear h1;(go_wp2_with fail);go_ret;exact ⟨by rw [H1.out]; rfl, rfl⟩
end
section
open Go.RowKit Go.Lib
def rowR (w : World) (l : List UInt8) : Array Value :=
 ((aQ l).map fun (n : Nat) => Value.int .i32 (n : Int)).toArray ++ Array.replicate (grownCap w (aQ l).length 0 21 - (aQ l).length) (.int .i32 0)
theorem sD (l : List UInt8) (hs : l.length ≤ 1000000) (w : World) :
  (convert 9 187 (.string (bs l))).run Tryz.prog w = .ok (.slice (some ⟨w.heap.size, 0, none⟩) (aQ l).length (grownCap w (aQ l).length 0 21)) (w.drew.alloc (.cells (rowR w l) 21)) := by
 have h := run_runes_of_string (P := Tryz.prog) w 9 187 21 (bs l) Tryz.underlying9 Tryz.underlying187 Tryz.underlying21;have e := aGt l;have hl := kG l;have hz : (Conv.runesFrom (bs l) (bs l).size 0 #[]).size = (aQ l).length := (by rw [e]; simp);rw [hz, e] at h;exact h (by omega)
theorem rowR_cell (w w' : World) (l : List UInt8) (j : Nat) (hj : j < (aQ l).length) : (w'.alloc (.cells (rowR w l) 21)).cell? ⟨w'.heap.size, j, none⟩ = some (.int .i32 (((aQ l).getD j 0 : Nat) : Int)) := by
 rw [cell_of_row _ _ j _ _ (0, 0) (heap_alloc_new w' _)];unfold rowR;rw [Array.getElem?_append_left (by simpa using hj)];simp [hj]
set_option maxRecDepth 100000 in
set_option maxHeartbeats 1000000 in
theorem aKd (a b : List UInt8) (ha : a.length ≤ 1000000) (hb : b.length ≤ 1000000) (w : World) :
  Calls Tryz.prog 120 #[.string (bs a), .string (bs b)] w fun e w' => e = .returned (.int .i64 (lJ (aQ a) (aQ b))) ∧ Below w.heap.size w w' := by
 have hca := sD a ha;have hcb := sD b hb;go_enter Tryz.func120, Tryz.ntmps120;(go_wp2_with fail);refine (zS (aQ a) (aQ b) _ _ _ _ _ ?_ ?_ (by have := kG a; omega)).mono ?_
 ·intro j hj;exact lQ _ (mP (rowR_cell w w.drew a j hj))
 ·intro j hj;have h := rowR_cell (w.alloc (.cells (rowR w a) 21)).drew (w.alloc (.cells (rowR w a) 21)) b j hj;rw [show (w.alloc (.cells (rowR w a) 21)).heap.size = w.heap.size + 1 by simp] at h;exact mP (mP h)
 ·rintro e w1 ⟨rfl, rfl⟩;(go_wp2_with fail);go_ret;exact ⟨rfl, bel⟩
set_option maxRecDepth 100000 in
set_option maxHeartbeats 1000000 in
theorem aYy (a b : List UInt8) (ha : a.length ≤ 1000000) (hb : b.length ≤ 1000000) (w : World) :
  Calls Tryz.prog 95 #[.string (bs a), .string (bs b)] w fun e w' => e = .returned (.bool (bE (aQ a) (aQ b))) ∧ Below w.heap.size w w' := by
 have HC := lhid (aKd a b ha hb);have HL := lhid (tR (aQ a) (aQ b));generalize bE (aQ a) (aQ b) = L at *;generalize lJ (aQ a) (aQ b) = C at *;go_enter Tryz.func95, Tryz.ntmps95;(go_wp2_with (go_at_call 120; refine (HC.out _).mono ?_; rintro e w1 ⟨rfl, hw1⟩));go_ret;exact ⟨by rw [HL.out]; rfl, hw1⟩
theorem aJz (x y : List Nat) (k : Nat) (hx : k < x.length) (hy : k < y.length) :
  bE (x.drop k) (y.drop k) = if x.getD k 0 = y.getD k 0 then bE (x.drop (k + 1)) (y.drop (k + 1)) else decide (x.getD k 0 < y.getD k 0) := by
 rw [List.drop_eq_getElem_cons hx, List.drop_eq_getElem_cons hy];simp [bE, hx, hy]
theorem aNd (x y : List Nat) (k : Nat) (h : x.length ≤ k ∨ y.length ≤ k) (hx : k ≤ x.length) (hy : k ≤ y.length) : bE (x.drop k) (y.drop k) = decide (x.length < y.length) := by
 by_cases h1 : x.length ≤ k
 ·rw [List.drop_eq_nil_of_le h1];by_cases h2 : k < y.length
  ·rw [List.drop_eq_getElem_cons h2];simp [bE]; omega
  ·rw [List.drop_eq_nil_of_le (by omega)];simp [bE]; omega
 ·rw [List.drop_eq_nil_of_le (show y.length ≤ k by omega), List.drop_eq_getElem_cons (show k < x.length by omega)];simp [bE]; omega
set_option maxRecDepth 100000 in
set_option maxHeartbeats 2000000 in
theorem aZy (a b : List UInt8) (ha : a.length ≤ 1000000) (hb : b.length ≤ 1000000) (w : World) :
  Calls Tryz.prog 61 #[.string (bs a), .string (bs b)] w fun e w' => e = .returned (.bool (bE (aQ a) (aQ b))) ∧ Below w.heap.size w w' := by
 have HA := lhid (zD a ha);have HB := lhid (zD b hb);have hla := kG a;have hlb := kG b;generalize aQ a = x at *;generalize aQ b = y at *;obtain ⟨R, hR⟩ : ∃ R, bE x y = R := ⟨_, rfl⟩;rw [hR];have HR := lhid hR;have hlx : x.length ≤ 1000000 := (by omega);have hly : y.length ≤ 1000000 := (by omega);clear hR hla hlb;go_enter Tryz.func61, Tryz.ntmps61;(go_wp2_with fail);refine (HA.out _).mono ?_;rintro e w1 ⟨g, c, rfl, hg, hgs, hgc, hx, hb1⟩;(go_wp2_with fail);refine (HB.out _).mono ?_;rintro e w2 ⟨g', c', rfl, hg', hgs', hgc', hy, hb2⟩;have hx2 : ∀ j, j < x.length → w2.cell? ⟨g, j, none⟩ = some (.int .i64 ((x.getD j 0 : Nat) : Int)) := fun j hj => cell_later hb2 (hx j hj);have hbw := aB hb1 hb2;have HX := lhid hx2;have HY := lhid hy;clear hx hx2 hy hb1 hb2 hg hgs hg' hgs' HA HB;go_wp2_with fail
 go_loopw [7] (fun i wr => ∃ k : Nat, k ≤ x.length ∧ i = .int .i64 k ∧ k ≤ y.length ∧ bE (x.drop k) (y.drop k) = R ∧ ∃ n, wr = w2.drewN n) (fun i _ => x.length - (RowKit.intOf i).toNat)
 case atStart => exact ⟨0, Nat.zero_le _, rfl, Nat.zero_le _, HR.out, 0, rfl⟩
 case round =>
  obtain ⟨k, hk, rfl, hky, hv, n, rfl⟩ := hrel;have HV := lhid hv;clear hv;by_cases hlt : k < x.length ∧ k < y.length
  ·have c1 := HX.out k hlt.1;have c2 := HY.out k hlt.2;have h1 := aJz x y k hlt.1 hlt.2;rw [HV.out] at h1;obtain ⟨hk1, hk2⟩ := hlt;obtain ⟨p, hp⟩ : ∃ p, x.getD k 0 = p := ⟨_, rfl⟩;obtain ⟨q, hq⟩ : ∃ q, y.getD k 0 = q := ⟨_, rfl⟩;rw [hp] at h1 c1;rw [hq] at h1 c2;clear hp hq;by_cases h : p = q
   ·rw [if_pos h] at h1;have H1 := lhid h1;have e1 : ((p : Int) != (q : Int)) = false := (by simp [h]);clear h1 h;go_wp2_with fail
    go_region
    (go_wp2_with fail);go_roundw
    case rel => exact ⟨k + 1, by omega, by go_num, by omega, H1.out.symm, n + 1, rfl⟩
    case measure => simp [RowKit.intOf]; omega
   ·rw [if_neg h] at h1;have H1 := lhid h1;have e1 : ((p : Int) != (q : Int)) = true := (by simp; omega);clear h1 h;go_wp2_with fail
    go_region
    go_wp2_with fail
    go_region
    (go_wp2_with fail);go_ret;exact ⟨by rw [H1.out]; first | rfl | simp, (Go.below_drewN hbw n).drew.drew⟩
  ·have h1 := aNd x y k (by omega) hk hky;rw [HV.out] at h1;have H1 := lhid h1;clear h1;by_cases hx1 : k < x.length
   ·have hy1 : ¬ k < y.length := fun h => hlt ⟨hx1, h⟩;clear hlt;(go_wp2_with fail);go_ret;refine ⟨?_, Go.below_drewN hbw n⟩;rw [H1.out];simp
   ·clear hlt;(go_wp2_with fail);go_ret;refine ⟨?_, Go.below_drewN hbw n⟩;rw [H1.out];simp
end
section
open Go.RowKit Go.Lib
theorem bAy (l : List UInt8) (hs : l.length ≤ 1000000) (w : World) (hT : Lib.Utf8Tabs 1 2 w) :
  Calls Tryz.prog 117 #[.string (bs l)] w fun e w' => e = .returned (.bool (validD l)) ∧ Below w.heap.size w w' := by
 have h := Any.utf8_ValidString Tryz.laysValid (bs l) w (by rw [gG]; omega) hT;have e : (bs l).data.toList = l := (by simp [bs]);rw [e] at h;exact h
theorem bIa (l : List UInt8) (p : Nat) (hp : p < l.length) (w : World) (ty : TypeId) :
  (Instr.next (.pointer (some ⟨w.heap.size, 0, none⟩)) true ty).run Tryz.prog (w.iter (bs l) p) = .ok (.tuple #[.bool true, .int .i64 p, .int .i32 ((bH l p).1 : Nat)]) (w.iter (bs l) (p + (bH l p).2)) := by
 have h := run_next_any (P := Tryz.prog) w (bs l) p ty (by rw [gG]; exact hp);rw [← decodeL_drop] at h;have e : (bs l).data.toList = l := (by simp [bs]);rw [e] at h;exact h
theorem bNd (w : World) (s : ByteArray) (p : Nat) : Below w.heap.size w (w.iter s p) := (Below.refl _ _).alloc (Nat.le_refl _) _
theorem bGb (done rest : List Nat) (c : Nat) (h : oR c = false) : xV (done ++ c :: rest) = false := by
 simp [xV, h]
theorem bGc (rest : List Nat) (c : Nat) (h : dig c = true) : xV (c :: rest) = false := by
 simp [xV, h]
theorem bGd (done : List Nat) (h : done.all oR = true) (h0 : done ≠ [] → dig (done.getD 0 0) = false) : xV done = (decide (0 < done.length) && decide (done.length ≤ 20)) := by
 unfold xV;rw [h]
 cases done with
 | nil => rfl
 | cons a r => rw [h0 (by simp)]; simp
set_option maxRecDepth 100000 in
set_option maxHeartbeats 2000000 in
theorem vA (l : List UInt8) (hs : l.length ≤ 1000000) (w : World) (hT : Lib.Utf8Tabs 1 2 w) :
  Calls Tryz.prog 94 #[.string (bs l)] w fun e w' => e = .returned (.bool (bA l)) ∧ Below w.heap.size w w' := by
 have HS := lhid (aKo l);have HV := lhid (bAy l hs w hT);clear hT;have hN : bA l = (!aGq l && validD l && xV (aQ l)) := rfl;rw [hN];clear hN;generalize validD l = V at *;generalize aGq l = S at *
 cases S with
 | true =>
  go_enter Tryz.func94, Tryz.ntmps94;(go_wp2_with (go_at_call 116; refine (HS.out _).mono ?_; rintro e w2 ⟨rfl, rfl⟩));go_ret;exact ⟨rfl, Below.refl _ _⟩
 | false =>
  cases V with
  | false =>
   go_enter Tryz.func94, Tryz.ntmps94;(go_wp2_with (first | (go_at_call 116; refine (HS.out _).mono ?_; rintro e w2 ⟨rfl, rfl⟩) | (go_at_call 117; refine HV.out.mono ?_; rintro e w2 ⟨rfl, hb2⟩)));go_ret;exact ⟨rfl, hb2⟩
  | true =>
   obtain ⟨R, hR⟩ : ∃ R, (!false && true && xV (aQ l)) = R := ⟨_, rfl⟩;have HR := lhid hR;rw [hR];clear hR;go_enter Tryz.func94, Tryz.ntmps94;(go_wp2_with (first | (go_at_call 116; refine (HS.out _).mono ?_; rintro e w2 ⟨rfl, rfl⟩) | (go_at_call 117; refine HV.out.mono ?_; rintro e w2 ⟨rfl, hb2⟩)));clear HS HV
   go_loopw [3] (fun i wr => ∃ p : Nat, ∃ done : List Nat, p ≤ l.length ∧ i = .int .i64 done.length ∧ wr = w2.iter (bs l) p ∧ done.length ≤ p ∧ aQ l = done ++ aQ (l.drop p) ∧ done.all oR = true ∧ (done ≠ [] → dig (done.getD 0 0) = false))
    (fun _ wr => l.length - wr.iterPos w2.heap.size)
   case atStart => exact ⟨0, [], Nat.zero_le _, rfl, rfl, Nat.le_refl _, rfl, rfl, fun h => absurd rfl h⟩
   case round =>
    obtain ⟨p, done, hp, rfl, rfl, hdp, hd, hall, hdig⟩ := hrel;have HD := lhid hd;have HL := lhid hall;have HG := lhid hdig;clear hd hall hdig;by_cases hlt : p < l.length
    ·obtain ⟨s1, s2, s3⟩ := aFa l p done hlt HD.out;have hnx := bIa l p hlt w2;have hr : (bH l p).1 ≤ 1114111 := decodeL_rune _;obtain ⟨D, hD⟩ : ∃ D, bH l p = D := ⟨_, rfl⟩;rw [hD] at s1 s2 s3 hnx hr;have HS1 := lhid s1;have HCP := lhid (bEp D.1 hr);have HCD := lhid (aHd D.1 hr);clear s1 hD;by_cases hpt : oR D.1 = true
     ·have HL2 : Hid ((done ++ [D.1]).all oR = true) := lhid (by rw [List.all_append, HL.out]; simp [hpt]);rw [hpt] at HCP;by_cases hn : done.length = 0
      ·have e0 : ((done.length : Int) == 0) = true := (by simp [hn]);have hnil : done = [] := List.eq_nil_of_length_eq_zero hn;have HNil := lhid hnil;clear hnil hpt;by_cases hdg : dig D.1 = true
       ·have H1 : Hid (R = false) := lhid (by have h1 := HS1.out; rw [HNil.out] at h1; rw [← HR.out, h1]; simpa using bGc _ _ hdg);rw [hdg] at HCD;clear hdg hn;(go_wp2_with (first | (go_at_call 118; refine (HCP.out _).mono ?_; rintro e w4 ⟨rfl, rfl⟩) | (go_at_call 119; refine (HCD.out _).mono ?_; rintro e w4 ⟨rfl, rfl⟩)));go_ret;refine ⟨by rw [H1.out]; rfl, aB hb2 (bNd _ _ _)⟩
       ·have hdf : dig D.1 = false := (by simpa using hdg);have HG2 : Hid (done ++ [D.1] ≠ [] → dig ((done ++ [D.1]).getD 0 0) = false) := lhid (by rw [HNil.out]; simpa using hdf);rw [hdf] at HCD;clear hdg hdf hn;(go_wp2_with (first | (go_at_call 118; refine (HCP.out _).mono ?_; rintro e w4 ⟨rfl, rfl⟩) | (go_at_call 119; refine (HCD.out _).mono ?_; rintro e w4 ⟨rfl, rfl⟩)));go_roundw
        case rel => exact ⟨p + D.2, done ++ [D.1], s3, by simp, rfl, by simp; omega, HS1.out, HL2.out, HG2.out⟩
        case measure => simp; omega
      ·have e0 : ((done.length : Int) == 0) = false := beq_eq_false_iff_ne.2 (by omega)
       have HG2 : Hid (done ++ [D.1] ≠ [] → dig ((done ++ [D.1]).getD 0 0) = false) := lhid (by
        have h1 : done ≠ [] := fun e => hn (by rw [e]; rfl);intro _;rw [← HG.out h1]
        cases done with
        | nil => exact absurd rfl h1
        | cons a t => rfl)
       have hlen : done.length ≤ 1000000 := (by omega);clear hn hpt;(go_wp2_with (first | (go_at_call 118; refine (HCP.out _).mono ?_; rintro e w4 ⟨rfl, rfl⟩) | (go_at_call 119; refine (HCD.out _).mono ?_; rintro e w4 ⟨rfl, rfl⟩)));go_roundw
       case rel => exact ⟨p + D.2, done ++ [D.1], s3, by simp, rfl, by simp; omega, HS1.out, HL2.out, HG2.out⟩
       case measure => simp; omega
     ·have hpf : oR D.1 = false := (by simpa using hpt);have H1 : Hid (R = false) := lhid (by have h1 := HS1.out; rw [← HR.out, h1, List.append_assoc]; simpa using bGb done _ _ hpf);rw [hpf] at HCP;clear hpf hpt;(go_wp2_with (first | (go_at_call 118; refine (HCP.out _).mono ?_; rintro e w4 ⟨rfl, rfl⟩) | (go_at_call 119; refine (HCD.out _).mono ?_; rintro e w4 ⟨rfl, rfl⟩)));go_ret;exact ⟨by rw [H1.out]; rfl, aB hb2 (bNd _ _ _)⟩
    ·have hnx := fun ty => run_next_end (P := Tryz.prog) w2 (bs l) p ty (by rw [gG]; exact hlt)
     have H1 : Hid (R = (decide (0 < done.length) && decide (done.length ≤ 20))) := lhid (by
      have h1 := HD.out;rw [List.drop_eq_nil_of_le (by omega), aEz, List.append_nil] at h1;rw [← HR.out, h1]
      simpa using bGd done HL.out HG.out)
     go_wp2_with fail
     all_goals
      go_ret;refine ⟨?_, aB hb2 (bNd _ _ _)⟩;rw [H1.out];refine congrArg (fun b => Ending.returned (Value.bool b)) ?_;rw [Bool.eq_iff_iff];simp;try omega
end
section
open Go.RowKit
theorem aPc (w : World) (b : Nat) (k vk n ln : Int) (s key : ByteArray) (h : w.there b 0 6) : (Instr.storeAt 116 (.pointer (some ⟨b, 0, none⟩)) (.agg #[.int .i64 k, .string s, .string key, .int .i64 vk, .int .i64 n, .int .i64 ln])).run Tryz.prog w = .ok () ((((((w.setCell ⟨b, 0, none⟩ (.int .i64 k)).setCell ⟨b, 1, none⟩ (.string s)).setCell ⟨b, 2, none⟩ (.string key)).setCell ⟨b, 3, none⟩ (.int .i64 vk)).setCell ⟨b, 4, none⟩ (.int .i64 n)).setCell ⟨b, 5, none⟩ (.int .i64 ln)) :=
 run_storeAt_mid (P := Tryz.prog) w b 0 116 #[.int .i64 k, .string s, .string key, .int .i64 vk, .int .i64 n, .int .i64 ln] h (by kernel_rfl) (by simp [Value.oneCell'])
theorem bCs {w : World} {g : Nat} {t : TypeId} {C : Array Value} (h : w.heap[g]? = some (.cells C t (0, 0))) (i : Nat) : w.frozen? ⟨g, i, none⟩ = false := by simp [World.frozen?, h]
theorem aPb (w : World) (b : Nat) (k vk n ln : Int) (s key : ByteArray) (h : w.there b 0 6) : (storeVar 116 ⟨b, 0, none⟩ (.agg #[.int .i64 k, .string s, .string key, .int .i64 vk, .int .i64 n, .int .i64 ln])).run Tryz.prog w = .ok () ((((((w.setCell ⟨b, 0, none⟩ (.int .i64 k)).setCell ⟨b, 1, none⟩ (.string s)).setCell ⟨b, 2, none⟩ (.string key)).setCell ⟨b, 3, none⟩ (.int .i64 vk)).setCell ⟨b, 4, none⟩ (.int .i64 n)).setCell ⟨b, 5, none⟩ (.int .i64 ln)) :=
 run_storeVar_mid (P := Tryz.prog) w b 0 116 #[.int .i64 k, .string s, .string key, .int .i64 vk, .int .i64 n, .int .i64 ln] h (by kernel_rfl) (by simp [Value.oneCell'])
theorem zG (w : World) (t : TypeId) (a0 a1 a2 a3 a4 a5 : Value) : (w.alloc (.cells #[a0, a1, a2, a3, a4, a5] t)).there w.heap.size 0 6 := by
 intro j hj;have hb := heap_alloc_new w (.cells #[a0, a1, a2, a3, a4, a5] t);rw [Nat.zero_add];refine ⟨?_, bCs hb j⟩;rw [cell_of_row _ w.heap.size j _ _ (0, 0) hb]
 match j, hj with
 | 0, _ => rfl
 | 1, _ => rfl
 | 2, _ => rfl
 | 3, _ => rfl
 | 4, _ => rfl
 | 5, _ => rfl
theorem bI {w w' : World} {b o n : Nat} (h : w.there b o n) (hb : Below w.heap.size w w') : w'.there b o n := by
 intro j hj;obtain ⟨h1, h2⟩ := h j hj;obtain ⟨v, hv⟩ := Option.isSome_iff_exists.1 h1;have hl := World.block_lt_of_cell? w _ hv;rw [hb.cell hl, hb.frozen hl];exact ⟨h1, h2⟩
theorem bNk {w : World} {b o n : Nat} (h : w.there b o n) : ∀ ob, (w.alloc ob).there b o n := fun ob => World.there_alloc h ob
theorem bAo {w : World} {b o n : Nat} (h : w.there b o n) (a : Addr) (v : Value) : (w.setCell a v).there b o n := by
 intro j hj;obtain ⟨h1, h2⟩ := h j hj;obtain ⟨u, hu⟩ := Option.isSome_iff_exists.1 h1;obtain ⟨u', hu'⟩ := cell?_setCell_some (w := w) (p := a) (x := v) (q := ⟨b, o + j, none⟩) (v := u) hu;exact ⟨by rw [hu']; rfl, by rw [World.frozen?_setCell]; exact h2⟩
theorem aOm (w : World) (b : Nat) (k vk n ln : Int) (s key : ByteArray) (h : w.there b 0 6) : ((((((w.setCell ⟨b, 0, none⟩ (.int .i64 k)).setCell ⟨b, 1, none⟩ (.string s)).setCell ⟨b, 2, none⟩ (.string key)).setCell ⟨b, 3, none⟩ (.int .i64 vk)).setCell ⟨b, 4, none⟩ (.int .i64 n)).setCell ⟨b, 5, none⟩ (.int .i64 ln)).rangeAt b 0 [.int .i64 k, .string s, .string key, .int .i64 vk, .int .i64 n, .int .i64 ln] :=
 World.rangeAt_setCells_same w b 0 [.int .i64 k, .string s, .string key, .int .i64 vk, .int .i64 n, .int .i64 ln] h
theorem bHv (w : World) (b : Nat) (k vk n ln : Int) (s key : ByteArray) (h : w.there b 0 6) : (Instr.loadAt 116 (.pointer (some ⟨b, 0, none⟩))).run Tryz.prog ((((((w.setCell ⟨b, 0, none⟩ (.int .i64 k)).setCell ⟨b, 1, none⟩ (.string s)).setCell ⟨b, 2, none⟩ (.string key)).setCell ⟨b, 3, none⟩ (.int .i64 vk)).setCell ⟨b, 4, none⟩ (.int .i64 n)).setCell ⟨b, 5, none⟩ (.int .i64 ln)) = .ok (.agg #[.int .i64 k, .string s, .string key, .int .i64 vk, .int .i64 n, .int .i64 ln]) ((((((w.setCell ⟨b, 0, none⟩ (.int .i64 k)).setCell ⟨b, 1, none⟩ (.string s)).setCell ⟨b, 2, none⟩ (.string key)).setCell ⟨b, 3, none⟩ (.int .i64 vk)).setCell ⟨b, 4, none⟩ (.int .i64 n)).setCell ⟨b, 5, none⟩ (.int .i64 ln)) :=
 run_loadAt_mid _ b 0 116 [.int .i64 k, .string s, .string key, .int .i64 vk, .int .i64 n, .int .i64 ln] _ (aOm w b k vk n ln s key h) Tryz.underlying116 rfl (by kernel_rfl)
theorem aSa (w : World) (b : Nat) (k vk n ln : Int) (s key : ByteArray) (h : w.there b 0 6) : (loadVar 116 ⟨b, 0, none⟩).run Tryz.prog ((((((w.setCell ⟨b, 0, none⟩ (.int .i64 k)).setCell ⟨b, 1, none⟩ (.string s)).setCell ⟨b, 2, none⟩ (.string key)).setCell ⟨b, 3, none⟩ (.int .i64 vk)).setCell ⟨b, 4, none⟩ (.int .i64 n)).setCell ⟨b, 5, none⟩ (.int .i64 ln)) = .ok (.agg #[.int .i64 k, .string s, .string key, .int .i64 vk, .int .i64 n, .int .i64 ln]) ((((((w.setCell ⟨b, 0, none⟩ (.int .i64 k)).setCell ⟨b, 1, none⟩ (.string s)).setCell ⟨b, 2, none⟩ (.string key)).setCell ⟨b, 3, none⟩ (.int .i64 vk)).setCell ⟨b, 4, none⟩ (.int .i64 n)).setCell ⟨b, 5, none⟩ (.int .i64 ln)) :=
 run_loadVar_mid _ b 0 116 [.int .i64 k, .string s, .string key, .int .i64 vk, .int .i64 n, .int .i64 ln] _ (aOm w b k vk n ln s key h) Tryz.underlying116 rfl (by kernel_rfl)
theorem tF {B : Nat} {w w' : World} (h : Below B w w') {b : Nat} (hb : B ≤ b) : ∀ (vs : List Value) (o : Nat), Below B w (w'.setCells b o vs)
 | [], _ => h
 | v :: vs, o => tF (h.setCell (p := ⟨b, o, none⟩) hb v) hb vs (o + 1)
theorem aTx {w : World} {b n : Nat} {a : Addr} {v : Value} (h : w.there b 0 n) : (w.setCell a v).there b 0 n ↔ True := iff_true_intro (bAo h a v)
end
section
open Go.RowKit
theorem aKv (k : Int) (s key t : List UInt8) : (∃ a b c, dR t = (a, b, c) ∧ (c != 0) = true ∧ gI k s key t = (kE, c)) ∨
  (∃ b, k = 3 ∧ dR t = (0, b, 0) ∧ gI k s key t = (kE, 11)) ∨ (∃ b, k = 3 ∧ dR t = (2, b, 0) ∧ gI k s key t = (kE, 5)) ∨
  (∃ a b, dR t = (a, b, 0) ∧ (k == 3) = false ∧ gI k s key t = ((k, s, key, a, b, 0), 0)) ∨
  (∃ a b, k = 3 ∧ dR t = (a, b, 0) ∧ (a == 0) = false ∧ (a == 2) = false ∧ gI k s key t = ((k, s, key, a, b, 0), 0)) := by
 obtain ⟨a, b, c, hp⟩ : ∃ a b c, dR t = (a, b, c) := ⟨_, _, _, rfl⟩;unfold gI;rw [hp];by_cases hc : c = 0
 ·subst hc;rw [if_neg (by simp)];by_cases hk : k = 3
  ·by_cases h0 : a = 0
   ·subst h0;exact .inr (.inl ⟨b, hk, rfl, by rw [if_pos ⟨hk, rfl⟩]⟩)
   ·by_cases h2 : a = 2
    ·subst h2;exact .inr (.inr (.inl ⟨b, hk, rfl, by rw [if_neg (fun h => h0 h.2), if_pos ⟨hk, rfl⟩]⟩))
    ·exact .inr (.inr (.inr (.inr ⟨a, b, hk, rfl, by simpa using h0, by simpa using h2, by rw [if_neg (fun h => h0 h.2), if_neg (fun h => h2 h.2)]⟩)))
  ·exact .inr (.inr (.inr (.inl ⟨a, b, rfl, by simpa using hk, by rw [if_neg (fun h => hk h.1), if_neg (fun h => hk h.1)]⟩)))
 ·exact .inl ⟨a, b, c, rfl, by simpa using hc, by rw [if_pos hc]⟩
section
attribute [local go_sem ↓] aPc
set_option maxRecDepth 100000 in
set_option maxHeartbeats 2000000 in
theorem aUd (k : Int) (s key t : List UInt8) (ht : t.length ≤ 9223372036854775806) (w : World) :
  Calls Tryz.prog 112 #[.int .i64 k, .string (bs s), .string (bs key), .string (bs t)] w fun e w' => e = .returned (.tuple #[evV (gI k s key t).1, .int .i64 (gI k s key t).2]) ∧ Below w.heap.size w w' := by
 have T0 := lhid (zG w 116 (.int .i64 0) (.string { data := #[] }) (.string { data := #[] }) (.int .i64 0) (.int .i64 0) (.int .i64 0));rcases aKv k s key t with ⟨a, b, c, hp, hc, h⟩ | ⟨b, rfl, hp, h⟩ | ⟨b, rfl, hp, h⟩ | ⟨a, b, hp, hk, h⟩ | ⟨a, b, rfl, hp, h0, h2, h⟩
 all_goals
  have HV := lhid (bBb t _ _ _ ht hp);rw [h];clear h hp;go_enter Tryz.func112, Tryz.ntmps112;(go_wp2_with (fail));refine (HV.out _).mono ?_;rintro e w1 ⟨rfl, hb1⟩;obtain ⟨hc1, hf1⟩ := dF hb1;have hz1 := hb1.size;(try simp at hz1);have hl1_0 : w.heap.size < w1.heap.size := (by omega);have hl1_0_1 : w.heap.size < w1.heap.size + 1 := (by omega);have th := bNk (bI T0.out hb1);go_wp21;refine bodyPost_ret ?_ rfl ⟨rfl, ?_⟩
  ·simp [results, Tryz.results112, go_sem, hc1, hl1_0, evV, kE];try rfl
  ·exact bes
end
end
section
open Go.RowKit
section
variable {P : Program} {ops : Array Oper} {Q : Exit → Act → World → Prop} {md : Region.Mode} {S : World → Prop} {late : List Nat}
def mH (P : Program) (md : Region.Mode) (ops : Array Oper) (Q : Exit → Act → World → Prop) (S : World → Prop) (late : List Nat) : Nat → Array Bool → Act → World → Prop
 | 0, listed, a, w => Region.ready md ops listed = [] ∧ Q .normal a w
 | fuel + 1, listed, a, w =>
  (Region.ready md ops listed = [] → Q .normal a w) ∧
  ∀ i ∈ Region.ready md ops listed, wpOp P ops Q i (fun a' w' => (late.contains i = false → S w') ∧ mH P md ops Q S late fuel (listed.setIfInBounds i true) a' w') a w
theorem vR : ∀ (fuel : Nat) (listed : Array Bool) (a : Act) (w : World), mH P md ops Q S late fuel listed a w → wpAny P md ops Q fuel listed a w
 | 0, _, _, _, h => h
 | fuel + 1, _, _, _, h => ⟨h.1, fun i hi => wpOp_mono (fun a' w' h' => vR fuel _ a' w' h'.2) (h.2 i hi)⟩
def aFq (md : Region.Mode) (ops : Array Oper) : Nat → Nat → Nat → Bool
 | 0, _, _ => false
 | n + 1, l, i => match ops[l]? with
  | some o => o.after.any fun e => Region.binds md e && (e.on == i || aFq md ops n e.on i)
  | none => false
def aUp (md : Region.Mode) (ops : Array Oper) (listed : Array Bool) : Bool := (List.range ops.size).all fun j => !listed.getD j true || match ops[j]? with
 | some o => o.after.all fun e => !Region.binds md e || listed.getD e.on true
 | none => true
def xX (md : Region.Mode) (ops : Array Oper) (listed : Array Bool) : Prop := ∀ j o, ops[j]? = some o → listed.getD j true = true → ∀ e ∈ o.after, Region.binds md e = true → listed.getD e.on true = true
theorem aWo {listed : Array Bool} (h : aUp md ops listed = true) : xX md ops listed := by
 intro j o ho hj e he hb;have hlt : j < ops.size := (Array.getElem?_eq_some_iff.1 ho).1;have h1 := List.all_eq_true.1 h j (List.mem_range.2 hlt);simp only [hj, Bool.not_true, Bool.false_or, ho] at h1;have h2 := Array.all_eq_true_iff_forall_mem.1 h1 e he;simpa [hb] using h2
theorem aOq {listed : Array Bool} {j : Nat} {o : Oper} (hj : j ∈ Region.ready md ops listed) (ho : ops[j]? = some o) : ∀ e ∈ o.after, Region.binds md e = true → listed.getD e.on true = true := by
 intro e he hb;obtain ⟨-, o', ho', hall⟩ := mem_ready.1 hj;obtain rfl := Option.some.inj (ho.symm.trans ho');have h1 := hall e he hb;rcases Nat.lt_or_ge e.on listed.size with h' | h'
 ·simp [h'] at h1 ⊢; exact h1
 ·simp [Array.getElem?_eq_none h'] at h1
theorem xX.next {listed : Array Bool} (h : xX md ops listed) {j : Nat} (hj : j ∈ Region.ready md ops listed) : xX md ops (listed.setIfInBounds j true) := by
 have up : ∀ k, listed.getD k true = true → (listed.setIfInBounds j true).getD k true = true := by
  intro k hk;by_cases hjk : j = k
  ·subst hjk;rcases Nat.lt_or_ge j listed.size with h' | h'
   ·simp [h']
   ·simp
  ·rw [getD_set_ne true hjk]; exact hk
 intro k o ho hk e he hb;apply up;by_cases hjk : j = k
 ·subst hjk;exact aOq hj ho e he hb
 ·rw [getD_set_ne true hjk] at hk;exact h k o ho hk e he hb
theorem aFs {i : Nat} {listed : Array Bool} (hc : xX md ops listed) (hi : listed.getD i true = false) : ∀ n l, aFq md ops n l i = true → listed.getD l true = false ∧ l ∉ Region.ready md ops listed
 | 0, _, h => by cases h
 | n + 1, l, h => by
  unfold aFq at h;split at h
  ·rename_i o ho;obtain ⟨e, he, hb⟩ := Array.any_eq_true'.1 h;simp only [Bool.and_eq_true, Bool.or_eq_true, beq_iff_eq] at hb
   have hne : listed.getD e.on true = false := by
    rcases hb.2 with h1 | h1
    ·rw [h1]; exact hi
    ·exact (aFs hc hi n e.on h1).1
   constructor
   ·cases hl : listed.getD l true with
    | false => rfl
    | true => rw [hc l o ho hl e he hb.1] at hne; cases hne
   ·intro hr;rw [aOq hr ho e he hb.1] at hne;cases hne
  ·cases h
theorem aLb {i n : Nat} {oi : Oper} {v : Value} (hi : ops[i]? = some oi) (hsel : ∀ (j : Nat) (o : Oper) cs b, ops[j]? = some o → o.op ≠ .select cs b)
  (hQ : ∀ c a w, Q (.panic c) (a.put oi.dst v) w → Q (.panic c) a w) (hw : late.all (fun l => aFq md ops n l i) = true) :
  ∀ (fuel : Nat) (listed : Array Bool) (a : Act) (w : World), xX md ops listed →
   (∀ j oj, ops[j]? = some oj → j ≠ i → listed.getD j true = false → (∀ e ∈ oj.after, Region.binds md e = true → e.on ≠ i) → oi.apart ops oj = true) →
   i ∈ Region.ready md ops listed → YieldsIf P ops S oi v a → S w →
   mH P md ops Q S late fuel (listed.setIfInBounds i true) (a.put oi.dst v) w → mH P md ops Q S late (fuel + 1) listed a w := by
 intro fuel
 induction fuel with
 | zero =>
  intro listed a w _ _ hr hy hS H;refine ⟨fun h => (by rw [h] at hr; cases hr), fun j hj => ?_⟩;by_cases hji : j = i
  ·subst hji; exact hy.wpOp hi hS ⟨fun _ => hS, H⟩
  ·have := ready_mono hj hji;rw [H.1] at this;cases this
 | succ fuel ih =>
  intro listed a w hcl hfree hr hy hS H;refine ⟨fun h => (by rw [h] at hr; cases hr), fun j hj => ?_⟩;by_cases hji : j = i
  ·subst hji; exact hy.wpOp hi hS ⟨fun _ => hS, H⟩
  ·have hjl : late.contains j = false := by
    cases hc : late.contains j with
    | false => rfl
    | true =>
     have hm : j ∈ late := (by simpa using hc);exact absurd hj (aFs hcl (mem_ready.1 hr).1 n j (List.all_eq_true.1 hw j hm)).2
   have h1 := H.2 j (ready_mono hj hji);obtain ⟨hjun, oj, hoj, hall⟩ := mem_ready.1 hj
   have hnot : ∀ e ∈ oj.after, Region.binds md e = true → e.on ≠ i := fun e he hb heq => by
    have h1 := hall e he hb;have h0 := (mem_ready.1 hr).1;rw [heq] at h1;rcases Nat.lt_or_ge i listed.size with h' | h'
    ·simp [h'] at h0 h1; rw [h0] at h1; cases h1
    ·simp [Array.getElem?_eq_none h'] at h1
   have h2 := wpOp_putIf hoj (hfree j oj hoj hji hjun hnot) (fun cs b => hsel i oi cs b hi) (fun cs b => hsel j oj cs b hoj) hQ hy h1
   have hfree' : ∀ k ok, ops[k]? = some ok → k ≠ i → (listed.setIfInBounds j true).getD k true = false →
     (∀ e ∈ ok.after, Region.binds md e = true → e.on ≠ i) → oi.apart ops ok = true := fun k ok hk hki hun hno => by
    refine hfree k ok hk hki ?_ hno;by_cases hjk : j = k
    ·subst hjk; exact hjun
    ·rw [getD_set_ne true hjk] at hun; exact hun
   refine wpOp_mono (fun a' w' h3 => ⟨fun _ => h3.2.1 hjl, ih (listed.setIfInBounds j true) a' w' (hcl.next hj) hfree' (ready_mono hr (Ne.symm hji)) h3.1 (h3.2.1 hjl) ?_⟩) h2;rw [Array.setIfInBounds_comm _ _ hji];exact h3.2.2
theorem aLc {i : Nat} {oi : Oper} {v : Value} (hi : ops[i]? = some oi) (hsel : ∀ (j : Nat) (o : Oper) cs b, ops[j]? = some o → o.op ≠ .select cs b)
  (hQ : ∀ c a w, Q (.panic c) (a.put oi.dst v) w → Q (.panic c) a w) (hl : late.contains i = true) :
  ∀ (fuel : Nat) (listed : Array Bool) (a : Act) (w : World),
   (∀ j oj, ops[j]? = some oj → j ≠ i → listed.getD j true = false → (∀ e ∈ oj.after, Region.binds md e = true → e.on ≠ i) → oi.apart ops oj = true) →
   i ∈ Region.ready md ops listed → YieldsIf P ops (fun _ => True) oi v a →
   mH P md ops Q S late fuel (listed.setIfInBounds i true) (a.put oi.dst v) w → mH P md ops Q S late (fuel + 1) listed a w := by
 intro fuel
 induction fuel with
 | zero =>
  intro listed a w _ hr hy H;refine ⟨fun h => (by rw [h] at hr; cases hr), fun j hj => ?_⟩;by_cases hji : j = i
  ·subst hji; exact hy.wpOp hi trivial ⟨fun h => (by rw [hl] at h; cases h), H⟩
  ·have := ready_mono hj hji;rw [H.1] at this;cases this
 | succ fuel ih =>
  intro listed a w hfree hr hy H;refine ⟨fun h => (by rw [h] at hr; cases hr), fun j hj => ?_⟩;by_cases hji : j = i
  ·subst hji; exact hy.wpOp hi trivial ⟨fun h => (by rw [hl] at h; cases h), H⟩
  ·have h1 := H.2 j (ready_mono hj hji);obtain ⟨hjun, oj, hoj, hall⟩ := mem_ready.1 hj
   have hnot : ∀ e ∈ oj.after, Region.binds md e = true → e.on ≠ i := fun e he hb heq => by
    have h1 := hall e he hb;have h0 := (mem_ready.1 hr).1;rw [heq] at h1;rcases Nat.lt_or_ge i listed.size with h' | h'
    ·simp [h'] at h0 h1; rw [h0] at h1; cases h1
    ·simp [Array.getElem?_eq_none h'] at h1
   have h2 := wpOp_putIf hoj (hfree j oj hoj hji hjun hnot) (fun cs b => hsel i oi cs b hi) (fun cs b => hsel j oj cs b hoj) hQ hy h1
   have hfree' : ∀ k ok, ops[k]? = some ok → k ≠ i → (listed.setIfInBounds j true).getD k true = false →
     (∀ e ∈ ok.after, Region.binds md e = true → e.on ≠ i) → oi.apart ops ok = true := fun k ok hk hki hun hno => by
    refine hfree k ok hk hki ?_ hno;by_cases hjk : j = k
    ·subst hjk; exact hjun
    ·rw [getD_set_ne true hjk] at hun; exact hun
   refine wpOp_mono (fun a' w' h3 => ⟨h3.2.1, ih (listed.setIfInBounds j true) a' w' hfree' (ready_mono hr (Ne.symm hji)) h3.1 ?_⟩) h2;rw [Array.setIfInBounds_comm _ _ hji];exact h3.2.2
theorem aAc (i : Nat) {d : Tmp} {op : Op} {ty : TypeId} {pos : String} {aft : Array Edge} {gd : Option (Nat × Bool)} {v : Value} {fuel : Nat} {listed : Array Bool} {a : Act} {w : World} (hi : ops[i]? = some ⟨some d, op, ty, pos, aft, gd⟩)
  (hs : Region.noSelect ops = true) (hf : Region.free md ops listed i = true) (hr : (Region.ready md ops listed).contains i = true) (hl : late.contains i = true)
  (hQ : ∀ c a w, Q (.panic c) (a.put (some d) v) w → Q (.panic c) a w) (hy : YieldsIf P ops (fun _ => True) ⟨some d, op, ty, pos, aft, gd⟩ v a)
  (h : mH P md ops Q S late fuel (listed.setIfInBounds i true) (a.put (some d) v) w) : mH P md ops Q S late (fuel + 1) listed a w :=
 aLc hi (Region.noSelect_spec hs) hQ hl fuel listed a w (Region.free_spec hi hf) (by simpa using hr) hy h
theorem gP (i n : Nat) {d : Tmp} {op : Op} {ty : TypeId} {pos : String} {aft : Array Edge} {gd : Option (Nat × Bool)} {v : Value} {fuel : Nat} {listed : Array Bool} {a : Act} {w : World} (hi : ops[i]? = some ⟨some d, op, ty, pos, aft, gd⟩)
  (hs : Region.noSelect ops = true) (hf : Region.free md ops listed i = true) (hr : (Region.ready md ops listed).contains i = true) (hw : late.all (fun l => aFq md ops n l i) = true) (hcl : aUp md ops listed = true)
  (hQ : ∀ c a w, Q (.panic c) (a.put (some d) v) w → Q (.panic c) a w) (hy : YieldsIf P ops S ⟨some d, op, ty, pos, aft, gd⟩ v a) (hS : S w)
  (h : mH P md ops Q S late fuel (listed.setIfInBounds i true) (a.put (some d) v) w) : mH P md ops Q S late (fuel + 1) listed a w :=
 aLb hi (Region.noSelect_spec hs) hQ hw fuel listed a w (aWo hcl) (Region.free_spec hi hf) (by simpa using hr) hy hS h
theorem lO (i : Nat) {d : Option Tmp} {op : Op} {ty : TypeId} {pos : String} {aft : Array Edge} {gd : Option (Nat × Bool)} {fuel : Nat} {listed : Array Bool} {a : Act} {w : World} (ho : ops[i]? = some ⟨d, op, ty, pos, aft, gd⟩) (hr : Region.ready md ops listed = [i])
  (h : ∀ K : Act → World → Prop, Hid (∀ a' w', (late.contains i = false → S w') → mH P md ops Q S late fuel (listed.setIfInBounds i true) a' w' → K a' w') → if Region.wanted ⟨d, op, ty, pos, aft, gd⟩ (yielded ops a.tmps) = true then Oper.wp P ⟨d, op, ty, pos, aft, gd⟩ a w K Q else K (a.put d undef) w) : mH P md ops Q S late (fuel + 1) listed a w := by
 refine ⟨fun h0 => (by rw [hr] at h0; cases h0), fun j hj => ?_⟩;rw [hr] at hj;obtain rfl : j = i := (by simpa using hj);exact wpOp_step ho (fun K hK => h K (lhid (fun a' w' h1 h2 => hK a' w' ⟨h1, h2⟩)))
theorem aPx {listed : Array Bool} {a : Act} {w : World} (hr : Region.ready md ops listed = []) (h : Q .normal a w) : ∀ fuel, mH P md ops Q S late fuel listed a w
 | 0 => ⟨hr, h⟩
 | _ + 1 => ⟨fun _ => h, by rw [hr]; simp⟩
theorem wp_region_late (S : World → Prop) (late : List Nat) {id : Nat} {a : Act} {w : World} (hm : P.follows .mixedOrders = true)
  (h : mH P .any ops Q S late ops.size (Array.replicate ops.size false) a w.drew) : (Code.region id ops true).wp P Q a w :=
 wp_region_any hm (vR _ _ _ _ h)
end
end
section
open Go.RowKit
def Blk (w : World) (B : Nat) (t : TypeId) (cs : List Value) : Prop := w.heap[B]? = some (.cells cs.toArray t (0, 0))
theorem Blk.lt {w : World} {B : Nat} {t : TypeId} {cs : List Value} (h : Blk w B t cs) : B < w.heap.size := (Array.getElem?_eq_some_iff.1 h).1
theorem Blk.cell {w : World} {B : Nat} {t : TypeId} {cs : List Value} (h : Blk w B t cs) (i : Nat) {v : Value} (hi : cs[i]? = some v) : w.cell? ⟨B, i, none⟩ = some v := by
 rw [cell_of_row w B i cs.toArray t (0, 0) h];simpa using hi
theorem Blk.frozen {w : World} {B : Nat} {t : TypeId} {cs : List Value} (h : Blk w B t cs) (i : Nat) : w.frozen? ⟨B, i, none⟩ = false := by
 have h' : w.heap[B]? = some (.cells cs.toArray t (0, 0)) := h;simp [World.frozen?, h']
theorem Blk.new (w : World) (t : TypeId) (cs : List Value) : Blk (w.alloc (.cells cs.toArray t)) w.heap.size t cs := heap_alloc_new w _
theorem Blk.kept {w w' : World} {row : Option Nat} {B : Nat} {t : TypeId} {cs : List Value} (h : Blk w B t cs) (hg : w.grownBy w' row) (hne : some B ≠ row) : Blk w' B t cs := (hg.block B h.lt hne).trans h
theorem Blk.alloc {w : World} {B : Nat} {t : TypeId} {cs : List Value} (h : Blk w B t cs) (o : Obj) : Blk (w.alloc o) B t cs := h.kept (World.grownBy_alloc w o none) (by simp)
theorem Blk.drew {w : World} {B : Nat} {t : TypeId} {cs : List Value} (h : Blk w B t cs) : Blk w.drew B t cs := h
theorem Blk.drewN {w : World} {B : Nat} {t : TypeId} {cs : List Value} (h : Blk w B t cs) (n : Nat) : Blk (w.drewN n) B t cs := h
theorem Blk.below {w w' : World} {B n : Nat} {t : TypeId} {cs : List Value} (h : Blk w B t cs) (hb : Below n w w') (hn : B < n) : Blk w' B t cs := (hb.block B hn).trans h
theorem Blk.later {w w' : World} {B : Nat} {t : TypeId} {cs : List Value} (h : Blk w B t cs) (hb : Below w.heap.size w w') : Blk w' B t cs := h.below hb h.lt
theorem Blk.far {w : World} {B : Nat} {t : TypeId} {cs : List Value} (h : Blk w B t cs) {a : Addr} (hne : B ≠ a.block) (v : Value) : Blk (w.setCell a v) B t cs := (Below.heap_setCell w a v B hne).trans h
theorem Blk.set {w : World} {B : Nat} {t : TypeId} {cs : List Value} (h : Blk w B t cs) (i : Nat) (v : Value) : Blk (w.setCell ⟨B, i, none⟩ v) B t (cs.set i v) := by
 have h' : w.heap[B]? = some (.cells cs.toArray t (0, 0)) := h;simp [Blk, World.setCell, Array.getElem?_modify, h']
theorem dP {w : World} {base size n : Nat} {e : TypeId} {v : Value} {xs : List Value} (h : w.ownsRow base e size v n xs) {a : Addr} (ha : a.block < base) (u : Value) : (w.setCell a u).ownsRow base e size v n xs := by
 obtain ⟨h1, h2⟩ := h;refine ⟨h1, ?_⟩;rcases h2 with h2 | ⟨g, cap, cur, e1, hb, hw, r⟩
 ·exact .inl h2
 ·exact .inr ⟨g, cap, cur, e1, hb, (Below.heap_setCell w a u g (by omega)).trans hw, r⟩
theorem aZm {w w' : World} {base size n m : Nat} {e : TypeId} {v : Value} {xs : List Value} (h : w.ownsRow base e size v n xs) (hb : Below m w w') (hm : ∀ k, v.ownBlock = some k → k < m) : w'.ownsRow base e size v n xs := by
 obtain ⟨h1, h2⟩ := h;refine ⟨h1, ?_⟩;rcases h2 with h2 | ⟨g, cap, cur, e1, hg, hw, r⟩
 ·exact .inl h2
 ·exact .inr ⟨g, cap, cur, e1, hg, (hb.block g (hm g (by subst e1; rfl))).trans hw, r⟩
theorem aS {w w' : World} {base size n : Nat} {e : TypeId} {v : Value} {xs : List Value} (h : w.ownsRow base e size v n xs) (hb : Below w.heap.size w w') : w'.ownsRow base e size v n xs := aZm h hb (fun k hk => (h.lt k hk).2)
theorem dG {w w' : World} {base base' size size' n n' : Nat} {e e' : TypeId} {v v' : Value} {xs xs' : List Value} (h : w.ownsRow base e size v n xs) (h' : w.ownsRow base' e' size' v' n' xs') (hne : e ≠ e') (hg : w.grownBy w' v'.ownBlock) : w'.ownsRow base e size v n xs := by
 refine h.kept hg ?_;rcases h.2 with ⟨rfl, -⟩ | ⟨g, cap, cur, rfl, -, hw, -⟩
 ·exact .inl rfl
 ·refine .inr fun he => ?_;rcases h'.2 with ⟨rfl, -⟩ | ⟨g', cap', cur', rfl, -, hw', -⟩
  ·cases he
  ·have e1 : g = g' := (by simpa [Value.ownBlock] using he);subst e1;rw [hw] at hw';injection hw' with hw';injection hw' with _ hw';exact hne hw'
theorem Blk.grown {w w' : World} {B base size n : Nat} {t e : TypeId} {cs : List Value} {v : Value} {xs : List Value} (h : Blk w B t cs) (ho : w.ownsRow base e size v n xs) (hB : B < base) (hg : w.grownBy w' v.ownBlock) : Blk w' B t cs :=
 h.kept hg (fun he => by have := (ho.lt B he.symm).1; omega)
theorem aWd {w w' : World} {a : World} {B base size n : Nat} {e : TypeId} {v : Value} {xs : List Value} (hb : Below B a w) (hB : B ≤ base) (hs : B ≤ w.heap.size) (ho : w.ownsRow base e size v n xs) (hg : w.grownBy w' v.ownBlock) : Below B a w' :=
 hb.grown hg hs (fun k hk => Nat.le_trans hB (ho.lt k hk).1)
theorem kP {w w' : World} {a : World} {B base size n : Nat} {e : TypeId} {v : Value} {xs : List Value} (hb : Below B a w) (hB : B ≤ base) (hs : B ≤ a.heap.size) (ho : w.ownsRow base e size v n xs) (hg : w.grownBy w' v.ownBlock) : Below B a w' :=
 aWd hb hB (Nat.le_trans hs hb.size) ho hg
theorem lV {w : World} {base size k : Nat} {e : TypeId} {v : Value} {xs : List Value} (h : w.ownsRow base e size v (k + 1) xs) : ∃ g cap, v = .slice (some ⟨g, 0, none⟩) (k + 1) cap := by
 rcases h.2 with ⟨-, h2⟩ | ⟨g, cap, cur, rfl, -⟩
 ·cases h2
 ·exact ⟨g, cap, rfl⟩
theorem aD {w : World} {base size n B : Nat} {e t : TypeId} {v : Value} {xs cs : List Value} (h : w.ownsRow base e size v n xs) (hB : Blk w B t cs) (hne : e ≠ t) (i : Nat) (u : Value) : (w.setCell ⟨B, i, none⟩ u).ownsRow base e size v n xs := by
 obtain ⟨h1, h2⟩ := h;refine ⟨h1, ?_⟩;rcases h2 with h2 | ⟨g, cap, cur, e1, hg, hw, r⟩
 ·exact .inl h2
 ·refine .inr ⟨g, cap, cur, e1, hg, (Below.heap_setCell w _ u g fun he => ?_).trans hw, r⟩;have he' : g = B := he;subst he';have hB' : w.heap[g]? = some (.cells cs.toArray t (0, 0)) := hB;rw [hw] at hB';injection hB' with hB';injection hB' with _ hB';exact hne hB'
theorem dB (w : World) (cs : List Value) (e : TypeId) (n : Nat) (hn : n = w.heap.size) : ∀ (j : Nat) (u : Value), cs[j]? = some u → (w.alloc (.cells cs.toArray e)).cell? ((⟨n, 0, none⟩ : Addr).add j) = some u := by
 intro j u hj;subst hn;rw [Addr.add_lit, Nat.zero_add];exact (Blk.new w e cs).cell j hj
theorem sM {w w' : World} {b1 N s1 s2 n1 n2 : Nat} {e1 e2 : TypeId} {v1 v2 : Value} {xs1 xs2 : List Value} (h : w.ownsRow b1 e1 s1 v1 n1 xs1) (hN : ∀ k, v1.ownBlock = some k → k < N) (h2 : w.ownsRow N e2 s2 v2 n2 xs2) (hg : w.grownBy w' v2.ownBlock) : w'.ownsRow b1 e1 s1 v1 n1 xs1 := by
 refine h.kept hg ?_
 cases hb : v1.ownBlock with
 | none => exact .inl rfl
 | some k =>
  refine .inr fun he => ?_;have := (h2.lt k he.symm).1;have := hN k hb;omega
theorem aF {w : World} {base size n : Nat} {e : TypeId} {v : Value} {xs : List Value} (h : w.ownsRow base e size v n xs) : ∃ p cap, v = .slice p n cap := by
 rcases h.2 with ⟨rfl, rfl⟩ | ⟨g, cap, cur, rfl, -⟩
 ·exact ⟨_, _, rfl⟩
 ·exact ⟨_, _, rfl⟩
theorem cQ {w : World} {base base' size n : Nat} {e : TypeId} {v : Value} {xs : List Value} (h : w.ownsRow base e size v n xs) (hb : base' ≤ base) : w.ownsRow base' e size v n xs := by
 obtain ⟨h1, h2⟩ := h;refine ⟨h1, ?_⟩;rcases h2 with h2 | ⟨g, cap, cur, e1, hg, r⟩
 ·exact .inl h2
 ·exact .inr ⟨g, cap, cur, e1, Nat.le_trans hb hg, r⟩
end
section
open Go.RowKit Go.Lib
theorem aMl (L : List (List UInt8)) (k : Nat) (h : k < L.length) : L.getD k [] ∈ L := by
 have : L.getD k [] = L[k] := (by simp [h]);rw [this];exact List.getElem_mem h
theorem aY {P : Program} {w : World} {ops : Array Oper} {o : Oper} {a : Act} {K : Act → World → Prop} {Q : Exit → Act → World → Prop} {E : Prop} (hgd : o.guard = none) (s x : Operand) (t : TypeId)
  (ho : o.op = .call { callee := .builtin .append, args := #[s, x], argTypes := #[t, t] })
  (base : Nat) (e : TypeId) (i : TypeInfo) (z : Value) (size bytes : Nat) (ht : P.underlying t = some (.slice e)) (hi : P.info? e = some i) (hz : i.zero = some z)
  (hsize : i.size = size) (hby : i.bytes = bytes) (hzs : z.cells.size = size) (hsz : 0 < size)
  (v : Value) (n : Nat) (xs : List Value) (hs : a.eval s = v) (hown : w.ownsRow base e size v n xs)
  (ad : Addr) (m c : Nat) (news : List Value) (hx : a.eval x = .slice (some ad) m c) (hl : news.length = m * size) (hnews : ∀ j u, news[j]? = some u → w.cell? (ad.add j) = some u) (h1 : ∀ u ∈ news, u.oneCell' = true)
  (h63 : n + m ≤ maxLen) (hbytes : (n + m) * bytes ≤ 140737488355328) (hbase : base ≤ w.heap.size)
  (h : ∀ v' w', w'.ownsRow base e size v' (n + m) (xs ++ news) → w.grownBy w' v.ownBlock → (v' = .slice none 0 0 ↔ v = .slice none 0 0 ∧ m = 0) → K (a.put o.dst v') w') :
  if Region.wanted o (yielded ops a.tmps) = true then Oper.wp P o a w K Q else E := by
 have hw : Region.wanted o (yielded ops a.tmps) = true := (by simp [Region.wanted, hgd]);rw [if_pos hw];exact wp_append_own w s x t ho base e i z size bytes ht hi hz hsize hby hzs hsz v n xs hs hown ad m c news hx hl hnews h1 h63 hbytes hbase h
theorem qM (w : World) (x : ByteArray) (e : TypeId) : ∀ (j : Nat) (u : Value), ([.string x] : List Value)[j]? = some u → (w.alloc (.cells #[.string x] e)).cell? ((⟨w.heap.size, 0, none⟩ : Addr).add j) = some u := by
 intro j u hj
 match j, hj with
 | 0, hj => simp at hj; subst hj; simp [Addr.add]
theorem xI (x : ByteArray) : ∀ u ∈ ([.string x] : List Value), u.oneCell' = true := by
 intro u hu;simp at hu;subst hu;rfl
end
end Go.Proofs.YtdfegfagedeilaaGreatDoor
